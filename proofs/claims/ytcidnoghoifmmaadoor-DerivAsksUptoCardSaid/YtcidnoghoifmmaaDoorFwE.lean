/-
  The abstract walk: what each operation of the program's does is what its plain operation says (first part).
-/
import Derived.Test.YtcidnoghoifmmaaDoorFwD
import Derived.Laws.Strings
import Derived.Laws.StructEq
namespace Go.Proofs.YtcidnoghoifmmaaDoor.AW
open Go

def er (G:Gh) (tm:Fr) (a:Act):Prop:= ∀t,aU G (tm t) (a.tmps.getD t undef)

theorem er.mono {G G':Gh} {tm:Fr} {a:Act} (hg:cj G G') (h:er G tm a):er G' tm a:=fun t=>(h t).mono hg
def bN (P:Program) (E:bA) (s:Sem Value) (w:World) (G:Gh) (v:AV) (st':aA):Prop:=
 ∃u w' G',s.run P w= .ok u w'∧aU G' v u∧aG E G' st' w'∧Ext G w G' w'

theorem bN.same {P:Program} {E:bA} {s:Sem Value} {w:World} {G:Gh} {v:AV} {st:aA} {u:Value} (hs:aG E G st w)
 (h:s.run P w= .ok u w) (hr:aU G v u):bN P E s w G v st:=⟨u,w,G,h,hr,hs,Ext.refl G w⟩
theorem mD {G:Gh} (b:Bool):aU G (.bool b) (.bool b):=by simp only [aU]
theorem gO {G:Gh} (k:IntKind) (n:Int):aU G (.int k n) (.int k n):=by simp only [aU]
theorem tA {G:Gh} {v:Value} {x:AV} (h:sy v=some x):aU G x v:=by
 unfold sy at h
 split at h<;>first | (cases h;done) | (cases h;simp [aU])
theorem vA {G:Gh}: ∀ {cs:List Value} {xs:List AV},cs.mapM sy=some xs→aW G xs cs
  | [],xs,h=>by simp at h;subst h;simp [aW]
  | c::cs,xs,h=>by
    simp only [List.mapM_cons,Option.bind_eq_bind,Option.bind_eq_some_iff,Option.pure_def,Option.some.injEq] at h
    obtain ⟨x,hx,ys,hys,rfl⟩:=h
    simp only [aW]
    exact ⟨c,cs,rfl,tA hx,vA hys⟩
theorem ld {G:Gh} {v:Value} {x:AV} (h:ofConst v=some x):aU G x v:=by
 unfold ofConst at h
 split at h
 ·rename_i cs
  simp only [Option.map_eq_some_iff] at h
  obtain ⟨xs,hxs,rfl⟩:=h
  simp only [aU]
  exact ⟨cs.toList,vA hxs,by simp⟩
 exact tA h
theorem bV {G:Gh} {tm:Fr} {a:Act} {x:Operand} {y:AX} (hf:er G tm a) (h:cX x=some y):aU G (tm.x y) (a.eval x):=by
 unfold cX at h
 split at h
 ·cases h;exact hf _
 ·rename_i v
  simp only [Option.map_eq_some_iff] at h
  obtain ⟨z,hz,rfl⟩:=h
  exact ld hz
 ·cases h;simp [Fr.x,aU,Act.eval]
 cases h;simp [Fr.x,aU,aW,Act.eval]
theorem iZ {G:Gh} {tm:Fr} {a:Act} (hf:er G tm a): ∀ {xs:List Operand} {ys:List AX},xs.mapM cX=some ys→aW G (ys.map tm.x) (xs.map a.eval)
  | [],ys,h=>by simp at h;subst h;simp [aW]
  | x::xs,ys,h=>by
    simp only [List.mapM_cons,Option.bind_eq_bind,Option.bind_eq_some_iff,Option.pure_def,Option.some.injEq] at h
    obtain ⟨y,hy,zs,hzs,rfl⟩:=h
    simp only [List.map_cons,aW]
    exact ⟨_,_,rfl,bV hf hy,iZ hf hzs⟩
section
variable {P:Program} {E:bA} {G:Gh} {st:aA} {w:World}

theorem run_typeInfo {t:TypeId} {i:TypeInfo} (h:P.info? t=some i) (w:World):(typeInfo t).run P w= .ok i w:=by
 simp [typeInfo,h]
theorem run_sizeOf {t:TypeId} {n:Nat} (h:cx P t=some n) (w:World):(sizeOf t).run P w= .ok n w:=by
 unfold cx at h
 simp only [Option.map_eq_some_iff] at h
 obtain ⟨i,hi,rfl⟩:=h
 simp [sizeOf,run_typeInfo hi]
theorem iN {t:TypeId} {b:Bool} (h:dU P t=some b) (w:World):(isAgg t).run P w= .ok b w:=by
 unfold dU at h
 split at h<;>first | (cases h;done) | skip
 all_goals
  rename_i hd
  simp only [isAgg,Sem.run_bind,run_underlying hd,Result.andThen_ok]
  cases h
  first
   | rfl
   | (rename_i d _ _;cases d<;>first | rfl | simp_all)
theorem ez {t:TypeId} {zs:List AV} (h:zeroOf P t=some zs): ∃i z,P.info? t=some i∧i.zero=some z∧z.cells.size=i.size∧(∀G,aW G zs z.cells.toList)∧(∀w,(zeroValue t).run P w= .ok z w):=by
 unfold zeroOf at h
 split at h
 ·rename_i i hi
  split at h
  ·rename_i z hz
   split at h
   ·rename_i v hv
    split at h
    ·rename_i hl
     cases h
     have hrep: ∀G,aW G v.cells z.cells.toList:=fun G=>gh (ld (G:=G) hv)
     refine ⟨i,z,hi,hz,?_,hrep,fun w=>by simp [zeroValue,run_typeInfo hi,hz]⟩
     have:=aj (hrep ⟨[],fun _ _=>none,fun _=>none⟩)
     simp at this
     omega
    cases h
   cases h
  cases h
 cases h
theorem gp {n:Nat} {v:AV} {cs:List AV} {u:Value} (hs:aG E G st w) (hr:aU G v u) (h:cq E st n v=some cs):
  ∃b o us,u= .pointer (some ⟨b,o,none⟩)∧aW G cs us∧us.length=n∧ ∀j x,us[j]? =some x→w.cell? ⟨b,o+j,none⟩=some x:=by
 unfold cq at h
 split at h
 ·rename_i id off
  split at h
  ·rename_i cs' hc
   split at h
   ·rename_i hl
    cases h
    have hidl:id<G.slots.length:=by rw [hs.len];exact aD hc
    have ho:=hs.obj id _ G.slots[id] hc (by simp [hidl])
    simp only [aU,List.getElem?_eq_getElem hidl] at hr
    generalize G.slots[id]=s at ho hr
    cases s<;>simp only [bl] at ho hr
    rename_i b
    obtain ⟨⟨arr,e,fz,h1,h2,h3,h4⟩,_⟩:=ho
    have hr':=dO n (dN off h3)
    refine ⟨b,off,_,hr,hr',?_,fun j x hx=>?_⟩
    ·simp;omega
    have hj:=aD hx
    simp at hj
    rw [List.getElem?_take_of_lt (by omega),List.getElem?_drop,List.getElem?_take_of_lt (by omega)] at hx
    simp [World.cell?,h1]
    simpa using hx
   cases h
  cases h
 ·rename_i cs'
  split at h
  ·rename_i hl
   cases h
   simp only [aU] at hr
   obtain ⟨b,o,us,hr,hm,hu⟩:=hr
   refine ⟨b,o,us.take n,hu,dO n hr,by simp [aj hr];omega,fun j x hx=>?_⟩
   have hj:=aD hx
   simp at hj
   rw [List.getElem?_take_of_lt (by omega)] at hx
   exact hs.mem _ _ _ (hm j x hx)
  cases h
 ·rename_i g off
  split at h
  ·rename_i cs' hc
   split at h
   ·cases h
    simp only [aU] at hr
    obtain ⟨us,hrl0,hm,_⟩:=hs.gG g cs' hc
    have hrl:=aW.mono (cj.bare G) hrl0
    refine ⟨g,off,(us.drop off).take n,hr,dO n (dN off hrl),by simp [aj hrl];omega,fun j x hx=>?_⟩
    have hj:=aD hx
    simp at hj
    rw [List.getElem?_take_of_lt (by omega),List.getElem?_drop] at hx
    exact hs.mem _ _ _ (hm _ x hx)
   cases h
  cases h
 cases h
theorem zD {t:TypeId} {zs:List AV} (hs:aG E G st w) (hz:zeroOf P t=some zs):
  bN P E (Instr.alloc t true (.tuple #[])) w G (.ptr st.length 0) (st++[.cells zs]):=by
 obtain ⟨i,z,hi,hz1,hz2,hz3,hz4⟩:=ez hz
 obtain ⟨h1,h2,h3⟩:=iB hs (hz3 G) t [] (0,0) (.inl rfl)
 simp only [List.append_nil] at h1 h2
 refine ⟨.pointer (some ⟨w.heap.size,0,none⟩),_,_,?_,?_,h1,h2⟩
 ·simp [Instr.alloc,hz4,newVar,newRow]
 simp only [aU,h3]
theorem zM {G:Gh} {id b T n:Nat} (hb:G.slots[id]? =some (.box b)) (hsh:G.sh b=some (T,n)): ∀ {cs:List AV} {us:List Value},aW G cs us→aW G (cs.map (Jp id T n)) us
  | [],us,h=>by simpa only [List.map_nil] using h
  | c::cs,us,h=>by
    simp only [aW,List.map_cons] at h ⊢
    obtain ⟨u,us',e,hr,h⟩:=h
    refine ⟨u,us',e,?_,zM hb hsh h⟩
    cases c<;>simp only [Jp]<;>first
      | exact hr
      | (simp only [aU] at hr ⊢;exact ⟨hr,by rw [hb];exact hsh⟩)
theorem xC {t:TypeId} {zs:List AV} (hs:aG E G st w) (hz:zeroOf P t=some zs):
  bN P E (Instr.alloc t true (.tuple #[])) w G (.ptr st.length 0) (st++[.cells (zs.map (Jp st.length t zs.length))]):=by
 obtain ⟨i,z,hi,hz1,hz2,hz3,hz4⟩:=ez hz
 obtain ⟨h1,h2,h3⟩:=iB hs (hz3 G) t [] (0,0) (.inl rfl)
 simp only [List.append_nil] at h1 h2
 have hl:=aj (hz3 G)
 simp only [Array.length_toList] at hl
 obtain ⟨G',g1,g2,g3,g4,g5,g6⟩:=ir h1 (b:=w.heap.size) (arr:=z.cells.toList.toArray) (e:=t) (fz:=(0,0)) Array.getElem?_push_size
 have hslot:G'.slots[st.length]? =some (.box w.heap.size):=by rw [g4];exact h3
 have hshape:G'.sh w.heap.size=some (t,zs.length):=by rw [g6];simp [hl]
 refine ⟨.pointer (some ⟨w.heap.size,0,none⟩),_,G',?_,?_,⟨by rw [g4];have:=h1.len;simpa using this,fun j o s ho hsl=>?_,g2.apart,g2.mem,g2.one,g2.jU,g2.gG⟩,h2.trans g3⟩
 ·simp [Instr.alloc,hz4,newVar,newRow]
 ·simp only [aU,hslot]
 by_cases hj:j=st.length
 ·subst hj
  have ho':o= .cells (zs.map (Jp st.length t zs.length)):=by simpa using ho.symm
  have hs':s= .box w.heap.size:=by rw [hslot] at hsl;cases hsl;rfl
  subst ho';subst hs'
  have:=g2.obj st.length (.cells zs) (.box w.heap.size) (by simp) hsl
  simp only [bl] at this ⊢
  obtain ⟨⟨arr,e,fz,k1,k2,k3,k4⟩,k5⟩:=this
  exact ⟨⟨arr,e,fz,k1,by simpa using k2,by rw [List.length_map];exact zM hslot hshape k3,k4⟩,k5⟩
 refine g2.obj j o s ?_ hsl
 have hjl:j<st.length+1:=by have:=aD ho;simpa using this
 rw [List.getElem?_append_left (by omega)] at ho ⊢
 exact ho
theorem Dy {t:TypeId} {v:AV} {u:Value} (hs:aG E G st w) (hr:aU G v u):
  bN P E (Instr.box t u) w G (.ptr st.length 0) (st++[.cells v.cells]):=by
 obtain ⟨h1,h2,h3⟩:=iB hs (gh hr) t [] (0,0) (.inl rfl)
 simp only [List.append_nil] at h1 h2
 refine ⟨.pointer (some ⟨w.heap.size,0,none⟩),_,_,?_,?_,h1,h2⟩
 ·simp [Instr.box,newVar,newRow]
 simp only [aU,h3]
theorem JX {id:Nat} {o':cz} {s:Slot} (h:aG E G st w) (hsl:G.slots[id]? =some s) (ho:bl G w o' s):aG E G (st.set id o') w:=by
 refine ⟨by simp [h.len],fun i o t hi ht=>?_,h.apart,h.mem,h.one,h.jU,h.gG⟩
 by_cases e:id=i
 ·subst e
  have hl:id<st.length:=by rw [←h.len];exact aD hsl
  rw [List.getElem?_set_self hl] at hi
  rw [hsl] at ht
  cases hi;cases ht;exact ho
 rw [List.getElem?_set_ne e] at hi
 exact h.obj i o t hi ht
theorem ud (h:aG E G st w) {us:List Value} (h1: ∀u∈us,u.oneCell'=true) (t:TypeId):
  aG E {slots:=G.slots,M:=fun b o=>if b=w.heap.size then us[o]? else G.M b o,sh:=G.sh} st (w.alloc (.cells us.toArray t (0,0)))∧
   Ext G w {slots:=G.slots,M:=fun b o=>if b=w.heap.size then us[o]? else G.M b o,sh:=G.sh} (w.alloc (.cells us.toArray t (0,0))):=by
 have hheap: ∀b,b<w.heap.size→(w.alloc (.cells us.toArray t (0,0))).heap[b]? =w.heap[b]? :=fun b hb=>Go.RowKit.Below.heap_alloc w _ b hb
 have hne: ∀ {b o u},G.M b o=some u→b≠w.heap.size:=fun hu e=>by have:=h.cV hu;omega
 have hg:cj G {slots:=G.slots,M:=fun b o=>if b=w.heap.size then us[o]? else G.M b o,sh:=G.sh}:=
  ⟨fun _ _ h=>h,fun b o u hu=>by show (if b=w.heap.size then us[o]? else G.M b o)=some u;rw [if_neg (hne hu)];exact hu,Nat.le_refl _,fun _ _ h=>.inl h,fun _ _ h=>.inl h,fun _ h=>h,fun _ b lo hi n h=>.inr ⟨b,lo,hi,n,h,Nat.le_refl _,fun _=>⟨rfl,rfl,rfl⟩⟩⟩
 refine ⟨⟨h.len,fun i o s ho hs=>?_,h.apart,fun b o u hu=>?_,fun b o u hu=>?_,fun b e n hx=>?_,h.gG.mono hg⟩,⟨hg,rfl,rfl,rfl,by simp,fun b hb _=>hheap b hb,fun b o u hu=>?_,fun s hs _ hb=>.inl ⟨s,hs,hb⟩⟩⟩
 ·have hr:=h.obj i o s ho hs
  refine hr.keep hg (fun b hb=>hheap b (hr.block hb)) fun b o u hb hu=>?_
  have hu:(if b=w.heap.size then us[o]? else G.M b o)=some u:=hu
  rwa [if_neg (by have:=hr.block hb;omega)] at hu
 ·have hu:(if b=w.heap.size then us[o]? else G.M b o)=some u:=hu
  by_cases e:b=w.heap.size
  ·subst e
   rw [if_pos rfl] at hu
   have hz:(w.alloc (.cells us.toArray t (0,0))).heap[w.heap.size]? =some (.cells us.toArray t (0,0)):=Array.getElem?_push_size
   simp only [World.cell?]
   rw [hz]
   simpa using hu
  rw [if_neg e] at hu
  exact (World.cell?_alloc_lt (w:=w) (a:=⟨b,o,none⟩) (o:=.cells us.toArray t (0,0)) (h.cV hu)).trans (h.mem b o u hu)
 ·have hu:(if b=w.heap.size then us[o]? else G.M b o)=some u:=hu
  by_cases e:b=w.heap.size
  ·rw [if_pos e] at hu;exact h1 u (List.mem_of_getElem? hu)
  rw [if_neg e] at hu;exact h.one b o u hu
 ·obtain ⟨arr,fz,k1,k2⟩:=h.jU b e n hx
  exact ⟨arr,fz,by rw [hheap b (h.RQ hx)];exact k1,k2⟩
 have hu:(if b=w.heap.size then us[o]? else G.M b o)=some u:=hu
 by_cases e:b=w.heap.size
 ·exact .inr (.inr (by omega))
 rw [if_neg e] at hu;exact .inl hu
theorem BT {t:TypeId} {v:AV} {u:Value} (hs:aG E G st w) (hr:aU G v u) (h1:v.cells.all AV.one=true):
  bN P E (Instr.box t u) w G (.aQ v.cells) st:=by
 have hc:=gh hr
 obtain ⟨k1,k2⟩:=ud hs (ij hc h1) t
 refine ⟨.pointer (some ⟨w.heap.size,0,none⟩),_,_,?_,?_,k1,k2⟩
 ·simp [Instr.box,newVar,newRow]
 simp only [aU]
 exact ⟨w.heap.size,0,u.cells.toList,aW.mono k2.g hc,fun j x hx=>by simpa using hx,rfl⟩
theorem zG {t:TypeId} {v:AV} {u:Value} {cs:List AV} (hs:aG E G st w) (hr:aU G v u) (ha:dU P t=some false) (h:cq E st 1 v=some cs):
    bN P E (Instr.loadAt t u) w G (cs.headD (.bt [])) st:=by
  obtain ⟨b,o,us,rfl,hrl,hl,hc⟩:=gp hs hr h
  match us,hl with
  | [x],_=>
    match cs,aj hrl with
    | [c],_=>
      simp only [aW] at hrl
      obtain ⟨x',us',e,hx,_⟩:=hrl
      cases e
      refine bN.same hs (u:=x) ?_ hx
      have:=hc 0 x rfl
      simp only [Nat.add_zero] at this
      simp [Instr.loadAt,Instr.sureAddr,loadVar,iN ha,this]
theorem zH {t:TypeId} {n:Nat} {v:AV} {u:Value} {cs:List AV} (hs:aG E G st w) (hr:aU G v u) (ha:dU P t=some true) (hn:cx P t=some n) (h:cq E st n v=some cs):
  bN P E (Instr.loadAt t u) w G (.agg cs) st:=by
 obtain ⟨b,o,us,rfl,hrl,hl,hc⟩:=gp hs hr h
 have hrun:=dc (P:=P) hc
 rw [hl] at hrun
 refine bN.same hs (u:=.agg us.toArray) ?_ ?_
 ·simp [Instr.loadAt,Instr.sureAddr,loadVar,iN ha,run_sizeOf hn,hrun]
 simp only [aU];exact ⟨us,hrl,rfl⟩
theorem zK {t:TypeId} {n id off:Nat} {v x:AV} {u y:Value} {cs:List AV} (hs:aG E G st w) (hr:aU G v u) (hv:v= .ptr id off) (hx:aU G x y) (hn:cx P t=some n)
  (hc:st[id]? =some (.cells cs)) (hl:x.cells.length=n) (ho:off+n≤cs.length) (h1:x.cells.all AV.one=true):
  ∃w' G',(Instr.storeAt t u y).run P w= .ok () w'∧aG E G' (st.set id (.cells (cs.take off++x.cells++cs.drop (off+n)))) w'∧Ext G w G' w':=by
 subst hv
 have hidl:id<G.slots.length:=by rw [hs.len];exact aD hc
 have hob:=hs.obj id _ G.slots[id] hc (by simp [hidl])
 have hsl:G.slots[id]? =some G.slots[id]:=by simp [hidl]
 simp only [aU,hsl] at hr
 generalize hg:G.slots[id]=s at hob hr hsl
 cases s<;>simp only [bl] at hob hr
 rename_i b
 obtain ⟨⟨arr,e,fz,h2,h3,h4,h5⟩,h6⟩:=hob
 subst hr
 have hxc:=gh hx
 have hyl:y.cells.toList.length=n:=by rw [aj hxc,hl]
 have hyl':y.cells.size=n:=by simpa using hyl
 have hrun:=gP P b off e fz y.cells.toList 0 arr w h2 (fun j _ hj=>h5.un j (by rw [hyl] at hj;omega)) (by rw [hyl];omega) (ij hxc h1)
 simp only [Nat.add_zero,hyl] at hrun
 have hcl:(cs.take off++x.cells++cs.drop (off+n)).length=cs.length:=by simp [hl];omega
 obtain ⟨k1,k2⟩:=Cq hs (cs':=cs.take off++x.cells++cs.drop (off+n)) (arr':=(arr.toList.take off++y.cells.toList++arr.toList.drop (off+n)).toArray) hsl h2 h6
  (by simp [hyl'];omega)
  (by rw [hcl];simp [hyl'];omega)
  (by
   rw [hcl]
   have e1:(arr.toList.take off++y.cells.toList++arr.toList.drop (off+n)).toArray.toList.take cs.length=
     (arr.toList.take cs.length).take off++y.cells.toList++(arr.toList.take cs.length).drop (off+n):=by
    apply List.ext_getElem?
    intro i
    simp only [List.getElem?_take,List.getElem?_append,List.getElem?_drop,List.length_append,List.length_take,Array.length_toList,hyl']
    by_cases i1:i<off
    ·simp [i1];(repeat' split)<;>first | rfl | omega
    by_cases i2:i<off+n
    ·simp [i1,show ¬i<min off arr.size by omega];(repeat' split)<;>first | rfl | omega | (congr 1;omega)
    simp [i1];(repeat' split)<;>first | rfl | omega | (congr 1;omega)
   rw [e1]
   exact dX (dX (dO off h4) hxc) (dN _ h4))
  (by
   have:(arr.toList.take off++y.cells.toList++arr.toList.drop (off+n)).toArray.size=arr.size:=by simp [hyl'];omega
   rw [this];exact h5)
 refine ⟨_,_,?_,k1,k2⟩
 simp [Instr.storeAt,Instr.sureAddr,storeVar,run_sizeOf hn,hyl',hrun]
theorem uS {op:BinOp} {t:TypeId} {x y:Operand} {k k':IntKind} {a b:Int} {v:AV} (hs:aG E G st w) (h:iX op k a k' b=some v):
  bN P E (do eqGuard op t x y (.int k a) (.int k' b);binOp op t (.int k a) (.int k' b)) w G v st:=by
 have hg:eqGuard op t x y (.int k a) (.int k' b)=pure ():=eqGuard_at_int ..
 rw [hg]
 simp only [pure_bind]
 have main: ∃u,(binOp op t (.int k a) (.int k' b)).run P w= .ok u w∧aU G v u:=by
  cases op<;>simp only [iX] at h
  case shl | shr=>
   split at h
   ·cases h
   cases h
   simp only [binOp,Op.shift]
   rename_i hn
   simp only [hn,if_false,Sem.run_pure]
   exact ⟨_,rfl,by simp only [aU]⟩
  case quo | rem=>
   split at h
   ·rename_i hk;subst hk
    split at h
    ·cases h
    rename_i hb
    cases h
    simp only [binOp,ne_eq,not_true,if_false,Op.intDiv,hb,Sem.run_pure]
    exact ⟨_,rfl,by simp only [aU]⟩
   cases h
  all_goals
   split at h
   ·rename_i hk;subst hk
    cases h
    simp only [binOp,ne_eq,not_true,if_false,Op.intArith,Op.intBits,Op.intCmp,Sem.run_pure]
    exact ⟨_,rfl,by simp only [aU]⟩
   cases h
 obtain ⟨u,hu,hr⟩:=main
 exact bN.same hs hu hr
theorem uT {op:BinOp} {t:TypeId} {x y:Operand} {a b:ByteArray} {v:AV} (hs:aG E G st w) (h:qV op a.data.toList b.data.toList=some v):
  bN P E (do eqGuard op t x y (.string a) (.string b);binOp op t (.string a) (.string b)) w G v st:=by
 have hg:eqGuard op t x y (.string a) (.string b)=pure ():=eqGuard_at_string ..
 rw [hg]
 simp only [pure_bind]
 have ea:=ByteArray.toList_eq a
 have eb:=ByteArray.toList_eq b
 have main: ∃u,(binOp op t (.string a) (.string b)).run P w= .ok u w∧aU G v u:=by
  cases op<;>simp only [qV] at h<;>first | (cases h;done) | skip
  case add=>
   split at h
   ·rename_i hl
    cases h
    have hsz: ¬(((a.size+b.size:Nat):Int)>IntKind.i64.max):=by
     have e1:a.data.toList.length=a.size:=Array.length_toList
     have e2:b.data.toList.length=b.size:=Array.length_toList
     rw [IntKind.max_i64];omega
    simp only [binOp,Op.stringOp,hsz,if_false,Sem.run_pure]
    exact ⟨_,rfl,by simp only [aU];exact ⟨a++b,by simp,rfl⟩⟩
   cases h
  all_goals
   cases h
   simp only [binOp,Op.stringOp,ea,eb,Sem.run_pure]
   exact ⟨_,rfl,mD _⟩
 obtain ⟨u,hu,hr⟩:=main
 exact bN.same hs hu hr
theorem EC {neg:Bool} {t:TypeId} {x y:Operand} {a b:Bool} (hs:aG E G st w) (ht:P.underlying t=some .bool):
  bN P E (do eqGuard (if neg then .neq else .eql) t x y (.bool a) (.bool b);binOp (if neg then .neq else .eql) t (.bool a) (.bool b)) w G (.bool ((a==b) != neg)) st:=by
 rw [eqGuard_at_bool]
 cases neg
 ·have e:((a==b) != false)=(a==b):=by cases a<;>cases b<;>rfl
  rw [e]
  exact bN.same hs (u:=.bool (a==b)) (run_eql_bool w t a b ht) (mD _)
 have e:((a==b) != true)= !(a==b):=by cases a<;>cases b<;>rfl
 rw [e]
 exact bN.same hs (u:=.bool (!(a==b))) (run_neq_bool w t a b ht) (mD _)
end
end Go.Proofs.YtcidnoghoifmmaaDoor.AW
