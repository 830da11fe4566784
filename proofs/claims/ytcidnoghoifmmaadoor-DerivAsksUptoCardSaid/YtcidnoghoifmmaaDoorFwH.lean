/-
  The abstract walk: what each operation of the program's does is what its plain operation says (fourth part).
-/
import Derived.Test.YtcidnoghoifmmaaDoorFwG
namespace Go.Proofs.YtcidnoghoifmmaaDoor.AW
open Go

section
variable {P:Program} {E:bA} {G:Gh} {st:aA} {w:World}

theorem gZ {id:Nat} (hs:aG E G st w) (h:alive st id=true): ∃b,G.slots[id]? =some (Slot.box b):=by
 unfold alive at h
 split at h
 ·rename_i cs hc
  have hidl:id<G.slots.length:=by rw [hs.len];exact aD hc
  have hob:=hs.obj id _ G.slots[id] hc (by simp [hidl])
  have hsl:G.slots[id]? =some G.slots[id]:=by simp [hidl]
  generalize G.slots[id]=s at hob hsl
  cases s<;>simp only [bl] at hob
  exact ⟨_,hsl⟩
 ·rename_i hc
  have hidl:id<G.slots.length:=by rw [hs.len];exact aD hc
  have hob:=hs.obj id _ G.slots[id] hc (by simp [hidl])
  simp only [bl] at hob
 cases h
theorem wZ (l:List UInt8):aW G (l.map fW) (l.map fun b:UInt8=>Value.int .u8 b.toNat):=by
 induction l with
 | nil=>simp [aW]
 | cons b l ih=>simp only [List.map_cons,aW];exact ⟨_,_,rfl,by simp only [fW,aU],ih⟩
theorem EF {src dst e:TypeId} {s:ByteArray} {l:List UInt8} (mu:Bool) (hs:aG E G st w) (hl:s.data.toList=l)
    (h1:P.underlying src=some .string) (h2:P.underlying dst=some (.slice e)) (h3:P.underlying e=some (.int .u8)):
    bN P E (convert src dst (.string s)) w G (if mu then .row st.length 1 0 l.length else .sl 1 (l.map fW) (some st.length)) (st++[if mu then .cells (l.map fW) else .tail l.length]):=by
  have hrun:=Lib.run_convert_string_bytes (P:=P) w src dst e s h1 h2 h3
  have hsz:s.size=l.length:=by rw [←hl];exact Array.length_toList.symm
  have harr:(Lib.bytesCells w e s).toList=(l.map fun b:UInt8=>Value.int .u8 b.toNat)++List.replicate (grownCap w s.size 0 e-s.size) (.int .u8 0):=by
    simp [Lib.bytesCells,←hl]
  have hge:=grownCap_ge w s.size 0 e
  have hasz:(Lib.bytesCells w e s).size=grownCap w s.size 0 e:=by
    have:=congrArg List.length harr
    simp at this
    omega
  have hz:=Lib.bytesWorld_size w e s
  have hold: ∀b:Nat,b<w.heap.size→(Lib.bytesWorld w e s).heap[b]? =w.heap[b]? :=fun b hb=>Lib.bytesWorld_at_old w e s b hb
  have hnew:=Lib.bytesWorld_at_new w e s
  have hf:Jy ((Lib.bytesCells w e s).size,(Lib.bytesCells w e s).size+1) (Lib.bytesCells w e s).size:=.inr (Nat.le_refl _)
  have hos:(Lib.bytesWorld w e s).os=w.os:=by simp [Lib.bytesWorld,World.freeze,World.alloc,World.drew,-World.alloc_eq,-World.drew_eq]
  have htp:(Lib.bytesWorld w e s).tape=w.tape:=by simp [Lib.bytesWorld,World.freeze,World.alloc,World.drew,-World.alloc_eq,-World.drew_eq]
  have hou:(Lib.bytesWorld w e s).output=w.output:=by simp [Lib.bytesWorld,World.freeze,World.alloc,World.drew,-World.alloc_eq,-World.drew_eq]
  cases mu with
  | false=>
    obtain ⟨G',k1,k2,k3,k4⟩:=mV (n:=l.length) (k:=l.length) hs hz hold hnew hos htp hou (by omega) hf (fun j v hj hv=>by
      have:(Lib.bytesCells w e s).toList[j]? =some v:=by simpa using hv
      rw [harr,List.getElem?_append_left (by simpa using hj)] at this
      simp only [List.getElem?_map,Option.map_eq_some_iff] at this
      obtain ⟨b,_,rfl⟩:=this
      rfl)
    refine ⟨_,_,G',hrun,?_,k1,k2⟩
    simp only [Bool.false_eq_true,if_false,aU]
    refine ⟨w.heap.size,0,grownCap w s.size 0 e,?_,by simp;omega,?_,by simp [hsz]⟩
    · refine mw (es:=1) (arr:=l.map fun b:UInt8=>Value.int .u8 b.toNat) (fun j v hv=>?_) (l.map fW) (l.map fun b:UInt8=>Value.int .u8 b.toNat) 0 (by simp) fun i x u hx hu=>?_
      · have hj:=aD hv
        simp at hj
        refine k4 j v hj ?_
        have:(Lib.bytesCells w e s).toList[j]? =some v:=by rw [harr,List.getElem?_append_left (by simpa using hj)];exact hv
        simpa using this
      simp only [List.getElem?_map,Option.map_eq_some_iff] at hx hu
      obtain ⟨b,hb,rfl⟩:=hx
      obtain ⟨b',hb',rfl⟩:=hu
      rw [hb] at hb';cases hb'
      refine ⟨by simp only [fW,aU],rfl,fun j y hy=>?_⟩
      match j with
      | 0=>
        simp [Value.cells] at hy
        subst hy
        simp [hb]
      | j+1=>simp [Value.cells] at hy
    simp only [gB,k3,List.length_map]
    exact ⟨Nat.le_refl _,fun _=>⟨trivial,by omega,by omega,by simp⟩⟩
  | true=>
    -- a row of the call's own
    obtain ⟨q1,q2,q3⟩:=iB hs (wZ (G:=G) l) e (List.replicate (grownCap w s.size 0 e-s.size) (.int .u8 0)) ((Lib.bytesCells w e s).size,(Lib.bytesCells w e s).size+1)
      (by
        have:((l.map fun b:UInt8=>Value.int .u8 b.toNat)++List.replicate (grownCap w s.size 0 e-s.size) (Value.int .u8 0)).length=(Lib.bytesCells w e s).size:=by rw [←harr];simp
        rw [this];exact hf)
    have ha:((l.map fun b:UInt8=>Value.int .u8 b.toNat)++List.replicate (grownCap w s.size 0 e-s.size) (Value.int .u8 0)).toArray=Lib.bytesCells w e s:=by
      rw [←harr]
    rw [ha] at q1 q2
    have hblk: ∀b:Nat,(Lib.bytesWorld w e s).heap[b]? =(w.alloc (.cells (Lib.bytesCells w e s) e ((Lib.bytesCells w e s).size,(Lib.bytesCells w e s).size+1))).heap[b]? :=by
      intro b
      rcases Nat.lt_trichotomy b w.heap.size with hb | rfl | hb
      · rw [hold b hb,Go.RowKit.Below.heap_alloc w _ b hb]
      · rw [hnew];exact Array.getElem?_push_size.symm
      rw [Array.getElem?_eq_none (by omega),Array.getElem?_eq_none (by simp;omega)]
    have r1:aG E (G.push (.box w.heap.size) G.M) (st++[.cells (l.map fW)]) (Lib.bytesWorld w e s):=⟨q1.len,fun i o s' ho hs'=>(q1.obj i o s' ho hs').keep (cj.refl _) (fun b _=>hblk b) fun _ _ _ _ h=>h,q1.apart,fun b o u hu=>by
      rw [←q1.mem b o u hu]
      exact World.cell?_of_block (w:=w.alloc _) (w':=Lib.bytesWorld w e s) (a:=⟨b,o,none⟩) (hblk b),q1.one,fun b e' n hx=>by
      obtain ⟨arr2,fz2,z1,z2⟩:=q1.jU b e' n hx
      exact ⟨arr2,fz2,by rw [hblk b];exact z1,z2⟩,q1.gG⟩
    have r2:Ext G w (G.push (.box w.heap.size) G.M) (Lib.bytesWorld w e s):=⟨q2.g,hos,htp,hou,by omega,fun b hb _=>hold b hb,q2.uM,q2.sx⟩
    obtain ⟨G',g1,g2,g3,g4,g5,g6⟩:=ir r1 hnew
    refine ⟨_,_,G',hrun,?_,g2,r2.trans g3⟩
    simp only [if_true,aU,g4,q3]
    exact ⟨grownCap w s.size 0 e,_,_,by omega,g6,by simp;omega,by simp [hsz]⟩
theorem ug {v:AV} {u:Value} {y m:Nat} {o:Option AV} {d:Nat} (hr:aU G v u) (ho:o=some v) (h:bound o d=some m) (hm:m≤y) (code:BoundsCode) (w:World):
  (Instr.sliceBound u y code).run P w= .ok m w:=by
 subst ho
 unfold bound at h
 split at h
 ·rename_i he;cases he
 ·rename_i k i he
  cases he
  split at h
  ·rename_i hi
   cases h
   simp only [aU] at hr
   subst hr
   simp only [Instr.sliceBound,asIntOf,Sem.run_bind,Sem.run_pure,Result.andThen_ok]
   rw [if_pos ⟨hi,by omega⟩]
   rfl
  cases h
 cases h
theorem nE {tm:Fr} {a:Act} {lo hi:Option Operand} {l h:Option AX} {len cap x y:Nat} (hf:er G tm a) (hl:cOpt lo=some l) (hh:cOpt hi=some h)
    (hx:bound (l.map tm.x) 0=some x) (hy:bound (h.map tm.x) len=some y) (hxy:x≤y) (hyl:y≤len) (hlc:len≤cap) (isS:Bool) (w:World):
    (Instr.sliceBounds isS len cap (lo.map a.eval) (hi.map a.eval) none).run P w= .ok (x,y,cap) w:=by
  have hlo: ∀code w,(match lo.map a.eval with | some v=>Instr.sliceBound v y code | none=>pure 0).run P w= .ok x w:=by
    intro code w
    cases lo with
    | none=>
      simp [cOpt] at hl;subst hl
      simp [bound] at hx;subst hx
      rfl
    | some z=>
      simp [cOpt] at hl
      obtain ⟨z',hz',rfl⟩:=hl
      exact ug (bV hf hz') rfl hx hxy _ _
  cases hi with
  | none=>
    simp [cOpt] at hh;subst hh
    simp [bound] at hy;subst hy
    cases lo with
    | none=>
      simp [cOpt] at hl;subst hl
      simp [bound] at hx;subst hx
      simp [Instr.sliceBounds]
    | some z=>
      have:=fun code w=>hlo code w
      simp only [Option.map_some] at this
      simp [Instr.sliceBounds,this]
  | some z=>
    simp [cOpt] at hh
    obtain ⟨z',hz',rfl⟩:=hh
    have hb:=fun code w=>ug (P:=P) (w:=w) (bV hf hz') rfl hy (Nat.le_trans hyl hlc) code
    cases lo with
    | none=>
      simp [cOpt] at hl;subst hl
      simp [bound] at hx;subst hx
      simp [Instr.sliceBounds,hb]
    | some z=>
      have:=fun code w=>hlo code w
      simp only [Option.map_some] at this
      simp [Instr.sliceBounds,this,hb]
theorem EH {tm:Fr} {a:Act} {t:TypeId} {s:ByteArray} {l:List UInt8} {lo hi:Option Operand} {lx hx:Option AX} {x y:Nat} (hs:aG E G st w) (hf:er G tm a) (hsl:s.data.toList=l)
  (ht:P.underlying t=some .string) (hl:cOpt lo=some lx) (hh:cOpt hi=some hx) (h1:bound (lx.map tm.x) 0=some x) (h2:bound (hx.map tm.x) l.length=some y) (h3:x≤y) (h4:y≤l.length):
  bN P E (Instr.sliceAt t (.string s) (lo.map a.eval) (hi.map a.eval) none) w G (.str ((l.take y).drop x)) st:=by
 have hsz:s.size=l.length:=by rw [←hsl];exact Array.length_toList.symm
 have hb:=nE (P:=P) (cap:=s.size) hf hl hh h1 (by exact h2) h3 h4 (by omega) false w
 rw [←hsz] at hb
 refine bN.same hs (u:=.string (s.extract x y)) ?_ (rN _ ?_)
 ·simp only [Instr.sliceAt,Instr.slice,Sem.run_bind,run_underlying ht,Result.andThen_ok,Option.isSome_none,Bool.false_eq_true,if_false,hb,Sem.run_pure]
 have:(s.extract x y).data=s.data.extract x y:=by
  simp
 rw [this,Array.toList_extract,hsl]
 simp [List.extract_eq_take_drop,List.drop_take]
theorem tX {es b:Nat}: ∀ {xs:List AV} {o:Nat},dI G es b o xs→ ∀n,dI G es b (o+n*es) (xs.drop n)
  | [],o,_,n=>by simp [dI]
  | x::xs,o,h,0=>by simpa using h
  | x::xs,o,h,n+1=>by
    simp only [dI] at h
    have:=tX h.2 n
    rw [show o+(n+1)*es=o+es+n*es by rw [Nat.add_mul];omega]
    simpa using this
theorem vG {es b:Nat}: ∀ {xs:List AV} {o:Nat},dI G es b o xs→ ∀n,dI G es b o (xs.take n)
  | [],o,_,n=>by simp [dI]
  | x::xs,o,h,0=>by simp [dI]
  | x::xs,o,h,n+1=>by
    simp only [dI] at h
    simp only [List.take_succ_cons,dI]
    exact ⟨h.1,vG h.2 n⟩
theorem mX {tm:Fr} {a:Act} {t e:TypeId} {es:Nat} {v r:AV} {u:Value} {lo hi:Option Operand} {lx hx:Option AX} (hs:aG E G st w) (hf:er G tm a) (hr:aU G v u)
    (ht:P.underlying t=some (.slice e)) (hes:cx P e=some es) (hl:cOpt lo=some lx) (hh:cOpt hi=some hx)
    (h:(match (generalizing:=false) v with
      | .sl es' xs _=>match bound (lx.map tm.x) 0,bound (hx.map tm.x) xs.length with
        | some l,some h=>if es'=es∧l≤h∧h≤xs.length then some (AV.sl es ((xs.take h).drop l) none) else none
        | _,_=>none
      | .aP=>match bound (lx.map tm.x) 0,bound (hx.map tm.x) 0 with
        | some 0,some 0=>some .aP
        | _,_=>none
      | .row id es' off len=>match bound (lx.map tm.x) 0,bound (hx.map tm.x) len with
        | some l,some h=>if alive st id∧es'=es∧l<h∧h≤len then some (.row id es (off+l) (h-l)) else none
        | _,_=>none
      | _=>none)=some r):
    bN P E (Instr.sliceAt t u (lo.map a.eval) (hi.map a.eval) none) w G r st:=by
  have run: ∀ {p:Option Addr} {len cap x y:Nat},bound (lx.map tm.x) 0=some x→bound (hx.map tm.x) len=some y→x≤y→y≤len→len≤cap→
      (Instr.sliceAt t (.slice p len cap) (lo.map a.eval) (hi.map a.eval) none).run P w= .ok (.slice (if cap=x then p else p.map (·.add (x*es))) (y-x) (cap-x)) w:=by
    intro p len cap x y e1 e2 e3 e4 e5
    have hb:=nE (P:=P) hf hl hh e1 e2 e3 e4 e5 true w
    simp only [Instr.sliceAt,Instr.slice,Sem.run_bind,run_underlying ht,Result.andThen_ok,hb,run_sizeOf hes,Sem.run_pure]
  cases v<;>simp only [reduceCtorEq] at h
  case sl es' xs tok=>
    split at h
    · rename_i l hh' e1 e2
      split at h
      · rename_i hc
        obtain ⟨rfl,h1,h2⟩:=hc
        cases h
        simp only [aU] at hr
        obtain ⟨b,o,c,hrs,hlc,_,sp,hsp,rfl⟩:=hr
        refine bN.same hs (run e1 e2 h1 h2 hlc) ?_
        simp only [aU]
        by_cases hcl:c=l
        · have hlen:((xs.take hh').drop l)=[]:=by
            apply List.eq_nil_of_length_eq_zero
            simp;omega
          rw [hlen]
          refine ⟨b,o,c-l,by simp [dI],by simp,trivial,sp,?_,?_⟩
          · rcases hsp with h | h
            · exact .inl h
            exact .inr ⟨by omega,trivial⟩
          rw [if_pos hcl]
          simp;omega
        obtain rfl:sp=none:=by
          rcases hsp with h | h
          · exact h
          omega
        refine ⟨b,o+l*es',c-l,tX (vG hrs hh') l,by simp;omega,trivial,none,.inl rfl,?_⟩
        rw [if_neg hcl]
        simp only [Option.map_some,fG,List.length_drop,List.length_take]
        congr 1
        omega
      cases h
    cases h
  case aP=>
    split at h
    · rename_i e1 e2
      cases h
      simp only [aU] at hr
      subst hr
      refine bN.same hs (run e1 e2 (Nat.le_refl _) (Nat.le_refl _) (Nat.le_refl _)) ?_
      simp [aU]
    cases h
  case row id es' off len=>
    split at h
    · rename_i l hh' e1 e2
      split at h
      · rename_i hc
        obtain ⟨hal,rfl,h1,h2⟩:=hc
        cases h
        obtain ⟨b,hb⟩:=gZ hs hal
        simp only [aU,hb] at hr
        obtain ⟨c,e0,n0,hlc,hsh,hcap,rfl⟩:=hr
        refine bN.same hs (run e1 e2 (by omega) h2 hlc) ?_
        simp only [aU,hb]
        refine ⟨c-l,e0,n0,by omega,hsh,by rw [show off+l+(c-l)=off+c by omega];exact hcap,?_⟩
        rw [if_neg (by omega)]
        simp only [Option.map_some,fG,Nat.add_mul]
      cases h
    cases h
theorem EG {tm:Fr} {a:Act} {t e:TypeId} {es id len y:Nat} {cs:List AV} {u:Value} {hi:Option Operand} {hx:Option AX} (hs:aG E G st w) (hf:er G tm a) (hr:aU G (.row id es 0 len) u)
  (ht:P.underlying t=some (.slice e)) (hes:cx P e=some es) (hh:cOpt hi=some hx) (ho:st[id]? =some (.cells cs)) (e2:bound (hx.map tm.x) len=some y) (hl:cs.length=len*es) (hy:y≤len):
  bN P E (Instr.sliceAt t u none (hi.map a.eval) none) w G (.row id es 0 y) (st.set id (.cells (cs.take (y*es)))):=by
 have hid:id<G.slots.length:=by rw [hs.len];exact aD ho
 have hsl:G.slots[id]? =some G.slots[id]:=by simp [hid]
 have hob:=hs.obj id _ _ ho hsl
 simp only [aU,hsl] at hr
 generalize G.slots[id]=s at hob hr hsl
 cases s<;>simp only [bl] at hob hr
 rename_i b
 obtain ⟨⟨arr,e',fz,p1,p2,p3,p4⟩,p5⟩:=hob
 obtain ⟨c,e'',n,hlc,hsh,hcap,rfl⟩:=hr
 have hb:=nE (P:=P) (lo:=none) (l:=none) (x:=0) hf rfl hh rfl e2 (Nat.zero_le _) hy hlc true w
 have hrun:(Instr.sliceAt t (.slice (some ⟨b,0*es,none⟩) len c) none (hi.map a.eval) none).run P w= .ok (.slice (some ⟨b,0*es,none⟩) y c) w:=by
  have hb':(Instr.sliceBounds true len c none (hi.map a.eval) none).run P w= .ok (0,y,c) w:=hb
  simp only [Instr.sliceAt,Instr.slice,Sem.run_bind,run_underlying ht,Result.andThen_ok,hb',run_sizeOf hes,Sem.run_pure]
  by_cases h0:c=0
  ·simp [h0]
  simp [h0,fG]
 refine ⟨_,w,G,hrun,?_,JX hs hsl ?_,Ext.refl G w⟩
 ·simp only [aU,hsl]
  exact ⟨c,e'',n,Nat.le_trans hy hlc,hsh,hcap,rfl⟩
 refine ⟨⟨arr,e',fz,p1,?_,?_,p4⟩,p5⟩
 ·simp only [List.length_take];omega
 have h3:=dO (y*es) p3
 have hle:y*es≤cs.length:=by rw [hl];exact Nat.mul_le_mul_right _ hy
 rw [List.length_take,Nat.min_eq_left hle]
 rwa [List.take_take,Nat.min_eq_left hle] at h3
theorem zF {t:TypeId} {fs:Array Field} {f:Field} {i n:Nat} {v r:AV} {u:Value} (hs:aG E G st w) (hr:aU G v u) (ht:P.underlying t=some (.struct fs)) (hf:fs[i]? =some f) (hz:cx P f.type=some (n+1))
  (h:(match (generalizing:=false) v with
   | .ptr id o=>if alive st id then some (AV.ptr id (o+f.offset)) else none
   | .aQ cs=>some (.aQ (cs.drop f.offset))
   | .fV g o=>some (.fV g (o+f.offset))
   | _=>none)=some r):bN P E (Instr.fieldAt t u i) w G r st:=by
 have run: ∀b o,(Instr.fieldAt t (.pointer (some ⟨b,o,none⟩)) i).run P w= .ok (.pointer (some ⟨b,o+f.offset,none⟩)) w:=by
  intro b o
  simp [Instr.fieldAt,run_underlying ht,hf,Instr.sureAddr,fieldPlace,run_sizeOf hz,fG]
 cases v<;>simp only [reduceCtorEq] at h
 case ptr id o=>
  split at h
  ·rename_i hal
   cases h
   obtain ⟨b,hb⟩:=gZ hs hal
   simp only [aU,hb] at hr
   subst hr
   exact bN.same hs (run b o) (by simp only [aU,hb])
  cases h
 case aQ cs=>
  cases h
  simp only [aU] at hr
  obtain ⟨b,o,us,hu,hm,rfl⟩:=hr
  refine bN.same hs (run b o) ?_
  simp only [aU]
  refine ⟨b,o+f.offset,us.drop f.offset,dN _ hu,fun j x hx=>?_,rfl⟩
  rw [List.getElem?_drop] at hx
  rw [Nat.add_assoc]
  exact hm _ x hx
 case fV g o=>
  cases h
  simp only [aU] at hr
  subst hr
  exact bN.same hs (run g o) (by simp only [aU])
theorem xD {t:TypeId} {fs:Array Field} {f:Field} {i:Nat} {cs:List AV} {u:Value} {v:AV} (hs:aG E G st w) (hr:aU G (.agg cs) u) (ht:P.underlying t=some (.struct fs)) (hf:fs[i]? =some f)
  (ha:dU P f.type=some false) (h:cs[f.offset]? =some v):bN P E (Instr.field t u i) w G v st:=by
 simp only [aU] at hr
 obtain ⟨us,hu,rfl⟩:=hr
 obtain ⟨x,hx,hrx⟩:=fP hu _ v h
 refine bN.same hs (u:=x) ?_ hrx
 simp [Instr.field,run_underlying ht,hf,asAgg,kT ha (show us.toArray[f.offset]? =some x by simpa using hx)]
theorem xE {t:TypeId} {fs:Array Field} {f:Field} {i n:Nat} {cs:List AV} {u:Value} (hs:aG E G st w) (hr:aU G (.agg cs) u) (ht:P.underlying t=some (.struct fs)) (hf:fs[i]? =some f)
  (ha:dU P f.type=some true) (hn:cx P f.type=some n):bN P E (Instr.field t u i) w G (.agg ((cs.drop f.offset).take n)) st:=by
 simp only [aU] at hr
 obtain ⟨us,hu,rfl⟩:=hr
 refine bN.same hs (u:=.agg ((us.drop f.offset).take n).toArray) ?_ (by simp only [aU];exact ⟨_,dO n (dN _ hu),rfl⟩)
 simp [Instr.field,run_underlying ht,hf,asAgg,kS ha hn]
theorem xF {t e:TypeId} {len es:Nat} {k:IntKind} {n:Int} {v r:AV} {u:Value} (hs:aG E G st w) (hr:aU G v u) (ht:P.underlying t=some (.array len e)) (hes:cx P e=some es) (h0:0≤n) (h1:n<len)
  (h:(match (generalizing:=false) v with
   | .ptr id o=>if alive st id then some (AV.ptr id (o+n.toNat*es)) else none
   | .aQ cs=>some (.aQ (cs.drop (n.toNat*es)))
   | .fV g o=>some (.fV g (o+n.toNat*es))
   | _=>none)=some r):bN P E (Instr.indexAt t u (.int k n)) w G r st:=by
 have run: ∀b o,(Instr.indexAt t (.pointer (some ⟨b,o,none⟩)) (.int k n)).run P w= .ok (.pointer (some ⟨b,o+n.toNat*es,none⟩)) w:=by
  intro b o
  simp [Instr.indexAt,asIntOf,run_underlying ht,Instr.sureAddr,h0,h1,run_sizeOf hes,fG]
 cases v<;>simp only [reduceCtorEq] at h
 case ptr id o=>
  split at h
  ·rename_i hal
   cases h
   obtain ⟨b,hb⟩:=gZ hs hal
   simp only [aU,hb] at hr
   subst hr
   exact bN.same hs (run b o) (by simp only [aU,hb])
  cases h
 case aQ cs=>
  cases h
  simp only [aU] at hr
  obtain ⟨b,o,us,hu,hm,rfl⟩:=hr
  refine bN.same hs (run b o) ?_
  simp only [aU]
  refine ⟨b,o+n.toNat*es,us.drop (n.toNat*es),dN _ hu,fun j x hx=>?_,rfl⟩
  rw [List.getElem?_drop] at hx
  rw [Nat.add_assoc]
  exact hm _ x hx
 case fV g o=>
  cases h
  simp only [aU] at hr
  subst hr
  exact bN.same hs (run g o) (by simp only [aU])
theorem yw {es b:Nat}: ∀ {xs:List AV} {o:Nat},dI G es b o xs→ ∀(i:Nat) v,xs[i]? =some v→ ∃u,aU G v u∧u.cells.size=es∧ ∀j x,u.cells[j]? =some x→G.M b (o+i*es+j)=some x
  | [],_,_,i,v,h=>by simp at h
  | x::xs,o,h,0,v,hv=>by
    simp only [dI] at h
    simp at hv;subst hv
    obtain ⟨⟨u,h1,h2,h3⟩,_⟩:=h
    exact ⟨u,h1,h2,by simpa using h3⟩
  | x::xs,o,h,i+1,v,hv=>by
    simp only [dI] at h
    obtain ⟨u,h1,h2,h3⟩:=yw h.2 i v (by simpa using hv)
    refine ⟨u,h1,h2,fun j y hy=>?_⟩
    have:=h3 j y hy
    rw [Nat.add_mul,Nat.one_mul]
    rwa [show o+(i*es+es)+j=o+es+i*es+j by omega]
theorem om {t e:TypeId} {es:Nat} {k:IntKind} {n:Int} {v r:AV} {u:Value} (hs:aG E G st w) (hr:aU G v u) (ht:P.underlying t=some (.slice e)) (hes:cx P e=some es)
    (h:(match (generalizing:=false) v with
      | .sl es' xs _=>if es'=es∧0≤n then (match xs[n.toNat]? with
        | some v=>some (AV.aQ v.cells)
        | none=>none) else none
      | .row id es' off len=>if alive st id∧es'=es∧0≤n∧n<len then some (.ptr id ((off+n.toNat)*es)) else none
      | _=>none)=some r):bN P E (Instr.indexAt t u (.int k n)) w G r st:=by
  have run: ∀(b o len cap:Nat),0≤n→n<(len:Int)→(Instr.indexAt t (.slice (some ⟨b,o,none⟩) len cap) (.int k n)).run P w= .ok (.pointer (some ⟨b,o+n.toNat*es,none⟩)) w:=by
    intro b o len cap h0 h1
    simp [Instr.indexAt,asIntOf,run_underlying ht,h0,h1,run_sizeOf hes,fG]
  cases v<;>simp only [reduceCtorEq] at h
  case sl es' xs tok=>
    split at h
    · rename_i hc
      obtain ⟨rfl,h0⟩:=hc
      split at h
      · rename_i x hx
        cases h
        simp only [aU] at hr
        obtain ⟨b,o,c,hrs,hlc,_,sp,hsp,rfl⟩:=hr
        obtain ⟨y,h1,h2,h3⟩:=yw hrs _ x hx
        have hlt:=aD hx
        obtain rfl:sp=none:=by
          rcases hsp with h | h
          · exact h
          omega
        refine bN.same hs (run b o _ c h0 (by omega)) ?_
        simp only [aU]
        exact ⟨b,o+n.toNat*es',y.cells.toList,gh h1,fun j z hz=>h3 j z (by simpa using hz),rfl⟩
      cases h
    cases h
  case row id es' off len=>
    split at h
    · rename_i hc
      obtain ⟨hal,rfl,h0,h1⟩:=hc
      cases h
      obtain ⟨b,hb⟩:=gZ hs hal
      simp only [aU,hb] at hr
      obtain ⟨c,_,_,_,_,_,rfl⟩:=hr
      refine bN.same hs (run b _ len c h0 h1) ?_
      simp only [aU,hb,Nat.add_mul]
    cases h
theorem BV {t e:TypeId} {len es:Nat} {k:IntKind} {n:Int} {cs:List AV} {u:Value} {v:AV} (hs:aG E G st w) (hr:aU G (.agg cs) u) (ht:P.underlying t=some (.array len e)) (hes:cx P e=some es)
  (ha:dU P e=some false) (h0:0≤n) (h1:n<len) (h:cs[n.toNat*es]? =some v):bN P E (Instr.index t u (.int k n)) w G v st:=by
 simp only [aU] at hr
 obtain ⟨us,hu,rfl⟩:=hr
 obtain ⟨x,hx,hrx⟩:=fP hu _ v h
 refine bN.same hs (u:=x) ?_ hrx
 simp [Instr.index,asIntOf,run_underlying ht,h0,h1,run_sizeOf hes,kT ha (show us.toArray[n.toNat*es]? =some x by simpa using hx)]
theorem BW {t e:TypeId} {len es:Nat} {k:IntKind} {n:Int} {cs:List AV} {u:Value} (hs:aG E G st w) (hr:aU G (.agg cs) u) (ht:P.underlying t=some (.array len e)) (hes:cx P e=some es)
  (ha:dU P e=some true) (h0:0≤n) (h1:n<len):bN P E (Instr.index t u (.int k n)) w G (.agg ((cs.drop (n.toNat*es)).take es)) st:=by
 simp only [aU] at hr
 obtain ⟨us,hu,rfl⟩:=hr
 refine bN.same hs (u:=.agg ((us.drop (n.toNat*es)).take es).toArray) ?_ (by simp only [aU];exact ⟨_,dO es (dN _ hu),rfl⟩)
 simp [Instr.index,asIntOf,run_underlying ht,h0,h1,run_sizeOf hes,kS ha hes]
theorem ED {t:TypeId} {k:IntKind} {n:Int} {s:ByteArray} {l:List UInt8} {b:UInt8} (hs:aG E G st w) (hl:s.data.toList=l) (ht:P.underlying t=some .string) (h0:0≤n) (h:l[n.toNat]? =some b):
  bN P E (Instr.index t (.string s) (.int k n)) w G (fW b) st:=by
 have hlt:n.toNat<s.size:=by have:=aD h;rw [←hl] at this;exact (by simpa using this)
 have hb:s[n.toNat]? =some b:=by
  rw [ByteArray.getElem?_lt' s n.toNat hlt]
  have h2:s.data.toList[n.toNat]? =some b:=by rw [hl];exact h
  have hlt':n.toNat<s.data.size:=hlt
  rw [Array.getElem?_toList,Array.getElem?_eq_getElem hlt'] at h2
  exact h2
 refine bN.same hs (u:=.int .u8 b.toNat) ?_ (by simp only [fW,aU])
 simp only [Instr.index,asIntOf,Sem.run_bind,Sem.run_pure,Result.andThen_ok,run_underlying ht,h0,if_true,hb]
theorem uU {i:Nat} {vs:List AV} {u:Value} {v:AV} (hs:aG E G st w) (hr:aU G (.bt vs) u) (h:vs[i]? =some v):bN P E (Instr.extract u i) w G v st:=by
 simp only [aU] at hr
 obtain ⟨us,hu,rfl⟩:=hr
 obtain ⟨x,hx,hrx⟩:=fP hu _ v h
 refine bN.same hs (u:=x) ?_ hrx
 simp [Instr.extract,hx]
end
end Go.Proofs.YtcidnoghoifmmaaDoor.AW
