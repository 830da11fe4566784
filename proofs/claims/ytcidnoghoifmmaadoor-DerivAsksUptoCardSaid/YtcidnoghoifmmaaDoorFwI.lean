/-
  The abstract walk: what each operation of the program's does is what its plain operation says (fifth part: composites, slices that are made and appended to).
-/
import Derived.Test.YtcidnoghoifmmaaDoorFwH
import Derived.Laws.Tables
import Derived.Laws.MakeOwn
namespace Go.Proofs.YtcidnoghoifmmaaDoor.AW
open Go

theorem uo (off:Nat): ∀(vs:List Value) (k:Nat) (cells:Array Value),off+k+vs.length≤cells.size→
    ((vs.zipIdx k).foldl (fun cs (x:Value × Nat)=>cs.setIfInBounds (off+x.2) x.1) cells).toList=cells.toList.take (off+k)++vs++cells.toList.drop (off+k+vs.length)
  | [],k,cells,h=>by simp
  | v::vs,k,cells,h=>by
    have hi:off+k<cells.size:=by simp at h;omega
    simp only [List.zipIdx_cons,List.foldl_cons]
    rw [uo off vs (k+1) _ (by simp at h ⊢;omega),Array.toList_setIfInBounds]
    have e1:(cells.toList.set (off+k) v).take (off+(k+1))=cells.toList.take (off+k)++[v]:=by
      rw [show off+(k+1)=(off+k)+1 by omega,List.take_add_one,List.take_set_of_le (Nat.le_refl _),List.getElem?_set_self (by simpa using hi)]
      rfl
    have e2:(cells.toList.set (off+k) v).drop (off+(k+1)+vs.length)=cells.toList.drop (off+k+(v::vs).length):=by
      rw [List.drop_set_of_lt (by omega)]
      congr 1
      simp
      omega
    rw [e1,e2]
    simp
section
variable {P:Program} {E:bA} {G:Gh} {st:aA} {w:World}

theorem nJ {tm:Fr} {a:Act} (hf:er G tm a) (place:Nat→Option (Nat × Nat)) (total:Nat): ∀(parts:List (Nat × Operand)) (ps:List (Nat × Nat × AX)) (l:List (Nat × List AV)) (cells:List AV) (us:Array Value),
    parts.mapM (Hs place)=some ps→bY total ps tm=some l→aW G cells us.toList→us.size=total→
    ∃us',Instr.fill place us (parts.map fun p=>(p.1,a.eval p.2))=some us'∧aW G (av cells l) us'.toList∧us'.size=total
  | [],ps,l,cells,us,h,hl,hr,hz=>by
    simp at h;subst h
    simp [bY] at hl;subst hl
    exact ⟨us,rfl,hr,hz⟩
  | p::parts,ps,l,cells,us,h,hl,hr,hz=>by
    simp only [List.mapM_cons,Option.bind_eq_bind,Option.bind_eq_some_iff,Option.pure_def,Option.some.injEq] at h
    obtain ⟨q,hq,qs,hqs,rfl⟩:=h
    unfold Hs at hq
    split at hq
    · rename_i o s ax hp hx
      cases hq
      simp only [bY] at hl
      split at hl
      · rename_i hc
        obtain ⟨h1,h2⟩:=hc
        simp only [Option.map_eq_some_iff] at hl
        obtain ⟨l',hl',rfl⟩:=hl
        have hrx:=gh (bV hf hx)
        have hlen:(a.eval p.2).cells.size=s:=by
          have:=aj hrx
          simp at this
          omega
        have hs:=uo o (a.eval p.2).cells.toList 0 us (by simp;omega)
        simp only [Nat.add_zero] at hs
        generalize hus:((a.eval p.2).cells.toList.zipIdx 0).foldl (fun cs (x:Value × Nat)=>cs.setIfInBounds (o+x.2) x.1) us=us2 at hs
        have hz2:us2.size=total:=by
          have:=congrArg List.length hs
          simp at this
          omega
        obtain ⟨us',k1,k2,k3⟩:=nJ hf place total parts qs l' (cells.take o++(tm.x ax).cells++cells.drop (o+(tm.x ax).cells.length)) us2 hqs hl'
          (by
            rw [hs]
            have:(a.eval p.2).cells.toList.length=(tm.x ax).cells.length:=aj hrx
            rw [this]
            exact dX (dX (dO o hr) hrx) (dN _ hr)) hz2
        refine ⟨us',?_,k2,k3⟩
        simp only [List.map_cons,Instr.fill,hp]
        rw [if_neg (by simp [hlen,hz,h2])]
        rw [←k1]
        congr 1
        rw [←hus,←Array.foldl_toList,Array.toList_zipIdx]
      cases hl
    cases hq
theorem qw {t:TypeId} {place:Nat→Option (Nat × Nat)} (h:oV P t=some place) (hn: ∀e,P.underlying t≠some (.slice e)) {it:TypeInfo} {z:Value} (hi:P.info? t=some it) (hz:it.zero=some z) (parts:List (Nat × Value)):
  P.built t parts=Instr.fill place z.cells parts:=by
 unfold oV at h
 unfold Program.built
 split at h
 ·rename_i fs hu
  split at h
  ·rename_i ps hps
   cases h
   rw [hi,hu]
   simp [hz,hps]
  cases h
 ·rename_i n e hu
  split at h
  ·rename_i s hs
   cases h
   unfold cx at hs
   simp only [Option.map_eq_some_iff] at hs
   obtain ⟨ie,hie,rfl⟩:=hs
   rw [hi,hu]
   simp [hz,hie]
  cases h
 ·rename_i e hu
  exact absurd hu (hn e)
 cases h
theorem zE {tm:Fr} {a:Act} {t:TypeId} {zs:List AV} {parts:Array (Nat × Operand)} {ps:List (Nat × Nat × AX)} {l:List (Nat × List AV)} (hs:aG E G st w) (hf:er G tm a) (hn: ∀e,P.underlying t≠some (.slice e)) (hz:zeroOf P t=some zs)
  (hp:ga P t parts.toList=some ps) (hl:bY zs.length ps tm=some l):bN P E (Instr.build t (parts.map fun (i,x)=>(i,a.eval x))) w G (.agg (av zs l)) st:=by
 obtain ⟨i,z,hi,hz1,hz2,hz3,hz4⟩:=ez hz
 unfold ga at hp
 split at hp
 ·rename_i place hpl
  obtain ⟨us',k1,k2,_⟩:=nJ hf place zs.length parts.toList ps l zs z.cells hp hl (hz3 G) (by have:=aj (hz3 G);simpa using this)
  have hb:=qw hpl hn hi hz1 (parts.toList.map fun p=>(p.1,a.eval p.2))
  rw [k1] at hb
  refine bN.same hs (u:=.agg us') (run_build w t _ us' (by simpa using hb)) ?_
  simp only [aU]
  exact ⟨us'.toList,k2,by simp⟩
 cases hp
theorem pX (z:Array Value) (hz:0<z.size): ∀n:Nat,((Array.range (n*z.size)).map (z[· % z.size]!)).toList=(List.replicate n z.toList).flatten
  | 0=>by simp
  | n+1=>by
    have ih:=pX z hz n
    rw [List.replicate_succ',List.flatten_concat,←ih]
    simp only [Array.toList_map,Array.toList_range]
    rw [Nat.add_mul,Nat.one_mul,List.range_add,List.map_append]
    congr 1
    apply List.ext_getElem?
    intro i
    simp only [List.map_map,List.getElem?_map]
    by_cases hi:i<z.size
    · rw [List.getElem?_range hi]
      have e1:(n*z.size+i)%z.size=i:=by rw [Nat.mul_comm,Nat.mul_add_mod,Nat.mod_eq_of_lt hi]
      simp [e1,hi]
    rw [List.getElem?_eq_none (by simp;omega),List.getElem?_eq_none (by simp;omega)]
    rfl
theorem pY {zs:List AV} {z:List Value} (h:aW G zs z): ∀n,aW G (cJ zs n) (List.replicate n z).flatten
  | 0=>by simp [cJ,aW]
  | n+1=>by
    simp only [cJ,List.replicate_succ,List.flatten_cons]
    exact dX h (pY h n)
theorem qJ {es:Nat} (hes:0<es) {ag:Bool} (hag:ag=true∨es=1): ∀(n:Nat) (cs:List AV) (us:List Value),aW G cs us→cs.length=n*es→cs.all AV.one=true→
    ∃vs:List Value,vs.length=n∧ ∀(i:Nat) x u,((chunks es n cs).map (cC ag))[i]? =some x→vs[i]? =some u→aU G x u∧u.cells.size=es∧ ∀j y,u.cells[j]? =some y→us[i*es+j]? =some y
  | 0,cs,us,h,hl,h1=>⟨[],rfl,fun i x u hx=>by simp [chunks] at hx⟩
  | n+1,cs,us,h,hl,h1=>by
    rw [Nat.add_mul,Nat.one_mul] at hl
    have h1':(cs.drop es).all AV.one=true:=by
      simp only [List.all_eq_true] at h1 ⊢
      exact fun x hx=>h1 x (List.mem_of_mem_drop hx)
    obtain ⟨vs,hv,hk⟩:=qJ hes hag n (cs.drop es) (us.drop es) (dN es h) (by simp;omega) h1'
    have hul:=aj h
    obtain ⟨u0,hu0⟩: ∃u0:Value,u0=if ag then .agg (us.take es).toArray else us.headD undef:=⟨_,rfl⟩
    refine ⟨u0::vs,by simp [hv],fun i x u hx hu=>?_⟩
    cases i with
    | zero=>
      simp only [chunks,List.map_cons,List.getElem?_cons_zero,Option.some.injEq] at hx hu
      subst hx;subst hu
      cases ag with
      | true=>
        simp only [if_true] at hu0
        subst hu0
        refine ⟨by simp only [cC,if_true,aU];exact ⟨us.take es,dO es h,rfl⟩,by simp [Value.cells];omega,fun j y hy=>?_⟩
        simp only [Value.cells] at hy
        simp only [Nat.zero_mul,Nat.zero_add]
        have:(us.take es)[j]? =some y:=by simpa using hy
        rw [List.getElem?_take] at this
        split at this
        · exact this
        cases this
      | false=>
        have hes1:es=1:=by rcases hag with h' | h';cases h';exact h'
        subst hes1
        match cs,us,h,hl,hul with
        | c::cs,us,h,hl,hul=>
          simp only [aW] at h
          obtain ⟨u,us',rfl,hr,h⟩:=h
          have hone:c.one=true:=by simp only [List.all_cons,Bool.and_eq_true] at h1;exact h1.1
          have hcell:=rL hr (fun cs e=>by subst e;cases hone)
          have e0:cC false ((c::cs).take 1)=c:=by simp [cC]
          rw [e0]
          have e1:u0=u:=by rw [hu0];rfl
          rw [e1]
          refine ⟨hr,by rw [hcell];rfl,fun j y hy=>?_⟩
          rw [hcell] at hy
          match j with
          | 0=>simpa using hy
          | j+1=>simp at hy
        | [],us,h,hl,hul=>simp at hl
    | succ i=>
      simp only [chunks,List.map_cons,List.getElem?_cons_succ] at hx hu
      obtain ⟨k1,k2,k3⟩:=hk i x u hx hu
      refine ⟨k1,k2,fun j y hy=>?_⟩
      have:=k3 j y hy
      rw [List.getElem?_drop] at this
      rw [Nat.add_mul,Nat.one_mul]
      rwa [show i*es+es+j=es+(i*es+j) by omega]
end
end Go.Proofs.YtcidnoghoifmmaaDoor.AW
