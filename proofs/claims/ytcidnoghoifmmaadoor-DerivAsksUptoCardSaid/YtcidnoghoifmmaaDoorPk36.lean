/-
  Texts of this proof, put together: DoA, DoB, AcE, DoC, DoD, AsA, AsB, AsC, AsD, AsE, Fu, Fu2, PureDerivAsks.
-/
import Derived.Test.YtcidnoghoifmmaaDoorPk35
import Derived.KernelRfl
import Derived.Test.YtcidnoghoifmmaaDoorPk33
set_option linter.unusedSectionVars false
set_option linter.unusedSimpArgs false
set_option linter.unusedVariables false
section
namespace Go.Proofs.YtcidnoghoifmmaaDoor
open Go AW
set_option maxHeartbeats 4000000
def nx (C:List aT) (i:Nat):List Nat:=
 match C[i]? with
 | none=>[]
 | some x=>if x.Kind=1 then [] else if x.Kind=12 then [] else if x.Kind=2 then [i+1,x.To.toNat] else if x.Kind=3 then [x.To.toNat] else [i+1]
theorem BS {p:af} (hr:rp p=true) {i:Nat} {x:aT} (hx:(ls p.Code)[i]? =some x) (h:x.Kind≠12):i+1<(ls p.Code).length:=by
 obtain ⟨hf,hl⟩:=Cm hr hx
 have hi:=mj hx
 have:i+1≠(ls p.Code).length:=fun e=>h (hl.2 e)
 omega
theorem NZ {p:af} (hr:rp p=true) {i j:Nat} (h:j∈nx (ls p.Code) i):j<(ls p.Code).length:=by
 unfold nx at h
 split at h
 ·simp at h
 rename_i x hx
 obtain ⟨hf,hl⟩:=Cm hr hx
 have hi:=mj hx
 have hne:=BS hr hx
 split at h
 ·simp at h
 split at h
 ·simp at h
 rename_i h12
 have:=hne h12
 split at h
 ·rename_i h2
  have:=pQ hf (.inl h2)
  simp at h
  omega
 split at h
 ·rename_i h3
  have:=pQ hf (.inr h3)
  simp at h
  omega
 simp at h;omega
inductive Rc (C:List aT) (A:List Nat):Nat→Prop
 | base {i:Nat}:i∈A→Rc C A i
 | step {i j:Nat}:Rc C A i→j∈nx C i→Rc C A j
def sX (C:List aT) (i:Nat):Bool:=match C[i]? with
 | some x=>x.Kind==1||x.Kind==12
 | none=>false
open Classical in
noncomputable def cls (C:List aT) (A:List Nat):List Nat:=(List.range C.length).filter fun i=>sX C i&&decide (Rc C A i)
def mk (N:Nat) (L:List Nat):Sl Bool:=some ((List.range N).map fun j=>decide (j∈L))
theorem JG (N:Nat):mk N []=some (List.replicate N false):=by
 unfold mk
 congr 1
 apply List.ext_getElem<;>simp
theorem BF (N:Nat) (L:List Nat):(ls (mk N L)).length=N:=by simp [mk,ls]
theorem ye {N:Nat} {L:List Nat} {i:Nat} (h:i<N):ix (ls (mk N L)) (i:Int)=some (decide (i∈L)):=ixs (by simp [mk,ls,h])
theorem BG {N:Nat} {L:List Nat} {i:Nat} (h:i<N):dF (mk N L) (i:Int) true=mk N (L++[i]):=by
 unfold mk dF
 simp only [Option.map_some,Option.some.injEq]
 apply List.ext_getElem
 ·simp
 intro k h1 h2
 rw [List.getElem_set]
 by_cases e:i=k
 ·subst e;simp
 have: ¬k=i:=fun h=>e h.symm
 simp [e,this]
theorem WW {N:Nat} {L:List Nat} {i:Nat} (h:i<N) (hl:L.length≤1000000):Gm (i:Int) (mk N L) (so (ints L))=some (mk N (jq L i),so (ints (jq L i))):=by
 unfold Gm
 rw [ye h,sm]
 by_cases e:i∈L
 ·rw [if_neg (by simp [e])]
  simp only [jq,if_pos e]
 rw [if_pos (by simp [e]),sm,bq,if_pos (by simp [ints,ls];omega),BG h]
 simp only [jq,if_neg e]
 congr 2
 rw [eC]
 simp [ints,ls]
theorem Bt {L:List Nat} (h:L.Nodup) (i:Nat):(jq L i).Nodup:=by
 unfold jq
 split
 ·exact h
 rename_i e
 rw [List.nodup_append]
 exact ⟨h,by simp,by simp;rintro a ha rfl;exact e ha⟩
theorem Bs {N:Nat} {L:List Nat} (h: ∀x∈L,x<N) {i:Nat} (hi:i<N): ∀x∈jq L i,x<N:=by
 intro x hx
 rcases (yd L i x).1 hx with h' | rfl
 ·exact h x h'
 exact hi
theorem HT (l:List Nat): ∀ {L:List Nat},L.Nodup→(l.foldl jq L).Nodup:=by
 induction l with
 | nil=>exact fun h=>h
 | cons a l ih=>exact fun h=>ih (Bt h a)
theorem HS {N:Nat} (l:List Nat) (hl: ∀x∈l,x<N): ∀ {L:List Nat},(∀x∈L,x<N)→ ∀x∈l.foldl jq L,x<N:=by
 induction l with
 | nil=>exact fun h=>h
 | cons a l ih=>exact fun h=>ih (fun x hx=>hl x (by simp [hx])) (Bs h (hl a (by simp)))
theorem QW {p:af} (hr:rp p=true) {L:List Nat} (hn:L.Nodup) (hlt: ∀x∈L,x<(ls p.Code).length) {k i:Nat} (hk:L[k]? =some i):
  jm (.p2 p (k:Int) (mk (ls p.Code).length L) (so (ints L)))=jm (.p2 p ((k+1:Nat):Int) (mk (ls p.Code).length ((nx (ls p.Code) i).foldl jq L)) (so (ints ((nx (ls p.Code) i).foldl jq L)))):=by
 have hlen:=eK hr
 have hL:=eF _ L hn hlt
 have hkl:=mj hk
 have hi:i<(ls p.Code).length:=hlt i (List.mem_of_getElem? hk)
 obtain ⟨x,hx⟩:=bQ (ls p.Code) hi
 have hki:(ints L)[k]? =some (i:Int):=by simp [ints,hk]
 have hil:(ints L).length=L.length:=by simp [ints]
 obtain ⟨hf,-⟩:=Cm hr hx
 rw [jm.eq_2,bq,hil,dti (by omega),ixs hki,sm,ixs hx,sm,eo k (by omega)]
 have hnx:nx (ls p.Code) i=if x.Kind=1 then [] else if x.Kind=12 then [] else if x.Kind=2 then [i+1,x.To.toNat] else if x.Kind=3 then [x.To.toNat] else [i+1]:=by unfold nx;rw [hx]
 rw [hnx]
 by_cases h1:x.Kind=1
 ·rw [gf h1,if_pos h1];rfl
 rw [gR h1,if_neg h1]
 by_cases h12:x.Kind=12
 ·rw [gf h12,if_pos h12];rfl
 rw [gR h12,if_neg h12]
 have hi1:=BS hr hx h12
 by_cases h2:x.Kind=2
 ·have ht:=pQ hf (.inl h2)
  obtain ⟨t,ht'⟩:=sw ht.1
  have hl1:=eF _ _ (Bt hn (i+1)) (Bs hlt hi1)
  have htn:x.To.toNat=t:=by omega
  rw [gf h2,if_pos h2,sm,eo i (by omega),WW hi1 (by omega),sm,htn,ht']
  show (Gm (t:Int) (mk (ls p.Code).length (jq L (i+1))) (so (ints (jq L (i+1))))>>=_)=_
  rw [WW (by omega) (by omega),sm]
  rfl
 rw [gR h2,if_neg h2]
 by_cases h3:x.Kind=3
 ·have ht:=pQ hf (.inr h3)
  obtain ⟨t,ht'⟩:=sw ht.1
  have htn:x.To.toNat=t:=by omega
  rw [gf h3,if_pos h3,htn,ht',WW (by omega) (by omega),sm]
  rfl
 rw [gR h3,if_neg h3,sm,eo i (by omega),WW hi1 (by omega),sm]
 rfl
theorem Mc {p:af} (hr:rp p=true) (A:List Nat): ∀(m k:Nat) (L:List Nat),m+k=(ls p.Code).length→k≤L.length→L.Nodup→(∀x∈L,x<(ls p.Code).length)→(∀x∈L,Rc (ls p.Code) A x)→(∀x∈A,x∈L)→(∀q i,q<k→L[q]? =some i→ ∀j∈nx (ls p.Code) i,j∈L)→
    ∃L',(∀j,j∈L'↔Rc (ls p.Code) A j)∧jm (.p2 p (k:Int) (mk (ls p.Code).length L) (so (ints L)))=jm (.p3 p (mk (ls p.Code).length L') ((ls p.Code).length:Int) 0 none)
  | m,k,L,h,hk,hn,hlt,hs,hA,hc=>by
    have hlen:=eK hr
    have hL:=eF _ L hn hlt
    by_cases e:k<L.length
    · obtain ⟨i,hi⟩:=bQ L e
      match m,h with
      | 0,h=>omega
      | m+1,h=>
        rw [QW hr hn hlt hi]
        have hil:Rc (ls p.Code) A i:=hs i (List.mem_of_getElem? hi)
        have hpre:=DK (nx (ls p.Code) i) L
        have hle:=hpre.length_le
        refine Mc hr A m (k+1) _ (by omega) (by omega) (HT _ hn) (HS _ (fun x hx=>NZ hr hx) hlt) ?_ ?_ ?_
        · intro x hx
          rcases (mT _ L x).1 hx with h' | h'
          · exact hs x h'
          exact .step hil h'
        · intro x hx;exact (mT _ L x).2 (.inl (hA x hx))
        intro q i' hq hi' j hj
        have hq':q<L.length:=by omega
        obtain ⟨i2,hi2⟩:=bQ L hq'
        have:i2=i':=by
          obtain ⟨t,ht⟩:=hpre
          rw [←ht,List.getElem?_append_left hq',hi2] at hi'
          exact Option.some.inj hi'
        subst this
        by_cases hqk:q<k
        · exact (mT _ L j).2 (.inl (hc q i2 hqk hi2 j hj))
        have:q=k:=by omega
        subst this
        rw [hi] at hi2
        cases hi2
        exact (mT _ L j).2 (.inr hj)
    have hil:(ints L).length=L.length:=by simp [ints]
    refine ⟨L,fun j=>⟨hs j,fun hj=>?_⟩,?_⟩
    · induction hj with
      | base h=>exact hA _ h
      | step _ h2 ih=>
        obtain ⟨q,hq⟩:=List.mem_iff_getElem?.1 ih
        exact hc q _ (by have:=mj hq;omega) hq _ h2
    rw [jm.eq_2,bq,hil,eU (by omega),BF]
theorem Ho {p:af} (hr:rp p=true) (L:List Nat): ∀(m i:Nat) (O:List Nat),m+i=(ls p.Code).length→O.length≤i→jm (.p3 p (mk (ls p.Code).length L) ((ls p.Code).length:Int) (i:Int) (so (ints O)))=some (so (ints (O++(List.range' i m).filter fun j=>sX (ls p.Code) j&&decide (j∈L))))
  | 0,i,O,h,hO=>by
    rw [jm.eq_3,eU (by omega)]
    simp
  | m+1,i,O,h,hO=>by
    have hlen:=eK hr
    obtain ⟨x,hx⟩:=bQ (ls p.Code) (i:=i) (by omega)
    have hsm:sX (ls p.Code) i=(x.Kind==1||x.Kind==12):=by unfold sX;rw [hx]
    have h4:jm (.p4 p (i:Int) (mk (ls p.Code).length L) ((ls p.Code).length:Int) (i:Int) (so (ints O)))=jm (.p3 p (mk (ls p.Code).length L) ((ls p.Code).length:Int) ((i+1:Nat):Int) (so (ints (O++[i])))):=by
      rw [jm.eq_4,bq,if_pos (by simp [ints,ls];omega),eo i (by omega),eC]
      simp [ints,ls]
    have hno:=Ho hr L m (i+1) O (by omega) (by omega)
    have hyes:=Ho hr L m (i+1) (O++[i]) (by omega) (by simp;omega)
    rw [jm.eq_3,dti (by omega),ye (by omega),sm,List.range'_succ,eo i (by omega),h4]
    by_cases e:i∈L
    · rw [if_pos (by simp [e]),ixs hx,sm]
      by_cases h1:x.Kind=1
      · rw [gf h1,hyes,List.filter_cons_of_pos (by simp [e,hsm,h1])]
        simp
      rw [gR h1,sm]
      by_cases h12:x.Kind=12
      · rw [gf h12,hyes,List.filter_cons_of_pos (by simp [e,hsm,h12])]
        simp
      rw [gR h12,hno,List.filter_cons_of_neg (by simp [hsm,h1,h12])]
    rw [if_neg (by simp [e]),hno,List.filter_cons_of_neg (by simp [e])]
theorem Mb {p:af} (hr:rp p=true) (A:List Nat) (hA: ∀x∈A,x<(ls p.Code).length) (hl:A.length≤1000000): ∀(m k:Nat),m+k=A.length→
    jm (.p1 p (so (ints A)) (A.length:Int) (k:Int) (mk (ls p.Code).length (A.take k)) (so (ints A)))=jm (.p2 p 0 (mk (ls p.Code).length A) (so (ints A)))
  | 0,k,h=>by rw [jm.eq_1,eU (by omega),List.take_of_length_le (by omega)]
  | m+1,k,h=>by
    obtain ⟨i,hi⟩:=bQ A (i:=k) (by omega)
    have hki:(ints A)[k]? =some (i:Int):=by simp [ints,hi]
    have hil:=hA i (List.mem_of_getElem? hi)
    rw [jm.eq_1,dti (by omega),bq,ixs hki,sm,ye hil,sm,BG hil,←EK hi,eo k (by omega)]
    exact Mb hr A hA hl m (k+1) (by omega)
theorem f41 {p:af} (hr:rp p=true) (A:List Nat) (hA: ∀x∈A,x<(ls p.Code).length) (hn:A.Nodup):xJ p (so (ints A))=some (so (ints (cls (ls p.Code) A))):=by
 have hlen:=eK hr
 have hl:=eF _ A hn hA
 obtain ⟨L',h1,h2⟩:=Mc hr A (ls p.Code).length 0 A (by omega) (by omega) hn hA (fun x hx=>.base hx) (fun x hx=>hx) (fun q i hq=>by omega)
 unfold xJ
 rw [if_pos ⟨by omega,rfl,by omega⟩]
 have h0:=Mb hr A hA (by omega) A.length 0 (by omega)
 rw [List.take_zero,JG] at h0
 have h0':jm (.p1 p (so (ints A)) (A.length:Int) 0 (some (List.replicate (ls p.Code).length false)) (so (ints A)))=_:=h0
 have hil:(ls (so (ints A))).length=A.length:=by rw [bq];simp [ints]
 rw [hil,Int.toNat_natCast,h0']
 have h2':jm (.p2 p 0 (mk (ls p.Code).length A) (so (ints A)))=_:=h2
 rw [h2']
 have h3:=Ho hr L' (ls p.Code).length 0 [] (by omega) (by simp)
 have h3':jm (.p3 p (mk (ls p.Code).length L') ((ls p.Code).length:Int) 0 none)=_:=h3
 rw [h3']
 unfold cls
 rw [List.nil_append,List.range_eq_range']
 have e:(fun j=>sX (ls p.Code) j&&decide (j∈L'))=fun i=>sX (ls p.Code) i&& @decide (Rc (ls p.Code) A i) (Classical.propDecidable _):=by
  funext j
  congr 1
  exact decide_eq_decide.2 (h1 j)
 rw [e]
theorem Hz {C:List aT} {A:List Nat}: ∀x∈cls C A,x<C.length:=fun x hx=>by
 unfold cls at hx
 rw [List.mem_filter,List.mem_range] at hx
 exact hx.1
theorem IA (C:List aT) (A:List Nat):(cls C A).Nodup:=List.Pairwise.filter _ List.nodup_range
end Go.Proofs.YtcidnoghoifmmaaDoor
end
section
namespace Go.Proofs.YtcidnoghoifmmaaDoor
open Go AW
set_option maxHeartbeats 4000000
def tk (C:List aT) (c:UInt8) (i:Nat):Bool:=match C[i]? with
 | some x=>x.Kind==1&&hasB x.Set c
 | none=>false
def bh (C:List aT) (l:List Nat) (c:UInt8):List Nat:=(l.filter (tk C c)).map (· +1)
noncomputable def Wc (C:List aT) (l:List Nat) (c:UInt8):List Nat:=cls C (bh C l c)
noncomputable def run (C:List aT) (w:aZ):List Nat:=w.foldl (Wc C) (cls C [0])
theorem od (C:List aT) (w:aZ) (c:UInt8):run C (w++[c])=Wc C (run C w) c:=by simp [run]
theorem fY (C:List aT) (w:aZ): ∀x∈run C w,x<C.length:=by
 rcases List.eq_nil_or_concat w with rfl | ⟨w',c,rfl⟩
 ·exact Hz
 rw [List.concat_eq_append,od];exact Hz
theorem gi (C:List aT) (w:aZ):(run C w).Nodup:=by
 rcases List.eq_nil_or_concat w with rfl | ⟨w',c,rfl⟩
 ·exact IA _ _
 rw [List.concat_eq_append,od];exact IA _ _
theorem Vr {p:af} (hr:rp p=true) {c:UInt8} {i:Nat} (h:tk (ls p.Code) c i=true):i+1<(ls p.Code).length:=by
 unfold tk at h
 split at h
 ·rename_i x hx
  simp only [Bool.and_eq_true,beq_iff_eq] at h
  exact BS hr hx (by omega)
 simp at h
theorem MZ {p:af} (hr:rp p=true) (l:List Nat) (c:UInt8): ∀x∈bh (ls p.Code) l c,x<(ls p.Code).length:=by
 intro x hx
 unfold bh at hx
 rw [List.mem_map] at hx
 obtain ⟨i,hi,rfl⟩:=hx
 exact Vr hr (List.mem_filter.1 hi).2
theorem US (C:List aT) {l:List Nat} (h:l.Nodup) (c:UInt8):(bh C l c).Nodup:=by
 unfold bh
 refine List.Pairwise.map _ (fun a b (h:a≠b)=>?_) (List.Pairwise.filter _ h)
 omega
theorem Xe {p:af} (hr:rp p=true) (l:List Nat) (hlt: ∀x∈l,x<(ls p.Code).length) (hl:l.length≤1000000) (c:UInt8): ∀(m k:Nat) (O:List Nat),m+k=l.length→O.length≤k→
    EP (.p1 (c.toNat:Int) p (so (ints l)) (l.length:Int) (k:Int) (so (ints O)))=(xJ p (so (ints (O++bh (ls p.Code) (l.drop k) c)))>>=fun r=>some r)
  | 0,k,O,h,hO=>by
    rw [EP.eq_1,eU (by omega),List.drop_of_length_le (by omega)]
    simp [bh]
  | m+1,k,O,h,hO=>by
    obtain ⟨i,hi⟩:=bQ l (i:=k) (by omega)
    have hki:(ints l)[k]? =some (i:Int):=by simp [ints,hi]
    have hil:=hlt i (List.mem_of_getElem? hi)
    obtain ⟨x,hx⟩:=bQ (ls p.Code) hil
    have hlen:=eK hr
    have htk:tk (ls p.Code) c i=(x.Kind==1&&hasB x.Set c):=by unfold tk;rw [hx]
    have hno:=Xe hr l hlt hl c m (k+1) O (by omega) (by omega)
    have hyes:=Xe hr l hlt hl c m (k+1) (O++[i+1]) (by omega) (by simp;omega)
    rw [EP.eq_1,dti (by omega),bq,ixs hki,sm,ixs hx,sm,eo k (by omega),drop_cons hi]
    by_cases h1:x.Kind=1
    · rw [gf h1,f44,sm]
      by_cases hb:hasB x.Set c=true
      · rw [if_pos hb,bq,if_pos (by simp [ints,ls];omega),eo i (by omega)]
        have e:bW (so (ints O)) (ls (some [((i+1:Nat):Int)]))=so (ints (O++[i+1])):=by rw [eC];simp [ints,ls]
        rw [e,hyes]
        simp [bh,htk,h1,hb]
      rw [if_neg hb,hno]
      simp [bh,htk,hb]
    rw [gR h1,hno]
    simp [bh,htk,h1]
theorem VB {p:af} (hr:rp p=true) {l:List Nat} (hlt: ∀x∈l,x<(ls p.Code).length) (hn:l.Nodup) (c:UInt8):zT p (so (ints l)) (c.toNat:Int)=some (so (ints (Wc (ls p.Code) l c))):=by
 have hlen:=eK hr
 have hl:=eF _ l hn hlt
 unfold zT
 have h:=Xe hr l hlt (by omega) c l.length 0 [] (by omega) (by simp)
 have hil:(ls (so (ints l))).length=l.length:=by rw [bq];simp [ints]
 have h':EP (.p1 (c.toNat:Int) p (so (ints l)) (l.length:Int) 0 none)=_:=h
 rw [hil,h',List.nil_append,List.drop_zero,f41 hr _ (MZ hr l c) (US _ hn c),sm]
 rfl
def en (C:List aT) (l:List Nat):Bool:=match l.getLast? with
 | some i=>decide (i+1=C.length)
 | none=>false
theorem Dh {p:af} (hr:rp p=true) {l:List Nat} (hn:l.Nodup) (hlt: ∀x∈l,x<(ls p.Code).length):EO p (so (ints l))=some (en (ls p.Code) l):=by
 have hlen:=eK hr
 have hl:=eF _ l hn hlt
 unfold EO en
 have hil:(ls (so (ints l))).length=l.length:=by rw [bq];simp [ints]
 rw [hil]
 rcases List.eq_nil_or_concat l with rfl | ⟨l',i,rfl⟩
 ·rw [eU (by simp)];rfl
 rw [List.concat_eq_append] at hl hil ⊢
 rw [dti (by simp),Cu _ (by simp) (by simp at hl ⊢;omega),bq]
 have:(ints (l'++[i]))[(l'++[i]).length-1]? =some (i:Int):=by simp [ints]
 rw [ixs this,sm,Cu _ hlen.1 (by omega)]
 simp only [List.getLast?_append,List.getLast?_singleton,Option.some_or]
 congr 1
 rw [Bool.eq_iff_iff,beq_iff_eq,decide_eq_true_eq]
 omega
theorem ny: ∀(u:Nat),∀c∈Lib.decDigits u,c≠32∧c≠47:=by
  intro u
  induction u using Nat.strongRecOn with
  | _ u ih=>
    have key: ∀d:Fin 10,UInt8.ofNat (48+d.val)≠32∧UInt8.ofNat (48+d.val)≠47:=by decide+kernel
    rw [Lib.decDigits]
    split
    · intro c hc
      rename_i h
      simp only [List.mem_singleton] at hc
      subst hc
      exact key ⟨u,h⟩
    intro c hc
    rw [List.mem_append] at hc
    rcases hc with hc | hc
    · exact ih _ (by omega) c hc
    simp only [List.mem_singleton] at hc
    subst hc
    exact key ⟨u%10,by omega⟩
theorem Mi (u:Nat):Lib.decDigits u≠[]:=by
 rw [Lib.decDigits]
 split<;>simp
theorem Qa: ∀(u v:Nat),Lib.decDigits u=Lib.decDigits v→u=v:=by
  intro u
  induction u using Nat.strongRecOn with
  | _ u ih=>
    intro v h
    have key: ∀d e:Fin 10,UInt8.ofNat (48+d.val)=UInt8.ofNat (48+e.val)→d=e:=by decide+kernel
    have hl:=congrArg List.length h
    rw [Lib.decDigits_length,Lib.decDigits_length] at hl
    by_cases hu:u<10
    · have hv:v<10:=by
        apply Classical.byContradiction
        intro hv
        rw [Lib.nDigits_small hu,Lib.nDigits_big hv] at hl
        have:=Lib.nDigits_pos (v/10)
        omega
      rw [Lib.decDigits_one hu,Lib.decDigits_one hv] at h
      have:=key ⟨u,hu⟩ ⟨v,hv⟩ (by simpa using h)
      simpa using this
    have hv: ¬v<10:=by
      intro hv
      rw [Lib.nDigits_big hu,Lib.nDigits_small hv] at hl
      have:=Lib.nDigits_pos (u/10)
      omega
    rw [Lib.decDigits,dif_neg hu] at h
    rw [Lib.decDigits.eq_def v,dif_neg hv] at h
    have h2:=List.append_inj' h rfl
    have h3:=ih (u/10) (by omega) (v/10) h2.1
    have h4:=key ⟨u%10,by omega⟩ ⟨v%10,by omega⟩ (by simpa using h2.2)
    simp only [Fin.mk.injEq] at h4
    omega
def kl (l:List Nat):aZ:=l.flatMap fun i=>Lib.decDigits i++[32]
theorem Cs: ∀(x y r s:aZ),(∀c∈x,c≠(32:UInt8))→(∀c∈y,c≠(32:UInt8))→x++32::r=y++32::s→x=y∧r=s
  | [],[],r,s,_,_,h=>by simpa using h
  | [],b::y,r,s,_,hy,h=>by
    simp only [List.nil_append,List.cons_append,List.cons.injEq] at h
    exact absurd h.1.symm (hy b (by simp))
  | a::x,[],r,s,hx,_,h=>by
    simp only [List.nil_append,List.cons_append,List.cons.injEq] at h
    exact absurd h.1 (hx a (by simp))
  | a::x,b::y,r,s,hx,hy,h=>by
    simp only [List.cons_append,List.cons.injEq] at h
    obtain ⟨h1,h2⟩:=Cs x y r s (fun c hc=>hx c (by simp [hc])) (fun c hc=>hy c (by simp [hc])) h.2
    exact ⟨by rw [h.1,h1],h2⟩
theorem Au: ∀(a b:List Nat) (r s:aZ),kl a++47::r=kl b++47::s→a=b∧r=s
  | [],[],r,s,h=>by simpa [kl] using h
  | [],j::b,r,s,h=>by
    have hd:=ny j
    cases e:Lib.decDigits j with
    | nil=>exact absurd e (Mi j)
    | cons c t=>
      simp only [kl,List.flatMap_nil,List.nil_append,List.flatMap_cons,e,List.cons_append,List.cons.injEq] at h
      exact absurd h.1.symm (hd c (by simp [e])).2
  | i::a,[],r,s,h=>by
    have hd:=ny i
    cases e:Lib.decDigits i with
    | nil=>exact absurd e (Mi i)
    | cons c t=>
      simp only [kl,List.flatMap_nil,List.nil_append,List.flatMap_cons,e,List.cons_append,List.cons.injEq] at h
      exact absurd h.1 (hd c (by simp [e])).2
  | i::a,j::b,r,s,h=>by
    simp only [kl,List.flatMap_cons,List.append_assoc,List.singleton_append,List.cons_append,List.nil_append] at h
    obtain ⟨h1,h2⟩:=Cs _ _ _ _ (fun c hc=>(ny i c hc).1) (fun c hc=>(ny j c hc).1) h
    obtain ⟨h3,h4⟩:=Au a b r s h2
    exact ⟨by rw [Qa _ _ h1,h3],h4⟩
def ky (a b:List Nat):aZ:=kl a++47::kl b
theorem RF {a b a' b':List Nat} (h:ky a b=ky a' b'):a=a'∧b=b':=by
 obtain ⟨h1,h2⟩:=Au _ _ _ _ h
 have h3:kl b++47::[]=kl b'++47::[]:=by rw [h2]
 exact ⟨h1,(Au _ _ _ _ h3).1⟩
theorem UU (b s:aZ) (h:b.length+s.length≤100000000000000):MY b s=some ((s.length:Int),(),b++s):=by
 unfold MY;rw [if_pos (by omega)]
theorem Hh (b:aZ) (n:Nat) (hn:n<256) (h:b.length≤100000000000000):xg b (n:Int)=some ((),b++[UInt8.ofNat n]):=by
 unfold xg;rw [if_pos ⟨by omega,by omega⟩];simp
theorem UT (b:aZ) (h:b.length≤100000000000000):By b=some b:=by
 unfold By;rw [if_pos (by omega)]
theorem NX: ∀(k u:Nat),u<10 ^ (k+1)→Lib.nDigits u≤k+1
  | 0,u,h=>by rw [Lib.nDigits_small (by simpa using h)];omega
  | k+1,u,h=>by
    by_cases h0:u<10
    · rw [Lib.nDigits_small h0];omega
    rw [Lib.nDigits_big h0]
    rw [Nat.pow_succ] at h
    have:=NX k (u/10) (by omega)
    omega
theorem ID (i:Nat) (h:i≤1000000000):(Lib.decDigits i).length≤21:=by
 rw [Lib.decDigits_length]
 have:=NX 9 i (by simp;omega)
 omega
theorem NN (i:Nat) (h:i≤1000000000):oK (i:Int)=some (Lib.decDigits i):=by
 unfold oK;rw [if_pos ⟨by omega,by omega⟩,Lib.itoa_nonneg]
theorem Mv (l:List Nat) (hlt: ∀x∈l,x≤1000000) (hl:l.length≤1000000): ∀(m k:Nat) (s:aZ),m+k=l.length→s.length≤50000000+22*k→
    zy (.p2 (so (ints l)) (l.length:Int) (k:Int) s)=some (s++kl (l.drop k))
  | 0,k,s,h,hs=>by
    rw [zy.eq_2,eU (by omega),List.drop_of_length_le (by omega),UT _ (by omega),sm]
    simp [kl]
  | m+1,k,s,h,hs=>by
    obtain ⟨i,hi⟩:=bQ l (i:=k) (by omega)
    have hki:(ints l)[k]? =some (i:Int):=by simp [ints,hi]
    have hil:=hlt i (List.mem_of_getElem? hi)
    have hd:=ID i (by omega)
    rw [zy.eq_2,dti (by omega),bq,ixs hki,sm,NN i (by omega),sm,UU _ _ (by omega),sm]
    show (xg (s++Lib.decDigits i) ((32:Nat):Int)>>=_)=_
    rw [Hh _ 32 (by omega) (by simp;omega),sm,eo k (by omega),drop_cons hi]
    have h2:=Mv l hlt hl m (k+1) (s++Lib.decDigits i++[32]) (by omega) (by simp;omega)
    refine h2.trans ?_
    simp [kl]
theorem Mu (x:bw) (l b:List Nat) (hb:x.b=so (ints b)) (hblt: ∀x∈b,x≤1000000) (hbl:b.length≤1000000) (hlt: ∀x∈l,x≤1000000) (hl:l.length≤1000000): ∀(m k:Nat) (s:aZ),m+k=l.length→s.length≤22*k→
    zy (.p1 x (so (ints l)) (l.length:Int) (k:Int) s)=some (s++kl (l.drop k)++47::kl b)
  | 0,k,s,h,hs=>by
    rw [zy.eq_1,eU (by omega),List.drop_of_length_le (by omega)]
    show (xg s ((47:Nat):Int)>>=_)=_
    have hil:(ls (so (ints b))).length=b.length:=by rw [bq];simp [ints]
    rw [Hh _ 47 (by omega) (by omega),sm,hb,hil]
    have h2:=Mv b hblt hbl b.length 0 (s++[47]) (by omega) (by simp;omega)
    refine Eq.trans h2 ?_
    simp [kl]
  | m+1,k,s,h,hs=>by
    obtain ⟨i,hi⟩:=bQ l (i:=k) (by omega)
    have hki:(ints l)[k]? =some (i:Int):=by simp [ints,hi]
    have hil:=hlt i (List.mem_of_getElem? hi)
    have hd:=ID i (by omega)
    rw [zy.eq_1,dti (by omega),bq,ixs hki,sm,NN i (by omega),sm,UU _ _ (by omega),sm]
    show (xg (s++Lib.decDigits i) ((32:Nat):Int)>>=_)=_
    rw [Hh _ 32 (by omega) (by simp;omega),sm,eo k (by omega),drop_cons hi]
    have h2:=Mu x l b hb hblt hbl hlt hl m (k+1) (s++Lib.decDigits i++[32]) (by omega) (by simp;omega)
    refine h2.trans ?_
    simp [kl]
theorem Xn (a b:List Nat) (t:aZ) (ha: ∀x∈a,x≤1000000) (hal:a.length≤1000000) (hb: ∀x∈b,x≤1000000) (hbl:b.length≤1000000):ri {a:=so (ints a),b:=so (ints b),text:=t}=some (ky a b):=by
 unfold ri
 have hil:(ls (so (ints a))).length=a.length:=by rw [bq];simp [ints]
 have h:=Mu {a:=so (ints a),b:=so (ints b),text:=t} a b rfl hb hbl ha hal a.length 0 [] (by omega) (by simp)
 rw [hil]
 refine Eq.trans h ?_
 simp [ky]
end Go.Proofs.YtcidnoghoifmmaaDoor
end
section
namespace Go.Proofs.YtcidnoghoifmmaaDoor
open Go AW
set_option maxHeartbeats 4000000
theorem Mx (n:aK) (hl:(ls n.Kids).length≤100000) (hn: ∀k∈ls n.Kids,DC (.e k)=some (ak k)): ∀(m i:Nat),m+i=(ls n.Kids).length→DC (.p1 n (i:Int))=some (Kn ((ls n.Kids).drop i))
  | 0,i,h=>by rw [DC.eq_2,eU (by omega),List.drop_of_length_le (by omega)];rfl
  | m+1,i,h=>by
    obtain ⟨c,hc⟩:=bQ (ls n.Kids) (i:=i) (by omega)
    rw [DC.eq_2,dti (by omega),ixs hc,sm,hn c (List.mem_of_getElem? hc),sm,drop_cons hc,Kn]
    cases ak c with
    | true=>rfl
    | false=>
      rw [WZ rfl,eo i (by omega),Bool.false_or]
      exact Mx n hl hn m (i+1) (by omega)
theorem g47: ∀(n:aK),cnt n≤100000→DC (.e n)=some (ak n):=by
  intro n
  induction n using cW with
  | h n ih=>
    intro hc
    have h1:=dV (ls n.Kids)
    have h2:=eI n
    have h3:=Mx n (by omega) (fun k hk=>ih k hk (by have:=eW hk;omega)) (ls n.Kids).length 0 (by omega)
    have h3':DC (.p1 n 0)=some (Kn (ls n.Kids)):=by rw [List.drop_zero] at h3;exact h3
    rw [DC.eq_1,MW]
    by_cases e8:n.Kind=8
    · rw [gf e8];simp [e8]
    rw [gR e8]
    by_cases e9:n.Kind=9
    · rw [gf e9];simp [e9]
    rw [gR e9,h3'];simp [e8,e9]
theorem Mw (n:aK) (hl:(ls n.Kids).length≤100000) (hn: ∀k∈ls n.Kids,DB (.e k)=some (bk k)): ∀(m i:Nat),m+i=(ls n.Kids).length→DB (.p1 n.Kids ((ls n.Kids).length:Int) (i:Int))=some (Kt ((ls n.Kids).drop i))
  | 0,i,h=>by rw [DB.eq_2,eU (by omega),List.drop_of_length_le (by omega)];rfl
  | m+1,i,h=>by
    obtain ⟨c,hc⟩:=bQ (ls n.Kids) (i:=i) (by omega)
    rw [DB.eq_2,dti (by omega),ixs hc,sm,hn c (List.mem_of_getElem? hc),sm,xj hc]
    cases bk c with
    | true=>rfl
    | false=>
      rw [WZ rfl,eo i (by omega),Bool.false_or]
      exact Mw n hl hn m (i+1) (by omega)
theorem g46: ∀(n:aK),cnt n≤100000→DB (.e n)=some (bk n):=by
  intro n
  induction n using cW with
  | h n ih=>
    intro hc
    have h1:=dV (ls n.Kids)
    have h2:=eI n
    have h3:=Mw n (by omega) (fun k hk=>ih k hk (by have:=eW hk;omega)) (ls n.Kids).length 0 (by omega)
    have h3':DB (.p1 n.Kids ((ls n.Kids).length:Int) 0)=some (Kt (ls n.Kids)):=by rw [List.drop_zero] at h3;exact h3
    rw [DB.eq_1,Ma]
    by_cases e:n.Kind=7
    · rw [gf e];simp [e]
    rw [gR e,h3'];simp [e]
theorem f24 (n:aK) (hc:cnt n≤10000000):Re n=xV n:=by
 obtain ⟨r,hr,w,hw,h1,h2,h3⟩:=f10 n
 unfold Re xV
 rw [f45 n hc,hr,sm,sm]
 by_cases h0:r.2=0
 ·obtain ⟨hg,hc8,hsz,hw1,hp⟩:=h3 (by rw [←h1];exact h0)
  have e46:Wt n=some (bk n):=g46 n (by omega)
  have e47:Wu n=some (ak n):=g47 n (by omega)
  rw [zU h0,zU h0,e46,sm,f48 (n:=n) (by omega),sm,e47,UH (n:=n) (by omega),sm]
 rw [BI h0,BI h0]
theorem Ll {α :Type} (L:List α) (x: α) (h:L.length≤1000000):mG (so (L++[x])) 0 (L.length:Int)=some (some L):=by
 have e:so (L++[x])=some (L++[x]):=by cases L<;>rfl
 rw [e]
 simp only [mG]
 rw [if_pos (by simp;omega)]
 simp
theorem Hj {p:af} (hr:rp p=true) (A:List Nat): ∀(M:Nat) (T S:List Nat) (todo:Sl Int),T.length+3*((ls p.Code).length-S.length)≤M→ls todo=ints T→(∀x∈T,x<(ls p.Code).length)→S.Nodup→(∀x∈S,x<(ls p.Code).length)→(∀x∈T,Rc (ls p.Code) A x)→(∀x∈S,Rc (ls p.Code) A x)→(∀x∈A,x∈T∨x∈S)→(∀i∈S,∀j∈nx (ls p.Code) i,j∈T∨j∈S)→T.length≤100000+2*S.length→
    ∃S',(∀j,j∈S'↔Rc (ls p.Code) A j)∧ox (.p1 p todo (mk (ls p.Code).length S))=ox (.p2 p 0 (mk (ls p.Code).length S') none)
  | M,T,S,todo,hM,ht,hT,hn,hS,hTr,hSr,hA,hc,hlen=>by
    have hcl:=eK hr
    have hSl:=eF _ S hn hS
    have htl:(ls todo).length=T.length:=by rw [ht];simp [ints]
    rcases List.eq_nil_or_concat T with rfl | ⟨T',k,rfl⟩
    · refine ⟨S,fun j=>⟨hSr j,fun hj=>?_⟩,?_⟩
      · induction hj with
        | base h=>exact (hA _ h).resolve_left (by simp)
        | step _ h2 ih=>exact (hc _ ih _ h2).resolve_left (by simp)
      rw [ox.eq_1,eU (by rw [htl];simp)]
    rw [List.concat_eq_append] at *
    have hk:=hT k (by simp)
    have htodo:todo=so (ints (T'++[k])):=by
      cases todo with
      | none=>simp [ls,ints] at ht
      | some l=>
        have:l=ints (T'++[k]):=ht
        rw [this]
        cases T'<;>rfl
    obtain ⟨x,hx⟩:=bQ (ls p.Code) hk
    have hlast:(ints (T'++[k]))[(T'++[k]).length-1]? =some (k:Int):=by simp [ints]
    have hcutl:((T'++[k]).length-1:Nat)=T'.length:=by simp
    have hT'l:T'.length≤400000:=by simp at hlen;omega
    have hcut:mG todo 0 ((T'.length:Nat):Int)=some (some (ints T')):=by
      rw [htodo]
      have e:ints (T'++[k])=ints T'++[(k:Int)]:=by simp [ints]
      have e2:((ints T').length:Int)=(T'.length:Int):=by simp [ints]
      rw [e,←e2]
      exact Ll (ints T') _ (by simp [ints];omega)
    rw [ox.eq_1,dti (by rw [htl];simp),htl,Cu _ (by simp) (by simp;omega),ht,ixs hlast,sm,hcutl,hcut,sm,ye hk,sm]
    have hT': ∀y∈T',y<(ls p.Code).length:=fun y hy=>hT y (by simp [hy])
    have hTr': ∀y∈T',Rc (ls p.Code) A y:=fun y hy=>hTr y (by simp [hy])
    by_cases hkS:k∈S
    · match M,hM with
      | 0,hM=>simp at hM
      | M+1,hM=>
        rw [if_pos (by simp [hkS])]
        exact Hj hr A M T' S (some (ints T')) (by simp at hM;omega) rfl hT' hn hS hTr' hSr (fun y hy=>by
          rcases hA y hy with h | h
          · rcases List.mem_append.1 h with h | h
            · exact .inl h
            simp at h;subst h;exact .inr hkS
          · exact .inr h) (fun i hi j hj=>by
          rcases hc i hi j hj with h | h
          · rcases List.mem_append.1 h with h | h
            · exact .inl h
            simp at h;subst h;exact .inr hkS
          exact .inr h) (by simp at hlen;omega)
    have hS1:(S++[k]).Nodup:=by
      rw [List.nodup_append];exact ⟨hn,by simp,by simp;rintro a ha rfl;exact hkS ha⟩
    have hS2: ∀y∈S++[k],y<(ls p.Code).length:=fun y hy=>by
      rcases List.mem_append.1 hy with h | h
      · exact hS y h
      simp at h;subst h;exact hk
    have hSl2:=eF _ _ hS1 hS2
    simp at hSl2
    have hkr:=hTr k (by simp)
    have hgo: ∀(N:List Nat),nx (ls p.Code) k=N∨(∀j,j∈nx (ls p.Code) k↔j∈N)→N.length≤2→ ∃S',(∀j,j∈S'↔Rc (ls p.Code) A j)∧ox (.p1 p (bW (some (ints T')) (ints N)) (mk (ls p.Code).length (S++[k])))=ox (.p2 p 0 (mk (ls p.Code).length S') none):=by
      intro N hN hNl
      have hN': ∀j,j∈nx (ls p.Code) k↔j∈N:=by
        rcases hN with h | h
        · rw [h];exact fun _=>Iff.rfl
        exact h
      match M,hM with
      | 0,hM=>simp at hM
      | M+1,hM=>
        refine Hj hr A M (T'++N) (S++[k]) _ (by simp at hM ⊢;omega) (by rw [Cb];simp [ls,ints]) (fun y hy=>?_) hS1 hS2 (fun y hy=>?_) (fun y hy=>?_) (fun y hy=>?_) (fun i hi j hj=>?_) (by simp at hlen ⊢;omega)
        · rcases List.mem_append.1 hy with h | h
          · exact hT' y h
          exact NZ hr ((hN' y).2 h)
        · rcases List.mem_append.1 hy with h | h
          · exact hTr' y h
          exact .step hkr ((hN' y).2 h)
        · rcases List.mem_append.1 hy with h | h
          · exact hSr y h
          simp at h;subst h;exact hkr
        · rcases hA y hy with h | h
          · rcases List.mem_append.1 h with h | h
            · exact .inl (by simp [h])
            exact .inr (by simp at h;simp [h])
          exact .inr (by simp [h])
        rcases List.mem_append.1 hi with h | h
        · rcases hc i h j hj with h2 | h2
          · rcases List.mem_append.1 h2 with h2 | h2
            · exact .inl (by simp [h2])
            exact .inr (by simp at h2;simp [h2])
          exact .inr (by simp [h2])
        simp at h;subst h
        exact .inl (by simp [(hN' j).1 hj])
    have hnx:nx (ls p.Code) k=if x.Kind=1 then [] else if x.Kind=12 then [] else if x.Kind=2 then [k+1,x.To.toNat] else if x.Kind=3 then [x.To.toNat] else [k+1]:=by unfold nx;rw [hx]
    have hnil:bW (some (ints T')) (ints [])=some (ints T'):=by show some (ints T'++[])=_;rw [List.append_nil]
    obtain ⟨hf,-⟩:=Cm hr hx
    rw [if_neg (by simp [hkS]),sm,ixs hx,sm,BG hk]
    by_cases h1:x.Kind=1
    · rw [gf h1]
      have:=hgo [] (.inl (by rw [hnx,if_pos h1])) (by simp)
      rw [hnil] at this;exact this
    rw [gR h1]
    by_cases h12:x.Kind=12
    · rw [gf h12]
      have:=hgo [] (.inl (by rw [hnx,if_neg h1,if_pos h12])) (by simp)
      rw [hnil] at this;exact this
    rw [gR h12]
    by_cases h2:x.Kind=2
    · have ht2:=pQ hf (.inl h2)
      obtain ⟨t,ht'⟩:=sw ht2.1
      have htn:x.To.toNat=t:=by omega
      have e:ls (some ([IntKind.wrap .i64 ((k:Int)+1),x.To]:List Int))=ints [k+1,t]:=by rw [eo k (by omega),ht'];rfl
      rw [gf h2,sm,e,if_pos (by simp [ls,ints];omega)]
      exact hgo [k+1,t] (.inl (by rw [hnx,if_neg h1,if_neg h12,if_pos h2,htn])) (by simp)
    rw [gR h2]
    by_cases h3:x.Kind=3
    · have ht3:=pQ hf (.inr h3)
      obtain ⟨t,ht'⟩:=sw ht3.1
      have htn:x.To.toNat=t:=by omega
      have e:ls (some ([x.To]:List Int))=ints [t]:=by rw [ht'];rfl
      rw [gf h3,sm,e,if_pos (by simp [ls,ints];omega)]
      exact hgo [t] (.inl (by rw [hnx,if_neg h1,if_neg h12,if_neg h2,if_pos h3,htn])) (by simp)
    rw [gR h3]
    have e:ls (some ([IntKind.wrap .i64 ((k:Int)+1)]:List Int))=ints [k+1]:=by rw [eo k (by omega)];rfl
    rw [e,if_pos (by simp [ls,ints];omega)]
    exact hgo [k+1] (.inl (by rw [hnx,if_neg h1,if_neg h12,if_neg h2,if_neg h3])) (by simp)
theorem Hl {p:af} (hr:rp p=true) (L:List Nat): ∀(m i:Nat) (O:List Nat),m+i=(ls p.Code).length→O.length≤i→ox (.p2 p (i:Int) (mk (ls p.Code).length L) (so (ints O)))=some (so (ints (O++(List.range' i m).filter fun j=>sX (ls p.Code) j&&decide (j∈L))))
  | 0,i,O,h,hO=>by
    rw [ox.eq_2,BF,eU (by omega)]
    simp
  | m+1,i,O,h,hO=>by
    have hlen:=eK hr
    obtain ⟨x,hx⟩:=bQ (ls p.Code) (i:=i) (by omega)
    have hsm:sX (ls p.Code) i=(x.Kind==1||x.Kind==12):=by unfold sX;rw [hx]
    have h4:ox (.p3 p (i:Int) (mk (ls p.Code).length L) (so (ints O)))=ox (.p2 p ((i+1:Nat):Int) (mk (ls p.Code).length L) (so (ints (O++[i])))):=by
      rw [ox.eq_3,bq,if_pos (by simp [ints,ls];omega),eo i (by omega),eC]
      simp [ints,ls]
    have hno:=Hl hr L m (i+1) O (by omega) (by omega)
    have hyes:=Hl hr L m (i+1) (O++[i]) (by omega) (by simp;omega)
    rw [ox.eq_2,BF,dti (by omega),ye (by omega),sm,List.range'_succ,eo i (by omega),h4]
    by_cases e:i∈L
    · rw [if_pos (by simp [e]),ixs hx,sm]
      by_cases h1:x.Kind=1
      · rw [gf h1,hyes,List.filter_cons_of_pos (by simp [e,hsm,h1])]
        simp
      rw [gR h1,sm]
      by_cases h12:x.Kind=12
      · rw [gf h12,hyes,List.filter_cons_of_pos (by simp [e,hsm,h12])]
        simp
      rw [gR h12,hno,List.filter_cons_of_neg (by simp [hsm,h1,h12])]
    rw [if_neg (by simp [e]),hno,List.filter_cons_of_neg (by simp [e])]
theorem f26 {p:af} (hr:rp p=true) (A:List Nat) (hA: ∀x∈A,x<(ls p.Code).length) (hAl:A.length≤100000):Ju p (so (ints A))=some (so (ints (cls (ls p.Code) A))):=by
 have hlen:=eK hr
 obtain ⟨S',h1,h2⟩:=Hj hr A (A.length+3*(ls p.Code).length) A [] (so (ints A)) (by simp) (bq _) hA (by simp) (by simp) (fun x hx=>.base hx) (by simp) (fun x hx=>.inl hx) (by simp) (by simp;omega)
 unfold Ju
 rw [if_pos ⟨by omega,rfl,by omega⟩,Int.toNat_natCast,←JG,h2]
 have h3:=Hl hr S' (ls p.Code).length 0 [] (by omega) (by simp)
 have h3':ox (.p2 p 0 (mk (ls p.Code).length S') none)=_:=h3
 rw [h3']
 unfold cls
 rw [List.nil_append,List.range_eq_range']
 have e:(fun j=>sX (ls p.Code) j&&decide (j∈S'))=fun i=>sX (ls p.Code) i&& @decide (Rc (ls p.Code) A i) (Classical.propDecidable _):=by
  funext j
  congr 1
  exact decide_eq_decide.2 (h1 j)
 rw [e]
end Go.Proofs.YtcidnoghoifmmaaDoor
end
section
namespace Go.Proofs.YtcidnoghoifmmaaDoor
open Go AW
set_option maxHeartbeats 4000000
def zC (C:List aT) (c:Nat):aZ:=(C.filter fun x=>x.Kind==1).map fun x=>if hasB x.Set (UInt8.ofNat c)=true then 49 else 48
def sg (C D:List aT) (c:Nat):aZ:=zC C c++zC D c
def lA (C D:List aT):List Nat:=(List.range 256).filter fun c=>decide (∀d,d<c→sg C D d≠sg C D c)
theorem Lr {c:Nat} (h:c<256):(UInt8.ofNat c).toNat=c:=by simp [Nat.mod_eq_of_lt h]
theorem YK {c:Nat} (h:c<256):IntKind.wrap .u8 (c:Int)=(c:Int):=by
 have key: ∀d:Fin 256,IntKind.wrap .u8 (d.val:Int)=(d.val:Int):=by decide+kernel
 exact key ⟨c,h⟩
theorem xB (C:List aT) (c:Nat):(zC C c).length=(C.filter fun x=>x.Kind==1).length:=by simp [zC]
theorem Ji (C:List aT) (c:Nat):(zC C c).length≤C.length:=by rw [xB];exact List.length_filter_le _ _
theorem Jh {C:List aT} {k:Nat} {x:aT} (h:C[k]? =some x) (c:Nat):zC (C.drop k) c=(if x.Kind=1 then [if hasB x.Set (UInt8.ofNat c)=true then 49 else 48] else [])++zC (C.drop (k+1)) c:=by
 rw [drop_cons h]
 unfold zC
 by_cases e:x.Kind=1
 ·rw [List.filter_cons_of_pos (by simp [e]),if_pos e];rfl
 rw [List.filter_cons_of_neg (by simp [e]),if_neg e];rfl
theorem yP (p q:af) {c:Nat} (hc:c<256) (t14:Int) (t21:Sl (Sl aT)) (t22 t23:Int) (seen:Mp aZ Bool) (out:Sl Int) (V:Sl aT) (hV:(ls V).length≤1000000): ∀(m k:Nat) (s:aZ),m+k=(ls V).length→s.length≤1000000+k→
    nZ (.p3 p q (c:Int) t14 t21 t22 t23 V ((ls V).length:Int) (k:Int) seen out s)=nZ (.p2 p q (c:Int) t14 t21 t22 (IntKind.wrap .i64 (t23+1)) seen out (s++zC ((ls V).drop k) c))
  | 0,k,s,h,hs=>by
    rw [nZ.eq_3,eU (by omega),List.drop_of_length_le (by omega)]
    simp [zC]
  | m+1,k,s,h,hs=>by
    obtain ⟨x,hx⟩:=bQ (ls V) (i:=k) (by omega)
    rw [nZ.eq_3,dti (by omega),ixs hx,sm,eo k (by omega),Jh hx]
    by_cases h1:x.Kind=1
    · rw [gf h1,if_pos h1,YK hc]
      have e:=f44 x.Set (UInt8.ofNat c)
      rw [Lr hc] at e
      rw [e,sm]
      cases hb:hasB x.Set (UInt8.ofNat c) with
      | true=>
        have h2:=yP p q hc t14 t21 t22 t23 seen out V hV m (k+1) (s++[49]) (by omega) (by simp;omega)
        have e2:Oz true=some 1:=rfl
        have e3:ix ([48,49]:aZ) 1=some 49:=by decide
        rw [e2,sm,e3,sm]
        show (xg s ((49:Nat):Int)>>=_)=_
        rw [Hh _ 49 (by omega) (by omega),sm]
        refine h2.trans ?_
        simp
      | false=>
        have h2:=yP p q hc t14 t21 t22 t23 seen out V hV m (k+1) (s++[48]) (by omega) (by simp;omega)
        have e2:Oz false=some 0:=rfl
        have e3:ix ([48,49]:aZ) 0=some 48:=by decide
        rw [e2,sm,e3,sm]
        show (xg s ((48:Nat):Int)>>=_)=_
        rw [Hh _ 48 (by omega) (by omega),sm]
        refine h2.trans ?_
        simp
    rw [gR h1,if_neg h1,List.nil_append]
    exact yP p q hc t14 t21 t22 t23 seen out V hV m (k+1) s (by omega) (by omega)
theorem Ie {p q:af} (hp:rp p=true) (hq:rp q=true): ∀(m t:Nat) (seen:Mp aZ Bool),m+t=256→(∀s,Option.getD (Mp.get seen s) false=true↔ ∃d,d<t∧sg (ls p.Code) (ls q.Code) d=s)→
    nZ (.p1 p q (t:Int) seen (so (ints ((List.range t).filter fun c=>decide (∀d,d<c→sg (ls p.Code) (ls q.Code) d≠sg (ls p.Code) (ls q.Code) c)))))=some (so (ints (lA (ls p.Code) (ls q.Code))))
  | 0,t,seen,h,hs=>by
    obtain rfl:t=256:=by omega
    rw [nZ.eq_1,eU (by omega)];rfl
  | m+1,t,seen,h,hs=>by
    have ht:t<256:=by omega
    have lp:=eK hp
    have lq:=eK hq
    have b1:=Ji (ls p.Code) t
    have b2:=Ji (ls q.Code) t
    rw [nZ.eq_1,dti (by omega)]
    show nZ (.p2 p q (t:Int) (t:Int) (some [p.Code,q.Code]) 2 0 seen _ [])=_
    rw [nZ.eq_2,dti (by decide)]
    show nZ (.p3 p q (t:Int) (t:Int) (some [p.Code,q.Code]) 2 0 p.Code _ 0 seen _ [])=_
    have h3:=yP p q ht (t:Int) (some [p.Code,q.Code]) 2 0 seen (so (ints ((List.range t).filter fun c=>decide (∀d,d<c→sg (ls p.Code) (ls q.Code) d≠sg (ls p.Code) (ls q.Code) c)))) p.Code (by omega) (ls p.Code).length 0 [] (by omega) (by simp)
    refine Eq.trans h3 ?_
    show nZ (.p2 p q (t:Int) (t:Int) (some [p.Code,q.Code]) 2 1 seen _ (zC (ls p.Code) t))=_
    rw [nZ.eq_2,dti (by decide)]
    show nZ (.p3 p q (t:Int) (t:Int) (some [p.Code,q.Code]) 2 1 q.Code _ 0 seen _ (zC (ls p.Code) t))=_
    have h4:=yP p q ht (t:Int) (some [p.Code,q.Code]) 2 1 seen (so (ints ((List.range t).filter fun c=>decide (∀d,d<c→sg (ls p.Code) (ls q.Code) d≠sg (ls p.Code) (ls q.Code) c)))) q.Code (by omega) (ls q.Code).length 0 (zC (ls p.Code) t) (by omega) (by omega)
    refine Eq.trans h4 ?_
    show nZ (.p2 p q (t:Int) (t:Int) (some [p.Code,q.Code]) 2 2 seen _ (sg (ls p.Code) (ls q.Code) t))=_
    have hsl:(sg (ls p.Code) (ls q.Code) t).length≤100000:=by simp [sg];omega
    rw [nZ.eq_2,eU (by decide),UT _ (by omega),sm]
    by_cases e: ∃d,d<t∧sg (ls p.Code) (ls q.Code) d=sg (ls p.Code) (ls q.Code) t
    · have hg:=(hs _).2 e
      rw [if_neg (by simp [hg]),eo t (by omega)]
      have h5:=Ie hp hq m (t+1) seen (by omega) (fun s=>(hs s).trans ⟨fun ⟨d,h1,h2⟩=>⟨d,by omega,h2⟩,fun ⟨d,h1,h2⟩=>by
        by_cases hd:d=t
        · subst hd
          obtain ⟨d',h3,h4⟩:=e
          exact ⟨d',h3,h4.trans h2⟩
        exact ⟨d,by omega,h2⟩⟩)
      rw [List.range_succ,List.filter_append] at h5
      have hf:([t].filter fun c=>decide (∀d,d<c→sg (ls p.Code) (ls q.Code) d≠sg (ls p.Code) (ls q.Code) c))=[]:=by
        rw [List.filter_cons_of_neg]
        · rfl
        simp only [decide_eq_true_eq]
        obtain ⟨d,h1,h2⟩:=e
        exact fun h=>h d h1 h2
      rw [hf,List.append_nil] at h5
      exact h5
    have hg:Option.getD (Mp.get seen (sg (ls p.Code) (ls q.Code) t)) false=false:=by
      rw [Bool.eq_false_iff]
      exact fun h=>e ((hs _).1 h)
    have hlen:((List.range t).filter fun c=>decide (∀d,d<c→sg (ls p.Code) (ls q.Code) d≠sg (ls p.Code) (ls q.Code) c)).length≤t:=by
      refine Nat.le_trans (List.length_filter_le _ _) ?_
      simp
    rw [if_pos (by simp [hg]),sm,sm,bq,if_pos (by simp [ints,ls] at hlen ⊢;omega),eo t (by omega),YK ht,eC]
    have h5:=Ie hp hq m (t+1) (Mp.put seen (sg (ls p.Code) (ls q.Code) t) true) (by omega) (fun s=>by
      unfold Mp.put
      simp only []
      by_cases hst:s=sg (ls p.Code) (ls q.Code) t
      · rw [if_pos hst]
        exact ⟨fun _=>⟨t,by omega,hst.symm⟩,fun _=>rfl⟩
      rw [if_neg hst,hs s]
      exact ⟨fun ⟨d,h1,h2⟩=>⟨d,by omega,h2⟩,fun ⟨d,h1,h2⟩=>⟨d,by
        have:d≠t:=fun h=>hst (by rw [←h2,h])
        omega,h2⟩⟩)
    rw [List.range_succ,List.filter_append] at h5
    have hf:([t].filter fun c=>decide (∀d,d<c→sg (ls p.Code) (ls q.Code) d≠sg (ls p.Code) (ls q.Code) c))=[t]:=by
      rw [List.filter_cons_of_pos]
      · rfl
      simp only [decide_eq_true_eq]
      exact fun d h1 h2=>e ⟨d,h1,h2⟩
    rw [hf] at h5
    refine Eq.trans ?_ h5
    simp [ints,ls]
theorem f43 {p q:af} (hp:rp p=true) (hq:rp q=true):Jv p q=some (so (ints (lA (ls p.Code) (ls q.Code)))):=by
 unfold Jv
 exact Ie hp hq 256 0 Mp.empty (by omega) (fun s=>⟨fun h=>by simp [Mp.empty] at h,fun ⟨d,h,_⟩=>by omega⟩)
theorem RD {C D:List aT}: ∀c∈lA C D,c<256:=fun c h=>by
 unfold lA at h
 rw [List.mem_filter,List.mem_range] at h
 exact h.1
theorem LW (C D:List aT):(lA C D).length≤256:=by
 refine Nat.le_trans (List.length_filter_le _ _) ?_
 simp
theorem RC (C D:List aT): ∀c,c<256→ ∃r∈lA C D,sg C D r=sg C D c:=by
  intro c
  induction c using Nat.strongRecOn with
  | _ c ih=>
    intro hc
    by_cases e: ∃d,d<c∧sg C D d=sg C D c
    · obtain ⟨d,h1,h2⟩:=e
      obtain ⟨r,h3,h4⟩:=ih d h1 (by omega)
      exact ⟨r,h3,h4.trans h2⟩
    refine ⟨c,?_,rfl⟩
    unfold lA
    rw [List.mem_filter,List.mem_range,decide_eq_true_eq]
    exact ⟨hc,fun d h1 h2=>e ⟨d,h1,h2⟩⟩
theorem Jg {C:List aT} {c r:Nat} (h:zC C c=zC C r): ∀x∈C,x.Kind=1→hasB x.Set (UInt8.ofNat c)=hasB x.Set (UInt8.ofNat r):=by
 intro x hx h1
 unfold zC at h
 have h2:=List.map_inj_left.1 h x (List.mem_filter.2 ⟨hx,by simp [h1]⟩)
 cases ha:hasB x.Set (UInt8.ofNat c)<;>cases hb:hasB x.Set (UInt8.ofNat r)<;>simp [ha,hb] at h2<;>rfl
end Go.Proofs.YtcidnoghoifmmaaDoor
end
section
namespace Go.Proofs.YtcidnoghoifmmaaDoor
open Go AW
set_option maxHeartbeats 4000000
theorem VA (n:aK): ∃r,xV n=some r∧(r.2=0→rp r.1=true):=by
  unfold xV
  obtain ⟨r,hr,w,hw,h1,h2,h3⟩:=f10 n
  by_cases h0:r.2=0
  · obtain ⟨hg,hc,hsz,hw1,hp⟩:=h3 (by rw [←h1];exact h0)
    obtain ⟨b,hb9⟩:=f49 (n:=n) (by omega)
    simp only [hr,sm,zU h0,f48 (n:=n) (by omega),hb9]
    have hrp:rp r.1=true:=by rw [hp];exact RN hg hc hsz
    cases bk n with
    | true=>exact ⟨_,rfl,fun h=>by simp at h⟩
    | false=>
      cases b with
      | true=>exact ⟨_,rfl,fun h=>by simp at h⟩
      | false=>exact ⟨_,rfl,fun _=>hrp⟩
  simp only [hr,sm,BI h0]
  exact ⟨_,rfl,fun h=>absurd h h0⟩
noncomputable def wj (C D:List aT) (w:aZ):bw:={a:=so (ints (run C w)),b:=so (ints (run D w)),text:=w}
noncomputable def MQ (C D:List aT) (w:aZ):aZ:=ky (run C w) (run D w)
theorem CV {C D:List aT} {v w:aZ}:MQ C D v=MQ C D w↔run C v=run C w∧run D v=run D w:=
 ⟨fun h=>RF h,fun h=>by unfold MQ;rw [h.1,h.2]⟩
def Cv (C D:List aT) (W:List aZ) (w:aZ):Prop:=(run C w=[]∧run D w=[])∨ ∃w'∈W,run C w'=run C w∧run D w'=run D w
theorem Cv.mono {C D:List aT} {W:List aZ} {w:aZ} (h:Cv C D W w) (v:aZ):Cv C D (W++[v]) w:=by
 rcases h with h | ⟨w',h1,h2⟩
 ·exact .inl h
 exact .inr ⟨w',by simp [h1],h2⟩
theorem pz (C:List aT) {p:af} (hr:rp p=true) (w:aZ):(run (ls p.Code) w).length≤16384:=by
 have:=eF _ _ (gi (ls p.Code) w) (fY (ls p.Code) w)
 have:=eK hr
 omega
theorem fe (l:List Nat):(ls (so (ints l))).length=l.length:=by rw [bq];simp [ints]
theorem Qy {p q:af} (hp:rp p=true) (hq:rp q=true) (w:aZ):ri (wj (ls p.Code) (ls q.Code) w)=some (MQ (ls p.Code) (ls q.Code) w):=by
 have h1:=pz (ls p.Code) hp w
 have h2:=pz (ls q.Code) hq w
 have h3:=eK hp
 have h4:=eK hq
 exact Xn _ _ w (fun x hx=>by have:=fY _ _ x hx;omega) (by omega) (fun x hx=>by have:=fY _ _ x hx;omega) (by omega)
end Go.Proofs.YtcidnoghoifmmaaDoor
end
section
namespace Go.Proofs.YtcidnoghoifmmaaDoor
open Go AW
set_option maxHeartbeats 4000000
theorem Il (b:UInt8) (S:an 4 Int) {α :Type} (A B:Option α):
  (if (0:Int)≤IntKind.wrap .u8 (Int.tdiv (b.toNat:Int) 64)∧IntKind.wrap .u8 (Int.tdiv (b.toNat:Int) 64)<(4:Int) then
   (ix S.l (IntKind.wrap .u8 (Int.tdiv (b.toNat:Int) 64))>>=fun v=>if 0≤Int.tmod (b.toNat:Int) 64 then (if (kz .u64 (jC .u64 v (Int.tmod (b.toNat:Int) 64)) 1==1)=true then A else B) else none) else none)=if hasB S b=true then A else B:=by
 have hbl:b.toNat<256:=b.toNat_lt
 obtain ⟨h1,h2⟩:=Mj ⟨b.toNat,hbl⟩
 simp only at h1 h2
 have hl:=S.h
 obtain ⟨v,hv⟩:=bQ S.l (i:=b.toNat/64) (by omega)
 rw [h1,if_pos (by omega),ixs hv,sm,h2,if_pos (by omega)]
 unfold hasB
 simp [List.getD,hv]
theorem Xp {p:af} (hr:rp p=true) (l:List Nat) (hlt: ∀x∈l,x<(ls p.Code).length) (hl:l.length≤1000000) (c:UInt8): ∀(m k:Nat) (O:List Nat),m+k=l.length→O.length≤k→
    KV (.p1 (so (ints l)) (c.toNat:Int) p (k:Int) (so (ints O)))=Ju p (so (ints (O++bh (ls p.Code) (l.drop k) c)))
  | 0,k,O,h,hO=>by
    rw [KV.eq_1,fe,eU (by omega),List.drop_of_length_le (by omega)]
    simp [bh]
  | m+1,k,O,h,hO=>by
    obtain ⟨i,hi⟩:=bQ l (i:=k) (by omega)
    have hki:(ints l)[k]? =some (i:Int):=by simp [ints,hi]
    have hil:=hlt i (List.mem_of_getElem? hi)
    obtain ⟨x,hx⟩:=bQ (ls p.Code) hil
    have hlen:=eK hr
    have htk:tk (ls p.Code) c i=(x.Kind==1&&hasB x.Set c):=by unfold tk;rw [hx]
    have hno:=Xp hr l hlt hl c m (k+1) O (by omega) (by omega)
    have hyes:=Xp hr l hlt hl c m (k+1) (O++[i+1]) (by omega) (by simp;omega)
    rw [KV.eq_1,fe,dti (by omega),bq,ixs hki,sm,ixs hx,sm,eo k (by omega),drop_cons hi]
    by_cases h1:x.Kind=1
    · rw [gf h1,Il c x.Set]
      by_cases hb:hasB x.Set c=true
      · rw [if_pos hb,sm,bq,if_pos (by simp [ints,ls];omega),eo i (by omega)]
        have e:bW (so (ints O)) (ls (some [((i+1:Nat):Int)]))=so (ints (O++[i+1])):=by rw [eC];simp [ints,ls]
        rw [e,hyes]
        simp [bh,htk,h1,hb]
      rw [if_neg hb,hno]
      simp [bh,htk,hb]
    rw [gR h1,hno]
    simp [bh,htk,h1]
theorem Uz {p:af} (hr:rp p=true) {l:List Nat} (hlt: ∀x∈l,x<(ls p.Code).length) (hn:l.Nodup) (c:UInt8):MP p (so (ints l)) (c.toNat:Int)=some (so (ints (Wc (ls p.Code) l c))):=by
 have hlen:=eK hr
 have hl:=eF _ l hn hlt
 have h:=Xp hr l hlt (by omega) c l.length 0 [] (by omega) (by simp)
 have hb:(bh (ls p.Code) l c).length≤100000:=by
  have:(bh (ls p.Code) l c).length≤l.length:=by unfold bh;rw [List.length_map];exact List.length_filter_le _ _
  omega
 unfold MP
 refine Eq.trans h ?_
 rw [List.nil_append,List.drop_zero,f26 hr _ (MZ hr l c) hb]
 rfl
theorem Uy {p:af} (hr:rp p=true) {l:List Nat} (hn:l.Nodup) (hlt: ∀x∈l,x<(ls p.Code).length):MO p (so (ints l))=some (en (ls p.Code) l):=by
 have hlen:=eK hr
 have hl:=eF _ l hn hlt
 unfold MO en
 rw [fe]
 rcases List.eq_nil_or_concat l with rfl | ⟨l',i,rfl⟩
 ·rw [eU (by simp)];rfl
 rw [List.concat_eq_append] at hl ⊢
 rw [dti (by simp),Cu _ (by simp) (by simp at hl ⊢;omega),bq]
 have:(ints (l'++[i]))[(l'++[i]).length-1]? =some (i:Int):=by simp [ints]
 rw [ixs this,sm,Cu _ hlen.1 (by omega)]
 simp only [List.getLast?_append,List.getLast?_singleton,Option.some_or]
 congr 1
 rw [Bool.eq_iff_iff,beq_iff_eq,decide_eq_true_eq]
 omega
def LX (L:List Nat):List Int:=L.flatMap fun (v:Nat)=>([1,IntKind.wrap .u8 (jC .i64 (v:Int) 8),IntKind.wrap .u8 (v:Int)]:List Int)
def Dj (L:List Nat):aZ:=L.flatMap fun v=>[1,UInt8.ofNat (v/256),UInt8.ofNat (v%256)]
theorem Vw (v:Nat):IntKind.wrap .u8 (v:Int)=((v%256:Nat):Int):=by
 simp only [IntKind.wrap,IntKind.bits,IntKind.signed,Bool.false_and,Bool.false_eq_true,if_false]
 have e:(2:Int) ^ 8=256:=by decide
 rw [e];omega
theorem YH (v:Nat):jC .i64 (v:Int) 8=((v/256:Nat):Int):=by
 unfold jC
 have e:(2:Int) ^ (Nat.min (8:Int).toNat IntKind.i64.bits)=256:=by decide
 rw [e,Int.fdiv_eq_ediv_of_nonneg _ (by decide)]
 omega
theorem NP (L:List Nat) (h: ∀x∈L,x<65536):cL (LX L)=Dj L:=by
  induction L with
  | nil=>rfl
  | cons v L ih=>
    have hv:=h v (by simp)
    have ih:=ih fun x hx=>h x (by simp [hx])
    have e1:LX (v::L)=[1,IntKind.wrap .u8 (jC .i64 (v:Int) 8),IntKind.wrap .u8 (v:Int)]++LX L:=rfl
    have e2:Dj (v::L)=[1,UInt8.ofNat (v/256),UInt8.ofNat (v%256)]++Dj L:=rfl
    have e3: ∀x y,cL (x++y)=cL x++cL y:=fun x y=>by simp [cL]
    rw [e1,e2,e3,ih,YH,Vw,Vw,Nat.mod_eq_of_lt (show v/256<256 by omega)]
    have e4: ∀x y:Nat,cL [1,(x:Int),(y:Int)]=[1,UInt8.ofNat x,UInt8.ofNat y]:=fun x y=>rfl
    rw [e4]
theorem wO: ∀(a b:List Nat) (r s:aZ),(∀x∈a,x<65536)→(∀x∈b,x<65536)→Dj a++0::r=Dj b++0::s→a=b∧r=s
  | [],[],r,s,_,_,h=>by simpa [Dj] using h
  | [],y::b,r,s,_,_,h=>by simp [Dj] at h
  | x::a,[],r,s,_,_,h=>by simp [Dj] at h
  | x::a,y::b,r,s,ha,hb,h=>by
    have hx:=ha x (by simp)
    have hy:=hb y (by simp)
    have h':(1:UInt8)::UInt8.ofNat (x/256)::UInt8.ofNat (x%256)::(Dj a++0::r)=1::UInt8.ofNat (y/256)::UInt8.ofNat (y%256)::(Dj b++0::s):=by
      simpa [Dj] using h
    simp only [List.cons.injEq,true_and] at h'
    obtain ⟨h1,h2,h3⟩:=h'
    have g1:=congrArg UInt8.toNat h1
    have g2:=congrArg UInt8.toNat h2
    rw [Lr (by omega),Lr (by omega)] at g1
    rw [Lr (by omega),Lr (by omega)] at g2
    obtain ⟨h4,h5⟩:=wO a b r s (fun z hz=>ha z (by simp [hz])) (fun z hz=>hb z (by simp [hz])) h3
    exact ⟨by rw [h4,show x=y by omega],h5⟩
def kr (a b:List Nat):aZ:=Dj a++0::(Dj b++[0])
theorem RE {a b a' b':List Nat} (h1: ∀x∈a,x<65536) (h2: ∀x∈b,x<65536) (h3: ∀x∈a',x<65536) (h4: ∀x∈b',x<65536):kr a b=kr a' b'↔a=a'∧b=b':=by
 constructor
 ·intro h
  obtain ⟨g1,g2⟩:=wO _ _ _ _ h1 h3 h
  exact ⟨g1,(wO _ _ _ _ h2 h4 g2).1⟩
 rintro ⟨rfl,rfl⟩;rfl
theorem Ia (l:an 2 (Sl Int)) (i:Nat) (hi:i<2) (L:List Nat) (hL:l.l[i]? =some (so (ints L))) (hl:L.length≤1000000): ∀(m k:Nat) (b:List Int),m+k=L.length→b.length≤50000000+3*k→
    Bm (.p2 (i:Int) (k:Int) (so b) l)=Bm (.p1 ((i+1:Nat):Int) (so (b++(LX (L.drop k)++[0]))) l)
  | 0,k,b,h,hb=>by
    rw [Bm.eq_2,if_pos (by omega),ixs hL,sm,fe,eU (by omega),bq,if_pos (by simp [ls];omega),eo i (by omega),List.drop_of_length_le (by omega),eC]
    rfl
  | m+1,k,b,h,hb=>by
    obtain ⟨v,hv⟩:=bQ L (i:=k) (by omega)
    have hki:(ints L)[k]? =some (v:Int):=by simp [ints,hv]
    have hg:=Ia l i hi L hL hl m (k+1) (b++[1,IntKind.wrap .u8 (jC .i64 (v:Int) 8),IntKind.wrap .u8 (v:Int)]) (by omega) (by simp;omega)
    rw [Bm.eq_2,if_pos (by omega),ixs hL,sm,fe,dti (by omega),if_pos (by omega),sm,bq,ixs hki,sm,if_pos (by omega),sm,bq,ixs hki,sm,bq,if_pos (by simp [ls];omega),eo k (by omega),eC,drop_cons hv]
    refine hg.trans ?_
    simp [LX,List.append_assoc]
theorem Xm (a b:List Nat) (t:aZ) (ha: ∀x∈a,x<65536) (hal:a.length≤1000000) (hb: ∀x∈b,x<65536) (hbl:b.length≤1000000):Ox {a:=so (ints a),b:=so (ints b),s:=t}=some (kr a b):=by
 unfold Ox
 generalize hA:iz (iz (an.rep 2 (none:Sl Int)) 0 (so (ints a))) 1 (so (ints b))=A
 have h0:A.l[0]? =some (so (ints a)):=by rw [←hA];rfl
 have h1:A.l[1]? =some (so (ints b)):=by rw [←hA];rfl
 have hka: ∀L,(LX L).length=3*L.length:=by
  intro L
  induction L with
  | nil=>rfl
  | cons v L ih=>rw [show LX (v::L)=[1,IntKind.wrap .u8 (jC .i64 (v:Int) 8),IntKind.wrap .u8 (v:Int)]++LX L from rfl,List.length_append,ih];simp;omega
 have hka:=hka a
 have g0:=Ia A 0 (by omega) a h0 hal a.length 0 [] (by omega) (by simp)
 have g1:=Ia A 1 (by omega) b h1 hbl b.length 0 (LX a++[0]) (by omega) (by simp;omega)
 have e3: ∀x y,cL (x++y)=cL x++cL y:=fun x y=>by simp [cL]
 show Bm (.p1 ((0:Nat):Int) (so []) A)=_
 rw [Bm.eq_1,dti (by omega)]
 refine Eq.trans g0 ?_
 rw [Bm.eq_1,dti (by omega)]
 rw [List.nil_append,List.drop_zero]
 refine Eq.trans g1 ?_
 rw [Bm.eq_1,eU (by omega),bq,List.drop_zero,e3,e3,e3,NP a ha,NP b hb]
 simp [kr,cL]
end Go.Proofs.YtcidnoghoifmmaaDoor
end
section
namespace Go.Proofs.YtcidnoghoifmmaaDoor
open Go AW
set_option maxHeartbeats 4000000
theorem UJ (x:Int):kz .u64 x 1=0∨kz .u64 x 1=1:=by
 unfold kz
 have e:(BitVec.ofInt IntKind.u64.bits x &&& BitVec.ofInt IntKind.u64.bits 1).toNat=(BitVec.ofInt IntKind.u64.bits x).toNat%2:=by
  rw [BitVec.toNat_and,show (BitVec.ofInt IntKind.u64.bits 1).toNat=1 from rfl,Nat.and_one_is_mod]
 rw [e]
 rcases Nat.mod_two_eq_zero_or_one (BitVec.ofInt IntKind.u64.bits x).toNat with h | h<;>rw [h]
 ·exact .inl rfl
 exact .inr rfl
theorem Ko (x y:Int):(kz .u64 x 1==kz .u64 y 1)=((kz .u64 x 1==1)==(kz .u64 y 1==1)):=by
 rcases UJ x with h | h<;>rcases UJ y with h' | h'<;>rw [h,h']<;>rfl
theorem IE: ∀n:Fin 256,IntKind.wrap .i64 (Int.tdiv (n.val:Int) 64)=((n.val/64:Nat):Int)∧Int.tmod (n.val:Int) 64=((n.val%64:Nat):Int):=by decide+kernel
def Km (S:List (an 4 Int)) (c d:Nat):Bool:=S.all fun s=>hasB s (UInt8.ofNat c)==hasB s (UInt8.ofNat d)
section
variable (t4:an 256 Int) (out:an 256 Int)
theorem Ik (p q:af) (i:Int) (x:aT) (S:List (an 4 Int)) (hS:S.length≤1000000): ∀(m k:Nat) (known:Bool),m+k=S.length→(known=true→x.Set∈S)→
    ∃S',(∀s,s∈S'↔s∈S∨s=x.Set)∧S'.length≤S.length+1∧iR (.p4 p q i known (k:Int) t4 out (so S) x)=iR (.p1 p q (IntKind.wrap .i64 (i+1)) t4 out (so S'))
  | 0,k,known,h,hk=>by
    rw [iR.eq_4,bq,eU (by omega)]
    cases known with
    | true=>
      refine ⟨S,fun s=>⟨fun h=>.inl h,fun h=>?_⟩,by omega,by rw [if_neg (by simp)]⟩
      rcases h with h | rfl
      · exact h
      exact hk rfl
    | false=>
      refine ⟨S++[x.Set],fun s=>by simp,by simp,?_⟩
      rw [if_pos (by rfl),if_pos (by simp [ls];omega),eC];rfl
  | m+1,k,known,h,hk=>by
    obtain ⟨s,hs⟩:=bQ S (i:=k) (by omega)
    cases known with
    | true=>
      obtain ⟨S',h1,h2,h3⟩:=Ik p q i x S hS m (k+1) true (by omega) hk
      refine ⟨S',h1,h2,?_⟩
      rw [iR.eq_4,bq,dti (by omega),if_pos rfl,eo k (by omega)]
      exact h3
    | false=>
      obtain ⟨S',h1,h2,h3⟩:=Ik p q i x S hS m (k+1) (decide (s=x.Set)) (by omega) (fun e=>by rw [decide_eq_true_eq] at e;rw [←e];exact List.mem_of_getElem? hs)
      refine ⟨S',h1,h2,?_⟩
      rw [iR.eq_4,bq,dti (by omega),if_neg (by simp),ixs hs,sm,eo k (by omega)]
      exact h3
theorem Ij (p q:af) (hl:(ls p.Code).length≤100000∧(ls q.Code).length≤100000): ∀(m i:Nat) (S:List (an 4 Int)),m+i=(ls p.Code++ls q.Code).length→S.length≤i→
    ∃S',(∀s,s∈S'↔s∈S∨ ∃x∈(ls p.Code++ls q.Code).drop i,x.Kind=1∧x.Set=s)∧S'.length≤200000∧iR (.p1 p q (i:Int) t4 out (so S))=iR (.p3 0 t4 out (so S'))
  | 0,i,S,h,hS=>by
    rw [List.length_append] at h
    refine ⟨S,fun s=>?_,by omega,by rw [iR.eq_1,wi _ (by omega) (by omega),eU (by omega)]⟩
    rw [List.drop_of_length_le (by simp;omega)]
    simp
  | m+1,i,S,h,hS=>by
    obtain ⟨x,hx⟩:=bQ (ls p.Code++ls q.Code) (i:=i) (by omega)
    rw [List.length_append] at h
    have e0:iR (.p1 p q (i:Int) t4 out (so S))=iR (.p2 p q (i:Int) t4 out (so S) x):=by
      rw [iR.eq_1,wi _ (by omega) (by omega),dti (by omega)]
      by_cases hi:i<(ls p.Code).length
      · rw [List.getElem?_append_left hi] at hx
        rw [dti (by omega),ixs hx,sm]
      rw [List.getElem?_append_right (by omega)] at hx
      rw [eU (by omega),wi _ (by omega) (by omega),show (i:Int)-((ls p.Code).length:Int)=((i-(ls p.Code).length:Nat):Int) by omega,ixs hx,sm]
    rw [e0,iR.eq_2,drop_cons hx]
    by_cases h1:x.Kind=1
    · rw [zU h1]
      obtain ⟨S1,a1,a2,a3⟩:=Ik t4 out p q (i:Int) x S (by omega) S.length 0 false (by omega) (fun e=>by cases e)
      obtain ⟨S',b1,b2,b3⟩:=Ij p q hl m (i+1) S1 (by rw [List.length_append];omega) (by omega)
      refine ⟨S',fun s=>?_,b2,?_⟩
      · rw [b1,a1]
        simp only [List.mem_cons,exists_eq_or_imp,h1,true_and]
        rw [or_assoc,eq_comm (a:=s)]
      refine Eq.trans a3 ?_
      rw [eo i (by omega)];exact b3
    rw [BI h1,eo i (by omega)]
    obtain ⟨S',b1,b2,b3⟩:=Ij p q hl m (i+1) S (by rw [List.length_append];omega) (by omega)
    refine ⟨S',fun s=>?_,b2,b3⟩
    rw [b1]
    simp only [List.mem_cons,exists_eq_or_imp,h1,false_and,false_or]
end
section
variable (t4:an 256 Int) (S:List (an 4 Int)) (hS:S.length≤1000000)
include hS
theorem NI (out:an 256 Int) {c d:Nat} (hc:c<256) (hd:d<256): ∀(m k:Nat) (same:Bool),m+k=S.length→
    iR (.p6 (c:Int) (d:Int) same (k:Int) t4 out (so S))=iR (.p7 (c:Int) (d:Int) (same&&Km (S.drop k) c d) t4 out (so S))
  | 0,k,same,h=>by
    rw [iR.eq_6,bq,eU (by omega),List.drop_of_length_le (by omega)]
    simp [Km]
  | m+1,k,same,h=>by
    obtain ⟨s,hs⟩:=bQ S (i:=k) (by omega)
    rw [iR.eq_6,bq,dti (by omega),drop_cons hs]
    cases same with
    | false=>rw [if_neg (by simp)];rfl
    | true=>
      obtain ⟨h1,h2⟩:=IE ⟨c,hc⟩
      obtain ⟨h3,h4⟩:=IE ⟨d,hd⟩
      simp only at h1 h2 h3 h4
      have hl:=s.h
      obtain ⟨v,hv⟩:=bQ s.l (i:=c/64) (by omega)
      obtain ⟨w,hw⟩:=bQ s.l (i:=d/64) (by omega)
      have e1:hasB s (UInt8.ofNat c)=(kz .u64 (jC .u64 v ((c%64:Nat):Int)) 1==1):=by unfold hasB;rw [Lr hc];simp [List.getD,hv]
      have e2:hasB s (UInt8.ofNat d)=(kz .u64 (jC .u64 w ((d%64:Nat):Int)) 1==1):=by unfold hasB;rw [Lr hd];simp [List.getD,hw]
      rw [if_pos rfl,ixs hs,sm,h1,if_pos (by omega),ixs hv,sm,h2,if_pos (by omega),sm,h3,if_pos (by omega),ixs hw,sm,h4,if_pos (by omega),eo k (by omega),NI out hc hd m (k+1) _ (by omega),Ko,←e1,←e2]
      simp [Km]
theorem NH {c:Nat} (hc:c<256): ∀(m d:Nat) (out:an 256 Int),m+d=c→out.l[c]? =some (c:Int)→
    ∃out':an 256 Int,(∀j,j≠c→out'.l[j]? =out.l[j]?)∧(∃z,out'.l[c]? =some z∧(z=(c:Int)↔ ∀d',d≤d'→d'<c→out.l[d']? =some (d':Int)→Km S c d'=false))∧
      iR (.p5 (c:Int) (d:Int) t4 out (so S))=iR (.p3 ((c+1:Nat):Int) t4 out' (so S))
  | 0,d,out,h,ho=>by
    refine ⟨out,fun _ _=>rfl,⟨c,ho,by simp;intro d' h1 h2;omega⟩,?_⟩
    rw [iR.eq_5,eU (by omega),eo c (by omega)]
  | m+1,d,out,h,ho=>by
    have hol:=out.h
    obtain ⟨z,hz⟩:=bQ out.l (i:=d) (by omega)
    have hg:=NI t4 S hS out hc (show d<256 by omega) S.length 0 (z==(d:Int)) (by omega)
    rw [iR.eq_5,dti (by omega),if_pos (by omega),ixs ho,sm,gf rfl,if_pos (by omega),ixs hz,sm]
    have hg':iR (.p6 (c:Int) (d:Int) (z==(d:Int)) 0 t4 out (so S))=_:=hg
    rw [hg',List.drop_zero,iR.eq_7]
    by_cases hs:((z==(d:Int))&&Km S c d)=true
    · rw [if_pos hs,if_pos (by omega),eo d (by omega)]
      rw [Bool.and_eq_true,beq_iff_eq] at hs
      refine ⟨iz out (c:Int) (d:Int),fun j hj=>?_,⟨(d:Int),?_,?_⟩,?_⟩
      · rw [pI,Int.toNat_natCast,List.getElem?_set_ne (Ne.symm hj)]
      · rw [pI,Int.toNat_natCast,List.getElem?_set_self (by omega)]
      · constructor
        · intro e;omega
        intro e
        have:=e d (Nat.le_refl _) (by omega) (by rw [hz,hs.1])
        rw [hs.2] at this;cases this
      rw [iR.eq_5]
      have e:(iz out (c:Int) (d:Int)).l[c]? =some (d:Int):=by rw [pI,Int.toNat_natCast,List.getElem?_set_self (by omega)]
      by_cases hdc:((d+1:Nat):Int)<(c:Int)
      · rw [dti hdc,if_pos (by omega),ixs e,sm,gR (by omega),eo c (by omega)]
      rw [eU hdc,eo c (by omega)]
    rw [if_neg hs,eo d (by omega)]
    obtain ⟨out',a1,⟨y,a2,a3⟩,a4⟩:=NH hc m (d+1) out (by omega) ho
    refine ⟨out',a1,⟨y,a2,a3.trans ⟨fun g d' h1 h2 h3=>?_,fun g d' h1 h2 h3=>g d' (by omega) h2 h3⟩⟩,a4⟩
    by_cases e:d'=d
    · subst e
      rw [hz] at h3
      cases h3
      simpa using hs
    exact g d' (by omega) h2 h3
theorem NG {C D:List aT} (ha: ∀c d,c<256→d<256→(Km S c d=true↔sg C D c=sg C D d)): ∀(m c:Nat) (out:an 256 Int),m+c=256→(∀d:Nat,d<c→ ∃z,out.l[d]? =some z∧(z=(d:Int)↔d∈lA C D))→
    ∃out':an 256 Int,(∀d:Nat,d<256→ ∃z,out'.l[d]? =some z∧(z=(d:Int)↔d∈lA C D))∧iR (.p3 (c:Int) t4 out (so S))=some out'
  | 0,c,out,h,ho=>⟨out,fun d hd=>ho d (by omega),by rw [iR.eq_3,eU (by omega)]⟩
  | m+1,c,out,h,ho=>by
    have hc:c<256:=by omega
    have hol:=out.h
    obtain ⟨o1,a1,⟨z,a2,a3⟩,a4⟩:=NH t4 S hS hc c 0 (iz out (c:Int) (c:Int)) (by omega) (by rw [pI,Int.toNat_natCast,List.getElem?_set_self (by omega)])
    have hk:z=(c:Int)↔c∈lA C D:=by
      rw [a3]
      have hkc:c∈lA C D↔ ∀d,d<c→sg C D d≠sg C D c:=by
        unfold lA;rw [List.mem_filter,List.mem_range,decide_eq_true_eq];exact ⟨fun h=>h.2,fun h=>⟨hc,h⟩⟩
      rw [hkc]
      constructor
      · intro g d hd e
        obtain ⟨r,hr,h1⟩:=RC C D c hc
        have hr':r∈lA C D:=hr
        unfold lA at hr
        rw [List.mem_filter,List.mem_range,decide_eq_true_eq] at hr
        have hrd:r≤d:=by
          rcases Nat.lt_or_ge d r with h' | h'
          · exact absurd (e.trans h1.symm) (hr.2 d h')
          exact h'
        obtain ⟨y,h2,h3⟩:=ho r (by omega)
        have h4:y=(r:Int):=h3.2 hr'
        subst h4
        have h5:=g r (by omega) (by omega) (by rw [pI,Int.toNat_natCast,List.getElem?_set_ne (by omega)];exact h2)
        rw [(ha c r hc (by omega)).2 h1.symm] at h5
        cases h5
      intro g d' _ h1 h2
      have:=g d' h1
      cases hh:Km S c d' with
      | false=>rfl
      | true=>exact absurd ((ha c d' hc (by omega)).1 hh).symm this
    obtain ⟨o2,b1,b2⟩:=NG ha m (c+1) o1 (by omega) (fun d hd=>by
      by_cases e:d=c
      · subst e;exact ⟨z,a2,hk⟩
      obtain ⟨y,h1,h2⟩:=ho d (by omega)
      refine ⟨y,?_,h2⟩
      rw [a1 d e,pI,Int.toNat_natCast,List.getElem?_set_ne (by omega)]
      exact h1)
    refine ⟨o2,b1,?_⟩
    rw [iR.eq_3,dti (by omega),if_pos (by omega)]
    exact a4.trans b2
end
theorem QI {C D:List aT} {S:List (an 4 Int)} (hS: ∀s,s∈S↔ ∃x∈C++D,x.Kind=1∧x.Set=s) (c d:Nat):Km S c d=true↔sg C D c=sg C D d:=by
 have e:sg C D c=sg C D d↔ ∀x∈C++D,x.Kind=1→hasB x.Set (UInt8.ofNat c)=hasB x.Set (UInt8.ofNat d):=by
  constructor
  ·intro h x hx h1
   obtain ⟨h2,h3⟩:=List.append_inj h (by rw [xB,xB])
   rcases List.mem_append.1 hx with hx | hx
   ·exact Jg h2 x hx h1
   exact Jg h3 x hx h1
  intro h
  unfold sg zC
  rw [←List.map_append,←List.map_append,←List.filter_append]
  refine List.map_congr_left fun x hx=>?_
  rw [List.mem_filter,beq_iff_eq] at hx
  rw [h x hx.1 hx.2]
 rw [e]
 unfold Km
 rw [List.all_eq_true]
 constructor
 ·intro h x hx h1
  have:=h x.Set ((hS _).2 ⟨x,hx,h1,rfl⟩)
  simpa using this
 intro h s hs
 obtain ⟨x,hx,h1,rfl⟩:=(hS s).1 hs
 simpa using h x hx h1
theorem f25 {p q:af} (hp:rp p=true) (hq:rp q=true): ∃like:an 256 Int,(∀d:Nat,d<256→ ∃z,like.l[d]? =some z∧(z=(d:Int)↔d∈lA (ls p.Code) (ls q.Code)))∧Vz p q=some like:=by
 have lp:=eK hp
 have lq:=eK hq
 obtain ⟨S,h1,h2,h3⟩:=Ij (an.rep 256 (0:Int)) (an.rep 256 (0:Int)) p q ⟨by omega,by omega⟩ (ls p.Code++ls q.Code).length 0 [] (by omega) (by simp)
 obtain ⟨o,h4,h5⟩:=NG (an.rep 256 (0:Int)) S (by omega) (C:=ls p.Code) (D:=ls q.Code) (fun c d _ _=>QI (fun s=>by rw [h1];simp) c d) 256 0 (an.rep 256 (0:Int)) (by omega) (fun d hd=>by omega)
 exact ⟨o,h4,h3.trans h5⟩
end Go.Proofs.YtcidnoghoifmmaaDoor
end
section
namespace Go.Proofs.YtcidnoghoifmmaaDoor
open Go AW
set_option maxHeartbeats 4000000
noncomputable def mU (C D:List aT) (w:aZ):gY:={a:=so (ints (run C w)),b:=so (ints (run D w)),s:=w}
noncomputable def AD (C D:List aT) (w:aZ):aZ:=kr (run C w) (run D w)
def Sn (K:aZ→aZ) (W:List aZ) (seen:Mp aZ Bool):Prop:= ∀s,Option.getD (Mp.get seen s) false=true↔ ∃w∈W,K w=s
theorem Sn.add {K:aZ→aZ} {W:List aZ} {seen:Mp aZ Bool} (h:Sn K W seen) (x:aZ):Sn K (W++[x]) (Mp.put seen (K x) true):=fun s=>by
 unfold Mp.put
 simp only []
 by_cases e:s=K x
 ·rw [if_pos e]
  exact ⟨fun _=>⟨_,by simp,e.symm⟩,fun _=>rfl⟩
 rw [if_neg e,h s]
 constructor
 ·rintro ⟨w,h1,h2⟩;exact ⟨w,by simp [h1],h2⟩
 rintro ⟨w,h1,h2⟩
 rw [List.mem_append,List.mem_singleton] at h1
 rcases h1 with h1 | rfl
 ·exact ⟨w,h1,h2⟩
 exact absurd h2.symm e
theorem Sn.one (K:aZ→aZ) (x:aZ):Sn K [x] (Mp.put Mp.empty (K x) true):=by
 have h:Sn K [] Mp.empty:=fun s=>by simp [Mp.empty]
 exact h.add x
open Classical in
noncomputable def Jm (C D:List aT) (W:List aZ) (x:aZ):List aZ:=if Cv C D W x then W else W++[x]
noncomputable def tV (C D:List aT) (c:Nat):List Nat:=(List.range' c (256-c)).filter fun r=>decide (r∈lA C D)
theorem Vl (C D:List aT):tV C D 0=lA C D:=by
 unfold tV
 have e: ∀r∈List.range' 0 (256-0),decide (r∈lA C D)=decide (∀d,d<r→sg C D d≠sg C D r):=fun r hr=>by
  rw [decide_eq_decide]
  unfold lA
  rw [List.mem_filter,decide_eq_true_eq,List.range_eq_range']
  exact ⟨fun h=>h.2,fun h=>⟨hr,h⟩⟩
 rw [List.filter_congr e]
 unfold lA
 rw [List.range_eq_range']
def Lk (C D:List aT) (like:an 256 Int):Prop:= ∀d:Nat,d<256→ ∃z,like.l[d]? =some z∧(z=(d:Int)↔d∈lA C D)
theorem pq {p:af} (hp:rp p=true) (w:aZ): ∀x∈run (ls p.Code) w,x<65536:=fun x hx=>by
 have:=fY (ls p.Code) w x hx
 have:=eK hp
 omega
section
variable {p q:af} (hp:rp p=true) (hq:rp q=true)
include hp hq
theorem CU {v w:aZ}:AD (ls p.Code) (ls q.Code) v=AD (ls p.Code) (ls q.Code) w↔run (ls p.Code) v=run (ls p.Code) w∧run (ls q.Code) v=run (ls q.Code) w:=
 RE (pq hp v) (pq hq v) (pq hp w) (pq hq w)
theorem Ux (w:aZ):Ox (mU (ls p.Code) (ls q.Code) w)=some (AD (ls p.Code) (ls q.Code) w):=by
 have h1:=pz [] hp w
 have h2:=pz [] hq w
 exact Xm _ _ w (pq hp w) (by omega) (pq hq w) (by omega)
variable {like:an 256 Int} (hlk:Lk (ls p.Code) (ls q.Code) like) {kind:Int} {i:Nat} (hi:i≤5000)
include hlk
theorem IZ {c:Nat} (hc:c<256) (h:c∉lA (ls p.Code) (ls q.Code)) (found:Sl gY) (seen:Mp aZ Bool) (x:gY):gU (.p5 kind (i:Int) (c:Int) p q like found seen x)=gU (.p5 kind (i:Int) ((c+1:Nat):Int) p q like found seen x):=by
 obtain ⟨z,hz,hk⟩:=hlk c hc
 rw [gU.eq_5,dti (by omega),if_pos (by omega),ixs hz,sm,BI (fun e=>h (hk.1 e)),eo c (by omega)]
theorem CR {c:Nat} (hc:c<256) (h:c∈lA (ls p.Code) (ls q.Code)) {W:List aZ} {v:aZ} (hW:W.length≤3000000) (hv:v.length≤100000) {seen:Mp aZ Bool} (hs:Sn (AD (ls p.Code) (ls q.Code)) W seen):
    ∃seen',Sn (AD (ls p.Code) (ls q.Code)) (Jm (ls p.Code) (ls q.Code) W (v++[UInt8.ofNat c])) seen'∧
      gU (.p5 kind (i:Int) (c:Int) p q like (so (W.map (mU (ls p.Code) (ls q.Code)))) seen (mU (ls p.Code) (ls q.Code) v))=gU (.p5 kind (i:Int) ((c+1:Nat):Int) p q like (so ((Jm (ls p.Code) (ls q.Code) W (v++[UInt8.ofNat c])).map (mU (ls p.Code) (ls q.Code)))) seen' (mU (ls p.Code) (ls q.Code) v)):=by
  obtain ⟨z,hz,hk⟩:=hlk c hc
  have e3:cL (ls (some [(c:Int)]))=[UInt8.ofNat c]:=by simp [cL,ls]
  have e4:((UInt8.ofNat c).toNat:Int)=(c:Int):=by rw [Lr hc]
  have f1:=Uz hp (fY (ls p.Code) v) (gi (ls p.Code) v) (UInt8.ofNat c)
  have f2:=Uz hq (fY (ls q.Code) v) (gi (ls q.Code) v) (UInt8.ofNat c)
  rw [e4,←od] at f1 f2
  have f1':MP p (mU (ls p.Code) (ls q.Code) v).a (c:Int)=_:=f1
  have f2':MP q (mU (ls p.Code) (ls q.Code) v).b (c:Int)=_:=f2
  have l1:=pz [] hp (v++[UInt8.ofNat c])
  have l2:=pz [] hq (v++[UInt8.ofNat c])
  have e5:({a:=so (ints (run (ls p.Code) (v++[UInt8.ofNat c]))),b:=so (ints (run (ls q.Code) (v++[UInt8.ofNat c]))),s:=(mU (ls p.Code) (ls q.Code) v).s++[UInt8.ofNat c]}:gY)=mU (ls p.Code) (ls q.Code) (v++[UInt8.ofNat c]):=rfl
  rw [gU.eq_5,dti (by omega),if_pos (by omega),ixs hz,sm,zU (hk.2 h),YK hc,e3,if_pos (by show v.length+_≤_;simp;omega),f1',sm,f2',sm,e5,Ux hp hq,sm,fe,fe,wi _ (by omega) (by omega),eo c (by omega)]
  by_cases hz:run (ls p.Code) (v++[UInt8.ofNat c])=[]∧run (ls q.Code) (v++[UInt8.ofNat c])=[]
  · have e:Jm (ls p.Code) (ls q.Code) W (v++[UInt8.ofNat c])=W:=if_pos (.inl hz)
    rw [e]
    refine ⟨seen,hs,?_⟩
    rw [eU (by rw [hz.1,hz.2];simp)]
  have hpos:((run (ls p.Code) (v++[UInt8.ofNat c])).length:Int)+((run (ls q.Code) (v++[UInt8.ofNat c])).length:Int)>0:=by
    rcases Nat.eq_zero_or_pos (run (ls p.Code) (v++[UInt8.ofNat c])).length with h1 | h1
    · rcases Nat.eq_zero_or_pos (run (ls q.Code) (v++[UInt8.ofNat c])).length with h2 | h2
      · exact absurd ⟨List.length_eq_zero_iff.1 h1,List.length_eq_zero_iff.1 h2⟩ hz
      omega
    omega
  rw [dti hpos]
  cases hg:Option.getD (Mp.get seen (AD (ls p.Code) (ls q.Code) (v++[UInt8.ofNat c]))) false with
  | true=>
    obtain ⟨w',h1,h2⟩:=(hs _).1 hg
    have e:Jm (ls p.Code) (ls q.Code) W (v++[UInt8.ofNat c])=W:=if_pos (.inr ⟨w',h1,(CU hp hq).1 h2⟩)
    rw [e,if_neg (show ¬(!true)=true by simp)]
    exact ⟨seen,hs,rfl⟩
  | false=>
    have e:Jm (ls p.Code) (ls q.Code) W (v++[UInt8.ofNat c])=W++[v++[UInt8.ofNat c]]:=if_neg (by
      rintro (h1 | ⟨w',h1,h2⟩)
      · exact hz h1
      rw [(hs _).2 ⟨w',h1,(CU hp hq).2 h2⟩] at hg;cases hg)
    rw [e,if_pos (show (!false)=true from rfl),sm,bq,List.length_map,if_pos (by simp [ls];omega),eC]
    refine ⟨_,hs.add _,?_⟩
    rw [List.map_append];rfl
theorem tW (found:Sl gY) (seen:Mp aZ Bool) (x:gY): ∀(m c:Nat),m+c=256→
    (tV (ls p.Code) (ls q.Code) c=[]∧gU (.p5 kind (i:Int) (c:Int) p q like found seen x)=gU (.p1 kind (IntKind.wrap .i64 ((i:Int)+1)) p q like found seen))∨
    ∃r,c≤r∧r<256∧r∈lA (ls p.Code) (ls q.Code)∧tV (ls p.Code) (ls q.Code) c=r::tV (ls p.Code) (ls q.Code) (r+1)∧gU (.p5 kind (i:Int) (c:Int) p q like found seen x)=gU (.p5 kind (i:Int) (r:Int) p q like found seen x)
  | 0,c,h=>by
    refine .inl ⟨?_,by rw [gU.eq_5,eU (by omega)]⟩
    unfold tV
    rw [show 256-c=0 by omega];rfl
  | m+1,c,h=>by
    have e:tV (ls p.Code) (ls q.Code) c=if c∈lA (ls p.Code) (ls q.Code) then c::tV (ls p.Code) (ls q.Code) (c+1) else tV (ls p.Code) (ls q.Code) (c+1):=by
      unfold tV
      rw [show 256-c=(256-(c+1))+1 by omega,List.range'_succ]
      by_cases hk:c∈lA (ls p.Code) (ls q.Code)
      · rw [List.filter_cons_of_pos (by simpa using hk),if_pos hk]
      rw [List.filter_cons_of_neg (by simpa using hk),if_neg hk]
    by_cases hk:c∈lA (ls p.Code) (ls q.Code)
    · exact .inr ⟨c,Nat.le_refl _,by omega,hk,by rw [e,if_pos hk],rfl⟩
    rw [e,if_neg hk,IZ hp hq hlk (by omega) hk]
    rcases tW found seen x m (c+1) (by omega) with h1 | ⟨r,h1,h2⟩
    · exact .inl h1
    exact .inr ⟨r,by omega,h2⟩
include hi
theorem Jd {L:Nat} (hL:L≤5000) {v:aZ} (hv:v.length≤L): ∀(m c:Nat) (W:List aZ) (seen:Mp aZ Bool),m+c=256→Sn (AD (ls p.Code) (ls q.Code)) W seen→W.length+m≤3000000→(∀w∈W,w.length≤L+1)→
    ∃W' seen',(∀j,j<W.length→W'[j]? =W[j]?)∧W.length≤W'.length∧W'.length≤W.length+m∧Sn (AD (ls p.Code) (ls q.Code)) W' seen'∧(∀w∈W',w.length≤L+1)∧
      gU (.p5 kind (i:Int) (c:Int) p q like (so (W.map (mU (ls p.Code) (ls q.Code)))) seen (mU (ls p.Code) (ls q.Code) v))=gU (.p1 kind ((i+1:Nat):Int) p q like (so (W'.map (mU (ls p.Code) (ls q.Code)))) seen')
  | 0,c,W,seen,h,hs,hl,ht=>⟨W,seen,fun _ _=>rfl,Nat.le_refl _,Nat.le_refl _,hs,ht,by rw [gU.eq_5,eU (by omega),eo i (by omega)]⟩
  | m+1,c,W,seen,h,hs,hl,ht=>by
    by_cases hk:c∈lA (ls p.Code) (ls q.Code)
    · obtain ⟨s1,h1,h2⟩:=CR (kind:=kind) (i:=i) hp hq hlk (show c<256 by omega) hk (by omega) (by omega) hs (v:=v)
      have hst:Jm (ls p.Code) (ls q.Code) W (v++[UInt8.ofNat c])=W∨Jm (ls p.Code) (ls q.Code) W (v++[UInt8.ofNat c])=W++[v++[UInt8.ofNat c]]:=by
        unfold Jm;split
        · exact .inl rfl
        exact .inr rfl
      rcases hst with e | e
      · rw [e] at h1 h2
        obtain ⟨W',s2,a1,a2,a3,a4,a5,a6⟩:=Jd hL hv m (c+1) W s1 (by omega) h1 (by omega) ht
        exact ⟨W',s2,a1,a2,by omega,a4,a5,h2.trans a6⟩
      rw [e] at h1 h2
      obtain ⟨W',s2,a1,a2,a3,a4,a5,a6⟩:=Jd hL hv m (c+1) _ s1 (by omega) h1 (by simp;omega) (fun w hw=>by
        rw [List.mem_append,List.mem_singleton] at hw
        rcases hw with hw | rfl
        · exact ht w hw
        simp;omega)
      simp only [List.length_append,List.length_singleton] at a1 a2 a3
      exact ⟨W',s2,fun j hj=>by rw [a1 j (by omega),List.getElem?_append_left hj],by omega,by omega,a4,a5,h2.trans a6⟩
    obtain ⟨W',s2,a1,a2,a3,a4,a5,a6⟩:=Jd hL hv m (c+1) W seen (by omega) hs (by omega) ht
    exact ⟨W',s2,a1,a2,by omega,a4,a5,by rw [IZ hp hq hlk (by omega) hk];exact a6⟩
omit hi
def XK (kind:Int) (su:Bool→Bool→Bool):Prop:=(kind=1∧su=fun x y=> !(x==y))∨(kind=2∧su=fun x y=>x&& !y)∨(kind=3∧su=fun x y=>x&&y)
variable {su:Bool→Bool→Bool} (hkd:XK kind su)
include hkd
omit hlk in
theorem IY {W:List aZ} {w:aZ} (hw:W[i]? =some w) (hi:i<4096) (seen:Mp aZ Bool):gU (.p1 kind (i:Int) p q like (so (W.map (mU (ls p.Code) (ls q.Code)))) seen)=
  if su (en (ls p.Code) (run (ls p.Code) w)) (en (ls q.Code) (run (ls q.Code) w))=true then some (w,true,0) else gU (.p5 kind (i:Int) 0 p q like (so (W.map (mU (ls p.Code) (ls q.Code)))) seen (mU (ls p.Code) (ls q.Code) w)):=by
 have hl:=mj hw
 have e2:(W.map (mU (ls p.Code) (ls q.Code)))[i]? =some (mU (ls p.Code) (ls q.Code) w):=by simp [hw]
 have fa:MO p (mU (ls p.Code) (ls q.Code) w).a=_:=Uy hp (gi (ls p.Code) w) (fY (ls p.Code) w)
 have fb:MO q (mU (ls p.Code) (ls q.Code) w).b=_:=Uy hq (gi (ls q.Code) w) (fY (ls q.Code) w)
 rw [gU.eq_1,bq,List.length_map,dti (by omega),eU (by omega),ixs e2,sm,fa,sm,fb,sm]
 generalize en (ls p.Code) (run (ls p.Code) w)=x
 generalize en (ls q.Code) (run (ls q.Code) w)=y
 have d2: ∀z:gY,gU (.p2 z)=some (z.s,true,0):=fun z=>by rw [gU.eq_2]
 have e:(mU (ls p.Code) (ls q.Code) w).s=w:=rfl
 rcases hkd with ⟨rfl,rfl⟩ | ⟨rfl,rfl⟩ | ⟨rfl,rfl⟩<;>cases x<;>cases y<;>simp [d2,e,gU.eq_3,gU.eq_4]
theorem VC {h:Nat} (hh:h≤4096): ∀(m i:Nat) (W:List aZ) (seen:Mp aZ Bool) (wd:aZ),m+i=4096→i≤h→W[h]? =some wd→(∀j w,i≤j→j<h→W[j]? =some w→su (en (ls p.Code) (run (ls p.Code) w)) (en (ls q.Code) (run (ls q.Code) w))=false)→
    (h<4096→su (en (ls p.Code) (run (ls p.Code) wd)) (en (ls q.Code) (run (ls q.Code) wd))=true)→Sn (AD (ls p.Code) (ls q.Code)) W seen→W.length≤5000+256*i→(∀w∈W,w.length≤i)→
    gU (.p1 kind (i:Int) p q like (so (W.map (mU (ls p.Code) (ls q.Code)))) seen)=some (if h=4096 then ([],false,3) else (wd,true,0))
  | 0,i,W,seen,wd,hm,hih,hwd,hno,hyes,hs,hl,ht=>by
    obtain rfl:h=i:=by omega
    have:=mj hwd
    rw [if_pos (by omega),gU.eq_1,bq,List.length_map,dti (by omega),dti (by omega)]
  | m+1,i,W,seen,wd,hm,hih,hwd,hno,hyes,hs,hl,ht=>by
    have hlt:=mj hwd
    obtain ⟨v,hv⟩:=bQ W (i:=i) (by omega)
    rw [IY hp hq hkd hv (by omega)]
    by_cases e:i=h
    · subst e
      rw [hwd] at hv
      cases hv
      rw [if_pos (hyes (by omega)),if_neg (by omega)]
    rw [if_neg (by rw [hno i v (Nat.le_refl _) (by omega) hv];simp)]
    obtain ⟨W',s2,a1,a2,a3,a4,a5,a6⟩:=Jd (kind:=kind) (i:=i) hp hq hlk (by omega) (L:=i) (by omega) (v:=v) (ht v (List.mem_of_getElem? hv)) 256 0 W seen (by omega) hs (by omega) (fun w hw=>by have:=ht w hw;omega)
    have hl':W'.length≤5000+256*(i+1):=by
      have e:256*(i+1)=256*i+256:=Nat.mul_succ 256 i
      generalize W'.length=x at a3 ⊢
      generalize W.length=y at a3 hl
      generalize 256*(i+1)=z at e ⊢
      generalize 256*i=u at e hl
      omega
    refine Eq.trans a6 ?_
    exact VC hh m (i+1) W' s2 wd (by omega) (by omega) ((a1 h hlt).trans hwd) (fun j w h1 h2 h3=>hno j w (by omega) h2 ((a1 j (by omega)).symm.trans h3)) hyes a4 hl' a5
theorem VD {h:Nat} (hh:h≤4096) {k:Nat} (hk:k<h) {W:List aZ} {seen:Mp aZ Bool} {v wd:aZ} {c:Nat} (hc:c≤256) (hv:v.length≤k) (hwd:W[h]? =some wd) (hno: ∀j w,j<h→W[j]? =some w→su (en (ls p.Code) (run (ls p.Code) w)) (en (ls q.Code) (run (ls q.Code) w))=false)
  (hyes:h<4096→su (en (ls p.Code) (run (ls p.Code) wd)) (en (ls q.Code) (run (ls q.Code) wd))=true) (hs:Sn (AD (ls p.Code) (ls q.Code)) W seen) (hl:W.length≤5000) (ht: ∀w∈W,w.length≤k+1):
  gU (.p5 kind (k:Int) (c:Int) p q like (so (W.map (mU (ls p.Code) (ls q.Code)))) seen (mU (ls p.Code) (ls q.Code) v))=some (if h=4096 then ([],false,3) else (wd,true,0)):=by
 have hlt:=mj hwd
 obtain ⟨W',s2,a1,a2,a3,a4,a5,a6⟩:=Jd (kind:=kind) (i:=k) hp hq hlk (by omega) (L:=k) (by omega) (v:=v) hv (256-c) c W seen (by omega) hs (by omega) ht
 refine Eq.trans a6 ?_
 exact VC hp hq hlk hkd hh (4096-(k+1)) (k+1) W' s2 wd (by omega) (by omega) ((a1 h hlt).trans hwd) (fun j w h1 h2 h3=>hno j w h2 ((a1 j (by omega)).symm.trans h3)) hyes a4 (by omega) a5
end
end Go.Proofs.YtcidnoghoifmmaaDoor
end
section
namespace Go.Proofs.YtcidnoghoifmmaaDoor
open Go AW
set_option maxHeartbeats 4000000
structure Ty (P1:Sl Int→Int→af→af→Mp aZ Bool→Sl bw→Option (aZ × Bool × Int)) (P2:Sl Int→Int→Sl Int→Int→Int→af→af→Mp aZ Bool→Sl bw→Option (aZ × Bool × Int)) (P3:Sl Int→Int→Sl Int→Int→Int→Bool→af→af→Mp aZ Bool→Sl bw→bw→Option (aZ × Bool × Int)) (A:bw→af→af→Option (Bool × af × af)):Prop where
  e1: ∀bytes k p q_ seen l,P1 bytes k p q_ seen l=(if (decide (k<((ls l).length:Int)))=true then P2 bytes k bytes ((ls bytes).length:Int) 0 p q_ seen l else some (([]:aZ),false,0))
  e2: ∀bytes k t63_ t64_ t65_ p q_ seen l,P2 bytes k t63_ t64_ t65_ p q_ seen l=(if (decide (t65_<t64_))=true then
   (ix (ls t63_) t65_>>=fun v_34=>(ix (ls l) k>>=fun v_39=>(ix (ls l) k>>=fun v_41=>(ix (ls l) k>>=fun v_43=>
       (if (v_43.text).length+(cL (ls (some ([v_34]:List Int)))).length≤9223372036854775807 then
        (zT p v_39.a v_34>>=fun r_48=>(zT q_ v_41.b v_34>>=fun r_50=>
          (if (((ls r_48).length:Int)==0)=true then
           (if (((ls r_50).length:Int)==0)=true then P2 bytes k t63_ t64_ (IntKind.wrap .i64 (t65_+1)) p q_ seen l
           else (ri ({a:=r_48,b:=r_50,text:=v_43.text++(cL (ls (some ([v_34]:List Int))))}:bw)>>=fun r_54=>
             P3 bytes k t63_ t64_ t65_ (Option.getD (Mp.get seen r_54) false) p q_ seen l ({a:=r_48,b:=r_50,text:=v_43.text++(cL (ls (some ([v_34]:List Int))))}:bw)))
          else (ri ({a:=r_48,b:=r_50,text:=v_43.text++(cL (ls (some ([v_34]:List Int))))}:bw)>>=fun r_56=>
            P3 bytes k t63_ t64_ t65_ (Option.getD (Mp.get seen r_56) false) p q_ seen l ({a:=r_48,b:=r_50,text:=v_43.text++(cL (ls (some ([v_34]:List Int))))}:bw)))))
       else none)))))
  else P1 bytes (IntKind.wrap .i64 (k+1)) p q_ seen l)
  e3: ∀bytes k t63_ t64_ t65_ t110_ p q_ seen l x_,P3 bytes k t63_ t64_ t65_ t110_ p q_ seen l x_=(if t110_=true then P2 bytes k t63_ t64_ (IntKind.wrap .i64 (t65_+1)) p q_ seen l
  else (if (((ls l).length:Int)==4096)=true then some (([]:aZ),false,3)
   else (A x_ p q_>>=fun r_60=>(if r_60.1=true then some (x_.text,true,0)
     else (ri x_>>=fun r_63=>(some (Mp.put seen r_63 true)>>=fun m_66=>
        (if ((ls l).length+(ls (some ([x_]:List bw))).length)*64≤140737488355328 then
         P2 bytes k t63_ t64_ (IntKind.wrap .i64 (t65_+1)) r_60.2.1 r_60.2.2 m_66 (bW l (ls (some ([x_]:List bw)))) else none)))))))
noncomputable def hty (su:Bool→Bool→Bool) (C D:List aT) (w:aZ):Bool:=su (en C (run C w)) (en D (run D w))
def Wn (x y:Option (aZ × Bool × Int)):Prop:= ∃r,x=some r∧y=some r
section
variable {p q:af} (hp:rp p=true) (hq:rp q=true)
include hp hq
variable {P1:Sl Int→Int→af→af→Mp aZ Bool→Sl bw→Option (aZ × Bool × Int)} {P2:Sl Int→Int→Sl Int→Int→Int→af→af→Mp aZ Bool→Sl bw→Option (aZ × Bool × Int)} {P3:Sl Int→Int→Sl Int→Int→Int→Bool→af→af→Mp aZ Bool→Sl bw→bw→Option (aZ × Bool × Int)} {A:bw→af→af→Option (Bool × af × af)} (S:Ty P1 P2 P3 A)
variable {kind:Int} {su:Bool→Bool→Bool} (hkd:XK kind su) (hA: ∀w:aZ,A (wj (ls p.Code) (ls q.Code) w) p q=some (hty su (ls p.Code) (ls q.Code) w,p,q))
include S hkd hA
variable {like:an 256 Int} (hlk:Lk (ls p.Code) (ls q.Code) like)
include hlk
theorem AU (k:Nat) {v:aZ} (next: ∀(W:List aZ) (s1 s2:Mp aZ Bool),W.length≤4096→(∀w∈W,hty su (ls p.Code) (ls q.Code) w=false)→(∀w∈W,w.length≤k+1)→Sn (MQ (ls p.Code) (ls q.Code)) W s1→Sn (AD (ls p.Code) (ls q.Code)) W s2→
      Wn (P1 (so (ints (lA (ls p.Code) (ls q.Code)))) ((k+1:Nat):Int) p q s1 (so (W.map (wj (ls p.Code) (ls q.Code))))) (gU (.p1 kind ((k+1:Nat):Int) p q like (so (W.map (mU (ls p.Code) (ls q.Code)))) s2))):
    ∀(m t c:Nat) (W:List aZ) (s1 s2:Mp aZ Bool),m+t=(lA (ls p.Code) (ls q.Code)).length→c≤256→tV (ls p.Code) (ls q.Code) c=(lA (ls p.Code) (ls q.Code)).drop t→W[k]? =some v→v.length≤k→W.length≤4096→(∀w∈W,hty su (ls p.Code) (ls q.Code) w=false)→(∀w∈W,w.length≤k+1)→Sn (MQ (ls p.Code) (ls q.Code)) W s1→Sn (AD (ls p.Code) (ls q.Code)) W s2→
      Wn (P2 (so (ints (lA (ls p.Code) (ls q.Code)))) (k:Int) (so (ints (lA (ls p.Code) (ls q.Code)))) ((lA (ls p.Code) (ls q.Code)).length:Int) (t:Int) p q s1 (so (W.map (wj (ls p.Code) (ls q.Code))))) (gU (.p5 kind (k:Int) (c:Int) p q like (so (W.map (mU (ls p.Code) (ls q.Code)))) s2 (mU (ls p.Code) (ls q.Code) v)))
  | 0,t,c,W,s1,s2,h,hc,hr,hv,hvl,hW,hno,htx,h1,h2=>by
    have hk:=mj hv
    rw [List.drop_of_length_le (by omega)] at hr
    rcases tW (kind:=kind) (i:=k) hp hq hlk (so (W.map (mU (ls p.Code) (ls q.Code)))) s2 (mU (ls p.Code) (ls q.Code) v) (256-c) c (by omega) with ⟨_,h4⟩ | ⟨r,_,_,_,h4,_⟩
    · rw [h4,eo k (by omega),S.e2,eU (by omega),eo k (by omega)]
      exact next W s1 s2 hW hno htx h1 h2
    rw [hr] at h4;cases h4
  | m+1,t,c,W,s1,s2,h,hc,hr,hv,hvl,hW,hno,htx,h1,h2=>by
    have hk:=mj hv
    have hkn:=LW (ls p.Code) (ls q.Code)
    obtain ⟨r,hrt⟩:=bQ (lA (ls p.Code) (ls q.Code)) (i:=t) (by omega)
    have hr256:=RD r (List.mem_of_getElem? hrt)
    rw [drop_cons hrt] at hr
    rcases tW (kind:=kind) (i:=k) hp hq hlk (so (W.map (mU (ls p.Code) (ls q.Code)))) s2 (mU (ls p.Code) (ls q.Code) v) (256-c) c (by omega) with ⟨h4,_⟩ | ⟨r',_,_,hmem,h4,h5⟩
    · rw [hr] at h4;cases h4
    rw [hr,List.cons.injEq] at h4
    obtain ⟨rfl,h4⟩:=h4
    obtain ⟨s3,h6,h7⟩:=CR (kind:=kind) (i:=k) hp hq hlk hr256 hmem (W:=W) (v:=v) (by omega) (by omega) h2
    rw [h5,h7]
    have e1:(ints (lA (ls p.Code) (ls q.Code)))[t]? =some (r:Int):=by simp [ints,hrt]
    have e2:(W.map (wj (ls p.Code) (ls q.Code)))[k]? =some (wj (ls p.Code) (ls q.Code) v):=by simp [hv]
    have e3:cL (ls (some [(r:Int)]))=[UInt8.ofNat r]:=by simp [cL,ls]
    have e4:((UInt8.ofNat r).toNat:Int)=(r:Int):=by rw [Lr hr256]
    have f1:=VB hp (fY (ls p.Code) v) (gi (ls p.Code) v) (UInt8.ofNat r)
    have f2:=VB hq (fY (ls q.Code) v) (gi (ls q.Code) v) (UInt8.ofNat r)
    rw [e4,←od] at f1 f2
    have f1':zT p (wj (ls p.Code) (ls q.Code) v).a (r:Int)=_:=f1
    have f2':zT q (wj (ls p.Code) (ls q.Code) v).b (r:Int)=_:=f2
    have e5:({a:=so (ints (run (ls p.Code) (v++[UInt8.ofNat r]))),b:=so (ints (run (ls q.Code) (v++[UInt8.ofNat r]))),text:=(wj (ls p.Code) (ls q.Code) v).text++[UInt8.ofNat r]}:bw)=wj (ls p.Code) (ls q.Code) (v++[UInt8.ofNat r]):=rfl
    rw [S.e2,dti (by omega),bq,ixs e1,sm,bq,ixs e2,sm,sm,sm,e3,if_pos (by show v.length+_≤_;simp;omega),f1',sm,f2',sm,eo t (by omega),fe,fe,e5,Qy hp hq,sm]
    have hgo:=fun (s2':Mp aZ Bool) (hs2:Sn (AD (ls p.Code) (ls q.Code)) W s2')=>AU k next m (t+1) (r+1) W s1 s2' (by omega) (by omega) h4.symm hv hvl hW hno htx h1 hs2
    by_cases hz:run (ls p.Code) (v++[UInt8.ofNat r])=[]∧run (ls q.Code) (v++[UInt8.ofNat r])=[]
    · have e:Jm (ls p.Code) (ls q.Code) W (v++[UInt8.ofNat r])=W:=if_pos (.inl hz)
      rw [e] at h6 ⊢
      rw [gf (by rw [hz.1];rfl),gf (by rw [hz.2];rfl)]
      exact hgo s3 h6
    have hgo2: ∀X Y:Option (aZ × Bool × Int),(if (((run (ls p.Code) (v++[UInt8.ofNat r])).length:Int)==0)=true then (if (((run (ls q.Code) (v++[UInt8.ofNat r])).length:Int)==0)=true then Y else X) else X)=X:=by
      intro X Y
      by_cases h1:run (ls p.Code) (v++[UInt8.ofNat r])=[]
      · have h2:run (ls q.Code) (v++[UInt8.ofNat r])≠[]:=fun h=>hz ⟨h1,h⟩
        have h3:(run (ls q.Code) (v++[UInt8.ofNat r])).length≠0:=fun h=>h2 (List.length_eq_zero_iff.1 h)
        rw [gf (by rw [h1];rfl),gR (by omega)]
      have h3:(run (ls p.Code) (v++[UInt8.ofNat r])).length≠0:=fun h=>h1 (List.length_eq_zero_iff.1 h)
      rw [gR (by omega)]
    rw [hgo2,S.e3]
    cases hs:Option.getD (Mp.get s1 (MQ (ls p.Code) (ls q.Code) (v++[UInt8.ofNat r]))) false with
    | true=>
      obtain ⟨w',g1,g2⟩:=(h1 _).1 hs
      have e:Jm (ls p.Code) (ls q.Code) W (v++[UInt8.ofNat r])=W:=if_pos (.inr ⟨w',g1,CV.1 g2⟩)
      rw [e] at h6 ⊢
      rw [if_pos rfl,eo t (by omega)]
      exact hgo s3 h6
    | false=>
      have e:Jm (ls p.Code) (ls q.Code) W (v++[UInt8.ofNat r])=W++[v++[UInt8.ofNat r]]:=if_neg (by
        rintro (g1 | ⟨w',g1,g2⟩)
        · exact hz g1
        rw [(h1 _).2 ⟨w',g1,CV.2 g2⟩] at hs;cases hs)
      rw [e] at h6 ⊢
      have htx': ∀w∈W++[v++[UInt8.ofNat r]],w.length≤k+1:=fun w hw=>by
        rw [List.mem_append,List.mem_singleton] at hw
        rcases hw with hw | rfl
        · exact htx w hw
        simp;omega
      have hwd:(W++[v++[UInt8.ofNat r]])[W.length]? =some (v++[UInt8.ofNat r]):=by simp
      have hno': ∀j w,j<W.length→(W++[v++[UInt8.ofNat r]])[j]? =some w→su (en (ls p.Code) (run (ls p.Code) w)) (en (ls q.Code) (run (ls q.Code) w))=false:=fun j w hj hw=>by
        rw [List.getElem?_append_left hj] at hw
        exact hno w (List.mem_of_getElem? hw)
      rw [if_neg (by decide),bq,List.length_map]
      by_cases h8:W.length=4096
      · rw [gf (by omega)]
        have:=VD hp hq hlk hkd (h:=W.length) (by omega) hk (c:=r+1) (by omega) hvl hwd hno' (fun h=>by omega) h6 (by simp;omega) htx'
        rw [if_pos h8] at this
        exact ⟨_,rfl,this⟩
      rw [gR (by omega),hA,sm]
      cases hh:hty su (ls p.Code) (ls q.Code) (v++[UInt8.ofNat r]) with
      | true=>
        rw [if_pos rfl]
        have:=VD hp hq hlk hkd (h:=W.length) (by omega) hk (c:=r+1) (by omega) hvl hwd hno' (fun _=>hh) h6 (by simp;omega) htx'
        rw [if_neg h8] at this
        exact ⟨_,rfl,this⟩
      | false=>
        rw [if_neg (by simp),Qy hp hq,sm,sm,if_pos (by simp [ls];omega),eo t (by omega),eC]
        have:=AU k next m (t+1) (r+1) (W++[v++[UInt8.ofNat r]]) _ s3 (by omega) (by omega) h4.symm (by rw [List.getElem?_append_left hk];exact hv) hvl (by simp;omega) (fun w hw=>by
          rw [List.mem_append,List.mem_singleton] at hw
          rcases hw with hw | rfl
          · exact hno w hw
          exact hh) htx' (h1.add _) h6
        rw [List.map_append] at this
        exact this
theorem Hf: ∀(m k:Nat) (W:List aZ) (s1 s2:Mp aZ Bool),m+k=4096→W.length≤4096→(∀w∈W,hty su (ls p.Code) (ls q.Code) w=false)→(∀w∈W,w.length≤k)→Sn (MQ (ls p.Code) (ls q.Code)) W s1→Sn (AD (ls p.Code) (ls q.Code)) W s2→
      Wn (P1 (so (ints (lA (ls p.Code) (ls q.Code)))) (k:Int) p q s1 (so (W.map (wj (ls p.Code) (ls q.Code))))) (gU (.p1 kind (k:Int) p q like (so (W.map (mU (ls p.Code) (ls q.Code)))) s2))
  | m,k,W,s1,s2,h,hW,hno,htx,h1,h2=>by
    by_cases hk:k<W.length
    · match m,h with
      | 0,h=>omega
      | m+1,h=>
        obtain ⟨v,hv⟩:=bQ W hk
        have hh:su (en (ls p.Code) (run (ls p.Code) v)) (en (ls q.Code) (run (ls q.Code) v))=false:=hno v (List.mem_of_getElem? hv)
        rw [IY hp hq hkd hv (by omega),hh,if_neg (by simp),S.e1,bq,List.length_map,dti (by omega),fe]
        exact AU hp hq S hkd hA hlk k (fun W' s1' s2' g1 g2 g3 g4 g5=>Hf m (k+1) W' s1' s2' (by omega) g1 g2 g3 g4 g5) _ 0 0 W s1 s2 rfl (by omega) (Vl _ _) hv (htx v (List.mem_of_getElem? hv)) hW hno (fun w hw=>by have:=htx w hw;omega) h1 h2
    rw [S.e1,bq,List.length_map,eU (by omega),gU.eq_1,bq,List.length_map,eU (by omega)]
    exact ⟨_,rfl,rfl⟩
end
theorem QN {P1:Sl Int→Int→af→af→Mp aZ Bool→Sl bw→Option (aZ × Bool × Int)} {P2:Sl Int→Int→Sl Int→Int→Int→af→af→Mp aZ Bool→Sl bw→Option (aZ × Bool × Int)} {P3:Sl Int→Int→Sl Int→Int→Int→Bool→af→af→Mp aZ Bool→Sl bw→bw→Option (aZ × Bool × Int)} {A:bw→af→af→Option (Bool × af × af)} (S:Ty P1 P2 P3 A) {kind:Int} {su:Bool→Bool→Bool} (hkd:XK kind su) (hA: ∀ {p q:af},rp p=true→rp q=true→ ∀w:aZ,A (wj (ls p.Code) (ls q.Code) w) p q=some (hty su (ls p.Code) (ls q.Code) w,p,q))
    (a b:aK) (ha:cnt a≤10000000) (hb:cnt b≤10000000) {F:Option (aZ × Bool × Int)} (hF:F=(xV a>>=fun r_1=>(if (r_1.2 != 0)=true then some (([]:aZ),false,r_1.2) else (xV b>>=fun r_5=>(if (r_5.2 != 0)=true then some (([]:aZ),false,r_5.2) else
     (xJ r_1.1 (some ([0]:List Int))>>=fun r_16=>(xJ r_5.1 (some ([0]:List Int))>>=fun r_18=>(A ({a:=r_16,b:=r_18,text:=[]}:bw) r_1.1 r_5.1>>=fun r_20=>(if r_20.1=true then some (([]:aZ),true,0)
        else (ri ({a:=r_16,b:=r_18,text:=[]}:bw)>>=fun r_24=>(some (Mp.put (Mp.empty:Mp aZ Bool) r_24 true)>>=fun m_27=>(Jv r_20.2.1 r_20.2.2>>=fun r_30=>
            (P1 r_30 0 r_20.2.1 r_20.2.2 m_27 (some ([({a:=r_16,b:=r_18,text:=[]}:bw)]:List bw)))))))))))))))
    : ∃r,F=some r∧Gl a b kind=some r:=by
  obtain ⟨p,hp,hpr⟩:=VA a
  obtain ⟨q,hq,hqr⟩:=VA b
  subst hF
  unfold Gl
  rw [f24 a ha,f24 b hb,hp,sm,sm]
  by_cases h1:p.2=0
  · rw [zU h1,zU h1,hq,sm,sm]
    by_cases h2:q.2=0
    · have rp':=hpr h1
      have rq':=hqr h2
      have lp:=eK rp'
      have lq:=eK rq'
      have i1:=f41 rp' [0] (by simp;omega) (by simp)
      have i2:=f41 rq' [0] (by simp;omega) (by simp)
      have j1:=f26 rp' [0] (by simp;omega) (by simp)
      have j2:=f26 rq' [0] (by simp;omega) (by simp)
      have i1':xJ p.1 (some [0])=some (so (ints (run (ls p.1.Code) []))):=i1
      have i2':xJ q.1 (some [0])=some (so (ints (run (ls q.1.Code) []))):=i2
      have j1':Ju p.1 (some [0])=some (so (ints (run (ls p.1.Code) []))):=j1
      have j2':Ju q.1 (some [0])=some (so (ints (run (ls q.1.Code) []))):=j2
      obtain ⟨like,hlk,hl⟩:=f25 rp' rq'
      rw [zU h2,zU h2,i1',sm,i2',sm,hl,sm,j1',sm,j2',sm]
      have e5:({a:=so (ints (run (ls p.1.Code) [])),b:=so (ints (run (ls q.1.Code) [])),text:=[]}:bw)=wj (ls p.1.Code) (ls q.1.Code) []:=rfl
      have e6:({a:=so (ints (run (ls p.1.Code) [])),b:=so (ints (run (ls q.1.Code) [])),s:=[]}:gY)=mU (ls p.1.Code) (ls q.1.Code) []:=rfl
      have e7:ix (ls (some [mU (ls p.1.Code) (ls q.1.Code) []])) 0=some (mU (ls p.1.Code) (ls q.1.Code) []):=rfl
      rw [e5,e6,hA rp' rq',sm,e7,sm,Ux rp' rq',sm,sm]
      have g:=IY (like:=like) (i:=0) rp' rq' hkd (W:=[[]]) (w:=[]) rfl (by omega) (Mp.put Mp.empty (AD (ls p.1.Code) (ls q.1.Code) []) true)
      cases hh:hty su (ls p.1.Code) (ls q.1.Code) [] with
      | true=>
        rw [if_pos rfl]
        refine ⟨_,rfl,?_⟩
        refine Eq.trans g ?_
        rw [if_pos (show su _ _=true from hh)]
      | false=>
        rw [if_neg (by simp),Qy rp' rq',sm,sm,f43 rp' rq',sm]
        exact Hf rp' rq' S hkd (hA rp' rq') hlk 4096 0 [[]] _ _ (by omega) (by simp) (fun w hw=>by rw [List.mem_singleton] at hw;subst hw;exact hh) (fun w hw=>by rw [List.mem_singleton] at hw;subst hw;simp) (Sn.one _ _) (Sn.one _ _)
    rw [BI h2,BI h2]
    exact ⟨_,rfl,rfl⟩
  rw [BI h1,BI h1]
  exact ⟨_,rfl,rfl⟩
end Go.Proofs.YtcidnoghoifmmaaDoor
end
section
namespace Go.Proofs.YtcidnoghoifmmaaDoor
open Go AW
set_option maxHeartbeats 4000000
theorem UE {p q:af} (hp:rp p=true) (hq:rp q=true) (w:aZ):KO (wj (ls p.Code) (ls q.Code) w) p q=some (hty (fun x y=> !(x==y)) (ls p.Code) (ls q.Code) w,p,q):=by
 unfold KO wj
 simp only []
 rw [Dh hp (gi _ _) (fY _ _),sm,Dh hq (gi _ _) (fY _ _),sm]
 unfold hty Rd
 cases en (ls p.Code) (run (ls p.Code) w)<;>cases en (ls q.Code) (run (ls q.Code) w)<;>rfl
theorem UL (a b:aK) (ha:cnt a≤10000000) (hb:cnt b≤10000000): ∃r,Ow a b=some r∧Gl a b 1=some r:=
 QN (P1:=fun b k p q s l=>uY (.p1 b k p q s l)) (P2:=fun b k x y z p q s l=>uY (.p2 b k x y z p q s l)) (P3:=fun b k x y z t p q s l u=>uY (.p3 b k x y z t p q s l u)) (A:=KO)
  ⟨fun b k p q s l=>uY.eq_1 b k p q s l,fun b k x y z p q s l=>uY.eq_2 b k x y z p q s l,fun b k x y z t p q s l u=>uY.eq_3 b k x y z t p q s l u⟩ (.inl ⟨rfl,rfl⟩) (fun hp hq w=>UE hp hq w) a b ha hb (by unfold Ow;rfl)
theorem UF {p q:af} (hp:rp p=true) (hq:rp q=true) (w:aZ):rZ (wj (ls p.Code) (ls q.Code) w) p q=some (hty (fun x y=>x&& !y) (ls p.Code) (ls q.Code) w,p,q):=by
 unfold rZ wj
 simp only []
 rw [Dh hp (gi _ _) (fY _ _),sm,Dh hq (gi _ _) (fY _ _),sm]
 unfold hty WA
 cases en (ls p.Code) (run (ls p.Code) w)<;>cases en (ls q.Code) (run (ls q.Code) w)<;>rfl
theorem UM (a b:aK) (ha:cnt a≤10000000) (hb:cnt b≤10000000): ∃r,xU a b=some r∧Gl a b 2=some r:=
 QN (P1:=fun b k p q s l=>iH (.p1 b k p q s l)) (P2:=fun b k x y z p q s l=>iH (.p2 b k x y z p q s l)) (P3:=fun b k x y z t p q s l u=>iH (.p3 b k x y z t p q s l u)) (A:=rZ)
  ⟨fun b k p q s l=>iH.eq_1 b k p q s l,fun b k x y z p q s l=>iH.eq_2 b k x y z p q s l,fun b k x y z t p q s l u=>iH.eq_3 b k x y z t p q s l u⟩ (.inr (.inl ⟨rfl,rfl⟩)) (fun hp hq w=>UF hp hq w) a b ha hb (by unfold xU;rfl)
theorem UG {p q:af} (hp:rp p=true) (hq:rp q=true) (w:aZ):nY (wj (ls p.Code) (ls q.Code) w) p q=some (hty (fun x y=>x&&y) (ls p.Code) (ls q.Code) w,p,q):=by
 unfold nY wj
 simp only []
 rw [Dh hp (gi _ _) (fY _ _),sm,Dh hq (gi _ _) (fY _ _),sm]
 unfold hty Rf
 cases en (ls p.Code) (run (ls p.Code) w)<;>cases en (ls q.Code) (run (ls q.Code) w)<;>rfl
theorem MX (a b:aK) (ha:cnt a≤10000000) (hb:cnt b≤10000000): ∃r,rY a b=some r∧Gl a b 3=some r:=
 QN (P1:=fun b k p q s l=>gA (.p1 b k p q s l)) (P2:=fun b k x y z p q s l=>gA (.p2 b k x y z p q s l)) (P3:=fun b k x y z t p q s l u=>gA (.p3 b k x y z t p q s l u)) (A:=nY)
  ⟨fun b k p q s l=>gA.eq_1 b k p q s l,fun b k x y z p q s l=>gA.eq_2 b k x y z p q s l,fun b k x y z t p q s l u=>gA.eq_3 b k x y z t p q s l u⟩ (.inr (.inr ⟨rfl,rfl⟩)) (fun hp hq w=>UG hp hq w) a b ha hb (by unfold rY;rfl)
end Go.Proofs.YtcidnoghoifmmaaDoor
end
section
namespace Go.Proofs.YtcidnoghoifmmaaDoor
open Go AW
set_option maxRecDepth 100000
set_option maxHeartbeats 4000000
def Le {α :Type} (x y:Option α):Prop:= ∀r,x=some r→y=some r
theorem le_refl {α :Type} (x:Option α):Le x x:=fun _ h=>h
theorem le_none {α :Type} (x:Option α):Le none x:=fun _ h=>by cases h
theorem cr {α β :Type} {x y:Option α} {f g: α →Option β} (h:Le x y) (h': ∀v,Le (f v) (g v)):Le (x>>=f) (y>>=g):=fun r e=>by
 obtain ⟨v,e1,e2⟩:=bind_some e
 rw [h v e1];exact h' v r e2
theorem dm {α :Type} {c:Prop} [Decidable c] {x y x' y':Option α} (h:Le x x') (h':Le y y'):Le (if c then x else y) (if c then x' else y'):=fun r e=>by
 by_cases k:c
 ·rw [if_pos k] at e ⊢;exact h r e
 rw [if_neg k] at e ⊢;exact h' r e
noncomputable def KZ (fu:Nat) (s:an 4 Int) (c:Int):Option Bool:=(if (0:Int)≤(IntKind.wrap .u8 (Int.tdiv c 64))∧(IntKind.wrap .u8 (Int.tdiv c 64))<(4:Int) then (ix s.l (IntKind.wrap .u8 (Int.tdiv c 64))>>=fun v_2=>(if 0≤(Int.tmod c 64) then (some ((kz .u64 (jC .u64 v_2 (Int.tmod c 64)) 1)==1)) else none)) else none)
theorem NV (fu:Nat) (s:an 4 Int) (c:Int):Le (KZ fu s c) (KR s c):=by
 unfold KZ KR
 repeat' (with_reducible first | exact le_refl _ | apply dm | refine cr ?_ (fun _=>?_))
theorem Mo (n:aK) (h:cnt n≤8192∧(iD n 0 []).isSome=true∧sz n<16384∧ak n=false∧bk n=false):xV n=some (JR n,0):=by
 obtain ⟨hc,hk,hs,ha,hb⟩:=h
 obtain ⟨w,hw,u,hu,h1,h2⟩:=f9 n
 rw [Uw,if_pos hc,if_pos hk] at hu
 cases hu
 obtain ⟨hg,_,h3⟩:=h2 rfl
 rw [if_pos hs] at h3
 obtain ⟨r,hr,w',hw',h4,h5,h6⟩:=f10 n
 rw [hw] at hw'
 cases hw'
 have h7:=h6 (by rw [h3])
 have h8:r.2=0:=by rw [h4,h3]
 unfold xV
 rw [hr,sm,zU h8,f48 (n:=n) (by omega),sm,hb,UH (n:=n) (by omega)]
 rw [show r.1=JR n from h7.2.2.2.2]
 simp only [sm,ha]
 rfl
theorem lh0 {x:aK} (h:x.Kind=2) (hk:x.Kids.isNone=true):lh x=(0,0):=by
  obtain ⟨k,st,mn,mx,g,o⟩:=x
  simp only at h hk
  subst h
  cases o with
  | some l=>cases hk
  | none=>
    unfold lh Jw
    rw [ko.eq_1,gR (show (2:Int)≠6 by decide),ko.eq_2,ko.eq_3,eU (by simp [ls])]
    rfl
noncomputable def DD (fu:Nat) (n:aK):Option (af × Int):=if cnt n≤8192∧(iD n 0 []).isSome=true∧sz n<16384∧ak n=false∧bk n=false then (if n.Kind=5 then (match ls n.Kids with | []=>none | x::_=>if x.Kind=2∧x.Kids.isNone=true then some ({bH:=(ck n:Int),bX:=(dep n:Int),Code:=some (yx (cd x) (0,0) (cT x) n.Min n.Max 0 0++[ik 12])},0) else none) else some (JR n,0)) else none
theorem NQ (fu:Nat) (n:aK):Le (DD fu n) (xV n):=fun r e=>by
 unfold DD at e
 split at e
 ·rename_i h
  split at e
  ·rename_i h5
   split at e
   ·cases e
   rename_i x l hl
   split at e
   ·rename_i hx
    cases e
    rw [Mo n h]
    unfold JR
    rw [xp,if_neg (by rw [h5];decide),if_neg (by rw [h5];decide),if_neg (by rw [h5];decide),if_neg (by rw [h5];decide),if_pos h5,hl,RO,lh0 hx.1 hx.2]
   cases e
  cases e;exact Mo n h
 cases e
noncomputable def PF (fu:Nat) (b:Bool):Option Int:=(if b=true then (some 1) else (some 0))
theorem VT (fu:Nat) (b:Bool):Le (PF fu b) (Oz b):=by
 unfold PF Oz
 repeat' (with_reducible first | exact le_refl _ | apply dm | refine cr ?_ (fun _=>?_))
noncomputable def DG (fu:Nat) (i:Int) (q0_:Sl Bool) (q1_:Sl Int):Option (Sl Bool × Sl Int):=(ix (ls q0_) i>>=fun v_2=>(if (!v_2)=true then (ix (ls q0_) i>>=fun v_5=>(if ((ls q1_).length+(ls (some ([i]:List Int))).length)*8≤140737488355328 then (some ((dF q0_ i true),bW q1_ (ls (some ([i]:List Int))))) else none)) else (some (q0_,q1_))))
theorem VS (fu:Nat) (i:Int) (q0_:Sl Bool) (q1_:Sl Int):Le (DG fu i q0_ q1_) (Gm i q0_ q1_):=by
 unfold DG Gm
 repeat' (with_reducible first | exact le_refl _ | apply dm | refine cr ?_ (fun _=>?_))
noncomputable def PO (fu:Nat)  (ih:vl→Option (Sl Int)):vl→Option (Sl Int):=fun st=>match st with | .p1 p t20_ t21_ t22_ iE todo=>(if (decide (t22_<t21_))=true then (ix (ls t20_) t22_>>=fun v_8=>(ix (ls iE) v_8>>=fun v_11=>(ih (.p1 p t20_ t21_ (IntKind.wrap .i64 (t22_+1)) (dF iE v_8 true) todo)))) else (ih (.p2 p 0 iE todo))) | .p2 p k iE todo=>(if (decide (k<((ls todo).length:Int)))=true then (ix (ls todo) k>>=fun v_17=>(ix (ls p.Code) v_17>>=fun v_19=>(if (v_19.Kind==1)=true then (ih (.p2 p (IntKind.wrap .i64 (k+1)) iE todo)) else (if (v_19.Kind==12)=true then (ih (.p2 p (IntKind.wrap .i64 (k+1)) iE todo)) else (if (v_19.Kind==2)=true then (ix (ls todo) k>>=fun v_25=>(DG fu (IntKind.wrap .i64 (v_25+1)) iE todo>>=fun r_27=>(DG fu v_19.To r_27.1 r_27.2>>=fun r_29=>(ih (.p2 p (IntKind.wrap .i64 (k+1)) r_29.1 r_29.2))))) else (if (v_19.Kind==3)=true then (DG fu v_19.To iE todo>>=fun r_32=>(ih (.p2 p (IntKind.wrap .i64 (k+1)) r_32.1 r_32.2))) else (ix (ls todo) k>>=fun v_34=>(DG fu (IntKind.wrap .i64 (v_34+1)) iE todo>>=fun r_36=>(ih (.p2 p (IntKind.wrap .i64 (k+1)) r_36.1 r_36.2)))))))))) else (ih (.p3 p iE ((ls iE).length:Int) 0 none))) | .p3 p t76_ t77_ t78_ out=>(if (decide (t78_<t77_))=true then (ix (ls t76_) t78_>>=fun v_41=>(if v_41=true then (ix (ls p.Code) t78_>>=fun v_44=>(if (v_44.Kind==1)=true then (ih (.p4 p t78_ t76_ t77_ t78_ out)) else (ix (ls p.Code) t78_>>=fun v_47=>(if (v_47.Kind==12)=true then (ih (.p4 p t78_ t76_ t77_ t78_ out)) else (ih (.p3 p t76_ t77_ (IntKind.wrap .i64 (t78_+1)) out)))))) else (ih (.p3 p t76_ t77_ (IntKind.wrap .i64 (t78_+1)) out)))) else (some out)) | .p4 p i t76_ t77_ t78_ out=>(if ((ls out).length+(ls (some ([i]:List Int))).length)*8≤140737488355328 then (ih (.p3 p t76_ t77_ (IntKind.wrap .i64 (t78_+1)) (bW out (ls (some ([i]:List Int)))))) else none)
noncomputable def Gs (fu:Nat)  :vl→Option (Sl Int):=Nat.rec (motive:=fun _=>vl→Option (Sl Int)) (fun _=>none) (fun fu ih=>PO fu ih) fu
theorem PI (fu:Nat)  (st:vl):Gs (fu+1) st=PO fu (Gs fu) st:=rfl
theorem VV (fu:Nat) (st:vl):Le (Gs fu st) (jm st):=by
 induction fu generalizing st with
 | zero=>exact le_none _
 | succ fu ih=>cases st<;>(rw [PI];(first | rw [jm.eq_1] | rw [jm.eq_2] | rw [jm.eq_3] | rw [jm.eq_4]);unfold PO;dsimp only;generalize Gs fu=hh at ih ⊢;repeat' (with_reducible first | exact ih _ | exact VS fu _ _ _ | exact le_refl _ | apply dm | refine cr ?_ (fun _=>?_)))
noncomputable def AB (fu:Nat) (p:af) (from_:Sl Int):Option (Sl Int):=(if 0≤((ls p.Code).length:Int)∧((ls p.Code).length:Int)=((ls p.Code).length:Int)∧(1:Int)*((ls p.Code).length:Int)≤281474976710656 then (Gs fu (.p1 p from_ ((ls from_).length:Int) 0 (some (List.replicate (Int.toNat ((ls p.Code).length:Int)) (false:Bool))) from_)) else none)
theorem Iw (fu:Nat) (p:af) (from_:Sl Int):Le (AB fu p from_) (xJ p from_):=by
 unfold AB xJ
 repeat' (with_reducible first | exact VV fu _ | exact le_refl _ | apply dm | refine cr ?_ (fun _=>?_))
noncomputable def PT (fu:Nat)  (ih:vo→Option (Sl Int)):vo→Option (Sl Int):=fun st=>match st with | .p1 c p t11_ t12_ t13_ next=>(if (decide (t13_<t12_))=true then (ix (ls t11_) t13_>>=fun v_3=>(ix (ls p.Code) v_3>>=fun v_5=>(if (v_5.Kind==1)=true then (KZ fu v_5.Set c>>=fun r_9=>(if r_9=true then (if ((ls next).length+(ls (some ([IntKind.wrap .i64 (v_3+1)]:List Int))).length)*8≤140737488355328 then (ih (.p1 c p t11_ t12_ (IntKind.wrap .i64 (t13_+1)) (bW next (ls (some ([IntKind.wrap .i64 (v_3+1)]:List Int)))))) else none) else (ih (.p1 c p t11_ t12_ (IntKind.wrap .i64 (t13_+1)) next)))) else (ih (.p1 c p t11_ t12_ (IntKind.wrap .i64 (t13_+1)) next))))) else (AB fu p next>>=fun r_15=>(some r_15)))
noncomputable def Gv (fu:Nat)  :vo→Option (Sl Int):=Nat.rec (motive:=fun _=>vo→Option (Sl Int)) (fun _=>none) (fun fu ih=>PT fu ih) fu
theorem PL (fu:Nat)  (st:vo):Gv (fu+1) st=PT fu (Gv fu) st:=rfl
theorem VY (fu:Nat) (st:vo):Le (Gv fu st) (EP st):=by
 induction fu generalizing st with
 | zero=>exact le_none _
 | succ fu ih=>cases st<;>(rw [PL];(first | rw [EP.eq_1]);unfold PT;dsimp only;generalize Gv fu=hh at ih ⊢;repeat' (with_reducible first | exact ih _ | exact NV fu _ _ | exact Iw fu _ _ | exact le_refl _ | apply dm | refine cr ?_ (fun _=>?_)))
noncomputable def DF (fu:Nat) (p:af) (l:Sl Int) (c:Int):Option (Sl Int):=(Gv fu (.p1 c p l ((ls l).length:Int) 0 none))
theorem NU (fu:Nat) (p:af) (l:Sl Int) (c:Int):Le (DF fu p l c) (zT p l c):=by
 unfold DF zT
 repeat' (with_reducible first | exact VY fu _ | exact le_refl _ | apply dm | refine cr ?_ (fun _=>?_))
noncomputable def DE (fu:Nat) (p:af) (l:Sl Int):Option Bool:=(if (decide (((ls l).length:Int)>0))=true then (ix (ls l) (IntKind.wrap .i64 (((ls l).length:Int)-1))>>=fun v_2=>(some (v_2==(IntKind.wrap .i64 (((ls p.Code).length:Int)-1))))) else (some false))
theorem NS (fu:Nat) (p:af) (l:Sl Int):Le (DE fu p l) (EO p l):=by
 unfold DE EO
 repeat' (with_reducible first | exact le_refl _ | apply dm | refine cr ?_ (fun _=>?_))
noncomputable def PR (fu:Nat)  (ih:vm→Option aZ):vm→Option aZ:=fun st=>match st with | .p1 x_ t9_ t10_ t11_ s=>(if (decide (t11_<t10_))=true then (ix (ls t9_) t11_>>=fun v_3=>(oK v_3>>=fun r_5=>(MY s r_5>>=fun r_7=>(xg r_7.2.2 32>>=fun r_9=>(ih (.p1 x_ t9_ t10_ (IntKind.wrap .i64 (t11_+1)) r_9.2)))))) else (xg s 47>>=fun r_11=>(ih (.p2 x_.b ((ls x_.b).length:Int) 0 r_11.2)))) | .p2 t22_ t23_ t24_ s=>(if (decide (t24_<t23_))=true then (ix (ls t22_) t24_>>=fun v_14=>(oK v_14>>=fun r_16=>(MY s r_16>>=fun r_18=>(xg r_18.2.2 32>>=fun r_20=>(ih (.p2 t22_ t23_ (IntKind.wrap .i64 (t24_+1)) r_20.2)))))) else (By s>>=fun r_22=>(some r_22)))
noncomputable def Gt (fu:Nat)  :vm→Option aZ:=Nat.rec (motive:=fun _=>vm→Option aZ) (fun _=>none) (fun fu ih=>PR fu ih) fu
theorem PJ (fu:Nat)  (st:vm):Gt (fu+1) st=PR fu (Gt fu) st:=rfl
theorem VW (fu:Nat) (st:vm):Le (Gt fu st) (zy st):=by
 induction fu generalizing st with
 | zero=>exact le_none _
 | succ fu ih=>cases st<;>(rw [PJ];(first | rw [zy.eq_1] | rw [zy.eq_2]);unfold PR;dsimp only;generalize Gt fu=hh at ih ⊢;repeat' (with_reducible first | exact ih _ | exact le_refl _ | apply dm | refine cr ?_ (fun _=>?_)))
noncomputable def uF (fu:Nat) (x_:bw):Option aZ:=(Gt fu (.p1 x_ x_.a ((ls x_.a).length:Int) 0 ([]:aZ)))
theorem CZ (fu:Nat) (x_:bw):Le (uF fu x_) (ri x_):=by
 unfold uF ri
 repeat' (with_reducible first | exact VW fu _ | exact le_refl _ | apply dm | refine cr ?_ (fun _=>?_))
noncomputable def PS (fu:Nat)  (ih:vn→Option (Sl Int)):vn→Option (Sl Int):=fun st=>match st with | .p1 p q_ t14_ seen out=>(if (decide (t14_<256))=true then (ih (.p2 p q_ t14_ t14_ (some ([p.Code,q_.Code]:List (Sl aT))) ((ls (some ([p.Code,q_.Code]:List (Sl aT)))).length:Int) 0 seen out ([]:aZ))) else (some out)) | .p2 p q_ c t14_ t21_ t22_ t23_ seen out s=>(if (decide (t23_<t22_))=true then (ix (ls t21_) t23_>>=fun v_7=>(ih (.p3 p q_ c t14_ t21_ t22_ t23_ v_7 ((ls v_7).length:Int) 0 seen out s))) else (By s>>=fun r_9=>(if (!(Option.getD (Mp.get seen r_9) false))=true then (By s>>=fun r_12=>(some (Mp.put seen r_12 true)>>=fun m_15=>(if ((ls out).length+(ls (some ([IntKind.wrap .u8 c]:List Int))).length)*1≤140737488355328 then (ih (.p1 p q_ (IntKind.wrap .i64 (t14_+1)) m_15 (bW out (ls (some ([IntKind.wrap .u8 c]:List Int)))))) else none))) else (ih (.p1 p q_ (IntKind.wrap .i64 (t14_+1)) seen out))))) | .p3 p q_ c t14_ t21_ t22_ t23_ t27_ t28_ t29_ seen out s=>(if (decide (t29_<t28_))=true then (ix (ls t27_) t29_>>=fun v_21=>(if (v_21.Kind==1)=true then (KZ fu v_21.Set (IntKind.wrap .u8 c)>>=fun r_25=>(PF fu r_25>>=fun r_27=>(ix ([48,49]:aZ) r_27>>=fun b_29=>(xg s (b_29.toNat:Int)>>=fun r_31=>(ih (.p3 p q_ c t14_ t21_ t22_ t23_ t27_ t28_ (IntKind.wrap .i64 (t29_+1)) seen out r_31.2)))))) else (ih (.p3 p q_ c t14_ t21_ t22_ t23_ t27_ t28_ (IntKind.wrap .i64 (t29_+1)) seen out s)))) else (ih (.p2 p q_ c t14_ t21_ t22_ (IntKind.wrap .i64 (t23_+1)) seen out s)))
noncomputable def Gu (fu:Nat)  :vn→Option (Sl Int):=Nat.rec (motive:=fun _=>vn→Option (Sl Int)) (fun _=>none) (fun fu ih=>PS fu ih) fu
theorem PK (fu:Nat)  (st:vn):Gu (fu+1) st=PS fu (Gu fu) st:=rfl
theorem VX (fu:Nat) (st:vn):Le (Gu fu st) (nZ st):=by
 induction fu generalizing st with
 | zero=>exact le_none _
 | succ fu ih=>cases st<;>(rw [PK];(first | rw [nZ.eq_1] | rw [nZ.eq_2] | rw [nZ.eq_3]);unfold PS;dsimp only;generalize Gu fu=hh at ih ⊢;repeat' (with_reducible first | exact ih _ | exact NV fu _ _ | exact VT fu _ | exact le_refl _ | apply dm | refine cr ?_ (fun _=>?_)))
noncomputable def KY (fu:Nat) (p:af) (q_:af):Option (Sl Int):=(Gu fu (.p1 p q_ 0 (Mp.empty:Mp aZ Bool) none))
theorem NT (fu:Nat) (p:af) (q_:af):Le (KY fu p q_) (Jv p q_):=by
 unfold KY Jv
 repeat' (with_reducible first | exact VX fu _ | exact le_refl _ | apply dm | refine cr ?_ (fun _=>?_))
noncomputable def PD (fu:Nat) (x_:Bool) (y:Bool):Option Bool:=(some (!(x_==y)))
theorem VQ (fu:Nat) (x_:Bool) (y:Bool):Le (PD fu x_ y) (Rd x_ y):=by
 unfold PD Rd
 repeat' (with_reducible first | exact le_refl _ | apply dm | refine cr ?_ (fun _=>?_))
noncomputable def PE (fu:Nat) (x_:Bool) (y:Bool):Option Bool:=(if x_=true then (some y) else (some false))
theorem VR (fu:Nat) (x_:Bool) (y:Bool):Le (PE fu x_ y) (Rf x_ y):=by
 unfold PE Rf
 repeat' (with_reducible first | exact le_refl _ | apply dm | refine cr ?_ (fun _=>?_))
noncomputable def KX (fu:Nat) (x_:bw) (q0_:af) (q1_:af):Option (Bool × af × af):=(DE fu q0_ x_.a>>=fun r_1=>(DE fu q1_ x_.b>>=fun r_3=>(PD fu r_1 r_3>>=fun r_5=>(some (r_5,q0_,q1_)))))
theorem NR (fu:Nat) (x_:bw) (q0_:af) (q1_:af):Le (KX fu x_ q0_ q1_) (KO x_ q0_ q1_):=by
 unfold KX KO
 repeat' (with_reducible first | exact NS fu _ _ | exact VQ fu _ _ | exact le_refl _ | apply dm | refine cr ?_ (fun _=>?_))
noncomputable def PN (fu:Nat)  (ih:vk→Option (aZ × Bool × Int)):vk→Option (aZ × Bool × Int):=fun st=>match st with | .p1 bytes k p q_ seen l=>(if (decide (k<((ls l).length:Int)))=true then (ih (.p2 bytes k bytes ((ls bytes).length:Int) 0 p q_ seen l)) else (some (([]:aZ),false,0))) | .p2 bytes k t63_ t64_ t65_ p q_ seen l=>(if (decide (t65_<t64_))=true then (ix (ls t63_) t65_>>=fun v_34=>(ix (ls l) k>>=fun v_39=>(ix (ls l) k>>=fun v_41=>(ix (ls l) k>>=fun v_43=>(if (v_43.text).length+(cL (ls (some ([v_34]:List Int)))).length≤9223372036854775807 then (DF fu p v_39.a v_34>>=fun r_48=>(DF fu q_ v_41.b v_34>>=fun r_50=>(if (((ls r_48).length:Int)==0)=true then (if (((ls r_50).length:Int)==0)=true then (ih (.p2 bytes k t63_ t64_ (IntKind.wrap .i64 (t65_+1)) p q_ seen l)) else (uF fu ({a:=r_48,b:=r_50,text:=v_43.text++(cL (ls (some ([v_34]:List Int))))}:bw)>>=fun r_54=>(ih (.p3 bytes k t63_ t64_ t65_ (Option.getD (Mp.get seen r_54) false) p q_ seen l ({a:=r_48,b:=r_50,text:=v_43.text++(cL (ls (some ([v_34]:List Int))))}:bw))))) else (uF fu ({a:=r_48,b:=r_50,text:=v_43.text++(cL (ls (some ([v_34]:List Int))))}:bw)>>=fun r_56=>(ih (.p3 bytes k t63_ t64_ t65_ (Option.getD (Mp.get seen r_56) false) p q_ seen l ({a:=r_48,b:=r_50,text:=v_43.text++(cL (ls (some ([v_34]:List Int))))}:bw))))))) else none))))) else (ih (.p1 bytes (IntKind.wrap .i64 (k+1)) p q_ seen l))) | .p3 bytes k t63_ t64_ t65_ t110_ p q_ seen l x_=>(if t110_=true then (ih (.p2 bytes k t63_ t64_ (IntKind.wrap .i64 (t65_+1)) p q_ seen l)) else (if (((ls l).length:Int)==4096)=true then (some (([]:aZ),false,3)) else (KX fu x_ p q_>>=fun r_60=>(if r_60.1=true then (some (x_.text,true,0)) else (uF fu x_>>=fun r_63=>(some (Mp.put seen r_63 true)>>=fun m_66=>(if ((ls l).length+(ls (some ([x_]:List bw))).length)*64≤140737488355328 then (ih (.p2 bytes k t63_ t64_ (IntKind.wrap .i64 (t65_+1)) r_60.2.1 r_60.2.2 m_66 (bW l (ls (some ([x_]:List bw)))))) else none)))))))
noncomputable def Gq (fu:Nat)  :vk→Option (aZ × Bool × Int):=Nat.rec (motive:=fun _=>vk→Option (aZ × Bool × Int)) (fun _=>none) (fun fu ih=>PN fu ih) fu
theorem PG (fu:Nat)  (st:vk):Gq (fu+1) st=PN fu (Gq fu) st:=rfl
theorem VU (fu:Nat) (st:vk):Le (Gq fu st) (uY st):=by
 induction fu generalizing st with
 | zero=>exact le_none _
 | succ fu ih=>cases st<;>(rw [PG];(first | rw [uY.eq_1] | rw [uY.eq_2] | rw [uY.eq_3]);unfold PN;dsimp only;generalize Gq fu=hh at ih ⊢;repeat' (with_reducible first | exact ih _ | exact NU fu _ _ _ | exact CZ fu _ | exact NR fu _ _ _ | exact le_refl _ | apply dm | refine cr ?_ (fun _=>?_)))
noncomputable def PC (fu:Nat) (m:aK) (n:aK):Option (aZ × Bool × Int):=(DD fu m>>=fun r_1=>(if (r_1.2 != 0)=true then (some (([]:aZ),false,r_1.2)) else (DD fu n>>=fun r_5=>(if (r_5.2 != 0)=true then (some (([]:aZ),false,r_5.2)) else (AB fu r_1.1 (some ([0]:List Int))>>=fun r_16=>(AB fu r_5.1 (some ([0]:List Int))>>=fun r_18=>(KX fu ({a:=r_16,b:=r_18,text:=[]}:bw) r_1.1 r_5.1>>=fun r_20=>(if r_20.1=true then (some (([]:aZ),true,0)) else (uF fu ({a:=r_16,b:=r_18,text:=[]}:bw)>>=fun r_24=>(some (Mp.put (Mp.empty:Mp aZ Bool) r_24 true)>>=fun m_27=>(KY fu r_20.2.1 r_20.2.2>>=fun r_30=>(Gq fu (.p1 r_30 0 r_20.2.1 r_20.2.2 m_27 (some ([({a:=r_16,b:=r_18,text:=[]}:bw)]:List bw)))))))))))))))
theorem VP (fu:Nat) (m:aK) (n:aK):Le (PC fu m n) (Ow m n):=by
 unfold PC Ow
 repeat' (with_reducible first | exact NQ fu _ | exact Iw fu _ _ | exact NR fu _ _ _ | exact CZ fu _ | exact NT fu _ _ | exact VU fu _ | exact le_refl _ | apply dm | refine cr ?_ (fun _=>?_))
noncomputable def KW (fu:Nat) (a:aK) (b:aK):Option (Bool × aZ × Int):=(PC fu a b>>=fun r_1=>(if (!r_1.2.1)=true then (some ((r_1.2.2==0),r_1.1,r_1.2.2)) else (some (false,r_1.1,r_1.2.2))))
theorem VL (fu:Nat) (a:aK) (b:aK):Le (KW fu a b) (KM a b):=by
 unfold KW KM
 repeat' (with_reducible first | exact VP fu _ _ | exact le_refl _ | apply dm | refine cr ?_ (fun _=>?_))
noncomputable def vh (fu:Nat) (x_:bw) (q0_:af) (q1_:af):Option (Bool × af × af):=(DE fu q0_ x_.a>>=fun r_1=>(DE fu q1_ x_.b>>=fun r_3=>(PE fu r_1 r_3>>=fun r_5=>(some (r_5,q0_,q1_)))))
theorem CY (fu:Nat) (x_:bw) (q0_:af) (q1_:af):Le (vh fu x_ q0_ q1_) (nY x_ q0_ q1_):=by
 unfold vh nY
 repeat' (with_reducible first | exact NS fu _ _ | exact VR fu _ _ | exact le_refl _ | apply dm | refine cr ?_ (fun _=>?_))
noncomputable def AM (fu:Nat)  (ih:jo→Option (aZ × Bool × Int)):jo→Option (aZ × Bool × Int):=fun st=>match st with | .p1 bytes k p q_ seen l=>(if (decide (k<((ls l).length:Int)))=true then (ih (.p2 bytes k bytes ((ls bytes).length:Int) 0 p q_ seen l)) else (some (([]:aZ),false,0))) | .p2 bytes k t63_ t64_ t65_ p q_ seen l=>(if (decide (t65_<t64_))=true then (ix (ls t63_) t65_>>=fun v_34=>(ix (ls l) k>>=fun v_39=>(ix (ls l) k>>=fun v_41=>(ix (ls l) k>>=fun v_43=>(if (v_43.text).length+(cL (ls (some ([v_34]:List Int)))).length≤9223372036854775807 then (DF fu p v_39.a v_34>>=fun r_48=>(DF fu q_ v_41.b v_34>>=fun r_50=>(if (((ls r_48).length:Int)==0)=true then (if (((ls r_50).length:Int)==0)=true then (ih (.p2 bytes k t63_ t64_ (IntKind.wrap .i64 (t65_+1)) p q_ seen l)) else (uF fu ({a:=r_48,b:=r_50,text:=v_43.text++(cL (ls (some ([v_34]:List Int))))}:bw)>>=fun r_54=>(ih (.p3 bytes k t63_ t64_ t65_ (Option.getD (Mp.get seen r_54) false) p q_ seen l ({a:=r_48,b:=r_50,text:=v_43.text++(cL (ls (some ([v_34]:List Int))))}:bw))))) else (uF fu ({a:=r_48,b:=r_50,text:=v_43.text++(cL (ls (some ([v_34]:List Int))))}:bw)>>=fun r_56=>(ih (.p3 bytes k t63_ t64_ t65_ (Option.getD (Mp.get seen r_56) false) p q_ seen l ({a:=r_48,b:=r_50,text:=v_43.text++(cL (ls (some ([v_34]:List Int))))}:bw))))))) else none))))) else (ih (.p1 bytes (IntKind.wrap .i64 (k+1)) p q_ seen l))) | .p3 bytes k t63_ t64_ t65_ t110_ p q_ seen l x_=>(if t110_=true then (ih (.p2 bytes k t63_ t64_ (IntKind.wrap .i64 (t65_+1)) p q_ seen l)) else (if (((ls l).length:Int)==4096)=true then (some (([]:aZ),false,3)) else (vh fu x_ p q_>>=fun r_60=>(if r_60.1=true then (some (x_.text,true,0)) else (uF fu x_>>=fun r_63=>(some (Mp.put seen r_63 true)>>=fun m_66=>(if ((ls l).length+(ls (some ([x_]:List bw))).length)*64≤140737488355328 then (ih (.p2 bytes k t63_ t64_ (IntKind.wrap .i64 (t65_+1)) r_60.2.1 r_60.2.2 m_66 (bW l (ls (some ([x_]:List bw)))))) else none)))))))
noncomputable def rm (fu:Nat)  :jo→Option (aZ × Bool × Int):=Nat.rec (motive:=fun _=>jo→Option (aZ × Bool × Int)) (fun _=>none) (fun fu ih=>AM fu ih) fu
theorem Gr (fu:Nat)  (st:jo):rm (fu+1) st=AM fu (rm fu) st:=rfl
theorem LZ (fu:Nat) (st:jo):Le (rm fu st) (gA st):=by
 induction fu generalizing st with
 | zero=>exact le_none _
 | succ fu ih=>cases st<;>(rw [Gr];(first | rw [gA.eq_1] | rw [gA.eq_2] | rw [gA.eq_3]);unfold AM;dsimp only;generalize rm fu=hh at ih ⊢;repeat' (with_reducible first | exact ih _ | exact NU fu _ _ _ | exact CZ fu _ | exact CY fu _ _ _ | exact le_refl _ | apply dm | refine cr ?_ (fun _=>?_)))
noncomputable def AA (fu:Nat) (m:aK) (n:aK):Option (aZ × Bool × Int):=(DD fu m>>=fun r_1=>(if (r_1.2 != 0)=true then (some (([]:aZ),false,r_1.2)) else (DD fu n>>=fun r_5=>(if (r_5.2 != 0)=true then (some (([]:aZ),false,r_5.2)) else (AB fu r_1.1 (some ([0]:List Int))>>=fun r_16=>(AB fu r_5.1 (some ([0]:List Int))>>=fun r_18=>(vh fu ({a:=r_16,b:=r_18,text:=[]}:bw) r_1.1 r_5.1>>=fun r_20=>(if r_20.1=true then (some (([]:aZ),true,0)) else (uF fu ({a:=r_16,b:=r_18,text:=[]}:bw)>>=fun r_24=>(some (Mp.put (Mp.empty:Mp aZ Bool) r_24 true)>>=fun m_27=>(KY fu r_20.2.1 r_20.2.2>>=fun r_30=>(rm fu (.p1 r_30 0 r_20.2.1 r_20.2.2 m_27 (some ([({a:=r_16,b:=r_18,text:=[]}:bw)]:List bw)))))))))))))))
theorem LY (fu:Nat) (m:aK) (n:aK):Le (AA fu m n) (rY m n):=by
 unfold AA rY
 repeat' (with_reducible first | exact NQ fu _ | exact Iw fu _ _ | exact CY fu _ _ _ | exact CZ fu _ | exact NT fu _ _ | exact LZ fu _ | exact le_refl _ | apply dm | refine cr ?_ (fun _=>?_))
noncomputable def PA (fu:Nat) (a:aK) (b:aK):Option (aZ × Bool × Int):=(AA fu a b>>=fun r_1=>(some (r_1.1,r_1.2.1,r_1.2.2)))
theorem VM (fu:Nat) (a:aK) (b:aK):Le (PA fu a b) (KN a b):=by
 unfold PA KN
 repeat' (with_reducible first | exact LY fu _ _ | exact le_refl _ | apply dm | refine cr ?_ (fun _=>?_))
noncomputable def PB (fu:Nat) (n:aK):Option (aZ × Bool × Int):=(PA fu n n>>=fun r_1=>(some (r_1.1,r_1.2.1,r_1.2.2)))
theorem VN (fu:Nat) (n:aK):Le (PB fu n) (MN n):=by
 unfold PB MN
 repeat' (with_reducible first | exact VM fu _ _ | exact le_refl _ | apply dm | refine cr ?_ (fun _=>?_))
noncomputable def Gp (fu:Nat) (c:Int):Option aK:=(if 0≤(Int.tmod c 64) then (if (0:Int)≤(IntKind.wrap .u8 (Int.tdiv c 64))∧(IntKind.wrap .u8 (Int.tdiv c 64))<(4:Int) then (some ({Kind:=2,Set:=(iz (an.rep 4 (0:Int)) (IntKind.wrap .u8 (Int.tdiv c 64)) (xA .u64 1 (Int.tmod c 64))),Min:=0,Max:=0,aH:=0,Kids:=none}:aK)) else none) else none)
theorem VO (fu:Nat) (c:Int):Le (Gp fu c) (Ov c):=by
 unfold Gp Ov
 repeat' (with_reducible first | exact le_refl _ | apply dm | refine cr ?_ (fun _=>?_))
noncomputable def YM (fu:Nat)  :Option Bool:=(Gp fu 97>>=fun r_1=>(KW fu ({Kind:=5,Set:=(an.rep 4 (0:Int)),Min:=0,Max:=(-1),aH:=0,Kids:=(some ([r_1]:List aK))}:aK) ({Kind:=5,Set:=(an.rep 4 (0:Int)),Min:=1,Max:=(-1),aH:=0,Kids:=(some ([r_1]:List aK))}:aK)>>=fun r_6=>(Gp fu 98>>=fun r_11=>(Gp fu 98>>=fun r_16=>(KW fu ({Kind:=4,Set:=(an.rep 4 (0:Int)),Min:=0,Max:=0,aH:=0,Kids:=(some ([r_1,r_11]:List aK))}:aK) ({Kind:=4,Set:=(an.rep 4 (0:Int)),Min:=0,Max:=0,aH:=0,Kids:=(some ([r_16,r_1]:List aK))}:aK)>>=fun r_18=>(PB fu ({Kind:=5,Set:=(an.rep 4 (0:Int)),Min:=1,Max:=(-1),aH:=0,Kids:=(some ([r_1]:List aK))}:aK)>>=fun r_20=>(if (!r_6.1)=true then (if (r_6.2.1==([]:aZ))=true then (if (r_6.2.2==0)=true then (if r_18.1=true then (if (r_18.2.1==([]:aZ))=true then (if (r_18.2.2==0)=true then (if r_20.2.1=true then (if (r_20.1==([97]:aZ))=true then (some (r_20.2.2==0)) else (some false)) else (some false)) else (some false)) else (some false)) else (some false)) else (some false)) else (some false)) else (some false))))))))
theorem Xw (fu:Nat)  :Le (YM fu ) (F7 ):=by
 unfold YM F7
 repeat' (with_reducible first | exact VO fu _ | exact VL fu _ _ | exact VN fu _ | exact le_refl _ | apply dm | refine cr ?_ (fun _=>?_))
end Go.Proofs.YtcidnoghoifmmaaDoor
end
section
set_option maxRecDepth 1000000
namespace Go.Proofs.YtcidnoghoifmmaaDoor
open Go AW
theorem f7:F7=some true:=Xw 8000 true (by kernel_rfl)
end Go.Proofs.YtcidnoghoifmmaaDoor
end
section
namespace Go.Proofs.YtcidnoghoifmmaaDoor
open Go AW
set_option maxHeartbeats 4000000
theorem CA: ∀(l:List aK),(∀k∈l,cnt k≤iS k)→fM l≤ju l
 | [],_=>by rw [fM,ju];omega
 | x::l,h=>by have:=h x (by simp);have:=CA l fun k hk=>h k (by simp [hk]);rw [fM,ju];omega
theorem QO (n:aK):ju (ls n.Kids)+1≤iS n:=by
 obtain ⟨_,_,_,_,_,o⟩:=n
 rw [iS]
 cases o with
 | none=>simp [ls,ju,sE]
 | some l=>simp [ls,sE];omega
theorem Zh: ∀n:aK,cnt n≤iS n:=by
  intro n
  induction n using cW with
  | h n ih=>
    have:=CA _ ih
    have:=QO n
    rw [eI];omega
theorem uN (a b:aK) (ha:cnt a≤10000000) (hb:cnt b≤10000000):F4 a b=some true:=by
 obtain ⟨⟨x1,y1,z1⟩,h1,g1⟩:=UL a b ha hb
 obtain ⟨⟨x2,y2,z2⟩,h2,g2⟩:=UM a b ha hb
 obtain ⟨⟨x3,y3,z3⟩,h3,g3⟩:=MX a b ha hb
 obtain ⟨⟨x4,y4,z4⟩,h4,g4⟩:=MX a a ha ha
 have e: ∀(y:Bool) (x:aZ) (z:Int),(if (!y)=true then some ((z==0),x,z) else some (false,x,z))=some (!y&&(z==0),x,z):=fun y x z=>by cases y<;>rfl
 have e1:KM a b=some (!y1&&(z1==0),x1,z1):=by unfold KM;rw [h1,sm];exact e _ _ _
 have e2:Te a b=some (!y2&&(z2==0),x2,z2):=by unfold Te;rw [h2,sm];exact e _ _ _
 have e3:KN a b=some (x3,y3,z3):=by unfold KN;rw [h3,sm]
 have e4:MN a=some (x4,y4,z4):=by unfold MN KN;rw [h4,sm,sm]
 have key:G4 (.p1 a b false)=some true:=by
  rw [G4.eq_1,if_neg (by simp),e2,sm,g2,sm]
  have k2:G4 (.p2 a b false)=some true:=by
   rw [G4.eq_2,if_neg (by simp),e3,sm,g3,sm]
   simp [e4,sm,g4,f7]
  by_cases hz:z2=0
  ·simp [hz,k2]
  simp [hz,k2]
 unfold F4
 rw [e1,sm,g1,sm]
 by_cases hz:z1=0
 ·simp [hz,key]
 simp [hz,key]
theorem tT (a0 a1:aK) (w0:lf a0) (w1:lf a1) (hb:iS a0+iS a1≤1048576):F4 a0 a1=some true:=by
 have:=Zh a0
 have:=Zh a1
 exact uN a0 a1 (by omega) (by omega)
end Go.Proofs.YtcidnoghoifmmaaDoor
end
