/-
  Texts of this proof, put together: DoA, DoB, DoC, DrA, DrB, DoD, DoE2, Fu, Fu2, PureDerivOrder.
-/
import Derived.Test.YtcidnoghoifmmaaDoorPk35
import Derived.KernelRfl
import Derived.Test.YtcidnoghoifmmaaDoorPk33
section
/-
  Deriv: the situation that instructions lead to (closed).
-/


namespace Go.Proofs.YtcidnoghoifmmaaDoor
open Go AW
set_option linter.unusedVariables false
set_option linter.unusedSimpArgs false
set_option maxHeartbeats 4000000
def nx (C : List T76) (i : Nat) : List Nat :=
  match C[i]? with
  | none => []
  | some x => if x.Kind = 1 then [] else if x.Kind = 12 then [] else if x.Kind = 2 then [i + 1, x.To.toNat] else if x.Kind = 3 then [x.To.toNat] else [i + 1]
theorem rp_nx1 {p : T45} (hr : rp p = true) {i : Nat} {x : T76} (hx : (ls p.Code)[i]? = some x) (h : x.Kind ≠ 12) : i + 1 < (ls p.Code).length := by
  obtain ⟨hf, hl⟩ := rp_at hr hx
  have hi := ge_lt hx
  have : i + 1 ≠ (ls p.Code).length := fun e => h (hl.2 e)
  omega
theorem nx_lt {p : T45} (hr : rp p = true) {i j : Nat} (h : j ∈ nx (ls p.Code) i) : j < (ls p.Code).length := by
  unfold nx at h
  split at h
  · simp at h
  · rename_i x hx
    obtain ⟨hf, hl⟩ := rp_at hr hx
    have hi := ge_lt hx
    have hne := rp_nx1 hr hx
    split at h
    · simp at h
    split at h
    · simp at h
    rename_i h12
    have := hne h12
    split at h
    · rename_i h2
      have := fit_to hf (.inl h2)
      simp at h
      omega
    split at h
    · rename_i h3
      have := fit_to hf (.inr h3)
      simp at h
      omega
    · simp at h; omega
inductive Rc (C : List T76) (A : List Nat) : Nat → Prop
  | base {i : Nat} : i ∈ A → Rc C A i
  | step {i j : Nat} : Rc C A i → j ∈ nx C i → Rc C A j
def isSM (C : List T76) (i : Nat) : Bool := match C[i]? with
  | some x => x.Kind == 1 || x.Kind == 12
  | none => false
open Classical in
noncomputable def cls (C : List T76) (A : List Nat) : List Nat := (List.range C.length).filter fun i => isSM C i && decide (Rc C A i)
def mk (N : Nat) (L : List Nat) : Sl Bool := some ((List.range N).map fun j => decide (j ∈ L))
theorem mk_nil (N : Nat) : mk N [] = some (List.replicate N false) := by
  unfold mk
  congr 1
  apply List.ext_getElem <;> simp
theorem mk_len (N : Nat) (L : List Nat) : (ls (mk N L)).length = N := by simp [mk, ls]
theorem mk_ix {N : Nat} {L : List Nat} {i : Nat} (h : i < N) : ix (ls (mk N L)) (i : Int) = some (decide (i ∈ L)) := ixs (by simp [mk, ls, h])
theorem mk_set {N : Nat} {L : List Nat} {i : Nat} (h : i < N) : vset (mk N L) (i : Int) true = mk N (L ++ [i]) := by
  unfold mk vset
  simp only [Option.map_some, Option.some.injEq]
  apply List.ext_getElem
  · simp
  · intro k h1 h2
    rw [List.getElem_set]
    by_cases e : i = k
    · subst e; simp
    · have : ¬ k = i := fun h => e h.symm
      simp [e, this]
theorem c58 {N : Nat} {L : List Nat} {i : Nat} (h : i < N) (hl : L.length ≤ 1000000) : F58 (i : Int) (mk N L) (so (ints L)) = some (mk N (addN L i), so (ints (addN L i))) := by
  unfold F58
  rw [mk_ix h, sm]
  by_cases e : i ∈ L
  · rw [if_neg (by simp [e])]
    simp only [addN, if_pos e]
  · rw [if_pos (by simp [e]), sm, ls_so, if_pos (by simp [ints, ls]; omega), mk_set h]
    simp only [addN, if_neg e]
    congr 2
    rw [sapp_so]
    simp [ints, ls]
theorem addN_nd {L : List Nat} (h : L.Nodup) (i : Nat) : (addN L i).Nodup := by
  unfold addN
  split
  · exact h
  · rename_i e
    rw [List.nodup_append]
    exact ⟨h, by simp, by simp; rintro a ha rfl; exact e ha⟩
theorem addN_lt {N : Nat} {L : List Nat} (h : ∀ x ∈ L, x < N) {i : Nat} (hi : i < N) : ∀ x ∈ addN L i, x < N := by
  intro x hx
  rcases (mem_addN L i x).1 hx with h' | rfl
  · exact h x h'
  · exact hi
theorem addsN_nd (l : List Nat) : ∀ {L : List Nat}, L.Nodup → (l.foldl addN L).Nodup := by
  induction l with
  | nil => exact fun h => h
  | cons a l ih => exact fun h => ih (addN_nd h a)
theorem addsN_lt {N : Nat} (l : List Nat) (hl : ∀ x ∈ l, x < N) : ∀ {L : List Nat}, (∀ x ∈ L, x < N) → ∀ x ∈ l.foldl addN L, x < N := by
  induction l with
  | nil => exact fun h => h
  | cons a l ih => exact fun h => ih (fun x hx => hl x (by simp [hx])) (addN_lt h (hl a (by simp)))
theorem c41_2s {p : T45} (hr : rp p = true) {L : List Nat} (hn : L.Nodup) (hlt : ∀ x ∈ L, x < (ls p.Code).length) {k i : Nat} (hk : L[k]? = some i) :
    G41 (.p2 p (k : Int) (mk (ls p.Code).length L) (so (ints L))) = G41 (.p2 p ((k + 1 : Nat) : Int) (mk (ls p.Code).length ((nx (ls p.Code) i).foldl addN L)) (so (ints ((nx (ls p.Code) i).foldl addN L)))) := by
  have hlen := rp_len hr
  have hL := nodup_len _ L hn hlt
  have hkl := ge_lt hk
  have hi : i < (ls p.Code).length := hlt i (List.mem_of_getElem? hk)
  obtain ⟨x, hx⟩ := get_ex (ls p.Code) hi
  have hki : (ints L)[k]? = some (i : Int) := by simp [ints, hk]
  have hil : (ints L).length = L.length := by simp [ints]
  obtain ⟨hf, -⟩ := rp_at hr hx
  rw [G41.eq_2, ls_so, hil, dti (by omega), ixs hki, sm, ixs hx, sm, wn1 k (by omega)]
  have hnx : nx (ls p.Code) i = if x.Kind = 1 then [] else if x.Kind = 12 then [] else if x.Kind = 2 then [i + 1, x.To.toNat] else if x.Kind = 3 then [x.To.toNat] else [i + 1] := by unfold nx; rw [hx]
  rw [hnx]
  by_cases h1 : x.Kind = 1
  · rw [eti h1, if_pos h1]; rfl
  rw [efi h1, if_neg h1]
  by_cases h12 : x.Kind = 12
  · rw [eti h12, if_pos h12]; rfl
  rw [efi h12, if_neg h12]
  have hi1 := rp_nx1 hr hx h12
  by_cases h2 : x.Kind = 2
  · have ht := fit_to hf (.inl h2)
    obtain ⟨t, ht'⟩ := nat_of ht.1
    have hl1 := nodup_len _ _ (addN_nd hn (i + 1)) (addN_lt hlt hi1)
    have htn : x.To.toNat = t := by omega
    rw [eti h2, if_pos h2, sm, wn1 i (by omega), c58 hi1 (by omega), sm, htn, ht']
    show (F58 (t : Int) (mk (ls p.Code).length (addN L (i + 1))) (so (ints (addN L (i + 1)))) >>= _) = _
    rw [c58 (by omega) (by omega), sm]
    rfl
  rw [efi h2, if_neg h2]
  by_cases h3 : x.Kind = 3
  · have ht := fit_to hf (.inr h3)
    obtain ⟨t, ht'⟩ := nat_of ht.1
    have htn : x.To.toNat = t := by omega
    rw [eti h3, if_pos h3, htn, ht', c58 (by omega) (by omega), sm]
    rfl
  rw [efi h3, if_neg h3, sm, wn1 i (by omega), c58 hi1 (by omega), sm]
  rfl
theorem c41_2 {p : T45} (hr : rp p = true) (A : List Nat) : ∀ (m k : Nat) (L : List Nat), m + k = (ls p.Code).length → k ≤ L.length → L.Nodup → (∀ x ∈ L, x < (ls p.Code).length) → (∀ x ∈ L, Rc (ls p.Code) A x) → (∀ x ∈ A, x ∈ L) → (∀ q i, q < k → L[q]? = some i → ∀ j ∈ nx (ls p.Code) i, j ∈ L) →
    ∃ L', (∀ j, j ∈ L' ↔ Rc (ls p.Code) A j) ∧ G41 (.p2 p (k : Int) (mk (ls p.Code).length L) (so (ints L))) = G41 (.p3 p (mk (ls p.Code).length L') ((ls p.Code).length : Int) 0 none)
  | m, k, L, h, hk, hn, hlt, hs, hA, hc => by
    have hlen := rp_len hr
    have hL := nodup_len _ L hn hlt
    by_cases e : k < L.length
    · obtain ⟨i, hi⟩ := get_ex L e
      match m, h with
      | 0, h => omega
      | m + 1, h =>
        rw [c41_2s hr hn hlt hi]
        have hil : Rc (ls p.Code) A i := hs i (List.mem_of_getElem? hi)
        have hpre := addsN_pre (nx (ls p.Code) i) L
        have hle := hpre.length_le
        refine c41_2 hr A m (k + 1) _ (by omega) (by omega) (addsN_nd _ hn) (addsN_lt _ (fun x hx => nx_lt hr hx) hlt) ?_ ?_ ?_
        · intro x hx
          rcases (mem_addsN _ L x).1 hx with h' | h'
          · exact hs x h'
          · exact .step hil h'
        · intro x hx; exact (mem_addsN _ L x).2 (.inl (hA x hx))
        · intro q i' hq hi' j hj
          have hq' : q < L.length := by omega
          obtain ⟨i2, hi2⟩ := get_ex L hq'
          have : i2 = i' := by
            obtain ⟨t, ht⟩ := hpre
            rw [← ht, List.getElem?_append_left hq', hi2] at hi'
            exact Option.some.inj hi'
          subst this
          by_cases hqk : q < k
          · exact (mem_addsN _ L j).2 (.inl (hc q i2 hqk hi2 j hj))
          · have : q = k := by omega
            subst this
            rw [hi] at hi2
            cases hi2
            exact (mem_addsN _ L j).2 (.inr hj)
    · have hil : (ints L).length = L.length := by simp [ints]
      refine ⟨L, fun j => ⟨hs j, fun hj => ?_⟩, ?_⟩
      · induction hj with
        | base h => exact hA _ h
        | step _ h2 ih =>
          obtain ⟨q, hq⟩ := List.mem_iff_getElem?.1 ih
          exact hc q _ (by have := ge_lt hq; omega) hq _ h2
      · rw [G41.eq_2, ls_so, hil, dfi (by omega), mk_len]
theorem c41_3 {p : T45} (hr : rp p = true) (L : List Nat) : ∀ (m i : Nat) (O : List Nat), m + i = (ls p.Code).length → O.length ≤ i → G41 (.p3 p (mk (ls p.Code).length L) ((ls p.Code).length : Int) (i : Int) (so (ints O))) = some (so (ints (O ++ (List.range' i m).filter fun j => isSM (ls p.Code) j && decide (j ∈ L))))
  | 0, i, O, h, hO => by
    rw [G41.eq_3, dfi (by omega)]
    simp
  | m + 1, i, O, h, hO => by
    have hlen := rp_len hr
    obtain ⟨x, hx⟩ := get_ex (ls p.Code) (i := i) (by omega)
    have hsm : isSM (ls p.Code) i = (x.Kind == 1 || x.Kind == 12) := by unfold isSM; rw [hx]
    have h4 : G41 (.p4 p (i : Int) (mk (ls p.Code).length L) ((ls p.Code).length : Int) (i : Int) (so (ints O))) = G41 (.p3 p (mk (ls p.Code).length L) ((ls p.Code).length : Int) ((i + 1 : Nat) : Int) (so (ints (O ++ [i])))) := by
      rw [G41.eq_4, ls_so, if_pos (by simp [ints, ls]; omega), wn1 i (by omega), sapp_so]
      simp [ints, ls]
    have hno := c41_3 hr L m (i + 1) O (by omega) (by omega)
    have hyes := c41_3 hr L m (i + 1) (O ++ [i]) (by omega) (by simp; omega)
    rw [G41.eq_3, dti (by omega), mk_ix (by omega), sm, List.range'_succ, wn1 i (by omega), h4]
    by_cases e : i ∈ L
    · rw [if_pos (by simp [e]), ixs hx, sm]
      by_cases h1 : x.Kind = 1
      · rw [eti h1, hyes, List.filter_cons_of_pos (by simp [e, hsm, h1])]
        simp
      · rw [efi h1, sm]
        by_cases h12 : x.Kind = 12
        · rw [eti h12, hyes, List.filter_cons_of_pos (by simp [e, hsm, h12])]
          simp
        · rw [efi h12, hno, List.filter_cons_of_neg (by simp [hsm, h1, h12])]
    · rw [if_neg (by simp [e]), hno, List.filter_cons_of_neg (by simp [e])]
theorem c41_1 {p : T45} (hr : rp p = true) (A : List Nat) (hA : ∀ x ∈ A, x < (ls p.Code).length) (hl : A.length ≤ 1000000) : ∀ (m k : Nat), m + k = A.length →
    G41 (.p1 p (so (ints A)) (A.length : Int) (k : Int) (mk (ls p.Code).length (A.take k)) (so (ints A))) = G41 (.p2 p 0 (mk (ls p.Code).length A) (so (ints A)))
  | 0, k, h => by rw [G41.eq_1, dfi (by omega), List.take_of_length_le (by omega)]
  | m + 1, k, h => by
    obtain ⟨i, hi⟩ := get_ex A (i := k) (by omega)
    have hki : (ints A)[k]? = some (i : Int) := by simp [ints, hi]
    have hil := hA i (List.mem_of_getElem? hi)
    rw [G41.eq_1, dti (by omega), ls_so, ixs hki, sm, mk_ix hil, sm, mk_set hil, ← take_snoc hi, wn1 k (by omega)]
    exact c41_1 hr A hA hl m (k + 1) (by omega)
theorem f41 {p : T45} (hr : rp p = true) (A : List Nat) (hA : ∀ x ∈ A, x < (ls p.Code).length) (hn : A.Nodup) : F41 p (so (ints A)) = some (so (ints (cls (ls p.Code) A))) := by
  have hlen := rp_len hr
  have hl := nodup_len _ A hn hA
  obtain ⟨L', h1, h2⟩ := c41_2 hr A (ls p.Code).length 0 A (by omega) (by omega) hn hA (fun x hx => .base hx) (fun x hx => hx) (fun q i hq => by omega)
  unfold F41
  rw [if_pos ⟨by omega, rfl, by omega⟩]
  have h0 := c41_1 hr A hA (by omega) A.length 0 (by omega)
  rw [List.take_zero, mk_nil] at h0
  have h0' : G41 (.p1 p (so (ints A)) (A.length : Int) 0 (some (List.replicate (ls p.Code).length false)) (so (ints A))) = _ := h0
  have hil : (ls (so (ints A))).length = A.length := by rw [ls_so]; simp [ints]
  rw [hil, Int.toNat_natCast, h0']
  have h2' : G41 (.p2 p 0 (mk (ls p.Code).length A) (so (ints A))) = _ := h2
  rw [h2']
  have h3 := c41_3 hr L' (ls p.Code).length 0 [] (by omega) (by simp)
  have h3' : G41 (.p3 p (mk (ls p.Code).length L') ((ls p.Code).length : Int) 0 none) = _ := h3
  rw [h3']
  unfold cls
  rw [List.nil_append, List.range_eq_range']
  have e : (fun j => isSM (ls p.Code) j && decide (j ∈ L')) = fun i => isSM (ls p.Code) i && @decide (Rc (ls p.Code) A i) (Classical.propDecidable _) := by
    funext j
    congr 1
    exact decide_eq_decide.2 (h1 j)
  rw [e]
theorem cls_lt {C : List T76} {A : List Nat} : ∀ x ∈ cls C A, x < C.length := fun x hx => by
  unfold cls at hx
  rw [List.mem_filter, List.mem_range] at hx
  exact hx.1
theorem cls_nd (C : List T76) (A : List Nat) : (cls C A).Nodup := List.Pairwise.filter _ List.nodup_range
theorem cls_nil (C : List T76) : cls C [] = [] := by
  unfold cls
  rw [List.filter_eq_nil_iff]
  intro a _ h
  simp only [Bool.and_eq_true, decide_eq_true_eq] at h
  have : ∀ j, ¬ Rc C [] j := fun j hj => by
    induction hj with
    | base h => simp at h
    | step _ _ ih => exact ih
  exact this a h.2
end Go.Proofs.YtcidnoghoifmmaaDoor
end
section
/-
  Deriv: situations behind a byte, whether they have the match, and their keys.
-/

namespace Go.Proofs.YtcidnoghoifmmaaDoor
open Go AW
set_option linter.unusedVariables false
set_option linter.unusedSimpArgs false
set_option maxHeartbeats 4000000
def tk (C : List T76) (c : UInt8) (i : Nat) : Bool := match C[i]? with
  | some x => x.Kind == 1 && hasB x.Set c
  | none => false
def bh (C : List T76) (l : List Nat) (c : UInt8) : List Nat := (l.filter (tk C c)).map (· + 1)
noncomputable def stp (C : List T76) (l : List Nat) (c : UInt8) : List Nat := cls C (bh C l c)
noncomputable def run (C : List T76) (w : Str) : List Nat := w.foldl (stp C) (cls C [0])
theorem run_snoc (C : List T76) (w : Str) (c : UInt8) : run C (w ++ [c]) = stp C (run C w) c := by simp [run]
theorem stp_nil (C : List T76) (c : UInt8) : stp C [] c = [] := by simp [stp, bh, cls_nil]
theorem run_lt (C : List T76) (w : Str) : ∀ x ∈ run C w, x < C.length := by
  rcases List.eq_nil_or_concat w with rfl | ⟨w', c, rfl⟩
  · exact cls_lt
  · rw [List.concat_eq_append, run_snoc]; exact cls_lt
theorem run_nd (C : List T76) (w : Str) : (run C w).Nodup := by
  rcases List.eq_nil_or_concat w with rfl | ⟨w', c, rfl⟩
  · exact cls_nd _ _
  · rw [List.concat_eq_append, run_snoc]; exact cls_nd _ _
theorem tk_lt {p : T45} (hr : rp p = true) {c : UInt8} {i : Nat} (h : tk (ls p.Code) c i = true) : i + 1 < (ls p.Code).length := by
  unfold tk at h
  split at h
  · rename_i x hx
    simp only [Bool.and_eq_true, beq_iff_eq] at h
    exact rp_nx1 hr hx (by omega)
  · simp at h
theorem bh_lt {p : T45} (hr : rp p = true) (l : List Nat) (c : UInt8) : ∀ x ∈ bh (ls p.Code) l c, x < (ls p.Code).length := by
  intro x hx
  unfold bh at hx
  rw [List.mem_map] at hx
  obtain ⟨i, hi, rfl⟩ := hx
  exact tk_lt hr (List.mem_filter.1 hi).2
theorem bh_nd (C : List T76) {l : List Nat} (h : l.Nodup) (c : UInt8) : (bh C l c).Nodup := by
  unfold bh
  refine List.Pairwise.map _ (fun a b (h : a ≠ b) => ?_) (List.Pairwise.filter _ h)
  omega
theorem c44 {p : T45} (hr : rp p = true) (l : List Nat) (hlt : ∀ x ∈ l, x < (ls p.Code).length) (hl : l.length ≤ 1000000) (c : UInt8) : ∀ (m k : Nat) (O : List Nat), m + k = l.length → O.length ≤ k →
    G44 (.p1 (c.toNat : Int) p (so (ints l)) (l.length : Int) (k : Int) (so (ints O))) = (F41 p (so (ints (O ++ bh (ls p.Code) (l.drop k) c))) >>= fun r => some r)
  | 0, k, O, h, hO => by
    rw [G44.eq_1, dfi (by omega), List.drop_of_length_le (by omega)]
    simp [bh]
  | m + 1, k, O, h, hO => by
    obtain ⟨i, hi⟩ := get_ex l (i := k) (by omega)
    have hki : (ints l)[k]? = some (i : Int) := by simp [ints, hi]
    have hil := hlt i (List.mem_of_getElem? hi)
    obtain ⟨x, hx⟩ := get_ex (ls p.Code) hil
    have hlen := rp_len hr
    have htk : tk (ls p.Code) c i = (x.Kind == 1 && hasB x.Set c) := by unfold tk; rw [hx]
    have hno := c44 hr l hlt hl c m (k + 1) O (by omega) (by omega)
    have hyes := c44 hr l hlt hl c m (k + 1) (O ++ [i + 1]) (by omega) (by simp; omega)
    rw [G44.eq_1, dti (by omega), ls_so, ixs hki, sm, ixs hx, sm, wn1 k (by omega), drop_cons hi]
    by_cases h1 : x.Kind = 1
    · rw [eti h1, f44, sm]
      by_cases hb : hasB x.Set c = true
      · rw [if_pos hb, ls_so, if_pos (by simp [ints, ls]; omega), wn1 i (by omega)]
        have e : sapp (so (ints O)) (ls (some [((i + 1 : Nat) : Int)])) = so (ints (O ++ [i + 1])) := by rw [sapp_so]; simp [ints, ls]
        rw [e, hyes]
        simp [bh, htk, h1, hb]
      · rw [if_neg hb, hno]
        simp [bh, htk, hb]
    · rw [efi h1, hno]
      simp [bh, htk, h1]
theorem f44b {p : T45} (hr : rp p = true) {l : List Nat} (hlt : ∀ x ∈ l, x < (ls p.Code).length) (hn : l.Nodup) (c : UInt8) : F44 p (so (ints l)) (c.toNat : Int) = some (so (ints (stp (ls p.Code) l c))) := by
  have hlen := rp_len hr
  have hl := nodup_len _ l hn hlt
  unfold F44
  have h := c44 hr l hlt (by omega) c l.length 0 [] (by omega) (by simp)
  have hil : (ls (so (ints l))).length = l.length := by rw [ls_so]; simp [ints]
  have h' : G44 (.p1 (c.toNat : Int) p (so (ints l)) (l.length : Int) 0 none) = _ := h
  rw [hil, h', List.nil_append, List.drop_zero, f41 hr _ (bh_lt hr l c) (bh_nd _ hn c), sm]
  rfl
def en (C : List T76) (l : List Nat) : Bool := match l.getLast? with
  | some i => decide (i + 1 = C.length)
  | none => false
theorem f40b {p : T45} (hr : rp p = true) {l : List Nat} (hn : l.Nodup) (hlt : ∀ x ∈ l, x < (ls p.Code).length) : F40 p (so (ints l)) = some (en (ls p.Code) l) := by
  have hlen := rp_len hr
  have hl := nodup_len _ l hn hlt
  unfold F40 en
  have hil : (ls (so (ints l))).length = l.length := by rw [ls_so]; simp [ints]
  rw [hil]
  rcases List.eq_nil_or_concat l with rfl | ⟨l', i, rfl⟩
  · rw [dfi (by simp)]; rfl
  · rw [List.concat_eq_append] at hl hil ⊢
    rw [dti (by simp), wm1 _ (by simp) (by simp at hl ⊢; omega), ls_so]
    have : (ints (l' ++ [i]))[(l' ++ [i]).length - 1]? = some (i : Int) := by simp [ints]
    rw [ixs this, sm, wm1 _ hlen.1 (by omega)]
    simp only [List.getLast?_append, List.getLast?_singleton, Option.some_or]
    congr 1
    rw [Bool.eq_iff_iff, beq_iff_eq, decide_eq_true_eq]
    omega
theorem dd_digit : ∀ (u : Nat), ∀ c ∈ Lib.decDigits u, c ≠ 32 ∧ c ≠ 47 := by
  intro u
  induction u using Nat.strongRecOn with
  | _ u ih =>
    have key : ∀ d : Fin 10, UInt8.ofNat (48 + d.val) ≠ 32 ∧ UInt8.ofNat (48 + d.val) ≠ 47 := by decide +kernel
    rw [Lib.decDigits]
    split
    · intro c hc
      rename_i h
      simp only [List.mem_singleton] at hc
      subst hc
      exact key ⟨u, h⟩
    · intro c hc
      rw [List.mem_append] at hc
      rcases hc with hc | hc
      · exact ih _ (by omega) c hc
      · simp only [List.mem_singleton] at hc
        subst hc
        exact key ⟨u % 10, by omega⟩
theorem dd_ne (u : Nat) : Lib.decDigits u ≠ [] := by
  rw [Lib.decDigits]
  split <;> simp
theorem dd_inj : ∀ (u v : Nat), Lib.decDigits u = Lib.decDigits v → u = v := by
  intro u
  induction u using Nat.strongRecOn with
  | _ u ih =>
    intro v h
    have key : ∀ d e : Fin 10, UInt8.ofNat (48 + d.val) = UInt8.ofNat (48 + e.val) → d = e := by decide +kernel
    have hl := congrArg List.length h
    rw [Lib.decDigits_length, Lib.decDigits_length] at hl
    by_cases hu : u < 10
    · have hv : v < 10 := by
        apply Classical.byContradiction
        intro hv
        rw [Lib.nDigits_small hu, Lib.nDigits_big hv] at hl
        have := Lib.nDigits_pos (v / 10)
        omega
      rw [Lib.decDigits_one hu, Lib.decDigits_one hv] at h
      have := key ⟨u, hu⟩ ⟨v, hv⟩ (by simpa using h)
      simpa using this
    · have hv : ¬ v < 10 := by
        intro hv
        rw [Lib.nDigits_big hu, Lib.nDigits_small hv] at hl
        have := Lib.nDigits_pos (u / 10)
        omega
      rw [Lib.decDigits, dif_neg hu] at h
      rw [Lib.decDigits.eq_def v, dif_neg hv] at h
      have h2 := List.append_inj' h rfl
      have h3 := ih (u / 10) (by omega) (v / 10) h2.1
      have h4 := key ⟨u % 10, by omega⟩ ⟨v % 10, by omega⟩ (by simpa using h2.2)
      simp only [Fin.mk.injEq] at h4
      omega
def kl (l : List Nat) : Str := l.flatMap fun i => Lib.decDigits i ++ [32]
theorem split32 : ∀ (x y r s : Str), (∀ c ∈ x, c ≠ (32 : UInt8)) → (∀ c ∈ y, c ≠ (32 : UInt8)) → x ++ 32 :: r = y ++ 32 :: s → x = y ∧ r = s
  | [], [], r, s, _, _, h => by simpa using h
  | [], b :: y, r, s, _, hy, h => by
    simp only [List.nil_append, List.cons_append, List.cons.injEq] at h
    exact absurd h.1.symm (hy b (by simp))
  | a :: x, [], r, s, hx, _, h => by
    simp only [List.nil_append, List.cons_append, List.cons.injEq] at h
    exact absurd h.1 (hx a (by simp))
  | a :: x, b :: y, r, s, hx, hy, h => by
    simp only [List.cons_append, List.cons.injEq] at h
    obtain ⟨h1, h2⟩ := split32 x y r s (fun c hc => hx c (by simp [hc])) (fun c hc => hy c (by simp [hc])) h.2
    exact ⟨by rw [h.1, h1], h2⟩
theorem kl_inj : ∀ (a b : List Nat) (r s : Str), kl a ++ 47 :: r = kl b ++ 47 :: s → a = b ∧ r = s
  | [], [], r, s, h => by simpa [kl] using h
  | [], j :: b, r, s, h => by
    have hd := dd_digit j
    cases e : Lib.decDigits j with
    | nil => exact absurd e (dd_ne j)
    | cons c t =>
      simp only [kl, List.flatMap_nil, List.nil_append, List.flatMap_cons, e, List.cons_append, List.cons.injEq] at h
      exact absurd h.1.symm (hd c (by simp [e])).2
  | i :: a, [], r, s, h => by
    have hd := dd_digit i
    cases e : Lib.decDigits i with
    | nil => exact absurd e (dd_ne i)
    | cons c t =>
      simp only [kl, List.flatMap_nil, List.nil_append, List.flatMap_cons, e, List.cons_append, List.cons.injEq] at h
      exact absurd h.1 (hd c (by simp [e])).2
  | i :: a, j :: b, r, s, h => by
    simp only [kl, List.flatMap_cons, List.append_assoc, List.singleton_append, List.cons_append, List.nil_append] at h
    obtain ⟨h1, h2⟩ := split32 _ _ _ _ (fun c hc => (dd_digit i c hc).1) (fun c hc => (dd_digit j c hc).1) h
    obtain ⟨h3, h4⟩ := kl_inj a b r s h2
    exact ⟨by rw [dd_inj _ _ h1, h3], h4⟩
def ky (a b : List Nat) : Str := kl a ++ 47 :: kl b
theorem ky_inj {a b a' b' : List Nat} (h : ky a b = ky a' b') : a = a' ∧ b = b' := by
  obtain ⟨h1, h2⟩ := kl_inj _ _ _ _ h
  have h3 : kl b ++ 47 :: [] = kl b' ++ 47 :: [] := by rw [h2]
  exact ⟨h1, (kl_inj _ _ _ _ h3).1⟩
theorem bws' (b s : Str) (h : b.length + s.length ≤ 100000000000000) : bWS b s = some ((s.length : Int), (), b ++ s) := by
  unfold bWS; rw [if_pos (by omega)]
theorem bwb' (b : Str) (n : Nat) (hn : n < 256) (h : b.length ≤ 100000000000000) : bWB b (n : Int) = some ((), b ++ [UInt8.ofNat n]) := by
  unfold bWB; rw [if_pos ⟨by omega, by omega⟩]; simp
theorem bst' (b : Str) (h : b.length ≤ 100000000000000) : bST b = some b := by
  unfold bST; rw [if_pos (by omega)]
theorem nd_le : ∀ (k u : Nat), u < 10 ^ (k + 1) → Lib.nDigits u ≤ k + 1
  | 0, u, h => by rw [Lib.nDigits_small (by simpa using h)]; omega
  | k + 1, u, h => by
    by_cases h0 : u < 10
    · rw [Lib.nDigits_small h0]; omega
    · rw [Lib.nDigits_big h0]
      rw [Nat.pow_succ] at h
      have := nd_le k (u / 10) (by omega)
      omega
theorem dd_len (i : Nat) (h : i ≤ 1000000000) : (Lib.decDigits i).length ≤ 21 := by
  rw [Lib.decDigits_length]
  have := nd_le 9 i (by simp; omega)
  omega
theorem itoa' (i : Nat) (h : i ≤ 1000000000) : itoaF (i : Int) = some (Lib.decDigits i) := by
  unfold itoaF; rw [if_pos ⟨by omega, by omega⟩, Lib.itoa_nonneg]
theorem g42_2 (l : List Nat) (hlt : ∀ x ∈ l, x ≤ 1000000) (hl : l.length ≤ 1000000) : ∀ (m k : Nat) (s : Str), m + k = l.length → s.length ≤ 50000000 + 22 * k →
    G42 (.p2 (so (ints l)) (l.length : Int) (k : Int) s) = some (s ++ kl (l.drop k))
  | 0, k, s, h, hs => by
    rw [G42.eq_2, dfi (by omega), List.drop_of_length_le (by omega), bst' _ (by omega), sm]
    simp [kl]
  | m + 1, k, s, h, hs => by
    obtain ⟨i, hi⟩ := get_ex l (i := k) (by omega)
    have hki : (ints l)[k]? = some (i : Int) := by simp [ints, hi]
    have hil := hlt i (List.mem_of_getElem? hi)
    have hd := dd_len i (by omega)
    rw [G42.eq_2, dti (by omega), ls_so, ixs hki, sm, itoa' i (by omega), sm, bws' _ _ (by omega), sm]
    show (bWB (s ++ Lib.decDigits i) ((32 : Nat) : Int) >>= _) = _
    rw [bwb' _ 32 (by omega) (by simp; omega), sm, wn1 k (by omega), drop_cons hi]
    have h2 := g42_2 l hlt hl m (k + 1) (s ++ Lib.decDigits i ++ [32]) (by omega) (by simp; omega)
    refine h2.trans ?_
    simp [kl]
theorem g42_1 (x : T80) (l b : List Nat) (hb : x.b = so (ints b)) (hblt : ∀ x ∈ b, x ≤ 1000000) (hbl : b.length ≤ 1000000) (hlt : ∀ x ∈ l, x ≤ 1000000) (hl : l.length ≤ 1000000) : ∀ (m k : Nat) (s : Str), m + k = l.length → s.length ≤ 22 * k →
    G42 (.p1 x (so (ints l)) (l.length : Int) (k : Int) s) = some (s ++ kl (l.drop k) ++ 47 :: kl b)
  | 0, k, s, h, hs => by
    rw [G42.eq_1, dfi (by omega), List.drop_of_length_le (by omega)]
    show (bWB s ((47 : Nat) : Int) >>= _) = _
    have hil : (ls (so (ints b))).length = b.length := by rw [ls_so]; simp [ints]
    rw [bwb' _ 47 (by omega) (by omega), sm, hb, hil]
    have h2 := g42_2 b hblt hbl b.length 0 (s ++ [47]) (by omega) (by simp; omega)
    refine Eq.trans h2 ?_
    simp [kl]
  | m + 1, k, s, h, hs => by
    obtain ⟨i, hi⟩ := get_ex l (i := k) (by omega)
    have hki : (ints l)[k]? = some (i : Int) := by simp [ints, hi]
    have hil := hlt i (List.mem_of_getElem? hi)
    have hd := dd_len i (by omega)
    rw [G42.eq_1, dti (by omega), ls_so, ixs hki, sm, itoa' i (by omega), sm, bws' _ _ (by omega), sm]
    show (bWB (s ++ Lib.decDigits i) ((32 : Nat) : Int) >>= _) = _
    rw [bwb' _ 32 (by omega) (by simp; omega), sm, wn1 k (by omega), drop_cons hi]
    have h2 := g42_1 x l b hb hblt hbl hlt hl m (k + 1) (s ++ Lib.decDigits i ++ [32]) (by omega) (by simp; omega)
    refine h2.trans ?_
    simp [kl]
theorem f42b (a b : List Nat) (t : Str) (ha : ∀ x ∈ a, x ≤ 1000000) (hal : a.length ≤ 1000000) (hb : ∀ x ∈ b, x ≤ 1000000) (hbl : b.length ≤ 1000000) : F42 { a := so (ints a), b := so (ints b), text := t } = some (ky a b) := by
  unfold F42
  have hil : (ls (so (ints a))).length = a.length := by rw [ls_so]; simp [ints]
  have h := g42_1 { a := so (ints a), b := so (ints b), text := t } a b rfl hb hbl ha hal a.length 0 [] (by omega) (by simp)
  rw [hil]
  refine Eq.trans h ?_
  simp [ky]
end Go.Proofs.YtcidnoghoifmmaaDoor
end
section
/-
  Deriv: the bytes that no set of two programs tells apart, of each kind the first one (kinds).
-/

namespace Go.Proofs.YtcidnoghoifmmaaDoor
open Go AW
set_option linter.unusedVariables false
set_option linter.unusedSimpArgs false
set_option maxHeartbeats 4000000
def sl1 (C : List T76) (c : Nat) : Str := (C.filter fun x => x.Kind == 1).map fun x => if hasB x.Set (UInt8.ofNat c) = true then 49 else 48
def sg (C D : List T76) (c : Nat) : Str := sl1 C c ++ sl1 D c
def knd (C D : List T76) : List Nat := (List.range 256).filter fun c => decide (∀ d, d < c → sg C D d ≠ sg C D c)
theorem u8n {c : Nat} (h : c < 256) : (UInt8.ofNat c).toNat = c := by simp [Nat.mod_eq_of_lt h]
theorem wu8 {c : Nat} (h : c < 256) : IntKind.wrap .u8 (c : Int) = (c : Int) := by
  have key : ∀ d : Fin 256, IntKind.wrap .u8 (d.val : Int) = (d.val : Int) := by decide +kernel
  exact key ⟨c, h⟩
theorem sl1_len (C : List T76) (c : Nat) : (sl1 C c).length = (C.filter fun x => x.Kind == 1).length := by simp [sl1]
theorem sl1_le (C : List T76) (c : Nat) : (sl1 C c).length ≤ C.length := by rw [sl1_len]; exact List.length_filter_le _ _
theorem sl1_drop {C : List T76} {k : Nat} {x : T76} (h : C[k]? = some x) (c : Nat) : sl1 (C.drop k) c = (if x.Kind = 1 then [if hasB x.Set (UInt8.ofNat c) = true then 49 else 48] else []) ++ sl1 (C.drop (k + 1)) c := by
  rw [drop_cons h]
  unfold sl1
  by_cases e : x.Kind = 1
  · rw [List.filter_cons_of_pos (by simp [e]), if_pos e]; rfl
  · rw [List.filter_cons_of_neg (by simp [e]), if_neg e]; rfl
theorem g43_3 (p q : T45) {c : Nat} (hc : c < 256) (t14 : Int) (t21 : Sl (Sl T76)) (t22 t23 : Int) (seen : Mp Str Bool) (out : Sl Int) (V : Sl T76) (hV : (ls V).length ≤ 1000000) : ∀ (m k : Nat) (s : Str), m + k = (ls V).length → s.length ≤ 1000000 + k →
    G43 (.p3 p q (c : Int) t14 t21 t22 t23 V ((ls V).length : Int) (k : Int) seen out s) = G43 (.p2 p q (c : Int) t14 t21 t22 (IntKind.wrap .i64 (t23 + 1)) seen out (s ++ sl1 ((ls V).drop k) c))
  | 0, k, s, h, hs => by
    rw [G43.eq_3, dfi (by omega), List.drop_of_length_le (by omega)]
    simp [sl1]
  | m + 1, k, s, h, hs => by
    obtain ⟨x, hx⟩ := get_ex (ls V) (i := k) (by omega)
    rw [G43.eq_3, dti (by omega), ixs hx, sm, wn1 k (by omega), sl1_drop hx]
    by_cases h1 : x.Kind = 1
    · rw [eti h1, if_pos h1, wu8 hc]
      have e := f44 x.Set (UInt8.ofNat c)
      rw [u8n hc] at e
      rw [e, sm]
      cases hb : hasB x.Set (UInt8.ofNat c) with
      | true =>
        have h2 := g43_3 p q hc t14 t21 t22 t23 seen out V hV m (k + 1) (s ++ [49]) (by omega) (by simp; omega)
        have e2 : F63 true = some 1 := rfl
        have e3 : ix ([48, 49] : Str) 1 = some 49 := by decide
        rw [e2, sm, e3, sm]
        show (bWB s ((49 : Nat) : Int) >>= _) = _
        rw [bwb' _ 49 (by omega) (by omega), sm]
        refine h2.trans ?_
        simp
      | false =>
        have h2 := g43_3 p q hc t14 t21 t22 t23 seen out V hV m (k + 1) (s ++ [48]) (by omega) (by simp; omega)
        have e2 : F63 false = some 0 := rfl
        have e3 : ix ([48, 49] : Str) 0 = some 48 := by decide
        rw [e2, sm, e3, sm]
        show (bWB s ((48 : Nat) : Int) >>= _) = _
        rw [bwb' _ 48 (by omega) (by omega), sm]
        refine h2.trans ?_
        simp
    · rw [efi h1, if_neg h1, List.nil_append]
      exact g43_3 p q hc t14 t21 t22 t23 seen out V hV m (k + 1) s (by omega) (by omega)
theorem g43_1 {p q : T45} (hp : rp p = true) (hq : rp q = true) : ∀ (m t : Nat) (seen : Mp Str Bool), m + t = 256 → (∀ s, Option.getD (Mp.get seen s) false = true ↔ ∃ d, d < t ∧ sg (ls p.Code) (ls q.Code) d = s) →
    G43 (.p1 p q (t : Int) seen (so (ints ((List.range t).filter fun c => decide (∀ d, d < c → sg (ls p.Code) (ls q.Code) d ≠ sg (ls p.Code) (ls q.Code) c))))) = some (so (ints (knd (ls p.Code) (ls q.Code))))
  | 0, t, seen, h, hs => by
    obtain rfl : t = 256 := by omega
    rw [G43.eq_1, dfi (by omega)]; rfl
  | m + 1, t, seen, h, hs => by
    have ht : t < 256 := by omega
    have lp := rp_len hp
    have lq := rp_len hq
    have b1 := sl1_le (ls p.Code) t
    have b2 := sl1_le (ls q.Code) t
    rw [G43.eq_1, dti (by omega)]
    show G43 (.p2 p q (t : Int) (t : Int) (some [p.Code, q.Code]) 2 0 seen _ []) = _
    rw [G43.eq_2, dti (by decide)]
    show G43 (.p3 p q (t : Int) (t : Int) (some [p.Code, q.Code]) 2 0 p.Code _ 0 seen _ []) = _
    have h3 := g43_3 p q ht (t : Int) (some [p.Code, q.Code]) 2 0 seen (so (ints ((List.range t).filter fun c => decide (∀ d, d < c → sg (ls p.Code) (ls q.Code) d ≠ sg (ls p.Code) (ls q.Code) c)))) p.Code (by omega) (ls p.Code).length 0 [] (by omega) (by simp)
    refine Eq.trans h3 ?_
    show G43 (.p2 p q (t : Int) (t : Int) (some [p.Code, q.Code]) 2 1 seen _ (sl1 (ls p.Code) t)) = _
    rw [G43.eq_2, dti (by decide)]
    show G43 (.p3 p q (t : Int) (t : Int) (some [p.Code, q.Code]) 2 1 q.Code _ 0 seen _ (sl1 (ls p.Code) t)) = _
    have h4 := g43_3 p q ht (t : Int) (some [p.Code, q.Code]) 2 1 seen (so (ints ((List.range t).filter fun c => decide (∀ d, d < c → sg (ls p.Code) (ls q.Code) d ≠ sg (ls p.Code) (ls q.Code) c)))) q.Code (by omega) (ls q.Code).length 0 (sl1 (ls p.Code) t) (by omega) (by omega)
    refine Eq.trans h4 ?_
    show G43 (.p2 p q (t : Int) (t : Int) (some [p.Code, q.Code]) 2 2 seen _ (sg (ls p.Code) (ls q.Code) t)) = _
    have hsl : (sg (ls p.Code) (ls q.Code) t).length ≤ 100000 := by simp [sg]; omega
    rw [G43.eq_2, dfi (by decide), bst' _ (by omega), sm]
    by_cases e : ∃ d, d < t ∧ sg (ls p.Code) (ls q.Code) d = sg (ls p.Code) (ls q.Code) t
    · have hg := (hs _).2 e
      rw [if_neg (by simp [hg]), wn1 t (by omega)]
      have h5 := g43_1 hp hq m (t + 1) seen (by omega) (fun s => (hs s).trans ⟨fun ⟨d, h1, h2⟩ => ⟨d, by omega, h2⟩, fun ⟨d, h1, h2⟩ => by
        by_cases hd : d = t
        · subst hd
          obtain ⟨d', h3, h4⟩ := e
          exact ⟨d', h3, h4.trans h2⟩
        · exact ⟨d, by omega, h2⟩⟩)
      rw [List.range_succ, List.filter_append] at h5
      have hf : ([t].filter fun c => decide (∀ d, d < c → sg (ls p.Code) (ls q.Code) d ≠ sg (ls p.Code) (ls q.Code) c)) = [] := by
        rw [List.filter_cons_of_neg]
        · rfl
        · simp only [decide_eq_true_eq]
          obtain ⟨d, h1, h2⟩ := e
          exact fun h => h d h1 h2
      rw [hf, List.append_nil] at h5
      exact h5
    · have hg : Option.getD (Mp.get seen (sg (ls p.Code) (ls q.Code) t)) false = false := by
        rw [Bool.eq_false_iff]
        exact fun h => e ((hs _).1 h)
      have hlen : ((List.range t).filter fun c => decide (∀ d, d < c → sg (ls p.Code) (ls q.Code) d ≠ sg (ls p.Code) (ls q.Code) c)).length ≤ t := by
        refine Nat.le_trans (List.length_filter_le _ _) ?_
        simp
      rw [if_pos (by simp [hg]), sm, sm, ls_so, if_pos (by simp [ints, ls] at hlen ⊢; omega), wn1 t (by omega), wu8 ht, sapp_so]
      have h5 := g43_1 hp hq m (t + 1) (Mp.put seen (sg (ls p.Code) (ls q.Code) t) true) (by omega) (fun s => by
        unfold Mp.put
        simp only []
        by_cases hst : s = sg (ls p.Code) (ls q.Code) t
        · rw [if_pos hst]
          exact ⟨fun _ => ⟨t, by omega, hst.symm⟩, fun _ => rfl⟩
        · rw [if_neg hst, hs s]
          exact ⟨fun ⟨d, h1, h2⟩ => ⟨d, by omega, h2⟩, fun ⟨d, h1, h2⟩ => ⟨d, by
            have : d ≠ t := fun h => hst (by rw [← h2, h])
            omega, h2⟩⟩)
      rw [List.range_succ, List.filter_append] at h5
      have hf : ([t].filter fun c => decide (∀ d, d < c → sg (ls p.Code) (ls q.Code) d ≠ sg (ls p.Code) (ls q.Code) c)) = [t] := by
        rw [List.filter_cons_of_pos]
        · rfl
        · simp only [decide_eq_true_eq]
          exact fun d h1 h2 => e ⟨d, h1, h2⟩
      rw [hf] at h5
      refine Eq.trans ?_ h5
      simp [ints, ls]
theorem f43 {p q : T45} (hp : rp p = true) (hq : rp q = true) : F43 p q = some (so (ints (knd (ls p.Code) (ls q.Code)))) := by
  unfold F43
  exact g43_1 hp hq 256 0 Mp.empty (by omega) (fun s => ⟨fun h => by simp [Mp.empty] at h, fun ⟨d, h, _⟩ => by omega⟩)
theorem knd_lt {C D : List T76} : ∀ c ∈ knd C D, c < 256 := fun c h => by
  unfold knd at h
  rw [List.mem_filter, List.mem_range] at h
  exact h.1
theorem knd_len (C D : List T76) : (knd C D).length ≤ 256 := by
  refine Nat.le_trans (List.length_filter_le _ _) ?_
  simp
theorem knd_ex (C D : List T76) : ∀ c, c < 256 → ∃ r ∈ knd C D, sg C D r = sg C D c := by
  intro c
  induction c using Nat.strongRecOn with
  | _ c ih =>
    intro hc
    by_cases e : ∃ d, d < c ∧ sg C D d = sg C D c
    · obtain ⟨d, h1, h2⟩ := e
      obtain ⟨r, h3, h4⟩ := ih d h1 (by omega)
      exact ⟨r, h3, h4.trans h2⟩
    · refine ⟨c, ?_, rfl⟩
      unfold knd
      rw [List.mem_filter, List.mem_range, decide_eq_true_eq]
      exact ⟨hc, fun d h1 h2 => e ⟨d, h1, h2⟩⟩
theorem sl1_at {C : List T76} {c r : Nat} (h : sl1 C c = sl1 C r) : ∀ x ∈ C, x.Kind = 1 → hasB x.Set (UInt8.ofNat c) = hasB x.Set (UInt8.ofNat r) := by
  intro x hx h1
  unfold sl1 at h
  have h2 := List.map_inj_left.1 h x (List.mem_filter.2 ⟨hx, by simp [h1]⟩)
  cases ha : hasB x.Set (UInt8.ofNat c) <;> cases hb : hasB x.Set (UInt8.ofNat r) <;> simp [ha, hb] at h2 <;> rfl
theorem tk_same {C : List T76} {c r : Nat} (h : sl1 C c = sl1 C r) (i : Nat) : tk C (UInt8.ofNat c) i = tk C (UInt8.ofNat r) i := by
  unfold tk
  split
  · rename_i x hx
    by_cases h1 : x.Kind = 1
    · rw [sl1_at h x (List.mem_of_getElem? hx) h1]
    · have : (x.Kind == 1) = false := by simpa using h1
      rw [this]; rfl
  · rfl
theorem stp_same {C : List T76} {c r : Nat} (h : sl1 C c = sl1 C r) (l : List Nat) : stp C l (UInt8.ofNat c) = stp C l (UInt8.ofNat r) := by
  unfold stp bh
  rw [show tk C (UInt8.ofNat c) = tk C (UInt8.ofNat r) from funext (tk_same h)]
theorem knd_rep (C D : List T76) (c : UInt8) : ∃ r ∈ knd C D, (∀ l, stp C l c = stp C l (UInt8.ofNat r)) ∧ (∀ l, stp D l c = stp D l (UInt8.ofNat r)) := by
  have hc : c.toNat < 256 := c.toNat_lt
  obtain ⟨r, h1, h2⟩ := knd_ex C D c.toNat hc
  have e : UInt8.ofNat c.toNat = c := by simp
  have h3 := List.append_inj h2 (by rw [sl1_len, sl1_len])
  refine ⟨r, h1, fun l => ?_, fun l => ?_⟩
  · have := stp_same h3.1.symm l
    rwa [e] at this
  · have := stp_same h3.2.symm l
    rwa [e] at this
end Go.Proofs.YtcidnoghoifmmaaDoor
end
section
/-
  Deriv: which trees have anchors: it is told of every tree that is not too great.
-/


namespace Go.Proofs.YtcidnoghoifmmaaDoor
open Go AW
set_option linter.unusedVariables false
set_option linter.unusedSimpArgs false
set_option maxHeartbeats 4000000
theorem g49_1 (n : T27) (hl : (ls n.Kids).length ≤ 100000) (hn : ∀ k ∈ ls n.Kids, ∃ b, G49 (.e k) = some b) : ∀ (m i : Nat), m + i = (ls n.Kids).length → ∃ b, G49 (.p1 n.Kids ((ls n.Kids).length : Int) (i : Int)) = some b
  | 0, i, h => by rw [G49.eq_2, dfi (by omega)]; exact ⟨_, rfl⟩
  | m + 1, i, h => by
    obtain ⟨c, hc⟩ := get_ex (ls n.Kids) (i := i) (by omega)
    obtain ⟨b, hb⟩ := hn c (List.mem_of_getElem? hc)
    rw [G49.eq_2, dti (by omega), ixs hc, sm, hb, sm]
    cases b with
    | true => exact ⟨_, rfl⟩
    | false =>
      rw [fi_ rfl, wn1 i (by omega)]
      exact g49_1 n hl hn m (i + 1) (by omega)
theorem g49 : ∀ (c : Nat) (n : T27), cnt n ≤ c → c ≤ 100000 → ∃ b, G49 (.e n) = some b
  | 0, n, h, _ => by have := cnt_pos n; omega
  | c + 1, n, h, hc => by
    have h1 := cntl_len (ls n.Kids)
    have h2 := cnt_eq n
    have h3 := g49_1 n (by omega) (fun k hk => g49 c k (by have := cnt_kid hk; omega) (by omega)) (ls n.Kids).length 0 (by omega)
    have h3' : ∃ b, G49 (.p1 n.Kids ((ls n.Kids).length : Int) 0) = some b := h3
    rw [G49.eq_1]
    split
    · exact ⟨_, rfl⟩
    · split
      · exact ⟨_, rfl⟩
      · exact h3'
theorem f49 {n : T27} (h : cnt n ≤ 100000) : ∃ b, F49 n = some b := g49 100000 n h (Nat.le_refl _)
end Go.Proofs.YtcidnoghoifmmaaDoor
end
section
/-
  Deriv: which trees have back-references: it is told of every tree that is not too great.
-/

namespace Go.Proofs.YtcidnoghoifmmaaDoor
open Go AW
set_option linter.unusedVariables false
set_option linter.unusedSimpArgs false
set_option maxHeartbeats 4000000
mutual
def bk : T27 → Bool
  | ⟨k, _, _, _, _, o⟩ => (k == 7) || bko o
def bko : Option (List T27) → Bool
  | none => false
  | some l => bkl l
def bkl : List T27 → Bool
  | [] => false
  | x :: l => bk x || bkl l
end
theorem bk_eq (n : T27) : bk n = ((n.Kind == 7) || bkl (ls n.Kids)) := by
  obtain ⟨_, _, _, _, _, o⟩ := n
  rw [bk]
  cases o with
  | none => rfl
  | some l => rfl
theorem bkl_drop {l : List T27} {i : Nat} {k : T27} (h : l[i]? = some k) : bkl (l.drop i) = (bk k || bkl (l.drop (i + 1))) := by
  rw [List.drop_eq_getElem_cons (lt_of_getElem? h), bkl]
  have : l[i]'(lt_of_getElem? h) = k := by
    have := List.getElem?_eq_getElem (lt_of_getElem? h)
    rw [h] at this
    exact (Option.some.inj this).symm
  rw [this]
def bres (b : Bool) : Bool × (Bool × Nat) := match b with
  | true => (false, (true, 1))
  | false => (true, (false, 0))
theorem b48 (a x : T27) : B48_1 a x (false, 0) = some (bres (x.Kind == 7)) := by
  unfold B48_1
  rw [if_pos rfl]
  cases h : (x.Kind == 7) <;> rfl
theorem g48_1 (a n : T27) (hl : (ls n.Kids).length ≤ 100000) (hn : ∀ k ∈ ls n.Kids, G82 (B48_1 a) (.e k (false, 0)) = some (bres (bk k))) : ∀ (m i : Nat), m + i = (ls n.Kids).length → G82 (B48_1 a) (.p1 n ((ls n.Kids).length : Int) (i : Int) (false, 0)) = some (bres (bkl ((ls n.Kids).drop i)))
  | 0, i, h => by rw [G82.eq_2, dfi (by omega), List.drop_of_length_le (by omega)]; rfl
  | m + 1, i, h => by
    obtain ⟨k, hk⟩ := get_ex (ls n.Kids) (i := i) (by omega)
    rw [G82.eq_2, dti (by omega), ixs hk, sm, hn k (List.mem_of_getElem? hk), sm, bkl_drop hk]
    cases hb : bk k with
    | true => rfl
    | false =>
      show (if (!true) = true then _ else G82 (B48_1 a) (.p1 n ((ls n.Kids).length : Int) (IntKind.wrap .i64 ((i : Int) + 1)) (false, 0))) = _
      rw [if_neg (by decide), wn1 i (by omega), g48_1 a n hl hn m (i + 1) (by omega)]
      rfl
theorem g48 (a : T27) : ∀ (c : Nat) (n : T27), cnt n ≤ c → c ≤ 100000 → G82 (B48_1 a) (.e n (false, 0)) = some (bres (bk n))
  | 0, n, h, _ => by have := cnt_pos n; omega
  | c + 1, n, h, hc => by
    have h1 := cntl_len (ls n.Kids)
    have h2 := cnt_eq n
    have h3 := g48_1 a n (by omega) (fun k hk => g48 a c k (by have := cnt_kid hk; omega) (by omega)) (ls n.Kids).length 0 (by omega)
    have h3' : G82 (B48_1 a) (.p1 n ((ls n.Kids).length : Int) 0 (false, 0)) = _ := h3
    rw [G82.eq_1, b48, sm, bk_eq]
    cases hb : (n.Kind == 7) with
    | true => rfl
    | false =>
      show (if (!true) = true then _ else G82 (B48_1 a) (.p1 n ((ls n.Kids).length : Int) 0 (false, 0))) = _
      rw [if_neg (by decide), h3', List.drop_zero]
      rfl
theorem f48 {n : T27} (h : cnt n ≤ 100000) : F48 n = some (bk n) := by
  unfold F48 F53
  rw [sm]
  show G48 (.p1 n false) = _
  unfold G48 F81 F82
  have := g48 n 100000 n h (Nat.le_refl _)
  have this' : G82 (B48_1 n) (.e n (false, 0)) = _ := this
  simp only [this']
  cases bk n <;> rfl
end Go.Proofs.YtcidnoghoifmmaaDoor
end
section
/-
  Deriv: the search through pairs of situations.
-/


namespace Go.Proofs.YtcidnoghoifmmaaDoor
open Go AW
set_option linter.unusedVariables false
set_option linter.unusedSimpArgs false
set_option maxHeartbeats 4000000
theorem f32c (n : T27) : ∃ r, F32 n = some r ∧ (r.2 = 0 → rp r.1 = true) := by
  unfold F32
  obtain ⟨r, hr, w, hw, h1, h2, h3⟩ := f10 n
  by_cases h0 : r.2 = 0
  · obtain ⟨hg, hc, hsz, hw1, hp⟩ := h3 (by rw [← h1]; exact h0)
    obtain ⟨b, hb9⟩ := f49 (n := n) (by omega)
    simp only [hr, sm, nfi h0, f48 (n := n) (by omega), hb9]
    have hrp : rp r.1 = true := by rw [hp]; exact rp_prg hg hc hsz
    cases bk n with
    | true => exact ⟨_, rfl, fun h => by simp at h⟩
    | false =>
      cases b with
      | true => exact ⟨_, rfl, fun h => by simp at h⟩
      | false => exact ⟨_, rfl, fun _ => hrp⟩
  · simp only [hr, sm, nti h0]
    exact ⟨_, rfl, fun h => absurd h h0⟩
noncomputable def p80 (C D : List T76) (w : Str) : T80 := { a := so (ints (run C w)), b := so (ints (run D w)), text := w }
noncomputable def K80 (C D : List T76) (w : Str) : Str := ky (run C w) (run D w)
theorem k80_inj {C D : List T76} {v w : Str} : K80 C D v = K80 C D w ↔ run C v = run C w ∧ run D v = run D w :=
  ⟨fun h => ky_inj h, fun h => by unfold K80; rw [h.1, h.2]⟩
def Cv (C D : List T76) (W : List Str) (w : Str) : Prop := (run C w = [] ∧ run D w = []) ∨ ∃ w' ∈ W, run C w' = run C w ∧ run D w' = run D w
theorem Cv.mono {C D : List T76} {W : List Str} {w : Str} (h : Cv C D W w) (v : Str) : Cv C D (W ++ [v]) w := by
  rcases h with h | ⟨w', h1, h2⟩
  · exact .inl h
  · exact .inr ⟨w', by simp [h1], h2⟩
theorem run_rl (C : List T76) {p : T45} (hr : rp p = true) (w : Str) : (run (ls p.Code) w).length ≤ 16384 := by
  have := nodup_len _ _ (run_nd (ls p.Code) w) (run_lt (ls p.Code) w)
  have := rp_len hr
  omega
theorem ints_len (l : List Nat) : (ls (so (ints l))).length = l.length := by rw [ls_so]; simp [ints]
theorem f42c {p q : T45} (hp : rp p = true) (hq : rp q = true) (w : Str) : F42 (p80 (ls p.Code) (ls q.Code) w) = some (K80 (ls p.Code) (ls q.Code) w) := by
  have h1 := run_rl (ls p.Code) hp w
  have h2 := run_rl (ls q.Code) hq w
  have h3 := rp_len hp
  have h4 := rp_len hq
  exact f42b _ _ w (fun x hx => by have := run_lt _ _ x hx; omega) (by omega) (fun x hx => by have := run_lt _ _ x hx; omega) (by omega)
end Go.Proofs.YtcidnoghoifmmaaDoor
end
section
/-
  Deriv: the search through pairs of situations, with one asking.
-/

namespace Go.Proofs.YtcidnoghoifmmaaDoor
open Go AW
set_option linter.unusedVariables false
set_option linter.unusedSimpArgs false
set_option maxHeartbeats 4000000
def suv2 (x y : Bool) : Bool := x && !y
noncomputable def hitv2 (C D : List T76) (w : Str) : Bool := suv2 (en C (run C w)) (en D (run D w))
theorem f39v2 {p q : T45} (hp : rp p = true) (hq : rp q = true) (w : Str) : F39v2 (p80 (ls p.Code) (ls q.Code) w) p q = some (hitv2 (ls p.Code) (ls q.Code) w, p, q) := by
  unfold F39v2 p80
  simp only []
  rw [f40b hp (run_nd _ _) (run_lt _ _), sm, f40b hq (run_nd _ _) (run_lt _ _), sm]
  unfold hitv2 suv2 F30
  cases en (ls p.Code) (run (ls p.Code) w) <;> cases en (ls q.Code) (run (ls q.Code) w) <;> rfl
structure Ivv2 (C D : List T76) (k t : Nat) (W : List Str) (seen : Mp Str Bool) : Prop where
  ini : [] ∈ W
  seen : ∀ s, Option.getD (Mp.get seen s) false = true ↔ ∃ w ∈ W, K80 C D w = s
  no : ∀ w ∈ W, hitv2 C D w = false
  cov : ∀ j r w, j < k → W[j]? = some w → r ∈ knd C D → Cv C D W (w ++ [UInt8.ofNat r])
  part : ∀ u r w, u < t → W[k]? = some w → (knd C D)[u]? = some r → Cv C D W (w ++ [UInt8.ofNat r])
  len : W.length ≤ 4096
  txt : ∀ w ∈ W, w.length ≤ W.length
def Goodv2 (C D : List T76) (r : Str × Bool × Int) : Prop := r = ([], false, 3) ∨ (r = ([], false, 0) ∧ ∀ w, hitv2 C D w = false) ∨ ∃ w, r = (w, true, 0) ∧ hitv2 C D w = true
theorem Ivv2.skip {C D : List T76} {k t : Nat} {W : List Str} {seen : Mp Str Bool} (h : Ivv2 C D k t W seen) (hc : ∀ r w, W[k]? = some w → (knd C D)[t]? = some r → Cv C D W (w ++ [UInt8.ofNat r])) : Ivv2 C D k (t + 1) W seen :=
  ⟨h.ini, h.seen, h.no, h.cov, fun u r w hu hw hr => by
    by_cases e : u = t
    · subst e; exact hc r w hw hr
    · exact h.part u r w (by omega) hw hr, h.len, h.txt⟩
theorem Ivv2.next {C D : List T76} {k t : Nat} {W : List Str} {seen : Mp Str Bool} (h : Ivv2 C D k t W seen) (ht : (knd C D).length ≤ t) : Ivv2 C D (k + 1) 0 W seen :=
  ⟨h.ini, h.seen, h.no, fun j r w hj hw hr => by
    by_cases e : j = k
    · subst e
      obtain ⟨u, hu⟩ := List.mem_iff_getElem?.1 hr
      exact h.part u r w (by have := ge_lt hu; omega) hw hu
    · exact h.cov j r w (by omega) hw hr, fun u r w hu => by omega, h.len, h.txt⟩
theorem Ivv2.add {C D : List T76} {k t : Nat} {W : List Str} {seen : Mp Str Bool} (h : Ivv2 C D k t W seen) {v : Str} {r0 : Nat} (hv : W[k]? = some v) (hr0 : (knd C D)[t]? = some r0) (hn : hitv2 C D (v ++ [UInt8.ofNat r0]) = false) (hl : W.length < 4096) :
    Ivv2 C D k (t + 1) (W ++ [v ++ [UInt8.ofNat r0]]) (Mp.put seen (K80 C D (v ++ [UInt8.ofNat r0])) true) := by
  have hk := ge_lt hv
  refine ⟨by simp [h.ini], fun s => ?_, ?_, ?_, ?_, by simp; omega, ?_⟩
  · unfold Mp.put
    simp only []
    by_cases e : s = K80 C D (v ++ [UInt8.ofNat r0])
    · rw [if_pos e]
      exact ⟨fun _ => ⟨_, by simp, e.symm⟩, fun _ => rfl⟩
    · rw [if_neg e, h.seen s]
      constructor
      · rintro ⟨w, h1, h2⟩; exact ⟨w, by simp [h1], h2⟩
      · rintro ⟨w, h1, h2⟩
        rw [List.mem_append, List.mem_singleton] at h1
        rcases h1 with h1 | rfl
        · exact ⟨w, h1, h2⟩
        · exact absurd h2.symm e
  · intro w hw
    rw [List.mem_append, List.mem_singleton] at hw
    rcases hw with hw | rfl
    · exact h.no w hw
    · exact hn
  · intro j r w hj hw hr
    rw [List.getElem?_append_left (by omega)] at hw
    exact (h.cov j r w hj hw hr).mono _
  · intro u r w hu hw hr
    rw [List.getElem?_append_left hk] at hw
    by_cases e : u = t
    · subst e
      rw [hv] at hw
      cases hw
      rw [hr0] at hr
      cases hr
      exact .inr ⟨_, by simp, rfl, rfl⟩
    · exact (h.part u r w (by omega) hw hr).mono _
  · intro w hw
    rw [List.mem_append, List.mem_singleton] at hw
    rcases hw with hw | rfl
    · have := h.txt w hw; simp; omega
    · have := h.txt v (List.mem_of_getElem? hv); simp; omega
theorem Ivv2.all {C D : List T76} {k : Nat} {W : List Str} {seen : Mp Str Bool} (h : Ivv2 C D k 0 W seen) (hk : W.length ≤ k) : ∀ w, hitv2 C D w = false := by
  have hc : ∀ w, Cv C D W w := by
    intro w
    induction hn : w.length generalizing w with
    | zero => exact .inr ⟨[], h.ini, by rw [List.length_eq_zero_iff.1 hn]; exact ⟨rfl, rfl⟩⟩
    | succ n ih =>
      rcases List.eq_nil_or_concat w with rfl | ⟨w', c, rfl⟩
      · simp at hn
      · rw [List.concat_eq_append] at hn ⊢
        rcases ih w' (by simp at hn; omega) with ⟨h1, h2⟩ | ⟨v, hv, h1, h2⟩
        · exact .inl (by rw [run_snoc, run_snoc, h1, h2, stp_nil, stp_nil]; exact ⟨rfl, rfl⟩)
        · obtain ⟨r, hr, h3, h4⟩ := knd_rep C D c
          obtain ⟨j, hj⟩ := List.mem_iff_getElem?.1 hv
          have h5 := h.cov j r v (by have := ge_lt hj; omega) hj hr
          have e1 : run C (v ++ [UInt8.ofNat r]) = run C (w' ++ [c]) := by rw [run_snoc, run_snoc, h3, h1]
          have e2 : run D (v ++ [UInt8.ofNat r]) = run D (w' ++ [c]) := by rw [run_snoc, run_snoc, h4, h2]
          rcases h5 with ⟨h6, h7⟩ | ⟨v', h6, h7, h8⟩
          · exact .inl ⟨e1 ▸ h6, e2 ▸ h7⟩
          · exact .inr ⟨v', h6, h7.trans e1, h8.trans e2⟩
  intro w
  rcases hc w with ⟨h1, h2⟩ | ⟨v, hv, h1, h2⟩
  · unfold hitv2; rw [h1, h2]; rfl
  · have := h.no v hv
    unfold hitv2 at this ⊢
    rw [← h1, ← h2]; exact this
theorem g22v2_2 {p q : T45} (hp : rp p = true) (hq : rp q = true) (k : Nat) : ∀ (m t : Nat) (W : List Str) (seen : Mp Str Bool), m + t = (knd (ls p.Code) (ls q.Code)).length → k < W.length → Ivv2 (ls p.Code) (ls q.Code) k t W seen →
    (∃ r, G22v2 (.p2 (so (ints (knd (ls p.Code) (ls q.Code)))) (k : Int) (so (ints (knd (ls p.Code) (ls q.Code)))) ((knd (ls p.Code) (ls q.Code)).length : Int) (t : Int) p q seen (so (W.map (p80 (ls p.Code) (ls q.Code))))) = some r ∧ Goodv2 (ls p.Code) (ls q.Code) r) ∨
    ∃ W' seen', Ivv2 (ls p.Code) (ls q.Code) (k + 1) 0 W' seen' ∧ G22v2 (.p2 (so (ints (knd (ls p.Code) (ls q.Code)))) (k : Int) (so (ints (knd (ls p.Code) (ls q.Code)))) ((knd (ls p.Code) (ls q.Code)).length : Int) (t : Int) p q seen (so (W.map (p80 (ls p.Code) (ls q.Code))))) = G22v2 (.p1 (so (ints (knd (ls p.Code) (ls q.Code)))) ((k + 1 : Nat) : Int) p q seen' (so (W'.map (p80 (ls p.Code) (ls q.Code)))))
  | 0, t, W, seen, h, hk, hi => by
    have := hi.len
    exact .inr ⟨W, seen, hi.next (by omega), by rw [G22v2.eq_2, dfi (by omega), wn1 k (by omega)]⟩
  | m + 1, t, W, seen, h, hk, hi => by
    have hW := hi.len
    have hkn := knd_len (ls p.Code) (ls q.Code)
    obtain ⟨r, hr⟩ := get_ex (knd (ls p.Code) (ls q.Code)) (i := t) (by omega)
    obtain ⟨v, hv⟩ := get_ex W hk
    have hr256 := knd_lt r (List.mem_of_getElem? hr)
    have e1 : (ints (knd (ls p.Code) (ls q.Code)))[t]? = some (r : Int) := by simp [ints, hr]
    have e2 : (W.map (p80 (ls p.Code) (ls q.Code)))[k]? = some (p80 (ls p.Code) (ls q.Code) v) := by simp [hv]
    have hvl := hi.txt v (List.mem_of_getElem? hv)
    have e3 : toBs (ls (some [(r : Int)])) = [UInt8.ofNat r] := by simp [toBs, ls]
    have e4 : ((UInt8.ofNat r).toNat : Int) = (r : Int) := by rw [u8n hr256]
    have f1 := f44b hp (run_lt (ls p.Code) v) (run_nd (ls p.Code) v) (UInt8.ofNat r)
    have f2 := f44b hq (run_lt (ls q.Code) v) (run_nd (ls q.Code) v) (UInt8.ofNat r)
    rw [e4, ← run_snoc] at f1 f2
    have f1' : F44 p (p80 (ls p.Code) (ls q.Code) v).a (r : Int) = _ := f1
    have f2' : F44 q (p80 (ls p.Code) (ls q.Code) v).b (r : Int) = _ := f2
    have hno := fun (hi' : Ivv2 (ls p.Code) (ls q.Code) k (t + 1) W seen) => g22v2_2 hp hq k m (t + 1) W seen (by omega) hk hi'
    rw [G22v2.eq_2, dti (by omega), ls_so, ixs e1, sm, ls_so, ixs e2, sm, sm, sm, e3, if_pos (by show v.length + _ ≤ _; simp; omega), f1', sm, f2', sm, wn1 t (by omega), ints_len, ints_len]
    have e5 : ({ a := so (ints (run (ls p.Code) (v ++ [UInt8.ofNat r]))), b := so (ints (run (ls q.Code) (v ++ [UInt8.ofNat r]))), text := (p80 (ls p.Code) (ls q.Code) v).text ++ [UInt8.ofNat r] } : T80) = p80 (ls p.Code) (ls q.Code) (v ++ [UInt8.ofNat r]) := rfl
    rw [e5, f42c hp hq, sm]
    by_cases hz : run (ls p.Code) (v ++ [UInt8.ofNat r]) = [] ∧ run (ls q.Code) (v ++ [UInt8.ofNat r]) = []
    · rw [eti (by rw [hz.1]; rfl), eti (by rw [hz.2]; rfl)]
      exact hno (hi.skip fun r' w hw hr' => by
        rw [hr] at hr'; cases hr'
        rw [hv] at hw; cases hw
        exact .inl hz)
    have hgo2 : ∀ X Y : Option (Str × Bool × Int), (if (((run (ls p.Code) (v ++ [UInt8.ofNat r])).length : Int) == 0) = true then (if (((run (ls q.Code) (v ++ [UInt8.ofNat r])).length : Int) == 0) = true then Y else X) else X) = X := by
      intro X Y
      by_cases h1 : run (ls p.Code) (v ++ [UInt8.ofNat r]) = []
      · have h2 : run (ls q.Code) (v ++ [UInt8.ofNat r]) ≠ [] := fun h => hz ⟨h1, h⟩
        have h3 : (run (ls q.Code) (v ++ [UInt8.ofNat r])).length ≠ 0 := fun h => h2 (List.length_eq_zero_iff.1 h)
        rw [eti (by rw [h1]; rfl), efi (by omega)]
      · have h3 : (run (ls p.Code) (v ++ [UInt8.ofNat r])).length ≠ 0 := fun h => h1 (List.length_eq_zero_iff.1 h)
        rw [efi (by omega)]
    rw [hgo2, G22v2.eq_3]
    cases hs : Option.getD (Mp.get seen (K80 (ls p.Code) (ls q.Code) (v ++ [UInt8.ofNat r]))) false with
    | true =>
      rw [if_pos rfl, wn1 t (by omega)]
      obtain ⟨w', h1, h2⟩ := (hi.seen _).1 hs
      exact hno (hi.skip fun r' w hw hr' => by
        rw [hr] at hr'; cases hr'
        rw [hv] at hw; cases hw
        exact .inr ⟨w', h1, k80_inj.1 h2⟩)
    | false =>
      rw [if_neg (by decide), ls_so, List.length_map]
      by_cases h4 : W.length = 4096
      · rw [eti (by omega)]
        exact .inl ⟨_, rfl, .inl rfl⟩
      · rw [efi (by omega), f39v2 hp hq, sm]
        cases hh : hitv2 (ls p.Code) (ls q.Code) (v ++ [UInt8.ofNat r]) with
        | true =>
          rw [if_pos rfl]
          exact .inl ⟨_, rfl, .inr (.inr ⟨v ++ [UInt8.ofNat r], rfl, hh⟩)⟩
        | false =>
          rw [if_neg (by simp), f42c hp hq, sm, sm, if_pos (by simp [ls]; omega), wn1 t (by omega), sapp_so]
          have := g22v2_2 hp hq k m (t + 1) _ _ (by omega) (by simp; omega) (hi.add hv hr hh (by omega))
          rw [List.map_append] at this
          exact this
theorem g22v2_1 {p q : T45} (hp : rp p = true) (hq : rp q = true) : ∀ (m k : Nat) (W : List Str) (seen : Mp Str Bool), m + k = 4096 → Ivv2 (ls p.Code) (ls q.Code) k 0 W seen →
    ∃ r, G22v2 (.p1 (so (ints (knd (ls p.Code) (ls q.Code)))) (k : Int) p q seen (so (W.map (p80 (ls p.Code) (ls q.Code))))) = some r ∧ Goodv2 (ls p.Code) (ls q.Code) r
  | m, k, W, seen, h, hi => by
    have hW := hi.len
    rw [G22v2.eq_1, ls_so, List.length_map]
    by_cases hk : k < W.length
    · match m, h with
      | 0, h => omega
      | m + 1, h =>
        rw [dti (by omega), ints_len]
        have h2 := g22v2_2 hp hq k (knd (ls p.Code) (ls q.Code)).length 0 W seen (by omega) hk hi
        rcases h2 with ⟨r, h2, h3⟩ | ⟨W', seen', h2, h3⟩
        · exact ⟨r, h2, h3⟩
        · obtain ⟨r, h4, h5⟩ := g22v2_1 hp hq m (k + 1) W' seen' (by omega) h2
          exact ⟨r, h3.trans h4, h5⟩
    · rw [dfi (by omega)]
      exact ⟨_, rfl, .inr (.inl ⟨rfl, hi.all (by omega)⟩)⟩
theorem f22v2 (a b : T27) : ∃ r, F22v2 a b = some r ∧ ∃ p q, F32 a = some p ∧ F32 b = some q ∧ (p.2 = 0 → rp p.1 = true) ∧ (q.2 = 0 → rp q.1 = true) ∧ (p.2 ≠ 0 → r = ([], false, p.2)) ∧ (p.2 = 0 → q.2 ≠ 0 → r = ([], false, q.2)) ∧ (p.2 = 0 → q.2 = 0 → Goodv2 (ls p.1.Code) (ls q.1.Code) r) := by
  obtain ⟨p, hp, hpr⟩ := f32c a
  obtain ⟨q, hq, hqr⟩ := f32c b
  unfold F22v2
  rw [hp, sm]
  by_cases h1 : p.2 = 0
  · rw [nfi h1, hq, sm]
    by_cases h2 : q.2 = 0
    · have rp' := hpr h1
      have rq' := hqr h2
      have lp := rp_len rp'
      have lq := rp_len rq'
      have i1 := f41 rp' [0] (by simp; omega) (by simp)
      have i2 := f41 rq' [0] (by simp; omega) (by simp)
      have i1' : F41 p.1 (some [0]) = some (so (ints (run (ls p.1.Code) []))) := i1
      have i2' : F41 q.1 (some [0]) = some (so (ints (run (ls q.1.Code) []))) := i2
      rw [nfi h2, i1', sm, i2', sm]
      have e5 : ({ a := so (ints (run (ls p.1.Code) [])), b := so (ints (run (ls q.1.Code) [])), text := [] } : T80) = p80 (ls p.1.Code) (ls q.1.Code) [] := rfl
      rw [e5, f39v2 rp' rq', sm]
      cases hh : hitv2 (ls p.1.Code) (ls q.1.Code) [] with
      | true =>
        rw [if_pos rfl]
        exact ⟨_, rfl, p, q, rfl, rfl, hpr, hqr, fun h => absurd h1 h, fun _ h => absurd h2 h, fun _ _ => .inr (.inr ⟨[], rfl, hh⟩)⟩
      | false =>
        rw [if_neg (by simp), f42c rp' rq', sm, sm, f43 rp' rq', sm]
        obtain ⟨r, h3, h4⟩ := g22v2_1 rp' rq' 4096 0 [[]] (Mp.put Mp.empty (K80 (ls p.1.Code) (ls q.1.Code) []) true) (by omega) ⟨by simp, fun s => by
          unfold Mp.put Mp.empty
          simp only []
          by_cases e : s = K80 (ls p.1.Code) (ls q.1.Code) []
          · rw [if_pos e]; exact ⟨fun _ => ⟨[], by simp, e.symm⟩, fun _ => rfl⟩
          · rw [if_neg e]
            refine ⟨fun h => by simp at h, ?_⟩
            rintro ⟨w, h1, h2⟩
            rw [List.mem_singleton] at h1
            subst h1
            exact absurd h2.symm e, fun w hw => by rw [List.mem_singleton] at hw; subst hw; exact hh, fun j r w hj => by omega, fun u r w hu => by omega, by simp, fun w hw => by rw [List.mem_singleton] at hw; subst hw; simp⟩
        exact ⟨r, h3, p, q, rfl, rfl, hpr, hqr, fun h => absurd h1 h, fun _ h => absurd h2 h, fun _ _ => h4⟩
    · rw [nti h2]
      exact ⟨_, rfl, p, q, rfl, rfl, hpr, hqr, fun h => absurd h1 h, fun _ _ => rfl, fun _ h => absurd h h2⟩
  · rw [nti h1]
    exact ⟨_, rfl, p, q, rfl, hq, hpr, hqr, fun _ => rfl, fun h => absurd h h1, fun h => absurd h h1⟩
end Go.Proofs.YtcidnoghoifmmaaDoor
end
section
/-
  Twins with fuel of printed functions: closed runs are run by the kernel.
-/

namespace Go.Proofs.YtcidnoghoifmmaaDoor
open Go AW
set_option linter.unusedVariables false
set_option linter.unusedSimpArgs false
set_option maxRecDepth 100000
set_option maxHeartbeats 4000000
def Le {α : Type} (x y : Option α) : Prop := ∀ r, x = some r → y = some r
theorem le_refl {α : Type} (x : Option α) : Le x x := fun _ h => h
theorem le_none {α : Type} (x : Option α) : Le none x := fun _ h => by cases h
theorem le_bind {α β : Type} {x y : Option α} {f g : α → Option β} (h : Le x y) (h' : ∀ v, Le (f v) (g v)) : Le (x >>= f) (y >>= g) := fun r e => by
  obtain ⟨v, e1, e2⟩ := bind_some e
  rw [h v e1]; exact h' v r e2
theorem le_ite {α : Type} {c : Prop} [Decidable c] {x y x' y' : Option α} (h : Le x x') (h' : Le y y') : Le (if c then x else y) (if c then x' else y') := fun r e => by
  by_cases k : c
  · rw [if_pos k] at e ⊢; exact h r e
  · rw [if_neg k] at e ⊢; exact h' r e
noncomputable def HG69 (fu : Nat)  : St69 → Option Bool := fun st => match st with | .p1 n kids want => (if (kids == want) = true then (if (n.Kind == 2) = true then (if (n.Kind == 5) = true then (if (n.Kind == 6) = true then (some true) else (if (n.Kind == 7) = true then (some true) else (some (n.Group == 0)))) else (if (n.Min == 0) = true then (if (n.Max == 0) = true then (if (n.Kind == 6) = true then (some true) else (if (n.Kind == 7) = true then (some true) else (some (n.Group == 0)))) else (some false)) else (some false))) else (if (decide (n.Set = (Arr.rep 4 (0 : Int)))) = true then (if (n.Kind == 5) = true then (if (n.Kind == 6) = true then (some true) else (if (n.Kind == 7) = true then (some true) else (some (n.Group == 0)))) else (if (n.Min == 0) = true then (if (n.Max == 0) = true then (if (n.Kind == 6) = true then (some true) else (if (n.Kind == 7) = true then (some true) else (some (n.Group == 0)))) else (some false)) else (some false))) else (some false))) else (some false))
theorem leG69 (fu : Nat) (st : St69) : Le (HG69 fu st) (G69 st) := by
  unfold HG69 G69
  cases st <;> dsimp only <;> (repeat' (with_reducible first | exact le_refl _ | apply le_ite | refine le_bind ?_ (fun _ => ?_)))
noncomputable def HF69 (fu : Nat) (n : T27) : Option Bool := (if (n.Kind == 3) = true then (HG69 fu (.p1 n ((ls n.Kids).length : Int) (if 2 > ((ls n.Kids).length : Int) then 2 else ((ls n.Kids).length : Int)))) else (if (n.Kind == 4) = true then (HG69 fu (.p1 n ((ls n.Kids).length : Int) (if 2 > ((ls n.Kids).length : Int) then 2 else ((ls n.Kids).length : Int)))) else (if (n.Kind == 5) = true then (if (decide (n.Min < 0)) = true then (some false) else (if (decide (n.Min > 255)) = true then (some false) else (if (n.Max != (-1)) = true then (if (decide (n.Max < n.Min)) = true then (some false) else (if (decide (n.Max > 255)) = true then (some false) else (HG69 fu (.p1 n ((ls n.Kids).length : Int) 1)))) else (HG69 fu (.p1 n ((ls n.Kids).length : Int) 1))))) else (if (n.Kind == 6) = true then (HG69 fu (.p1 n ((ls n.Kids).length : Int) 1)) else (if (n.Kind == 1) = true then (HG69 fu (.p1 n ((ls n.Kids).length : Int) 0)) else (if (n.Kind == 2) = true then (HG69 fu (.p1 n ((ls n.Kids).length : Int) 0)) else (if (n.Kind == 7) = true then (HG69 fu (.p1 n ((ls n.Kids).length : Int) 0)) else (if (n.Kind == 8) = true then (HG69 fu (.p1 n ((ls n.Kids).length : Int) 0)) else (if (n.Kind == 9) = true then (HG69 fu (.p1 n ((ls n.Kids).length : Int) 0)) else (some false))))))))))
theorem leF69 (fu : Nat) (n : T27) : Le (HF69 fu n) (F69 n) := by
  unfold HF69 F69
  repeat' (with_reducible first | exact leG69 fu _ | exact le_refl _ | apply le_ite | refine le_bind ?_ (fun _ => ?_))
noncomputable def SG71 (fu : Nat)  (ih : St71 → Option (Int × Int)) : St71 → Option (Int × Int) := fun st => match st with | .e n => (if (n.Kind == 6) = true then (ih (.p1 n n.Group n.Group)) else (ih (.p1 n 0 0))) | .p1 n low high => (ih (.p2 low high n.Kids ((ls n.Kids).length : Int) 0)) | .p2 low high t18_ t19_ t20_ => (if (decide (t20_ < t19_)) = true then (ix (ls t18_) t20_ >>= fun v_3 => (ih (.e v_3) >>= fun r_6 => (if (decide (r_6.1 > 0)) = true then (if (low == 0) = true then (ih (.p3 r_6.1 high r_6.2 t18_ t19_ t20_)) else (if (decide (r_6.1 < low)) = true then (ih (.p3 r_6.1 high r_6.2 t18_ t19_ t20_)) else (ih (.p3 low high r_6.2 t18_ t19_ t20_)))) else (ih (.p3 low high r_6.2 t18_ t19_ t20_))))) else (some (low, high))) | .p3 low high b t18_ t19_ t20_ => (ih (.p2 low (if b > high then b else high) t18_ t19_ (IntKind.wrap .i64 (t20_ + 1))))
noncomputable def HG71 (fu : Nat)  : St71 → Option (Int × Int) := Nat.rec (motive := fun _ => St71 → Option (Int × Int)) (fun _ => none) (fun fu ih => SG71 fu ih) fu
theorem HG71_s (fu : Nat)  (st : St71) : HG71 (fu + 1) st = SG71 fu (HG71 fu) st := rfl
theorem leG71 (fu : Nat) (st : St71) : Le (HG71 fu st) (G71 st) := by
  induction fu generalizing st with
  | zero => exact le_none _
  | succ fu ih =>
    cases st
    · rw [HG71_s, G71.eq_1]
      unfold SG71
      dsimp only
      generalize HG71 fu = hh at ih ⊢
      repeat' (with_reducible first | exact ih _ | exact le_refl _ | apply le_ite | refine le_bind ?_ (fun _ => ?_))
    · rw [HG71_s, G71.eq_2]
      unfold SG71
      dsimp only
      generalize HG71 fu = hh at ih ⊢
      repeat' (with_reducible first | exact ih _ | exact le_refl _ | apply le_ite | refine le_bind ?_ (fun _ => ?_))
    · rw [HG71_s, G71.eq_3]
      unfold SG71
      dsimp only
      generalize HG71 fu = hh at ih ⊢
      repeat' (with_reducible first | exact ih _ | exact le_refl _ | apply le_ite | refine le_bind ?_ (fun _ => ?_))
    · rw [HG71_s, G71.eq_4]
      unfold SG71
      dsimp only
      generalize HG71 fu = hh at ih ⊢
      repeat' (with_reducible first | exact ih _ | exact le_refl _ | apply le_ite | refine le_bind ?_ (fun _ => ?_))
noncomputable def HF71 (fu : Nat) (n : T27) : Option (Int × Int) := HG71 fu (.e n)
theorem leF71 (fu : Nat) (n : T27) : Le (HF71 fu n) (F71 n) := by
  unfold HF71 F71
  repeat' (with_reducible first | exact leG71 fu _ | exact le_refl _ | apply le_ite | refine le_bind ?_ (fun _ => ?_))
noncomputable def HF53 (fu : Nat) (n : T27) : Option T27 := (some n)
theorem leF53 (fu : Nat) (n : T27) : Le (HF53 fu n) (F53 n) := by
  unfold HF53 F53
  repeat' (with_reducible first | exact le_refl _ | apply le_ite | refine le_bind ?_ (fun _ => ?_))
noncomputable def SG82 (fu : Nat) {σ : Type} (Y : T27 → σ → Option (Bool × σ)) (ih : St82 σ → Option (Bool × σ)) : St82 σ → Option (Bool × σ) := fun st => match st with | .e n s_ => (Y n s_ >>= fun r_1 => (if (!r_1.1) = true then (some (false, r_1.2)) else (ih (.p1 n ((ls n.Kids).length : Int) 0 r_1.2)))) | .p1 n t14_ t15_ s_ => (if (decide (t15_ < t14_)) = true then (ix (ls n.Kids) t15_ >>= fun v_5 => (ih (.e v_5 s_) >>= fun r_7 => (if (!r_7.1) = true then (some (false, r_7.2)) else (ih (.p1 n t14_ (IntKind.wrap .i64 (t15_ + 1)) r_7.2))))) else (some (true, s_)))
noncomputable def HG82 (fu : Nat) {σ : Type} (Y : T27 → σ → Option (Bool × σ)) : St82 σ → Option (Bool × σ) := Nat.rec (motive := fun _ => St82 σ → Option (Bool × σ)) (fun _ => none) (fun fu ih => SG82 fu Y ih) fu
theorem HG82_s (fu : Nat) {σ : Type} (Y : T27 → σ → Option (Bool × σ)) (st : St82 σ) : HG82 (fu + 1) Y st = SG82 fu Y (HG82 fu Y) st := rfl
theorem leG82 (fu : Nat) {σ : Type} (Y Y2 : T27 → σ → Option (Bool × σ)) (hY : ∀ a b, Le (Y a b) (Y2 a b)) (st : St82 σ) : Le (HG82 fu Y st) (G82 Y2 st) := by
  induction fu generalizing st with
  | zero => exact le_none _
  | succ fu ih =>
    cases st
    · rw [HG82_s, G82.eq_1]
      unfold SG82
      dsimp only
      generalize HG82 fu Y = hh at ih ⊢
      repeat' (with_reducible first | exact ih _ | exact hY _ _ | exact le_refl _ | apply le_ite | refine le_bind ?_ (fun _ => ?_))
    · rw [HG82_s, G82.eq_2]
      unfold SG82
      dsimp only
      generalize HG82 fu Y = hh at ih ⊢
      repeat' (with_reducible first | exact ih _ | exact hY _ _ | exact le_refl _ | apply le_ite | refine le_bind ?_ (fun _ => ?_))
noncomputable def HF82 (fu : Nat) {σ : Type} (Y : T27 → σ → Option (Bool × σ)) (n : T27) (s_ : σ) : Option (Bool × σ) := HG82 fu Y (.e n s_)
theorem leF82 (fu : Nat) {σ : Type} (Y Y2 : T27 → σ → Option (Bool × σ)) (n : T27) (s_ : σ) (hY : ∀ a b, Le (Y a b) (Y2 a b)) : Le (HF82 fu Y n s_) (F82 Y2 n s_) := by
  unfold HF82 F82
  repeat' (with_reducible first | exact hY _ _ | exact leG82 fu _ _ (fun _ _ => by first | exact hY _ _ ) _ | exact le_refl _ | apply le_ite | refine le_bind ?_ (fun _ => ?_))
noncomputable def HF81 (fu : Nat) {σ : Type} (Y : T27 → σ → Option (Bool × σ)) (d0_ : T27) (s_ : σ) : Option σ := (HF82 fu Y d0_ s_ >>= fun r_2 => (some r_2.2))
theorem leF81 (fu : Nat) {σ : Type} (Y Y2 : T27 → σ → Option (Bool × σ)) (d0_ : T27) (s_ : σ) (hY : ∀ a b, Le (Y a b) (Y2 a b)) : Le (HF81 fu Y d0_ s_) (F81 Y2 d0_ s_) := by
  unfold HF81 F81
  repeat' (with_reducible first | exact hY _ _ | exact leF82 fu _ _ _ _ (fun _ _ => by first | exact hY _ _ ) | exact le_refl _ | apply le_ite | refine le_bind ?_ (fun _ => ?_))
noncomputable def HB36_1 (fu : Nat) (t2_ : Int) (t5_ : T27) (x : T27) (zz : Int × Nat) : Option (Bool × (Int × Nat)) := if zz.2 = 0 then (if (x.Kind == 6) = true then (some (true, (IntKind.wrap .i64 (zz.1 + 1), 0))) else (some (true, (zz.1, 0))))
else none
theorem leB36_1 (fu : Nat) (t2_ : Int) (t5_ : T27) (x : T27) (zz : Int × Nat) : Le (HB36_1 fu t2_ t5_ x zz) (B36_1 t2_ t5_ x zz) := by
  unfold HB36_1 B36_1
  repeat' (with_reducible first | exact le_refl _ | apply le_ite | refine le_bind ?_ (fun _ => ?_))
noncomputable def HG36 (fu : Nat)  : St36 → Option Int := fun st => match st with | .p1 t2_ t5_ k => (HF81 fu (HB36_1 fu t2_ t5_) t5_ (k, 0) >>= fun r_4 => (if r_4.2 = 0 then (some r_4.1) else none))
theorem leG36 (fu : Nat) (st : St36) : Le (HG36 fu st) (G36 st) := by
  unfold HG36 G36
  cases st <;> dsimp only <;> (repeat' (with_reducible first | exact leF81 fu _ _ _ _ (fun _ _ => by first | exact leB36_1 fu _ _ _ _) | exact leB36_1 fu _ _ _ _ | exact le_refl _ | apply le_ite | refine le_bind ?_ (fun _ => ?_)))
noncomputable def HF36 (fu : Nat) (n : T27) : Option Int := (HF53 fu n >>= fun r_2 => (HG36 fu (.p1 0 r_2 0)))
theorem leF36 (fu : Nat) (n : T27) : Le (HF36 fu n) (F36 n) := by
  unfold HF36 F36
  repeat' (with_reducible first | exact leF53 fu _ | exact leG36 fu _ | exact le_refl _ | apply le_ite | refine le_bind ?_ (fun _ => ?_))
noncomputable def HF70 (fu : Nat) (x_ : Int) (q0_ : Int) : Option Int := (some (if 16385 < (IntKind.wrap .i64 (q0_ + x_)) then 16385 else (IntKind.wrap .i64 (q0_ + x_))))
theorem leF70 (fu : Nat) (x_ : Int) (q0_ : Int) : Le (HF70 fu x_ q0_) (F70 x_ q0_) := by
  unfold HF70 F70
  repeat' (with_reducible first | exact le_refl _ | apply le_ite | refine le_bind ?_ (fun _ => ?_))
noncomputable def SG51 (fu : Nat)  (ih : St51 → Option Int) : St51 → Option Int := fun st => match st with | .e n => (if (n.Kind == 1) = true then (some 0) else (if (n.Kind == 3) = true then (ih (.p1 n 0)) else (if (n.Kind == 4) = true then (ih (.p1 n 0)) else (if (n.Kind == 6) = true then (ih (.p1 n 0)) else (if (n.Kind == 5) = true then (ix (ls n.Kids) 0 >>= fun v_7 => (ih (.e v_7) >>= fun r_9 => (ix (ls n.Kids) 0 >>= fun v_11 => (HF71 fu v_11 >>= fun r_13 => (if (decide (r_13.1 > 0)) = true then (ih (.p2 n (if 16385 < (IntKind.wrap .i64 (r_9 + 1)) then 16385 else (IntKind.wrap .i64 (r_9 + 1))) 0)) else (ih (.p2 n r_9 0))))))) else (HF70 fu 1 0 >>= fun r_16 => (some r_16))))))) | .p1 n sum => (ih (.p3 n n.Kids ((ls n.Kids).length : Int) 0 sum)) | .p2 n round sum => (HF70 fu (IntKind.wrap .i64 (n.Min * round)) sum >>= fun r_18 => (if (n.Max == (-1)) = true then (HF70 fu (IntKind.wrap .i64 (round + 4)) r_18 >>= fun r_21 => (some r_21)) else (HF70 fu (IntKind.wrap .i64 ((IntKind.wrap .i64 (n.Max - n.Min)) * (IntKind.wrap .i64 (round + 3)))) r_18 >>= fun r_23 => (some r_23)))) | .p3 n t22_ t23_ t24_ sum => (if (decide (t24_ < t23_)) = true then (ix (ls t22_) t24_ >>= fun v_26 => (ih (.e v_26) >>= fun r_29 => (HF70 fu r_29 sum >>= fun r_31 => (ih (.p3 n t22_ t23_ (IntKind.wrap .i64 (t24_ + 1)) r_31))))) else (if (n.Kind == 4) = true then (HF70 fu (IntKind.wrap .i64 (2 * (IntKind.wrap .i64 (((ls n.Kids).length : Int) - 1)))) sum >>= fun r_34 => (ih (.p4 n r_34))) else (ih (.p4 n sum)))) | .p4 n sum => (if (n.Kind == 6) = true then (HF70 fu 2 sum >>= fun r_37 => (some r_37)) else (some sum))
noncomputable def HG51 (fu : Nat)  : St51 → Option Int := Nat.rec (motive := fun _ => St51 → Option Int) (fun _ => none) (fun fu ih => SG51 fu ih) fu
theorem HG51_s (fu : Nat)  (st : St51) : HG51 (fu + 1) st = SG51 fu (HG51 fu) st := rfl
theorem leG51 (fu : Nat) (st : St51) : Le (HG51 fu st) (G51 st) := by
  induction fu generalizing st with
  | zero => exact le_none _
  | succ fu ih =>
    cases st
    · rw [HG51_s, G51.eq_1]
      unfold SG51
      dsimp only
      generalize HG51 fu = hh at ih ⊢
      repeat' (with_reducible first | exact ih _ | exact leF71 fu _ | exact leF70 fu _ _ | exact le_refl _ | apply le_ite | refine le_bind ?_ (fun _ => ?_))
    · rw [HG51_s, G51.eq_2]
      unfold SG51
      dsimp only
      generalize HG51 fu = hh at ih ⊢
      repeat' (with_reducible first | exact ih _ | exact leF71 fu _ | exact leF70 fu _ _ | exact le_refl _ | apply le_ite | refine le_bind ?_ (fun _ => ?_))
    · rw [HG51_s, G51.eq_3]
      unfold SG51
      dsimp only
      generalize HG51 fu = hh at ih ⊢
      repeat' (with_reducible first | exact ih _ | exact leF71 fu _ | exact leF70 fu _ _ | exact le_refl _ | apply le_ite | refine le_bind ?_ (fun _ => ?_))
    · rw [HG51_s, G51.eq_4]
      unfold SG51
      dsimp only
      generalize HG51 fu = hh at ih ⊢
      repeat' (with_reducible first | exact ih _ | exact leF71 fu _ | exact leF70 fu _ _ | exact le_refl _ | apply le_ite | refine le_bind ?_ (fun _ => ?_))
    · rw [HG51_s, G51.eq_5]
      unfold SG51
      dsimp only
      generalize HG51 fu = hh at ih ⊢
      repeat' (with_reducible first | exact ih _ | exact leF71 fu _ | exact leF70 fu _ _ | exact le_refl _ | apply le_ite | refine le_bind ?_ (fun _ => ?_))
noncomputable def HF51 (fu : Nat) (n : T27) : Option Int := HG51 fu (.e n)
theorem leF51 (fu : Nat) (n : T27) : Le (HF51 fu n) (F51 n) := by
  unfold HF51 F51
  repeat' (with_reducible first | exact leG51 fu _ | exact le_refl _ | apply le_ite | refine le_bind ?_ (fun _ => ?_))
noncomputable def SG68 (fu : Nat)  (ih : St68 → Option (Bool × Int × Sl Bool)) : St68 → Option (Bool × Int × Sl Bool) := fun st => match st with | .e n q0_ q1_ q2_ => (if q0_ = true then (HF69 fu n >>= fun r_2 => (ih (.p1 n r_2 q1_ q2_))) else (ih (.p1 n false q1_ q2_))) | .p1 n q0_ q1_ q2_ => (if (!q0_) = true then (some (q0_, q1_, q2_)) else (if (n.Kind == 6) = true then (if (n.Group == (IntKind.wrap .i64 (q1_ + 1))) = true then (ih (.p2 n (decide ((IntKind.wrap .i64 (q1_ + 1)) ≤ 99)) (IntKind.wrap .i64 (q1_ + 1)) q2_)) else (ih (.p2 n false (IntKind.wrap .i64 (q1_ + 1)) q2_))) else (if (n.Kind == 7) = true then (if (decide (n.Group ≥ 1)) = true then (if (decide (n.Group ≤ 9)) = true then (if (decide (n.Group ≤ q1_)) = true then (ix (ls q2_) (IntKind.wrap .i64 (n.Group - 1)) >>= fun v_12 => (ih (.p3 n v_12 q1_ q2_))) else (ih (.p3 n false q1_ q2_))) else (ih (.p3 n false q1_ q2_))) else (ih (.p3 n false q1_ q2_))) else (ih (.p3 n q0_ q1_ q2_))))) | .p2 n q0_ q1_ q2_ => (if ((ls q2_).length + (ls (some ([false] : List Bool))).length) * 1 ≤ 140737488355328 then (ih (.p3 n q0_ q1_ (sapp q2_ (ls (some ([false] : List Bool)))))) else none) | .p3 n q0_ q1_ q2_ => (ih (.p4 n ((ls n.Kids).length : Int) 0 q0_ q1_ q2_)) | .p4 n t71_ t72_ q0_ q1_ q2_ => (if (decide (t72_ < t71_)) = true then (if q0_ = true then (ix (ls n.Kids) t72_ >>= fun v_20 => (ih (.e v_20 q0_ q1_ q2_) >>= fun r_22 => (ih (.p4 n t71_ (IntKind.wrap .i64 (t72_ + 1)) r_22.1 r_22.2.1 r_22.2.2)))) else (ih (.p4 n t71_ (IntKind.wrap .i64 (t72_ + 1)) q0_ q1_ q2_))) else (if q0_ = true then (if (n.Kind == 6) = true then (ix (ls q2_) (IntKind.wrap .i64 (n.Group - 1)) >>= fun v_27 => (some (q0_, q1_, (vset q2_ (IntKind.wrap .i64 (n.Group - 1)) true)))) else (some (q0_, q1_, q2_))) else (some (q0_, q1_, q2_))))
noncomputable def HG68 (fu : Nat)  : St68 → Option (Bool × Int × Sl Bool) := Nat.rec (motive := fun _ => St68 → Option (Bool × Int × Sl Bool)) (fun _ => none) (fun fu ih => SG68 fu ih) fu
theorem HG68_s (fu : Nat)  (st : St68) : HG68 (fu + 1) st = SG68 fu (HG68 fu) st := rfl
theorem leG68 (fu : Nat) (st : St68) : Le (HG68 fu st) (G68 st) := by
  induction fu generalizing st with
  | zero => exact le_none _
  | succ fu ih =>
    cases st
    · rw [HG68_s, G68.eq_1]
      unfold SG68
      dsimp only
      generalize HG68 fu = hh at ih ⊢
      repeat' (with_reducible first | exact ih _ | exact leF69 fu _ | exact le_refl _ | apply le_ite | refine le_bind ?_ (fun _ => ?_))
    · rw [HG68_s, G68.eq_2]
      unfold SG68
      dsimp only
      generalize HG68 fu = hh at ih ⊢
      repeat' (with_reducible first | exact ih _ | exact leF69 fu _ | exact le_refl _ | apply le_ite | refine le_bind ?_ (fun _ => ?_))
    · rw [HG68_s, G68.eq_3]
      unfold SG68
      dsimp only
      generalize HG68 fu = hh at ih ⊢
      repeat' (with_reducible first | exact ih _ | exact leF69 fu _ | exact le_refl _ | apply le_ite | refine le_bind ?_ (fun _ => ?_))
    · rw [HG68_s, G68.eq_4]
      unfold SG68
      dsimp only
      generalize HG68 fu = hh at ih ⊢
      repeat' (with_reducible first | exact ih _ | exact leF69 fu _ | exact le_refl _ | apply le_ite | refine le_bind ?_ (fun _ => ?_))
    · rw [HG68_s, G68.eq_5]
      unfold SG68
      dsimp only
      generalize HG68 fu = hh at ih ⊢
      repeat' (with_reducible first | exact ih _ | exact leF69 fu _ | exact le_refl _ | apply le_ite | refine le_bind ?_ (fun _ => ?_))
noncomputable def HF68 (fu : Nat) (n : T27) (q0_ : Bool) (q1_ : Int) (q2_ : Sl Bool) : Option (Bool × Int × Sl Bool) := HG68 fu (.e n q0_ q1_ q2_)
theorem leF68 (fu : Nat) (n : T27) (q0_ : Bool) (q1_ : Int) (q2_ : Sl Bool) : Le (HF68 fu n q0_ q1_ q2_) (F68 n q0_ q1_ q2_) := by
  unfold HF68 F68
  repeat' (with_reducible first | exact leG68 fu _ | exact le_refl _ | apply le_ite | refine le_bind ?_ (fun _ => ?_))
noncomputable def HB50_1 (fu : Nat) (n : T27) (t8_ : T27) (x : T27) (zz : Int × Int × Nat) : Option (Bool × (Int × Int × Nat)) := if zz.2.2 = 0 then (if (decide ((IntKind.wrap .i64 (zz.2.1 + 1)) > 8192)) = true then (some (false, (3, IntKind.wrap .i64 (zz.2.1 + 1), 1))) else (some (true, (zz.1, IntKind.wrap .i64 (zz.2.1 + 1), 0))))
else none
theorem leB50_1 (fu : Nat) (n : T27) (t8_ : T27) (x : T27) (zz : Int × Int × Nat) : Le (HB50_1 fu n t8_ x zz) (B50_1 n t8_ x zz) := by
  unfold HB50_1 B50_1
  repeat' (with_reducible first | exact le_refl _ | apply le_ite | refine le_bind ?_ (fun _ => ?_))
noncomputable def HG50 (fu : Nat)  : St50 → Option Int := fun st => match st with | .p1 n t8_ t2_ count => (HF81 fu (HB50_1 fu n t8_) t8_ (t2_, count, 0) >>= fun r_5 => (if r_5.2.2 = 0 then (HF68 fu n true 0 (none : Sl Bool) >>= fun r_12 => (if (!r_12.1) = true then (some 90) else (some 0))) else (if r_5.2.2 = 1 then (some r_5.1) else none)))
theorem leG50 (fu : Nat) (st : St50) : Le (HG50 fu st) (G50 st) := by
  unfold HG50 G50
  cases st <;> dsimp only <;> (repeat' (with_reducible first | exact leF81 fu _ _ _ _ (fun _ _ => by first | exact leB50_1 fu _ _ _ _) | exact leB50_1 fu _ _ _ _ | exact leF68 fu _ _ _ _ | exact le_refl _ | apply le_ite | refine le_bind ?_ (fun _ => ?_)))
noncomputable def HF50 (fu : Nat) (n : T27) : Option Int := (HF53 fu n >>= fun r_3 => (HG50 fu (.p1 n r_3 0 0)))
theorem leF50 (fu : Nat) (n : T27) : Le (HF50 fu n) (F50 n) := by
  unfold HF50 F50
  repeat' (with_reducible first | exact leF53 fu _ | exact leG50 fu _ | exact le_refl _ | apply le_ite | refine le_bind ?_ (fun _ => ?_))
noncomputable def HF35 (fu : Nat) (c : T71) (x_ : T76) : Option (Int × T71) := (if ((ls c.code).length + (ls (some ([x_] : List T76))).length) * 72 ≤ 140737488355328 then (some (IntKind.wrap .i64 (((ls (sapp c.code (ls (some ([x_] : List T76))))).length : Int) - 1), ({ c with code := sapp c.code (ls (some ([x_] : List T76))) } : T71))) else none)
theorem leF35 (fu : Nat) (c : T71) (x_ : T76) : Le (HF35 fu c x_) (F35 c x_) := by
  unfold HF35 F35
  repeat' (with_reducible first | exact le_refl _ | apply le_ite | refine le_bind ?_ (fun _ => ?_))
noncomputable def HF33 (fu : Nat) (n : T27) : Option (Int × Int) := (HF50 fu n >>= fun r_1 => (if (r_1 != 0) = true then (some (0, r_1)) else (HF51 fu n >>= fun r_4 => (if (decide (r_4 < 16384)) = true then (some (IntKind.wrap .i64 (r_4 + 1), 0)) else (some (0, 3))))))
theorem leF33 (fu : Nat) (n : T27) : Le (HF33 fu n) (F33 n) := by
  unfold HF33 F33
  repeat' (with_reducible first | exact leF50 fu _ | exact leF51 fu _ | exact le_refl _ | apply le_ite | refine le_bind ?_ (fun _ => ?_))
noncomputable def HF52 (fu : Nat)  : Option Unit := (some ())
theorem leF52 (fu : Nat)  : Le (HF52 fu ) (F52 ) := by
  unfold HF52 F52
  repeat' (with_reducible first | exact le_refl _ | apply le_ite | refine le_bind ?_ (fun _ => ?_))
noncomputable def HF72 (fu : Nat) (c : T71) (n : T27) : Option T71 := (some c)
theorem leF72 (fu : Nat) (c : T71) (n : T27) : Le (HF72 fu c n) (F72 c n) := by
  unfold HF72 F72
  repeat' (with_reducible first | exact le_refl _ | apply le_ite | refine le_bind ?_ (fun _ => ?_))
noncomputable def HF73 (fu : Nat) (c : T71) (n : T27) : Option T71 := (HF35 fu c ({ Kind := 1, Set := n.Set, To := 0, Group := 0, Last := 0, Slot := 0 } : T76) >>= fun r_1 => (some r_1.2))
theorem leF73 (fu : Nat) (c : T71) (n : T27) : Le (HF73 fu c n) (F73 c n) := by
  unfold HF73 F73
  repeat' (with_reducible first | exact leF35 fu _ _ | exact le_refl _ | apply le_ite | refine le_bind ?_ (fun _ => ?_))
noncomputable def HF74 (fu : Nat) (c : T71) (n : T27) : Option T71 := (HF35 fu c ({ Kind := 10, Set := (Arr.rep 4 (0 : Int)), To := 0, Group := 0, Last := 0, Slot := 0 } : T76) >>= fun r_1 => (some r_1.2))
theorem leF74 (fu : Nat) (c : T71) (n : T27) : Le (HF74 fu c n) (F74 c n) := by
  unfold HF74 F74
  repeat' (with_reducible first | exact leF35 fu _ _ | exact le_refl _ | apply le_ite | refine le_bind ?_ (fun _ => ?_))
noncomputable def HF75 (fu : Nat) (c : T71) (n : T27) : Option T71 := (HF35 fu c ({ Kind := 11, Set := (Arr.rep 4 (0 : Int)), To := 0, Group := 0, Last := 0, Slot := 0 } : T76) >>= fun r_1 => (some r_1.2))
theorem leF75 (fu : Nat) (c : T71) (n : T27) : Le (HF75 fu c n) (F75 c n) := by
  unfold HF75 F75
  repeat' (with_reducible first | exact leF35 fu _ _ | exact le_refl _ | apply le_ite | refine le_bind ?_ (fun _ => ?_))
noncomputable def HF76 (fu : Nat) (c : T71) (n : T27) : Option T71 := (HF35 fu c ({ Kind := 9, Set := (Arr.rep 4 (0 : Int)), To := 0, Group := n.Group, Last := 0, Slot := 0 } : T76) >>= fun r_1 => (some r_1.2))
theorem leF76 (fu : Nat) (c : T71) (n : T27) : Le (HF76 fu c n) (F76 c n) := by
  unfold HF76 F76
  repeat' (with_reducible first | exact leF35 fu _ _ | exact le_refl _ | apply le_ite | refine le_bind ?_ (fun _ => ?_))
noncomputable def SG34r (fu : Nat)  (ih : St34r → Option T71) : St34r → Option T71 := fun st => match st with | .e34 c n => (HF52 fu >>= fun r_1 => (if n.Kind = 1 then (HF72 fu c n >>= fun r_28 => (some r_28)) else (if n.Kind = 2 then (HF73 fu c n >>= fun r_25 => (some r_25)) else (if n.Kind = 3 then (ih (.e77 c n) >>= fun r_22 => (some r_22)) else (if n.Kind = 4 then (ih (.e79 c n) >>= fun r_19 => (some r_19)) else (if n.Kind = 5 then (ih (.e80 c n) >>= fun r_16 => (some r_16)) else (if n.Kind = 6 then (ih (.e78 c n) >>= fun r_13 => (some r_13)) else (if n.Kind = 7 then (HF76 fu c n >>= fun r_10 => (some r_10)) else (if n.Kind = 8 then (HF74 fu c n >>= fun r_7 => (some r_7)) else (if n.Kind = 9 then (HF75 fu c n >>= fun r_4 => (some r_4)) else none)))))))))) | .e77 c n => (ih (.p77_1 n.Kids ((ls n.Kids).length : Int) 0 c)) | .p77_1 t7_ t8_ t9_ c => (if (decide (t9_ < t8_)) = true then (ix (ls t7_) t9_ >>= fun v_2 => (ih (.e34 c v_2) >>= fun r_5 => (ih (.p77_1 t7_ t8_ (IntKind.wrap .i64 (t9_ + 1)) r_5)))) else (some c)) | .e78 c n => (HF35 fu c ({ Kind := 4, Set := (Arr.rep 4 (0 : Int)), To := 0, Group := n.Group, Last := 0, Slot := 0 } : T76) >>= fun r_1 => (ix (ls n.Kids) 0 >>= fun v_3 => (ih (.e34 r_1.2 v_3) >>= fun r_5 => (HF35 fu r_5 ({ Kind := 5, Set := (Arr.rep 4 (0 : Int)), To := 0, Group := n.Group, Last := 0, Slot := 0 } : T76) >>= fun r_7 => (some r_7.2))))) | .e79 c n => (scut n.Kids 0 (IntKind.wrap .i64 (((ls n.Kids).length : Int) - 1)) >>= fun w_1 => (ih (.p79_1 n (IntKind.wrap .i64 (((ls n.Kids).length : Int) - 1)) w_1 ((ls w_1).length : Int) 0 c none))) | .p79_1 n last t18_ t19_ t20_ c out => (if (decide (t20_ < t19_)) = true then (ix (ls t18_) t20_ >>= fun v_5 => (HF35 fu c ({ Kind := 2, Set := (Arr.rep 4 (0 : Int)), To := 0, Group := 0, Last := 0, Slot := 0 } : T76) >>= fun r_8 => (ih (.e34 r_8.2 v_5) >>= fun r_10 => (HF35 fu r_10 ({ Kind := 3, Set := (Arr.rep 4 (0 : Int)), To := 0, Group := 0, Last := 0, Slot := 0 } : T76) >>= fun r_12 => (if ((ls out).length + (ls (some ([r_12.1] : List Int))).length) * 8 ≤ 140737488355328 then (ix (ls r_12.2.code) r_8.1 >>= fun v_18 => (ih (.p79_1 n last t18_ t19_ (IntKind.wrap .i64 (t20_ + 1)) ({ r_12.2 with code := (vset r_12.2.code r_8.1 ({ v_18 with To := ((ls r_12.2.code).length : Int) } : T76)) } : T71) (sapp out (ls (some ([r_12.1] : List Int))))))) else none))))) else (ix (ls n.Kids) last >>= fun v_20 => (ih (.e34 c v_20) >>= fun r_22 => (ih (.p79_2 out ((ls out).length : Int) 0 r_22))))) | .p79_2 t56_ t57_ t58_ c => (if (decide (t58_ < t57_)) = true then (ix (ls t56_) t58_ >>= fun v_25 => (ix (ls c.code) v_25 >>= fun v_28 => (ih (.p79_2 t56_ t57_ (IntKind.wrap .i64 (t58_ + 1)) ({ c with code := (vset c.code v_25 ({ v_28 with To := ((ls c.code).length : Int) } : T76)) } : T71))))) else (some c)) | .e80 c n => (ih (.p80_1 n n.Min 0 c)) | .p80_1 n t10_ t11_ c => (if (decide (t11_ < t10_)) = true then (ix (ls n.Kids) 0 >>= fun v_3 => (ih (.e93 c v_3 false) >>= fun r_5 => (if (((ls r_5.code).length : Int) == ((ls c.code).length : Int)) = true then (ih (.p80_2 n r_5)) else (ih (.p80_1 n t10_ (IntKind.wrap .i64 (t11_ + 1)) r_5))))) else (ih (.p80_2 n c))) | .p80_2 n c => (if (n.Max == (-1)) = true then (HF35 fu c ({ Kind := 2, Set := (Arr.rep 4 (0 : Int)), To := 0, Group := 0, Last := 0, Slot := 0 } : T76) >>= fun r_10 => (ix (ls n.Kids) 0 >>= fun v_12 => (ih (.e93 r_10.2 v_12 true) >>= fun r_14 => (HF35 fu r_14 ({ Kind := 3, Set := (Arr.rep 4 (0 : Int)), To := r_10.1, Group := 0, Last := 0, Slot := 0 } : T76) >>= fun r_16 => (ix (ls r_16.2.code) r_10.1 >>= fun v_19 => (some ({ r_16.2 with code := (vset r_16.2.code r_10.1 ({ v_19 with To := ((ls r_16.2.code).length : Int) } : T76)) } : T71))))))) else (ih (.p80_3 n (IntKind.wrap .i64 (n.Max - n.Min)) 0 c none))) | .p80_3 n t64_ t65_ c out => (if (decide (t65_ < t64_)) = true then (HF35 fu c ({ Kind := 2, Set := (Arr.rep 4 (0 : Int)), To := 0, Group := 0, Last := 0, Slot := 0 } : T76) >>= fun r_23 => (if ((ls out).length + (ls (some ([r_23.1] : List Int))).length) * 8 ≤ 140737488355328 then (ix (ls n.Kids) 0 >>= fun v_28 => (ih (.e93 r_23.2 v_28 true) >>= fun r_30 => (ih (.p80_3 n t64_ (IntKind.wrap .i64 (t65_ + 1)) r_30 (sapp out (ls (some ([r_23.1] : List Int)))))))) else none)) else (ih (.p80_4 out ((ls out).length : Int) 0 c))) | .p80_4 t80_ t81_ t82_ c => (if (decide (t82_ < t81_)) = true then (ix (ls t80_) t82_ >>= fun v_33 => (ix (ls c.code) v_33 >>= fun v_36 => (ih (.p80_4 t80_ t81_ (IntKind.wrap .i64 (t82_ + 1)) ({ c with code := (vset c.code v_33 ({ v_36 with To := ((ls c.code).length : Int) } : T76)) } : T71))))) else (some c)) | .e93 c n free => (if free = true then (HF35 fu c ({ Kind := 7, Set := (Arr.rep 4 (0 : Int)), To := 0, Group := 0, Last := 0, Slot := c.free } : T76) >>= fun r_3 => (ih (.p93_1 free n c.free ({ r_3.2 with free := IntKind.wrap .i64 (r_3.2.free + 1), slots := (if (IntKind.wrap .i64 (r_3.2.free + 1)) > r_3.2.slots then (IntKind.wrap .i64 (r_3.2.free + 1)) else r_3.2.slots) } : T71)))) else (ih (.p93_1 free n c.free c))) | .p93_1 free n slot c => (HF71 fu n >>= fun r_6 => (if (decide (r_6.1 > 0)) = true then (HF35 fu c ({ Kind := 6, Set := (Arr.rep 4 (0 : Int)), To := 0, Group := r_6.1, Last := r_6.2, Slot := 0 } : T76) >>= fun r_9 => (ih (.p93_2 free n slot r_9.2))) else (ih (.p93_2 free n slot c)))) | .p93_2 free n slot c => (ih (.e34 c n) >>= fun r_11 => (if free = true then (HF35 fu ({ r_11 with free := IntKind.wrap .i64 (r_11.free - 1) } : T71) ({ Kind := 8, Set := (Arr.rep 4 (0 : Int)), To := 0, Group := 0, Last := 0, Slot := slot } : T76) >>= fun r_15 => (some r_15.2)) else (some r_11)))
noncomputable def HG34r (fu : Nat)  : St34r → Option T71 := Nat.rec (motive := fun _ => St34r → Option T71) (fun _ => none) (fun fu ih => SG34r fu ih) fu
theorem HG34r_s (fu : Nat)  (st : St34r) : HG34r (fu + 1) st = SG34r fu (HG34r fu) st := rfl
theorem leG34r (fu : Nat) (st : St34r) : Le (HG34r fu st) (G34r st) := by
  induction fu generalizing st with
  | zero => exact le_none _
  | succ fu ih =>
    cases st
    · rw [HG34r_s, G34r.eq_1]
      unfold SG34r
      dsimp only
      generalize HG34r fu = hh at ih ⊢
      repeat' (with_reducible first | exact ih _ | exact leF52 fu | exact leF72 fu _ _ | exact leF73 fu _ _ | exact leF76 fu _ _ | exact leF74 fu _ _ | exact leF75 fu _ _ | exact leF35 fu _ _ | exact leF71 fu _ | exact le_refl _ | apply le_ite | refine le_bind ?_ (fun _ => ?_))
    · rw [HG34r_s, G34r.eq_2]
      unfold SG34r
      dsimp only
      generalize HG34r fu = hh at ih ⊢
      repeat' (with_reducible first | exact ih _ | exact leF52 fu | exact leF72 fu _ _ | exact leF73 fu _ _ | exact leF76 fu _ _ | exact leF74 fu _ _ | exact leF75 fu _ _ | exact leF35 fu _ _ | exact leF71 fu _ | exact le_refl _ | apply le_ite | refine le_bind ?_ (fun _ => ?_))
    · rw [HG34r_s, G34r.eq_3]
      unfold SG34r
      dsimp only
      generalize HG34r fu = hh at ih ⊢
      repeat' (with_reducible first | exact ih _ | exact leF52 fu | exact leF72 fu _ _ | exact leF73 fu _ _ | exact leF76 fu _ _ | exact leF74 fu _ _ | exact leF75 fu _ _ | exact leF35 fu _ _ | exact leF71 fu _ | exact le_refl _ | apply le_ite | refine le_bind ?_ (fun _ => ?_))
    · rw [HG34r_s, G34r.eq_4]
      unfold SG34r
      dsimp only
      generalize HG34r fu = hh at ih ⊢
      repeat' (with_reducible first | exact ih _ | exact leF52 fu | exact leF72 fu _ _ | exact leF73 fu _ _ | exact leF76 fu _ _ | exact leF74 fu _ _ | exact leF75 fu _ _ | exact leF35 fu _ _ | exact leF71 fu _ | exact le_refl _ | apply le_ite | refine le_bind ?_ (fun _ => ?_))
    · rw [HG34r_s, G34r.eq_5]
      unfold SG34r
      dsimp only
      generalize HG34r fu = hh at ih ⊢
      repeat' (with_reducible first | exact ih _ | exact leF52 fu | exact leF72 fu _ _ | exact leF73 fu _ _ | exact leF76 fu _ _ | exact leF74 fu _ _ | exact leF75 fu _ _ | exact leF35 fu _ _ | exact leF71 fu _ | exact le_refl _ | apply le_ite | refine le_bind ?_ (fun _ => ?_))
    · rw [HG34r_s, G34r.eq_6]
      unfold SG34r
      dsimp only
      generalize HG34r fu = hh at ih ⊢
      repeat' (with_reducible first | exact ih _ | exact leF52 fu | exact leF72 fu _ _ | exact leF73 fu _ _ | exact leF76 fu _ _ | exact leF74 fu _ _ | exact leF75 fu _ _ | exact leF35 fu _ _ | exact leF71 fu _ | exact le_refl _ | apply le_ite | refine le_bind ?_ (fun _ => ?_))
    · rw [HG34r_s, G34r.eq_7]
      unfold SG34r
      dsimp only
      generalize HG34r fu = hh at ih ⊢
      repeat' (with_reducible first | exact ih _ | exact leF52 fu | exact leF72 fu _ _ | exact leF73 fu _ _ | exact leF76 fu _ _ | exact leF74 fu _ _ | exact leF75 fu _ _ | exact leF35 fu _ _ | exact leF71 fu _ | exact le_refl _ | apply le_ite | refine le_bind ?_ (fun _ => ?_))
    · rw [HG34r_s, G34r.eq_8]
      unfold SG34r
      dsimp only
      generalize HG34r fu = hh at ih ⊢
      repeat' (with_reducible first | exact ih _ | exact leF52 fu | exact leF72 fu _ _ | exact leF73 fu _ _ | exact leF76 fu _ _ | exact leF74 fu _ _ | exact leF75 fu _ _ | exact leF35 fu _ _ | exact leF71 fu _ | exact le_refl _ | apply le_ite | refine le_bind ?_ (fun _ => ?_))
    · rw [HG34r_s, G34r.eq_9]
      unfold SG34r
      dsimp only
      generalize HG34r fu = hh at ih ⊢
      repeat' (with_reducible first | exact ih _ | exact leF52 fu | exact leF72 fu _ _ | exact leF73 fu _ _ | exact leF76 fu _ _ | exact leF74 fu _ _ | exact leF75 fu _ _ | exact leF35 fu _ _ | exact leF71 fu _ | exact le_refl _ | apply le_ite | refine le_bind ?_ (fun _ => ?_))
    · rw [HG34r_s, G34r.eq_10]
      unfold SG34r
      dsimp only
      generalize HG34r fu = hh at ih ⊢
      repeat' (with_reducible first | exact ih _ | exact leF52 fu | exact leF72 fu _ _ | exact leF73 fu _ _ | exact leF76 fu _ _ | exact leF74 fu _ _ | exact leF75 fu _ _ | exact leF35 fu _ _ | exact leF71 fu _ | exact le_refl _ | apply le_ite | refine le_bind ?_ (fun _ => ?_))
    · rw [HG34r_s, G34r.eq_11]
      unfold SG34r
      dsimp only
      generalize HG34r fu = hh at ih ⊢
      repeat' (with_reducible first | exact ih _ | exact leF52 fu | exact leF72 fu _ _ | exact leF73 fu _ _ | exact leF76 fu _ _ | exact leF74 fu _ _ | exact leF75 fu _ _ | exact leF35 fu _ _ | exact leF71 fu _ | exact le_refl _ | apply le_ite | refine le_bind ?_ (fun _ => ?_))
    · rw [HG34r_s, G34r.eq_12]
      unfold SG34r
      dsimp only
      generalize HG34r fu = hh at ih ⊢
      repeat' (with_reducible first | exact ih _ | exact leF52 fu | exact leF72 fu _ _ | exact leF73 fu _ _ | exact leF76 fu _ _ | exact leF74 fu _ _ | exact leF75 fu _ _ | exact leF35 fu _ _ | exact leF71 fu _ | exact le_refl _ | apply le_ite | refine le_bind ?_ (fun _ => ?_))
    · rw [HG34r_s, G34r.eq_13]
      unfold SG34r
      dsimp only
      generalize HG34r fu = hh at ih ⊢
      repeat' (with_reducible first | exact ih _ | exact leF52 fu | exact leF72 fu _ _ | exact leF73 fu _ _ | exact leF76 fu _ _ | exact leF74 fu _ _ | exact leF75 fu _ _ | exact leF35 fu _ _ | exact leF71 fu _ | exact le_refl _ | apply le_ite | refine le_bind ?_ (fun _ => ?_))
    · rw [HG34r_s, G34r.eq_14]
      unfold SG34r
      dsimp only
      generalize HG34r fu = hh at ih ⊢
      repeat' (with_reducible first | exact ih _ | exact leF52 fu | exact leF72 fu _ _ | exact leF73 fu _ _ | exact leF76 fu _ _ | exact leF74 fu _ _ | exact leF75 fu _ _ | exact leF35 fu _ _ | exact leF71 fu _ | exact le_refl _ | apply le_ite | refine le_bind ?_ (fun _ => ?_))
    · rw [HG34r_s, G34r.eq_15]
      unfold SG34r
      dsimp only
      generalize HG34r fu = hh at ih ⊢
      repeat' (with_reducible first | exact ih _ | exact leF52 fu | exact leF72 fu _ _ | exact leF73 fu _ _ | exact leF76 fu _ _ | exact leF74 fu _ _ | exact leF75 fu _ _ | exact leF35 fu _ _ | exact leF71 fu _ | exact le_refl _ | apply le_ite | refine le_bind ?_ (fun _ => ?_))
noncomputable def HF34 (fu : Nat) (c : T71) (n : T27) : Option T71 := HG34r fu (.e34 c n)
theorem leF34 (fu : Nat) (c : T71) (n : T27) : Le (HF34 fu c n) (F34 c n) := by
  unfold HF34 F34
  repeat' (with_reducible first | exact leG34r fu _ | exact le_refl _ | apply le_ite | refine le_bind ?_ (fun _ => ?_))
noncomputable def HF19 (fu : Nat) (n : T27) : Option (T45 × Int) := (HF33 fu n >>= fun r_2 => (if (r_2.2 != 0) = true then (some (({ Groups := 0, Slots := 0, Code := none } : T45), r_2.2)) else (HF34 fu ({ code := (none : Sl T76), slots := 0, free := 0 } : T71) n >>= fun r_7 => (HF35 fu r_7 ({ Kind := 12, Set := (Arr.rep 4 (0 : Int)), To := 0, Group := 0, Last := 0, Slot := 0 } : T76) >>= fun r_9 => (HF36 fu n >>= fun r_12 => (some (({ Groups := r_12, Slots := r_9.2.slots, Code := r_9.2.code } : T45), 0)))))))
theorem leF19 (fu : Nat) (n : T27) : Le (HF19 fu n) (F19 n) := by
  unfold HF19 F19
  repeat' (with_reducible first | exact leF33 fu _ | exact leF34 fu _ _ | exact leF35 fu _ _ | exact leF36 fu _ | exact le_refl _ | apply le_ite | refine le_bind ?_ (fun _ => ?_))
noncomputable def HF57 (fu : Nat) (s : Arr 4 Int) (c : Int) : Option Bool := (if (0 : Int) ≤ (IntKind.wrap .u8 (Int.tdiv c 64)) ∧ (IntKind.wrap .u8 (Int.tdiv c 64)) < (4 : Int) then (ix s.l (IntKind.wrap .u8 (Int.tdiv c 64)) >>= fun v_2 => (if 0 ≤ (Int.tmod c 64) then (some ((andI .u64 (shrI .u64 v_2 (Int.tmod c 64)) 1) == 1)) else none)) else none)
theorem leF57 (fu : Nat) (s : Arr 4 Int) (c : Int) : Le (HF57 fu s c) (F57 s c) := by
  unfold HF57 F57
  repeat' (with_reducible first | exact le_refl _ | apply le_ite | refine le_bind ?_ (fun _ => ?_))
noncomputable def HB48_1 (fu : Nat) (t4_ : T27) (x : T27) (zz : Bool × Nat) : Option (Bool × (Bool × Nat)) := if zz.2 = 0 then (if (x.Kind == 7) = true then (some (false, (true, 1))) else (some (true, (zz.1, 0))))
else none
theorem leB48_1 (fu : Nat) (t4_ : T27) (x : T27) (zz : Bool × Nat) : Le (HB48_1 fu t4_ x zz) (B48_1 t4_ x zz) := by
  unfold HB48_1 B48_1
  repeat' (with_reducible first | exact le_refl _ | apply le_ite | refine le_bind ?_ (fun _ => ?_))
noncomputable def HG48 (fu : Nat)  : St48 → Option Bool := fun st => match st with | .p1 t4_ t2_ => (HF81 fu (HB48_1 fu t4_) t4_ (t2_, 0) >>= fun r_4 => (if r_4.2 = 0 then (some false) else (if r_4.2 = 1 then (some r_4.1) else none)))
theorem leG48 (fu : Nat) (st : St48) : Le (HG48 fu st) (G48 st) := by
  unfold HG48 G48
  cases st <;> dsimp only <;> (repeat' (with_reducible first | exact leF81 fu _ _ _ _ (fun _ _ => by first | exact leB48_1 fu _ _ _) | exact leB48_1 fu _ _ _ | exact le_refl _ | apply le_ite | refine le_bind ?_ (fun _ => ?_)))
noncomputable def HF48 (fu : Nat) (n : T27) : Option Bool := (HF53 fu n >>= fun r_2 => (HG48 fu (.p1 r_2 false)))
theorem leF48 (fu : Nat) (n : T27) : Le (HF48 fu n) (F48 n) := by
  unfold HF48 F48
  repeat' (with_reducible first | exact leF53 fu _ | exact leG48 fu _ | exact le_refl _ | apply le_ite | refine le_bind ?_ (fun _ => ?_))
noncomputable def SG49 (fu : Nat)  (ih : St49 → Option Bool) : St49 → Option Bool := fun st => match st with | .e n => (if (n.Kind == 8) = true then (some true) else (if (n.Kind == 9) = true then (some true) else (ih (.p1 n.Kids ((ls n.Kids).length : Int) 0)))) | .p1 t14_ t15_ t16_ => (if (decide (t16_ < t15_)) = true then (ix (ls t14_) t16_ >>= fun v_4 => (ih (.e v_4) >>= fun r_7 => (if r_7 = true then (some true) else (ih (.p1 t14_ t15_ (IntKind.wrap .i64 (t16_ + 1))))))) else (some false))
noncomputable def HG49 (fu : Nat)  : St49 → Option Bool := Nat.rec (motive := fun _ => St49 → Option Bool) (fun _ => none) (fun fu ih => SG49 fu ih) fu
theorem HG49_s (fu : Nat)  (st : St49) : HG49 (fu + 1) st = SG49 fu (HG49 fu) st := rfl
theorem leG49 (fu : Nat) (st : St49) : Le (HG49 fu st) (G49 st) := by
  induction fu generalizing st with
  | zero => exact le_none _
  | succ fu ih =>
    cases st
    · rw [HG49_s, G49.eq_1]
      unfold SG49
      dsimp only
      generalize HG49 fu = hh at ih ⊢
      repeat' (with_reducible first | exact ih _ | exact le_refl _ | apply le_ite | refine le_bind ?_ (fun _ => ?_))
    · rw [HG49_s, G49.eq_2]
      unfold SG49
      dsimp only
      generalize HG49 fu = hh at ih ⊢
      repeat' (with_reducible first | exact ih _ | exact le_refl _ | apply le_ite | refine le_bind ?_ (fun _ => ?_))
noncomputable def HF49 (fu : Nat) (n : T27) : Option Bool := HG49 fu (.e n)
theorem leF49 (fu : Nat) (n : T27) : Le (HF49 fu n) (F49 n) := by
  unfold HF49 F49
  repeat' (with_reducible first | exact leG49 fu _ | exact le_refl _ | apply le_ite | refine le_bind ?_ (fun _ => ?_))
noncomputable def HF32 (fu : Nat) (n : T27) : Option (T45 × Int) := (HF19 fu n >>= fun r_2 => (if (r_2.2 != 0) = true then (some (({ Groups := 0, Slots := 0, Code := none } : T45), r_2.2)) else (HF48 fu n >>= fun r_6 => (if r_6 = true then (some (({ Groups := 0, Slots := 0, Code := none } : T45), 101)) else (HF49 fu n >>= fun r_9 => (if r_9 = true then (some (({ Groups := 0, Slots := 0, Code := none } : T45), 120)) else (some (r_2.1, 0))))))))
theorem leF32 (fu : Nat) (n : T27) : Le (HF32 fu n) (F32 n) := by
  unfold HF32 F32
  repeat' (with_reducible first | exact leF19 fu _ | exact leF48 fu _ | exact leF49 fu _ | exact le_refl _ | apply le_ite | refine le_bind ?_ (fun _ => ?_))
noncomputable def HF63 (fu : Nat) (b : Bool) : Option Int := (if b = true then (some 1) else (some 0))
theorem leF63 (fu : Nat) (b : Bool) : Le (HF63 fu b) (F63 b) := by
  unfold HF63 F63
  repeat' (with_reducible first | exact le_refl _ | apply le_ite | refine le_bind ?_ (fun _ => ?_))
noncomputable def HF58 (fu : Nat) (i : Int) (q0_ : Sl Bool) (q1_ : Sl Int) : Option (Sl Bool × Sl Int) := (ix (ls q0_) i >>= fun v_2 => (if (!v_2) = true then (ix (ls q0_) i >>= fun v_5 => (if ((ls q1_).length + (ls (some ([i] : List Int))).length) * 8 ≤ 140737488355328 then (some ((vset q0_ i true), sapp q1_ (ls (some ([i] : List Int))))) else none)) else (some (q0_, q1_))))
theorem leF58 (fu : Nat) (i : Int) (q0_ : Sl Bool) (q1_ : Sl Int) : Le (HF58 fu i q0_ q1_) (F58 i q0_ q1_) := by
  unfold HF58 F58
  repeat' (with_reducible first | exact le_refl _ | apply le_ite | refine le_bind ?_ (fun _ => ?_))
noncomputable def SG41 (fu : Nat)  (ih : St41 → Option (Sl Int)) : St41 → Option (Sl Int) := fun st => match st with | .p1 p t20_ t21_ t22_ in_ todo => (if (decide (t22_ < t21_)) = true then (ix (ls t20_) t22_ >>= fun v_8 => (ix (ls in_) v_8 >>= fun v_11 => (ih (.p1 p t20_ t21_ (IntKind.wrap .i64 (t22_ + 1)) (vset in_ v_8 true) todo)))) else (ih (.p2 p 0 in_ todo))) | .p2 p k in_ todo => (if (decide (k < ((ls todo).length : Int))) = true then (ix (ls todo) k >>= fun v_17 => (ix (ls p.Code) v_17 >>= fun v_19 => (if (v_19.Kind == 1) = true then (ih (.p2 p (IntKind.wrap .i64 (k + 1)) in_ todo)) else (if (v_19.Kind == 12) = true then (ih (.p2 p (IntKind.wrap .i64 (k + 1)) in_ todo)) else (if (v_19.Kind == 2) = true then (ix (ls todo) k >>= fun v_25 => (HF58 fu (IntKind.wrap .i64 (v_25 + 1)) in_ todo >>= fun r_27 => (HF58 fu v_19.To r_27.1 r_27.2 >>= fun r_29 => (ih (.p2 p (IntKind.wrap .i64 (k + 1)) r_29.1 r_29.2))))) else (if (v_19.Kind == 3) = true then (HF58 fu v_19.To in_ todo >>= fun r_32 => (ih (.p2 p (IntKind.wrap .i64 (k + 1)) r_32.1 r_32.2))) else (ix (ls todo) k >>= fun v_34 => (HF58 fu (IntKind.wrap .i64 (v_34 + 1)) in_ todo >>= fun r_36 => (ih (.p2 p (IntKind.wrap .i64 (k + 1)) r_36.1 r_36.2)))))))))) else (ih (.p3 p in_ ((ls in_).length : Int) 0 none))) | .p3 p t76_ t77_ t78_ out => (if (decide (t78_ < t77_)) = true then (ix (ls t76_) t78_ >>= fun v_41 => (if v_41 = true then (ix (ls p.Code) t78_ >>= fun v_44 => (if (v_44.Kind == 1) = true then (ih (.p4 p t78_ t76_ t77_ t78_ out)) else (ix (ls p.Code) t78_ >>= fun v_47 => (if (v_47.Kind == 12) = true then (ih (.p4 p t78_ t76_ t77_ t78_ out)) else (ih (.p3 p t76_ t77_ (IntKind.wrap .i64 (t78_ + 1)) out)))))) else (ih (.p3 p t76_ t77_ (IntKind.wrap .i64 (t78_ + 1)) out)))) else (some out)) | .p4 p i t76_ t77_ t78_ out => (if ((ls out).length + (ls (some ([i] : List Int))).length) * 8 ≤ 140737488355328 then (ih (.p3 p t76_ t77_ (IntKind.wrap .i64 (t78_ + 1)) (sapp out (ls (some ([i] : List Int)))))) else none)
noncomputable def HG41 (fu : Nat)  : St41 → Option (Sl Int) := Nat.rec (motive := fun _ => St41 → Option (Sl Int)) (fun _ => none) (fun fu ih => SG41 fu ih) fu
theorem HG41_s (fu : Nat)  (st : St41) : HG41 (fu + 1) st = SG41 fu (HG41 fu) st := rfl
theorem leG41 (fu : Nat) (st : St41) : Le (HG41 fu st) (G41 st) := by
  induction fu generalizing st with
  | zero => exact le_none _
  | succ fu ih =>
    cases st
    · rw [HG41_s, G41.eq_1]
      unfold SG41
      dsimp only
      generalize HG41 fu = hh at ih ⊢
      repeat' (with_reducible first | exact ih _ | exact leF58 fu _ _ _ | exact le_refl _ | apply le_ite | refine le_bind ?_ (fun _ => ?_))
    · rw [HG41_s, G41.eq_2]
      unfold SG41
      dsimp only
      generalize HG41 fu = hh at ih ⊢
      repeat' (with_reducible first | exact ih _ | exact leF58 fu _ _ _ | exact le_refl _ | apply le_ite | refine le_bind ?_ (fun _ => ?_))
    · rw [HG41_s, G41.eq_3]
      unfold SG41
      dsimp only
      generalize HG41 fu = hh at ih ⊢
      repeat' (with_reducible first | exact ih _ | exact leF58 fu _ _ _ | exact le_refl _ | apply le_ite | refine le_bind ?_ (fun _ => ?_))
    · rw [HG41_s, G41.eq_4]
      unfold SG41
      dsimp only
      generalize HG41 fu = hh at ih ⊢
      repeat' (with_reducible first | exact ih _ | exact leF58 fu _ _ _ | exact le_refl _ | apply le_ite | refine le_bind ?_ (fun _ => ?_))
noncomputable def HF41 (fu : Nat) (p : T45) (from_ : Sl Int) : Option (Sl Int) := (if 0 ≤ ((ls p.Code).length : Int) ∧ ((ls p.Code).length : Int) = ((ls p.Code).length : Int) ∧ (1 : Int) * ((ls p.Code).length : Int) ≤ 281474976710656 then (HG41 fu (.p1 p from_ ((ls from_).length : Int) 0 (some (List.replicate (Int.toNat ((ls p.Code).length : Int)) (false : Bool))) from_)) else none)
theorem leF41 (fu : Nat) (p : T45) (from_ : Sl Int) : Le (HF41 fu p from_) (F41 p from_) := by
  unfold HF41 F41
  repeat' (with_reducible first | exact leG41 fu _ | exact le_refl _ | apply le_ite | refine le_bind ?_ (fun _ => ?_))
noncomputable def SG44 (fu : Nat)  (ih : St44 → Option (Sl Int)) : St44 → Option (Sl Int) := fun st => match st with | .p1 c p t11_ t12_ t13_ next => (if (decide (t13_ < t12_)) = true then (ix (ls t11_) t13_ >>= fun v_3 => (ix (ls p.Code) v_3 >>= fun v_5 => (if (v_5.Kind == 1) = true then (HF57 fu v_5.Set c >>= fun r_9 => (if r_9 = true then (if ((ls next).length + (ls (some ([IntKind.wrap .i64 (v_3 + 1)] : List Int))).length) * 8 ≤ 140737488355328 then (ih (.p1 c p t11_ t12_ (IntKind.wrap .i64 (t13_ + 1)) (sapp next (ls (some ([IntKind.wrap .i64 (v_3 + 1)] : List Int)))))) else none) else (ih (.p1 c p t11_ t12_ (IntKind.wrap .i64 (t13_ + 1)) next)))) else (ih (.p1 c p t11_ t12_ (IntKind.wrap .i64 (t13_ + 1)) next))))) else (HF41 fu p next >>= fun r_15 => (some r_15)))
noncomputable def HG44 (fu : Nat)  : St44 → Option (Sl Int) := Nat.rec (motive := fun _ => St44 → Option (Sl Int)) (fun _ => none) (fun fu ih => SG44 fu ih) fu
theorem HG44_s (fu : Nat)  (st : St44) : HG44 (fu + 1) st = SG44 fu (HG44 fu) st := rfl
theorem leG44 (fu : Nat) (st : St44) : Le (HG44 fu st) (G44 st) := by
  induction fu generalizing st with
  | zero => exact le_none _
  | succ fu ih =>
    cases st
    · rw [HG44_s, G44.eq_1]
      unfold SG44
      dsimp only
      generalize HG44 fu = hh at ih ⊢
      repeat' (with_reducible first | exact ih _ | exact leF57 fu _ _ | exact leF41 fu _ _ | exact le_refl _ | apply le_ite | refine le_bind ?_ (fun _ => ?_))
noncomputable def HF44 (fu : Nat) (p : T45) (l : Sl Int) (c : Int) : Option (Sl Int) := (HG44 fu (.p1 c p l ((ls l).length : Int) 0 none))
theorem leF44 (fu : Nat) (p : T45) (l : Sl Int) (c : Int) : Le (HF44 fu p l c) (F44 p l c) := by
  unfold HF44 F44
  repeat' (with_reducible first | exact leG44 fu _ | exact le_refl _ | apply le_ite | refine le_bind ?_ (fun _ => ?_))
noncomputable def HF40 (fu : Nat) (p : T45) (l : Sl Int) : Option Bool := (if (decide (((ls l).length : Int) > 0)) = true then (ix (ls l) (IntKind.wrap .i64 (((ls l).length : Int) - 1)) >>= fun v_2 => (some (v_2 == (IntKind.wrap .i64 (((ls p.Code).length : Int) - 1))))) else (some false))
theorem leF40 (fu : Nat) (p : T45) (l : Sl Int) : Le (HF40 fu p l) (F40 p l) := by
  unfold HF40 F40
  repeat' (with_reducible first | exact le_refl _ | apply le_ite | refine le_bind ?_ (fun _ => ?_))
noncomputable def SG42 (fu : Nat)  (ih : St42 → Option Str) : St42 → Option Str := fun st => match st with | .p1 x_ t9_ t10_ t11_ s => (if (decide (t11_ < t10_)) = true then (ix (ls t9_) t11_ >>= fun v_3 => (itoaF v_3 >>= fun r_5 => (bWS s r_5 >>= fun r_7 => (bWB r_7.2.2 32 >>= fun r_9 => (ih (.p1 x_ t9_ t10_ (IntKind.wrap .i64 (t11_ + 1)) r_9.2)))))) else (bWB s 47 >>= fun r_11 => (ih (.p2 x_.b ((ls x_.b).length : Int) 0 r_11.2)))) | .p2 t22_ t23_ t24_ s => (if (decide (t24_ < t23_)) = true then (ix (ls t22_) t24_ >>= fun v_14 => (itoaF v_14 >>= fun r_16 => (bWS s r_16 >>= fun r_18 => (bWB r_18.2.2 32 >>= fun r_20 => (ih (.p2 t22_ t23_ (IntKind.wrap .i64 (t24_ + 1)) r_20.2)))))) else (bST s >>= fun r_22 => (some r_22)))
noncomputable def HG42 (fu : Nat)  : St42 → Option Str := Nat.rec (motive := fun _ => St42 → Option Str) (fun _ => none) (fun fu ih => SG42 fu ih) fu
theorem HG42_s (fu : Nat)  (st : St42) : HG42 (fu + 1) st = SG42 fu (HG42 fu) st := rfl
theorem leG42 (fu : Nat) (st : St42) : Le (HG42 fu st) (G42 st) := by
  induction fu generalizing st with
  | zero => exact le_none _
  | succ fu ih =>
    cases st
    · rw [HG42_s, G42.eq_1]
      unfold SG42
      dsimp only
      generalize HG42 fu = hh at ih ⊢
      repeat' (with_reducible first | exact ih _ | exact le_refl _ | apply le_ite | refine le_bind ?_ (fun _ => ?_))
    · rw [HG42_s, G42.eq_2]
      unfold SG42
      dsimp only
      generalize HG42 fu = hh at ih ⊢
      repeat' (with_reducible first | exact ih _ | exact le_refl _ | apply le_ite | refine le_bind ?_ (fun _ => ?_))
noncomputable def HF42 (fu : Nat) (x_ : T80) : Option Str := (HG42 fu (.p1 x_ x_.a ((ls x_.a).length : Int) 0 ([] : Str)))
theorem leF42 (fu : Nat) (x_ : T80) : Le (HF42 fu x_) (F42 x_) := by
  unfold HF42 F42
  repeat' (with_reducible first | exact leG42 fu _ | exact le_refl _ | apply le_ite | refine le_bind ?_ (fun _ => ?_))
noncomputable def SG43 (fu : Nat)  (ih : St43 → Option (Sl Int)) : St43 → Option (Sl Int) := fun st => match st with | .p1 p q_ t14_ seen out => (if (decide (t14_ < 256)) = true then (ih (.p2 p q_ t14_ t14_ (some ([p.Code, q_.Code] : List (Sl T76))) ((ls (some ([p.Code, q_.Code] : List (Sl T76)))).length : Int) 0 seen out ([] : Str))) else (some out)) | .p2 p q_ c t14_ t21_ t22_ t23_ seen out s => (if (decide (t23_ < t22_)) = true then (ix (ls t21_) t23_ >>= fun v_7 => (ih (.p3 p q_ c t14_ t21_ t22_ t23_ v_7 ((ls v_7).length : Int) 0 seen out s))) else (bST s >>= fun r_9 => (if (!(Option.getD (Mp.get seen r_9) false)) = true then (bST s >>= fun r_12 => (some (Mp.put seen r_12 true) >>= fun m_15 => (if ((ls out).length + (ls (some ([IntKind.wrap .u8 c] : List Int))).length) * 1 ≤ 140737488355328 then (ih (.p1 p q_ (IntKind.wrap .i64 (t14_ + 1)) m_15 (sapp out (ls (some ([IntKind.wrap .u8 c] : List Int)))))) else none))) else (ih (.p1 p q_ (IntKind.wrap .i64 (t14_ + 1)) seen out))))) | .p3 p q_ c t14_ t21_ t22_ t23_ t27_ t28_ t29_ seen out s => (if (decide (t29_ < t28_)) = true then (ix (ls t27_) t29_ >>= fun v_21 => (if (v_21.Kind == 1) = true then (HF57 fu v_21.Set (IntKind.wrap .u8 c) >>= fun r_25 => (HF63 fu r_25 >>= fun r_27 => (ix ([48, 49] : Str) r_27 >>= fun b_29 => (bWB s (b_29.toNat : Int) >>= fun r_31 => (ih (.p3 p q_ c t14_ t21_ t22_ t23_ t27_ t28_ (IntKind.wrap .i64 (t29_ + 1)) seen out r_31.2)))))) else (ih (.p3 p q_ c t14_ t21_ t22_ t23_ t27_ t28_ (IntKind.wrap .i64 (t29_ + 1)) seen out s)))) else (ih (.p2 p q_ c t14_ t21_ t22_ (IntKind.wrap .i64 (t23_ + 1)) seen out s)))
noncomputable def HG43 (fu : Nat)  : St43 → Option (Sl Int) := Nat.rec (motive := fun _ => St43 → Option (Sl Int)) (fun _ => none) (fun fu ih => SG43 fu ih) fu
theorem HG43_s (fu : Nat)  (st : St43) : HG43 (fu + 1) st = SG43 fu (HG43 fu) st := rfl
theorem leG43 (fu : Nat) (st : St43) : Le (HG43 fu st) (G43 st) := by
  induction fu generalizing st with
  | zero => exact le_none _
  | succ fu ih =>
    cases st
    · rw [HG43_s, G43.eq_1]
      unfold SG43
      dsimp only
      generalize HG43 fu = hh at ih ⊢
      repeat' (with_reducible first | exact ih _ | exact leF57 fu _ _ | exact leF63 fu _ | exact le_refl _ | apply le_ite | refine le_bind ?_ (fun _ => ?_))
    · rw [HG43_s, G43.eq_2]
      unfold SG43
      dsimp only
      generalize HG43 fu = hh at ih ⊢
      repeat' (with_reducible first | exact ih _ | exact leF57 fu _ _ | exact leF63 fu _ | exact le_refl _ | apply le_ite | refine le_bind ?_ (fun _ => ?_))
    · rw [HG43_s, G43.eq_3]
      unfold SG43
      dsimp only
      generalize HG43 fu = hh at ih ⊢
      repeat' (with_reducible first | exact ih _ | exact leF57 fu _ _ | exact leF63 fu _ | exact le_refl _ | apply le_ite | refine le_bind ?_ (fun _ => ?_))
noncomputable def HF43 (fu : Nat) (p : T45) (q_ : T45) : Option (Sl Int) := (HG43 fu (.p1 p q_ 0 (Mp.empty : Mp Str Bool) none))
theorem leF43 (fu : Nat) (p : T45) (q_ : T45) : Le (HF43 fu p q_) (F43 p q_) := by
  unfold HF43 F43
  repeat' (with_reducible first | exact leG43 fu _ | exact le_refl _ | apply le_ite | refine le_bind ?_ (fun _ => ?_))
noncomputable def HF23 (fu : Nat) (x_ : Bool) (y : Bool) : Option Bool := (some (!(x_ == y)))
theorem leF23 (fu : Nat) (x_ : Bool) (y : Bool) : Le (HF23 fu x_ y) (F23 x_ y) := by
  unfold HF23 F23
  repeat' (with_reducible first | exact le_refl _ | apply le_ite | refine le_bind ?_ (fun _ => ?_))
noncomputable def HF31 (fu : Nat) (x_ : Bool) (y : Bool) : Option Bool := (if x_ = true then (some y) else (some false))
theorem leF31 (fu : Nat) (x_ : Bool) (y : Bool) : Le (HF31 fu x_ y) (F31 x_ y) := by
  unfold HF31 F31
  repeat' (with_reducible first | exact le_refl _ | apply le_ite | refine le_bind ?_ (fun _ => ?_))
noncomputable def HF39 (fu : Nat) (x_ : T80) (q0_ : T45) (q1_ : T45) : Option (Bool × T45 × T45) := (HF40 fu q0_ x_.a >>= fun r_1 => (HF40 fu q1_ x_.b >>= fun r_3 => (HF23 fu r_1 r_3 >>= fun r_5 => (some (r_5, q0_, q1_)))))
theorem leF39 (fu : Nat) (x_ : T80) (q0_ : T45) (q1_ : T45) : Le (HF39 fu x_ q0_ q1_) (F39 x_ q0_ q1_) := by
  unfold HF39 F39
  repeat' (with_reducible first | exact leF40 fu _ _ | exact leF23 fu _ _ | exact le_refl _ | apply le_ite | refine le_bind ?_ (fun _ => ?_))
noncomputable def SG22 (fu : Nat)  (ih : St22 → Option (Str × Bool × Int)) : St22 → Option (Str × Bool × Int) := fun st => match st with | .p1 bytes k p q_ seen l => (if (decide (k < ((ls l).length : Int))) = true then (ih (.p2 bytes k bytes ((ls bytes).length : Int) 0 p q_ seen l)) else (some (([] : Str), false, 0))) | .p2 bytes k t63_ t64_ t65_ p q_ seen l => (if (decide (t65_ < t64_)) = true then (ix (ls t63_) t65_ >>= fun v_34 => (ix (ls l) k >>= fun v_39 => (ix (ls l) k >>= fun v_41 => (ix (ls l) k >>= fun v_43 => (if (v_43.text).length + (toBs (ls (some ([v_34] : List Int)))).length ≤ 9223372036854775807 then (HF44 fu p v_39.a v_34 >>= fun r_48 => (HF44 fu q_ v_41.b v_34 >>= fun r_50 => (if (((ls r_48).length : Int) == 0) = true then (if (((ls r_50).length : Int) == 0) = true then (ih (.p2 bytes k t63_ t64_ (IntKind.wrap .i64 (t65_ + 1)) p q_ seen l)) else (HF42 fu ({ a := r_48, b := r_50, text := v_43.text ++ (toBs (ls (some ([v_34] : List Int)))) } : T80) >>= fun r_54 => (ih (.p3 bytes k t63_ t64_ t65_ (Option.getD (Mp.get seen r_54) false) p q_ seen l ({ a := r_48, b := r_50, text := v_43.text ++ (toBs (ls (some ([v_34] : List Int)))) } : T80))))) else (HF42 fu ({ a := r_48, b := r_50, text := v_43.text ++ (toBs (ls (some ([v_34] : List Int)))) } : T80) >>= fun r_56 => (ih (.p3 bytes k t63_ t64_ t65_ (Option.getD (Mp.get seen r_56) false) p q_ seen l ({ a := r_48, b := r_50, text := v_43.text ++ (toBs (ls (some ([v_34] : List Int)))) } : T80))))))) else none))))) else (ih (.p1 bytes (IntKind.wrap .i64 (k + 1)) p q_ seen l))) | .p3 bytes k t63_ t64_ t65_ t110_ p q_ seen l x_ => (if t110_ = true then (ih (.p2 bytes k t63_ t64_ (IntKind.wrap .i64 (t65_ + 1)) p q_ seen l)) else (if (((ls l).length : Int) == 4096) = true then (some (([] : Str), false, 3)) else (HF39 fu x_ p q_ >>= fun r_60 => (if r_60.1 = true then (some (x_.text, true, 0)) else (HF42 fu x_ >>= fun r_63 => (some (Mp.put seen r_63 true) >>= fun m_66 => (if ((ls l).length + (ls (some ([x_] : List T80))).length) * 64 ≤ 140737488355328 then (ih (.p2 bytes k t63_ t64_ (IntKind.wrap .i64 (t65_ + 1)) r_60.2.1 r_60.2.2 m_66 (sapp l (ls (some ([x_] : List T80)))))) else none)))))))
noncomputable def HG22 (fu : Nat)  : St22 → Option (Str × Bool × Int) := Nat.rec (motive := fun _ => St22 → Option (Str × Bool × Int)) (fun _ => none) (fun fu ih => SG22 fu ih) fu
theorem HG22_s (fu : Nat)  (st : St22) : HG22 (fu + 1) st = SG22 fu (HG22 fu) st := rfl
theorem leG22 (fu : Nat) (st : St22) : Le (HG22 fu st) (G22 st) := by
  induction fu generalizing st with
  | zero => exact le_none _
  | succ fu ih =>
    cases st
    · rw [HG22_s, G22.eq_1]
      unfold SG22
      dsimp only
      generalize HG22 fu = hh at ih ⊢
      repeat' (with_reducible first | exact ih _ | exact leF44 fu _ _ _ | exact leF42 fu _ | exact leF39 fu _ _ _ | exact le_refl _ | apply le_ite | refine le_bind ?_ (fun _ => ?_))
    · rw [HG22_s, G22.eq_2]
      unfold SG22
      dsimp only
      generalize HG22 fu = hh at ih ⊢
      repeat' (with_reducible first | exact ih _ | exact leF44 fu _ _ _ | exact leF42 fu _ | exact leF39 fu _ _ _ | exact le_refl _ | apply le_ite | refine le_bind ?_ (fun _ => ?_))
    · rw [HG22_s, G22.eq_3]
      unfold SG22
      dsimp only
      generalize HG22 fu = hh at ih ⊢
      repeat' (with_reducible first | exact ih _ | exact leF44 fu _ _ _ | exact leF42 fu _ | exact leF39 fu _ _ _ | exact le_refl _ | apply le_ite | refine le_bind ?_ (fun _ => ?_))
noncomputable def HF22 (fu : Nat) (m : T27) (n : T27) : Option (Str × Bool × Int) := (HF32 fu m >>= fun r_1 => (if (r_1.2 != 0) = true then (some (([] : Str), false, r_1.2)) else (HF32 fu n >>= fun r_5 => (if (r_5.2 != 0) = true then (some (([] : Str), false, r_5.2)) else (HF41 fu r_1.1 (some ([0] : List Int)) >>= fun r_16 => (HF41 fu r_5.1 (some ([0] : List Int)) >>= fun r_18 => (HF39 fu ({ a := r_16, b := r_18, text := [] } : T80) r_1.1 r_5.1 >>= fun r_20 => (if r_20.1 = true then (some (([] : Str), true, 0)) else (HF42 fu ({ a := r_16, b := r_18, text := [] } : T80) >>= fun r_24 => (some (Mp.put (Mp.empty : Mp Str Bool) r_24 true) >>= fun m_27 => (HF43 fu r_20.2.1 r_20.2.2 >>= fun r_30 => (HG22 fu (.p1 r_30 0 r_20.2.1 r_20.2.2 m_27 (some ([({ a := r_16, b := r_18, text := [] } : T80)] : List T80)))))))))))))))
theorem leF22 (fu : Nat) (m : T27) (n : T27) : Le (HF22 fu m n) (F22 m n) := by
  unfold HF22 F22
  repeat' (with_reducible first | exact leF32 fu _ | exact leF41 fu _ _ | exact leF39 fu _ _ _ | exact leF42 fu _ | exact leF43 fu _ _ | exact leG22 fu _ | exact le_refl _ | apply le_ite | refine le_bind ?_ (fun _ => ?_))
noncomputable def HF13 (fu : Nat) (a : T27) (b : T27) : Option (Bool × Str × Int) := (HF22 fu a b >>= fun r_1 => (if (!r_1.2.1) = true then (some ((r_1.2.2 == 0), r_1.1, r_1.2.2)) else (some (false, r_1.1, r_1.2.2))))
theorem leF13 (fu : Nat) (a : T27) (b : T27) : Le (HF13 fu a b) (F13 a b) := by
  unfold HF13 F13
  repeat' (with_reducible first | exact leF22 fu _ _ | exact le_refl _ | apply le_ite | refine le_bind ?_ (fun _ => ?_))
noncomputable def HF39v3 (fu : Nat) (x_ : T80) (q0_ : T45) (q1_ : T45) : Option (Bool × T45 × T45) := (HF40 fu q0_ x_.a >>= fun r_1 => (HF40 fu q1_ x_.b >>= fun r_3 => (HF31 fu r_1 r_3 >>= fun r_5 => (some (r_5, q0_, q1_)))))
theorem leF39v3 (fu : Nat) (x_ : T80) (q0_ : T45) (q1_ : T45) : Le (HF39v3 fu x_ q0_ q1_) (F39v3 x_ q0_ q1_) := by
  unfold HF39v3 F39v3
  repeat' (with_reducible first | exact leF40 fu _ _ | exact leF31 fu _ _ | exact le_refl _ | apply le_ite | refine le_bind ?_ (fun _ => ?_))
noncomputable def SG22v3 (fu : Nat)  (ih : St22v3 → Option (Str × Bool × Int)) : St22v3 → Option (Str × Bool × Int) := fun st => match st with | .p1 bytes k p q_ seen l => (if (decide (k < ((ls l).length : Int))) = true then (ih (.p2 bytes k bytes ((ls bytes).length : Int) 0 p q_ seen l)) else (some (([] : Str), false, 0))) | .p2 bytes k t63_ t64_ t65_ p q_ seen l => (if (decide (t65_ < t64_)) = true then (ix (ls t63_) t65_ >>= fun v_34 => (ix (ls l) k >>= fun v_39 => (ix (ls l) k >>= fun v_41 => (ix (ls l) k >>= fun v_43 => (if (v_43.text).length + (toBs (ls (some ([v_34] : List Int)))).length ≤ 9223372036854775807 then (HF44 fu p v_39.a v_34 >>= fun r_48 => (HF44 fu q_ v_41.b v_34 >>= fun r_50 => (if (((ls r_48).length : Int) == 0) = true then (if (((ls r_50).length : Int) == 0) = true then (ih (.p2 bytes k t63_ t64_ (IntKind.wrap .i64 (t65_ + 1)) p q_ seen l)) else (HF42 fu ({ a := r_48, b := r_50, text := v_43.text ++ (toBs (ls (some ([v_34] : List Int)))) } : T80) >>= fun r_54 => (ih (.p3 bytes k t63_ t64_ t65_ (Option.getD (Mp.get seen r_54) false) p q_ seen l ({ a := r_48, b := r_50, text := v_43.text ++ (toBs (ls (some ([v_34] : List Int)))) } : T80))))) else (HF42 fu ({ a := r_48, b := r_50, text := v_43.text ++ (toBs (ls (some ([v_34] : List Int)))) } : T80) >>= fun r_56 => (ih (.p3 bytes k t63_ t64_ t65_ (Option.getD (Mp.get seen r_56) false) p q_ seen l ({ a := r_48, b := r_50, text := v_43.text ++ (toBs (ls (some ([v_34] : List Int)))) } : T80))))))) else none))))) else (ih (.p1 bytes (IntKind.wrap .i64 (k + 1)) p q_ seen l))) | .p3 bytes k t63_ t64_ t65_ t110_ p q_ seen l x_ => (if t110_ = true then (ih (.p2 bytes k t63_ t64_ (IntKind.wrap .i64 (t65_ + 1)) p q_ seen l)) else (if (((ls l).length : Int) == 4096) = true then (some (([] : Str), false, 3)) else (HF39v3 fu x_ p q_ >>= fun r_60 => (if r_60.1 = true then (some (x_.text, true, 0)) else (HF42 fu x_ >>= fun r_63 => (some (Mp.put seen r_63 true) >>= fun m_66 => (if ((ls l).length + (ls (some ([x_] : List T80))).length) * 64 ≤ 140737488355328 then (ih (.p2 bytes k t63_ t64_ (IntKind.wrap .i64 (t65_ + 1)) r_60.2.1 r_60.2.2 m_66 (sapp l (ls (some ([x_] : List T80)))))) else none)))))))
noncomputable def HG22v3 (fu : Nat)  : St22v3 → Option (Str × Bool × Int) := Nat.rec (motive := fun _ => St22v3 → Option (Str × Bool × Int)) (fun _ => none) (fun fu ih => SG22v3 fu ih) fu
theorem HG22v3_s (fu : Nat)  (st : St22v3) : HG22v3 (fu + 1) st = SG22v3 fu (HG22v3 fu) st := rfl
theorem leG22v3 (fu : Nat) (st : St22v3) : Le (HG22v3 fu st) (G22v3 st) := by
  induction fu generalizing st with
  | zero => exact le_none _
  | succ fu ih =>
    cases st
    · rw [HG22v3_s, G22v3.eq_1]
      unfold SG22v3
      dsimp only
      generalize HG22v3 fu = hh at ih ⊢
      repeat' (with_reducible first | exact ih _ | exact leF44 fu _ _ _ | exact leF42 fu _ | exact leF39v3 fu _ _ _ | exact le_refl _ | apply le_ite | refine le_bind ?_ (fun _ => ?_))
    · rw [HG22v3_s, G22v3.eq_2]
      unfold SG22v3
      dsimp only
      generalize HG22v3 fu = hh at ih ⊢
      repeat' (with_reducible first | exact ih _ | exact leF44 fu _ _ _ | exact leF42 fu _ | exact leF39v3 fu _ _ _ | exact le_refl _ | apply le_ite | refine le_bind ?_ (fun _ => ?_))
    · rw [HG22v3_s, G22v3.eq_3]
      unfold SG22v3
      dsimp only
      generalize HG22v3 fu = hh at ih ⊢
      repeat' (with_reducible first | exact ih _ | exact leF44 fu _ _ _ | exact leF42 fu _ | exact leF39v3 fu _ _ _ | exact le_refl _ | apply le_ite | refine le_bind ?_ (fun _ => ?_))
noncomputable def HF22v3 (fu : Nat) (m : T27) (n : T27) : Option (Str × Bool × Int) := (HF32 fu m >>= fun r_1 => (if (r_1.2 != 0) = true then (some (([] : Str), false, r_1.2)) else (HF32 fu n >>= fun r_5 => (if (r_5.2 != 0) = true then (some (([] : Str), false, r_5.2)) else (HF41 fu r_1.1 (some ([0] : List Int)) >>= fun r_16 => (HF41 fu r_5.1 (some ([0] : List Int)) >>= fun r_18 => (HF39v3 fu ({ a := r_16, b := r_18, text := [] } : T80) r_1.1 r_5.1 >>= fun r_20 => (if r_20.1 = true then (some (([] : Str), true, 0)) else (HF42 fu ({ a := r_16, b := r_18, text := [] } : T80) >>= fun r_24 => (some (Mp.put (Mp.empty : Mp Str Bool) r_24 true) >>= fun m_27 => (HF43 fu r_20.2.1 r_20.2.2 >>= fun r_30 => (HG22v3 fu (.p1 r_30 0 r_20.2.1 r_20.2.2 m_27 (some ([({ a := r_16, b := r_18, text := [] } : T80)] : List T80)))))))))))))))
theorem leF22v3 (fu : Nat) (m : T27) (n : T27) : Le (HF22v3 fu m n) (F22v3 m n) := by
  unfold HF22v3 F22v3
  repeat' (with_reducible first | exact leF32 fu _ | exact leF41 fu _ _ | exact leF39v3 fu _ _ _ | exact leF42 fu _ | exact leF43 fu _ _ | exact leG22v3 fu _ | exact le_refl _ | apply le_ite | refine le_bind ?_ (fun _ => ?_))
noncomputable def HF16 (fu : Nat) (a : T27) (b : T27) : Option (Str × Bool × Int) := (HF22v3 fu a b >>= fun r_1 => (some (r_1.1, r_1.2.1, r_1.2.2)))
theorem leF16 (fu : Nat) (a : T27) (b : T27) : Le (HF16 fu a b) (F16 a b) := by
  unfold HF16 F16
  repeat' (with_reducible first | exact leF22v3 fu _ _ | exact le_refl _ | apply le_ite | refine le_bind ?_ (fun _ => ?_))
noncomputable def HF17 (fu : Nat) (n : T27) : Option (Str × Bool × Int) := (HF16 fu n n >>= fun r_1 => (some (r_1.1, r_1.2.1, r_1.2.2)))
theorem leF17 (fu : Nat) (n : T27) : Le (HF17 fu n) (F17 n) := by
  unfold HF17 F17
  repeat' (with_reducible first | exact leF16 fu _ _ | exact le_refl _ | apply le_ite | refine le_bind ?_ (fun _ => ?_))
noncomputable def HF21 (fu : Nat) (c : Int) : Option T27 := (if 0 ≤ (Int.tmod c 64) then (if (0 : Int) ≤ (IntKind.wrap .u8 (Int.tdiv c 64)) ∧ (IntKind.wrap .u8 (Int.tdiv c 64)) < (4 : Int) then (some ({ Kind := 2, Set := (aset (Arr.rep 4 (0 : Int)) (IntKind.wrap .u8 (Int.tdiv c 64)) (shlI .u64 1 (Int.tmod c 64))), Min := 0, Max := 0, Group := 0, Kids := none } : T27)) else none) else none)
theorem leF21 (fu : Nat) (c : Int) : Le (HF21 fu c) (F21 c) := by
  unfold HF21 F21
  repeat' (with_reducible first | exact le_refl _ | apply le_ite | refine le_bind ?_ (fun _ => ?_))
noncomputable def HF7 (fu : Nat)  : Option Bool := (HF21 fu 97 >>= fun r_1 => (HF13 fu ({ Kind := 5, Set := (Arr.rep 4 (0 : Int)), Min := 0, Max := (-1), Group := 0, Kids := (some ([r_1] : List T27)) } : T27) ({ Kind := 5, Set := (Arr.rep 4 (0 : Int)), Min := 1, Max := (-1), Group := 0, Kids := (some ([r_1] : List T27)) } : T27) >>= fun r_6 => (HF21 fu 98 >>= fun r_11 => (HF21 fu 98 >>= fun r_16 => (HF13 fu ({ Kind := 4, Set := (Arr.rep 4 (0 : Int)), Min := 0, Max := 0, Group := 0, Kids := (some ([r_1, r_11] : List T27)) } : T27) ({ Kind := 4, Set := (Arr.rep 4 (0 : Int)), Min := 0, Max := 0, Group := 0, Kids := (some ([r_16, r_1] : List T27)) } : T27) >>= fun r_18 => (HF17 fu ({ Kind := 5, Set := (Arr.rep 4 (0 : Int)), Min := 1, Max := (-1), Group := 0, Kids := (some ([r_1] : List T27)) } : T27) >>= fun r_20 => (if (!r_6.1) = true then (if (r_6.2.1 == ([] : Str)) = true then (if (r_6.2.2 == 0) = true then (if r_18.1 = true then (if (r_18.2.1 == ([] : Str)) = true then (if (r_18.2.2 == 0) = true then (if r_20.2.1 = true then (if (r_20.1 == ([97] : Str)) = true then (some (r_20.2.2 == 0)) else (some false)) else (some false)) else (some false)) else (some false)) else (some false)) else (some false)) else (some false)) else (some false))))))))
theorem leF7 (fu : Nat)  : Le (HF7 fu ) (F7 ) := by
  unfold HF7 F7
  repeat' (with_reducible first | exact leF21 fu _ | exact leF13 fu _ _ | exact leF17 fu _ | exact le_refl _ | apply le_ite | refine le_bind ?_ (fun _ => ?_))
end Go.Proofs.YtcidnoghoifmmaaDoor
end
section
/-
  What each law begins with.
-/


set_option maxRecDepth 1000000
namespace Go.Proofs.YtcidnoghoifmmaaDoor
open Go AW
theorem f7 : F7 = some true := leF7 8000 true (by kernel_rfl)
end Go.Proofs.YtcidnoghoifmmaaDoor
end
section
/-
  DerivOrder, plain: to match no more than is an order: through a middle one.
-/




namespace Go.Proofs.YtcidnoghoifmmaaDoor
open Go AW
set_option linter.unusedVariables false
set_option linter.unusedSimpArgs false
set_option maxHeartbeats 4000000
theorem f15w (a b : T27) : ∃ x s why, F15 a b = some (x, s, why) ∧ (why = 0 → ∃ p q, F32 a = some p ∧ F32 b = some q ∧ (x = true ↔ ∀ w, hitv2 (ls p.1.Code) (ls q.1.Code) w = false)) := by
  obtain ⟨r, hr, p, q, hp, hq, -, -, h1, h2, h3⟩ := f22v2 a b
  unfold F15
  rw [hr, sm]
  by_cases e1 : p.2 = 0
  · by_cases e2 : q.2 = 0
    · rcases h3 e1 e2 with rfl | ⟨rfl, h4⟩ | ⟨w, rfl, h4⟩
      · exact ⟨_, _, _, rfl, fun h => by simp at h⟩
      · exact ⟨_, _, _, rfl, fun _ => ⟨p, q, hp, hq, fun _ => h4, fun _ => rfl⟩⟩
      · exact ⟨_, _, _, rfl, fun _ => ⟨p, q, hp, hq, fun h => by simp at h, fun h => by rw [h w] at h4; simp at h4⟩⟩
    · rw [h2 e1 e2]
      exact ⟨_, _, _, rfl, fun h => absurd h e2⟩
  · rw [h1 e1]
    exact ⟨_, _, _, rfl, fun h => absurd h e1⟩
theorem pureDerivOrder (a b c : T27) : F5 a b c = some true := by
  obtain ⟨x, s1, y1, hx, h1⟩ := f15w a b
  obtain ⟨y, s2, y2, hy, h2⟩ := f15w b c
  obtain ⟨z, s3, y3, hz, h3⟩ := f15w a c
  unfold F5
  rw [f7, sm, if_neg (by simp), hx, sm, hy, sm, hz, sm]
  simp only []
  by_cases e1 : y1 = 0
  · rw [nfi e1]
    by_cases e2 : y2 = 0
    · rw [nfi e2]
      by_cases e3 : y3 = 0
      · rw [nfi e3]
        cases x with
        | false => rfl
        | true =>
          cases y with
          | false => rfl
          | true =>
            obtain ⟨p, q, hp, hq, hi1⟩ := h1 e1
            obtain ⟨q', t, hq', ht, hi2⟩ := h2 e2
            obtain ⟨p', t', hp', ht', hi3⟩ := h3 e3
            rw [hq] at hq'; cases hq'
            rw [hp] at hp'; cases hp'
            rw [ht] at ht'; cases ht'
            have : z = true := hi3.2 fun w => by
              have k1 := hi1.1 rfl w
              have k2 := hi2.1 rfl w
              unfold hitv2 suv2 at k1 k2 ⊢
              cases hA : en (ls p.1.Code) (run (ls p.1.Code) w) with
              | false => rfl
              | true =>
                rw [hA] at k1
                cases hB : en (ls q.1.Code) (run (ls q.1.Code) w) with
                | false => rw [hB] at k1; simp at k1
                | true => rw [hB] at k2; simpa using k2
            rw [this]
            rfl
      · rw [nti e3]
    · rw [nti e2]
  · rw [nti e1]
theorem pureUDerivOrder (a0 a1 a2 : T27) (w0 : okr27 a0) (w1 : okr27 a1) (w2 : okr27 a2) (hb : bkr27 a0 + bkr27 a1 + bkr27 a2 ≤ 1048576) : F5 a0 a1 a2 = some true := pureDerivOrder a0 a1 a2
end Go.Proofs.YtcidnoghoifmmaaDoor
end
