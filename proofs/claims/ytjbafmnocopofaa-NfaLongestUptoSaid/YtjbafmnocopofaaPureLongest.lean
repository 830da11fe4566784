/-
  NfaLongest, plain: a match ends at the greatest of the places at which one that begins there may end; ahead of it none begins; whole is what ends there.
-/
import Derived.Test.YtjbafmnocopofaaNfE
import Derived.Test.YtjbafmnocopofaaFu2
import Derived.Test.YtjbafmnocopofaaRd
namespace Go.Proofs.Ytjbafmnocopofaa
open Go AW
set_option linter.unusedVariables false
set_option linter.unusedSimpArgs false
set_option maxHeartbeats 4000000
theorem g7_5 {p : T34} (hf : flt p = 0) {s : Str} (hs : s.length ≤ 100000000) (ok : Bool) (last : Int) {i : Nat} (hi : i ≤ s.length) (x : T56) : ∀ (m k : Nat), m + k = (EN p s i).length →
    G7 (.p5 s p ok last (i : Int) (so (ints (EN p s i))) (k : Int) x) = G7 (.p2 s p ok last ((i + 1 : Nat) : Int) x)
  | 0, k, h => by
    rw [G7.eq_5, dfi (by rw [ls_so]; simp [ints]; omega), wn1 i (by omega)]
  | m + 1, k, h => by
    have hl := en_len p s i
    obtain ⟨a, ha⟩ := get_ex (EN p s i) (i := k) (by omega)
    have hm := en_mem (List.mem_of_getElem? ha)
    have hix : ∀ (k a : Nat), (EN p s i)[k]? = some a → ix (ls (so (ints (EN p s i)))) (k : Int) = some (a : Int) := fun k a h => by rw [ls_so]; exact ixs (by simp [ints, h])
    rw [G7.eq_5, dti (by rw [ls_so]; simp [ints]; omega), hix k a ha, sm, f21 p hs, sm]
    rw [if_neg (nne hf), if_neg (show ¬ ((i : Int) < 0 ∨ (a : Int) < (i : Int) ∨ (s.length : Int) < (a : Int)) by omega)]
    have e1 : decide ((a : Int) ∈ ints (EN p s (i : Int).toNat)) = true := by
      rw [decide_eq_true_eq]
      exact mem_ints.2 (List.mem_of_getElem? ha)
    simp only [e1, bne_self_eq_false, Bool.false_eq_true, if_false, Bool.not_true]
    rw [wn1 k (by omega), g7_5 hf hs ok last hi x m (k + 1) (by omega)]
    cases k with
    | zero => rw [dfi (by simp)]
    | succ k =>
      obtain ⟨b, hb⟩ := get_ex (EN p s i) (i := k) (by omega)
      have := en_lt hb ha
      rw [dti (by omega), sm, wm1 (k + 1) (by omega) (by omega), Nat.add_sub_cancel, hix k b hb, sm, dfi (by omega)]
theorem g7_3 {p : T34} (hf : flt p = 0) {s : Str} (hs : s.length ≤ 100000000) (ok : Bool) (last : Int) {i : Nat} (hi : i ≤ s.length) (x : T56) :
    G7 (.p3 s p ok last (i : Int) (so (ints (EN p s i))) x) = G7 (.p2 s p ok last ((i + 1 : Nat) : Int) x) := by
  rw [G7.eq_3]
  exact g7_5 hf hs ok last hi x (EN p s i).length 0 (by omega)
theorem g7_2 {p : T34} (hf : flt p = 0) {s : Str} (hs : s.length ≤ 100000000) (ok : Bool) {last : Nat} (hl : last ≤ s.length) (x : T56) (hx : ok = true → ∃ (l : List Nat) (a : Nat), EN p s last = l ++ [a] ∧ x.To = (a : Int)) : ∀ (m i : Nat), m + i = last + 1 → (∀ j, i ≤ j → j < last → EN p s j = []) → (ok = false → EN p s last = []) →
    G7 (.p2 s p ok (last : Int) (i : Int) x) = some true
  | 0, i, h, h0, h1 => by
    rw [G7.eq_2, dfi (by omega)]
  | m + 1, i, h, h0, h1 => by
    have ih := g7_2 hf hs ok hl x hx m (i + 1) (by omega) (fun j a b => h0 j (by omega) b) h1
    have h3 := g7_3 hf hs ok (last : Int) (show i ≤ s.length by omega) x
    have hl' := en_len p s i
    rw [G7.eq_2, dti (by omega), f17 p hs, sm, if_neg (nne hf), if_neg (show ¬ ((i : Int) < 0 ∨ (s.length : Int) < (i : Int)) by omega)]
    simp only [bne_self_eq_false, Bool.false_eq_true, if_false, Int.toNat_natCast]
    have h4 : EN p s i = [] → G7 (.p4 s p ok (last : Int) (i : Int) (so (ints (EN p s i))) x) = some true := fun e => by
      rw [G7.eq_4, nfi (by rw [ls_so]; simp [ints, e]), h3, ih]
    cases ok with
    | false =>
      rw [if_neg (by simp)]
      apply h4
      by_cases e : i = last
      · exact e ▸ h1 rfl
      · exact h0 i (by omega) (by omega)
    | true =>
      rw [if_pos rfl]
      by_cases e : i = last
      · subst e
        obtain ⟨l, a, e1, e2⟩ := hx rfl
        have hlen : (ints (EN p s i)).length = (EN p s i).length := by simp [ints]
        have hpos : 1 ≤ (EN p s i).length := by rw [e1]; simp
        rw [eti rfl, dfi (by rw [ls_so, hlen]; omega), ls_so, hlen, wm1 _ (by omega) (by omega), ixs (c := (a : Int)) (by simp [ints, e1]), sm, nfi e2.symm, h3, ih]
      · rw [efi (by omega)]
        exact h4 (h0 i (by omega) (by omega))
theorem pureUNfaLongest (a0 : T34) (a1 : Str) (a2 : Int) (w0 : okr34 a0) (w2 : (Lit.int .i64 a2).wf = true) (hb : bkr34 a0 + bkS a1 + 1 ≤ 1048576) : F7 a0 a1 a2 = some true := by
  have hs : a1.length ≤ 100000000 := by unfold bkS at hb; omega
  unfold F7
  obtain ⟨r, e, hr⟩ := f23 a0 hs a2
  rw [f8, sm, if_neg (by simp), e, sm]
  rcases hr with ⟨hf, rfl⟩ | ⟨hf, hb, rfl⟩ | ⟨hf, h0, h1, hm⟩
  · rw [nti hf, f17 a0 hs, sm, if_pos hf, eti rfl]; rfl
  · rw [nti (by decide), f17 a0 hs, sm, if_neg (nne hf), if_pos hb]; rfl
  · obtain ⟨n, rfl⟩ := nat_of h0
    rw [Int.toNat_natCast] at hm
    rcases hm with ⟨rfl, hn⟩ | ⟨j, a, l, h2, h3, rfl, h5, h6⟩
    · rw [nfi rfl, if_neg (by simp), G7.eq_1]
      exact g7_2 hf hs false (Nat.le_refl _) _ (fun h => by cases h) (a1.length + 1 - n) n (by omega) (fun j k1 k2 => hn j k1 (by omega)) (fun _ => hn _ (by omega) (Nat.le_refl _))
    · have ha := en_mem (p := a0) (s := a1) (i := j) (j := a) (by rw [h5]; simp)
      rw [nfi rfl, if_pos rfl, dfi (by simp only; omega), dfi (by simp only; omega), dfi (by simp only; omega), G7.eq_1]
      exact g7_2 hf hs true h3 _ (fun _ => ⟨l, a, h5, rfl⟩) (j + 1 - n) n (by omega) h6 (fun h => by cases h)
end Go.Proofs.Ytjbafmnocopofaa
