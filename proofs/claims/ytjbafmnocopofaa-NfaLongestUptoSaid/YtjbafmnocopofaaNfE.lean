/-
  Nfa: Ends, Whole and Match.
-/
import Derived.Test.YtjbafmnocopofaaNfD
namespace Go.Proofs.Ytjbafmnocopofaa
open Go AW
set_option linter.unusedVariables false
set_option linter.unusedSimpArgs false
set_option maxHeartbeats 4000000
theorem nne {a b : Int} (h : a = b) : ¬ a ≠ b := fun k => k h
/-- The ends of the matches that begin at a place. -/
noncomputable def EN (p : T34) (s : Str) (i : Nat) : List Nat := (List.range' i (s.length + 1 - i)).filter (acc (ls p.Code) s i)
theorem f33' {p : T34} (hr : rp p = true) {s : Str} (hs : s.length ≤ 100000000) {i : Nat} (hi : i ≤ s.length) : F33 p s (i : Int) = some (so (ints (EN p s i))) := f33 hr hs hi
theorem en_mem {p : T34} {s : Str} {i j : Nat} (h : j ∈ EN p s i) : i ≤ j ∧ j ≤ s.length := by
  unfold EN at h
  rw [List.mem_filter, List.mem_range'_1] at h
  omega
theorem en_sorted (p : T34) (s : Str) (i : Nat) : (EN p s i).Pairwise (· < ·) := List.Pairwise.filter _ List.pairwise_lt_range'
theorem en_lt {p : T34} {s : Str} {i k a b : Nat} (h1 : (EN p s i)[k]? = some a) (h2 : (EN p s i)[k + 1]? = some b) : a < b := by
  have h := en_sorted p s i
  rw [List.getElem?_eq_some_iff] at h1 h2
  obtain ⟨k1, rfl⟩ := h1
  obtain ⟨k2, rfl⟩ := h2
  exact (List.pairwise_iff_getElem.1 h) k (k + 1) k1 k2 (by omega)
theorem en_len (p : T34) (s : Str) (i : Nat) : (EN p s i).length ≤ s.length + 1 := by
  have := List.length_filter_le (acc (ls p.Code) s i) (List.range' i (s.length + 1 - i))
  unfold EN
  simp at this
  omega
theorem flt_0 {p : T34} (h : flt p = 0) : rp p = true ∧ hb (ls p.Code) = false := by
  unfold flt at h
  split at h
  · rename_i h1
    split at h
    · simp at h
    · rename_i h2; exact ⟨h1, by simpa using h2⟩
  · simp at h
theorem f17 (p : T34) {s : Str} (hs : s.length ≤ 100000000) (fr : Int) : F17 p s fr = some (if flt p ≠ 0 then (none, flt p) else if fr < 0 ∨ (s.length : Int) < fr then (none, 2) else (so (ints (EN p s fr.toNat)), 0)) := by
  unfold F17
  rw [f32, sm]
  by_cases h : flt p = 0
  · rw [nfi h, if_neg (nne h)]
    by_cases h1 : fr < 0
    · rw [dti h1, if_pos (.inl h1)]
    · rw [dfi h1]
      by_cases h2 : (s.length : Int) < fr
      · rw [dti h2, if_pos (.inr h2)]
      · obtain ⟨n, rfl⟩ := nat_of (by omega : 0 ≤ fr)
        rw [dfi h2, if_neg (by omega), f33' (flt_0 h).1 hs (by omega), sm]; rfl
  · rw [nti h, if_pos h]
theorem mem_ints {l : List Nat} {n : Nat} : (n : Int) ∈ ints l ↔ n ∈ l := by
  unfold ints
  rw [List.mem_map]
  constructor
  · rintro ⟨m, h, e⟩
    have : m = n := by omega
    exact this ▸ h
  · exact fun h => ⟨n, h, rfl⟩
theorem g21 (t : T56) (l : List Int) (hl : l.length ≤ 1000000000) : ∀ (m k : Nat), m + k = l.length → G21 (.p1 t (so l) (l.length : Int) (k : Int)) = some (decide (t.To ∈ l.drop k), 0)
  | 0, k, h => by
    rw [G21.eq_1, dfi (by omega), List.drop_of_length_le (by omega)]; rfl
  | m + 1, k, h => by
    obtain ⟨x, hx⟩ := get_ex l (i := k) (by omega)
    rw [G21.eq_1, dti (by omega), ls_so, ixs hx, sm, drop_cons hx]
    by_cases e : x = t.To
    · rw [eti e]; simp [e]
    · rw [efi e, wn1 k (by omega), g21 t l hl m (k + 1) (by omega)]
      have e' : ¬ t.To = x := fun h => e h.symm
      simp [e']
theorem f21 (p : T34) {s : Str} (hs : s.length ≤ 100000000) (t : T56) : F21 p s t = some (if flt p ≠ 0 then (false, flt p) else if t.From < 0 ∨ t.To < t.From ∨ (s.length : Int) < t.To then (false, 2) else (decide (t.To ∈ ints (EN p s t.From.toNat)), 0)) := by
  unfold F21
  rw [f32, sm]
  by_cases h : flt p = 0
  · rw [nfi h, if_neg (nne h)]
    by_cases h1 : t.From < 0
    · rw [dti h1, if_pos (.inl h1)]
    rw [dfi h1]
    by_cases h2 : t.To < t.From
    · rw [dti h2, if_pos (.inr (.inl h2))]
    rw [dfi h2]
    by_cases h3 : t.To > (s.length : Int)
    · rw [dti h3, if_pos (.inr (.inr h3))]
    rw [dfi h3, if_neg (by omega)]
    obtain ⟨n, hn⟩ := nat_of (by omega : 0 ≤ t.From)
    have hl := en_len p s n
    rw [hn, f33' (flt_0 h).1 hs (by omega), sm, ls_so]
    have := g21 t (ints (EN p s n)) (by simp [ints]; omega) (ints (EN p s n)).length 0 (by omega)
    have this' : G21 (.p1 t (so (ints (EN p s n))) ((ints (EN p s n)).length : Int) 0) = some (decide (t.To ∈ (ints (EN p s n)).drop 0), 0) := this
    rw [this', List.drop_zero]; rfl
  · rw [nti h, if_pos h]
/-- What Match says. -/
def Mt (p : T34) (s : Str) (i : Nat) (r : T56 × Bool × Int) : Prop :=
  (r = ({ From := 0, To := 0 }, false, 0) ∧ ∀ j, i ≤ j → j ≤ s.length → EN p s j = []) ∨
  ∃ (j a : Nat) (l : List Nat), i ≤ j ∧ j ≤ s.length ∧ r = ({ From := (j : Int), To := (a : Int) }, true, 0) ∧ EN p s j = l ++ [a] ∧ ∀ j', i ≤ j' → j' < j → EN p s j' = []
theorem g23 {p : T34} (hr : rp p = true) {s : Str} (hs : s.length ≤ 100000000) (t6 : T56) : ∀ (m i : Nat), m + i = s.length + 1 → ∃ r, G23 (.p2 s p (i : Int) t6) = some r ∧ Mt p s i r
  | 0, i, h => by
    rw [G23.eq_2, dfi (by omega)]
    exact ⟨_, rfl, .inl ⟨rfl, fun j h1 h2 => by omega⟩⟩
  | m + 1, i, h => by
    have hl := en_len p s i
    rw [G23.eq_2, dti (by omega), f33' hr hs (by omega), sm, ls_so, wn1 i (by omega)]
    by_cases e : EN p s i = []
    · rw [dfi (by simp [ints, e])]
      obtain ⟨r, h1, h2⟩ := g23 hr hs t6 m (i + 1) (by omega)
      refine ⟨r, h1, ?_⟩
      rcases h2 with ⟨h2, h3⟩ | ⟨j, a, l, h2, h3, h4, h5, h6⟩
      · refine .inl ⟨h2, fun j k1 k2 => ?_⟩
        by_cases k : j = i
        · exact k ▸ e
        · exact h3 j (by omega) k2
      · refine .inr ⟨j, a, l, by omega, h3, h4, h5, fun j' k1 k2 => ?_⟩
        by_cases k : j' = i
        · exact k ▸ e
        · exact h6 j' (by omega) k2
    · have hp : 0 < (EN p s i).length := List.length_pos_iff.2 e
      obtain ⟨l, a, hla⟩ : ∃ l a, EN p s i = l ++ [a] := ⟨_, _, (List.dropLast_concat_getLast e).symm⟩
      rw [dti (by simp [ints]; omega), show (ints (EN p s i)).length = (EN p s i).length by simp [ints], wm1 _ (by omega) (by omega), ixs (c := (a : Int)) (by simp [ints, hla]), sm]
      exact ⟨_, rfl, .inr ⟨i, a, l, by omega, by omega, rfl, hla, fun j' k1 k2 => by omega⟩⟩
theorem f23 (p : T34) {s : Str} (hs : s.length ≤ 100000000) (fr : Int) : ∃ r, F23 p s fr = some r ∧
    ((flt p ≠ 0 ∧ r = ({ From := 0, To := 0 }, false, flt p)) ∨ (flt p = 0 ∧ (fr < 0 ∨ (s.length : Int) < fr) ∧ r = ({ From := 0, To := 0 }, false, 2)) ∨ (flt p = 0 ∧ 0 ≤ fr ∧ fr ≤ (s.length : Int) ∧ Mt p s fr.toNat r)) := by
  unfold F23
  rw [f32, sm]
  by_cases h : flt p = 0
  · rw [nfi h]
    by_cases h1 : fr < 0
    · rw [dti h1, G23.eq_1]; exact ⟨_, rfl, .inr (.inl ⟨h, .inl h1, rfl⟩)⟩
    rw [dfi h1]
    by_cases h2 : fr > (s.length : Int)
    · rw [dti h2, G23.eq_1]; exact ⟨_, rfl, .inr (.inl ⟨h, .inr h2, rfl⟩)⟩
    rw [dfi h2]
    obtain ⟨n, rfl⟩ := nat_of (by omega : 0 ≤ fr)
    obtain ⟨r, e, hr⟩ := g23 (flt_0 h).1 hs { From := 0, To := 0 } (s.length + 1 - n) n (by omega)
    exact ⟨r, e, .inr (.inr ⟨h, by omega, by omega, hr⟩)⟩
  · rw [nti h]; exact ⟨_, rfl, .inl ⟨h, rfl⟩⟩
end Go.Proofs.Ytjbafmnocopofaa
