/-
  Nfa: which programs are right, by the program and by the reference; which have back-references; the fault of a program.
-/
import Derived.Test.YtjbafmnocopofaaPlA
import Derived.Test.YtjbafmnocopofaaD3
namespace Go.Proofs.Ytjbafmnocopofaa
open Go AW
set_option linter.unusedVariables false
set_option linter.unusedSimpArgs false
set_option maxHeartbeats 4000000
/-- Is an instruction right, but for its being the last one? -/
def fit (p : T34) (x : T52) : Bool :=
  if x.Kind = 1 then decide (({ Kind := x.Kind, Set := x.Set, To := 0, Group := 0, Last := 0, Slot := 0 } : T52) = x)
  else if x.Kind = 2 ∨ x.Kind = 3 then decide (({ Kind := x.Kind, Set := Arr.rep 4 0, To := x.To, Group := 0, Last := 0, Slot := 0 } : T52) = x) && decide (0 ≤ x.To ∧ x.To < ((ls p.Code).length : Int))
  else if x.Kind = 4 ∨ x.Kind = 5 ∨ x.Kind = 9 then decide (({ Kind := x.Kind, Set := Arr.rep 4 0, To := 0, Group := x.Group, Last := 0, Slot := 0 } : T52) = x) && decide (1 ≤ x.Group ∧ x.Group ≤ p.Groups)
  else if x.Kind = 6 then decide (({ Kind := x.Kind, Set := Arr.rep 4 0, To := 0, Group := x.Group, Last := x.Last, Slot := 0 } : T52) = x) && decide (1 ≤ x.Group ∧ x.Group ≤ p.Groups ∧ x.Group ≤ x.Last ∧ x.Last ≤ p.Groups)
  else if x.Kind = 7 ∨ x.Kind = 8 then decide (({ Kind := x.Kind, Set := Arr.rep 4 0, To := 0, Group := 0, Last := 0, Slot := x.Slot } : T52) = x) && decide (0 ≤ x.Slot ∧ x.Slot < p.Slots)
  else if x.Kind = 10 ∨ x.Kind = 11 ∨ x.Kind = 12 then decide (({ Kind := x.Kind, Set := Arr.rep 4 0, To := 0, Group := 0, Last := 0, Slot := 0 } : T52) = x)
  else false
def fits (p : T34) : Nat → List T52 → Bool
  | _, [] => true
  | i, x :: l => (fit p x && ((x.Kind == 12) == decide (i + 1 = (ls p.Code).length))) && fits p (i + 1) l
/-- Is a program right? -/
def rp (p : T34) : Bool := decide (0 ≤ p.Groups ∧ p.Groups ≤ 99 ∧ 0 ≤ p.Slots ∧ p.Slots ≤ 16384 ∧ 1 ≤ (ls p.Code).length ∧ (ls p.Code).length ≤ 16384) && fits p 0 (ls p.Code)
theorem kinds (k : Int) : k = 1 ∨ k = 2 ∨ k = 3 ∨ k = 4 ∨ k = 5 ∨ k = 6 ∨ k = 7 ∨ k = 8 ∨ k = 9 ∨ k = 10 ∨ k = 11 ∨ k = 12 ∨ (k ≠ 1 ∧ k ≠ 2 ∧ k ≠ 3 ∧ k ≠ 4 ∧ k ≠ 5 ∧ k ≠ 6 ∧ k ≠ 7 ∧ k ≠ 8 ∧ k ≠ 9 ∧ k ≠ 10 ∧ k ≠ 11 ∧ k ≠ 12) := by omega
theorem bite {α : Type} (c : Bool) (x y : α) : (if (!c) = true then x else y) = if c = true then y else x := by cases c <;> rfl
theorem g11_2 (p : T34) (n i : Int) (ok : Bool) (t : Sl T52) (a b : Int) (x y : T52) : G11 (.p2 p n i ok t a b x y) = if (ok && decide (y = x) && ((x.Kind == 12) == (i == IntKind.wrap .i64 (n - 1)))) = true then G11 (.p1 p n t a (IntKind.wrap .i64 (b + 1))) else some false := by
  rw [G11.eq_2, bite, bite, bite]
  cases ok <;> cases decide (y = x) <;> cases ((x.Kind == 12) == (i == IntKind.wrap .i64 (n - 1))) <;> rfl
theorem dec_beq (i n : Nat) : ((i : Int) == (n : Int)) = decide (i = n) := by
  rw [Bool.eq_iff_iff, beq_iff_eq, decide_eq_true_eq]; omega
theorem g11_3 (p : T34) (n i : Int) (t : Sl T52) (a b : Int) (x y : T52) : G11 (.p3 p n i t a b x y) = G11 (.p2 p n i (decide (0 ≤ x.To ∧ x.To < n)) t a b x { y with To := x.To }) := by
  rw [G11.eq_3]
  by_cases h : 0 ≤ x.To
  · rw [dti h]; simp [h]
  · rw [dfi h]; simp [h]
theorem g11_4 (p : T34) (n i : Int) (t : Sl T52) (a b : Int) (x y : T52) : G11 (.p4 p n i t a b x y) = G11 (.p2 p n i (decide (1 ≤ x.Group ∧ x.Group ≤ p.Groups)) t a b x { y with Group := x.Group }) := by
  rw [G11.eq_4]
  by_cases h : 1 ≤ x.Group
  · rw [dti h]; simp [h]
  · rw [dfi h]; simp [h]
theorem g11_5 (p : T34) (n i : Int) (t : Sl T52) (a b : Int) (x y : T52) : G11 (.p5 p n i t a b x y) = G11 (.p2 p n i (decide (0 ≤ x.Slot ∧ x.Slot < p.Slots)) t a b x { y with Slot := x.Slot }) := by
  rw [G11.eq_5]
  by_cases h : 0 ≤ x.Slot
  · rw [dti h]; simp [h]
  · rw [dfi h]; simp [h]
theorem and3 {α : Type} {a b c : Bool} {x y : α} : (if (a && b && c) = true then x else y) = if (b && a && c) = true then x else y := by rw [Bool.and_comm a b]
theorem g11_1 (p : T34) (n : Nat) (hn : n < 100000) (hn1 : n = (ls p.Code).length) (i : Nat) (hi : i < n) (x : T52) (hx : (ls p.Code)[i]? = some x) :
    G11 (.p1 p (n : Int) p.Code (n : Int) (i : Int)) = if (fit p x && ((x.Kind == 12) == decide (i + 1 = n))) = true then G11 (.p1 p (n : Int) p.Code (n : Int) ((i + 1 : Nat) : Int)) else some false := by
  have e : ((i : Int) == IntKind.wrap .i64 ((n : Int) - 1)) = decide (i + 1 = n) := by
    rw [wi _ (by omega) (by omega), Bool.eq_iff_iff, beq_iff_eq, decide_eq_true_eq]; omega
  rw [G11.eq_1, dti (by omega), ixs hx, sm, ← wn1 i (by omega), ← e]
  subst hn1
  unfold fit
  simp only [g11_3, g11_4, g11_5, g11_2]
  rcases kinds x.Kind with h | h | h | h | h | h | h | h | h | h | h | h | h
  case inr.inr.inr.inr.inr.inl =>
    simp (config := {decide := true}) only [h, if_true, if_false, Bool.true_and, true_or, or_true, or_false, false_or]
    by_cases h1 : 1 ≤ x.Group
    · by_cases h2 : x.Group ≤ p.Groups
      · by_cases h3 : x.Group ≤ x.Last
        · rw [dti h1, dti h2, dti h3]; simp [h1, h2, h3, Bool.and_comm, Bool.and_assoc, Bool.and_left_comm]
        · rw [dti h1, dti h2, dfi h3]; simp [h1, h2, h3]
      · rw [dti h1, dfi h2]; simp [h1, h2]
    · rw [dfi h1]; simp [h1]
  all_goals first
    | (simp (config := {decide := true}) only [h, if_true, if_false, Bool.true_and, true_or, or_true, or_false, false_or]; done)
    | (simp (config := {decide := true}) only [h, if_true, if_false, Bool.true_and, true_or, or_true, or_false, false_or]; rw [and3]; done)
    | (obtain ⟨a1, a2, a3, a4, a5, a6, a7, a8, a9, b1, b2, b3⟩ := h
       have e1 : ∀ k : Int, x.Kind ≠ k → (x.Kind == k) = false := fun k h => by simpa using h
       simp (config := {decide := true}) only [e1 _ a1, e1 _ a2, e1 _ a3, e1 _ a4, e1 _ a5, e1 _ a6, e1 _ a7, e1 _ a8, e1 _ a9, e1 _ b1, e1 _ b2, e1 _ b3, a1, a2, a3, a4, a5, a6, a7, a8, a9, b1, b2, b3, if_false, or_self, Bool.false_and, Bool.false_eq_true])
    | skip
theorem g11 (p : T34) (hn : (ls p.Code).length < 100000) : ∀ (k i : Nat), i + k = (ls p.Code).length → G11 (.p1 p ((ls p.Code).length : Int) p.Code ((ls p.Code).length : Int) (i : Int)) = some (fits p i ((ls p.Code).drop i))
  | 0, i, h => by
    rw [G11.eq_1, dfi (by omega), List.drop_of_length_le (by omega)]; rfl
  | k + 1, i, h => by
    obtain ⟨x, hx⟩ := get_ex (ls p.Code) (i := i) (by omega)
    rw [g11_1 p _ hn rfl i (by omega) x hx, g11 p hn k (i + 1) (by omega), drop_cons hx, fits]
    cases fit p x && ((x.Kind == 12) == decide (i + 1 = (ls p.Code).length)) <;> rfl
theorem f11 (p : T34) : F11 p = some (rp p) := by
  unfold F11 rp
  by_cases h1 : p.Groups < 0
  · rw [dti h1, decide_eq_false (by omega)]; rfl
  rw [dfi h1]
  by_cases h2 : p.Groups > 99
  · rw [dti h2, decide_eq_false (by omega)]; rfl
  rw [dfi h2]
  by_cases h3 : p.Slots < 0
  · rw [dti h3, decide_eq_false (by omega)]; rfl
  rw [dfi h3]
  by_cases h4 : p.Slots > 16384
  · rw [dti h4, decide_eq_false (by omega)]; rfl
  rw [dfi h4]
  by_cases h5 : ((ls p.Code).length : Int) < 1
  · rw [dti h5, decide_eq_false (by omega)]; rfl
  rw [dfi h5]
  by_cases h6 : ((ls p.Code).length : Int) > 16384
  · rw [dti h6, decide_eq_false (by omega)]; rfl
  rw [dfi h6, decide_eq_true (by omega)]
  have := g11 p (by omega) (ls p.Code).length 0 (by omega)
  simpa using this
/-- Has it a back-reference? -/
def hb (l : List T52) : Bool := l.any fun x => x.Kind == 9
theorem g60 (s : Sl T52) (hn : (ls s).length < 100000) : ∀ (k i : Nat), i + k = (ls s).length → ∃ r : Int, G60 (.p1 s ((ls s).length : Int) (i : Int)) = some r ∧ decide (r ≥ 0) = hb ((ls s).drop i)
  | 0, i, h => by
    rw [G60.eq_1, dfi (by omega), List.drop_of_length_le (by omega)]; exact ⟨_, rfl, rfl⟩
  | k + 1, i, h => by
    obtain ⟨x, hx⟩ := get_ex (ls s) (i := i) (by omega)
    obtain ⟨r, h1, h2⟩ := g60 s hn k (i + 1) (by omega)
    rw [G60.eq_1, dti (by omega), ixs hx, sm, F56, sm, drop_cons hx]
    by_cases e : x.Kind = 9
    · rw [if_pos (by simp [e])]
      exact ⟨_, rfl, by simp [hb, e]⟩
    · rw [if_neg (by simp [e]), wn1 i (by omega), h1]
      exact ⟨_, rfl, by rw [h2]; simp [hb, e]⟩
theorem f42 (p : T34) (hn : (ls p.Code).length < 100000) : F42 p = some (hb (ls p.Code)) := by
  unfold F42 F55 F60
  obtain ⟨r, h1, h2⟩ := g60 p.Code hn (ls p.Code).length 0 (by omega)
  have h1' : G60 (.p1 p.Code ((ls p.Code).length : Int) 0) = some r := h1
  rw [h1', sm, sm, h2]; rfl
theorem rp_len {p : T34} (h : rp p = true) : 1 ≤ (ls p.Code).length ∧ (ls p.Code).length ≤ 16384 := by
  simp only [rp, Bool.and_eq_true, decide_eq_true_eq] at h
  exact ⟨h.1.2.2.2.2.1, h.1.2.2.2.2.2⟩
/-- The fault of a program. -/
def flt (p : T34) : Int := if rp p = true then (if hb (ls p.Code) = true then 101 else 0) else 100
theorem f32 (p : T34) : F32 p = some (flt p) := by
  unfold F32 flt
  rw [f11, sm, bite]
  by_cases h : rp p = true
  · have := rp_len h
    rw [if_pos h, if_pos h, f42 p (by omega), sm]
    cases hb (ls p.Code) <;> rfl
  · rw [if_neg h, if_neg h]
/-- What is known of a right program's instructions. -/
theorem fits_at (p : T34) : ∀ (l : List T52) (k i : Nat) (x : T52), fits p k l = true → l[i]? = some x → fit p x = true ∧ (x.Kind = 12 ↔ k + i + 1 = (ls p.Code).length)
  | [], k, i, x, _, h => by simp at h
  | y :: l, k, 0, x, hf, h => by
    simp at h
    subst h
    simp only [fits, Bool.and_eq_true, beq_iff_eq] at hf
    refine ⟨hf.1.1, ?_⟩
    have := hf.1.2
    rw [Bool.eq_iff_iff, decide_eq_true_eq, beq_iff_eq] at this
    simpa using this
  | y :: l, k, i + 1, x, hf, h => by
    simp only [fits, Bool.and_eq_true] at hf
    have := fits_at p l (k + 1) i x hf.2 (by simpa using h)
    rw [show k + (i + 1) + 1 = k + 1 + i + 1 by omega]
    exact this
theorem rp_at {p : T34} (h : rp p = true) {i : Nat} {x : T52} (hx : (ls p.Code)[i]? = some x) : fit p x = true ∧ (x.Kind = 12 ↔ i + 1 = (ls p.Code).length) := by
  simp only [rp, Bool.and_eq_true] at h
  have := fits_at p _ 0 i x h.2 hx
  simpa using this
end Go.Proofs.Ytjbafmnocopofaa
