/-
  Lines: plain words for lists and strings; a text cut at its first line feed, taken apart, put together.
-/
import Derived.Test.YtllhdbdbdblimaaDoorD3
namespace Go.Proofs.YtllhdbdbdblimaaDoor
open Go AW
set_option linter.unusedVariables false
set_option linter.unusedSimpArgs false
theorem sm {α β : Type} (a : α) (f : α → Option β) : (some a >>= f) = f a := rfl
theorem ti {α : Type} {b : Bool} {x y : α} (h : b = true) : (if b = true then x else y) = x := if_pos h
theorem fi_ {α : Type} {b : Bool} {x y : α} (h : b = false) : (if b = true then x else y) = y := by rw [h]; rfl
theorem dti {p : Prop} [Decidable p] {α : Type} {x y : α} (h : p) : (if decide p = true then x else y) = x := by simp [h]
theorem dfi {p : Prop} [Decidable p] {α : Type} {x y : α} (h : ¬ p) : (if decide p = true then x else y) = y := by simp [h]
theorem wi (x : Int) (h : -9223372036854775808 ≤ x) (h' : x ≤ 9223372036854775807) : IntKind.wrap .i64 x = x := by
  simp only [IntKind.wrap, IntKind.bits, IntKind.signed, Bool.true_and, decide_eq_true_eq, ge_iff_le]
  have e : (2 : Int) ^ 64 = 18446744073709551616 := by decide
  have e' : (2 : Int) ^ (64 - 1) = 9223372036854775808 := by decide
  first
    | (split <;> omega)
    | (simp only [e, e']; split <;> omega)
theorem wn (n : Nat) (h : n ≤ 9223372036854775807) : IntKind.wrap .i64 (n : Int) = n := wi _ (by omega) (by omega)
theorem wn1 (n : Nat) (h : n < 9223372036854775807) : IntKind.wrap .i64 ((n : Int) + 1) = ((n + 1 : Nat) : Int) := by rw [wi _ (by omega) (by omega)]; omega
theorem strcut_nat (s : Str) (a b : Nat) (h : a ≤ b) (hb : b ≤ s.length) : strcut s a b = some ((s.take b).drop a) := by
  simp only [strcut]
  rw [if_pos ⟨by omega, by omega, by omega⟩]
  simp

/-- A text at its first line feed. -/
def cut : Str → Str × Str × Bool
  | [] => ([], [], false)
  | b :: s => if b = 10 then ([], s, true) else (b :: (cut s).1, (cut s).2.1, (cut s).2.2)
theorem cut_idx : ∀ s : Str, cut s = if Lib.indexByte s 10 ≥ 0 then (s.take (Lib.indexByte s 10).toNat, s.drop ((Lib.indexByte s 10).toNat + 1), true) else (s, [], false)
  | [] => by simp [cut, Lib.indexByte]
  | b :: s => by
    have ih := cut_idx s
    have hg := Lib.indexByte_ge s 10
    unfold cut Lib.indexByte
    by_cases h : b = 10
    · subst h; simp
    · rw [if_neg h, ih]
      have hb : (b == 10) = false := by simpa using h
      simp only [hb, Bool.false_eq_true, if_false]
      by_cases h2 : Lib.indexByte s 10 = -1
      · simp [h2]
      · obtain ⟨n, hn⟩ : ∃ n : Nat, Lib.indexByte s 10 = n := ⟨(Lib.indexByte s 10).toNat, by omega⟩
        rw [hn]
        have e : ((n : Int) + 1).toNat = n + 1 := by omega
        have e2 : ((n : Int) == -1) = false := by simp
        have e3 : (n : Int) ≥ 0 := by omega
        have e4 : (n : Int) + 1 ≥ 0 := by omega
        simp [e2, e3, e4, e]
theorem idx_lt : ∀ s : Str, Lib.indexByte s 10 < s.length ∨ Lib.indexByte s 10 = -1
  | [] => by simp [Lib.indexByte]
  | b :: s => by
    have := idx_lt s
    unfold Lib.indexByte
    split
    · exact .inl (by simp only [List.length_cons]; omega)
    · split
      · exact .inr rfl
      · simp at *; omega
theorem f61 (s : Str) : F61 s [10] = some (Lib.indexByte s 10) := by
  unfold F61
  rw [if_neg (by decide)]
  by_cases h : [10] = s
  · subst h; rfl
  · rw [if_neg (by simpa using h), if_pos (by decide)]
    rfl
theorem f39 (s : Str) (h : s.length ≤ 1000000000000) : F39 s [10] = some (cut s) := by
  have hg := Lib.indexByte_ge s 10
  have hl := idx_lt s
  unfold F39 F54
  rw [f61, sm, cut_idx]
  by_cases h2 : Lib.indexByte s 10 ≥ 0
  · obtain ⟨n, hn⟩ : ∃ n : Nat, Lib.indexByte s 10 = n := ⟨(Lib.indexByte s 10).toNat, by omega⟩
    rw [hn] at hl h2 ⊢
    have e : IntKind.wrap .i64 ((n : Int) + (([10] : Str).length : Int)) = ((n + 1 : Nat) : Int) := wn1 n (by omega)
    have e0 : strcut s 0 (n : Int) = some (s.take n) := strcut_nat s 0 n (by omega) (by omega)
    rw [dti h2, e0, sm, e, strcut_nat s (n + 1) s.length (by omega) (by omega), sm, sm, if_pos h2]
    simp
  · rw [dfi h2, sm, if_neg h2]

/-! ### Lines -/
abbrev Ln := T25
/-- The lines of a text; what has been read of the first one. -/
def sp : Str → Str → List Ln
  | acc, [] => if acc = [] then [] else [⟨acc, false⟩]
  | acc, b :: s => if b = 10 then ⟨acc, true⟩ :: sp [] s else sp (acc ++ [b]) s
def spl (s : Str) : List Ln := sp [] s
/-- A list as the program keeps it. -/
def so {α : Type} : List α → Sl α
  | [] => none
  | x :: l => some (x :: l)
theorem ls_so {α : Type} (l : List α) : ls (so l) = l := by cases l <;> rfl
theorem sapp_so {α : Type} (l m : List α) : sapp (so l) m = so (l ++ m) := by
  cases l with
  | nil => cases m <;> rfl
  | cons x l => rfl
theorem sp_cut : ∀ (s acc : Str), acc ++ s ≠ [] → sp acc s = ⟨acc ++ (cut s).1, (cut s).2.2⟩ :: sp [] (cut s).2.1
  | [], acc, h => by
    have : acc ≠ [] := by simpa using h
    simp [sp, cut, this]
  | b :: s, acc, h => by
    by_cases hb : b = 10
    · simp [sp, cut, hb]
    · have := sp_cut s (acc ++ [b]) (by simp)
      simp [sp, cut, hb, this]
theorem cut_len (s : Str) : (cut s).2.1.length ≤ s.length ∧ (s ≠ [] → (cut s).2.1.length < s.length) := by
  induction s with
  | nil => simp [cut]
  | cons b s ih =>
    by_cases hb : b = 10
    · simp [cut, hb]
    · simp [cut, hb]; omega
theorem g14 : ∀ (n : Nat) (s : Str) (out : List Ln), s.length ≤ n → (out.length + s.length) ≤ 1000000000000 → G14 (.p1 s (so out)) = some (so (out ++ spl s))
  | n, [], out, _, _ => by
    rw [G14.eq_1, if_neg (by decide)]
    simp [spl, sp]
  | 0, b :: s, _, h, _ => by simp at h
  | n + 1, b :: s, out, h, hl => by
    have hc := (cut_len (b :: s)).2 (by simp)
    simp only [List.length_cons] at h hl hc
    rw [G14.eq_1, if_pos (by rfl), f39 _ (by simp; omega), sm, ls_so]
    rw [if_pos (by simp [ls]; omega), sapp_so]
    rw [g14 n _ _ (by omega) (by simp [ls]; omega)]
    simp [spl, sp_cut (b :: s) [] (by simp), ls]
theorem f14 (s : Str) (h : s.length ≤ 100000000000) : F14 s = some (so (spl s)) := by
  unfold F14
  have := g14 s.length s [] (Nat.le_refl _) (by simp; omega)
  simpa [so] using this
theorem sp_len : ∀ (s acc : Str), (sp acc s).length ≤ s.length + acc.length
  | [], acc => by
    unfold sp; split
    · simp
    · rename_i h; have := List.length_pos_iff.2 h; simp; omega
  | b :: s, acc => by
    unfold sp; split
    · have := sp_len s []; simp at *; omega
    · have := sp_len s (acc ++ [b]); simp at *; omega
theorem f21 (s : Str) (h : s.length ≤ 100000000000) : F21 s = some ((spl s).length : Int) := by
  unfold F21
  rw [f14 s h, sm, ls_so]
end Go.Proofs.YtllhdbdbdblimaaDoor
