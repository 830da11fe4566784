/-
  Sets of bytes: ranges, single bytes, and the program's own trial.
-/
import Derived.Test.YtfjdegohjnejkaaSetP6
namespace Go.Proofs.Ytfjdegohjnejkaa
open Go AW
set_option linter.unusedVariables false
set_option linter.unusedSimpArgs false
noncomputable section

def ran (a b : Nat) (n : Nat) : Bool := decide (a ≤ n ∧ n ≤ b)
theorem wi (c : Nat) (h : c < 1000) : IntKind.wrap .i64 ((c : Int) + 1) = ((c + 1 : Nat) : Int) := by rw [wrapi _ (by omega) (by omega)]; omega
theorem f20_loop (a b : Nat) (hb : b < 256) (t4 : Arr 4 Int) : ∀ (k c : Nat) (g : Nat → Bool), c + k = b + 1 → a ≤ c → (∀ n, n < 256 → g n = decide (a ≤ n ∧ n < c)) → G20 (.p1 (b : Int) (c : Int) t4 (sa g)) = some (sa (ran a b))
  | 0, c, g, hc, ha, hg => by
    rw [G20.eq_1, wrapi _ (by omega) (by omega), df (by omega)]
    refine congrArg some (sa_ext fun n hn => ?_)
    rw [hg n hn, ran, decide_eq_decide]; omega
  | k + 1, c, g, hc, ha, hg => by
    rw [G20.eq_1, wrapi _ (by omega) (by omega), dt (by omega), wrap8 c (by omega), add_eq g c (by omega), bs, wi c (by omega)]
    refine f20_loop a b hb t4 k (c + 1) _ (by omega) (by omega) fun n hn => ?_
    rw [addS, hg n hn, ← Bool.decide_or, decide_eq_decide]; omega
theorem f20_eq (a b : Nat) (ha : a < 256) (hb : b < 256) : F20 (a : Int) (b : Int) = some (sa (ran a b)) := by
  unfold F20
  rw [wrapi _ (by omega) (by omega), ← sa_none]
  by_cases h : a ≤ b + 1
  · exact f20_loop a b hb _ (b + 1 - a) a _ (by omega) (Nat.le_refl _) fun n hn => (decide_eq_false (by omega)).symm
  · rw [G20.eq_1, wrapi _ (by omega) (by omega), df (by omega)]
    refine congrArg some (sa_ext fun n hn => ?_)
    exact (decide_eq_false (by omega)).symm
theorem f21_loop (a b : Nat) (hb : b < 256) (t4 : Arr 4 Int) : ∀ (k c : Nat) (g : Nat → Bool), c + k = b + 1 → a ≤ c → (∀ n, n < 256 → g n = decide (a ≤ n ∧ n < c)) → G21 (.p1 (b : Int) (c : Int) t4 (sa g)) = some (sa (ran a b))
  | 0, c, g, hc, ha, hg => by
    rw [G21.eq_1, wrapi _ (by omega) (by omega), df (by omega)]
    refine congrArg some (sa_ext fun n hn => ?_)
    rw [hg n hn, ran, decide_eq_decide]; omega
  | k + 1, c, g, hc, ha, hg => by
    rw [G21.eq_1, wrapi _ (by omega) (by omega), dt (by omega), wrap8 c (by omega), add_eq' g c (by omega), bs, wi c (by omega)]
    refine f21_loop a b hb t4 k (c + 1) _ (by omega) (by omega) fun n hn => ?_
    rw [addS, hg n hn, ← Bool.decide_or, decide_eq_decide]; omega
theorem f21_eq (a b : Nat) (ha : a < 256) (hb : b < 256) : F21 (a : Int) (b : Int) = some (sa (ran a b)) := by
  unfold F21
  rw [wrapi _ (by omega) (by omega), ← sa_none]
  by_cases h : a ≤ b + 1
  · exact f21_loop a b hb _ (b + 1 - a) a _ (by omega) (Nat.le_refl _) fun n hn => (decide_eq_false (by omega)).symm
  · rw [G21.eq_1, wrapi _ (by omega) (by omega), df (by omega)]
    refine congrArg some (sa_ext fun n hn => ?_)
    exact (decide_eq_false (by omega)).symm

def one (c : Nat) (n : Nat) : Bool := decide (n = c)
theorem f12_one (c : Nat) (h : c < 256) : F12 (some [(c : Int)]) = some (sa (one c)) := by
  rw [f12_eq _ [c] rfl (by simp [h]) (by simp)]
  refine congrArg some (sa_ext fun n hn => ?_)
  rw [foldl_addS]; simp [one]

/-- A plain character read. -/
theorem f38_chr (s : Str) (i : Nat) (bad : Int) (c : UInt8) (hi : s[i]? = some c) (hl : s.length ≤ 1000000) (h1 : c ≠ 91) (h2 : c ≠ 92) :
    F38 ⟨s, (i : Int), bad⟩ = some (⟨sa (one c.toNat), (c.toNat : Int), true⟩, ⟨s, ((i + 1 : Nat) : Int), bad⟩) := by
  have hlt : i < s.length := by
    rcases Nat.lt_or_ge i s.length with h | h
    · exact h
    · rw [List.getElem?_eq_none h] at hi; cases hi
  have n1 : c.toNat ≠ 91 := fun e => h1 (UInt8.toNat_inj.1 e)
  have n2 : c.toNat ≠ 92 := fun e => h2 (UInt8.toNat_inj.1 e)
  have w : IntKind.wrap .i64 ((i : Int) + 1) = ((i + 1 : Nat) : Int) := by rw [wrapi _ (by omega) (by omega)]; omega
  have hx : ix s (i : Int) = some c := by rw [ix_nat]; exact hi
  have hc : c.toNat < 256 := c.toNat_lt
  unfold F38
  simp only []
  rw [df (by omega), hx, bs, if_neg (by simp; omega), G38.eq_2, if_neg (by simp; omega), G38.eq_3, f12_one _ hc, bs]
  simp only [w]
end
end Go.Proofs.Ytfjdegohjnejkaa
