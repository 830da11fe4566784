/-
  Sets of bytes: how many are in.
-/
import Derived.Test.YtfjdegohjnejkaaSetP4
namespace Go.Proofs.Ytfjdegohjnejkaa
open Go AW
set_option linter.unusedVariables false
set_option linter.unusedSimpArgs false

theorem shr_k (x k y : Nat) (hk : k < 64) (h : x / 2 ^ k = y) : shrI .u64 (x : Int) (k : Int) = (y : Int) := by
  rw [shr_n x k hk, Nat.shiftRight_eq_div_pow, h]
theorem d1_lt (x : Nat) : D1 32 x < 2 ^ 64 := by
  rw [← s1_eq 32 x]
  have h1 : x / 2 &&& m0 32 ≤ m0 32 := Nat.and_le_right
  have h2 : x &&& m0 32 ≤ m0 32 := Nat.and_le_right
  have : m0 32 = 6148914691236517205 := by decide
  omega
theorem d2_lt (x : Nat) : D2 16 x < 2 ^ 63 := by
  rw [← s2_eq 16 x]
  have h1 : D1 (2 * 16) x / 4 &&& m1 16 ≤ m1 16 := Nat.and_le_right
  have h2 : D1 (2 * 16) x &&& m1 16 ≤ m1 16 := Nat.and_le_right
  have : m1 16 = 3689348814741910323 := by decide
  omega
theorem w1_eq (x : Nat) (hx : x < 2 ^ 64) : IntKind.wrap .u64 (andI .u64 (shrI .u64 (x : Int) 1) 6148914691236517205 + andI .u64 (x : Int) 6148914691236517205) = ((D1 32 x : Nat) : Int) := by
  have e : m0 32 = 6148914691236517205 := by decide
  have h := s1_eq 32 x
  have hl := d1_lt x
  have a1 : shrI .u64 (x : Int) 1 = ((x / 2 : Nat) : Int) := shr_k x 1 _ (by omega) rfl
  have a2 : andI .u64 ((x / 2 : Nat) : Int) 6148914691236517205 = ((x / 2 &&& 6148914691236517205 : Nat) : Int) := and_n _ 6148914691236517205 (by omega) (by omega)
  have a3 : andI .u64 (x : Int) 6148914691236517205 = ((x &&& 6148914691236517205 : Nat) : Int) := and_n _ 6148914691236517205 hx (by omega)
  rw [a1, a2, a3, ← Int.natCast_add, ← e, h, wrap64 _ hl]
theorem w2_eq (x : Nat) : IntKind.wrap .u64 (andI .u64 (shrI .u64 ((D1 32 x : Nat) : Int) 2) 3689348814741910323 + andI .u64 ((D1 32 x : Nat) : Int) 3689348814741910323) = ((D2 16 x : Nat) : Int) := by
  have e : m1 16 = 3689348814741910323 := by decide
  have h : (D1 32 x / 4 &&& m1 16) + (D1 32 x &&& m1 16) = D2 16 x := s2_eq 16 x
  have hl := d2_lt x
  have hx := d1_lt x
  have a1 : shrI .u64 ((D1 32 x : Nat) : Int) 2 = ((D1 32 x / 4 : Nat) : Int) := shr_k _ 2 _ (by omega) rfl
  have a2 : andI .u64 ((D1 32 x / 4 : Nat) : Int) 3689348814741910323 = ((D1 32 x / 4 &&& 3689348814741910323 : Nat) : Int) := and_n _ 3689348814741910323 (by omega) (by omega)
  have a3 : andI .u64 ((D1 32 x : Nat) : Int) 3689348814741910323 = ((D1 32 x &&& 3689348814741910323 : Nat) : Int) := and_n _ 3689348814741910323 hx (by omega)
  rw [a1, a2, a3, ← Int.natCast_add, ← e, h, wrap64 _ (by omega)]
theorem w3_eq (x : Nat) : andI .u64 (IntKind.wrap .u64 (shrI .u64 ((D2 16 x : Nat) : Int) 4 + ((D2 16 x : Nat) : Int))) 1085102592571150095 = ((D3 8 x : Nat) : Int) := by
  have e : m2 8 = 1085102592571150095 := by decide
  have h : (D2 16 x / 16 + D2 16 x) &&& m2 8 = D3 8 x := s3_eq 8 x
  have hl := d2_lt x
  have a1 : shrI .u64 ((D2 16 x : Nat) : Int) 4 = ((D2 16 x / 16 : Nat) : Int) := shr_k _ 4 _ (by omega) rfl
  have a2 : andI .u64 ((D2 16 x / 16 + D2 16 x : Nat) : Int) 1085102592571150095 = (((D2 16 x / 16 + D2 16 x) &&& 1085102592571150095 : Nat) : Int) := and_n _ 1085102592571150095 (by omega) (by omega)
  rw [a1, ← Int.natCast_add, wrap64 _ (by omega), a2, ← e, h]
theorem and_127 (n : Nat) (h : n < 2 ^ 63) : andI .i64 (IntKind.wrap .i64 (n : Int)) 127 = ((n % 128 : Nat) : Int) := by
  rw [wrapi _ (by omega) (by omega)]
  have e127 : (127 : Int) = ((127 : Nat) : Int) := rfl
  rw [e127]
  simp only [andI, ofInt_nat, BitVec.toNat_and, BitVec.toNat_ofNat]
  have e : 2 ^ IntKind.i64.bits = 2 ^ 64 := rfl
  have e' : (127 : Nat) = 2 ^ 7 - 1 := rfl
  rw [e, Nat.mod_eq_of_lt (show n < 2 ^ 64 by omega), Nat.mod_eq_of_lt (show 127 < 2 ^ 64 by omega), e', Nat.and_two_pow_sub_one_eq_mod, wrapi _ (by omega) (by omega)]
theorem f37_eq (x : Nat) (hx : x < 2 ^ 64) : F37 (x : Int) = some ((pcs x 64 : Nat) : Int) := by
  unfold F37
  rw [w1_eq x hx, w2_eq x, w3_eq x]
  obtain ⟨a, ha⟩ : ∃ a, a = D3 8 x := ⟨_, rfl⟩
  rw [← ha]
  obtain ⟨b, hb⟩ : ∃ b, b = a + a / 256 := ⟨_, rfl⟩
  obtain ⟨c, hc⟩ : ∃ c, c = b + b / 65536 := ⟨_, rfl⟩
  have h := last_eq ha hb hc
  have a1 : shrI .u64 (a : Int) 8 = ((a / 256 : Nat) : Int) := shr_k _ 8 _ (by omega) rfl
  have a2 : shrI .u64 (b : Int) 16 = ((b / 65536 : Nat) : Int) := shr_k _ 16 _ (by omega) rfl
  have a3 : shrI .u64 (c : Int) 32 = ((c / 4294967296 : Nat) : Int) := shr_k _ 32 _ (by omega) rfl
  rw [a1, ← Int.natCast_add, ← hb, wrap64 b (by omega), a2, ← Int.natCast_add, ← hc, wrap64 c (by omega), a3, ← Int.natCast_add, wrap64 _ (by omega), and_127 _ h.2.2.2.2, h.1, su_pcs]

/-- How many bytes below 'm' are in. -/
def cnt (f : Nat → Bool) (m : Nat) : Nat := (bl f m).length
theorem cnt_succ (f : Nat → Bool) (m : Nat) : cnt f (m + 1) = cnt f m + (f m).toNat := by
  unfold cnt
  rw [bl_succ]
  cases f m <;> simp
theorem cnt_le (f : Nat → Bool) (m : Nat) : cnt f m ≤ m := bl_len f m
theorem pcs_cnt (f : Nat → Bool) (i : Nat) : ∀ k, k ≤ 64 → cnt f (64 * i) + pcs (wd f i 64) k = cnt f (64 * i + k)
  | 0, _ => rfl
  | k + 1, h => by
    have ih := pcs_cnt f i k (by omega)
    have hb := wd_bit f i 64 k
    rw [Nat.testBit_eq_decide_div_mod_eq] at hb
    rw [decide_eq_true (show k < 64 by omega), Bool.true_and] at hb
    rw [pcs, show 64 * i + (k + 1) = 64 * i + k + 1 by omega, cnt_succ, ← ih, ← hb]
    rcases Nat.mod_two_eq_zero_or_one (wd f i 64 / 2 ^ k) with h2 | h2 <;> rw [h2] <;> simp [Nat.add_assoc]
theorem f19_loop (f : Nat → Bool) : ∀ (k i : Nat), i + k = 4 → G19 (.p1 ((cnt f (64 * i) : Nat) : Int) (sa f) (i : Int)) = some ((cnt f 256 : Nat) : Int)
  | 0, i, h => by
    have : i = 4 := by omega
    subst this
    rw [G19.eq_1, df (by omega)]
  | k + 1, i, h => by
    have hp := pcs_cnt f i 64 (Nat.le_refl _)
    have hc := cnt_le f (64 * i + 64)
    rw [G19.eq_1, dt (by omega), sa_at f i (by omega), bs, f37_eq _ (wd_lt64 f i), bs, ← Int.natCast_add, hp, wrapi _ (by omega) (by omega), wrapi _ (by omega) (by omega)]
    exact f19_loop f k (i + 1) (by omega)
theorem f19_eq (f : Nat → Bool) : F19 (sa f) = some ((cnt f 256 : Nat) : Int) := by
  unfold F19
  exact f19_loop f 4 0 rfl
end Go.Proofs.Ytfjdegohjnejkaa
