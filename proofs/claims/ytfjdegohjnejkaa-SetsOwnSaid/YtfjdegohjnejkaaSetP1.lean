/-
  Sets of bytes as four words: plain sets, their words, and what the plain functions of the program do to them.
-/
import Derived.Test.YtfjdegohjnejkaaD5
import Derived.Test.YtfjdegohjnejkaaFwRow
namespace Go.Proofs.Ytfjdegohjnejkaa
open Go AW
set_option linter.unusedVariables false
set_option linter.unusedSimpArgs false

/-- The first 'n' bits of a set's word, as a number. -/
def wd (f : Nat → Bool) (i : Nat) : Nat → Nat
  | 0 => 0
  | n + 1 => wd f i n + (if f (64 * i + n) then 2 ^ n else 0)

theorem wd_lt (f : Nat → Bool) (i : Nat) : ∀ n, wd f i n < 2 ^ n
  | 0 => by simp [wd]
  | n + 1 => by
    have := wd_lt f i n
    simp only [wd, Nat.pow_succ]
    split <;> omega

theorem wd_bit (f : Nat → Bool) (i : Nat) : ∀ n j, (wd f i n).testBit j = (decide (j < n) && f (64 * i + j))
  | 0, j => by simp [wd]
  | n + 1, j => by
    have hl := wd_lt f i n
    simp only [wd]
    by_cases hf : f (64 * i + n) = true
    · simp only [hf, if_true]
      rw [Nat.add_comm]
      by_cases hj : j < n
      · rw [Nat.testBit_two_pow_add_gt hj, wd_bit f i n j]
        simp [hj, show j < n + 1 by omega]
      · by_cases e : j = n
        · subst e
          rw [Nat.testBit_two_pow_add_eq, wd_bit f i j j]
          simp [hf]
        · have h1 : 2 ^ n + wd f i n < 2 ^ j := by
            have : 2 ^ (n + 1) ≤ 2 ^ j := Nat.pow_le_pow_right (by omega) (by omega)
            rw [Nat.pow_succ] at this
            omega
          rw [Nat.testBit_lt_two_pow h1]
          simp; omega
    · have hf' : f (64 * i + n) = false := by simpa using hf
      simp only [hf', Bool.false_eq_true, if_false, Nat.add_zero]
      rw [wd_bit f i n j]
      by_cases e : j = n
      · subst e; simp [hf']
      · have : (decide (j < n)) = decide (j < n + 1) := by simp; omega
        rw [this]

theorem wd_ext {f g : Nat → Bool} {i j : Nat} (h : ∀ n, n < 64 → f (64 * i + n) = g (64 * j + n)) : ∀ m, m ≤ 64 → wd f i m = wd g j m
  | 0, _ => rfl
  | m + 1, hm => by
    simp only [wd]
    rw [wd_ext h m (by omega), h m (by omega)]


/-- A plain set, as the program keeps it. -/
def sa (f : Nat → Bool) : Arr 4 Int := ⟨[((wd f 0 64 : Nat) : Int), ((wd f 1 64 : Nat) : Int), ((wd f 2 64 : Nat) : Int), ((wd f 3 64 : Nat) : Int)], rfl⟩

theorem sa_ext {f g : Nat → Bool} (h : ∀ n, n < 256 → f n = g n) : sa f = sa g := by
  have key : ∀ i, i < 4 → wd f i 64 = wd g i 64 := fun i hi => wd_ext (f := f) (g := g) (i := i) (j := i) (fun n hn => h _ (by omega)) 64 (Nat.le_refl _)
  simp only [sa, key 0 (by omega), key 1 (by omega), key 2 (by omega), key 3 (by omega)]

theorem wd_of {f : Nat → Bool} {i x : Nat} (hx : x < 2 ^ 64) (h : ∀ n, n < 64 → f (64 * i + n) = x.testBit n) : wd f i 64 = x := by
  apply Nat.eq_of_testBit_eq
  intro j
  rw [wd_bit]
  by_cases hj : j < 64
  · simp [hj, h j hj]
  · rw [Nat.testBit_lt_two_pow (Nat.lt_of_lt_of_le hx (Nat.pow_le_pow_right (by omega) (by omega)))]
    simp [hj]

theorem u64_nat {y : Int} (h : (Lit.int .u64 y).wf = true) : ∃ n : Nat, y = n ∧ n < 2 ^ 64 := by
  have := bounds_u64 h
  exact ⟨y.toNat, by omega, by omega⟩
theorem u8_nat {y : Int} (h : (Lit.int .u8 y).wf = true) : ∃ n : Nat, y = n ∧ n < 256 := by
  have := bounds_u8 h
  exact ⟨y.toNat, by omega, by omega⟩

def bitsOf (a b c d : Nat) (n : Nat) : Bool := if n < 64 then a.testBit n else if n < 128 then b.testBit (n - 64) else if n < 192 then c.testBit (n - 128) else d.testBit (n - 192)
/-- Any four words are those of a set. -/
theorem sa_of (a : Arr 4 Int) (h : ∀ y ∈ a.l, (Lit.int .u64 y).wf = true) : ∃ f, a = sa f := by
  obtain ⟨l, hl⟩ := a
  match l, hl with
  | [a, b, c, d], _ =>
    obtain ⟨a, rfl, ha⟩ := u64_nat (h a (by simp))
    obtain ⟨b, rfl, hb⟩ := u64_nat (h b (by simp))
    obtain ⟨c, rfl, hc⟩ := u64_nat (h c (by simp))
    obtain ⟨d, rfl, hd⟩ := u64_nat (h d (by simp))
    refine ⟨bitsOf a b c d, Arr.ext ?_⟩
    have h0 : wd (bitsOf a b c d) 0 64 = a := wd_of ha fun n hn => by simp [bitsOf, hn]
    have h1 : wd (bitsOf a b c d) 1 64 = b := wd_of hb fun n hn => by simp [bitsOf, show ¬ 64 + n < 64 by omega, show 64 + n < 128 by omega]
    have h2 : wd (bitsOf a b c d) 2 64 = c := wd_of hc fun n hn => by simp [bitsOf, show ¬ 64 * 2 + n < 64 by omega, show ¬ 64 * 2 + n < 128 by omega, show 64 * 2 + n < 192 by omega]
    have h3 : wd (bitsOf a b c d) 3 64 = d := wd_of hd fun n hn => by simp [bitsOf, show ¬ 64 * 3 + n < 64 by omega, show ¬ 64 * 3 + n < 128 by omega, show ¬ 64 * 3 + n < 192 by omega]
    simp only [sa, h0, h1, h2, h3]

theorem sa_at (f : Nat → Bool) (k : Nat) (h : k < 4) : ix (sa f).l (k : Int) = some ((wd f k 64 : Nat) : Int) := by
  match k, h with
  | 0, _ => rfl
  | 1, _ => rfl
  | 2, _ => rfl
  | 3, _ => rfl
theorem sa_put (f g : Nat → Bool) (k : Nat) (h : k < 4) (hg : ∀ i, i < 4 → i ≠ k → wd g i 64 = wd f i 64) : aset (sa f) (k : Int) ((wd g k 64 : Nat) : Int) = sa g := by
  apply Arr.ext
  match k, h with
  | 0, _ => simp [aset, sa, hg 1 (by omega) (by omega), hg 2 (by omega) (by omega), hg 3 (by omega) (by omega)]
  | 1, _ => simp [aset, sa, hg 0 (by omega) (by omega), hg 2 (by omega) (by omega), hg 3 (by omega) (by omega)]
  | 2, _ => simp [aset, sa, hg 0 (by omega) (by omega), hg 1 (by omega) (by omega), hg 3 (by omega) (by omega)]
  | 3, _ => simp [aset, sa, hg 0 (by omega) (by omega), hg 1 (by omega) (by omega), hg 2 (by omega) (by omega)]
theorem sa_none : sa (fun _ => false) = Arr.rep 4 0 := rfl

/-! ### Whole numbers -/
theorem quo64 (c : Nat) (h : c < 256) : IntKind.wrap .u8 ((c : Int).tdiv 64) = ((c / 64 : Nat) : Int) := by
  simp only [IntKind.wrap, IntKind.bits, IntKind.signed, Bool.false_and, Bool.false_eq_true, if_false]
  rw [Int.tdiv_eq_ediv_of_nonneg (by omega)]
  omega
theorem rem64 (c : Nat) : (c : Int).tmod 64 = ((c % 64 : Nat) : Int) := by
  rw [Int.tmod_eq_emod_of_nonneg (by omega)]
  omega
theorem ofInt_nat (m n : Nat) : BitVec.ofInt m (n : Int) = BitVec.ofNat m n := by
  apply BitVec.eq_of_toInt_eq
  simp
theorem wrap64 (n : Nat) (h : n < 2 ^ 64) : IntKind.wrap .u64 (n : Int) = n := by
  simp only [IntKind.wrap, IntKind.bits, IntKind.signed, Bool.false_and, Bool.false_eq_true, if_false]
  omega
theorem wrap8 (n : Nat) (h : n < 256) : IntKind.wrap .u8 (n : Int) = n := by
  simp only [IntKind.wrap, IntKind.bits, IntKind.signed, Bool.false_and, Bool.false_eq_true, if_false]
  omega
theorem wrapi (x : Int) (h : -9223372036854775808 ≤ x) (h' : x ≤ 9223372036854775807) : IntKind.wrap .i64 x = x := by
  simp only [IntKind.wrap, IntKind.bits, IntKind.signed, Bool.true_and, decide_eq_true_eq, ge_iff_le]
  have e : (2 : Int) ^ 64 = 18446744073709551616 := by decide
  have e' : (2 : Int) ^ (64 - 1) = 9223372036854775808 := by decide
  first
    | (split <;> omega)
    | (simp only [e, e']; split <;> omega)
theorem shr_n (x k : Nat) (hk : k < 64) : shrI .u64 (x : Int) (k : Int) = ((x >>> k : Nat) : Int) := by
  have h1 : Nat.min ((k : Int).toNat) IntKind.u64.bits = k := by simp only [Int.toNat_natCast]; exact Nat.min_eq_left (Nat.le_of_lt hk)
  simp only [shrI, h1]
  rw [Int.fdiv_eq_ediv_of_nonneg _ (Int.le_of_lt (Int.pow_pos (by omega))), Nat.shiftRight_eq_div_pow]
  simp
theorem shl_1 (k : Nat) (hk : k < 64) : shlI .u64 1 (k : Int) = ((2 ^ k : Nat) : Int) := by
  have h1 : Nat.min ((k : Int).toNat) IntKind.u64.bits = k := by simp only [Int.toNat_natCast]; exact Nat.min_eq_left (Nat.le_of_lt hk)
  simp only [shlI, h1]
  have h2 : (1 * 2 ^ k : Int) = ((2 ^ k : Nat) : Int) := by simp
  rw [h2, wrap64 _ (Nat.pow_lt_pow_right (by omega) hk)]
theorem and_n (x y : Nat) (hx : x < 2 ^ 64) (hy : y < 2 ^ 64) : andI .u64 (x : Int) (y : Int) = ((x &&& y : Nat) : Int) := by
  simp only [andI, ofInt_nat, BitVec.toNat_and, BitVec.toNat_ofNat]
  have e : 2 ^ IntKind.u64.bits = 2 ^ 64 := rfl
  rw [e, Nat.mod_eq_of_lt hx, Nat.mod_eq_of_lt hy, wrap64 _ (Nat.and_lt_two_pow _ hy)]
theorem or_n (x y : Nat) (hx : x < 2 ^ 64) (hy : y < 2 ^ 64) : orI .u64 (x : Int) (y : Int) = ((x ||| y : Nat) : Int) := by
  simp only [orI, ofInt_nat, BitVec.toNat_or, BitVec.toNat_ofNat]
  have e : 2 ^ IntKind.u64.bits = 2 ^ 64 := rfl
  rw [e, Nat.mod_eq_of_lt hx, Nat.mod_eq_of_lt hy, wrap64 _ (Nat.or_lt_two_pow hx hy)]
theorem not_n (x : Nat) (hx : x < 2 ^ 64) : notI .u64 (x : Int) = ((x ^^^ (2 ^ 64 - 1) : Nat) : Int) := by
  have e : (if IntKind.u64.signed then (-1 : Int) else IntKind.u64.max) = ((2 ^ 64 - 1 : Nat) : Int) := rfl
  have e2 : 2 ^ IntKind.u64.bits = 2 ^ 64 := rfl
  simp only [notI, e, ofInt_nat, BitVec.toNat_xor, BitVec.toNat_ofNat]
  rw [e2, Nat.mod_eq_of_lt hx, Nat.mod_eq_of_lt (by omega), Nat.xor_comm, wrap64 _ (Nat.xor_lt_two_pow hx (by omega))]
theorem wd_lt64 (f : Nat → Bool) (i : Nat) : wd f i 64 < 2 ^ 64 := wd_lt f i 64
theorem bit_wd (f : Nat → Bool) (c : Nat) : (wd f (c / 64) 64).testBit (c % 64) = f c := by
  rw [wd_bit, show 64 * (c / 64) + c % 64 = c by omega]
  simp [Nat.mod_lt]
theorem and_one (x : Nat) : (((x &&& 1 : Nat) : Int) == 1) = x.testBit 0 := by
  rw [Nat.and_one_is_mod, Nat.testBit_zero, Bool.eq_iff_iff, beq_iff_eq, decide_eq_true_iff]
  omega

/-! ### Has, add -/
theorem has_eq (f : Nat → Bool) (c : Nat) (h : c < 256) : F17 (sa f) (c : Int) = some (f c) := by
  have hb : (wd f (c / 64) 64 >>> (c % 64)).testBit 0 = f c := by
    rw [Nat.testBit_shiftRight, Nat.add_zero, bit_wd]
  have hl : wd f (c / 64) 64 >>> (c % 64) < 2 ^ 64 := Nat.lt_of_le_of_lt (Nat.shiftRight_le _ _) (wd_lt64 f _)
  unfold F17
  rw [quo64 c h, rem64, if_pos (by omega), sa_at f (c / 64) (by omega)]
  simp only [Option.bind_eq_bind, Option.bind_some]
  rw [if_pos (by omega), shr_n _ _ (Nat.mod_lt _ (by omega)), show (1 : Int) = ((1 : Nat) : Int) from rfl, and_n _ _ hl (by omega)]
  rw [show ((1 : Nat) : Int) = 1 from rfl, and_one, hb]
theorem has_eq' (f : Nat → Bool) (c : Nat) (h : c < 256) : F18 (sa f) (c : Int) = some (f c) := has_eq f c h

/-- A set with a byte more. -/
def addS (f : Nat → Bool) (c : Nat) : Nat → Bool := fun n => decide (n = c) || f n

theorem wd_add (f : Nat → Bool) (c : Nat) (h : c < 256) : wd (addS f c) (c / 64) 64 = wd f (c / 64) 64 ||| 2 ^ (c % 64) := by
  apply Nat.eq_of_testBit_eq
  intro j
  rw [Nat.testBit_or, wd_bit, wd_bit, Nat.testBit_two_pow, addS]
  by_cases hj : j < 64
  · simp only [hj, decide_true, Bool.true_and]
    by_cases e : 64 * (c / 64) + j = c
    · have : c % 64 = j := by omega
      simp [e, this]
    · have : ¬ c % 64 = j := by omega
      simp [e, this]
  · have : ¬ c % 64 = j := by omega
    simp [hj, this]
theorem wd_add_ne (f : Nat → Bool) (c i : Nat) (hne : i ≠ c / 64) : wd (addS f c) i 64 = wd f i 64 := by
  refine wd_ext (fun n hn => ?_) 64 (Nat.le_refl _)
  have : ¬ 64 * i + n = c := by omega
  simp [addS, this]

theorem add_eq (f : Nat → Bool) (c : Nat) (h : c < 256) : F36 (sa f) (c : Int) = some (sa (addS f c)) := by
  unfold F36
  rw [quo64 c h, rem64, if_pos (by omega), sa_at f (c / 64) (by omega)]
  simp only [Option.bind_eq_bind, Option.bind_some]
  rw [if_pos (by omega), if_pos (by omega), shl_1 _ (Nat.mod_lt _ (by omega)), or_n _ _ (wd_lt64 f _) (Nat.pow_lt_pow_right (by omega) (Nat.mod_lt _ (by omega))), ← wd_add f c h]
  rw [sa_put f (addS f c) (c / 64) (by omega) (fun i hi hne => wd_add_ne f c i hne)]
theorem addS_in (f : Nat → Bool) (c : Nat) (h : f c = true) : addS f c = f := by
  funext n
  by_cases e : n = c
  · subst e; simp [addS, h]
  · simp [addS, e]

theorem wd_plus (f : Nat → Bool) (c : Nat) (h : f c = false) : wd f (c / 64) 64 + 2 ^ (c % 64) = wd f (c / 64) 64 ||| 2 ^ (c % 64) := by
  have hb := bit_wd f c
  rw [h] at hb
  generalize wd f (c / 64) 64 = x at hb
  generalize c % 64 = k at hb
  have hx : x < 2 ^ (x + k + 2) := Nat.lt_of_lt_of_le Nat.lt_two_pow_self (Nat.pow_le_pow_right (by omega) (by omega))
  have hk : 2 ^ k < 2 ^ (x + k + 1) := Nat.pow_lt_pow_right (by omega) (by omega)
  have hx1 : x < 2 ^ (x + k + 1) := Nat.lt_of_lt_of_le Nat.lt_two_pow_self (Nat.pow_le_pow_right (by omega) (by omega))
  have hk2 : 2 ^ k < 2 ^ (x + k + 2) := Nat.pow_lt_pow_right (by omega) (by omega)
  have hsum : x + 2 ^ k < 2 ^ (x + k + 2) := by rw [show x + k + 2 = (x + k + 1) + 1 by omega, Nat.pow_succ]; omega
  have h1 : (BitVec.ofNat (x + k + 2) x &&& BitVec.ofNat (x + k + 2) (2 ^ k)) = 0#(x + k + 2) := by
    apply BitVec.eq_of_toNat_eq
    rw [BitVec.toNat_and, BitVec.toNat_ofNat, BitVec.toNat_ofNat, Nat.mod_eq_of_lt hx, Nat.mod_eq_of_lt hk2]
    simp only [BitVec.toNat_ofNat, Nat.zero_mod]
    apply Nat.eq_of_testBit_eq
    intro j
    rw [Nat.testBit_and, Nat.testBit_two_pow, Nat.zero_testBit]
    by_cases e : k = j
    · subst e; simp [hb]
    · simp [e]
  have h2 := congrArg BitVec.toNat (BitVec.add_eq_or_of_and_eq_zero _ _ h1)
  rw [BitVec.toNat_add, BitVec.toNat_or, BitVec.toNat_ofNat, BitVec.toNat_ofNat, Nat.mod_eq_of_lt hx, Nat.mod_eq_of_lt hk2, Nat.mod_eq_of_lt hsum] at h2
  exact h2


theorem add_eq' (f : Nat → Bool) (c : Nat) (h : c < 256) : F35 (sa f) (c : Int) = some (sa (addS f c)) := by
  unfold F35
  rw [has_eq' f c h]
  simp only [Option.bind_eq_bind, Option.bind_some]
  cases hf : f c with
  | true => rw [addS_in f c hf]; rfl
  | false =>
    simp only [Bool.not_false, if_true]
    rw [quo64 c h, rem64, if_pos (by omega), sa_at f (c / 64) (by omega)]
    simp only [Option.bind_some]
    rw [if_pos (by omega), if_pos (by omega), shl_1 _ (Nat.mod_lt _ (by omega)), ← Int.natCast_add, wd_plus f c hf, wrap64 _ (Nat.or_lt_two_pow (wd_lt64 f _) (Nat.pow_lt_pow_right (by omega) (Nat.mod_lt _ (by omega)))), ← wd_add f c h]
    rw [sa_put f (addS f c) (c / 64) (by omega) (fun i hi hne => wd_add_ne f c i hne)]
end Go.Proofs.Ytfjdegohjnejkaa
