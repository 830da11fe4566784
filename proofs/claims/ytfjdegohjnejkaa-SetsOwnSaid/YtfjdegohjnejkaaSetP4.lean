/-
  Sets of bytes: how many bits a word has.
-/
import Derived.Test.YtfjdegohjnejkaaSetP2
namespace Go.Proofs.Ytfjdegohjnejkaa
open Go AW
set_option linter.unusedVariables false
set_option linter.unusedSimpArgs false

/-! ### How many bits a word has -/

theorem and_split (a b w : Nat) : a &&& b = 2 ^ w * (a / 2 ^ w &&& b / 2 ^ w) + (a % 2 ^ w &&& b % 2 ^ w) := by
  rw [← Nat.and_div_two_pow, ← Nat.and_mod_two_pow]
  exact (Nat.div_add_mod _ _).symm

def m0 : Nat → Nat
  | 0 => 0
  | k + 1 => 4 * m0 k + 1
def m1 : Nat → Nat
  | 0 => 0
  | k + 1 => 16 * m1 k + 3
def m2 : Nat → Nat
  | 0 => 0
  | k + 1 => 256 * m2 k + 15
def D1 : Nat → Nat → Nat
  | 0, _ => 0
  | k + 1, x => 4 * D1 k (x / 4) + (x / 2 % 2 + x % 2)
def c4 (x : Nat) : Nat := x / 8 % 2 + x / 4 % 2 + (x / 2 % 2 + x % 2)
def D2 : Nat → Nat → Nat
  | 0, _ => 0
  | k + 1, x => 16 * D2 k (x / 16) + c4 x
def D3 : Nat → Nat → Nat
  | 0, _ => 0
  | k + 1, x => 256 * D3 k (x / 256) + (c4 (x / 16) + c4 x)

theorem s1_eq : ∀ (k x : Nat), (x / 2 &&& m0 k) + (x &&& m0 k) = D1 k x
  | 0, x => by simp [m0, D1]
  | k + 1, x => by
    have ih := s1_eq k (x / 4)
    rw [and_split (x / 2) _ 2, and_split x _ 2]
    have e1 : m0 (k + 1) / 2 ^ 2 = m0 k := by simp only [m0]; omega
    have e2 : m0 (k + 1) % 2 ^ 2 = 1 := by simp only [m0]; omega
    rw [e1, e2, Nat.and_one_is_mod, Nat.and_one_is_mod]
    simp only [D1]
    have e3 : x / 2 / 2 ^ 2 = x / 4 / 2 := by omega
    have e4 : x / 2 ^ 2 = x / 4 := by omega
    rw [e3, e4]
    generalize x / 4 / 2 &&& m0 k = A at *
    generalize x / 4 &&& m0 k = B at *
    generalize D1 k (x / 4) = C at *
    omega
theorem d1_low (k x : Nat) : D1 (k + 1) x % 4 = x / 2 % 2 + x % 2 ∧ D1 (k + 1) x / 4 = D1 k (x / 4) := by
  simp only [D1]; omega
theorem s2_eq : ∀ (k x : Nat), (D1 (2 * k) x / 4 &&& m1 k) + (D1 (2 * k) x &&& m1 k) = D2 k x
  | 0, x => by simp [m1, D2]
  | k + 1, x => by
    have ih := s2_eq k (x / 16)
    have h1 := d1_low (2 * k + 1) x
    have h2 := d1_low (2 * k) (x / 4)
    rw [show 2 * (k + 1) = 2 * k + 1 + 1 by omega, and_split (D1 (2 * k + 1 + 1) x / 4) _ 4, and_split (D1 (2 * k + 1 + 1) x) _ 4]
    have e1 : m1 (k + 1) / 2 ^ 4 = m1 k := by simp only [m1]; omega
    have e2 : m1 (k + 1) % 2 ^ 4 = 2 ^ 2 - 1 := by simp only [m1]; omega
    have e5 : x / 4 / 4 = x / 16 := by omega
    rw [e5] at h2
    have e3 : D1 (2 * k + 1 + 1) x / 4 / 2 ^ 4 = D1 (2 * k) (x / 16) / 4 := by omega
    have e4 : D1 (2 * k + 1 + 1) x / 2 ^ 4 = D1 (2 * k) (x / 16) := by omega
    rw [e1, e2, e3, e4, Nat.and_two_pow_sub_one_eq_mod, Nat.and_two_pow_sub_one_eq_mod]
    have e6 : x / 4 / 2 = x / 8 := by omega
    rw [e6] at h2
    have f1 : D1 (2 * k + 1 + 1) x / 4 % 2 ^ 4 % 2 ^ 2 = x / 8 % 2 + x / 4 % 2 := by
      rw [h1.2, ← h2.1]; omega
    have f2 : D1 (2 * k + 1 + 1) x % 2 ^ 4 % 2 ^ 2 = x / 2 % 2 + x % 2 := by
      rw [← h1.1]; omega
    rw [f1, f2]
    simp only [D2, c4]
    clear h1 h2 f1 f2 e1 e2 e3 e4
    omega
theorem c4_le (x : Nat) : c4 x ≤ 4 := by unfold c4; omega
theorem d2_low (k x : Nat) : D2 (k + 1) x % 16 = c4 x ∧ D2 (k + 1) x / 16 = D2 k (x / 16) := by
  have := c4_le x
  simp only [D2]; omega
theorem d2_mod (k x : Nat) : D2 k x % 16 ≤ 4 := by
  cases k with
  | zero => simp [D2]
  | succ k => rw [(d2_low k x).1]; exact c4_le x
theorem s3_eq : ∀ (k x : Nat), (D2 (2 * k) x / 16 + D2 (2 * k) x) &&& m2 k = D3 k x
  | 0, x => by simp [m2, D3]
  | k + 1, x => by
    have ih := s3_eq k (x / 256)
    have h1 := d2_low (2 * k + 1) x
    have h2 := d2_low (2 * k) (x / 16)
    have h3 := d2_mod (2 * k) (x / 256)
    have c1 := c4_le x
    have c2 := c4_le (x / 16)
    have e5 : x / 16 / 16 = x / 256 := by omega
    rw [e5] at h2
    rw [show 2 * (k + 1) = 2 * k + 1 + 1 by omega, and_split _ _ 8]
    have e1 : m2 (k + 1) / 2 ^ 8 = m2 k := by simp only [m2]; omega
    have e2 : m2 (k + 1) % 2 ^ 8 = 2 ^ 4 - 1 := by simp only [m2]; omega
    have e3 : (D2 (2 * k + 1 + 1) x / 16 + D2 (2 * k + 1 + 1) x) / 2 ^ 8 = D2 (2 * k) (x / 256) / 16 + D2 (2 * k) (x / 256) := by omega
    rw [e1, e2, e3, ih, Nat.and_two_pow_sub_one_eq_mod]
    simp only [D3]
    omega

/-- The bits from the lowest on. -/
def pcs (x : Nat) : Nat → Nat
  | 0 => 0
  | k + 1 => pcs x k + x / 2 ^ k % 2
theorem pcs_low (x : Nat) : ∀ k, pcs x (k + 1) = x % 2 + pcs (x / 2) k
  | 0 => by simp [pcs]
  | k + 1 => by
    rw [pcs, pcs_low x k, pcs]
    have : x / 2 ^ (k + 1) = x / 2 / 2 ^ k := by rw [Nat.div_div_eq_div_mul, Nat.pow_succ, Nat.mul_comm]
    rw [this]; omega
theorem pcs8 (x k : Nat) : pcs x (k + 8) = c4 (x / 16) + c4 x + pcs (x / 256) k := by
  rw [show k + 8 = k + 7 + 1 by omega, pcs_low, show k + 7 = k + 6 + 1 by omega, pcs_low, show k + 6 = k + 5 + 1 by omega, pcs_low, show k + 5 = k + 4 + 1 by omega, pcs_low, show k + 4 = k + 3 + 1 by omega, pcs_low, show k + 3 = k + 2 + 1 by omega, pcs_low, show k + 2 = k + 1 + 1 by omega, pcs_low, pcs_low]
  have e : x / 2 / 2 / 2 / 2 / 2 / 2 / 2 / 2 = x / 256 := by omega
  rw [e]
  unfold c4
  omega
def su : Nat → Nat → Nat
  | 0, _ => 0
  | k + 1, x => su k (x / 256) + (c4 (x / 16) + c4 x)
theorem su_pcs : ∀ (k x : Nat), su k x = pcs x (8 * k)
  | 0, x => rfl
  | k + 1, x => by
    rw [su, su_pcs k, show 8 * (k + 1) = 8 * k + 8 by omega, pcs8]
    omega
theorem dv {a q r : Nat} (h : a = 256 * q + r) (hr : r < 256) : a / 256 = q := by omega
theorem dv2 {a q r q' r' : Nat} (h : a = 256 * q + r) (hr : r < 256) (h' : q = 256 * q' + r') (hr' : r' < 256) : a / 65536 = q' := by omega
theorem dv4 {a q r q' r' : Nat} (h : a / 65536 = q) (h' : q / 65536 = q') : a / 4294967296 = q' := by omega
theorem fin_eq {d0 d1 d2 d3 d4 d5 d6 d7 a0 a1 a2 a3 a4 a5 a6 : Nat} (h0 : d0 ≤ 8) (h1 : d1 ≤ 8) (h2 : d2 ≤ 8) (h3 : d3 ≤ 8) (h4 : d4 ≤ 8) (h5 : d5 ≤ 8) (h6 : d6 ≤ 8) (h7 : d7 ≤ 8)
    (e0 : a0 = 256 * a1 + d0) (e1 : a1 = 256 * a2 + d1) (e2 : a2 = 256 * a3 + d2) (e3 : a3 = 256 * a4 + d3) (e4 : a4 = 256 * a5 + d4) (e5 : a5 = 256 * a6 + d5) (e6 : a6 = 256 * d7 + d6)
    {b c : Nat} (hb : b = a0 + a0 / 256) (hc : c = b + b / 65536) :
    (c + c / 4294967296) % 128 = d0 + d1 + d2 + d3 + d4 + d5 + d6 + d7 ∧ a0 < 2 ^ 60 ∧ b < 2 ^ 61 ∧ c < 2 ^ 62 ∧ c + c / 4294967296 < 2 ^ 63 := by
  rw [dv e0 (by omega)] at hb
  have b0 : b = 256 * (a1 + a2) + (d0 + d1) := by clear hc; omega
  have b1 : a1 + a2 = 256 * (a2 + a3) + (d1 + d2) := by clear hc hb b0; omega
  have b2 : a2 + a3 = 256 * (a3 + a4) + (d2 + d3) := by clear hc hb b0 b1; omega
  have b3 : a3 + a4 = 256 * (a4 + a5) + (d3 + d4) := by clear hc hb b0 b1 b2; omega
  have b4 : a4 + a5 = 256 * (a5 + a6) + (d4 + d5) := by clear hc hb b0 b1 b2 b3; omega
  have b5 : a5 + a6 = 256 * (a6 + d7) + (d5 + d6) := by clear hc hb b0 b1 b2 b3 b4; omega
  have b6 : a6 + d7 = 256 * d7 + (d6 + d7) := by clear hc hb b0 b1 b2 b3 b4 b5; omega
  rw [dv2 b0 (by omega) b1 (by omega)] at hc
  have g : ∃ A0 A1 A2 A3 A4 A5 : Nat, A0 = a0 ∧ A1 = a1 + a2 ∧ A2 = a2 + a3 ∧ A3 = a3 + a4 ∧ A4 = a4 + a5 ∧ A5 = a5 + a6 := ⟨_, _, _, _, _, _, rfl, rfl, rfl, rfl, rfl, rfl⟩
  obtain ⟨A0, A1, A2, A3, A4, A5, q0, q1, q2, q3, q4, q5⟩ := g
  have hb9 : a0 < 2 ^ 60 ∧ b < 2 ^ 61 := by
    clear hc b0 b1 b2 b3 b4 b5 b6 q0 q1 q2 q3 q4 q5
    omega
  have u0 : b / 65536 = A2 := by rw [q2]; exact dv2 b0 (by omega) b1 (by omega)
  have u1 : A2 / 65536 = A4 := by rw [q2, q4]; exact dv2 b2 (by omega) b3 (by omega)
  rw [← q1] at b0 b1
  rw [← q2] at b1 b2 hc
  rw [← q3] at b2 b3
  rw [← q4] at b3 b4
  rw [← q5] at b4 b5
  clear q0 q1 q2 q3 q4 q5 e0 e1 e2 e3 e4 e5 hb
  have c0 : c = 256 * (A1 + A3) + (d0 + d1 + d2 + d3) := by clear b1 b3 b4 b5 b6 u0 u1 e6 hb9; omega
  have c1 : A1 + A3 = 256 * (A2 + A4) + (d1 + d2 + d3 + d4) := by clear b0 b2 b4 b5 b6 u0 u1 e6 hb9 c0 hc; omega
  have c2 : A2 + A4 = 256 * (A3 + A5) + (d2 + d3 + d4 + d5) := by clear b0 b1 b3 b5 b6 u0 u1 e6 hb9 c0 hc c1; omega
  have c3 : A3 + A5 = 256 * (A4 + (a6 + d7)) + (d3 + d4 + d5 + d6) := by clear b0 b1 b2 b4 b6 u0 u1 e6 hb9 c0 hc c1 c2; omega
  have v0 : c / 65536 = A2 + A4 := dv2 c0 (by omega) c1 (by omega)
  have v1 : (A2 + A4) / 65536 = A4 + (a6 + d7) := dv2 c2 (by omega) c3 (by omega)
  have v2 : c / 4294967296 = A4 + (a6 + d7) := by omega
  rw [v2]
  clear v0 v1 v2 b1 b3 b5 c1 c2 c3 b0 b2
  have w1 : c < 2 ^ 62 := by clear c0 u1; omega
  have w2 : A4 < 2 ^ 61 := by clear c0 w1; omega
  refine ⟨?_, hb9.1, hb9.2, w1, by clear c0; omega⟩
  clear w1 w2 u0 u1 hc hb9
  omega
theorem last_eq {x a b c : Nat} (ha : a = D3 8 x) (hb : b = a + a / 256) (hc : c = b + b / 65536) : (c + c / 4294967296) % 128 = su 8 x ∧ a < 2 ^ 60 ∧ b < 2 ^ 61 ∧ c < 2 ^ 62 ∧ c + c / 4294967296 < 2 ^ 63 := by
  have h := fun y => c4_le y
  have d := fun y => Nat.add_le_add (h (y / 16)) (h y)
  have st := fun k y => show D3 (k + 1) y = 256 * D3 k (y / 256) + (c4 (y / 16) + c4 y) from rfl
  have s7 : D3 1 (x / 256 / 256 / 256 / 256 / 256 / 256 / 256) = c4 (x / 256 / 256 / 256 / 256 / 256 / 256 / 256 / 16) + c4 (x / 256 / 256 / 256 / 256 / 256 / 256 / 256) := by rw [st]; simp [D3]
  have s6 := st 1 (x / 256 / 256 / 256 / 256 / 256 / 256)
  rw [s7] at s6
  subst ha
  have := fin_eq (d x) (d (x / 256)) (d (x / 256 / 256)) (d (x / 256 / 256 / 256)) (d (x / 256 / 256 / 256 / 256)) (d (x / 256 / 256 / 256 / 256 / 256)) (d (x / 256 / 256 / 256 / 256 / 256 / 256)) (d (x / 256 / 256 / 256 / 256 / 256 / 256 / 256))
    (st 7 x) (st 6 _) (st 5 _) (st 4 _) (st 3 _) (st 2 _) s6 hb hc
  refine ⟨?_, this.2⟩
  rw [this.1]
  simp only [su]
  omega
end Go.Proofs.Ytfjdegohjnejkaa
