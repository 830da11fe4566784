/-
  Sets of bytes: both cases.
-/
import Derived.Test.YtfjdegohjnejkaaSetP2
namespace Go.Proofs.Ytfjdegohjnejkaa
open Go AW
set_option linter.unusedVariables false
set_option linter.unusedSimpArgs false

/-- A letter's other case. -/
def other (n : Nat) : Nat := if 97 ≤ n ∧ n ≤ 122 then n - 32 else if 65 ≤ n ∧ n ≤ 90 then n + 32 else n
theorem other_lt {n : Nat} (h : n < 256) : other n < 256 := by unfold other; split <;> (try split) <;> omega
theorem other_other (n : Nat) : other (other n) = n := by
  unfold other
  by_cases h1 : 97 ≤ n ∧ n ≤ 122
  · rw [if_pos h1, if_neg (by omega), if_pos (by omega)]; omega
  · rw [if_neg h1]
    by_cases h2 : 65 ≤ n ∧ n ≤ 90
    · rw [if_pos h2, if_pos (by omega)]; omega
    · rw [if_neg h2, if_neg h1, if_neg h2]
def foldS (f : Nat → Bool) (n : Nat) : Bool := f n || f (other n)

theorem wrap8s (c : Nat) (h : 32 ≤ c) (h' : c < 256) : IntKind.wrap .u8 ((c : Int) - 32) = ((c - 32 : Nat) : Int) := by
  rw [show (c : Int) - 32 = ((c - 32 : Nat) : Int) by omega, wrap8 _ (by omega)]
theorem wrap8a (c : Nat) (h' : c + 1 < 256) : IntKind.wrap .u8 ((c : Int) + 1) = ((c + 1 : Nat) : Int) := by
  rw [show (c : Int) + 1 = ((c + 1 : Nat) : Int) by omega, wrap8 _ (by omega)]

theorem f31_loop (f : Nat → Bool) (t2 : Arr 4 Int) : ∀ (k c : Nat) (g : Nat → Bool), c + k = 123 → 97 ≤ c → (∀ n, n < 256 → g n = (f n || (decide (97 ≤ n ∧ n < c) && f (n - 32)) || (decide (65 ≤ n ∧ n < c - 32) && f (n + 32)))) →
    G31 (.p1 (c : Int) (sa f) t2 (sa g)) = some (sa (foldS f))
  | 0, c, g, hc, h97, hg => by
    have hc' : c = 123 := by omega
    subst hc'
    rw [G31.eq_1, df (by omega)]
    refine congrArg some (sa_ext fun n hn => ?_)
    rw [hg n hn, foldS]
    by_cases h1 : 97 ≤ n ∧ n ≤ 122
    · have : other n = n - 32 := by simp [other, h1]
      simp [this, show n < 123 by omega, h1.1, show ¬ n < 91 by omega]
    · by_cases h2 : 65 ≤ n ∧ n ≤ 90
      · have : other n = n + 32 := by simp [other, h1, h2]
        simp [this, show ¬ 97 ≤ n by omega, h2.1, show n < 91 by omega]
      · have : other n = n := by simp [other, h1, h2]
        rw [this]
        have e1 : decide (97 ≤ n ∧ n < 123) = false := decide_eq_false (by omega)
        have e2 : decide (65 ≤ n ∧ n < 123 - 32) = false := decide_eq_false (by omega)
        rw [e1, e2]; simp
  | k + 1, c, g, hc, h97, hg => by
    have add2 : ∀ n, n < 256 → (f c || f (c - 32)) = true → addS (addS g c) (c - 32) n = (f n || (decide (97 ≤ n ∧ n < c + 1) && f (n - 32)) || (decide (65 ≤ n ∧ n < c + 1 - 32) && f (n + 32))) := fun n hn hf => by
      simp only [addS]
      rw [hg n hn]
      by_cases e1 : n = c
      · subst e1
        have e2 : decide (97 ≤ n ∧ n < n + 1) = true := by simp; omega
        rw [e2]
        cases h1 : f n <;> cases h2 : f (n - 32) <;> simp_all
      · by_cases e2 : n = c - 32
        · subst e2
          have e3 : decide (65 ≤ c - 32 ∧ c - 32 < c + 1 - 32) = true := by simp; omega
          have e4 : c - 32 + 32 = c := by omega
          rw [e3, e4]
          cases h1 : f c <;> cases h2 : f (c - 32) <;> simp_all
        · have e3 : decide (97 ≤ n ∧ n < c + 1) = decide (97 ≤ n ∧ n < c) := by rw [decide_eq_decide]; omega
          have e4 : decide (65 ≤ n ∧ n < c + 1 - 32) = decide (65 ≤ n ∧ n < c - 32) := by rw [decide_eq_decide]; omega
          rw [e3, e4]; simp [e1, e2]
    have same : ∀ n, n < 256 → (f c || f (c - 32)) = false → g n = (f n || (decide (97 ≤ n ∧ n < c + 1) && f (n - 32)) || (decide (65 ≤ n ∧ n < c + 1 - 32) && f (n + 32))) := fun n hn hf => by
      simp only [Bool.or_eq_false_iff] at hf
      rw [hg n hn]
      by_cases e1 : n = c
      · subst e1
        have e3 : decide (97 ≤ n ∧ n < n) = false := by simp
        have e4 : decide (65 ≤ n ∧ n < n - 32) = false := decide_eq_false (by omega)
        have e5 : decide (65 ≤ n ∧ n < n + 1 - 32) = false := decide_eq_false (by omega)
        rw [e3, e4, e5, hf.2]; simp
      · by_cases e2 : n = c - 32
        · subst e2
          have e4 : c - 32 + 32 = c := by omega
          rw [e4, hf.1, hf.2]
          simp [show ¬ 97 ≤ c - 32 by omega]
        · have e3 : decide (97 ≤ n ∧ n < c + 1) = decide (97 ≤ n ∧ n < c) := by rw [decide_eq_decide]; omega
          have e4 : decide (65 ≤ n ∧ n < c + 1 - 32) = decide (65 ≤ n ∧ n < c - 32) := by rw [decide_eq_decide]; omega
          rw [e3, e4]
    have p2 : (f c || f (c - 32)) = true → G31 (.p2 (c : Int) (((c - 32 : Nat)) : Int) (sa f) t2 (sa g)) = some (sa (foldS f)) := fun hf => by
      rw [G31.eq_2, add_eq g c (by omega), bs, add_eq _ (c - 32) (by omega), bs, wrap8a c (by omega)]
      exact f31_loop f t2 k (c + 1) _ (by omega) (by omega) (fun n hn => add2 n hn hf)
    rw [G31.eq_1, dt (by omega), has_eq f c (by omega), bs, wrap8s c (by omega) (by omega), has_eq f (c - 32) (by omega), bs, wrap8a c (by omega)]
    cases h1 : f c with
    | true => rw [if_pos rfl]; exact p2 (by simp [h1])
    | false =>
      rw [if_neg (by simp)]
      cases h2 : f (c - 32) with
      | true => rw [if_pos rfl]; exact p2 (by simp [h2])
      | false =>
        rw [if_neg (by simp)]
        exact f31_loop f t2 k (c + 1) g (by omega) (by omega) (fun n hn => same n hn (by simp [h1, h2]))
theorem f31_eq (f : Nat → Bool) : F31 (sa f) = some (sa (foldS f)) := by
  unfold F31
  refine f31_loop f (Arr.rep 4 0) 26 97 f rfl (by omega) fun n hn => ?_
  have e1 : decide (97 ≤ n ∧ n < 97) = false := by simp
  have e2 : decide (65 ≤ n ∧ n < 97 - 32) = false := by simp
  rw [e1, e2]; simp

theorem f42_eq (n : Nat) (h : n < 256) : F42 (n : Int) = some ((other n : Nat) : Int) := by
  unfold F42 other
  by_cases h1 : 97 ≤ n
  · rw [dt (by omega)]
    by_cases h2 : n ≤ 122
    · rw [dt (by omega), if_pos ⟨h1, h2⟩, wrap8s n (by omega) h]
    · rw [df (by omega), if_neg (by omega), if_neg (by omega), G42, dt (by omega), df (by omega)]
  · rw [df (by omega), if_neg (by omega), G42]
    by_cases h2 : 65 ≤ n
    · rw [dt (by omega)]
      by_cases h3 : n ≤ 90
      · rw [dt (by omega), if_pos ⟨h2, h3⟩, show (n : Int) + 32 = ((n + 32 : Nat) : Int) by omega, wrap8 _ (by omega)]
      · rw [df (by omega), if_neg (by omega)]
    · rw [df (by omega), if_neg (by omega)]
theorem f32_loop (t2 : Arr 4 Int) (o : Sl Int) : ∀ (ns pre : List Nat) (h : Nat → Bool), ls o = zl (pre ++ ns) → (∀ n ∈ ns, n < 256) → (pre ++ ns).length ≤ 140737488351232 →
    G32 (.p1 o ((ls o).length : Int) (pre.length : Int) t2 (sa h)) = some (sa fun n => h n || decide (n ∈ ns.map other))
  | [], pre, h, ho, hn, hl => by
    rw [G32.eq_1, df (by rw [ho, zl_len]; simp)]
    simp
  | n :: ns, pre, h, ho, hn, hl => by
    simp only [List.length_append, List.length_cons] at hl
    have hlt := hn n (by simp)
    rw [G32.eq_1, dt (by rw [ho, zl_len]; simp; omega), ix_nat, show (ls o)[pre.length]? = some (n : Int) by rw [ho, zl_app]; simp [zl], bs, wrapi _ (by omega) (by omega), f42_eq n hlt, bs, add_eq' h (other n) (other_lt hlt), bs]
    have step := fun h' => f32_loop t2 o ns (pre ++ [n]) h' (by rw [ho]; simp) (fun x hx => hn x (by simp [hx])) (by simp; omega)
    simp only [List.length_append, List.length_singleton, Int.natCast_add, Int.cast_ofNat_Int] at step
    rw [step]
    congr 1; apply sa_ext; intro x hx
    by_cases e : x = other n
    · subst e; simp [addS]
    · simp [addS, e]
theorem f32_eq (f : Nat → Bool) : F32 (sa f) = some (sa (foldS f)) := by
  obtain ⟨o, h1, h2⟩ := f16_eq f
  unfold F32
  rw [h1, bs]
  refine (f32_loop (Arr.rep 4 0) o (bl f 256) [] f h2 (fun n hn => (bl_mem.1 hn).1) (by have := bl_len f 256; simp; omega)).trans (congrArg some (sa_ext fun n hn => ?_))
  rw [foldS]
  congr 1
  rw [Bool.eq_iff_iff, decide_eq_true_iff, List.mem_map]
  constructor
  · rintro ⟨m, hm, rfl⟩
    rw [other_other]
    exact (bl_mem.1 hm).2
  · intro h
    exact ⟨other n, bl_mem.2 ⟨other_lt hn, h⟩, other_other n⟩

end Go.Proofs.Ytfjdegohjnejkaa
