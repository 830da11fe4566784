/-
  Sets of bytes: how a set is printed.
-/
import Derived.Test.YtfjdegohjnejkaaSetP5
import Derived.Test.YtfjdegohjnejkaaSetP3
namespace Go.Proofs.Ytfjdegohjnejkaa
open Go AW
set_option linter.unusedVariables false
set_option linter.unusedSimpArgs false

noncomputable section
theorem it {p : Prop} [Decidable p] {α : Type} {x y : Option α} (h : p) : (if p then x else y) = x := if_pos h
theorem f41_ex (c : Int) : ∃ t, F41 c = some t ∧ t.length ≤ 5 := by
  have hg : G41 (.p1 c) = some ((([91, 46] : Str) ++ (toBs ([c] : List Int))) ++ ([46, 93] : Str)) := by
    unfold G41
    simp [toBs, ls]
  have hl : ((([91, 46] : Str) ++ (toBs ([c] : List Int))) ++ ([46, 93] : Str)).length ≤ 5 := by simp [toBs]
  unfold F41
  rw [hg]
  repeat' split
  all_goals first
    | exact ⟨_, rfl, hl⟩
    | exact ⟨_, rfl, by simp [toBs, ls]⟩
def tol (n : Nat) : Str := (F41 (n : Int)).getD []
theorem f41_eq (n : Nat) : F41 (n : Int) = some (tol n) := by
  obtain ⟨t, h, _⟩ := f41_ex n
  rw [tol, h]; rfl
theorem tol_len (n : Nat) : (tol n).length ≤ 5 := by
  obtain ⟨t, h, h'⟩ := f41_ex n
  rw [tol, h]; exact h'
theorem f43_eq (n : Nat) : F43 (n : Int) = some (tol n) := (show F43 (n : Int) = F41 (n : Int) from rfl).trans (f41_eq n)

def piece (a z : Nat) : Str := tol a ++ ((if z > a + 1 then [45] else []) ++ (if z > a then tol z else []))
theorem piece_len (a z : Nat) : (piece a z).length ≤ 11 := by
  have := tol_len a
  have := tol_len z
  unfold piece
  split <;> split <;> simp <;> omega
def prQ (a z : Nat) : List Nat → Str
  | [] => piece a z
  | x :: r => if x = z + 1 then prQ a x r else piece a z ++ prQ x x r
def prP : List Nat → Str
  | [] => []
  | c :: r => prQ c c r
theorem prQ_ne (a z : Nat) (r : List Nat) (h : ∀ x ∈ r, x ≠ z + 1) : prQ a z r = piece a z ++ prP r := by
  cases r with
  | nil => simp [prQ, prP]
  | cons x r => rw [prQ, if_neg (h x (by simp)), prP]

/-! ### Over the list -/
theorem at_zl {o : Sl Int} {l : List Nat} (ho : ls o = zl l) {i a : Nat} (h : l[i]? = some a) : ix (ls o) (i : Int) = some (a : Int) := by
  rw [ix_nat, ho]; simp [zl, h]
theorem g24_p6 {o : Sl Int} {l : List Nat} (ho : ls o = zl l) {i k a z : Nat} (hi : l[i]? = some a) (hk : l[k]? = some z) (hik : i ≤ k) (hd : z = a + (k - i)) (hk' : k < 256) (out : Str) (hout : out.length ≤ 4000) :
    G24 (.p6 out o (i : Int) (k : Int)) = G24 (.p4 (out ++ piece a z) o ((k + 1 : Nat) : Int)) := by
  have la := tol_len a
  have lz := tol_len z
  have w : IntKind.wrap .i64 ((k : Int) - (i : Int)) = ((k - i : Nat) : Int) := by rw [wrapi _ (by omega) (by omega)]; omega
  have w1 : IntKind.wrap .i64 ((k : Int) + 1) = ((k + 1 : Nat) : Int) := by rw [wrapi _ (by omega) (by omega)]; omega
  rw [G24.eq_6, w, w1]
  by_cases h0 : k = i
  · have : piece a z = tol a := by
      unfold piece
      rw [if_neg (by omega), if_neg (by omega)]; simp
    rw [this, if_pos (by simp; omega), at_zl ho hi, bs, f41_eq, bs, if_pos (by omega)]
  · rw [if_neg (by simp; omega)]
    by_cases h1 : k = i + 1
    · have : piece a z = tol a ++ tol z := by
        unfold piece
        rw [if_neg (by omega), if_pos (by omega)]; simp
      rw [this, if_pos (by simp; omega), at_zl ho hi, bs, f41_eq, bs, at_zl ho hk, bs, f41_eq, bs, if_pos (by omega), if_pos (by simp; omega)]
    · have : piece a z = (tol a ++ [45]) ++ tol z := by
        unfold piece
        rw [if_pos (by omega), if_pos (by omega)]; simp
      rw [this, if_neg (by simp; omega), at_zl ho hi, bs, f41_eq, bs, if_pos (by simp; omega), at_zl ho hk, bs, f41_eq, bs, if_pos (by simp; omega), if_pos (by simp; omega)]
theorem g24_end {o : Sl Int} {l : List Nat} (ho : ls o = zl l) (out : Str) (hout : out.length ≤ 4000) : G24 (.p4 out o ((l.length : Nat) : Int)) = some (out ++ [93]) := by
  rw [G24.eq_4, df (by rw [ho, zl_len]; omega), if_pos (by simp; omega)]
theorem g24_run {o : Sl Int} {l : List Nat} (ho : ls o = zl l) (hl : l.length ≤ 256) (hs : l.Pairwise (· < ·)) (hb : ∀ n ∈ l, n < 256) : ∀ (r pre : List Nat) (a z i : Nat) (out : Str), l = pre ++ z :: r → l[i]? = some a → i ≤ pre.length → z = a + (pre.length - i) → out.length ≤ 1 + 11 * i →
    G24 (.p5 out o (i : Int) (pre.length : Int)) = some (out ++ (prQ a z r ++ [93]))
  | [], pre, a, z, i, out, e, hi, hik, hd, hout => by
    have hlen : l.length = pre.length + 1 := by rw [e]; simp
    have hz : l[pre.length]? = some z := by rw [e]; simp
    have hp := piece_len a z
    rw [G24.eq_5, wrapi _ (by omega) (by omega), df (by rw [ho, zl_len]; omega), g24_p6 ho hi hz hik hd (by omega) out (by omega)]
    have := g24_end ho (out ++ piece a z) (by simp; omega)
    rw [hlen] at this
    rw [this, prQ]; simp
  | x :: r, pre, a, z, i, out, e, hi, hik, hd, hout => by
    have hlen : l.length = pre.length + 1 + (r.length + 1) := by rw [e]; simp; omega
    have hz : l[pre.length]? = some z := by rw [e]; simp
    have hx : l[pre.length + 1]? = some x := by rw [e]; simp
    have hx256 : x < 256 := hb x (by rw [e]; simp)
    have hzx : z < x := by
      rw [e] at hs
      have := (List.pairwise_append.1 hs).2.1
      rw [List.pairwise_cons] at this
      exact this.1 x (by simp)
    have hp := piece_len a z
    have w1 : IntKind.wrap .i64 ((pre.length : Int) + 1) = ((pre.length + 1 : Nat) : Int) := by rw [wrapi _ (by omega) (by omega)]; omega
    rw [G24.eq_5, w1, dt (by rw [ho, zl_len]; omega), at_zl ho hx, bs, at_zl ho hz, bs, wrap8a z (by omega)]
    by_cases h : x = z + 1
    · rw [if_pos (by simp; omega), prQ, if_pos h]
      have := g24_run ho hl hs hb r (pre ++ [z]) a x i out (by rw [e]; simp) hi (by simp; omega) (by simp; omega) hout
      simpa using this
    · rw [if_neg (by simp; omega), prQ, if_neg h, g24_p6 ho hi hz hik hd (by omega) out (by omega), G24.eq_4, dt (by rw [ho, zl_len]; omega)]
      have := g24_run ho hl hs hb r (pre ++ [z]) x x (pre.length + 1) (out ++ piece a z) (by rw [e]; simp) hx (by simp) (by simp) (by simp; omega)
      simpa using this
theorem bl_sorted (f : Nat → Bool) (m : Nat) : (bl f m).Pairwise (· < ·) := (List.pairwise_lt_range).filter _
theorem g24_p3 (f : Nat → Bool) (out : Str) (hout : out.length ≤ 1) : G24 (.p3 out (sa f)) = some (out ++ (prP (bl f 256) ++ [93])) := by
  obtain ⟨o, h1, ho⟩ := f15_eq f
  rw [G24.eq_3, h1, bs]
  have hl := bl_len f 256
  have hb := fun n (h : n ∈ bl f 256) => (bl_mem.1 h).1
  have hs := bl_sorted f 256
  generalize bl f 256 = l at *
  cases l with
  | nil =>
    have := g24_end ho out (by omega)
    simpa [prP] using this
  | cons c r =>
    rw [G24.eq_4, dt (by rw [ho, zl_len]; simp)]
    have := g24_run ho hl hs hb r [] c c 0 out rfl (by simp) (by simp) (by simp) (by omega)
    simpa [prP] using this

/-! ### Over the bytes -/
def lo (f : Nat → Bool) (c : Nat) : Nat → List Nat
  | 0 => []
  | k + 1 => if f c = true then c :: lo f (c + 1) k else lo f (c + 1) k
theorem lo_ge (f : Nat → Bool) : ∀ (k c x : Nat), x ∈ lo f c k → c ≤ x
  | 0, c, x, h => by simp [lo] at h
  | k + 1, c, x, h => by
    have ih := lo_ge f k (c + 1) x
    rw [lo] at h
    split at h
    · rcases List.mem_cons.1 h with h | h
      · omega
      · have := ih h; omega
    · have := ih h; omega
theorem bl_lo (f : Nat → Bool) : ∀ (k c : Nat), bl f (c + k) = bl f c ++ lo f c k
  | 0, c => by simp [lo]
  | k + 1, c => by
    have ih := bl_lo f k (c + 1)
    rw [show c + (k + 1) = c + 1 + k by omega, ih, bl_succ, lo]
    split <;> simp
theorem g33_p6 (f : Nat → Bool) (a z : Nat) (haz : a ≤ z) (hz : z < 256) (out : Str) (hout : out.length ≤ 4000) :
    G33 (.p6 out (z : Int) (a : Int) (sa f)) = G33 (.p4 (out ++ piece a z) ((z + 1 : Nat) : Int) (sa f)) := by
  have la := tol_len a
  have lz := tol_len z
  have w1 : IntKind.wrap .i64 ((a : Int) + 1) = ((a + 1 : Nat) : Int) := by rw [wrapi _ (by omega) (by omega)]; omega
  have w2 : IntKind.wrap .i64 ((z : Int) + 1) = ((z + 1 : Nat) : Int) := by rw [wrapi _ (by omega) (by omega)]; omega
  rw [G33.eq_6, wrap8 a (by omega), f43_eq, bs, if_pos (by omega), w1]
  unfold piece
  by_cases h1 : z > a + 1
  · rw [dt (by omega), if_pos (by simp; omega), G33.eq_7, dt (by omega), wrap8 z hz, f43_eq, bs, if_pos (by simp; omega), w2, if_pos h1, if_pos (by omega)]
    simp
  · rw [df (by omega), G33.eq_7, if_neg h1]
    by_cases h2 : z > a
    · rw [dt (by omega), wrap8 z hz, f43_eq, bs, if_pos (by simp; omega), w2, if_pos h2]
      simp
    · rw [df (by omega), w2, if_neg h2]
      simp
theorem g33_run (f : Nat → Bool) : ∀ k : Nat, (∀ (c : Nat) (out : Str), c + k = 256 → out.length ≤ 1 + 11 * c → G33 (.p4 out (c : Int) (sa f)) = some (out ++ (prP (lo f c k) ++ [93]))) ∧
    (∀ (a c : Nat) (out : Str), c + k + 1 = 256 → a ≤ c → out.length ≤ 1 + 11 * a → G33 (.p5 out (c : Int) (a : Int) (sa f)) = some (out ++ (prQ a c (lo f (c + 1) k) ++ [93]))) := by
  have wi : ∀ c : Nat, c < 256 → IntKind.wrap .i64 ((c : Int) + 1) = ((c + 1 : Nat) : Int) := fun c h => by rw [wrapi _ (by omega) (by omega)]; omega
  have stop : ∀ (k a c : Nat) (out : Str), c + k + 1 = 256 → a ≤ c → out.length ≤ 1 + 11 * a → (∀ x ∈ lo f (c + 1) k, x ≠ c + 1) →
      (∀ (c : Nat) (out : Str), c + k = 256 → out.length ≤ 1 + 11 * c → G33 (.p4 out (c : Int) (sa f)) = some (out ++ (prP (lo f c k) ++ [93]))) →
      G33 (.p6 out (c : Int) (a : Int) (sa f)) = some (out ++ (prQ a c (lo f (c + 1) k) ++ [93])) := fun k a c out hc hac hout hne ih => by
    have hp := piece_len a c
    rw [g33_p6 f a c hac (by omega) out (by omega), ih (c + 1) (out ++ piece a c) (by omega) (by simp; omega), prQ_ne a c _ hne]
    simp
  intro k
  induction k with
  | zero =>
    have p4 : ∀ (c : Nat) (out : Str), c + 0 = 256 → out.length ≤ 1 + 11 * c → G33 (.p4 out (c : Int) (sa f)) = some (out ++ (prP (lo f c 0) ++ [93])) := fun c out hc hout => by
      rw [G33.eq_4, df (by omega), if_pos (by simp; omega), lo, prP]
      simp
    refine ⟨p4, fun a c out hc hac hout => ?_⟩
    rw [G33.eq_5, df (by omega)]
    exact stop 0 a c out hc hac hout (by simp [lo]) p4
  | succ k ih =>
    have p4 : ∀ (c : Nat) (out : Str), c + (k + 1) = 256 → out.length ≤ 1 + 11 * c → G33 (.p4 out (c : Int) (sa f)) = some (out ++ (prP (lo f c (k + 1)) ++ [93])) := fun c out hc hout => by
      rw [G33.eq_4, dt (by omega), wrap8 c (by omega), has_eq' f c (by omega), bs, lo]
      cases h : f c with
      | false =>
        rw [if_pos (by simp), if_neg (by simp), wi c (by omega)]
        exact ih.1 (c + 1) out (by omega) (by omega)
      | true =>
        rw [if_neg (by simp), if_pos rfl, prP]
        exact ih.2 c c out (by omega) (by omega) hout
    refine ⟨p4, fun a c out hc hac hout => ?_⟩
    rw [G33.eq_5, dt (by omega), wi c (by omega), wrap8 (c + 1) (by omega), has_eq' f (c + 1) (by omega), bs]
    cases h : f (c + 1) with
    | true =>
      rw [if_pos rfl, lo, if_pos h, prQ, if_pos rfl]
      exact ih.2 a (c + 1) out (by omega) (by omega) hout
    | false =>
      rw [if_neg (by simp)]
      refine stop (k + 1) a c out hc hac hout (fun x hx e => ?_) p4
      rw [lo, if_neg (by simp [h])] at hx
      have := lo_ge f k (c + 1 + 1) x hx
      omega
theorem g33_p3 (f : Nat → Bool) (out : Str) (hout : out.length ≤ 1) : G33 (.p3 out (sa f)) = some (out ++ (prP (bl f 256) ++ [93])) := by
  have e : bl f 256 = lo f 0 256 := by
    have := bl_lo f 256 0
    simpa [bl] using this
  rw [G33.eq_3, e]
  exact (g33_run f 256).1 0 out rfl (by omega)

/-- The text that a set is printed as. -/
def prt (f : Nat → Bool) : Str := if (128 < cnt f 256 ∧ cnt f 256 < 256) ∨ cnt f 256 = 0 then [94] ++ (prP (bl (fun n => !f n) 256) ++ [93]) else [] ++ (prP (bl f 256) ++ [93])
theorem f24_eq (f : Nat → Bool) : F24 (sa f) = some (prt f) := by
  have p1 : G24 (.p1 (sa f)) = some ([94] ++ (prP (bl (fun n => !f n) 256) ++ [93])) := by
    rw [G24.eq_1, f29_eq, bs, g24_p3 _ _ (by simp)]
  have p3 := g24_p3 f [] (by simp)
  unfold F24 prt
  rw [f19_eq, bs]
  by_cases h1 : 128 < cnt f 256
  · rw [dt (by omega)]
    by_cases h2 : cnt f 256 < 256
    · rw [dt (by omega), p1, if_pos (Or.inl ⟨h1, h2⟩)]
    · rw [df (by omega), G24.eq_2, if_neg (by simp; omega), p3, if_neg (by omega)]
  · rw [df (by omega), G24.eq_2]
    by_cases h0 : cnt f 256 = 0
    · rw [if_pos (by simp; omega), p1, if_pos (Or.inr h0)]
    · rw [if_neg (by simp; omega), p3, if_neg (by omega)]
theorem f33_eq (f : Nat → Bool) : F33 (sa f) = some (prt f) := by
  have p1 : G33 (.p1 (sa f)) = some ([94] ++ (prP (bl (fun n => !f n) 256) ++ [93])) := by
    rw [G33.eq_1, f30_eq, bs, g33_p3 _ _ (by simp)]
  have p3 := g33_p3 f [] (by simp)
  obtain ⟨o, h, ho⟩ := f16_eq f
  unfold F33 prt
  rw [h, bs, ho, zl_len, show (bl f 256).length = cnt f 256 from rfl]
  by_cases h1 : 128 < cnt f 256
  · rw [dt (by omega)]
    by_cases h2 : cnt f 256 < 256
    · rw [dt (by omega), p1, if_pos (Or.inl ⟨h1, h2⟩)]
    · rw [df (by omega), G33.eq_2, if_neg (by simp; omega), p3, if_neg (by omega)]
  · rw [df (by omega), G33.eq_2]
    by_cases h0 : cnt f 256 = 0
    · rw [if_pos (by simp; omega), p1, if_pos (Or.inr h0)]
    · rw [if_neg (by simp; omega), p3, if_neg (by omega)]
end
end Go.Proofs.Ytfjdegohjnejkaa
