/-
  Lines: which digits may go on.
-/
import Derived.Test.YtllhdbdbdblimaaDoorLinP5
namespace Go.Proofs.YtllhdbdbdblimaaDoor
open Go AW
set_option linter.unusedVariables false
set_option linter.unusedSimpArgs false
/-- A byte that is told by digits. -/
def l4 (c : Nat) : Bool := (td (UInt8.ofNat c)).length == 4
def some4 (p : Nat → Prop) [DecidablePred p] : Bool := (List.range 256).any fun c => decide (p c) && l4 c
theorem some4_congr {p q : Nat → Prop} [DecidablePred p] [DecidablePred q] (h : ∀ c, c < 256 → l4 c = true → (p c ↔ q c)) : some4 p = some4 q := by
  have key : some4 p = true ↔ some4 q = true := by
    simp only [some4, List.any_eq_true, List.mem_range, Bool.and_eq_true, decide_eq_true_eq]
    constructor
    · rintro ⟨c, h1, h2, h3⟩; exact ⟨c, h1, (h c h1 h3).1 h2, h3⟩
    · rintro ⟨c, h1, h2, h3⟩; exact ⟨c, h1, (h c h1 h3).2 h2, h3⟩
  cases hp : some4 p <;> cases hq : some4 q <;> simp_all
theorem some4_true {p : Nat → Prop} [DecidablePred p] {c : Nat} (h1 : c < 256) (h2 : p c) (h3 : l4 c = true) : some4 p = true := by
  simp only [some4, List.any_eq_true, List.mem_range, Bool.and_eq_true, decide_eq_true_eq]
  exact ⟨c, h1, h2, h3⟩
theorem some4_false {p : Nat → Prop} [DecidablePred p] (h : ∀ c, c < 256 → l4 c = true → ¬ p c) : some4 p = false := by
  cases e : some4 p with
  | false => rfl
  | true =>
    simp only [some4, List.any_eq_true, List.mem_range, Bool.and_eq_true, decide_eq_true_eq] at e
    obtain ⟨c, h1, h2, h3⟩ := e
    exact absurd h2 (h c h1 h3)
theorem w8 (c : Nat) (h : c < 256) : IntKind.wrap .u8 (c : Int) = ((UInt8.ofNat c).toNat : Int) := by
  simp only [IntKind.wrap, IntKind.bits, IntKind.signed, Bool.false_and, Bool.false_eq_true, if_false, UInt8.toNat_ofNat']
  omega
theorem g56p2 (high : Nat) : ∀ (n c : Nat), n + c = 256 → G56 (.p2 (high : Int) (c : Int)) = some (some4 fun b => c ≤ b ∧ b ≤ high)
  | 0, c, hn => by
    have hf : some4 (fun b => c ≤ b ∧ b ≤ high) = false := some4_false fun b h1 _ h => by omega
    rw [hf, G56.eq_2]
    by_cases h : (c : Int) ≤ (high : Int)
    · rw [dti h, dfi (by omega)]
    · rw [dfi h]
  | n + 1, c, hn => by
    rw [G56.eq_2]
    by_cases h : (c : Int) ≤ (high : Int)
    · have e1 : IntKind.wrap .i64 ((c : Int) + 1) = ((c + 1 : Nat) : Int) := wn1 c (by omega)
      rw [dti h, dti (by omega), w8 c (by omega), f45, sm]
      by_cases h4 : l4 c = true
      · have h5 : ((td (UInt8.ofNat c)).length : Int) = 4 := by simp only [l4, beq_iff_eq] at h4; omega
        rw [if_pos (by rw [h5]; rfl), some4_true (c := c) (by omega) ⟨by omega, by omega⟩ h4]
      · have h5 : ¬ ((td (UInt8.ofNat c)).length : Int) = 4 := by simp only [l4, beq_iff_eq] at h4; omega
        rw [if_neg (by simpa using h5), e1, g56p2 high n (c + 1) (by omega)]
        congr 1
        refine some4_congr fun b hb hl => ⟨fun h => ⟨by omega, h.2⟩, fun h => ⟨?_, h.2⟩⟩
        rcases Nat.lt_or_ge c b with h' | h'
        · omega
        · have : b = c := by omega
          subst this; exact absurd hl h4
    · rw [dfi h, some4_false fun b h1 _ h2 => by omega]
theorem g56p2' (high c : Nat) : G56 (.p2 (high : Int) (c : Int)) = some (some4 fun b => c ≤ b ∧ b ≤ high) := by
  by_cases h : c ≤ 256
  · exact g56p2 high (256 - c) c (by omega)
  · rw [G56.eq_2, some4_false fun b h1 _ h2 => by omega]
    by_cases h : (c : Int) ≤ (high : Int)
    · rw [dti h, dfi (by omega)]
    · rw [dfi h]
/-- So many octal digits (less one) may begin a byte that is told so. -/
def gs (n k : Nat) : Bool := some4 fun c => c / 8 ^ (2 - k) = n
theorem f56 (n k : Nat) (hn : n ≤ 100000) (hk : k ≤ 2) : F56 (n : Int) (k : Int) = some (gs n k) := by
  have s8 : ∀ x : Nat, x ≤ 10000000 → IntKind.wrap .i64 (8 * (x : Int)) = ((8 * x : Nat) : Int) := fun x hx => by rw [wi _ (by omega) (by omega)]; omega
  have s7 : ∀ x : Nat, x ≤ 100000000 → IntKind.wrap .i64 ((x : Int) + 7) = ((x + 7 : Nat) : Int) := fun x hx => by rw [wi _ (by omega) (by omega)]; omega
  have w1 : IntKind.wrap .i64 (0 + 1) = 1 := rfl
  have w2 : IntKind.wrap .i64 (1 + 1) = 2 := rfl
  unfold F56 gs
  match k, hk with
  | 0, _ =>
    rw [show ((0 : Nat) : Int) = 0 from rfl, G56.eq_1, dti (by omega), w1, s8 n (by omega), s7 _ (by omega), G56.eq_1, dti (by omega), w2, s8 _ (by omega), s8 _ (by omega), s7 _ (by omega), G56.eq_1, dfi (by omega), g56p2']
    congr 1
    exact some4_congr fun c _ _ => by omega
  | 1, _ =>
    rw [show ((1 : Nat) : Int) = 1 from rfl, G56.eq_1, dti (by omega), w2, s8 n (by omega), s7 _ (by omega), G56.eq_1, dfi (by omega), g56p2']
    congr 1
    exact some4_congr fun c _ _ => by omega
  | 2, _ =>
    rw [show ((2 : Nat) : Int) = 2 from rfl, G56.eq_1, dfi (by omega), g56p2']
    congr 1
    exact some4_congr fun c _ _ => by omega
theorem tdiv8 (n : Nat) (h : n ≤ 100000) : IntKind.wrap .i64 (Int.tdiv (n : Int) 8) = ((n / 8 : Nat) : Int) := by
  have : Int.tdiv (n : Int) 8 = ((n / 8 : Nat) : Int) := by
    rw [Int.tdiv_eq_ediv_of_nonneg (by omega)]; omega
  rw [this, wn _ (by omega)]
theorem g57p2 (n k b : Nat) (hk : k ≤ 2) (hb : b < 256) : G57 (.p2 (n : Int) (k : Int) (b : Int) (b : Int) 2) = if b / 8 ^ (2 - k) = n then some true else G57 (.p1 (n : Int) (k : Int) ((b + 1 : Nat) : Int)) := by
  have e1 : IntKind.wrap .i64 ((b : Int) + 1) = ((b + 1 : Nat) : Int) := wn1 b (by omega)
  have w1 : IntKind.wrap .i64 (2 - 1) = 1 := rfl
  have w0 : IntKind.wrap .i64 (1 - 1) = 0 := rfl
  have fin : ∀ m : Nat, (if ((m : Int) == (n : Int)) = true then some true else G57 (.p1 (n : Int) (k : Int) (IntKind.wrap .i64 ((b : Int) + 1)))) = if m = n then some true else G57 (.p1 (n : Int) (k : Int) ((b + 1 : Nat) : Int)) := fun m => by
    rw [e1]
    by_cases h : m = n
    · rw [if_pos (by simpa using congrArg Int.ofNat h), if_pos h]
    · rw [if_neg (by simp; omega), if_neg h]
  match k, hk with
  | 0, _ =>
    rw [show ((0 : Nat) : Int) = 0 from rfl] at fin ⊢
    rw [G57.eq_2, dti (by omega), tdiv8 b (by omega), w1, G57.eq_2, dti (by omega), tdiv8 _ (by omega), w0, G57.eq_2, dfi (by omega), fin]
    rw [show b / 8 / 8 = b / 8 ^ (2 - 0) by omega]
  | 1, _ =>
    rw [show ((1 : Nat) : Int) = 1 from rfl] at fin ⊢
    rw [G57.eq_2, dti (by omega), tdiv8 b (by omega), w1, G57.eq_2, dfi (by omega), fin]
  | 2, _ =>
    rw [show ((2 : Nat) : Int) = 2 from rfl] at fin ⊢
    rw [G57.eq_2, dfi (by omega), fin]
    simp
theorem g57 (n k : Nat) (hk : k ≤ 2) : ∀ (m b : Nat), m + b = 256 → G57 (.p1 (n : Int) (k : Int) (b : Int)) = some (some4 fun c => b ≤ c ∧ c / 8 ^ (2 - k) = n)
  | 0, b, hm => by
    rw [G57.eq_1, dfi (by omega), some4_false fun c h1 _ h2 => by omega]
  | m + 1, b, hm => by
    have e1 : IntKind.wrap .i64 ((b : Int) + 1) = ((b + 1 : Nat) : Int) := wn1 b (by omega)
    have step : ¬ (l4 b = true ∧ b / 8 ^ (2 - k) = n) → some4 (fun c => b + 1 ≤ c ∧ c / 8 ^ (2 - k) = n) = some4 (fun c => b ≤ c ∧ c / 8 ^ (2 - k) = n) := fun hx => some4_congr fun c hc hl => ⟨fun h => ⟨by omega, h.2⟩, fun h => ⟨by
      rcases Nat.lt_or_ge b c with h' | h'
      · omega
      · have : c = b := by omega
        subst this; exact absurd ⟨hl, h.2⟩ hx, h.2⟩⟩
    rw [G57.eq_1, dti (by omega), w8 b (by omega), f46, sm]
    by_cases h4 : l4 b = true
    · have h5 : ((td (UInt8.ofNat b)).length : Int) = 4 := by simp only [l4, beq_iff_eq] at h4; omega
      rw [if_neg (by rw [h5]; decide), g57p2 n k b hk (by omega)]
      by_cases hx : b / 8 ^ (2 - k) = n
      · rw [if_pos hx, some4_true (c := b) (by omega) ⟨by omega, hx⟩ h4]
      · rw [if_neg hx, g57 n k hk m (b + 1) (by omega), step (fun h => hx h.2)]
    · have h5 : ¬ ((td (UInt8.ofNat b)).length : Int) = 4 := by simp only [l4, beq_iff_eq] at h4; omega
      rw [if_pos (by simpa using h5), e1, g57 n k hk m (b + 1) (by omega), step (fun h => h4 h.1)]
theorem f57 (n d k : Nat) (hk : k ≤ 2) (hn : n ≤ 10000) (hd : d < 8) : F57 (n : Int) ((d + 48 : Nat) : Int) (k : Int) = some (gs (8 * n + d) k) := by
  have e0 : IntKind.wrap .i64 (IntKind.wrap .u8 (((d + 48 : Nat) : Int) - 48)) = (d : Int) := by
    rw [show (((d + 48 : Nat) : Int) - 48) = (d : Int) by omega]
    have : IntKind.wrap .u8 (d : Int) = d := by
      simp only [IntKind.wrap, IntKind.bits, IntKind.signed, Bool.false_and, Bool.false_eq_true, if_false]; omega
    rw [this, wn _ (by omega)]
  have e1 : IntKind.wrap .i64 (8 * (n : Int)) = ((8 * n : Nat) : Int) := by rw [wi _ (by omega) (by omega)]; omega
  have e2 : IntKind.wrap .i64 (((8 * n : Nat) : Int) + (d : Int)) = ((8 * n + d : Nat) : Int) := by rw [wi _ (by omega) (by omega)]; omega
  unfold F57 gs
  rw [e0, e1, e2]
  have := g57 (8 * n + d) k hk 256 0 rfl
  rw [show ((0 : Nat) : Int) = 0 from rfl] at this
  rw [this]
  congr 1
  exact some4_congr fun c _ _ => by omega
end Go.Proofs.YtllhdbdbdblimaaDoor
