/-
  Lines: told bytes, listings; the program's own trial.
-/
import Derived.Test.YtllhdbdbdblimaaDoorLinP2
namespace Go.Proofs.YtllhdbdbdblimaaDoor
open Go AW
set_option linter.unusedVariables false
set_option linter.unusedSimpArgs false
/-- A byte, told in octal digits. -/
def oct (c : Int) : Str := toBs (ls (some ([92, IntKind.wrap .u8 (48 + (shrI .u8 c 6)), IntKind.wrap .u8 (48 + (andI .u8 (shrI .u8 c 3) 7)), IntKind.wrap .u8 (48 + (andI .u8 c 7))] : List Int)))
def let_ (c : Int) : Int := g1.l.getD c.toNat 0
/-- How a byte is told. -/
def td (b : UInt8) : Str := if b = 92 then [92, 92] else if b.toNat < 14 ∧ let_ (b.toNat : Int) ≠ 0 then toBs [92, let_ (b.toNat : Int)] else if b.toNat < 32 ∨ 127 ≤ b.toNat then oct (b.toNat : Int) else toBs [(b.toNat : Int)]
theorem b_eq (b : UInt8) (n : Nat) (h : n < 256) : (((b.toNat : Int)) == (n : Int)) = decide (b = UInt8.ofNat n) := by
  rcases Decidable.em (b = UInt8.ofNat n) with e | e
  · subst e
    simp
    omega
  · have h2 : b.toNat ≠ n := fun e' => e (by rw [← e']; simp)
    simp only [e, decide_false, beq_eq_false_iff_ne, ne_eq]
    omega
theorem f45 (b : UInt8) : F45 (b.toNat : Int) = some (td b) := by
  have hb := b.toNat_lt
  have e92 : (((b.toNat : Int)) == 92) = decide (b = 92) := b_eq b 92 (by omega)
  have hw : IntKind.wrap .i64 (b.toNat : Int) = b.toNat := wn _ (by omega)
  have tail : (if (decide ((b.toNat : Int) < 32)) = true then (G45 (.p2 (b.toNat : Int))) else (if (decide ((b.toNat : Int) ≥ 127)) = true then (G45 (.p2 (b.toNat : Int))) else (some (toBs (ls (some ([(b.toNat : Int)] : List Int))))))) = some (if b.toNat < 32 ∨ 127 ≤ b.toNat then oct (b.toNat : Int) else toBs [(b.toNat : Int)]) := by
    by_cases h1 : b.toNat < 32
    · rw [dti (by omega), G45.eq_2, if_pos (.inl h1)]; rfl
    · by_cases h2 : 127 ≤ b.toNat
      · rw [dfi (by omega), dti (by omega), G45.eq_2, if_pos (.inr h2)]; rfl
      · rw [dfi (by omega), dfi (by omega), if_neg (by omega)]; rfl
  unfold F45 td
  rw [e92]
  by_cases h : b = 92
  · rw [dti h, if_pos h]
  · rw [dfi h, if_neg h, hw]
    by_cases h14 : b.toNat < 14
    · have hg : ix g1.l (b.toNat : Int) = some (let_ (b.toNat : Int)) := by
        rw [ix_nat]
        have hl : b.toNat < g1.l.length := by rw [g1.h]; exact h14
        simp [let_, List.getD, hl]
      rw [dti (by omega), if_pos ⟨by omega, by omega⟩, hg, sm]
      by_cases hz : let_ (b.toNat : Int) = 0
      · rw [if_neg (by simp [hz]), if_neg (by simp [hz]), G45.eq_1, tail]
      · rw [if_pos (by simpa using hz), if_pos ⟨by omega, by omega⟩, sm, if_pos ⟨h14, hz⟩]; rfl
    · rw [dfi (by omega), if_neg (by omega), G45.eq_1, tail]
/-- The reference's words for the same. -/
def oct2 (c : Int) : Str := toBs (ls (some ([92, IntKind.wrap .u8 (48 + (IntKind.wrap .u8 (Int.tdiv c 64))), IntKind.wrap .u8 (48 + (Int.tmod (IntKind.wrap .u8 (Int.tdiv c 8)) 8)), IntKind.wrap .u8 (48 + (Int.tmod c 8))] : List Int)))
noncomputable def td2 (b : UInt8) : Str := (F46 (b.toNat : Int)).getD []
theorem td2_some (b : UInt8) : F46 (b.toNat : Int) = some (td2 b) := by
  have : ∀ n : Fin 256, F46 ((UInt8.ofNat n.val).toNat : Int) = some (td2 (UInt8.ofNat n.val)) := by decide +kernel
  simpa using this ⟨b.toNat, b.toNat_lt⟩
theorem td2_td (b : UInt8) : td2 b = td b := by
  have : ∀ n : Fin 256, td2 (UInt8.ofNat n.val) = td (UInt8.ofNat n.val) := by decide +kernel
  simpa using this ⟨b.toNat, b.toNat_lt⟩
theorem f46 (b : UInt8) : F46 (b.toNat : Int) = some (td b) := by rw [td2_some, td2_td]
theorem td_len (b : UInt8) : 1 ≤ (td b).length ∧ (td b).length ≤ 4 := by
  have : ∀ n : Fin 256, 1 ≤ (td (UInt8.ofNat n.val)).length ∧ (td (UInt8.ofNat n.val)).length ≤ 4 := by decide +kernel
  simpa using this ⟨b.toNat, b.toNat_lt⟩

/-- A listing: how many letters the row has already, and what is left of the text. -/
def rws (w : Int) : Int → Str → Str
  | row, [] => [36, 10]
  | row, b :: s => if w > 1 ∧ row > 0 ∧ row + (td b).length > w - 1 then [92, 10] ++ (td b ++ rws w (td b).length s) else td b ++ rws w (row + (td b).length) s
theorem rws_len (w : Int) : ∀ (s : Str) (row : Int), (rws w row s).length ≤ 6 * s.length + 2
  | [], row => by simp [rws]
  | b :: s, row => by
    have h1 := rws_len w s (td b).length
    have h2 := rws_len w s (row + (td b).length)
    have := td_len b
    unfold rws
    split <;> simp <;> omega
theorem g26 (s : Str) (w : Int) (hw : w ≤ 9223372036854775807) (hs : s.length ≤ 10000000000) : ∀ (n k : Nat) (row : Int) (b : Str), n + k = s.length → 0 ≤ row → row ≤ 4 * k → b.length + (rws w row (s.drop k)).length ≤ 90000000000000 → G26 (.p1 s w row (s.length : Int) k b) = some (b ++ rws w row (s.drop k), 0)
  | 0, k, row, b, hn, h0, h1, hb => by
    rw [List.drop_of_length_le (by omega)] at hb ⊢
    have hb' : b.length + 2 ≤ 90000000000000 := hb
    rw [G26.eq_1, dfi (by omega), bws b _ (by simpa using by omega), sm, bst _ (by simp; omega), sm]
    simp [rws]
  | n + 1, k, row, b, hn, h0, h1, hb => by
    obtain ⟨c, hc⟩ := get_ex s (i := k) (by omega)
    have e1 : IntKind.wrap .i64 ((k : Int) + 1) = ((k + 1 : Nat) : Int) := wn1 k (by omega)
    have htd := td_len c
    have go : ∀ (row : Int) (b : Str), 0 ≤ row → row ≤ 4 * k → b.length + ((td c).length + (rws w (row + (td c).length) (s.drop (k + 1))).length) ≤ 90000000000000 → G26 (.p2 s w row (td c) (s.length : Int) k b) = some (b ++ (td c ++ rws w (row + (td c).length) (s.drop (k + 1))), 0) := by
      intro row b h0 h1 hb
      have e2 : IntKind.wrap .i64 (row + ((td c).length : Int)) = row + (td c).length := wi _ (by omega) (by omega)
      rw [G26.eq_2, bws b _ (by omega), sm, e2, e1]
      rw [g26 s w hw hs n (k + 1) _ _ (by omega) (by omega) (by omega) (by simp; omega)]
      simp
    rw [drop_cons hc] at hb ⊢
    rw [G26.eq_1, dti (by omega), ixs hc, sm, f45, sm]
    unfold rws at hb ⊢
    by_cases h1w : w > 1
    · rw [dti h1w]
      by_cases hr : row > 0
      · rw [dti hr, wi (row + _) (by omega) (by omega), wi (w - 1) (by omega) (by omega)]
        by_cases hx : row + ((td c).length : Int) > w - 1
        · have hP : w > 1 ∧ row > 0 ∧ row + ((td c).length : Int) > w - 1 := ⟨h1w, hr, hx⟩
          rw [if_pos hP] at hb
          simp only [List.length_append, List.length_cons, List.length_nil] at hb
          have hg := go 0 (b ++ [92, 10]) (by omega) (by omega) (by simp; omega)
          rw [dti hx, bws b _ (by simp; omega), sm, if_pos hP]
          simp only []
          rw [hg]
          simp
        · have hP : ¬(w > 1 ∧ row > 0 ∧ row + ((td c).length : Int) > w - 1) := fun h => hx h.2.2
          rw [if_neg hP] at hb
          simp only [List.length_append] at hb
          rw [dfi hx, go row b h0 h1 (by omega), if_neg hP]
      · have hP : ¬(w > 1 ∧ row > 0 ∧ row + ((td c).length : Int) > w - 1) := fun h => hr h.2.1
        rw [if_neg hP] at hb
        simp only [List.length_append] at hb
        rw [dfi hr, go row b h0 h1 (by omega), if_neg hP]
    · have hP : ¬(w > 1 ∧ row > 0 ∧ row + ((td c).length : Int) > w - 1) := fun h => h1w h.1
      rw [if_neg hP] at hb
      simp only [List.length_append] at hb
      rw [dfi h1w, go row b h0 h1 (by omega), if_neg hP]
theorem f26 (s : Str) (w : Int) (hw : w ≤ 9223372036854775807) (hs : s.length ≤ 10000000000) : F26 s w = some (if w < 0 then ([], 2) else (rws w 0 s, 0)) := by
  unfold F26
  by_cases h : w < 0
  · rw [dti h, if_pos h]
  · rw [dfi h, if_neg h]
    have hl := rws_len w s 0
    have := g26 s w hw hs s.length 0 0 [] (by omega) (by omega) (by omega) (by simp; omega)
    simpa using this
end Go.Proofs.YtllhdbdbdblimaaDoor
