/-
  Lines: the reference's listing, quoted texts.
-/
import Derived.Test.YtllhdbdbdblimaaDoorLinP4
namespace Go.Proofs.YtllhdbdbdblimaaDoor
open Go AW
set_option linter.unusedVariables false
set_option linter.unusedSimpArgs false
theorem g27 (s : Str) (w : Int) (hw : w ≤ 9223372036854775807) (hs : s.length ≤ 10000000000) : ∀ (n k : Nat) (row : Int) (b : Str), n + k = s.length → 0 ≤ row → row ≤ 4 * k → b.length + (rws w row (s.drop k)).length ≤ 90000000000000 → G27 (.p1 s w row k (so (ofBs b))) = some (b ++ rws w row (s.drop k), 0)
  | 0, k, row, b, hn, h0, h1, hb => by
    rw [List.drop_of_length_le (by omega)] at hb ⊢
    have hb' : b.length + 2 ≤ 90000000000000 := hb
    rw [G27.eq_1, dfi (by omega), ls_so, if_pos (by simp [ofBs_len, ls]; omega), show (ls (some [(36 : Int), 10])) = ofBs [36, 10] from rfl, sapp_ofBs, ls_so, toBs_ofBs]
    simp [rws]
  | n + 1, k, row, b, hn, h0, h1, hb => by
    obtain ⟨c, hc⟩ := get_ex s (i := k) (by omega)
    have e1 : IntKind.wrap .i64 ((k : Int) + 1) = ((k + 1 : Nat) : Int) := wn1 k (by omega)
    have htd := td_len c
    have go : ∀ (row : Int) (b : Str), 0 ≤ row → row ≤ 4 * k → b.length + ((td c).length + (rws w (row + (td c).length) (s.drop (k + 1))).length) ≤ 90000000000000 → G27 (.p2 s w row k (td c) (so (ofBs b))) = some (b ++ (td c ++ rws w (row + (td c).length) (s.drop (k + 1))), 0) := by
      intro row b h0 h1 hb
      have e2 : IntKind.wrap .i64 (row + ((td c).length : Int)) = row + (td c).length := wi _ (by omega) (by omega)
      rw [G27.eq_2, ls_so, if_pos (by simp only [ofBs_len]; omega), e2, e1, sapp_ofBs]
      rw [g27 s w hw hs n (k + 1) _ _ (by omega) (by omega) (by omega) (by simp; omega)]
      simp
    rw [drop_cons hc] at hb ⊢
    rw [G27.eq_1, dti (by omega), ixs hc, sm, f46, sm]
    unfold rws at hb ⊢
    by_cases h1w : w > 1
    · rw [dti h1w]
      by_cases hr : row > 0
      · rw [dti hr, wi (w - 1) (by omega) (by omega), wi _ (by omega) (by omega)]
        by_cases hx : row + ((td c).length : Int) > w - 1
        · have hP : w > 1 ∧ row > 0 ∧ row + ((td c).length : Int) > w - 1 := ⟨h1w, hr, hx⟩
          rw [if_pos hP] at hb
          simp only [List.length_append, List.length_cons, List.length_nil] at hb
          have hg := go 0 (b ++ [92, 10]) (by omega) (by omega) (by simp; omega)
          rw [dti (by omega), ls_so, if_pos (by simp [ofBs_len, ls]; omega), show (ls (some [(92 : Int), 10])) = ofBs [92, 10] from rfl, sapp_ofBs, hg, if_pos hP]
          simp
        · have hP : ¬(w > 1 ∧ row > 0 ∧ row + ((td c).length : Int) > w - 1) := fun h => hx h.2.2
          rw [if_neg hP] at hb
          simp only [List.length_append] at hb
          rw [dfi (by omega), go row b h0 h1 (by omega), if_neg hP]
      · have hP : ¬(w > 1 ∧ row > 0 ∧ row + ((td c).length : Int) > w - 1) := fun h => hr h.2.1
        rw [if_neg hP] at hb
        simp only [List.length_append] at hb
        rw [dfi hr, go row b h0 h1 (by omega), if_neg hP]
    · have hP : ¬(w > 1 ∧ row > 0 ∧ row + ((td c).length : Int) > w - 1) := fun h => h1w h.1
      rw [if_neg hP] at hb
      simp only [List.length_append] at hb
      rw [dfi h1w, go row b h0 h1 (by omega), if_neg hP]
theorem f27 (s : Str) (w : Int) (hw : w ≤ 9223372036854775807) (hs : s.length ≤ 10000000000) : F27 s w = some (if w < 0 then ([], 2) else (rws w 0 s, 0)) := by
  unfold F27
  by_cases h : w < 0
  · rw [dti h, if_pos h]
  · rw [dfi h, if_neg h]
    have hl := rws_len w s 0
    have := g27 s w hw hs s.length 0 0 [] (by omega) (by omega) (by omega) (by simp; omega)
    simpa [ofBs, so] using this

/-! ### Quoted texts -/
def q1 (b : UInt8) : Str := if b = 34 then [92, 34] else td b
def qs (s : Str) : Str := (s.map q1).flatten ++ [34]
theorem q1_len (b : UInt8) : 1 ≤ (q1 b).length ∧ (q1 b).length ≤ 4 := by
  have := td_len b
  unfold q1
  split
  · simp
  · exact this
theorem qs_cons (b : UInt8) (s : Str) : qs (b :: s) = q1 b ++ qs s := by simp [qs]
theorem qs_len : ∀ s : Str, (qs s).length ≤ 4 * s.length + 1
  | [] => by simp [qs]
  | b :: s => by
    have h1 := qs_len s
    have h2 := q1_len b
    rw [qs_cons]; simp; omega
theorem b34 (b : UInt8) : (((b.toNat : Int)) == 34) = decide (b = 34) := b_eq b 34 (by omega)
theorem b92 (b : UInt8) : (((b.toNat : Int)) == 92) = decide (b = 92) := b_eq b 92 (by omega)
theorem g24 (s : Str) (hs : s.length ≤ 10000000000) : ∀ (n k : Nat) (b : Str), n + k = s.length → b.length + (qs (s.drop k)).length ≤ 90000000000000 → G24 (.p1 s (s.length : Int) k b) = some (b ++ qs (s.drop k))
  | 0, k, b, hn, hb => by
    rw [List.drop_of_length_le (by omega)] at hb ⊢
    have hb' : b.length + 1 ≤ 90000000000000 := hb
    rw [G24.eq_1, dfi (by omega), show (34 : Int) = ((34 : UInt8).toNat : Int) from rfl, bwb b (by omega), sm, bst _ (by simp; omega), sm]
    simp [qs]
  | n + 1, k, b, hn, hb => by
    obtain ⟨c, hc⟩ := get_ex s (i := k) (by omega)
    have e1 : IntKind.wrap .i64 ((k : Int) + 1) = ((k + 1 : Nat) : Int) := wn1 k (by omega)
    have hq := q1_len c
    rw [drop_cons hc, qs_cons] at hb ⊢
    simp only [List.length_append] at hb
    rw [G24.eq_1, dti (by omega), ixs hc, sm, b34, e1]
    by_cases h : c = 34
    · have eq : q1 c = [92, 34] := by simp [q1, h]
      rw [eq] at hb ⊢
      simp only [List.length_cons, List.length_nil] at hb
      rw [dti h, show (92 : Int) = ((92 : UInt8).toNat : Int) from rfl, bwb b (by omega), sm]
      simp only []
      rw [show (34 : Int) = ((34 : UInt8).toNat : Int) from rfl, bwb _ (by simp; omega), sm]
      simp only []
      rw [g24 s hs n (k + 1) _ (by omega) (by simp; omega)]
      simp
    · have eq : q1 c = td c := by simp [q1, h]
      rw [eq] at hb ⊢
      rw [dfi h, sm, f45, sm, bws b _ (by omega), sm]
      simp only []
      rw [g24 s hs n (k + 1) _ (by omega) (by simp; omega)]
      simp
theorem f24 (s : Str) (hs : s.length ≤ 10000000000) : F24 s = some (34 :: qs s) := by
  have hl := qs_len s
  unfold F24
  rw [show (34 : Int) = ((34 : UInt8).toNat : Int) from rfl, bwb [] (by simp), sm]
  have := g24 s hs s.length 0 [34] (by omega) (by simp; omega)
  simpa using this
theorem g25 (s : Str) (hs : s.length ≤ 10000000000) : ∀ (n k : Nat) (b : Str), n + k = s.length → b.length + (qs (s.drop k)).length ≤ 90000000000000 → G25 (.p1 s k (so (ofBs b))) = some (b ++ qs (s.drop k))
  | 0, k, b, hn, hb => by
    rw [List.drop_of_length_le (by omega)] at hb ⊢
    have hb' : b.length + 1 ≤ 90000000000000 := hb
    rw [G25.eq_1, dfi (by omega), ls_so, if_pos (by simp [ofBs_len, ls]; omega), show (ls (some [(34 : Int)])) = ofBs [34] from rfl, sapp_ofBs, ls_so, toBs_ofBs]
    simp [qs]
  | n + 1, k, b, hn, hb => by
    obtain ⟨c, hc⟩ := get_ex s (i := k) (by omega)
    have e1 : IntKind.wrap .i64 ((k : Int) + 1) = ((k + 1 : Nat) : Int) := wn1 k (by omega)
    have hq := q1_len c
    rw [drop_cons hc, qs_cons] at hb ⊢
    simp only [List.length_append] at hb
    rw [G25.eq_1, dti (by omega), ixs hc, sm, b34, e1, ls_so]
    by_cases h : c = 34
    · have eq : q1 c = [92, 34] := by simp [q1, h]
      rw [eq] at hb ⊢
      simp only [List.length_cons, List.length_nil] at hb
      rw [dti h, if_pos (by simp [ofBs_len, ls]; omega), show (ls (some [(92 : Int)])) = ofBs [92] from rfl, sapp_ofBs, ls_so, show (ls (some [(34 : Int)])) = ofBs [34] from rfl, if_pos (by simp [ofBs_len]; omega), sapp_ofBs]
      rw [g25 s hs n (k + 1) _ (by omega) (by simp; omega)]
      simp
    · have eq : q1 c = td c := by simp [q1, h]
      rw [eq] at hb ⊢
      rw [dfi h, sm, f46, sm, if_pos (by simp only [ofBs_len]; omega), sapp_ofBs]
      rw [g25 s hs n (k + 1) _ (by omega) (by simp; omega)]
      simp
theorem f25 (s : Str) (hs : s.length ≤ 10000000000) : F25 s = some (34 :: qs s) := by
  have hl := qs_len s
  unfold F25
  have := g25 s hs s.length 0 [34] (by omega) (by simp; omega)
  simpa [ofBs, so] using this
end Go.Proofs.YtllhdbdbdblimaaDoor
