/-
  Lines: a listing's rows; the law of what is told.
-/
import Derived.Test.YtllhdbdbdblimaaDoorLinP10
namespace Go.Proofs.YtllhdbdbdblimaaDoor
open Go AW Go.RowKit Go.WideShapes Go.ChangeShapes
set_option linter.unusedVariables false
set_option linter.unusedSimpArgs false
theorem sp_plain : ∀ (x X acc : Str), (∀ c ∈ x, c ≠ 10) → sp acc (x ++ X) = sp (acc ++ x) X
  | [], X, acc, _ => by simp
  | c :: x, X, acc, h => by
    have hc : c ≠ 10 := h c (by simp)
    have := sp_plain x X (acc ++ [c]) fun d hd => h d (by simp [hd])
    simp only [List.cons_append, sp, if_neg hc]
    rw [this]; simp
def okC (t : Str) : Prop := ∀ c ∈ t, 32 ≤ c.toNat ∧ c.toNat ≤ 126
def okR (w : Int) (x : Ln) : Prop := x.Whole = true ∧ (w > 4 → (x.Text.length : Int) ≤ w) ∧ x.Text ≠ [] ∧ okC x.Text
theorem okC_td (b : UInt8) : okC (td b) := fun c hc => by
  have := List.all_eq_true.1 (td_chars b) c hc
  simpa using this
theorem okC_app {a b : Str} (ha : okC a) (hb : okC b) : okC (a ++ b) := fun c hc => by
  rcases List.mem_append.1 hc with h | h
  · exact ha c h
  · exact hb c h
theorem okC_10 {a : Str} (h : okC a) : ∀ c ∈ a, c ≠ 10 := fun c hc e => by
  have := (h c hc).1
  rw [e] at this
  exact absurd this (by decide)
theorem rws_rows (w : Int) : ∀ (s acc : Str) (row : Int), (acc.length : Int) = row → okC acc → (w > 4 → row ≤ w - 1) → (∀ x ∈ sp acc (rws w row s), okR w x) ∧ 1 ≤ (sp acc (rws w row s)).length ∧ (w ≤ 1 → (sp acc (rws w row s)).length = 1)
  | [], acc, row, hr, hc, hw => by
    have e : sp acc (rws w row []) = [⟨acc ++ [36], true⟩] := by simp [rws, sp]
    rw [e]
    refine ⟨fun x hx => ?_, by simp, fun _ => by simp⟩
    simp only [List.mem_singleton] at hx
    subst hx
    refine ⟨rfl, fun h => ?_, by simp, okC_app hc fun c h => by simp at h; subst h; decide⟩
    have := hw h
    simp only [List.length_append, List.length_cons, List.length_nil]
    omega
  | b :: s, acc, row, hr, hc, hw => by
    have hl := td_len b
    have hn := okC_10 (okC_td b)
    unfold rws
    by_cases hP : w > 1 ∧ row > 0 ∧ row + ((td b).length : Int) > w - 1
    · rw [if_pos hP]
      obtain ⟨i1, i2, i3⟩ := rws_rows w s (td b) ((td b).length : Int) rfl (okC_td b) (fun h => by omega)
      have e : sp acc ([92, 10] ++ (td b ++ rws w ((td b).length : Int) s)) = ⟨acc ++ [92], true⟩ :: sp (td b) (rws w ((td b).length : Int) s) := by
        have := sp_plain (td b) (rws w ((td b).length : Int) s) [] hn
        simp only [List.nil_append] at this
        rw [← this]
        simp [sp]
      rw [e]
      refine ⟨fun x hx => ?_, by simp, fun h => by omega⟩
      rcases List.mem_cons.1 hx with rfl | hx
      · refine ⟨rfl, fun h => ?_, by simp, okC_app hc fun c h => by simp at h; subst h; decide⟩
        have := hw h
        simp only [List.length_append, List.length_cons, List.length_nil]
        omega
      · exact i1 x hx
    · rw [if_neg hP, sp_plain _ _ _ hn]
      exact rws_rows w s (acc ++ td b) (row + (td b).length) (by simp; omega) (okC_app hc (okC_td b)) (fun h => by omega)
theorem g9p3 (w : Int) (rows o : Sl Ln) (l : Int) (j : Nat) (hj : j ≤ 1000000000000) (x : Ln) (hx : okC x.Text) (hxl : x.Text.length ≤ 1000000000000) : ∀ (n k : Nat), n + k = x.Text.length → G9 (.p3 w rows (k : Int) o l (j : Int) x) = G9 (.p1 w rows o l ((j + 1 : Nat) : Int))
  | 0, k, hn => by
    rw [G9.eq_3, dfi (by omega), wn1 j (by omega)]
  | n + 1, k, hn => by
    obtain ⟨c, hc⟩ := get_ex x.Text (i := k) (by omega)
    have hcc := hx c (List.mem_of_getElem? hc)
    rw [G9.eq_3, dti (by omega), ixs hc, sm, dfi (by omega), sm, dfi (by omega), wn1 k (by omega)]
    exact g9p3 w rows o l j hj x hx hxl n (k + 1) (by omega)
theorem g9 (w : Int) (o : Sl Ln) (hall : ∀ x ∈ ls o, okR w x) (hl : (ls o).length ≤ 1000000000000) (ht : ∀ x ∈ ls o, x.Text.length ≤ 1000000000000) (h1 : 1 ≤ (ls o).length) (hw : w ≤ 1 → (ls o).length = 1) : ∀ (n k : Nat), n + k = (ls o).length → G9 (.p1 w o o ((ls o).length : Int) (k : Int)) = some true
  | 0, k, hn => by
    rw [G9.eq_1, dfi (by omega), dti (by omega)]
    by_cases h : w > 1
    · rw [dti h]
    · rw [dfi h, hw (by omega)]
      rfl
  | n + 1, k, hn => by
    obtain ⟨x, hx⟩ := get_ex (ls o) (i := k) (by omega)
    have hm := List.mem_of_getElem? hx
    obtain ⟨r1, r2, r3, r4⟩ := hall x hm
    have hne : (((x.Text).length : Int) == 0) = false := by
      have : x.Text.length ≠ 0 := fun e => r3 (List.eq_nil_of_length_eq_zero e)
      simp [r3]
    have step : G9 (.p2 w o o ((ls o).length : Int) (k : Int) (((x.Text).length : Int) == 0) x) = some true := by
      rw [G9.eq_2, hne, fi_ rfl]
      have := g9p3 w o o ((ls o).length : Int) k (by omega) x r4 (ht x hm) x.Text.length 0 (by omega)
      rw [show ((0 : Nat) : Int) = 0 from rfl] at this
      rw [this]
      exact g9 w o hall hl ht h1 hw n (k + 1) (by omega)
    rw [G9.eq_1, dti (by omega), ixs hx, sm, if_neg (by simp [r1])]
    by_cases h4 : w > 4
    · rw [dti h4, dfi (by have := r2 h4; omega), step]
    · rw [dfi h4, step]
theorem sp_text : ∀ (s acc : Str), ∀ x ∈ sp acc s, x.Text.length ≤ acc.length + s.length
  | [], acc, x, hx => by
    unfold sp at hx
    split at hx
    · simp at hx
    · simp at hx; subst hx; simp
  | b :: s, acc, x, hx => by
    unfold sp at hx
    split at hx
    · rcases List.mem_cons.1 hx with rfl | hx
      · simp only [List.length_cons]; omega
      · have := sp_text s [] x hx
        simp at this ⊢; omega
    · have := sp_text s (acc ++ [b]) x hx
      simp at this ⊢; omega
theorem f28_rws (w : Int) (s : Str) (hs : s.length ≤ 1000000000) : F28 (rws w 0 s) = some (s, 0, 0) := by
  have hl := rws_len w s 0
  have := ul w (rws w 0 s) (by omega) s [] 0 0 rfl (by simp) (by omega) (fun h => by omega)
  unfold F28
  simpa [ofBs, so] using this
theorem pureTold (s t : Str) (w : Int) (hw : w ≤ 9223372036854775807) (hs : s.length ≤ 1000000000) (ht : t.length ≤ 1000000000) : F9 s w t = some true := by
  have hq := f22q s t (by omega)
  have hl := rws_len w s 0
  have hql := qs_len s
  unfold F9
  rw [f13, sm, if_neg (by decide), f26 s w hw (by omega), sm]
  by_cases h : w < 0
  · rw [if_pos h, dti h]
    rfl
  · rw [if_neg h, dfi h]
    obtain ⟨a1, a2, a3⟩ := rws_rows w s [] 0 rfl (fun c hc => by simp at hc) (fun h4 => by omega)
    have sl := sp_len (rws w 0 s) []
    simp only [List.length_nil, Nat.add_zero] at sl
    have g := g9 w (so (spl (rws w 0 s))) (by rw [ls_so]; exact a1) (by rw [ls_so]; simp only [spl]; omega) (by
      rw [ls_so]
      intro x hx
      have := sp_text (rws w 0 s) [] x hx
      simp at this; omega) (by rw [ls_so]; exact a2) (by rw [ls_so]; exact a3) (ls (so (spl (rws w 0 s)))).length 0 (by omega)
    simp only []
    rw [f28_rws w s hs, sm, f24 s (by omega), sm, if_pos (by simp; omega), hq, sm]
    simp only []
    rw [if_neg (by decide), if_neg (by decide), if_neg (by decide), if_neg (by simp), if_neg (by decide), if_neg (by simp), if_neg (by simp), f16 _ (by omega), sm]
    exact g
theorem wf_i64' {y : Int} (h : (Lit.int .i64 y).wf = true) : y ≤ 9223372036854775807 := by
  have := bounds_i64 h
  omega
theorem pureULinesTold (a0 : Str) (a1 : Int) (a2 : Str) (w1 : (Lit.int .i64 a1).wf = true) (hb : bkS a0 + 1 + bkS a2 ≤ 1048576) : F9 a0 a1 a2 = some true := by
  simp only [bkS] at hb
  exact pureTold a0 a2 a1 (wf_i64' w1) (by omega) (by omega)
end Go.Proofs.YtllhdbdbdblimaaDoor
