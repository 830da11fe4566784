/-
  Lines: the reference's way of taking a text apart and the program's are one; putting together.
-/
import Derived.Test.YtllhdbdbdblimaaDoorLinP1
namespace Go.Proofs.YtllhdbdbdblimaaDoor
open Go AW
set_option linter.unusedVariables false
set_option linter.unusedSimpArgs false
theorem ixs {α : Type} {l : List α} {i : Nat} {c : α} (h : l[i]? = some c) : ix l (i : Int) = some c := by rw [ix_nat]; exact h
theorem drop_cons {α : Type} {l : List α} {i : Nat} {c : α} (h : l[i]? = some c) : l.drop i = c :: l.drop (i + 1) := by
  have := List.getElem?_eq_some_iff.1 h
  obtain ⟨h1, h2⟩ := this
  rw [List.drop_eq_getElem_cons h1, h2]
theorem take_snoc {α : Type} {l : List α} {i : Nat} {c : α} (h : l[i]? = some c) : l.take (i + 1) = l.take i ++ [c] := by
  rw [List.take_add_one, h]; rfl
theorem get_ex {α : Type} (l : List α) {i : Nat} (h : i < l.length) : ∃ c, l[i]? = some c := ⟨l[i], by simp [h]⟩
theorem b10 (b : UInt8) : (((b.toNat : Int)) == 10) = decide (b = 10) := by
  rcases Decidable.em (b = 10) with h | h
  · subst h; rfl
  · have h2 : b.toNat ≠ 10 := fun e => h (UInt8.toNat_inj.1 e)
    have h3 : ((b.toNat : Int)) ≠ 10 := by omega
    simp only [h, decide_false, beq_eq_false_iff_ne, ne_eq]
    exact h3

theorem g16 (s : Str) (hs : s.length ≤ 100000000000) : ∀ (n k a : Nat) (out : List Ln), n + k = s.length → a ≤ k → out.length + (s.length - a) ≤ 1000000000000 →
    G16 (.p1 s a k (so out)) = some (so (out ++ sp ((s.take k).drop a) (s.drop k)))
  | 0, k, a, out, hn, ha, ho => by
    rw [G16.eq_1, dfi (by omega)]
    have hk : k = s.length := by omega
    subst hk
    by_cases h : a < s.length
    · rw [dti (by omega), strcut_nat s a s.length (by omega) (by omega), sm, ls_so]
      rw [if_pos (by simp [ls]; omega), sapp_so]
      have : s.drop a ≠ [] := by
        intro e
        have := congrArg List.length e
        simp at this; omega
      simp [sp, ls, this]
    · rw [dfi (by omega)]
      have : s.drop a = [] := by simp; omega
      simp [sp, this]
  | n + 1, k, a, out, hn, ha, ho => by
    obtain ⟨c, hc⟩ := get_ex s (i := k) (by omega)
    rw [G16.eq_1, dti (by omega), ixs hc, sm, b10, drop_cons hc]
    have e1 : IntKind.wrap .i64 ((k : Int) + 1) = ((k + 1 : Nat) : Int) := wn1 k (by omega)
    by_cases h : c = 10
    · rw [dti h, strcut_nat s a k ha (by omega), sm, ls_so, if_pos (by simp [ls]; omega), sapp_so, e1]
      rw [g16 s hs n (k + 1) (k + 1) _ (by omega) (by omega) (by simp [ls]; omega)]
      simp [sp, h, ls]
    · rw [dfi h, e1, g16 s hs n (k + 1) a _ (by omega) (by omega) ho]
      rw [take_snoc hc, List.drop_append_of_le_length (by simp; omega)]
      simp [sp, h]
theorem f16 (s : Str) (h : s.length ≤ 100000000000) : F16 s = some (so (spl s)) := by
  unfold F16
  have := g16 s h s.length 0 0 [] (by omega) (by omega) (by simp; omega)
  simpa [so, spl] using this

theorem g15 (a b : Sl Ln) (h : (ls a).length = (ls b).length) (hl : (ls a).length ≤ 1000000000000) : ∀ (n k : Nat), n + k = (ls a).length → G15 (.p1 a b ((ls a).length : Int) k) = some (decide ((ls a).drop k = (ls b).drop k))
  | 0, k, hn => by
    rw [G15.eq_1, dfi (by omega), List.drop_of_length_le (by omega), List.drop_of_length_le (by omega)]
    rfl
  | n + 1, k, hn => by
    obtain ⟨x, hx⟩ := get_ex (ls a) (i := k) (by omega)
    obtain ⟨y, hy⟩ := get_ex (ls b) (i := k) (by omega)
    rw [G15.eq_1, dti (by omega), ixs hx, sm, ixs hy, sm, drop_cons hx, drop_cons hy]
    have e1 : IntKind.wrap .i64 ((k : Int) + 1) = ((k + 1 : Nat) : Int) := wn1 k (by omega)
    by_cases hxy : x = y
    · subst hxy
      rw [if_neg (by simp), e1, g15 a b h hl n (k + 1) (by omega)]
      simp
    · rw [if_pos (by simp [hxy])]
      simp [hxy]
theorem f15 (a b : Sl Ln) (hl : (ls a).length ≤ 1000000000000) : F15 a b = some (decide (ls a = ls b)) := by
  unfold F15
  by_cases h : (ls a).length = (ls b).length
  · rw [if_neg (by simp [h])]
    have := g15 a b h hl (ls a).length 0 (by omega)
    simpa using this
  · rw [if_pos (by simpa using fun e => h (by omega))]
    have : ls a ≠ ls b := fun e => h (by rw [e])
    simp [this]

theorem g18 (s : Str) (hs : s.length ≤ 100000000000) : ∀ (n k : Nat), n + k = s.length → G18 (.p1 s k) = some (if (cut (s.drop k)).2.2 then (s.take k ++ (cut (s.drop k)).1, (cut (s.drop k)).2.1, true) else (s, [], false))
  | 0, k, hn => by
    rw [G18.eq_1, dfi (by omega), List.drop_of_length_le (by omega)]
    simp [cut]
  | n + 1, k, hn => by
    obtain ⟨c, hc⟩ := get_ex s (i := k) (by omega)
    have e1 : IntKind.wrap .i64 ((k : Int) + 1) = ((k + 1 : Nat) : Int) := wn1 k (by omega)
    rw [G18.eq_1, dti (by omega), ixs hc, sm, b10, drop_cons hc, e1]
    by_cases h : c = 10
    · have e0 : strcut s 0 (k : Int) = some (s.take k) := strcut_nat s 0 k (by omega) (by omega)
      rw [dti h, e0, sm, strcut_nat s (k + 1) s.length (by omega) (by omega), sm]
      simp [cut, h]
    · rw [dfi h, g18 s hs n (k + 1) (by omega), take_snoc hc]
      simp [cut, h]
theorem cut_no : ∀ s : Str, (cut s).2.2 = false → cut s = (s, [], false)
  | [], _ => rfl
  | b :: s, h => by
    unfold cut at h ⊢
    split
    · rename_i hb; rw [if_pos hb] at h; cases h
    · rename_i hb; rw [if_neg hb] at h; rw [cut_no s h]
theorem f18 (s : Str) (h : s.length ≤ 100000000000) : F18 s = some (cut s) := by
  unfold F18
  have := g18 s h s.length 0 (by omega)
  simp only [Int.natCast_zero, List.drop_zero, List.take_zero, List.nil_append] at this
  rw [this]
  by_cases hc : (cut s).2.2 = true
  · rw [if_pos hc, ← hc]
  · rw [if_neg hc, cut_no s (by simpa using hc)]
theorem f17 (s : Str) (h : s.length ≤ 100000000000) : F17 s = some (cut s) := by
  unfold F17
  rw [f39 s (by omega), sm]

/-! ### Putting together -/
def jn1 (x : Ln) : Str := x.Text ++ if x.Whole then [10] else []
def jn (l : List Ln) : Str := (l.map jn1).flatten
theorem jn_cons (x : Ln) (l : List Ln) : jn (x :: l) = jn1 x ++ jn l := by simp [jn]
theorem bws (b s : Str) (h : b.length + s.length ≤ 100000000000000) : bWS b s = some ((s.length : Int), (), b ++ s) := by
  unfold bWS; rw [if_pos (by omega)]
theorem bwb (b : Str) (h : b.length + 1 ≤ 100000000000000) (c : UInt8) : bWB b (c.toNat : Int) = some ((), b ++ [c]) := by
  unfold bWB
  have := c.toNat_lt
  rw [if_pos ⟨⟨by omega, by omega⟩, by omega⟩]
  simp
theorem bst (b : Str) (h : b.length ≤ 100000000000000) : bST b = some b := by
  unfold bST; rw [if_pos (by omega)]
theorem jn1_len (x : Ln) : (jn1 x).length = x.Text.length + if x.Whole then 1 else 0 := by
  unfold jn1; cases x.Whole <;> simp
theorem g19 (o : Sl Ln) (l : List Ln) (ho : ls o = l) (hl : l.length ≤ 1000000000000) : ∀ (n k : Nat) (b : Str), n + k = l.length → b.length + (jn (l.drop k)).length ≤ 10000000000000 → G19 (.p1 o (l.length : Int) k b) = some (b ++ jn (l.drop k))
  | 0, k, b, hn, hb => by
    rw [List.drop_of_length_le (by omega)] at hb ⊢
    rw [G19.eq_1, dfi (by omega), bst b (by omega), sm]
    simp [jn]
  | n + 1, k, b, hn, hb => by
    obtain ⟨x, hx⟩ := get_ex l (i := k) (by omega)
    have e1 : IntKind.wrap .i64 ((k : Int) + 1) = ((k + 1 : Nat) : Int) := wn1 k (by omega)
    rw [drop_cons hx, jn_cons, List.length_append, jn1_len] at hb
    rw [G19.eq_1, dti (by omega), ho, ixs hx, sm, bws b _ (by omega), sm, e1, drop_cons hx, jn_cons]
    by_cases hw : x.Whole = true
    · rw [if_pos hw] at hb
      rw [if_pos hw, show (10 : Int) = ((10 : UInt8).toNat : Int) from rfl, bwb _ (by simp; omega), sm]
      simp only []
      rw [g19 o l ho hl n (k + 1) _ (by omega) (by simp; omega)]
      simp [jn1, hw]
    · rw [if_neg hw] at hb
      rw [if_neg hw]
      simp only []
      rw [g19 o l ho hl n (k + 1) _ (by omega) (by simp; omega)]
      simp [jn1, hw]
theorem f19 (o : Sl Ln) (hl : (ls o).length ≤ 1000000000000) (h : (jn (ls o)).length ≤ 10000000000000) : F19 o = some (jn (ls o)) := by
  unfold F19
  have := g19 o (ls o) rfl hl (ls o).length 0 [] (by omega) (by simpa using h)
  simpa using this
theorem toBs_ofBs (s : Str) : toBs (ofBs s) = s := by
  induction s with
  | nil => rfl
  | cons b s ih =>
    simp only [ofBs, toBs, List.map_map] at ih ⊢
    simp [ih]
theorem ofBs_app (s t : Str) : ofBs (s ++ t) = ofBs s ++ ofBs t := by simp [ofBs]
theorem ofBs_len (s : Str) : (ofBs s).length = s.length := by simp [ofBs]
theorem sapp_ofBs (b s : Str) : sapp (so (ofBs b)) (ofBs s) = so (ofBs (b ++ s)) := by rw [sapp_so, ofBs_app]
theorem g20 (o : Sl Ln) (l : List Ln) (ho : ls o = l) (hl : l.length ≤ 1000000000000) : ∀ (n k : Nat) (b : Str), n + k = l.length → b.length + (jn (l.drop k)).length ≤ 10000000000000 → G20 (.p1 o (l.length : Int) k (so (ofBs b))) = some (b ++ jn (l.drop k))
  | 0, k, b, hn, hb => by
    rw [List.drop_of_length_le (by omega)] at hb ⊢
    rw [G20.eq_1, dfi (by omega), ls_so, toBs_ofBs]
    simp [jn]
  | n + 1, k, b, hn, hb => by
    obtain ⟨x, hx⟩ := get_ex l (i := k) (by omega)
    have e1 : IntKind.wrap .i64 ((k : Int) + 1) = ((k + 1 : Nat) : Int) := wn1 k (by omega)
    rw [drop_cons hx, jn_cons, List.length_append, jn1_len] at hb
    rw [G20.eq_1, dti (by omega), ho, ixs hx, sm, ls_so, if_pos (by simp only [ofBs_len]; omega), e1, drop_cons hx, jn_cons, sapp_ofBs, ls_so]
    by_cases hw : x.Whole = true
    · rw [if_pos hw] at hb
      rw [if_pos hw, if_pos (by simp [ofBs_len, ls]; omega), show (ls (some [(10 : Int)])) = ofBs [10] from rfl, sapp_ofBs]
      rw [g20 o l ho hl n (k + 1) _ (by omega) (by simp; omega)]
      simp [jn1, hw]
    · rw [if_neg hw] at hb
      rw [if_neg hw]
      rw [g20 o l ho hl n (k + 1) _ (by omega) (by simp; omega)]
      simp [jn1, hw]
theorem f20 (o : Sl Ln) (hl : (ls o).length ≤ 1000000000000) (h : (jn (ls o)).length ≤ 10000000000000) : F20 o = some (jn (ls o)) := by
  unfold F20
  have := g20 o (ls o) rfl hl (ls o).length 0 [] (by omega) (by simpa using h)
  simpa [ofBs, so] using this
end Go.Proofs.YtllhdbdbdblimaaDoor
