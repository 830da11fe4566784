/-
  Lines: the program's own trial.
-/
import Derived.Test.YtllhdbdbdblimaaDoorLinP3
namespace Go.Proofs.YtllhdbdbdblimaaDoor
open Go AW
set_option linter.unusedVariables false
set_option linter.unusedSimpArgs false
/-- The byte that a letter stands for. -/
def fl : List Int → Int → Int → Option Int
  | [], _, _ => none
  | v :: l, c, t => if v ≠ 0 ∧ v = c then some t else fl l c (t + 1)
theorem g43p5 (s : Str) (i c : Int) : ∀ (n k : Nat), n + k = 14 → G43 (.p5 s i c g1 k) = match fl (g1.l.drop k) c k with
    | some x => some (IntKind.wrap .u8 x, IntKind.wrap .i64 (i + 1), (-1))
    | none => G43 (.p6 s i 0 0)
  | 0, k, hn => by
    have : k = 14 := by omega
    subst this
    rw [G43.eq_5, dfi (by omega)]
    rfl
  | n + 1, k, hn => by
    obtain ⟨v, hv⟩ := get_ex g1.l (i := k) (by rw [g1.h]; omega)
    have e1 : IntKind.wrap .i64 ((k : Int) + 1) = ((k + 1 : Nat) : Int) := wn1 k (by omega)
    rw [G43.eq_5, dti (by omega), ixs hv, sm, drop_cons hv, e1]
    unfold fl
    by_cases hz : v = 0
    · rw [if_neg (by simpa using hz), if_neg (fun h => h.1 hz), g43p5 s i c n (k + 1) (by omega)]
      rfl
    · rw [if_pos (by simpa using hz)]
      by_cases hc : v = c
      · rw [if_pos (by simpa using hc), if_pos ⟨hz, hc⟩]
      · rw [if_neg (by simpa using hc), if_neg (fun h => hc h.2), g43p5 s i c n (k + 1) (by omega)]
        rfl
theorem t43a : F43 ([34, 97, 92, 110, 34, 120] : Str) 1 true = some (97, 2, -1) := by
  have x1 : ix ([34, 97, 92, 110, 34, 120] : Str) 1 = some 97 := rfl
  unfold F43
  rw [x1, sm, if_pos (by decide), if_neg (by decide), if_neg (by decide), if_pos rfl, if_neg (by decide), G43.eq_2]
  rfl
theorem t43b : F43 ([34, 97, 92, 110, 34, 120] : Str) 2 true = some (10, 4, -1) := by
  have x2 : ix ([34, 97, 92, 110, 34, 120] : Str) 2 = some 92 := rfl
  have w3 : IntKind.wrap .i64 (2 + 1) = 3 := rfl
  have x3 : ix ([34, 97, 92, 110, 34, 120] : Str) 3 = some 110 := rfl
  have h5 := g43p5 ([34, 97, 92, 110, 34, 120] : Str) 3 ((110 : UInt8).toNat : Int) 14 0 rfl
  unfold F43
  rw [x2, sm, if_neg (by decide), w3, if_neg (by decide), x3, sm, if_neg (by decide), if_pos rfl, if_neg (by decide), G43.eq_4]
  exact h5
theorem t22 : F22 ([34, 97, 92, 110, 34, 120] : Str) = some ([97, 10], 5, 0, 0) := by
  have x0 : ix ([34, 97, 92, 110, 34, 120] : Str) 0 = some 34 := rfl
  have x1 : ix ([34, 97, 92, 110, 34, 120] : Str) 1 = some 97 := rfl
  have x2 : ix ([34, 97, 92, 110, 34, 120] : Str) 2 = some 92 := rfl
  have x4 : ix ([34, 97, 92, 110, 34, 120] : Str) 4 = some 34 := rfl
  unfold F22
  rw [if_neg (by decide), x0, sm, if_neg (by decide), G22.eq_2, if_pos (by decide), x1, sm, if_neg (by decide), t43a, sm]
  simp only []
  rw [if_neg (by decide), if_pos (by decide), G22.eq_2, if_pos (by decide), x2, sm, if_neg (by decide), t43b, sm]
  simp only []
  rw [if_neg (by decide), if_pos (by decide), G22.eq_2, if_pos (by decide), x4, sm, if_pos (by decide)]
  rfl
theorem f13 : F13 = some true := by
  have a1 : rws 0 0 ([97, 9, 98, 0, 10] : Str) = [97, 92, 116, 98, 92, 48, 48, 48, 92, 110, 36, 10] := by decide +kernel
  have a2 := f21 ([97, 10, 98] : Str) (by decide)
  have a3 := f19 (some ([({ Text := ([97] : Str), Whole := true } : T25)] : List T25)) (by decide) (by decide)
  have a4 : ((spl ([97, 10, 98] : Str)).length : Int) = 2 := by decide
  have a5 : jn (ls (some ([({ Text := ([97] : Str), Whole := true } : T25)] : List T25))) = [97, 10] := by decide
  unfold F13
  rw [f26 _ 0 (by decide) (by decide), if_neg (by decide), sm, t22, sm, a1]
  simp only []
  rw [if_pos (by decide), if_pos (by decide), if_pos (by decide), if_pos (by decide), if_pos (by decide), a2, sm, a4, if_pos (by decide), a3, sm, a5]
  rfl

/-! ### The laws of Splits, Back, Parts -/
theorem pureSplits (s : Str) (l : Sl Ln) (hs : s.length ≤ 100000000000) (hl : (ls l).length ≤ 1000000000000) (hj : (jn (ls l)).length ≤ 10000000000000) : F4 s l = some true := by
  have hsl : (spl s).length ≤ 1000000000000 := by have := sp_len s []; simp [spl] at this ⊢; omega
  unfold F4
  rw [f17 s hs, sm, f18 s hs, sm, f13, sm, if_pos rfl, f14 s hs, sm, f16 s hs, sm, f15 _ _ (by rw [ls_so]; exact hsl), sm, if_pos (by simp), f19 l hl hj, sm, f20 l hl hj, sm, if_pos (by simp), f21 s hs, sm, sm, ls_so, if_pos (by simp)]
  simp

theorem spl_jn : ∀ s : Str, jn (spl s) = s := by
  have key : ∀ (s acc : Str), jn (sp acc s) = acc ++ s := by
    intro s
    induction s with
    | nil =>
      intro acc
      unfold sp
      split
      · rename_i h; simp [jn, h]
      · simp [jn, jn1]
    | cons b s ih =>
      intro acc
      unfold sp
      split
      · rename_i h; rw [jn_cons, ih]; simp [jn1, h]
      · rw [ih]; simp
  intro s
  exact key s []
/-- A line that may be: no line feed in it; whole, or the last, and then it says something. -/
def okL : List Ln → Bool
  | [] => true
  | x :: l => !(cut x.Text).2.2 && (x.Whole || (x.Text != [] && l == [])) && okL l
theorem sp_line (x : Ln) (h : (cut x.Text).2.2 = false) : ∀ (s acc : Str), x.Whole = true → sp acc (x.Text ++ 10 :: s) = ⟨acc ++ x.Text, true⟩ :: sp [] s := by
  obtain ⟨t, w⟩ := x
  simp only at h ⊢
  intro s acc hw
  subst hw
  induction t generalizing acc with
  | nil => simp [sp]
  | cons b t ih =>
    by_cases hb : b = 10
    · simp [cut, hb] at h
    · have h' : (cut t).2.2 = false := by simpa [cut, hb] using h
      have := ih h' (acc ++ [b])
      simp only [List.cons_append, sp, if_neg hb]
      rw [this]; simp
theorem sp_last (t : Str) (h : (cut t).2.2 = false) : ∀ (acc : Str), acc ++ t ≠ [] → sp acc t = [⟨acc ++ t, false⟩] := by
  induction t with
  | nil => intro acc ha; simp [sp] at ha ⊢; exact ha
  | cons b t ih =>
    intro acc ha
    by_cases hb : b = 10
    · simp [cut, hb] at h
    · have h' : (cut t).2.2 = false := by simpa [cut, hb] using h
      simp only [sp, if_neg hb]
      rw [ih h' (acc ++ [b]) (by simp)]; simp
theorem spl_of_jn : ∀ l : List Ln, okL l = true → spl (jn l) = l
  | [], _ => rfl
  | x :: l, h => by
    simp only [okL, Bool.and_eq_true, Bool.not_eq_true', Bool.or_eq_true, bne_iff_ne, ne_eq, beq_iff_eq] at h
    obtain ⟨⟨h1, h2⟩, h3⟩ := h
    rw [jn_cons]
    unfold spl
    by_cases hw : x.Whole = true
    · have := sp_line x h1 (jn l) [] hw
      simp only [jn1, hw, if_true, List.append_assoc, List.singleton_append]
      rw [this]
      have ih := spl_of_jn l h3
      unfold spl at ih
      rw [ih]
      obtain ⟨t, w⟩ := x
      simp only at hw
      subst hw
      rfl
    · rcases h2 with h2 | ⟨h2, h4⟩
      · exact absurd h2 hw
      · subst h4
        have := sp_last x.Text h1 [] (by simpa using h2)
        simp only [jn1, hw, jn]
        simp
        rw [this]
        obtain ⟨t, w⟩ := x
        simp only [Bool.not_eq_true] at hw
        subst hw
        rfl
theorem g5 (o : Sl Ln) (hl : (ls o).length ≤ 1000000000000) (ht : ∀ x ∈ ls o, x.Text.length ≤ 100000000000) (hj : (jn (ls o)).length ≤ 100000000000) : ∀ (n k : Nat), n + k = (ls o).length → (okL ((ls o).drop k) = true → okL (ls o) = true) → G5 (.p1 o o ((ls o).length : Int) k) = some true
  | 0, k, hn, hok => by
    have h := hok (by rw [List.drop_of_length_le (by omega)]; rfl)
    have hsp := spl_of_jn _ h
    rw [G5.eq_1, dfi (by omega), f19 o hl (by omega), sm, f14 _ hj, sm, hsp, f15 _ _ (by rw [ls_so]; exact hl), sm, if_pos (by rw [ls_so]; simp), sm, f21 _ hj, sm, hsp]
    simp
  | n + 1, k, hn, hok => by
    obtain ⟨x, hx⟩ := get_ex (ls o) (i := k) (by omega)
    have e1 : IntKind.wrap .i64 ((k : Int) + 1) = ((k + 1 : Nat) : Int) := wn1 k (by omega)
    have stop : G5 .p2 = some true := by rw [G5.eq_2, f13, sm]
    rw [drop_cons hx] at hok
    rw [G5.eq_1, dti (by omega), ixs hx, sm, f17 _ (ht x (List.mem_of_getElem? hx)), sm, e1]
    by_cases hc : (cut x.Text).2.2 = true
    · rw [if_pos hc, stop]
    · rw [if_neg hc]
      have hc' : (cut x.Text).2.2 = false := by simpa using hc
      by_cases hw : x.Whole = true
      · rw [if_neg (by simp [hw]), g5 o hl ht hj n (k + 1) (by omega) (fun h => hok (by simp [okL, hc', hw, h]))]
      · rw [if_pos (by simpa using hw)]
        by_cases he : x.Text = []
        · rw [if_pos (by simpa using he), stop]
        · rw [if_neg (by simpa using he)]
          by_cases hlast : ((k + 1 : Nat) : Int) < ((ls o).length : Int)
          · rw [dti hlast, stop]
          · have : (ls o).drop (k + 1) = [] := List.drop_of_length_le (by omega)
            rw [dfi hlast, g5 o hl ht hj n (k + 1) (by omega) (fun h => hok (by rw [this] at h ⊢; simp [okL, hc', he]))]
theorem pureBack (s : Str) (l : Sl Ln) (hs : s.length ≤ 100000000000) (hl : (ls l).length ≤ 1000000000000) (ht : ∀ x ∈ ls l, x.Text.length ≤ 100000000000) (hj : (jn (ls l)).length ≤ 100000000000) : F5 s l = some true := by
  have hsl : (spl s).length ≤ 1000000000000 := by have := sp_len s []; simp [spl] at this ⊢; omega
  unfold F5
  rw [f13, sm, if_neg (by decide), f14 s hs, sm, f19 _ (by rw [ls_so]; exact hsl) (by rw [ls_so, spl_jn]; omega), sm, ls_so, spl_jn, if_neg (by simp)]
  exact g5 l hl ht hj (ls l).length 0 (by omega) (fun h => h)

theorem sp_app : ∀ (s t acc : Str), sp acc (s ++ [10] ++ t) = sp acc (s ++ [10]) ++ sp [] t
  | [], t, acc => by simp [sp]
  | b :: s, t, acc => by
    have h1 := sp_app s t []
    have h2 := sp_app s t (acc ++ [b])
    simp only [List.cons_append, sp]
    split
    · rw [h1]; rfl
    · rw [h2]
theorem cut_found : ∀ (s t : Str), (cut (s ++ [10] ++ t)).2.2 = true ∧ (cut (s ++ [10] ++ t)).1 ++ [10] ++ (cut (s ++ [10] ++ t)).2.1 = s ++ [10] ++ t
  | [], t => by simp [cut]
  | b :: s, t => by
    have ih := cut_found s t
    by_cases hb : b = 10
    · simp [cut, hb]
    · simp only [List.cons_append, cut, if_neg hb]
      exact ⟨ih.1, by rw [ih.2]⟩
theorem pureParts (s t : Str) (hs : s.length + t.length ≤ 10000000000) : F6 s t = some true := by
  have h1 : (s ++ [10]).length ≤ 100000000000 := by simp; omega
  have h2 : (s ++ [10] ++ t).length ≤ 100000000000 := by simp; omega
  have l1 := sp_len (s ++ [10]) []
  have l2 := sp_len t []
  have l3 := sp_len (s ++ [10] ++ t) []
  simp only [List.length_nil, Nat.add_zero] at l1 l2 l3
  simp only [List.length_append, List.length_cons, List.length_nil] at l1 l3
  obtain ⟨c1, c2⟩ := cut_found s t
  have c3 := congrArg List.length c2
  simp only [List.length_append, List.length_cons, List.length_nil] at c3
  have hsp := sp_cut (s ++ [10] ++ t) [] (by simp)
  have e : spl (s ++ [10] ++ t) = spl (s ++ [10]) ++ spl t := sp_app s t []
  unfold F6
  rw [f13, sm, if_neg (by decide), if_pos (by simp; omega), f14 _ h1, sm, f14 t (by omega), sm, ls_so, ls_so, if_pos (by simp only [spl]; omega), if_pos (by simp; omega), f17 _ h2, sm, if_pos (by simp; omega), f16 _ h2, sm, if_pos (by simp; omega), f14 _ h2, sm, f15 _ _ (by rw [ls_so]; simp only [spl]; omega), sm,
    if_pos (by rw [ls_so, ls_sapp, ls_so, e]; simp), if_pos c1, ls_so]
  simp only [spl, hsp]
  have x0 : ∀ (a : Ln) (l : List Ln), ix (a :: l) 0 = some a := fun _ _ => rfl
  rw [dti (by simp), x0, sm, if_pos (by simp), if_pos (by simp only [List.length_cons, List.length_nil]; omega), if_pos (by simp only [List.length_append, List.length_cons, List.length_nil]; omega), if_pos (by simp; omega), c2]
  simp
end Go.Proofs.YtllhdbdbdblimaaDoor
