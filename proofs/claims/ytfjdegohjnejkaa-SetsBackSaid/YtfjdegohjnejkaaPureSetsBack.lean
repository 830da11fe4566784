/-
  Sets of bytes: a text that is read is read alike whatever stands behind it, and what is printed reads back.
-/
import Derived.Test.YtfjdegohjnejkaaSetQ5
namespace Go.Proofs.Ytfjdegohjnejkaa
open Go AW
set_option linter.unusedVariables false

theorem f22_of {s : Str} (hl : s.length ≤ 1000000000000000) {v : Arr 4 Int × Int × Int × Int} (h : F23 s = some v) : F22 s = some v := by
  obtain ⟨w, h1, h2⟩ := brackets s hl
  rw [h1, ← h2, h]
theorem prt_len (f : Nat → Bool) : (prt f).length ≤ 5000 := by
  have hq : ∀ (r : List Nat) (a z : Nat), (prQ a z r).length ≤ 11 * (r.length + 1) := fun r => by
    induction r with
    | nil => intro a z; have := piece_len a z; simp only [prQ, List.length_nil]; omega
    | cons x r ih =>
      intro a z
      have h1 := ih a x
      have h2 := ih x x
      have h3 := piece_len a z
      rw [prQ]
      split
      · simp only [List.length_cons]; omega
      · simp only [List.length_append, List.length_cons]; omega
  have hp : ∀ g : Nat → Bool, (prP (bl g 256)).length ≤ 2900 := fun g => by
    have hl := bl_len g 256
    cases h : bl g 256 with
    | nil => simp [prP]
    | cons c r =>
      rw [h] at hl
      have := hq r c c
      simp only [List.length_cons] at hl
      rw [prP]; omega
  have h1 := hp f
  have h2 := hp fun n => !f n
  unfold prt
  split
  · simp only [List.length_append, List.length_cons, List.length_nil]; omega
  · simp only [List.length_append, List.length_cons, List.length_nil]; omega

/-- What reading a text answers. -/
theorem read (t : Str) (hl : t.length ≤ 200000000000000) : (∃ e, F22 t = some (Arr.rep 4 0, 0, 70, e)) ∨
    (∃ (P : Nat) (g : Nat → Bool), F22 t = some (sa g, ((P + 1 : Nat) : Int), 0, 0) ∧ 1 ≤ P ∧ P < t.length ∧ t[P]? = some 93 ∧ ∀ s', Ag t s' P → F22 s' = some (sa g, ((P + 1 : Nat) : Int), 0, 0)) := by
  by_cases h94 : t[0]? = some 94
  · have h0 : 0 < t.length := by
      rcases Nat.lt_or_ge 0 t.length with h' | h'
      · exact h'
      · rw [List.getElem?_eq_none h'] at h94; cases h94
    rcases shape t (by omega) true (Arr.rep 4 0) 1 t.length 1 (fun _ => false) (by omega) (by omega) (by omega) with ⟨e, h⟩ | ⟨P, g, h, h1, h2, h3, h4, h5⟩
    · exact .inl ⟨e, f22_of (by omega) ((start_not t (by omega) h94).trans h)⟩
    · refine .inr ⟨P, g, f22_of (by omega) ((start_not t (by omega) h94).trans h), h1, h3, h4, fun s' ha => f22_of ha.hl' ?_⟩
      exact (start_not s' ha.hl' ((ha.eq 0 (by omega)).trans h94)).trans (h5 s' ha)
  · rcases shape t (by omega) false (Arr.rep 4 0) 0 t.length 0 (fun _ => false) (by omega) (by omega) (by omega) with ⟨e, h⟩ | ⟨P, g, h, h1, h2, h3, h4, h5⟩
    · exact .inl ⟨e, f22_of (by omega) ((start_plain t (by omega) h94).trans h)⟩
    · refine .inr ⟨P, g, f22_of (by omega) ((start_plain t (by omega) h94).trans h), h2, h3, h4, fun s' ha => f22_of ha.hl' ?_⟩
      refine (start_plain s' ha.hl' ?_).trans (h5 s' ha)
      rw [ha.eq 0 (by omega)]; exact h94

theorem pureSetsBack (a0 : Arr 4 Int) (a1 : Str) (a2 : Str) (w0 : ∀ y ∈ a0.l, (Lit.int .u64 y).wf = true) (w1 : a1.length ≤ 140737488351232) (w2 : a2.length ≤ 140737488351232) : F5 a0 a1 a2 = some true := by
  obtain ⟨f, rfl⟩ := sa_of a0 w0
  have pl := prt_len f
  have b1 := f22_of (s := prt f ++ a2) (by simp; omega) (back f a2 (by simp; omega))
  unfold F5
  rw [f11_eq, bs, if_neg (by decide), f24_eq, bs, if_pos (by omega), b1, bs, if_neg (by simp), if_neg (by simp), if_neg (by simp), if_neg (by simp)]
  rcases read a1 (by omega) with ⟨e, h⟩ | ⟨P, g, h, h1, h2, h3, h4⟩
  · rw [h, bs, if_pos (by simp), if_pos (by simp), if_pos (by simp)]
    rfl
  · have ha : Ag a1 (a1.take (P + 1) ++ a2) P := {
      hl := by omega
      hl' := by simp; omega
      lt := h2
      lt' := by simp; omega
      eq := fun k hk => by
        rw [List.getElem?_append_left (by simp; omega), List.getElem?_take, if_pos (by omega)]
      cl := h3 }
    have b2 := h4 _ ha
    have pg := prt_len g
    have b3 := f22_of (s := prt g) (by omega) (by have := back g [] (by simp; omega); simpa using this)
    have cut : strcut a1 0 ((P + 1 : Nat) : Int) = some (a1.take (P + 1)) := by
      have := cut_eq a1 0 (P + 1) (by omega) (by omega)
      simpa using this
    have w : IntKind.wrap .i64 (((P + 1 : Nat) : Int) - 1) = (P : Int) := by rw [wrapi _ (by omega) (by omega)]; omega
    rw [h, bs, if_neg (by simp), df (by simp only []; omega), df (by simp only []; omega)]
    simp only []
    rw [w, ixs h3, bs, if_neg (by decide), cut, bs, if_pos (by simp; omega), b2, bs, f24_eq, bs, b3, bs]
    simp
end Go.Proofs.Ytfjdegohjnejkaa
