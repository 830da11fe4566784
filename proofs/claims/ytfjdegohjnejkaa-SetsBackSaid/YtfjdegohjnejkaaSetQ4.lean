/-
  Sets of bytes: a set's text, with anything behind it, reads back as the set.
-/
import Derived.Test.YtfjdegohjnejkaaSetQ3
namespace Go.Proofs.Ytfjdegohjnejkaa
open Go AW
set_option linter.unusedVariables false
noncomputable section

theorem prQ_hd : ∀ (r : List Nat) (x z : Nat), ∃ p, prQ x z r = tol x ++ p
  | [], x, z => ⟨_, rfl⟩
  | y :: r, x, z => by
    rw [prQ]
    split
    · exact prQ_hd r x y
    · exact ⟨_, by rw [piece, List.append_assoc]⟩
theorem core (s : Str) (hl : s.length ≤ 1000000000000000) (not_ : Bool) (i : Nat) (t3 : Arr 4 Int) (more : Str) (f : Nat → Bool) (hne : bl f 256 ≠ []) (hd : s.drop i = prP (bl f 256) ++ (93 :: more)) :
    G23 (.p3 s (i : Int) not_ (i : Int) t3 (sa fun _ => false)) = some (sa (fun n => if not_ = true then !f n else f n), ((i + ((prP (bl f 256)).length + 1) : Nat) : Int), 0, 0) := by
  have hb : ∀ n ∈ bl f 256, n < 256 := fun n h => (bl_mem.1 h).1
  have hm : ∀ n, n < 256 → decide (n ∈ bl f 256) = f n := fun n hn => by
    rw [Bool.eq_iff_iff, decide_eq_true_iff, bl_mem]
    exact ⟨fun h => h.2, fun h => ⟨hn, h⟩⟩
  cases hl' : bl f 256 with
  | nil => exact absurd hl' hne
  | cons c r =>
    rw [hl'] at hd hb hm
    rw [prP] at hd ⊢
    have hc : c < 256 := hb c (by simp)
    have hpos : 0 < (prQ c c r).length := by
      obtain ⟨p, hp⟩ := prQ_hd r c c
      obtain ⟨d, t, e, _⟩ := tol_hd c hc
      rw [hp, e]; simp
    rw [g23_back s hl not_ i t3 more r c c i _ hd (Nat.le_refl _) hc (fun x hx => hb x (by simp [hx]))]
    have hS : sa (fun x => false || ran c c x || decide (x ∈ r)) = sa f := sa_ext fun n hn => by
      rw [← hm n hn, Bool.false_or, ran, ← Bool.decide_or, decide_eq_decide, List.mem_cons]
      constructor
      · rintro (h | h)
        · exact .inl (by omega)
        · exact .inr h
      · rintro (h | h)
        · exact .inl (by omega)
        · exact .inr h
    rw [hS]
    have hx : s[i + (prQ c c r).length]? = some 93 := by
      have := drop_more hd
      have : (s.drop (i + (prQ c c r).length))[0]? = some 93 := by rw [this]; rfl
      rw [List.getElem?_drop] at this
      exact this
    have hlt : i + (prQ c c r).length < s.length := by
      rcases Nat.lt_or_ge (i + (prQ c c r).length) s.length with h | h
      · exact h
      · rw [List.getElem?_eq_none h] at hx; cases hx
    rw [G23.eq_3, dt (by omega), ixs hx, bs, if_pos (by decide), dt (by omega)]
    cases not_ with
    | true => rw [if_pos rfl, f30_eq, bs, G23.eq_4, wk1 _ (by omega)]; rfl
    | false => rw [if_neg (by simp), G23.eq_4, wk1 _ (by omega)]; rfl

theorem cnt_nil {f : Nat → Bool} (h : 0 < cnt f 256) : bl f 256 ≠ [] := fun e => by
  rw [cnt, e] at h; cases h
theorem cnt_not' (f : Nat → Bool) : ∀ m, cnt (fun n => !f n) m + cnt f m = m
  | 0 => rfl
  | m + 1 => by
    have ih := cnt_not' f m
    simp only [cnt_succ]
    cases f m <;> simp <;> omega
theorem start_not (s : Str) (hl : s.length ≤ 1000000000000000) (h : s[0]? = some 94) : F23 s = G23 (.p3 s ((1 : Nat) : Int) true ((1 : Nat) : Int) (Arr.rep 4 0) (sa fun _ => false)) := by
  have h0 : 0 < s.length := by
    rcases Nat.lt_or_ge 0 s.length with h' | h'
    · exact h'
    · rw [List.getElem?_eq_none h'] at h; cases h
  unfold F23
  rw [dt (by omega), show (0 : Int) = ((0 : Nat) : Int) from rfl, ixs h, bs, G23.eq_1, if_pos (by decide), G23.eq_2]
  rfl
theorem start_plain (s : Str) (hl : s.length ≤ 1000000000000000) (h : s[0]? ≠ some 94) : F23 s = G23 (.p3 s ((0 : Nat) : Int) false ((0 : Nat) : Int) (Arr.rep 4 0) (sa fun _ => false)) := by
  unfold F23
  by_cases h0 : 0 < s.length
  · obtain ⟨c, hc, hc'⟩ := at_lt h0
    have hn : ((c.toNat : Int) == 94) = false := by
      have : c.toNat ≠ 94 := fun e => h (by rw [hc]; exact congrArg some (UInt8.toNat_inj.1 e))
      simp; omega
    rw [dt (by omega), show (0 : Int) = ((0 : Nat) : Int) from rfl, hc', bs, hn, G23.eq_1, if_neg (by simp), G23.eq_2]
    rfl
  · rw [df (by omega), G23.eq_1, if_neg (by simp), G23.eq_2]
    rfl
theorem back (f : Nat → Bool) (more : Str) (hl : (prt f ++ more).length ≤ 1000000000000000) : F23 (prt f ++ more) = some (sa f, ((prt f).length : Int), 0, 0) := by
  have hc := cnt_not' f 256
  have hle := cnt_le f 256
  unfold prt at hl ⊢
  by_cases h : (128 < cnt f 256 ∧ cnt f 256 < 256) ∨ cnt f 256 = 0
  · rw [if_pos h] at hl ⊢
    have e : [94] ++ (prP (bl (fun n => !f n) 256) ++ [93]) ++ more = 94 :: (prP (bl (fun n => !f n) 256) ++ (93 :: more)) := by simp
    rw [e] at hl ⊢
    rw [start_not _ hl rfl, core _ hl true 1 _ more (fun n => !f n) (cnt_nil (by omega)) rfl]
    have e2 : sa (fun n => if true = true then !(!f n) else !f n) = sa f := sa_ext fun n _ => by simp
    rw [e2]
    congr 3
    simp; omega
  · rw [if_neg h] at hl ⊢
    have e : [] ++ (prP (bl f 256) ++ [93]) ++ more = prP (bl f 256) ++ (93 :: more) := by simp
    rw [e] at hl ⊢
    have hne : bl f 256 ≠ [] := cnt_nil (by omega)
    have h94 : (prP (bl f 256) ++ (93 :: more))[0]? ≠ some 94 := by
      have hb : ∀ n ∈ bl f 256, n < 256 := fun n h => (bl_mem.1 h).1
      cases hl' : bl f 256 with
      | nil => exact absurd hl' hne
      | cons c r =>
        obtain ⟨p, hp⟩ := prQ_hd r c c
        obtain ⟨d, t, e, _, h2, _⟩ := tol_hd c (hb c (by rw [hl']; simp))
        rw [prP, hp, e]
        intro h'
        have : d = 94 := Option.some.inj h'
        rw [this] at h2
        exact h2 rfl
    rw [start_plain _ hl h94, core _ hl false 0 _ more f hne rfl]
    have e2 : sa (fun n => if false = true then !f n else f n) = sa f := sa_ext fun n _ => by simp
    rw [e2]
    congr 3
    simp
end
end Go.Proofs.Ytfjdegohjnejkaa
