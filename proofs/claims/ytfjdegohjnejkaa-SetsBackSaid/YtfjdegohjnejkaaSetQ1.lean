/-
  Sets of bytes: one item read, in both ways.
-/
import Derived.Test.YtfjdegohjnejkaaSetP9
namespace Go.Proofs.Ytfjdegohjnejkaa
open Go AW
set_option linter.unusedVariables false
noncomputable section

theorem class_sa (name : Str) : ∃ (g : Nat → Bool) (b : Bool), F9 name = some (sa g, b) ∧ F10 name = some (sa g, b) ∧ (b = true → (58 : UInt8) ∉ name) := by
  obtain ⟨c, c1, c2⟩ := class_eq name
  obtain ⟨M, hM, g1, g2, g3, g4, g5, g6, g7, g8, g9, g10, g11, g12, gn⟩ := f34_ex
  have hor : (∃ g, M.get name = some (sa g) ∧ (58 : UInt8) ∉ name) ∨ M.get name = none := by
    by_cases h1 : name = nUpper
    · exact .inl ⟨_, h1 ▸ g1, by rw [h1]; decide⟩
    by_cases h2 : name = nLower
    · exact .inl ⟨_, h2 ▸ g2, by rw [h2]; decide⟩
    by_cases h3 : name = nAlpha
    · exact .inl ⟨_, h3 ▸ g3, by rw [h3]; decide⟩
    by_cases h4 : name = nDigit
    · exact .inl ⟨_, h4 ▸ g4, by rw [h4]; decide⟩
    by_cases h5 : name = nAlnum
    · exact .inl ⟨_, h5 ▸ g5, by rw [h5]; decide⟩
    by_cases h6 : name = nXdigit
    · exact .inl ⟨_, h6 ▸ g6, by rw [h6]; decide⟩
    by_cases h7 : name = nBlank
    · exact .inl ⟨_, h7 ▸ g7, by rw [h7]; decide⟩
    by_cases h8 : name = nSpace
    · exact .inl ⟨_, h8 ▸ g8, by rw [h8]; decide⟩
    by_cases h9 : name = nCntrl
    · exact .inl ⟨_, h9 ▸ g9, by rw [h9]; decide⟩
    by_cases h10 : name = nPrint
    · exact .inl ⟨_, h10 ▸ g10, by rw [h10]; decide⟩
    by_cases h11 : name = nGraph
    · exact .inl ⟨_, h11 ▸ g11, by rw [h11]; decide⟩
    by_cases h12 : name = nPunct
    · exact .inl ⟨_, h12 ▸ g12, by rw [h12]; decide⟩
    exact .inr (gn name h1 h2 h3 h4 h5 h6 h7 h8 h9 h10 h11 h12)
  have hF : F9 name = some (Option.getD (Mp.get M name) (Arr.rep 4 0), Option.isSome (Mp.get M name)) := by unfold F9; rw [hM, bs]
  have hc : c = (Option.getD (Mp.get M name) (Arr.rep 4 0), Option.isSome (Mp.get M name)) := Option.some.inj (c1.symm.trans hF)
  rcases hor with ⟨g, h, h'⟩ | h
  · rw [h] at hc
    exact ⟨g, true, c1.trans (congrArg some hc), c2.trans (congrArg some hc), fun _ => h'⟩
  · rw [h] at hc
    exact ⟨fun _ => false, false, c1.trans (congrArg some hc), c2.trans (congrArg some hc), fun h => by cases h⟩

def noItem : T54 := ⟨Arr.rep 4 0, 0, false⟩
theorem f39_eq (s : Str) (i at_ : Int) : F39 ⟨s, i, -1⟩ at_ = some (noItem, ⟨s, i, at_⟩) := by
  unfold F39
  rw [if_pos (by simp)]; rfl
theorem cut_eq (s : Str) (a b : Nat) (h : a ≤ b) (hb : b ≤ s.length) : strcut s (a : Int) (b : Int) = some ((s.take b).drop a) := by
  unfold strcut
  rw [if_pos ⟨by omega, by omega, by omega⟩, Int.toNat_natCast, Int.toNat_natCast]
theorem cut_mem {s : Str} {a b k : Nat} {c : UInt8} (h : s[k]? = some c) (h1 : a ≤ k) (h2 : k < b) : c ∈ (s.take b).drop a := by
  refine List.mem_iff_getElem?.2 ⟨k - a, ?_⟩
  rw [List.getElem?_drop, List.getElem?_take, show a + (k - a) = k by omega, if_pos h2, h]
theorem at_lt {s : Str} {k : Nat} (h : k < s.length) : ∃ c, s[k]? = some c ∧ ix s (k : Int) = some c := ⟨_, List.getElem?_eq_getElem h, ixs (List.getElem?_eq_getElem h)⟩
theorem wk (k m : Nat) (h : k ≤ 1000000000000000) (hm : m ≤ 10) : IntKind.wrap .i64 ((k : Int) + (m : Int)) = ((k + m : Nat) : Int) := by rw [wrapi _ (by omega) (by omega)]; omega
theorem wk1 (k : Nat) (h : k ≤ 1000000000000000) : IntKind.wrap .i64 ((k : Int) + 1) = ((k + 1 : Nat) : Int) := wk k 1 h (by omega)
theorem wk2 (k : Nat) (h : k ≤ 1000000000000000) : IntKind.wrap .i64 ((k : Int) + 2) = ((k + 2 : Nat) : Int) := wk k 2 h (by omega)
theorem wk3 (k : Nat) (h : k ≤ 1000000000000000) : IntKind.wrap .i64 ((k : Int) + 3) = ((k + 3 : Nat) : Int) := wk k 3 h (by omega)
theorem wk4 (k : Nat) (h : k ≤ 1000000000000000) : IntKind.wrap .i64 ((k : Int) + 4) = ((k + 4 : Nat) : Int) := wk k 4 h (by omega)
theorem wk5 (k : Nat) (h : k ≤ 1000000000000000) : IntKind.wrap .i64 ((k : Int) + 5) = ((k + 5 : Nat) : Int) := wk k 5 h (by omega)

theorem g46_colon (s : Str) (hl : s.length ≤ 1000000000000000) (i k0 : Nat) (hk : i + 2 ≤ k0) (h58 : s[k0]? = some 58) (t4 : Arr 4 Int) : ∀ (m k : Nat), s.length ≤ k + m → k0 < k → k ≤ s.length → ∃ A n, G46 (.p1 s (i : Int) (k : Int) t4) = some (A, n, false)
  | 0, k, hm, h, hle => by
    rw [G46.eq_1, wk1 k (by omega), df (by omega)]
    exact ⟨_, _, rfl⟩
  | m + 1, k, hm, h, hle => by
    rw [G46.eq_1, wk1 k (by omega)]
    by_cases hlt : k + 1 < s.length
    · obtain ⟨c, hc, hc'⟩ := at_lt (s := s) (k := k) (by omega)
      obtain ⟨d, hd, hd'⟩ := at_lt (s := s) (k := k + 1) hlt
      have ih := g46_colon s hl i k0 hk h58 t4 m (k + 1) (by omega) (by omega) (by omega)
      rw [dt (by omega), hc', bs]
      by_cases e : c.toNat = 58
      · rw [if_pos (by simp; omega), hd', bs]
        by_cases e' : d.toNat = 93
        · rw [if_pos (by simp; omega), wk2 i (by omega), cut_eq s (i + 2) k (by omega) (by omega), bs]
          obtain ⟨g, b, _, f10, hb⟩ := class_sa ((s.take k).drop (i + 2))
          have : b = false := by
            cases b with
            | false => rfl
            | true => exact absurd (cut_mem h58 hk h) (hb rfl)
          rw [f10, bs, this]
          exact ⟨_, _, rfl⟩
        · rw [if_neg (by simp; omega)]; exact ih
      · rw [if_neg (by simp; omega)]; exact ih
    · rw [df (by omega)]
      exact ⟨_, _, rfl⟩

theorem scan (s : Str) (hl : s.length ≤ 1000000000000000) (i : Nat) (t2 : T54) (t4 : Arr 4 Int) : ∀ (m k : Nat), s.length ≤ k + m → i + 2 ≤ k → k ≤ s.length →
    (G44 (.p1 (i : Int) (k : Int) ⟨s, (i : Int), -1⟩ t2) = some (noItem, ⟨s, (i : Int), (i : Int)⟩) ∧ ∃ A n, G46 (.p1 s (i : Int) (k : Int) t4) = some (A, n, false)) ∨
    (∃ (g : Nat → Bool) (n : Nat), G44 (.p1 (i : Int) (k : Int) ⟨s, (i : Int), -1⟩ t2) = some (⟨sa g, 0, false⟩, ⟨s, (n : Int), -1⟩) ∧ G46 (.p1 s (i : Int) (k : Int) t4) = some (sa g, (n : Int), true) ∧ i < n ∧ n ≤ s.length)
  | 0, k, hm, hk, hle => by
    left
    rw [G44.eq_1, G46.eq_1, wk1 k (by omega)]
    simp only []
    rw [df (by omega), df (by omega), f39_eq, bs]
    exact ⟨rfl, _, _, rfl⟩
  | m + 1, k, hm, hk, hle => by
    by_cases hlt : k < s.length
    · obtain ⟨c, hc, hc'⟩ := at_lt (s := s) (k := k) hlt
      by_cases e : c.toNat = 58
      · have h58 : s[k]? = some 58 := by rw [hc]; exact congrArg some (UInt8.toNat_inj.1 e)
        have col := g46_colon s hl i k hk h58 t4 m (k + 1) (by omega) (by omega) (by omega)
        obtain ⟨g, b, f9, f10, hb⟩ := class_sa ((s.take k).drop (i + 2))
        have fail3 : G44 (.p3 (i : Int) ⟨s, (i : Int), -1⟩ t2) = some (noItem, ⟨s, (i : Int), (i : Int)⟩) := by
          rw [G44.eq_3, f39_eq, bs]
        have start : ∀ R : Option (T54 × T52), (if (!b) = true then G44 (.p3 (i : Int) ⟨s, (i : Int), -1⟩ t2) else (if decide (((k + 1 : Nat) : Int) ≥ (s.length : Int)) = true then G44 (.p3 (i : Int) ⟨s, (i : Int), -1⟩ t2) else
            (ix s ((k + 1 : Nat) : Int) >>= fun b71 => if ((b71.toNat : Int) != 93) = true then G44 (.p3 (i : Int) ⟨s, (i : Int), -1⟩ t2) else some (⟨sa g, 0, false⟩, ⟨s, ((k + 2 : Nat) : Int), -1⟩)))) = R → G44 (.p1 (i : Int) (k : Int) ⟨s, (i : Int), -1⟩ t2) = R := fun R hR => by
          rw [G44.eq_1, wk1 k (by omega), wk2 i (by omega), wk2 k (by omega)]
          simp only []
          rw [dt (by omega), hc', bs, if_neg (by simp [e]), cut_eq s (i + 2) k (by omega) (by omega), bs, f9, bs]
          exact hR
        by_cases hlt1 : k + 1 < s.length
        · obtain ⟨d, hd, hd'⟩ := at_lt (s := s) (k := k + 1) hlt1
          by_cases e' : d.toNat = 93
          · have a46 : G46 (.p1 s (i : Int) (k : Int) t4) = some (sa g, ((k + 2 : Nat) : Int), b) := by
              rw [G46.eq_1, wk1 k (by omega), dt (by omega), hc', bs, if_pos (by simp; omega), hd', bs, if_pos (by simp; omega), wk2 i (by omega), cut_eq s (i + 2) k (by omega) (by omega), bs, f10, bs, wk2 k (by omega)]
            rw [a46]
            cases b with
            | false =>
              left
              refine ⟨start _ ?_, _, _, rfl⟩
              rw [if_pos (by decide)]; exact fail3
            | true =>
              right
              refine ⟨g, k + 2, start _ ?_, rfl, by omega, by omega⟩
              rw [if_neg (by decide), df (by omega), hd', bs, if_neg (by simp [e'])]
          · left
            have a46 : G46 (.p1 s (i : Int) (k : Int) t4) = G46 (.p1 s (i : Int) ((k + 1 : Nat) : Int) t4) := by
              rw [G46.eq_1, wk1 k (by omega), dt (by omega), hc', bs, if_pos (by simp; omega), hd', bs, if_neg (by simp; omega)]
            rw [a46]
            refine ⟨start _ ?_, col⟩
            cases b with
            | false => rw [if_pos (by decide)]; exact fail3
            | true => rw [if_neg (by decide), df (by omega), hd', bs, if_pos (by simp; omega)]; exact fail3
        · left
          have a46 : G46 (.p1 s (i : Int) (k : Int) t4) = some (Arr.rep 4 0, (i : Int), false) := by
            rw [G46.eq_1, wk1 k (by omega), df (by omega)]
          rw [a46]
          refine ⟨start _ ?_, _, _, rfl⟩
          cases b with
          | false => rw [if_pos (by decide)]; exact fail3
          | true => rw [if_neg (by decide), dt (by omega)]; exact fail3
      · have ih := scan s hl i t2 t4 m (k + 1) (by omega) (by omega) (by omega)
        have e46 : G46 (.p1 s (i : Int) (k : Int) t4) = G46 (.p1 s (i : Int) ((k + 1 : Nat) : Int) t4) := by
          by_cases hlt1 : k + 1 < s.length
          · rw [G46.eq_1, wk1 k (by omega), dt (by omega), hc', bs, if_neg (by simp; omega)]
          · rw [G46.eq_1, wk1 k (by omega), df (by omega), G46.eq_1, wk1 (k + 1) (by omega), df (by omega)]
        have e44 : G44 (.p1 (i : Int) (k : Int) ⟨s, (i : Int), -1⟩ t2) = G44 (.p1 (i : Int) ((k + 1 : Nat) : Int) ⟨s, (i : Int), -1⟩ t2) := by
          rw [G44.eq_1, wk1 k (by omega)]
          simp only []
          rw [dt (by omega), hc', bs, if_pos (by simp; omega)]
        rw [e46, e44]
        exact ih
    · left
      rw [G44.eq_1, G46.eq_1, wk1 k (by omega)]
      simp only []
      rw [df (by omega), df (by omega), f39_eq, bs]
      exact ⟨rfl, _, _, rfl⟩
end
end Go.Proofs.Ytfjdegohjnejkaa
