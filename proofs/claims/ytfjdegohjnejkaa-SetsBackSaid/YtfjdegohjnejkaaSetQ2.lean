/-
  Sets of bytes: an item and a range of items read, in both ways.
-/
import Derived.Test.YtfjdegohjnejkaaSetQ1
namespace Go.Proofs.Ytfjdegohjnejkaa
open Go AW
set_option linter.unusedVariables false
noncomputable section

theorem f13_one (c : Nat) (h : c < 256) : F13 (some [(c : Int)]) = some (sa (one c)) := by
  rw [f13_eq _ [c] rfl (by simp [h]) (by simp)]
  refine congrArg some (sa_ext fun n hn => ?_)
  rw [foldl_addS]; simp [one]

def Spc (s : Str) (i : Nat) (c1 : UInt8) : Prop := s[i]? = some 91 ∧ s[i + 1]? = some c1 ∧ (c1.toNat = 46 ∨ c1.toNat = 61 ∨ c1.toNat = 58)
theorem spc_lt {s : Str} {i : Nat} {c1 : UInt8} (h : Spc s i c1) : i + 1 < s.length := by
  rcases Nat.lt_or_ge (i + 1) s.length with h' | h'
  · exact h'
  · have := h.2.1; rw [List.getElem?_eq_none h'] at this; cases this
theorem spc_45 (s : Str) (hl : s.length ≤ 1000000000000000) {i : Nat} {c1 : UInt8} (h : Spc s i c1) : F45 s (i : Int) = some (c1.toNat : Int) := by
  have hlt := spc_lt h
  obtain ⟨h0, h1, h2⟩ := h
  have g : G45 (.p1 s (i : Int)) = some (c1.toNat : Int) := by rw [G45, wk1 i (by omega), ixs h1, bs]
  unfold F45
  rw [wk1 i (by omega), dt (by omega), ixs h0, bs, if_pos (by decide), ixs h1, bs, bs, bs, g]
  split
  · rfl
  · split
    · rfl
    · split
      · rfl
      · rename_i a b c
        simp at a b c
        omega
theorem spc_38 (s : Str) (hl : s.length ≤ 1000000000000000) {i : Nat} {c1 : UInt8} (h : Spc s i c1) {x : T54} {y : T52} (hf : F44 ⟨s, (i : Int), -1⟩ = some (x, y)) : F38 ⟨s, (i : Int), -1⟩ = some (x, y) := by
  have hlt := spc_lt h
  obtain ⟨h0, h1, h2⟩ := h
  have g : ∀ t2, G38 (.p1 ⟨s, (i : Int), -1⟩ t2) = some (x, y) := fun t2 => by rw [G38.eq_1, hf, bs]
  unfold F38
  simp only []
  rw [df (by omega), ixs h0, bs, if_pos (by decide), wk1 i (by omega), dt (by omega), ixs h1, bs, bs, bs, g]
  split
  · rfl
  · split
    · rfl
    · split
      · rfl
      · rename_i a b c
        simp at a b c
        omega
theorem pln_45 (s : Str) (hl : s.length ≤ 1000000000000000) {i : Nat} (hi : i < s.length) (h : ∀ c, ¬ Spc s i c) : F45 s (i : Int) = some 0 := by
  obtain ⟨c0, h0, h0'⟩ := at_lt hi
  unfold F45
  rw [wk1 i (by omega)]
  by_cases hlt : i + 1 < s.length
  · obtain ⟨c1, h1, h1'⟩ := at_lt hlt
    rw [dt (by omega), h0', bs]
    by_cases e : c0.toNat = 91
    · have e0 : c0 = 91 := UInt8.toNat_inj.1 e
      have hn : ¬ (c1.toNat = 46 ∨ c1.toNat = 61 ∨ c1.toNat = 58) := fun hh => h c1 ⟨by rw [h0, e0], h1, hh⟩
      rw [if_pos (by simp; omega), h1', bs, if_neg (by simp; omega), bs, if_neg (by simp; omega), bs, if_neg (by simp; omega)]
    · rw [if_neg (by simp; omega)]
  · rw [df (by omega)]
theorem pln_38 (s : Str) (hl : s.length ≤ 1000000000000000) {i : Nat} (hi : i < s.length) (h : ∀ c, ¬ Spc s i c) {c0 : UInt8} (h0 : s[i]? = some c0) : F38 ⟨s, (i : Int), -1⟩ = G38 (.p2 (c0.toNat : Int) ⟨s, (i : Int), -1⟩ noItem) := by
  unfold F38
  simp only []
  rw [df (by omega), ixs h0, bs, wk1 i (by omega)]
  by_cases e : c0.toNat = 91
  · rw [if_pos (by simp; omega)]
    by_cases hlt : i + 1 < s.length
    · obtain ⟨c1, h1, h1'⟩ := at_lt hlt
      have e0 : c0 = 91 := UInt8.toNat_inj.1 e
      have hn : ¬ (c1.toNat = 46 ∨ c1.toNat = 61 ∨ c1.toNat = 58) := fun hh => h c1 ⟨by rw [h0, e0], h1, hh⟩
      rw [dt (by omega), h1', bs, if_neg (by simp; omega), bs, if_neg (by simp; omega), bs, if_neg (by simp; omega)]
      rfl
    · rw [df (by omega)]; rfl
  · rw [if_neg (by simp; omega)]; rfl

theorem kind (s : Str) (hl : s.length ≤ 1000000000000000) {i : Nat} {c1 : UInt8} (h : Spc s i c1) (h58 : c1.toNat ≠ 58) :
    (F44 ⟨s, (i : Int), -1⟩ = some (noItem, ⟨s, (i : Int), (i : Int)⟩) ∧ F47 s (i : Int) = some (0, (i : Int), false)) ∨
    (∃ c : Nat, c < 256 ∧ F44 ⟨s, (i : Int), -1⟩ = some (⟨sa (one c), (c : Int), ((c1.toNat : Int) == 46)⟩, ⟨s, ((i + 5 : Nat) : Int), -1⟩) ∧ F47 s (i : Int) = some ((c : Int), ((i + 5 : Nat) : Int), true) ∧ i + 5 ≤ s.length) := by
  have hlt := spc_lt h
  obtain ⟨h0, h1, h2⟩ := h
  have f2 : ∀ t2, G44 (.p2 (i : Int) ⟨s, (i : Int), -1⟩ t2) = some (noItem, ⟨s, (i : Int), (i : Int)⟩) := fun t2 => by rw [G44.eq_2, f39_eq, bs]
  have f7 : G47 (.p1 (i : Int)) = some (0, (i : Int), false) := by rw [G47]
  unfold F44 F47
  simp only []
  rw [wk1 i (by omega), wk4 i (by omega), wk3 i (by omega), wk2 i (by omega), wk5 i (by omega), ixs h1, bs, if_neg (by simp; omega), f2]
  by_cases hlt4 : i + 4 < s.length
  · obtain ⟨c2, g2, g2'⟩ := at_lt (s := s) (k := i + 2) (by omega)
    obtain ⟨c3, g3, g3'⟩ := at_lt (s := s) (k := i + 3) (by omega)
    obtain ⟨c4, g4, g4'⟩ := at_lt (s := s) (k := i + 4) (by omega)
    rw [df (by omega), g3', bs, dt (by omega), bs, bs]
    by_cases e3 : c3.toNat = c1.toNat
    · rw [if_neg (by simp [e3]), g4', bs]
      by_cases e4 : c4.toNat = 93
      · right
        rw [if_neg (by simp [e4]), g2', bs, if_pos (by simp [e3]), bs, if_pos (by simp [e4]), bs, f12_one _ c2.toNat_lt, bs]
        exact ⟨c2.toNat, c2.toNat_lt, rfl, rfl, by omega⟩
      · left
        rw [if_pos (by simp; omega), if_pos (by simp [e3]), bs, if_neg (by simp; omega), f7]
        exact ⟨rfl, rfl⟩
    · left
      rw [if_pos (by simp; omega), if_neg (by simp; omega), f7]
      exact ⟨rfl, rfl⟩
  · left
    rw [dt (by omega), df (by omega), f7]
    exact ⟨rfl, rfl⟩

theorem itm (s : Str) (hl : s.length ≤ 1000000000000000) {i : Nat} (hi : i < s.length) :
    (F38 ⟨s, (i : Int), -1⟩ = some (noItem, ⟨s, (i : Int), (i : Int)⟩) ∧ (∃ a b, F48 s (i : Int) = some (a, b, false)) ∧ ∃ A n, F40 s (i : Int) = some (A, n, (i : Int), false)) ∨
    (∃ (g : Nat → Bool) (c n : Nat), c < 256 ∧ F38 ⟨s, (i : Int), -1⟩ = some (⟨sa g, (c : Int), false⟩, ⟨s, (n : Int), -1⟩) ∧ (∃ a b, F48 s (i : Int) = some (a, b, false)) ∧ F40 s (i : Int) = some (sa g, (n : Int), (i : Int), true) ∧ i < n ∧ n ≤ s.length) ∨
    (∃ (c n : Nat) (v : Int), c < 256 ∧ F38 ⟨s, (i : Int), -1⟩ = some (⟨sa (one c), (c : Int), true⟩, ⟨s, (n : Int), -1⟩) ∧ F48 s (i : Int) = some ((c : Int), (n : Int), true) ∧ F45 s (i : Int) = some v ∧ v ≠ 58 ∧ v ≠ 61 ∧ i < n ∧ n ≤ s.length) := by
  by_cases hs : ∃ c, Spc s i c
  · obtain ⟨c1, h⟩ := hs
    have h45 := spc_45 s hl h
    have hlt := spc_lt h
    by_cases e58 : c1.toNat = 58
    · have hx : F44 ⟨s, (i : Int), -1⟩ = G44 (.p1 (i : Int) ((i + 2 : Nat) : Int) ⟨s, (i : Int), -1⟩ noItem) := by
        unfold F44
        simp only []
        rw [wk1 i (by omega), ixs h.2.1, bs, if_pos (by simp; omega), wk2 i (by omega)]
        rfl
      have h48 : F48 s (i : Int) = some (0, (i : Int), false) := by
        unfold F48
        rw [h45, bs, if_neg (by simp [e58]), bs, if_pos (by simp [e58])]
      have h46 : F46 s (i : Int) = G46 (.p1 s (i : Int) ((i + 2 : Nat) : Int) (Arr.rep 4 0)) := by
        unfold F46
        rw [wk2 i (by omega)]
      rcases scan s hl i noItem (Arr.rep 4 0) s.length (i + 2) (by omega) (by omega) (by omega) with ⟨k1, A, n, k2⟩ | ⟨g, n, k1, k2, k3, k4⟩
      · refine .inl ⟨spc_38 s hl h (hx.trans k1), ⟨_, _, h48⟩, A, n, ?_⟩
        unfold F40
        rw [h45, bs, if_pos (by simp; omega), h46, k2, bs]
      · refine .inr (.inl ⟨g, 0, n, by omega, spc_38 s hl h (hx.trans k1), ⟨_, _, h48⟩, ?_, k3, k4⟩)
        unfold F40
        rw [h45, bs, if_pos (by simp; omega), h46, k2, bs]
    · rcases kind s hl h e58 with ⟨k1, k2⟩ | ⟨c, hc, k1, k2, k3⟩
      · left
        refine ⟨spc_38 s hl h k1, ?_, ?_⟩
        · unfold F48
          rw [h45, bs]
          by_cases e : c1.toNat = 46
          · rw [if_pos (by simp; omega), k2, bs]; exact ⟨_, _, rfl⟩
          · rw [if_neg (by simp; omega), bs, if_pos (by have := h.2.2; simp; omega)]; exact ⟨_, _, rfl⟩
        · unfold F40
          rw [h45, bs, if_neg (by simp; omega), bs]
          by_cases e : c1.toNat = 61
          · rw [if_pos (by simp; omega), k2, bs, show ([(0 : Int)]) = [((0 : Nat) : Int)] from rfl, f13_one 0 (by omega), bs]
            exact ⟨_, _, rfl⟩
          · have e46 : c1.toNat = 46 := by have := h.2.2; omega
            have h48 : F48 s (i : Int) = some (0, (i : Int), false) := by
              unfold F48
              rw [h45, bs, if_pos (by simp; omega), k2, bs]
            rw [if_neg (by simp; omega), h48, bs, if_pos (by simp)]
            exact ⟨_, _, rfl⟩
      · by_cases e : c1.toNat = 61
        · have e46 : ((c1.toNat : Int) == 46) = false := by rw [e]; rfl
          rw [e46] at k1
          refine .inr (.inl ⟨one c, c, i + 5, hc, spc_38 s hl h k1, ?_, ?_, by omega, k3⟩)
          · unfold F48
            rw [h45, bs, if_neg (by simp [e]), bs, if_pos (by simp [e])]; exact ⟨_, _, rfl⟩
          · unfold F40
            rw [h45, bs, if_neg (by simp; omega), bs, if_pos (by simp; omega), k2, bs, f13_one c hc, bs]
        · have e46 : c1.toNat = 46 := by have := h.2.2; omega
          have e46' : ((c1.toNat : Int) == 46) = true := by simp; omega
          rw [e46'] at k1
          refine .inr (.inr ⟨c, i + 5, _, hc, spc_38 s hl h k1, ?_, h45, by omega, by omega, by omega, k3⟩)
          unfold F48
          rw [h45, bs, if_pos e46', k2, bs]
  · have hs' : ∀ c, ¬ Spc s i c := fun c h => hs ⟨c, h⟩
    have h45 := pln_45 s hl hi hs'
    obtain ⟨c0, h0, h0'⟩ := at_lt hi
    have h38 := pln_38 s hl hi hs' h0
    right; right
    have p48 : G48 (.p1 s (i : Int)) = some ((c0.toNat : Int), ((i + 1 : Nat) : Int), true) := by
      rw [G48, h0', bs, wk1 i (by omega)]
    have pl : ∀ c : Nat, c < 256 → ∀ n : Int, G38 (.p3 (c : Int) ⟨s, n, -1⟩ noItem) = some (⟨sa (one c), (c : Int), true⟩, ⟨s, n, -1⟩) := fun c hc n => by rw [G38.eq_3, f12_one c hc, bs]
    by_cases hn : c0.toNat = 92 ∧ s[i + 1]? = some 110
    · have hlt : i + 1 < s.length := by
        rcases Nat.lt_or_ge (i + 1) s.length with h | h
        · exact h
        · have := hn.2; rw [List.getElem?_eq_none h] at this; cases this
      refine ⟨10, i + 2, 0, by omega, ?_, ?_, h45, by omega, by omega, by omega, by omega⟩
      · rw [h38, G38.eq_2, if_pos (by simp; omega)]
        simp only []
        rw [wk1 i (by omega), dt (by omega), ixs hn.2, bs, if_pos (by decide), wk1 (i + 1) (by omega)]
        exact pl 10 (by omega) _
      · unfold F48
        rw [h45, bs, if_neg (by decide), bs, if_neg (by decide), wk1 i (by omega), dt (by omega), h0', bs, if_pos (by simp; omega), ixs hn.2, bs, if_pos (by decide), wk2 i (by omega)]
        rfl
    · refine ⟨c0.toNat, i + 1, 0, c0.toNat_lt, ?_, ?_, h45, by omega, by omega, by omega, by omega⟩
      · rw [h38, G38.eq_2]
        simp only []
        rw [wk1 i (by omega), pl _ c0.toNat_lt]
        by_cases e : c0.toNat = 92
        · rw [if_pos (by simp; omega)]
          by_cases hlt : i + 1 < s.length
          · obtain ⟨c1, h1, h1'⟩ := at_lt hlt
            have ne : c1.toNat ≠ 110 := fun e1 => hn ⟨e, by rw [h1]; exact congrArg some (UInt8.toNat_inj.1 e1)⟩
            rw [dt (by omega), h1', bs, if_neg (by simp; omega)]
          · rw [df (by omega)]
        · rw [if_neg (by simp; omega)]
      · unfold F48
        rw [h45, bs, if_neg (by decide), bs, if_neg (by decide), wk1 i (by omega), p48]
        by_cases hlt : i + 1 < s.length
        · rw [dt (by omega), h0', bs]
          by_cases e : c0.toNat = 92
          · obtain ⟨c1, h1, h1'⟩ := at_lt hlt
            have ne : c1.toNat ≠ 110 := fun e1 => hn ⟨e, by rw [h1]; exact congrArg some (UInt8.toNat_inj.1 e1)⟩
            rw [if_pos (by simp; omega), h1', bs, if_neg (by simp; omega)]
          · rw [if_neg (by simp; omega)]
        · rw [df (by omega)]
end
end Go.Proofs.Ytfjdegohjnejkaa
