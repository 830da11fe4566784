/-
  Sets of bytes: what Bytes hands back is new memory.
-/
import Derived.Test.YtfjdegohjnejkaaSetP8
namespace Go.Proofs.Ytfjdegohjnejkaa
open Go AW
set_option linter.unusedVariables false
set_option linter.unusedSimpArgs false
theorem f14_loop {a b : Sl Int} (h : ls a = ls b) (hl : (ls a).length ≤ 1000000) : ∀ (k i : Nat), i + k = (ls a).length → G14 (.p1 a b ((ls a).length : Int) (i : Int)) = some true
  | 0, i, e => by rw [G14.eq_1, df (by omega)]
  | k + 1, i, e => by
    have hi : (ls a)[i]? = some ((ls a)[i]'(by omega)) := List.getElem?_eq_getElem (by omega)
    rw [G14.eq_1, dt (by omega), ← h, ix_nat, hi, bs, bs, if_neg (by simp), wrapi _ (by omega) (by omega)]
    exact f14_loop h hl k (i + 1) (by omega)
theorem f14_eq {a b : Sl Int} (h : ls a = ls b) (hl : (ls a).length ≤ 1000000) : F14 a b = some true := by
  unfold F14
  rw [if_neg (by simp [h])]
  exact f14_loop h hl (ls a).length 0 (by omega)
theorem g6_14 (f : Nat → Bool) (a : Sl Int) (ha : 1 < (ls a).length) : G6 (.p14 (sa f) a) = some true := by
  obtain ⟨o, h1, h2⟩ := f15_eq f
  obtain ⟨o', h3, h4⟩ := f16_eq f
  have hl : (ls o).length ≤ 1000000 := by
    rw [h2, zl_len]
    have := bl_len f 256
    omega
  rw [G6.eq_14, h1, bs, h3, bs, f14_eq (h2.trans h4.symm) hl, bs, if_pos rfl, decide_eq_true (by omega)]
theorem g6_loop (f : Nat → Bool) (N : Nat) (hN : N ≤ 1000) : ∀ (k m : Nat) (a : Rw Int), m + k = N → a.n = N → a.l.length = N → G6 (.p6 (N : Int) (m : Int) (sa f) a) = some true
  | 0, m, a, hm, hn, hl => by
    rw [G6.eq_6, G6.eq_8, if_neg (by simp; omega), G6.eq_12, if_pos (by simp [ls]; omega), if_pos (by omega)]
    exact g6_14 f _ (by simp [ls])
  | k + 1, m, a, hm, hn, hl => by
    obtain ⟨y, hy⟩ : ∃ y, a.l[m]? = some y := ⟨a.l[m]'(by omega), List.getElem?_eq_getElem (by omega)⟩
    rw [G6.eq_6, G6.eq_8, if_pos (by simp; omega), G6.eq_11, G6.eq_15, if_pos ⟨by omega, by omega⟩, ix_nat, hy, bs, wrapi _ (by omega) (by omega)]
    exact g6_loop f N hN k (m + 1) (rset a m 120) (by omega) hn (by simp [rset, hl])
theorem pureSetsOwn (a0 : Arr 4 Int) (w0 : ∀ y ∈ a0.l, (Lit.int .u64 y).wf = true) : F6 a0 = some true := by
  obtain ⟨f, rfl⟩ := sa_of a0 w0
  obtain ⟨o, h1, h2⟩ := f15_eq f
  unfold F6
  rw [f11_eq, bs, if_neg (by decide), h1, bs]
  cases o with
  | none =>
    refine (G6.eq_1 _ _).trans ?_
    refine (G6.eq_3 _ _ _ _).trans ?_
    refine (G6.eq_5 _ _ _ _).trans ?_
    refine (G6.eq_7 _ _ _ _ _).trans ?_
    rw [if_neg (by decide), G6.eq_10, if_pos (by decide)]
    exact g6_14 f _ (by decide)
  | some l =>
    have hl : l.length ≤ 256 := by
      have : (ls (some l)).length ≤ 256 := by rw [h2, zl_len]; exact bl_len f 256
      simpa [ls] using this
    refine (G6.eq_2 _ _).trans ?_
    rw [G6.eq_4]
    exact g6_loop f l.length (by omega) l.length 0 ⟨l, l.length⟩ (by omega) rfl rfl
end Go.Proofs.Ytfjdegohjnejkaa
