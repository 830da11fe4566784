/-
  Lines: what Split hands back is new memory.
-/
import Derived.Test.YtllhdbdbdblimaaDoorLinP4
namespace Go.Proofs.YtllhdbdbdblimaaDoor
open Go AW
set_option linter.unusedVariables false
set_option linter.unusedSimpArgs false
theorem spl_len (s : Str) : (spl s).length ≤ s.length := by
  have := sp_len s []
  simpa [spl] using this
theorem g3_16 (s : Str) (hs : s.length ≤ 100000000) (a : Sl Ln) (ha : (ls a).length = (spl s).length + 2) : G3 (.p16 s (so (spl s)) a) = some true := by
  have hl := spl_len s
  have e : IntKind.wrap .i64 (((spl s).length : Int) + 2) = ((spl s).length : Int) + 2 := wi _ (by omega) (by omega)
  rw [G3.eq_16, f16 s (by omega), sm, f15 _ _ (by rw [ls_so]; omega), sm, if_pos (by simp), f14 s (by omega), sm, f15 _ _ (by rw [ls_so]; omega), sm, if_pos (by simp), ls_so, e, ha]
  simp
theorem g3_loop (s : Str) (hs : s.length ≤ 100000000) : ∀ (k m : Nat) (a : Rw Ln), m + k = (spl s).length → a.n = (spl s).length → a.l.length = (spl s).length → G3 (.p8 s (so (spl s)) ((spl s).length : Int) (m : Int) a) = some true
  | 0, m, a, hm, hn, hl => by
    have hsl := spl_len s
    rw [G3.eq_8, G3.eq_10, if_neg (by simp; omega), G3.eq_14, if_pos (by simp [ls]; omega), if_pos (by omega)]
    exact g3_16 s hs _ (by simp [ls, hl])
  | k + 1, m, a, hm, hn, hl => by
    have hsl := spl_len s
    obtain ⟨y, hy⟩ := get_ex a.l (i := m) (by omega)
    rw [G3.eq_8, G3.eq_10, if_pos (by simp; omega), G3.eq_13, G3.eq_17, if_pos ⟨by omega, by omega⟩, ixs hy, sm, wn1 m (by omega)]
    exact g3_loop s hs k (m + 1) (rset a m _) (by omega) hn (by simp [rset, hl])
theorem pureULinesOwn (a0 : Str)  (hb : bkS a0 ≤ 1048576) : F3 a0 = some true := by
  simp only [bkS] at hb
  have hs : a0.length ≤ 100000000 := by omega
  have hsl := spl_len a0
  unfold F3
  rw [f13, sm, if_neg (by decide), f14 a0 (by omega), sm]
  cases h : spl a0 with
  | nil =>
    refine (G3.eq_1 _ _).trans ?_
    rw [f14 a0 (by omega), sm]
    refine (G3.eq_3 _ _ _).trans ?_
    refine (G3.eq_5 _ _ _ _ _).trans ?_
    refine (G3.eq_7 _ _ _ _ _).trans ?_
    refine (G3.eq_9 _ _ _ _ _ _).trans ?_
    rw [if_neg (by decide), G3.eq_12, if_pos (by decide)]
    exact g3_16 a0 hs _ (by rw [h]; rfl)
  | cons x l =>
    refine (G3.eq_2 _ _).trans ?_
    rw [f14 a0 (by omega), sm, G3.eq_4, G3.eq_6, ← h]
    exact g3_loop a0 hs (spl a0).length 0 ⟨spl a0, (spl a0).length⟩ (by omega) rfl rfl
end Go.Proofs.YtllhdbdbdblimaaDoor
