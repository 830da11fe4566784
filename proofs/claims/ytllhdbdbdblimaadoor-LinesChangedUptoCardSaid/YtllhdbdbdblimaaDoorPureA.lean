/-
  Lines: the laws of taking apart and putting together, where the bulk is bounded.
-/
import Derived.Test.YtllhdbdbdblimaaDoorLinP4
namespace Go.Proofs.YtllhdbdbdblimaaDoor
open Go AW
set_option linter.unusedVariables false
theorem bk_jn : ∀ l : List Ln, l.length ≤ (l.map bk25).sum ∧ (jn l).length ≤ (l.map bk25).sum ∧ ∀ x ∈ l, x.Text.length ≤ (l.map bk25).sum
  | [] => by simp [jn]
  | x :: l => by
    obtain ⟨h1, h2, h3⟩ := bk_jn l
    have e : bk25 x = x.Text.length + 1 + 1 + 1 := rfl
    rw [jn_cons, List.length_append, jn1_len]
    simp only [List.map_cons, List.sum_cons, List.length_cons]
    refine ⟨by omega, by split <;> omega, fun y hy => ?_⟩
    rcases List.mem_cons.1 hy with rfl | hy
    · omega
    · have := h3 y hy; omega
theorem pureULinesSplits (a0 : Str) (a1 : Sl T25) (w1 : ∀ x ∈ ls a1, ok25 x) (hb : bkS a0 + bkSl bk25 a1 ≤ 1048576) : F4 a0 a1 = some true := by
  obtain ⟨h1, h2, h3⟩ := bk_jn (ls a1)
  simp only [bkS, bkSl] at hb
  exact pureSplits a0 a1 (by omega) (by omega) (by omega)
theorem pureULinesBack (a0 : Str) (a1 : Sl T25) (w1 : ∀ x ∈ ls a1, ok25 x) (hb : bkS a0 + bkSl bk25 a1 ≤ 1048576) : F5 a0 a1 = some true := by
  obtain ⟨h1, h2, h3⟩ := bk_jn (ls a1)
  simp only [bkS, bkSl] at hb
  exact pureBack a0 a1 (by omega) (by omega) (fun x hx => by have := h3 x hx; omega) (by omega)
theorem pureULinesParts (a0 : Str) (a1 : Str)  (hb : bkS a0 + bkS a1 ≤ 1048576) : F6 a0 a1 = some true := by
  simp only [bkS] at hb
  exact pureParts a0 a1 (by omega)
end Go.Proofs.YtllhdbdbdblimaaDoor
