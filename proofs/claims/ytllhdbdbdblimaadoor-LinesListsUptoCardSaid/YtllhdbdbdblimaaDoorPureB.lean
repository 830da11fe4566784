/-
  Lines: the laws of quoted texts and listings, where the bulk is bounded.
-/
import Derived.Test.YtllhdbdbdblimaaDoorLinP9
import Derived.Test.YtllhdbdbdblimaaDoorFwRow2
namespace Go.Proofs.YtllhdbdbdblimaaDoor
open Go AW Go.RowKit Go.WideShapes Go.ChangeShapes
set_option linter.unusedVariables false
theorem wf_i64 {y : Int} (h : (Lit.int .i64 y).wf = true) : y ≤ 9223372036854775807 := by
  have := bounds_i64 h
  omega
theorem pureULinesQuotes (a0 : Str) (a1 : Str)  (hb : bkS a0 + bkS a1 ≤ 1048576) : F7 a0 a1 = some true := by
  simp only [bkS] at hb
  exact pureQuotes a0 a1 (by omega) (by omega)
theorem pureULinesLists (a0 : Str) (a1 : Int) (a2 : Str) (w1 : (Lit.int .i64 a1).wf = true) (hb : bkS a0 + 1 + bkS a2 ≤ 1048576) : F8 a0 a1 a2 = some true := by
  simp only [bkS] at hb
  exact pureLists a0 a2 a1 (wf_i64 w1) (by omega) (by omega)
end Go.Proofs.YtllhdbdbdblimaaDoor
