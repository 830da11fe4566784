/-
  A number's numeral, by the library's contract.
-/
import Derived.Test.YtllhdbdbdblimaaDoorTy
import Derived.Test.YtllhdbdbdblimaaDoorFwIt
import Derived.Test.YtllhdbdbdblimaaDoorItS
set_option linter.unusedVariables false
set_option maxRecDepth 4000
set_option maxHeartbeats 4000000
namespace Go.Proofs.YtllhdbdbdblimaaDoor
open Go AW
attribute [local irreducible] W WD SH XS XLoop DFun XCall
theorem dItoa (n : Int) (r : Str) (hF : itoaF n = some r) : DFun Tryd.prog gE 58 [.int .i64 n] (.str r) :=
 dItoa_of (g := 3) (fun n h0 h1 w ht => Tryd.strconv_Itoa n h0 h1 w ht) (by kernel_rfl) ((rfl : gE 3 = some (c109 g3)).trans (congrArg (fun l => some (List.flatMap (cI .u64) l)) (show g3.l = Lib.pow10Tab by decide +kernel))) n r hF
end Go.Proofs.YtllhdbdbdblimaaDoor
