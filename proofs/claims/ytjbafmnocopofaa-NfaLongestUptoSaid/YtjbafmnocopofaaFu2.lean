/-
  The small expression with which each law begins.
-/
import Derived.Test.YtjbafmnocopofaaFu
import Derived.KernelRfl
namespace Go.Proofs.Ytjbafmnocopofaa
open Go AW
theorem f8 : F8 = some true := leF8 60 true (by kernel_rfl)
end Go.Proofs.Ytjbafmnocopofaa
