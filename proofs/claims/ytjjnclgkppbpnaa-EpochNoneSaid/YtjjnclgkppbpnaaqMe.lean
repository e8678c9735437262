/-
A machine that no call made.
-/
import Derived.Test.YtjjnclgkppbpnaaqWb
import Derived.KernelRfl
set_option linter.unusedVariables false
set_option linter.unusedSimpArgs false
namespace Go.Proofs.Ytjjnclgkppbpnaa
open Go Go.Ev
theorem none_law (x : GEntry) (n : Int) : Flaw17_EpochNone 100 x n = some true := by kernel_rfl
end Go.Proofs.Ytjjnclgkppbpnaa
