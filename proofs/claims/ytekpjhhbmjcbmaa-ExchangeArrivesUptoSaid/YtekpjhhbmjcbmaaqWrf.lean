/-
Plain laws of another seat, turned to this one by wip/tools/ren2.py.
-/
import Derived.Test.YtekpjhhbmjcbmaaqFr
import Derived.Test.YtekpjhhbmjcbmaaqWrr
set_option linter.unusedVariables false
set_option linter.unusedSimpArgs false
namespace Go.Proofs.Ytekpjhhbmjcbmaa
open Go Go.Ev
section
variable {N : Nat}
end
end Go.Proofs.Ytekpjhhbmjcbmaa
