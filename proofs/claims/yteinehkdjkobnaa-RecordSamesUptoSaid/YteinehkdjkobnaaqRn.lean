/-
Slotted entries that may be: both answers.
-/
import Derived.Test.YteinehkdjkobnaaqRm
set_option linter.unusedVariables false
set_option linter.unusedSimpArgs false
namespace Go.Proofs.Yteinehkdjkobnaa
open Go Go.Ev
section
variable {N : Nat}
end
end Go.Proofs.Yteinehkdjkobnaa
