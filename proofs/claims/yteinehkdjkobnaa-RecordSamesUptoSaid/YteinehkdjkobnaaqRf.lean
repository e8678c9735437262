/-
Entries: bare ones, those that may be, both checks of them.
-/
import Derived.Test.YteinehkdjkobnaaqRe
set_option linter.unusedVariables false
set_option linter.unusedSimpArgs false
namespace Go.Proofs.Yteinehkdjkobnaa
open Go Go.Ev
section
variable {N : Nat}
end
end Go.Proofs.Yteinehkdjkobnaa
