/-
Reading: slotted entries,lists of them,messages; what the program's readers read.
-/
import Derived.Test.YteinehkdjkobnaaGreatqVb
set_option linter.unusedVariables false
set_option linter.unusedSimpArgs false
namespace Go.Proofs.YteinehkdjkobnaaGreat
open Go Go.Ev
section
variable {N : Nat} {B : List Int} {s : St}
end
end Go.Proofs.YteinehkdjkobnaaGreat
