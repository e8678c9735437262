/-
Reading: parts,lists of operations,entries; what the program's readers read,and that it is what was written.
-/
import Derived.Test.YteinehkdjkobnaaGreatqUb
set_option linter.unusedVariables false
set_option linter.unusedSimpArgs false
namespace Go.Proofs.YteinehkdjkobnaaGreat
open Go Go.Ev
abbrev St := Int × List Int
section
variable {N : Nat} {B : List Int} {s : St}
end
end Go.Proofs.YteinehkdjkobnaaGreat
