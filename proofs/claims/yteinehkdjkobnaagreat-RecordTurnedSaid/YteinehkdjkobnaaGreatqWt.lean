/-
Plain laws of another seat,turned to this one by wip/tools/ren2.py.
-/
import Derived.Test.YteinehkdjkobnaaGreatqFw
import Derived.Test.YteinehkdjkobnaaGreatqWq
import Derived.KernelRfl
set_option linter.unusedVariables false
set_option linter.unusedSimpArgs false
namespace Go.Proofs.YteinehkdjkobnaaGreat
open Go Go.Ev
section
variable {N : Nat} {B : List Int} {s : Int × List Int}
end
section
variable {N : Nat} {w : List Int}
end
end Go.Proofs.YteinehkdjkobnaaGreat
