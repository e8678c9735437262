/-
A body cut in two: the first part's run leaves a state told by a shape, the second part is run from that shape once.
-/
import Derived.Test.YtllmdbbhokaokaaqTvU
set_option linter.unusedVariables false
namespace Go.Ev
open Go
section
variable {E : Env} {k0 : Nat}
end
variable {τ : Nat → Type}
end Go.Ev
