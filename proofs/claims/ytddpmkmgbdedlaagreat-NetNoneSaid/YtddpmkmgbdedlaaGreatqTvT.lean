/-
Plain laws for the printed functions: loops by an invariant, wrap-around in range, lists and vectors by their places.
-/
import Derived.Test.YtddpmkmgbdedlaaGreatqTvR
set_option linter.unusedVariables false
set_option linter.unusedSimpArgs false
namespace Go.Ev
open Go
section
variable {α : Type} {n : Nat}
end
end Go.Ev
