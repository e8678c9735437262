/-
Functions without a body: the first place of a byte in a string.
-/
import Derived.Test.YtddpmkmgbdedlaaGreatqTvW
import Derived.Lib.Bytealg
set_option linter.unusedVariables false
set_option linter.unusedSimpArgs false
namespace Go.Ev
open Go
variable {τ:Nat→Type}
end Go.Ev
