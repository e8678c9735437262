/-
Bulks.
-/
import Derived.Test.YtjjnclgkppbpnaaqRd
import Derived.Test.YtjjnclgkppbpnaaqTvT
set_option linter.unusedVariables false
namespace Go.Proofs.Ytjjnclgkppbpnaa
open Go Go.Ev
theorem bulk34_le (l : List Int) : l.length ≤ bulk34 l := by
  unfold bulk34
  have := len_le_sum' (f := bulk5) (fun x => Nat.le_refl _) l
  omega
end Go.Proofs.Ytjjnclgkppbpnaa
