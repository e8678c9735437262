/-
Bulks.
-/
import Derived.Test.YteinehkdjkobnaaGreatqRd
import Derived.Test.YteinehkdjkobnaaGreatqTvT
set_option linter.unusedVariables false
namespace Go.Proofs.YteinehkdjkobnaaGreat
open Go Go.Ev
theorem bulk31_le (l : List Int) : l.length ≤ z100 l := by
  unfold z100
  have := zvg (f := bulk5) (fun x => Nat.le_refl _) l
  omega
end Go.Proofs.YteinehkdjkobnaaGreat
