/-
Bulks.
-/
import Derived.Test.YtekpjhhbmjcbmaaqRd
import Derived.Test.YtekpjhhbmjcbmaaqTvT
set_option linter.unusedVariables false
namespace Go.Proofs.Ytekpjhhbmjcbmaa
open Go Go.Ev
theorem bulk28_le (l : List GOp) : l.length ≤ bulk28 l := by
  unfold bulk28
  have := len_le_sum' (f := bulk43) (fun x => by unfold bulk43; omega) l
  omega
end Go.Proofs.Ytekpjhhbmjcbmaa
