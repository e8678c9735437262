/-
Which entries may be: both checks.
-/
import Derived.Test.YteinehkdjkobnaaqRc
set_option linter.unusedVariables false
set_option linter.unusedSimpArgs false
namespace Go.Proofs.Yteinehkdjkobnaa
open Go Go.Ev
instance (e : GEpoch) : Decidable (MayEp e) := by unfold MayEp; infer_instance
section
variable {N : Nat}
end
end Go.Proofs.Yteinehkdjkobnaa
