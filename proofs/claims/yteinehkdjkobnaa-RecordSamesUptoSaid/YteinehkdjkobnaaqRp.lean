/-
Messages that may be: both answers.
-/
import Derived.Test.YteinehkdjkobnaaqRo
set_option linter.unusedVariables false
set_option linter.unusedSimpArgs false
namespace Go.Proofs.Yteinehkdjkobnaa
open Go Go.Ev
def kindM (m : GMsg) : Prop := 1 ≤ m.Kind ∧ m.Kind ≤ 15
instance (m : GMsg) : Decidable (kindM m) := by unfold kindM; infer_instance
section
variable {N : Nat}
end
end Go.Proofs.Yteinehkdjkobnaa
