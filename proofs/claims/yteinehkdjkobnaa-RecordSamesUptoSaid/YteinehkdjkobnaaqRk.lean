/-
Addresses, ballots, slotted entries that may be: both checks.
-/
import Derived.Test.YteinehkdjkobnaaqRg
set_option linter.unusedVariables false
set_option linter.unusedSimpArgs false
namespace Go.Proofs.Yteinehkdjkobnaa
open Go Go.Ev
def MayAd (a : GAddr) : Prop := (0 ≤ a.Group ∧ a.Group < 9) ∧ (0 ≤ a.Replica ∧ a.Replica < 5)
instance (a : GAddr) : Decidable (MayAd a) := by unfold MayAd; infer_instance
def MayBa (b : GBallot) : Prop := cnt b.Round ∧ (0 ≤ b.Replica ∧ b.Replica < 5)
instance (b : GBallot) : Decidable (MayBa b) := by unfold MayBa; infer_instance
section
variable {N : Nat}
end
end Go.Proofs.Yteinehkdjkobnaa
