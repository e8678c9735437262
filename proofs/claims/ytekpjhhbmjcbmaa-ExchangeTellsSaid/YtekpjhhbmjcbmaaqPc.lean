/-
The laws of what counts.
-/
import Derived.Test.YtekpjhhbmjcbmaaqPb
import Derived.KernelRfl
set_option linter.unusedVariables false
set_option linter.unusedSimpArgs false
namespace Go.Proofs.Ytekpjhhbmjcbmaa
open Go Go.Ev
section
variable {N : Nat}
theorem begun_eq (hN : 400 ≤ N) : Flaw16_begun N = some true := by
  obtain ⟨k, rfl⟩ : ∃ k, N = k + 400 := ⟨N - 400, by omega⟩
  kernel_rfl
def good (N : Nat) (s : GSnap) (o : Int) : Int → Int → List GOp → Prop
  | _, _, [] => True
  | n, last, x :: r => ¬ stop N s o n last x ∧ good N s o (n + 1) x.Stamp.Time r
end
end Go.Proofs.Ytekpjhhbmjcbmaa
