/-
Which operations may be, what is put of one, and the law RecordFull.
-/
import Derived.Test.YteinehkdjkobnaaqRa
set_option linter.unusedVariables false
set_option linter.unusedSimpArgs false
namespace Go.Proofs.Yteinehkdjkobnaa
open Go Go.Ev
theorem begun_eq {N : Nat} (hN : 60 ≤ N) : Flaw04_begun N = some true := by
  obtain ⟨k, rfl⟩ : ∃ k, N = k + 60 := ⟨N - 60, by omega⟩
  kernel_rfl
section
variable {N : Nat}
end
end Go.Proofs.Yteinehkdjkobnaa
