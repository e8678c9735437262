/-
The law NetNone.
-/
import Derived.Test.YtddpmkmgbdedlaaGreatqFn
import Derived.Test.YtddpmkmgbdedlaaGreatqRd
import Derived.KernelRfl
set_option linter.unusedVariables false
set_option maxRecDepth 100000
namespace Go.Proofs.YtddpmkmgbdedlaaGreat
open Go Go.Ev
theorem netNone_F {N : Nat} (hN : 200 ≤ N) (m : GMsg) (number : Int) : zk4 N m number = some true := by
  obtain ⟨k, rfl⟩ : ∃ k, N = k + 200 := ⟨N - 200, by omega⟩
  kernel_rfl
end Go.Proofs.YtddpmkmgbdedlaaGreat
