/-
Which operations may be: the law of StampOps. NOT BUILT YET (needs the print Fo and Wo, see ops.sh).
-/
import Derived.Test.YtphjnagmlgmdfaaqWo
import Derived.KernelRfl
set_option linter.unusedVariables false
set_option linter.unusedSimpArgs false
namespace Go.Proofs.Ytphjnagmlgmdfaa
open Go Go.Ev
theorem ops_law (op : GOp) : Flaw11_StampOps 300 op = some true := by
  obtain ⟨r, h1, h2⟩ := checkOp_same (N := 300) (by omega) op
  unfold Flaw11_StampOps
  rw [show Flaw11_live 300 = some true by kernel_rfl, h1, h2]
  simp
end Go.Proofs.Ytphjnagmlgmdfaa
