/-
What is read is what was written: slotted entries,lists of them,messages.
-/
import Derived.Test.YteinehkdjkobnaaGreatqVc
set_option linter.unusedVariables false
set_option linter.unusedSimpArgs false
namespace Go.Proofs.YteinehkdjkobnaaGreat
open Go Go.Ev
section
variable {N : Nat} {B : List Int} {s : St} {g : Int → Int}
def roomE (e : z6) : Prop := e.Ops.length ≤ 4096 ∧ byt e.Part.Data
theorem roomE.of {N : Nat} {e : z6} (h : roomE e) (hN : 4200 ≤ N) : e.Ops.length + 20 ≤ N ∧ e.Ops.length ≤ 9223372036854775807 ∧ byt e.Part.Data := ⟨by have := h.1; omega,by have := h.1; omega,h.2⟩
theorem ob {n : Int} (h : sit n) : -1 ≤ n ∧ n ≤ 2147483647 := by have := h.1; have := h.2; constructor <;> omega
end
end Go.Proofs.YteinehkdjkobnaaGreat
