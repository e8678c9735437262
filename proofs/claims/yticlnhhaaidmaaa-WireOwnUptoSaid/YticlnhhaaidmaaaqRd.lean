/-
What the data of this seat's types are in range and in bulk, and that what reads so stands for typed data. Written by wip/tools/gen_rd.py.
-/
import Derived.Test.YticlnhhaaidmaaaRows
import Derived.Test.YticlnhhaaidmaaaqCod
import Derived.Test.YticlnhhaaidmaaaqTvS
import Derived.JoinedCond
set_option linter.unusedVariables false
namespace Go.Proofs.Yticlnhhaaidmaaa
open Go Go.Ev
theorem nOwn : ownKnob Try.prog.godebug = none := by kernel_rfl
theorem nLaid : laidOutB Try.prog = true := by kernel_rfl
section
variable {H : Type} {enc : TypeId × Value → H}
theorem bOk : BulkOk (H := H) Rows.uptoBulk Rows.uptoBulkAll :=
  ⟨fun _ => by simp [Rows.uptoBulk], fun _ _ => by simp [Rows.uptoBulk], fun _ => by simp [Rows.uptoBulk], by simp [Rows.uptoBulk], fun _ _ => by simp [Rows.uptoBulk], fun _ => by simp [Rows.uptoBulk], by simp [Rows.uptoBulkAll], fun _ _ => by simp [Rows.uptoBulkAll]⟩
def wf5 (n : Int) : Prop := 0 ≤ n ∧ n ≤ 255
def bulk5 (_ : Int) : Nat := 1
theorem rd5 : Rd enc E.P Rows.uptoBulk 5 (C.cel 5) wf5 bulk5 := (rd_int bOk tok5.d).to (fun _ => rfl) (fun _ h => h) (fun _ => Nat.le_refl _)
def wf23 (l : List (Int)) : Prop := l.length ≤ 9223372036854775807 ∧ ∀ y ∈ l, wf5 y
def bulk23 (l : List (Int)) : Nat := (l.map bulk5).sum + 1
theorem rd23 : Rd enc E.P Rows.uptoBulk 23 (C.cel 23) wf23 bulk23 := (rd_slice bOk tok23.d rd5 (by kernel_rfl) (by decide) (law5.len)).to (fun _ => rfl) (fun _ h => h) (fun _ => Nat.le_refl _)
end
end Go.Proofs.Yticlnhhaaidmaaa
