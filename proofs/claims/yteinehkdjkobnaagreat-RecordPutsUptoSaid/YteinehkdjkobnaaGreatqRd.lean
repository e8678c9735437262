/-
What the data of this seat's types are in range and in bulk, and that what reads so stands for typed data. Written by wip/tools/gen_rd.py.
-/
import Derived.Test.YteinehkdjkobnaaGreatRows
import Derived.Test.YteinehkdjkobnaaGreatqCod
import Derived.Test.YteinehkdjkobnaaGreatqTvS
import Derived.JoinedCond
set_option linter.unusedVariables false
namespace Go.Proofs.YteinehkdjkobnaaGreat
open Go Go.Ev
theorem nOwn : ownKnob Tryz.prog.godebug = none := by kernel_rfl
theorem nLaid : laidOutB Tryz.prog = true := by kernel_rfl
section
variable {H : Type} {enc : TypeId × Value → H}
theorem bOk : BulkOk (H := H) Rows.uptoBulk Rows.uptoBulkAll :=
  ⟨fun _ => by simp [Rows.uptoBulk], fun _ _ => by simp [Rows.uptoBulk], fun _ => by simp [Rows.uptoBulk], by simp [Rows.uptoBulk], fun _ _ => by simp [Rows.uptoBulk], fun _ => by simp [Rows.uptoBulk], by simp [Rows.uptoBulkAll], fun _ _ => by simp [Rows.uptoBulkAll]⟩
def wf2 (n : Int) : Prop := (-9223372036854775808) ≤ n ∧ n ≤ 9223372036854775807
def bulk2 (_ : Int) : Nat := 1
theorem rd2 : Rd enc E.P Rows.uptoBulk 2 (C.cel 2) wf2 bulk2 := (rd_int bOk tok2.d).to (fun _ => rfl) (fun _ h => h) (fun _ => Nat.le_refl _)
def wf3 (n : Int) : Prop := (-9223372036854775808) ≤ n ∧ n ≤ 9223372036854775807
def bulk3 (_ : Int) : Nat := 1
theorem rd3 : Rd enc E.P Rows.uptoBulk 3 (C.cel 3) wf3 bulk3 := (rd_int bOk tok3.d).to (fun _ => rfl) (fun _ h => h) (fun _ => Nat.le_refl _)
def wf5 (n : Int) : Prop := 0 ≤ n ∧ n ≤ 255
def bulk5 (_ : Int) : Nat := 1
theorem rd5 : Rd enc E.P Rows.uptoBulk 5 (C.cel 5) wf5 bulk5 := (rd_int bOk tok5.d).to (fun _ => rfl) (fun _ h => h) (fun _ => Nat.le_refl _)
def wf9 (s : List UInt8) : Prop := s.length ≤ 9223372036854775807
def bulk9 (s : List UInt8) : Nat := s.length + 1
theorem rd9 : Rd enc E.P Rows.uptoBulk 9 (C.cel 9) wf9 bulk9 := (rd_str bOk tok9.d).to (fun _ => rfl) (fun _ h => h) (fun _ => Nat.le_refl _)
def wf23 (x : GStamp) : Prop := wf2 x.Time ∧ wf3 x.Site ∧ True
def bulk23 (x : GStamp) : Nat := bulk2 x.Time + bulk3 x.Site + 1
theorem rd23 : Rd enc E.P Rows.uptoBulk 23 (C.cel 23) wf23 bulk23 := rd_struct bOk tok23.d
  (RdF.cons bOk rd2 rfl (by kernel_rfl) (RdF.cons bOk rd3 rfl (by kernel_rfl) (RdF.nil bOk)))
  (fun y => ⟨y.1, y.2.1⟩) (fun _ => rfl) (fun _ h => h) (fun _ => by simp only [bulk23]; omega)
def wf25 (x : GOp) : Prop := wf23 x.Stamp ∧ wf3 x.Kind ∧ wf2 x.Node ∧ wf2 x.Parent ∧ wf9 x.Name ∧ wf9 x.Key ∧ wf9 x.Value ∧ True
def bulk25 (x : GOp) : Nat := bulk23 x.Stamp + bulk3 x.Kind + bulk2 x.Node + bulk2 x.Parent + bulk9 x.Name + bulk9 x.Key + bulk9 x.Value + 1
theorem rd25 : Rd enc E.P Rows.uptoBulk 25 (C.cel 25) wf25 bulk25 := rd_struct bOk tok25.d
  (RdF.cons bOk rd23 rfl (by kernel_rfl) (RdF.cons bOk rd3 rfl (by kernel_rfl) (RdF.cons bOk rd2 rfl (by kernel_rfl) (RdF.cons bOk rd2 rfl (by kernel_rfl) (RdF.cons bOk rd9 rfl (by kernel_rfl) (RdF.cons bOk rd9 rfl (by kernel_rfl) (RdF.cons bOk rd9 rfl (by kernel_rfl) (RdF.nil bOk))))))))
  (fun y => ⟨y.1, y.2.1, y.2.2.1, y.2.2.2.1, y.2.2.2.2.1, y.2.2.2.2.2.1, y.2.2.2.2.2.2.1⟩) (fun _ => rfl) (fun _ h => h) (fun _ => by simp only [bulk25]; omega)
def wf26 (v : Vector (Int) 8) : Prop := ∀ y ∈ v.toList, wf3 y
def bulk26 (v : Vector (Int) 8) : Nat := (v.toList.map bulk3).sum + 1
theorem rd26 : Rd enc E.P Rows.uptoBulk 26 (C.cel 26) wf26 bulk26 := (rd_arr bOk tok26.d (by kernel_rfl) rd3).to (fun _ => rfl) (fun _ h => h) (fun _ => Nat.le_refl _)
def wf28 (v : Vector (Int) 8) : Prop := ∀ y ∈ v.toList, wf2 y
def bulk28 (v : Vector (Int) 8) : Nat := (v.toList.map bulk2).sum + 1
theorem rd28 : Rd enc E.P Rows.uptoBulk 28 (C.cel 28) wf28 bulk28 := (rd_arr bOk tok28.d (by kernel_rfl) rd2).to (fun _ => rfl) (fun _ h => h) (fun _ => Nat.le_refl _)
def wf30 (x : GEpoch) : Prop := wf2 x.Number ∧ wf26 x.States ∧ wf28 x.Seals ∧ wf26 x.Sponsor ∧ True
def bulk30 (x : GEpoch) : Nat := bulk2 x.Number + bulk26 x.States + bulk28 x.Seals + bulk26 x.Sponsor + 1
theorem rd30 : Rd enc E.P Rows.uptoBulk 30 (C.cel 30) wf30 bulk30 := rd_struct bOk tok30.d
  (RdF.cons bOk rd2 rfl (by kernel_rfl) (RdF.cons bOk rd26 rfl (by kernel_rfl) (RdF.cons bOk rd28 rfl (by kernel_rfl) (RdF.cons bOk rd26 rfl (by kernel_rfl) (RdF.nil bOk)))))
  (fun y => ⟨y.1, y.2.1, y.2.2.1, y.2.2.2.1⟩) (fun _ => rfl) (fun _ h => h) (fun _ => by simp only [bulk30]; omega)
def wf31 (l : List (Int)) : Prop := l.length ≤ 9223372036854775807 ∧ ∀ y ∈ l, wf5 y
def bulk31 (l : List (Int)) : Nat := (l.map bulk5).sum + 1
theorem rd31 : Rd enc E.P Rows.uptoBulk 31 (C.cel 31) wf31 bulk31 := (rd_slice bOk tok31.d rd5 (by kernel_rfl) (by decide) (law5.len)).to (fun _ => rfl) (fun _ h => h) (fun _ => Nat.le_refl _)
end
end Go.Proofs.YteinehkdjkobnaaGreat
