/-
What the data of this seat's types are in range and in bulk, and that what reads so stands for typed data. Written by wip/tools/gen_rd.py.
-/
import Derived.Test.YtphjnagmlgmdfaaRows
import Derived.Test.YtphjnagmlgmdfaaCod
import Derived.Test.YtphjnagmlgmdfaaTvS
import Derived.JoinedCond
set_option linter.unusedVariables false
namespace Go.Proofs.Ytphjnagmlgmdfaa
open Go Go.Ev
theorem nOwn : ownKnob Try.prog.godebug = none := by kernel_rfl
theorem nLaid : laidOutB Try.prog = true := by kernel_rfl
section
variable {H : Type} {enc : TypeId × Value → H}
theorem bOk : BulkOk (H := H) Rows.uptoBulk Rows.uptoBulkAll :=
  ⟨fun _ => by simp [Rows.uptoBulk], fun _ _ => by simp [Rows.uptoBulk], fun _ => by simp [Rows.uptoBulk], by simp [Rows.uptoBulk], fun _ _ => by simp [Rows.uptoBulk], fun _ => by simp [Rows.uptoBulk], by simp [Rows.uptoBulkAll], fun _ _ => by simp [Rows.uptoBulkAll]⟩
def wf2 (n : Int) : Prop := (-9223372036854775808) ≤ n ∧ n ≤ 9223372036854775807
def bulk2 (_ : Int) : Nat := 1
theorem rd2 : Rd enc E.P Rows.uptoBulk 2 (C.cel 2) wf2 bulk2 := (rd_int bOk tok2.d).to (fun _ => rfl) (fun _ h => h) (fun _ => Nat.le_refl _)
def wf3 (n : Int) : Prop := (-9223372036854775808) ≤ n ∧ n ≤ 9223372036854775807
def bulk3 (_ : Int) : Nat := 1
theorem rd3 : Rd enc E.P Rows.uptoBulk 3 (C.cel 3) wf3 bulk3 := (rd_int bOk tok3.d).to (fun _ => rfl) (fun _ h => h) (fun _ => Nat.le_refl _)
def wf4 (_ : Bool) : Prop := True
def bulk4 (_ : Bool) : Nat := 1
theorem rd4 : Rd enc E.P Rows.uptoBulk 4 (C.cel 4) wf4 bulk4 := (rd_bool bOk tok4.d).to (fun _ => rfl) (fun _ h => h) (fun _ => Nat.le_refl _)
def wf5 (n : Int) : Prop := 0 ≤ n ∧ n ≤ 255
def bulk5 (_ : Int) : Nat := 1
theorem rd5 : Rd enc E.P Rows.uptoBulk 5 (C.cel 5) wf5 bulk5 := (rd_int bOk tok5.d).to (fun _ => rfl) (fun _ h => h) (fun _ => Nat.le_refl _)
def wf9 (s : List UInt8) : Prop := s.length ≤ 9223372036854775807
def bulk9 (s : List UInt8) : Nat := s.length + 1
theorem rd9 : Rd enc E.P Rows.uptoBulk 9 (C.cel 9) wf9 bulk9 := (rd_str bOk tok9.d).to (fun _ => rfl) (fun _ h => h) (fun _ => Nat.le_refl _)
def wf12 (n : Int) : Prop := 0 ≤ n ∧ n ≤ 18446744073709551615
def bulk12 (_ : Int) : Nat := 1
theorem rd12 : Rd enc E.P Rows.uptoBulk 12 (C.cel 12) wf12 bulk12 := (rd_int bOk tok12.d).to (fun _ => rfl) (fun _ h => h) (fun _ => Nat.le_refl _)
def wf21 (n : Int) : Prop := (-2147483648) ≤ n ∧ n ≤ 2147483647
def bulk21 (_ : Int) : Nat := 1
theorem rd21 : Rd enc E.P Rows.uptoBulk 21 (C.cel 21) wf21 bulk21 := (rd_int bOk tok21.d).to (fun _ => rfl) (fun _ h => h) (fun _ => Nat.le_refl _)
def wf22 (x : GStamp) : Prop := wf2 x.Time ∧ wf3 x.Site ∧ True
def bulk22 (x : GStamp) : Nat := bulk2 x.Time + bulk3 x.Site + 1
theorem rd22 : Rd enc E.P Rows.uptoBulk 22 (C.cel 22) wf22 bulk22 := rd_struct bOk tok22.d
  (RdF.cons bOk rd2 rfl (by kernel_rfl) (RdF.cons bOk rd3 rfl (by kernel_rfl) (RdF.nil bOk)))
  (fun y => ⟨y.1, y.2.1⟩) (fun _ => rfl) (fun _ h => h) (fun _ => by simp only [bulk22]; omega)
def wf23 (x : GStamp) : Prop := wf2 x.Time ∧ wf3 x.Site ∧ True
def bulk23 (x : GStamp) : Nat := bulk2 x.Time + bulk3 x.Site + 1
theorem rd23 : Rd enc E.P Rows.uptoBulk 23 (C.cel 23) wf23 bulk23 := rd_struct bOk tok23.d
  (RdF.cons bOk rd2 rfl (by kernel_rfl) (RdF.cons bOk rd3 rfl (by kernel_rfl) (RdF.nil bOk)))
  (fun y => ⟨y.1, y.2.1⟩) (fun _ => rfl) (fun _ h => h) (fun _ => by simp only [bulk23]; omega)
def wf31 (v : Vector (Int) 8) : Prop := ∀ y ∈ v.toList, wf2 y
def bulk31 (v : Vector (Int) 8) : Nat := (v.toList.map bulk2).sum + 1
theorem rd31 : Rd enc E.P Rows.uptoBulk 31 (C.cel 31) wf31 bulk31 := (rd_arr bOk tok31.d (by kernel_rfl) rd2).to (fun _ => rfl) (fun _ h => h) (fun _ => Nat.le_refl _)
def wf29 (l : List (Vector (Int) 8)) : Prop := l.length ≤ 9223372036854775807 ∧ ∀ y ∈ l, wf31 y
def bulk29 (l : List (Vector (Int) 8)) : Nat := (l.map bulk31).sum + 1
theorem rd29 : Rd enc E.P Rows.uptoBulk 29 (C.cel 29) wf29 bulk29 := (rd_slice bOk tok29.d rd31 (by kernel_rfl) (by decide) (law31.len)).to (fun _ => rfl) (fun _ h => h) (fun _ => Nat.le_refl _)
def wf30 (v : Vector (Int) 8) : Prop := ∀ y ∈ v.toList, wf2 y
def bulk30 (v : Vector (Int) 8) : Nat := (v.toList.map bulk2).sum + 1
theorem rd30 : Rd enc E.P Rows.uptoBulk 30 (C.cel 30) wf30 bulk30 := (rd_arr bOk tok30.d (by kernel_rfl) rd2).to (fun _ => rfl) (fun _ h => h) (fun _ => Nat.le_refl _)
def wf43 (l : List (GStamp)) : Prop := l.length ≤ 9223372036854775807 ∧ ∀ y ∈ l, wf23 y
def bulk43 (l : List (GStamp)) : Nat := (l.map bulk23).sum + 1
theorem rd43 : Rd enc E.P Rows.uptoBulk 43 (C.cel 43) wf43 bulk43 := (rd_slice bOk tok43.d rd23 (by kernel_rfl) (by decide) (law23.len)).to (fun _ => rfl) (fun _ h => h) (fun _ => Nat.le_refl _)
def wf47 (x : GOp) : Prop := wf23 x.Stamp ∧ wf3 x.Kind ∧ wf2 x.Node ∧ wf2 x.Parent ∧ wf9 x.Name ∧ wf9 x.Key ∧ wf9 x.Value ∧ True
def bulk47 (x : GOp) : Nat := bulk23 x.Stamp + bulk3 x.Kind + bulk2 x.Node + bulk2 x.Parent + bulk9 x.Name + bulk9 x.Key + bulk9 x.Value + 1
theorem rd47 : Rd enc E.P Rows.uptoBulk 47 (C.cel 47) wf47 bulk47 := rd_struct bOk tok47.d
  (RdF.cons bOk rd23 rfl (by kernel_rfl) (RdF.cons bOk rd3 rfl (by kernel_rfl) (RdF.cons bOk rd2 rfl (by kernel_rfl) (RdF.cons bOk rd2 rfl (by kernel_rfl) (RdF.cons bOk rd9 rfl (by kernel_rfl) (RdF.cons bOk rd9 rfl (by kernel_rfl) (RdF.cons bOk rd9 rfl (by kernel_rfl) (RdF.nil bOk))))))))
  (fun y => ⟨y.1, y.2.1, y.2.2.1, y.2.2.2.1, y.2.2.2.2.1, y.2.2.2.2.2.1, y.2.2.2.2.2.2.1⟩) (fun _ => rfl) (fun _ h => h) (fun _ => by simp only [bulk47]; omega)
def wf48 (x : GOp) : Prop := wf23 x.Stamp ∧ wf3 x.Kind ∧ wf2 x.Node ∧ wf2 x.Parent ∧ wf9 x.Name ∧ wf9 x.Key ∧ wf9 x.Value ∧ True
def bulk48 (x : GOp) : Nat := bulk23 x.Stamp + bulk3 x.Kind + bulk2 x.Node + bulk2 x.Parent + bulk9 x.Name + bulk9 x.Key + bulk9 x.Value + 1
theorem rd48 : Rd enc E.P Rows.uptoBulk 48 (C.cel 48) wf48 bulk48 := rd_struct bOk tok48.d
  (RdF.cons bOk rd23 rfl (by kernel_rfl) (RdF.cons bOk rd3 rfl (by kernel_rfl) (RdF.cons bOk rd2 rfl (by kernel_rfl) (RdF.cons bOk rd2 rfl (by kernel_rfl) (RdF.cons bOk rd9 rfl (by kernel_rfl) (RdF.cons bOk rd9 rfl (by kernel_rfl) (RdF.cons bOk rd9 rfl (by kernel_rfl) (RdF.nil bOk))))))))
  (fun y => ⟨y.1, y.2.1, y.2.2.1, y.2.2.2.1, y.2.2.2.2.1, y.2.2.2.2.2.1, y.2.2.2.2.2.2.1⟩) (fun _ => rfl) (fun _ h => h) (fun _ => by simp only [bulk48]; omega)
def wf49 (n : Int) : Prop := (-9223372036854775808) ≤ n ∧ n ≤ 9223372036854775807
def bulk49 (_ : Int) : Nat := 1
theorem rd49 : Rd enc E.P Rows.uptoBulk 49 (C.cel 49) wf49 bulk49 := (rd_int bOk tok49.d).to (fun _ => rfl) (fun _ h => h) (fun _ => Nat.le_refl _)
def wf59 (l : List (Int)) : Prop := l.length ≤ 9223372036854775807 ∧ ∀ y ∈ l, wf3 y
def bulk59 (l : List (Int)) : Nat := (l.map bulk3).sum + 1
theorem rd59 : Rd enc E.P Rows.uptoBulk 59 (C.cel 59) wf59 bulk59 := (rd_slice bOk tok59.d rd3 (by kernel_rfl) (by decide) (law3.len)).to (fun _ => rfl) (fun _ h => h) (fun _ => Nat.le_refl _)
def wf65 (n : Int) : Prop := 0 ≤ n ∧ n ≤ 18446744073709551615
def bulk65 (_ : Int) : Nat := 1
theorem rd65 : Rd enc E.P Rows.uptoBulk 65 (C.cel 65) wf65 bulk65 := (rd_int bOk tok65.d).to (fun _ => rfl) (fun _ h => h) (fun _ => Nat.le_refl _)
def wf66 (n : Int) : Prop := 0 ≤ n ∧ n ≤ 4294967295
def bulk66 (_ : Int) : Nat := 1
theorem rd66 : Rd enc E.P Rows.uptoBulk 66 (C.cel 66) wf66 bulk66 := (rd_int bOk tok66.d).to (fun _ => rfl) (fun _ h => h) (fun _ => Nat.le_refl _)
end
end Go.Proofs.Ytphjnagmlgmdfaa
