/-
What the data of this seat's types are in range and in bulk, and that what reads so stands for typed data. Written by wip/tools/gen_rd.py.
-/
import Derived.Test.YteinehkdjkobnaaRows
import Derived.Test.YteinehkdjkobnaaqCod
import Derived.Test.YteinehkdjkobnaaqTvS
import Derived.JoinedCond
set_option linter.unusedVariables false
namespace Go.Proofs.Yteinehkdjkobnaa
open Go Go.Ev
theorem nOwn : ownKnob Try.prog.godebug = none := by kernel_rfl
theorem nLaid : laidOutB Try.prog = true := by kernel_rfl
section
variable {H : Type} {enc : TypeId × Value → H}
theorem bOk : BulkOk (H := H) Rows.uptoBulk Rows.uptoBulkAll :=
  ⟨fun _ => by simp [Rows.uptoBulk], fun _ _ => by simp [Rows.uptoBulk], fun _ => by simp [Rows.uptoBulk], by simp [Rows.uptoBulk], fun _ _ => by simp [Rows.uptoBulk], fun _ => by simp [Rows.uptoBulk], by simp [Rows.uptoBulkAll], fun _ _ => by simp [Rows.uptoBulkAll]⟩
def wf2 (n : Int) : Prop := (-9223372036854775808) ≤ n ∧ n ≤ 9223372036854775807
def bulk2 (_ : Int) : Nat := 1
theorem rd2 : Rd enc E.P Rows.uptoBulk 2 (C.cel 2) wf2 bulk2 := (rd_int bOk tok2.d).to (fun _ => rfl) (fun _ h => h) (fun _ => Nat.le_refl _)
def wf3 (n : Int) : Prop := (-9223372036854775808) ≤ n ∧ n ≤ 9223372036854775807
def bulk3 (_ : Int) : Nat := 1
theorem rd3 : Rd enc E.P Rows.uptoBulk 3 (C.cel 3) wf3 bulk3 := (rd_int bOk tok3.d).to (fun _ => rfl) (fun _ h => h) (fun _ => Nat.le_refl _)
def wf5 (n : Int) : Prop := 0 ≤ n ∧ n ≤ 255
def bulk5 (_ : Int) : Nat := 1
theorem rd5 : Rd enc E.P Rows.uptoBulk 5 (C.cel 5) wf5 bulk5 := (rd_int bOk tok5.d).to (fun _ => rfl) (fun _ h => h) (fun _ => Nat.le_refl _)
def wf9 (s : List UInt8) : Prop := s.length ≤ 9223372036854775807
def bulk9 (s : List UInt8) : Nat := s.length + 1
theorem rd9 : Rd enc E.P Rows.uptoBulk 9 (C.cel 9) wf9 bulk9 := (rd_str bOk tok9.d).to (fun _ => rfl) (fun _ h => h) (fun _ => Nat.le_refl _)
def wf23 (x : GStamp) : Prop := wf2 x.Time ∧ wf3 x.Site ∧ True
def bulk23 (x : GStamp) : Nat := bulk2 x.Time + bulk3 x.Site + 1
theorem rd23 : Rd enc E.P Rows.uptoBulk 23 (C.cel 23) wf23 bulk23 := rd_struct bOk tok23.d
  (RdF.cons bOk rd2 rfl (by kernel_rfl) (RdF.cons bOk rd3 rfl (by kernel_rfl) (RdF.nil bOk)))
  (fun y => ⟨y.1, y.2.1⟩) (fun _ => rfl) (fun _ h => h) (fun _ => by simp only [bulk23]; omega)
def wf25 (x : GOp) : Prop := wf23 x.Stamp ∧ wf3 x.Kind ∧ wf2 x.Node ∧ wf2 x.Parent ∧ wf9 x.Name ∧ wf9 x.Key ∧ wf9 x.Value ∧ True
def bulk25 (x : GOp) : Nat := bulk23 x.Stamp + bulk3 x.Kind + bulk2 x.Node + bulk2 x.Parent + bulk9 x.Name + bulk9 x.Key + bulk9 x.Value + 1
theorem rd25 : Rd enc E.P Rows.uptoBulk 25 (C.cel 25) wf25 bulk25 := rd_struct bOk tok25.d
  (RdF.cons bOk rd23 rfl (by kernel_rfl) (RdF.cons bOk rd3 rfl (by kernel_rfl) (RdF.cons bOk rd2 rfl (by kernel_rfl) (RdF.cons bOk rd2 rfl (by kernel_rfl) (RdF.cons bOk rd9 rfl (by kernel_rfl) (RdF.cons bOk rd9 rfl (by kernel_rfl) (RdF.cons bOk rd9 rfl (by kernel_rfl) (RdF.nil bOk))))))))
  (fun y => ⟨y.1, y.2.1, y.2.2.1, y.2.2.2.1, y.2.2.2.2.1, y.2.2.2.2.2.1, y.2.2.2.2.2.2.1⟩) (fun _ => rfl) (fun _ h => h) (fun _ => by simp only [bulk25]; omega)
def wf26 (l : List (GOp)) : Prop := l.length ≤ 9223372036854775807 ∧ ∀ y ∈ l, wf25 y
def bulk26 (l : List (GOp)) : Nat := (l.map bulk25).sum + 1
theorem rd26 : Rd enc E.P Rows.uptoBulk 26 (C.cel 26) wf26 bulk26 := (rd_slice bOk tok26.d rd25 (by kernel_rfl) (by decide) (law25.len)).to (fun _ => rfl) (fun _ h => h) (fun _ => Nat.le_refl _)
def wf27 (v : Vector (Int) 8) : Prop := ∀ y ∈ v.toList, wf3 y
def bulk27 (v : Vector (Int) 8) : Nat := (v.toList.map bulk3).sum + 1
theorem rd27 : Rd enc E.P Rows.uptoBulk 27 (C.cel 27) wf27 bulk27 := (rd_arr bOk tok27.d (by kernel_rfl) rd3).to (fun _ => rfl) (fun _ h => h) (fun _ => Nat.le_refl _)
def wf29 (v : Vector (Int) 8) : Prop := ∀ y ∈ v.toList, wf2 y
def bulk29 (v : Vector (Int) 8) : Nat := (v.toList.map bulk2).sum + 1
theorem rd29 : Rd enc E.P Rows.uptoBulk 29 (C.cel 29) wf29 bulk29 := (rd_arr bOk tok29.d (by kernel_rfl) rd2).to (fun _ => rfl) (fun _ h => h) (fun _ => Nat.le_refl _)
def wf31 (x : GEpoch) : Prop := wf2 x.Number ∧ wf27 x.States ∧ wf29 x.Seals ∧ wf27 x.Sponsor ∧ True
def bulk31 (x : GEpoch) : Nat := bulk2 x.Number + bulk27 x.States + bulk29 x.Seals + bulk27 x.Sponsor + 1
theorem rd31 : Rd enc E.P Rows.uptoBulk 31 (C.cel 31) wf31 bulk31 := rd_struct bOk tok31.d
  (RdF.cons bOk rd2 rfl (by kernel_rfl) (RdF.cons bOk rd27 rfl (by kernel_rfl) (RdF.cons bOk rd29 rfl (by kernel_rfl) (RdF.cons bOk rd27 rfl (by kernel_rfl) (RdF.nil bOk)))))
  (fun y => ⟨y.1, y.2.1, y.2.2.1, y.2.2.2.1⟩) (fun _ => rfl) (fun _ h => h) (fun _ => by simp only [bulk31]; omega)
def wf32 (l : List (Int)) : Prop := l.length ≤ 9223372036854775807 ∧ ∀ y ∈ l, wf5 y
def bulk32 (l : List (Int)) : Nat := (l.map bulk5).sum + 1
theorem rd32 : Rd enc E.P Rows.uptoBulk 32 (C.cel 32) wf32 bulk32 := (rd_slice bOk tok32.d rd5 (by kernel_rfl) (by decide) (law5.len)).to (fun _ => rfl) (fun _ h => h) (fun _ => Nat.le_refl _)
def wf34 (x : GPart) : Prop := wf2 x.Snap ∧ wf3 x.Index ∧ wf3 x.Many ∧ wf32 x.Data ∧ True
def bulk34 (x : GPart) : Nat := bulk2 x.Snap + bulk3 x.Index + bulk3 x.Many + bulk32 x.Data + 1
theorem rd34 : Rd enc E.P Rows.uptoBulk 34 (C.cel 34) wf34 bulk34 := rd_struct bOk tok34.d
  (RdF.cons bOk rd2 rfl (by kernel_rfl) (RdF.cons bOk rd3 rfl (by kernel_rfl) (RdF.cons bOk rd3 rfl (by kernel_rfl) (RdF.cons bOk rd32 rfl (by kernel_rfl) (RdF.nil bOk)))))
  (fun y => ⟨y.1, y.2.1, y.2.2.1, y.2.2.2.1⟩) (fun _ => rfl) (fun _ h => h) (fun _ => by simp only [bulk34]; omega)
def wf36 (x : GEntry) : Prop := wf3 x.Kind ∧ wf2 x.Session ∧ wf2 x.Request ∧ wf25 x.Op ∧ wf3 x.Origin ∧ wf2 x.Seq ∧ wf26 x.Ops ∧ wf31 x.Epoch ∧ wf3 x.From ∧ wf29 x.Vector_ ∧ wf2 x.Clock ∧ wf34 x.Part ∧ wf3 x.Site ∧ wf3 x.Sponsor ∧ wf2 x.Length ∧ True
def bulk36 (x : GEntry) : Nat := bulk3 x.Kind + bulk2 x.Session + bulk2 x.Request + bulk25 x.Op + bulk3 x.Origin + bulk2 x.Seq + bulk26 x.Ops + bulk31 x.Epoch + bulk3 x.From + bulk29 x.Vector_ + bulk2 x.Clock + bulk34 x.Part + bulk3 x.Site + bulk3 x.Sponsor + bulk2 x.Length + 1
theorem rd36 : Rd enc E.P Rows.uptoBulk 36 (C.cel 36) wf36 bulk36 := rd_struct bOk tok36.d
  (RdF.cons bOk rd3 rfl (by kernel_rfl) (RdF.cons bOk rd2 rfl (by kernel_rfl) (RdF.cons bOk rd2 rfl (by kernel_rfl) (RdF.cons bOk rd25 rfl (by kernel_rfl) (RdF.cons bOk rd3 rfl (by kernel_rfl) (RdF.cons bOk rd2 rfl (by kernel_rfl) (RdF.cons bOk rd26 rfl (by kernel_rfl) (RdF.cons bOk rd31 rfl (by kernel_rfl) (RdF.cons bOk rd3 rfl (by kernel_rfl) (RdF.cons bOk rd29 rfl (by kernel_rfl) (RdF.cons bOk rd2 rfl (by kernel_rfl) (RdF.cons bOk rd34 rfl (by kernel_rfl) (RdF.cons bOk rd3 rfl (by kernel_rfl) (RdF.cons bOk rd3 rfl (by kernel_rfl) (RdF.cons bOk rd2 rfl (by kernel_rfl) (RdF.nil bOk))))))))))))))))
  (fun y => ⟨y.1, y.2.1, y.2.2.1, y.2.2.2.1, y.2.2.2.2.1, y.2.2.2.2.2.1, y.2.2.2.2.2.2.1, y.2.2.2.2.2.2.2.1, y.2.2.2.2.2.2.2.2.1, y.2.2.2.2.2.2.2.2.2.1, y.2.2.2.2.2.2.2.2.2.2.1, y.2.2.2.2.2.2.2.2.2.2.2.1, y.2.2.2.2.2.2.2.2.2.2.2.2.1, y.2.2.2.2.2.2.2.2.2.2.2.2.2.1, y.2.2.2.2.2.2.2.2.2.2.2.2.2.2.1⟩) (fun _ => rfl) (fun _ h => h) (fun _ => by simp only [bulk36]; omega)
def wf45 (x : GAddr) : Prop := wf3 x.Group ∧ wf3 x.Replica ∧ True
def bulk45 (x : GAddr) : Nat := bulk3 x.Group + bulk3 x.Replica + 1
theorem rd45 : Rd enc E.P Rows.uptoBulk 45 (C.cel 45) wf45 bulk45 := rd_struct bOk tok45.d
  (RdF.cons bOk rd3 rfl (by kernel_rfl) (RdF.cons bOk rd3 rfl (by kernel_rfl) (RdF.nil bOk)))
  (fun y => ⟨y.1, y.2.1⟩) (fun _ => rfl) (fun _ h => h) (fun _ => by simp only [bulk45]; omega)
def wf47 (x : GBallot) : Prop := wf2 x.Round ∧ wf3 x.Replica ∧ True
def bulk47 (x : GBallot) : Nat := bulk2 x.Round + bulk3 x.Replica + 1
theorem rd47 : Rd enc E.P Rows.uptoBulk 47 (C.cel 47) wf47 bulk47 := rd_struct bOk tok47.d
  (RdF.cons bOk rd2 rfl (by kernel_rfl) (RdF.cons bOk rd3 rfl (by kernel_rfl) (RdF.nil bOk)))
  (fun y => ⟨y.1, y.2.1⟩) (fun _ => rfl) (fun _ h => h) (fun _ => by simp only [bulk47]; omega)
def wf80 (x : GSlotted) : Prop := wf2 x.Slot ∧ wf47 x.Ballot ∧ wf36 x.Entry ∧ True
def bulk80 (x : GSlotted) : Nat := bulk2 x.Slot + bulk47 x.Ballot + bulk36 x.Entry + 1
theorem rd80 : Rd enc E.P Rows.uptoBulk 80 (C.cel 80) wf80 bulk80 := rd_struct bOk tok80.d
  (RdF.cons bOk rd2 rfl (by kernel_rfl) (RdF.cons bOk rd47 rfl (by kernel_rfl) (RdF.cons bOk rd36 rfl (by kernel_rfl) (RdF.nil bOk))))
  (fun y => ⟨y.1, y.2.1, y.2.2.1⟩) (fun _ => rfl) (fun _ h => h) (fun _ => by simp only [bulk80]; omega)
def wf48 (l : List (GSlotted)) : Prop := l.length ≤ 9223372036854775807 ∧ ∀ y ∈ l, wf80 y
def bulk48 (l : List (GSlotted)) : Nat := (l.map bulk80).sum + 1
theorem rd48 : Rd enc E.P Rows.uptoBulk 48 (C.cel 48) wf48 bulk48 := (rd_slice bOk tok48.d rd80 (by kernel_rfl) (by decide) (law80.len)).to (fun _ => rfl) (fun _ h => h) (fun _ => Nat.le_refl _)
def wf50 (x : GMsg) : Prop := wf3 x.Kind ∧ wf45 x.From ∧ wf45 x.To ∧ wf47 x.Ballot ∧ wf2 x.Slot ∧ wf48 x.List_ ∧ wf36 x.Entry ∧ wf2 x.Number ∧ wf29 x.Vector_ ∧ wf2 x.Clock ∧ wf3 x.Origin ∧ wf26 x.Ops ∧ wf31 x.Epoch ∧ wf34 x.Part ∧ True
def bulk50 (x : GMsg) : Nat := bulk3 x.Kind + bulk45 x.From + bulk45 x.To + bulk47 x.Ballot + bulk2 x.Slot + bulk48 x.List_ + bulk36 x.Entry + bulk2 x.Number + bulk29 x.Vector_ + bulk2 x.Clock + bulk3 x.Origin + bulk26 x.Ops + bulk31 x.Epoch + bulk34 x.Part + 1
theorem rd50 : Rd enc E.P Rows.uptoBulk 50 (C.cel 50) wf50 bulk50 := rd_struct bOk tok50.d
  (RdF.cons bOk rd3 rfl (by kernel_rfl) (RdF.cons bOk rd45 rfl (by kernel_rfl) (RdF.cons bOk rd45 rfl (by kernel_rfl) (RdF.cons bOk rd47 rfl (by kernel_rfl) (RdF.cons bOk rd2 rfl (by kernel_rfl) (RdF.cons bOk rd48 rfl (by kernel_rfl) (RdF.cons bOk rd36 rfl (by kernel_rfl) (RdF.cons bOk rd2 rfl (by kernel_rfl) (RdF.cons bOk rd29 rfl (by kernel_rfl) (RdF.cons bOk rd2 rfl (by kernel_rfl) (RdF.cons bOk rd3 rfl (by kernel_rfl) (RdF.cons bOk rd26 rfl (by kernel_rfl) (RdF.cons bOk rd31 rfl (by kernel_rfl) (RdF.cons bOk rd34 rfl (by kernel_rfl) (RdF.nil bOk)))))))))))))))
  (fun y => ⟨y.1, y.2.1, y.2.2.1, y.2.2.2.1, y.2.2.2.2.1, y.2.2.2.2.2.1, y.2.2.2.2.2.2.1, y.2.2.2.2.2.2.2.1, y.2.2.2.2.2.2.2.2.1, y.2.2.2.2.2.2.2.2.2.1, y.2.2.2.2.2.2.2.2.2.2.1, y.2.2.2.2.2.2.2.2.2.2.2.1, y.2.2.2.2.2.2.2.2.2.2.2.2.1, y.2.2.2.2.2.2.2.2.2.2.2.2.2.1⟩) (fun _ => rfl) (fun _ h => h) (fun _ => by simp only [bulk50]; omega)
end
end Go.Proofs.Yteinehkdjkobnaa
