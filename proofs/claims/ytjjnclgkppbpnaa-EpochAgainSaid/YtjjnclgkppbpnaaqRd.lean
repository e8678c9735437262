/-
What the data of this seat's types are in range and in bulk, and that what reads so stands for typed data. Written by wip/tools/gen_rd.py.
-/
import Derived.Test.YtjjnclgkppbpnaaRows
import Derived.Test.YtjjnclgkppbpnaaqCod
import Derived.Test.YtjjnclgkppbpnaaqTvS
import Derived.JoinedCond
set_option linter.unusedVariables false
namespace Go.Proofs.Ytjjnclgkppbpnaa
open Go Go.Ev
theorem nOwn : ownKnob Try.prog.godebug = none := by kernel_rfl
theorem nLaid : laidOutB Try.prog = true := by kernel_rfl
section
variable {H : Type} {enc : TypeId × Value → H}
theorem bOk : BulkOk (H := H) Rows.uptoBulk Rows.uptoBulkAll :=
  ⟨fun _ => by simp [Rows.uptoBulk], fun _ _ => by simp [Rows.uptoBulk], fun _ => by simp [Rows.uptoBulk], by simp [Rows.uptoBulk], fun _ _ => by simp [Rows.uptoBulk], fun _ => by simp [Rows.uptoBulk], by simp [Rows.uptoBulkAll], fun _ _ => by simp [Rows.uptoBulkAll]⟩
def wf2 (n : Int) : Prop := (-9223372036854775808) ≤ n ∧ n ≤ 9223372036854775807
def bulk2 (_ : Int) : Nat := 1
theorem rd2 : Rd enc E.P Rows.uptoBulk 2 (C.cel 2) wf2 bulk2 := (rd_int bOk tok2.d).to (fun _ => rfl) (fun _ h => h) (fun _ => Nat.le_refl _)
def wf3 (n : Int) : Prop := (-9223372036854775808) ≤ n ∧ n ≤ 9223372036854775807
def bulk3 (_ : Int) : Nat := 1
theorem rd3 : Rd enc E.P Rows.uptoBulk 3 (C.cel 3) wf3 bulk3 := (rd_int bOk tok3.d).to (fun _ => rfl) (fun _ h => h) (fun _ => Nat.le_refl _)
def wf5 (n : Int) : Prop := 0 ≤ n ∧ n ≤ 255
def bulk5 (_ : Int) : Nat := 1
theorem rd5 : Rd enc E.P Rows.uptoBulk 5 (C.cel 5) wf5 bulk5 := (rd_int bOk tok5.d).to (fun _ => rfl) (fun _ h => h) (fun _ => Nat.le_refl _)
def wf9 (s : List UInt8) : Prop := s.length ≤ 9223372036854775807
def bulk9 (s : List UInt8) : Nat := s.length + 1
theorem rd9 : Rd enc E.P Rows.uptoBulk 9 (C.cel 9) wf9 bulk9 := (rd_str bOk tok9.d).to (fun _ => rfl) (fun _ h => h) (fun _ => Nat.le_refl _)
def wf22 (v : Vector (Int) 8) : Prop := ∀ y ∈ v.toList, wf3 y
def bulk22 (v : Vector (Int) 8) : Nat := (v.toList.map bulk3).sum + 1
theorem rd22 : Rd enc E.P Rows.uptoBulk 22 (C.cel 22) wf22 bulk22 := (rd_arr bOk tok22.d (by kernel_rfl) rd3).to (fun _ => rfl) (fun _ h => h) (fun _ => Nat.le_refl _)
def wf24 (v : Vector (Int) 8) : Prop := ∀ y ∈ v.toList, wf2 y
def bulk24 (v : Vector (Int) 8) : Nat := (v.toList.map bulk2).sum + 1
theorem rd24 : Rd enc E.P Rows.uptoBulk 24 (C.cel 24) wf24 bulk24 := (rd_arr bOk tok24.d (by kernel_rfl) rd2).to (fun _ => rfl) (fun _ h => h) (fun _ => Nat.le_refl _)
def wf26 (x : GEpoch) : Prop := wf2 x.Number ∧ wf22 x.States ∧ wf24 x.Seals ∧ wf22 x.Sponsor ∧ True
def bulk26 (x : GEpoch) : Nat := bulk2 x.Number + bulk22 x.States + bulk24 x.Seals + bulk22 x.Sponsor + 1
theorem rd26 : Rd enc E.P Rows.uptoBulk 26 (C.cel 26) wf26 bulk26 := rd_struct bOk tok26.d
  (RdF.cons bOk rd2 rfl (by kernel_rfl) (RdF.cons bOk rd22 rfl (by kernel_rfl) (RdF.cons bOk rd24 rfl (by kernel_rfl) (RdF.cons bOk rd22 rfl (by kernel_rfl) (RdF.nil bOk)))))
  (fun y => ⟨y.1, y.2.1, y.2.2.1, y.2.2.2.1⟩) (fun _ => rfl) (fun _ h => h) (fun _ => by simp only [bulk26]; omega)
def wf30 (x : GStamp) : Prop := wf2 x.Time ∧ wf3 x.Site ∧ True
def bulk30 (x : GStamp) : Nat := bulk2 x.Time + bulk3 x.Site + 1
theorem rd30 : Rd enc E.P Rows.uptoBulk 30 (C.cel 30) wf30 bulk30 := rd_struct bOk tok30.d
  (RdF.cons bOk rd2 rfl (by kernel_rfl) (RdF.cons bOk rd3 rfl (by kernel_rfl) (RdF.nil bOk)))
  (fun y => ⟨y.1, y.2.1⟩) (fun _ => rfl) (fun _ h => h) (fun _ => by simp only [bulk30]; omega)
def wf32 (x : GOp) : Prop := wf30 x.Stamp ∧ wf3 x.Kind ∧ wf2 x.Node ∧ wf2 x.Parent ∧ wf9 x.Name ∧ wf9 x.Key ∧ wf9 x.Value ∧ True
def bulk32 (x : GOp) : Nat := bulk30 x.Stamp + bulk3 x.Kind + bulk2 x.Node + bulk2 x.Parent + bulk9 x.Name + bulk9 x.Key + bulk9 x.Value + 1
theorem rd32 : Rd enc E.P Rows.uptoBulk 32 (C.cel 32) wf32 bulk32 := rd_struct bOk tok32.d
  (RdF.cons bOk rd30 rfl (by kernel_rfl) (RdF.cons bOk rd3 rfl (by kernel_rfl) (RdF.cons bOk rd2 rfl (by kernel_rfl) (RdF.cons bOk rd2 rfl (by kernel_rfl) (RdF.cons bOk rd9 rfl (by kernel_rfl) (RdF.cons bOk rd9 rfl (by kernel_rfl) (RdF.cons bOk rd9 rfl (by kernel_rfl) (RdF.nil bOk))))))))
  (fun y => ⟨y.1, y.2.1, y.2.2.1, y.2.2.2.1, y.2.2.2.2.1, y.2.2.2.2.2.1, y.2.2.2.2.2.2.1⟩) (fun _ => rfl) (fun _ h => h) (fun _ => by simp only [bulk32]; omega)
def wf33 (l : List (GOp)) : Prop := l.length ≤ 9223372036854775807 ∧ ∀ y ∈ l, wf32 y
def bulk33 (l : List (GOp)) : Nat := (l.map bulk32).sum + 1
theorem rd33 : Rd enc E.P Rows.uptoBulk 33 (C.cel 33) wf33 bulk33 := (rd_slice bOk tok33.d rd32 (by kernel_rfl) (by decide) (law32.len)).to (fun _ => rfl) (fun _ h => h) (fun _ => Nat.le_refl _)
def wf34 (l : List (Int)) : Prop := l.length ≤ 9223372036854775807 ∧ ∀ y ∈ l, wf5 y
def bulk34 (l : List (Int)) : Nat := (l.map bulk5).sum + 1
theorem rd34 : Rd enc E.P Rows.uptoBulk 34 (C.cel 34) wf34 bulk34 := (rd_slice bOk tok34.d rd5 (by kernel_rfl) (by decide) (law5.len)).to (fun _ => rfl) (fun _ h => h) (fun _ => Nat.le_refl _)
def wf36 (x : GPart) : Prop := wf2 x.Snap ∧ wf3 x.Index ∧ wf3 x.Many ∧ wf34 x.Data ∧ True
def bulk36 (x : GPart) : Nat := bulk2 x.Snap + bulk3 x.Index + bulk3 x.Many + bulk34 x.Data + 1
theorem rd36 : Rd enc E.P Rows.uptoBulk 36 (C.cel 36) wf36 bulk36 := rd_struct bOk tok36.d
  (RdF.cons bOk rd2 rfl (by kernel_rfl) (RdF.cons bOk rd3 rfl (by kernel_rfl) (RdF.cons bOk rd3 rfl (by kernel_rfl) (RdF.cons bOk rd34 rfl (by kernel_rfl) (RdF.nil bOk)))))
  (fun y => ⟨y.1, y.2.1, y.2.2.1, y.2.2.2.1⟩) (fun _ => rfl) (fun _ h => h) (fun _ => by simp only [bulk36]; omega)
def wf38 (x : GEntry) : Prop := wf3 x.Kind ∧ wf2 x.Session ∧ wf2 x.Request ∧ wf32 x.Op ∧ wf3 x.Origin ∧ wf2 x.Seq ∧ wf33 x.Ops ∧ wf26 x.Epoch ∧ wf3 x.From ∧ wf24 x.Vector_ ∧ wf2 x.Clock ∧ wf36 x.Part ∧ wf3 x.Site ∧ wf3 x.Sponsor ∧ wf2 x.Length ∧ True
def bulk38 (x : GEntry) : Nat := bulk3 x.Kind + bulk2 x.Session + bulk2 x.Request + bulk32 x.Op + bulk3 x.Origin + bulk2 x.Seq + bulk33 x.Ops + bulk26 x.Epoch + bulk3 x.From + bulk24 x.Vector_ + bulk2 x.Clock + bulk36 x.Part + bulk3 x.Site + bulk3 x.Sponsor + bulk2 x.Length + 1
theorem rd38 : Rd enc E.P Rows.uptoBulk 38 (C.cel 38) wf38 bulk38 := rd_struct bOk tok38.d
  (RdF.cons bOk rd3 rfl (by kernel_rfl) (RdF.cons bOk rd2 rfl (by kernel_rfl) (RdF.cons bOk rd2 rfl (by kernel_rfl) (RdF.cons bOk rd32 rfl (by kernel_rfl) (RdF.cons bOk rd3 rfl (by kernel_rfl) (RdF.cons bOk rd2 rfl (by kernel_rfl) (RdF.cons bOk rd33 rfl (by kernel_rfl) (RdF.cons bOk rd26 rfl (by kernel_rfl) (RdF.cons bOk rd3 rfl (by kernel_rfl) (RdF.cons bOk rd24 rfl (by kernel_rfl) (RdF.cons bOk rd2 rfl (by kernel_rfl) (RdF.cons bOk rd36 rfl (by kernel_rfl) (RdF.cons bOk rd3 rfl (by kernel_rfl) (RdF.cons bOk rd3 rfl (by kernel_rfl) (RdF.cons bOk rd2 rfl (by kernel_rfl) (RdF.nil bOk))))))))))))))))
  (fun y => ⟨y.1, y.2.1, y.2.2.1, y.2.2.2.1, y.2.2.2.2.1, y.2.2.2.2.2.1, y.2.2.2.2.2.2.1, y.2.2.2.2.2.2.2.1, y.2.2.2.2.2.2.2.2.1, y.2.2.2.2.2.2.2.2.2.1, y.2.2.2.2.2.2.2.2.2.2.1, y.2.2.2.2.2.2.2.2.2.2.2.1, y.2.2.2.2.2.2.2.2.2.2.2.2.1, y.2.2.2.2.2.2.2.2.2.2.2.2.2.1, y.2.2.2.2.2.2.2.2.2.2.2.2.2.2.1⟩) (fun _ => rfl) (fun _ h => h) (fun _ => by simp only [bulk38]; omega)
def wf45 (l : List (Int)) : Prop := l.length ≤ 9223372036854775807 ∧ ∀ y ∈ l, wf3 y
def bulk45 (l : List (Int)) : Nat := (l.map bulk3).sum + 1
theorem rd45 : Rd enc E.P Rows.uptoBulk 45 (C.cel 45) wf45 bulk45 := (rd_slice bOk tok45.d rd3 (by kernel_rfl) (by decide) (law3.len)).to (fun _ => rfl) (fun _ h => h) (fun _ => Nat.le_refl _)
def wf70 (l : List (GEntry)) : Prop := l.length ≤ 9223372036854775807 ∧ ∀ y ∈ l, wf38 y
def bulk70 (l : List (GEntry)) : Nat := (l.map bulk38).sum + 1
theorem rd70 : Rd enc E.P Rows.uptoBulk 70 (C.cel 70) wf70 bulk70 := (rd_slice bOk tok70.d rd38 (by kernel_rfl) (by decide) (law38.len)).to (fun _ => rfl) (fun _ h => h) (fun _ => Nat.le_refl _)
end
end Go.Proofs.Ytjjnclgkppbpnaa
