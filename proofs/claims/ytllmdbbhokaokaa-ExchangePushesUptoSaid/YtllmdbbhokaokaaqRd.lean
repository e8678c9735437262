/-
What the data of this seat's types are in range and in bulk, and that what reads so stands for typed data. Written by wip/tools/gen_rd.py.
-/
import Derived.Test.YtllmdbbhokaokaaRows
import Derived.Test.YtllmdbbhokaokaaqCod
import Derived.Test.YtllmdbbhokaokaaqTvS
import Derived.JoinedCond
set_option linter.unusedVariables false
namespace Go.Proofs.Ytllmdbbhokaokaa
open Go Go.Ev
theorem nOwn : ownKnob Try.prog.godebug = none := by kernel_rfl
theorem nLaid : laidOutB Try.prog = true := by kernel_rfl
section
variable {H : Type} {enc : TypeId × Value → H}
theorem bOk : BulkOk (H := H) Rows.uptoBulk Rows.uptoBulkAll :=
  ⟨fun _ => by simp [Rows.uptoBulk], fun _ _ => by simp [Rows.uptoBulk], fun _ => by simp [Rows.uptoBulk], by simp [Rows.uptoBulk], fun _ _ => by simp [Rows.uptoBulk], fun _ => by simp [Rows.uptoBulk], by simp [Rows.uptoBulkAll], fun _ _ => by simp [Rows.uptoBulkAll]⟩
def wf2 (n : Int) : Prop := (-9223372036854775808) ≤ n ∧ n ≤ 9223372036854775807
def bulk2 (_ : Int) : Nat := 1
theorem rd2 : Rd enc E.P Rows.uptoBulk 2 (C.cel 2) wf2 bulk2 := (rd_int bOk tok2.d).to (fun _ => rfl) (fun _ h => h) (fun _ => Nat.le_refl _)
def wf3 (n : Int) : Prop := (-9223372036854775808) ≤ n ∧ n ≤ 9223372036854775807
def bulk3 (_ : Int) : Nat := 1
theorem rd3 : Rd enc E.P Rows.uptoBulk 3 (C.cel 3) wf3 bulk3 := (rd_int bOk tok3.d).to (fun _ => rfl) (fun _ h => h) (fun _ => Nat.le_refl _)
def wf4 (_ : Bool) : Prop := True
def bulk4 (_ : Bool) : Nat := 1
theorem rd4 : Rd enc E.P Rows.uptoBulk 4 (C.cel 4) wf4 bulk4 := (rd_bool bOk tok4.d).to (fun _ => rfl) (fun _ h => h) (fun _ => Nat.le_refl _)
def wf5 (n : Int) : Prop := 0 ≤ n ∧ n ≤ 255
def bulk5 (_ : Int) : Nat := 1
theorem rd5 : Rd enc E.P Rows.uptoBulk 5 (C.cel 5) wf5 bulk5 := (rd_int bOk tok5.d).to (fun _ => rfl) (fun _ h => h) (fun _ => Nat.le_refl _)
def wf9 (s : List UInt8) : Prop := s.length ≤ 9223372036854775807
def bulk9 (s : List UInt8) : Nat := s.length + 1
theorem rd9 : Rd enc E.P Rows.uptoBulk 9 (C.cel 9) wf9 bulk9 := (rd_str bOk tok9.d).to (fun _ => rfl) (fun _ h => h) (fun _ => Nat.le_refl _)
def wf22 (v : Vector (Int) 8) : Prop := ∀ y ∈ v.toList, wf3 y
def bulk22 (v : Vector (Int) 8) : Nat := (v.toList.map bulk3).sum + 1
theorem rd22 : Rd enc E.P Rows.uptoBulk 22 (C.cel 22) wf22 bulk22 := (rd_arr bOk tok22.d (by kernel_rfl) rd3).to (fun _ => rfl) (fun _ h => h) (fun _ => Nat.le_refl _)
def wf24 (v : Vector (Int) 8) : Prop := ∀ y ∈ v.toList, wf2 y
def bulk24 (v : Vector (Int) 8) : Nat := (v.toList.map bulk2).sum + 1
theorem rd24 : Rd enc E.P Rows.uptoBulk 24 (C.cel 24) wf24 bulk24 := (rd_arr bOk tok24.d (by kernel_rfl) rd2).to (fun _ => rfl) (fun _ h => h) (fun _ => Nat.le_refl _)
def wf26 (x : GEpoch) : Prop := wf2 x.Number ∧ wf22 x.States ∧ wf24 x.Seals ∧ wf22 x.Sponsor ∧ True
def bulk26 (x : GEpoch) : Nat := bulk2 x.Number + bulk22 x.States + bulk24 x.Seals + bulk22 x.Sponsor + 1
theorem rd26 : Rd enc E.P Rows.uptoBulk 26 (C.cel 26) wf26 bulk26 := rd_struct bOk tok26.d
  (RdF.cons bOk rd2 rfl (by kernel_rfl) (RdF.cons bOk rd22 rfl (by kernel_rfl) (RdF.cons bOk rd24 rfl (by kernel_rfl) (RdF.cons bOk rd22 rfl (by kernel_rfl) (RdF.nil bOk)))))
  (fun y => ⟨y.1, y.2.1, y.2.2.1, y.2.2.2.1⟩) (fun _ => rfl) (fun _ h => h) (fun _ => by simp only [bulk26]; omega)
def wf122 (x : GAttr) : Prop := wf9 x.Key ∧ wf9 x.Value ∧ True
def bulk122 (x : GAttr) : Nat := bulk9 x.Key + bulk9 x.Value + 1
theorem rd122 : Rd enc E.P Rows.uptoBulk 122 (C.cel 122) wf122 bulk122 := rd_struct bOk tok122.d
  (RdF.cons bOk rd9 rfl (by kernel_rfl) (RdF.cons bOk rd9 rfl (by kernel_rfl) (RdF.nil bOk)))
  (fun y => ⟨y.1, y.2.1⟩) (fun _ => rfl) (fun _ h => h) (fun _ => by simp only [bulk122]; omega)
def wf113 (l : List (GAttr)) : Prop := l.length ≤ 9223372036854775807 ∧ ∀ y ∈ l, wf122 y
def bulk113 (l : List (GAttr)) : Nat := (l.map bulk122).sum + 1
theorem rd113 : Rd enc E.P Rows.uptoBulk 113 (C.cel 113) wf113 bulk113 := (rd_slice bOk tok113.d rd122 (by kernel_rfl) (by decide) (law122.len)).to (fun _ => rfl) (fun _ h => h) (fun _ => Nat.le_refl _)
def wf115 (x : GTreeNode) : Prop := wf2 x.Node ∧ wf2 x.Parent ∧ wf9 x.Name ∧ wf113 x.Attrs ∧ True
def bulk115 (x : GTreeNode) : Nat := bulk2 x.Node + bulk2 x.Parent + bulk9 x.Name + bulk113 x.Attrs + 1
theorem rd115 : Rd enc E.P Rows.uptoBulk 115 (C.cel 115) wf115 bulk115 := rd_struct bOk tok115.d
  (RdF.cons bOk rd2 rfl (by kernel_rfl) (RdF.cons bOk rd2 rfl (by kernel_rfl) (RdF.cons bOk rd9 rfl (by kernel_rfl) (RdF.cons bOk rd113 rfl (by kernel_rfl) (RdF.nil bOk)))))
  (fun y => ⟨y.1, y.2.1, y.2.2.1, y.2.2.2.1⟩) (fun _ => rfl) (fun _ h => h) (fun _ => by simp only [bulk115]; omega)
def wf27 (l : List (GTreeNode)) : Prop := l.length ≤ 9223372036854775807 ∧ ∀ y ∈ l, wf115 y
def bulk27 (l : List (GTreeNode)) : Nat := (l.map bulk115).sum + 1
theorem rd27 : Rd enc E.P Rows.uptoBulk 27 (C.cel 27) wf27 bulk27 := (rd_slice bOk tok27.d rd115 (by kernel_rfl) (by decide) (law115.len)).to (fun _ => rfl) (fun _ h => h) (fun _ => Nat.le_refl _)
def wf47 (x : GStamp) : Prop := wf2 x.Time ∧ wf3 x.Site ∧ True
def bulk47 (x : GStamp) : Nat := bulk2 x.Time + bulk3 x.Site + 1
theorem rd47 : Rd enc E.P Rows.uptoBulk 47 (C.cel 47) wf47 bulk47 := rd_struct bOk tok47.d
  (RdF.cons bOk rd2 rfl (by kernel_rfl) (RdF.cons bOk rd3 rfl (by kernel_rfl) (RdF.nil bOk)))
  (fun y => ⟨y.1, y.2.1⟩) (fun _ => rfl) (fun _ h => h) (fun _ => by simp only [bulk47]; omega)
def wf49 (x : GOp) : Prop := wf47 x.Stamp ∧ wf3 x.Kind ∧ wf2 x.Node ∧ wf2 x.Parent ∧ wf9 x.Name ∧ wf9 x.Key ∧ wf9 x.Value ∧ True
def bulk49 (x : GOp) : Nat := bulk47 x.Stamp + bulk3 x.Kind + bulk2 x.Node + bulk2 x.Parent + bulk9 x.Name + bulk9 x.Key + bulk9 x.Value + 1
theorem rd49 : Rd enc E.P Rows.uptoBulk 49 (C.cel 49) wf49 bulk49 := rd_struct bOk tok49.d
  (RdF.cons bOk rd47 rfl (by kernel_rfl) (RdF.cons bOk rd3 rfl (by kernel_rfl) (RdF.cons bOk rd2 rfl (by kernel_rfl) (RdF.cons bOk rd2 rfl (by kernel_rfl) (RdF.cons bOk rd9 rfl (by kernel_rfl) (RdF.cons bOk rd9 rfl (by kernel_rfl) (RdF.cons bOk rd9 rfl (by kernel_rfl) (RdF.nil bOk))))))))
  (fun y => ⟨y.1, y.2.1, y.2.2.1, y.2.2.2.1, y.2.2.2.2.1, y.2.2.2.2.2.1, y.2.2.2.2.2.2.1⟩) (fun _ => rfl) (fun _ h => h) (fun _ => by simp only [bulk49]; omega)
def wf28 (l : List (GOp)) : Prop := l.length ≤ 9223372036854775807 ∧ ∀ y ∈ l, wf49 y
def bulk28 (l : List (GOp)) : Nat := (l.map bulk49).sum + 1
theorem rd28 : Rd enc E.P Rows.uptoBulk 28 (C.cel 28) wf28 bulk28 := (rd_slice bOk tok28.d rd49 (by kernel_rfl) (by decide) (law49.len)).to (fun _ => rfl) (fun _ h => h) (fun _ => Nat.le_refl _)
def wf29 (v : Vector (List (GOp)) 8) : Prop := ∀ y ∈ v.toList, wf28 y
def bulk29 (v : Vector (List (GOp)) 8) : Nat := (v.toList.map bulk28).sum + 1
theorem rd29 : Rd enc E.P Rows.uptoBulk 29 (C.cel 29) wf29 bulk29 := (rd_arr bOk tok29.d (by kernel_rfl) rd28).to (fun _ => rfl) (fun _ h => h) (fun _ => Nat.le_refl _)
def wf30 (v : Vector (Vector (Int) 8) 8) : Prop := ∀ y ∈ v.toList, wf24 y
def bulk30 (v : Vector (Vector (Int) 8) 8) : Nat := (v.toList.map bulk24).sum + 1
theorem rd30 : Rd enc E.P Rows.uptoBulk 30 (C.cel 30) wf30 bulk30 := (rd_arr bOk tok30.d (by kernel_rfl) rd24).to (fun _ => rfl) (fun _ h => h) (fun _ => Nat.le_refl _)
def wf74 (n : Int) : Prop := (-9223372036854775808) ≤ n ∧ n ≤ 9223372036854775807
def bulk74 (_ : Int) : Nat := 1
theorem rd74 : Rd enc E.P Rows.uptoBulk 74 (C.cel 74) wf74 bulk74 := (rd_int bOk tok74.d).to (fun _ => rfl) (fun _ h => h) (fun _ => Nat.le_refl _)
def wf117 (x : GReply) : Prop := wf74 x.Err ∧ wf47 x.Stamp ∧ wf2 x.Node ∧ True
def bulk117 (x : GReply) : Nat := bulk74 x.Err + bulk47 x.Stamp + bulk2 x.Node + 1
theorem rd117 : Rd enc E.P Rows.uptoBulk 117 (C.cel 117) wf117 bulk117 := rd_struct bOk tok117.d
  (RdF.cons bOk rd74 rfl (by kernel_rfl) (RdF.cons bOk rd47 rfl (by kernel_rfl) (RdF.cons bOk rd2 rfl (by kernel_rfl) (RdF.nil bOk))))
  (fun y => ⟨y.1, y.2.1, y.2.2.1⟩) (fun _ => rfl) (fun _ h => h) (fun _ => by simp only [bulk117]; omega)
def wf119 (x : GRow) : Prop := wf2 x.Session ∧ wf2 x.Request ∧ wf117 x.Reply ∧ True
def bulk119 (x : GRow) : Nat := bulk2 x.Session + bulk2 x.Request + bulk117 x.Reply + 1
theorem rd119 : Rd enc E.P Rows.uptoBulk 119 (C.cel 119) wf119 bulk119 := rd_struct bOk tok119.d
  (RdF.cons bOk rd2 rfl (by kernel_rfl) (RdF.cons bOk rd2 rfl (by kernel_rfl) (RdF.cons bOk rd117 rfl (by kernel_rfl) (RdF.nil bOk))))
  (fun y => ⟨y.1, y.2.1, y.2.2.1⟩) (fun _ => rfl) (fun _ h => h) (fun _ => by simp only [bulk119]; omega)
def wf31 (l : List (GRow)) : Prop := l.length ≤ 9223372036854775807 ∧ ∀ y ∈ l, wf119 y
def bulk31 (l : List (GRow)) : Nat := (l.map bulk119).sum + 1
theorem rd31 : Rd enc E.P Rows.uptoBulk 31 (C.cel 31) wf31 bulk31 := (rd_slice bOk tok31.d rd119 (by kernel_rfl) (by decide) (law119.len)).to (fun _ => rfl) (fun _ h => h) (fun _ => Nat.le_refl _)
def wf50 (l : List (Int)) : Prop := l.length ≤ 9223372036854775807 ∧ ∀ y ∈ l, wf5 y
def bulk50 (l : List (Int)) : Nat := (l.map bulk5).sum + 1
theorem rd50 : Rd enc E.P Rows.uptoBulk 50 (C.cel 50) wf50 bulk50 := (rd_slice bOk tok50.d rd5 (by kernel_rfl) (by decide) (law5.len)).to (fun _ => rfl) (fun _ h => h) (fun _ => Nat.le_refl _)
def wf52 (x : GPart) : Prop := wf2 x.Snap ∧ wf3 x.Index ∧ wf3 x.Many ∧ wf50 x.Data ∧ True
def bulk52 (x : GPart) : Nat := bulk2 x.Snap + bulk3 x.Index + bulk3 x.Many + bulk50 x.Data + 1
theorem rd52 : Rd enc E.P Rows.uptoBulk 52 (C.cel 52) wf52 bulk52 := rd_struct bOk tok52.d
  (RdF.cons bOk rd2 rfl (by kernel_rfl) (RdF.cons bOk rd3 rfl (by kernel_rfl) (RdF.cons bOk rd3 rfl (by kernel_rfl) (RdF.cons bOk rd50 rfl (by kernel_rfl) (RdF.nil bOk)))))
  (fun y => ⟨y.1, y.2.1, y.2.2.1, y.2.2.2.1⟩) (fun _ => rfl) (fun _ h => h) (fun _ => by simp only [bulk52]; omega)
def wf32 (l : List (GPart)) : Prop := l.length ≤ 9223372036854775807 ∧ ∀ y ∈ l, wf52 y
def bulk32 (l : List (GPart)) : Nat := (l.map bulk52).sum + 1
theorem rd32 : Rd enc E.P Rows.uptoBulk 32 (C.cel 32) wf32 bulk32 := (rd_slice bOk tok32.d rd52 (by kernel_rfl) (by decide) (law52.len)).to (fun _ => rfl) (fun _ h => h) (fun _ => Nat.le_refl _)
def wf34 (x : GSnap) : Prop := wf3 x.Site ∧ wf2 x.Applied ∧ wf4 x.Booted ∧ wf26 x.Epoch ∧ wf2 x.Clock ∧ wf24 x.Vector_ ∧ wf24 x.Last ∧ wf27 x.Base ∧ wf28 x.Log ∧ wf2 x.Frontier ∧ wf24 x.Starts ∧ wf29 x.Kept ∧ wf30 x.Known ∧ wf24 x.Told ∧ wf24 x.Clocks ∧ wf24 x.Sure ∧ wf31 x.Rows ∧ wf32 x.Parts ∧ True
def bulk34 (x : GSnap) : Nat := bulk3 x.Site + bulk2 x.Applied + bulk4 x.Booted + bulk26 x.Epoch + bulk2 x.Clock + bulk24 x.Vector_ + bulk24 x.Last + bulk27 x.Base + bulk28 x.Log + bulk2 x.Frontier + bulk24 x.Starts + bulk29 x.Kept + bulk30 x.Known + bulk24 x.Told + bulk24 x.Clocks + bulk24 x.Sure + bulk31 x.Rows + bulk32 x.Parts + 1
theorem rd34 : Rd enc E.P Rows.uptoBulk 34 (C.cel 34) wf34 bulk34 := rd_struct bOk tok34.d
  (RdF.cons bOk rd3 rfl (by kernel_rfl) (RdF.cons bOk rd2 rfl (by kernel_rfl) (RdF.cons bOk rd4 rfl (by kernel_rfl) (RdF.cons bOk rd26 rfl (by kernel_rfl) (RdF.cons bOk rd2 rfl (by kernel_rfl) (RdF.cons bOk rd24 rfl (by kernel_rfl) (RdF.cons bOk rd24 rfl (by kernel_rfl) (RdF.cons bOk rd27 rfl (by kernel_rfl) (RdF.cons bOk rd28 rfl (by kernel_rfl) (RdF.cons bOk rd2 rfl (by kernel_rfl) (RdF.cons bOk rd24 rfl (by kernel_rfl) (RdF.cons bOk rd29 rfl (by kernel_rfl) (RdF.cons bOk rd30 rfl (by kernel_rfl) (RdF.cons bOk rd24 rfl (by kernel_rfl) (RdF.cons bOk rd24 rfl (by kernel_rfl) (RdF.cons bOk rd24 rfl (by kernel_rfl) (RdF.cons bOk rd31 rfl (by kernel_rfl) (RdF.cons bOk rd32 rfl (by kernel_rfl) (RdF.nil bOk)))))))))))))))))))
  (fun y => ⟨y.1, y.2.1, y.2.2.1, y.2.2.2.1, y.2.2.2.2.1, y.2.2.2.2.2.1, y.2.2.2.2.2.2.1, y.2.2.2.2.2.2.2.1, y.2.2.2.2.2.2.2.2.1, y.2.2.2.2.2.2.2.2.2.1, y.2.2.2.2.2.2.2.2.2.2.1, y.2.2.2.2.2.2.2.2.2.2.2.1, y.2.2.2.2.2.2.2.2.2.2.2.2.1, y.2.2.2.2.2.2.2.2.2.2.2.2.2.1, y.2.2.2.2.2.2.2.2.2.2.2.2.2.2.1, y.2.2.2.2.2.2.2.2.2.2.2.2.2.2.2.1, y.2.2.2.2.2.2.2.2.2.2.2.2.2.2.2.2.1, y.2.2.2.2.2.2.2.2.2.2.2.2.2.2.2.2.2.1⟩) (fun _ => rfl) (fun _ h => h) (fun _ => by simp only [bulk34]; omega)
def wf36 (x : GAddr) : Prop := wf3 x.Group ∧ wf3 x.Replica ∧ True
def bulk36 (x : GAddr) : Nat := bulk3 x.Group + bulk3 x.Replica + 1
theorem rd36 : Rd enc E.P Rows.uptoBulk 36 (C.cel 36) wf36 bulk36 := rd_struct bOk tok36.d
  (RdF.cons bOk rd3 rfl (by kernel_rfl) (RdF.cons bOk rd3 rfl (by kernel_rfl) (RdF.nil bOk)))
  (fun y => ⟨y.1, y.2.1⟩) (fun _ => rfl) (fun _ h => h) (fun _ => by simp only [bulk36]; omega)
end
end Go.Proofs.Ytllmdbbhokaokaa
