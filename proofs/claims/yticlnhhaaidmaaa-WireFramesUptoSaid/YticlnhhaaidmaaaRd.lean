/-
What the data of this seat's types are in range and in bulk, and that what reads so stands for typed data. Written by wip/tools/gen_rd.py.
-/
import Derived.Test.YticlnhhaaidmaaaRows
import Derived.Test.YticlnhhaaidmaaaCod
import Derived.Test.YticlnhhaaidmaaaTvS
import Derived.JoinedCond
set_option linter.unusedVariables false
namespace Go.Proofs.Yticlnhhaaidmaaa
open Go Go.Ev
theorem nOwn : ownKnob Try.prog.godebug = none := by kernel_rfl
theorem nLaid : laidOutB Try.prog = true := by kernel_rfl
section
variable {H : Type} {enc : TypeId × Value → H}
theorem bOk : BulkOk (H := H) Rows.uptoBulk Rows.uptoBulkAll :=
  ⟨fun _ => by simp [Rows.uptoBulk], fun _ _ => by simp [Rows.uptoBulk], fun _ => by simp [Rows.uptoBulk], by simp [Rows.uptoBulk], fun _ _ => by simp [Rows.uptoBulk], fun _ => by simp [Rows.uptoBulk], by simp [Rows.uptoBulkAll], fun _ _ => by simp [Rows.uptoBulkAll]⟩
def wf2 (n : Int) : Prop := (-9223372036854775808) ≤ n ∧ n ≤ 9223372036854775807
def bulk2 (_ : Int) : Nat := 1
theorem rd2 : Rd enc E.P Rows.uptoBulk 2 (C.cel 2) wf2 bulk2 := (rd_int bOk tok2.d).to (fun _ => rfl) (fun _ h => h) (fun _ => Nat.le_refl _)
def wf3 (n : Int) : Prop := (-9223372036854775808) ≤ n ∧ n ≤ 9223372036854775807
def bulk3 (_ : Int) : Nat := 1
theorem rd3 : Rd enc E.P Rows.uptoBulk 3 (C.cel 3) wf3 bulk3 := (rd_int bOk tok3.d).to (fun _ => rfl) (fun _ h => h) (fun _ => Nat.le_refl _)
def wf4 (_ : Bool) : Prop := True
def bulk4 (_ : Bool) : Nat := 1
theorem rd4 : Rd enc E.P Rows.uptoBulk 4 (C.cel 4) wf4 bulk4 := (rd_bool bOk tok4.d).to (fun _ => rfl) (fun _ h => h) (fun _ => Nat.le_refl _)
def wf5 (n : Int) : Prop := 0 ≤ n ∧ n ≤ 255
def bulk5 (_ : Int) : Nat := 1
theorem rd5 : Rd enc E.P Rows.uptoBulk 5 (C.cel 5) wf5 bulk5 := (rd_int bOk tok5.d).to (fun _ => rfl) (fun _ h => h) (fun _ => Nat.le_refl _)
def wf9 (s : List UInt8) : Prop := s.length ≤ 9223372036854775807
def bulk9 (s : List UInt8) : Nat := s.length + 1
theorem rd9 : Rd enc E.P Rows.uptoBulk 9 (C.cel 9) wf9 bulk9 := (rd_str bOk tok9.d).to (fun _ => rfl) (fun _ h => h) (fun _ => Nat.le_refl _)
def wf12 (n : Int) : Prop := 0 ≤ n ∧ n ≤ 18446744073709551615
def bulk12 (_ : Int) : Nat := 1
theorem rd12 : Rd enc E.P Rows.uptoBulk 12 (C.cel 12) wf12 bulk12 := (rd_int bOk tok12.d).to (fun _ => rfl) (fun _ h => h) (fun _ => Nat.le_refl _)
def wf21 (n : Int) : Prop := (-2147483648) ≤ n ∧ n ≤ 2147483647
def bulk21 (_ : Int) : Nat := 1
theorem rd21 : Rd enc E.P Rows.uptoBulk 21 (C.cel 21) wf21 bulk21 := (rd_int bOk tok21.d).to (fun _ => rfl) (fun _ h => h) (fun _ => Nat.le_refl _)
def wf23 (l : List (Int)) : Prop := l.length ≤ 9223372036854775807 ∧ ∀ y ∈ l, wf5 y
def bulk23 (l : List (Int)) : Nat := (l.map bulk5).sum + 1
theorem rd23 : Rd enc E.P Rows.uptoBulk 23 (C.cel 23) wf23 bulk23 := (rd_slice bOk tok23.d rd5 (by kernel_rfl) (by decide) (law5.len)).to (fun _ => rfl) (fun _ h => h) (fun _ => Nat.le_refl _)
def wf22 (l : List (List (Int))) : Prop := l.length ≤ 9223372036854775807 ∧ ∀ y ∈ l, wf23 y
def bulk22 (l : List (List (Int))) : Nat := (l.map bulk23).sum + 1
theorem rd22 : Rd enc E.P Rows.uptoBulk 22 (C.cel 22) wf22 bulk22 := (rd_slice bOk tok22.d rd23 (by kernel_rfl) (by decide) (law23.len)).to (fun _ => rfl) (fun _ h => h) (fun _ => Nat.le_refl _)
def wf25 (n : Int) : Prop := 0 ≤ n ∧ n ≤ 4294967295
def bulk25 (_ : Int) : Nat := 1
theorem rd25 : Rd enc E.P Rows.uptoBulk 25 (C.cel 25) wf25 bulk25 := (rd_int bOk tok25.d).to (fun _ => rfl) (fun _ h => h) (fun _ => Nat.le_refl _)
def wf33 (x : Gorchardlaw01_Part) : Prop := wf3 x.Kind ∧ wf2 x.N ∧ wf23 x.B ∧ True
def bulk33 (x : Gorchardlaw01_Part) : Nat := bulk3 x.Kind + bulk2 x.N + bulk23 x.B + 1
theorem rd33 : Rd enc E.P Rows.uptoBulk 33 (C.cel 33) wf33 bulk33 := rd_struct bOk tok33.d
  (RdF.cons bOk rd3 rfl (by kernel_rfl) (RdF.cons bOk rd2 rfl (by kernel_rfl) (RdF.cons bOk rd23 rfl (by kernel_rfl) (RdF.nil bOk))))
  (fun y => ⟨y.1, y.2.1, y.2.2.1⟩) (fun _ => rfl) (fun _ h => h) (fun _ => by simp only [bulk33]; omega)
def wf29 (l : List (Gorchardlaw01_Part)) : Prop := l.length ≤ 9223372036854775807 ∧ ∀ y ∈ l, wf33 y
def bulk29 (l : List (Gorchardlaw01_Part)) : Nat := (l.map bulk33).sum + 1
theorem rd29 : Rd enc E.P Rows.uptoBulk 29 (C.cel 29) wf29 bulk29 := (rd_slice bOk tok29.d rd33 (by kernel_rfl) (by decide) (law33.len)).to (fun _ => rfl) (fun _ h => h) (fun _ => Nat.le_refl _)
def wf32 (x : Gorchardlaw01_Part) : Prop := wf3 x.Kind ∧ wf2 x.N ∧ wf23 x.B ∧ True
def bulk32 (x : Gorchardlaw01_Part) : Nat := bulk3 x.Kind + bulk2 x.N + bulk23 x.B + 1
theorem rd32 : Rd enc E.P Rows.uptoBulk 32 (C.cel 32) wf32 bulk32 := rd_struct bOk tok32.d
  (RdF.cons bOk rd3 rfl (by kernel_rfl) (RdF.cons bOk rd2 rfl (by kernel_rfl) (RdF.cons bOk rd23 rfl (by kernel_rfl) (RdF.nil bOk))))
  (fun y => ⟨y.1, y.2.1, y.2.2.1⟩) (fun _ => rfl) (fun _ h => h) (fun _ => by simp only [bulk32]; omega)
def wf34 (n : Int) : Prop := (-9223372036854775808) ≤ n ∧ n ≤ 9223372036854775807
def bulk34 (_ : Int) : Nat := 1
theorem rd34 : Rd enc E.P Rows.uptoBulk 34 (C.cel 34) wf34 bulk34 := (rd_int bOk tok34.d).to (fun _ => rfl) (fun _ h => h) (fun _ => Nat.le_refl _)
def wf41 (n : Int) : Prop := 0 ≤ n ∧ n ≤ 65535
def bulk41 (_ : Int) : Nat := 1
theorem rd41 : Rd enc E.P Rows.uptoBulk 41 (C.cel 41) wf41 bulk41 := (rd_int bOk tok41.d).to (fun _ => rfl) (fun _ h => h) (fun _ => Nat.le_refl _)
def wf50 (x : Gorchardref01_Reader) : Prop := wf23 x.B ∧ True
def bulk50 (x : Gorchardref01_Reader) : Nat := bulk23 x.B + 1
theorem rd50 : Rd enc E.P Rows.uptoBulk 50 (C.cel 50) wf50 bulk50 := rd_struct bOk tok50.d
  (RdF.cons bOk rd23 rfl (by kernel_rfl) (RdF.nil bOk))
  (fun y => ⟨y.1⟩) (fun _ => rfl) (fun _ h => h) (fun _ => by simp only [bulk50]; omega)
def wf51 (x : Gorchardref01_Reader) : Prop := wf23 x.B ∧ True
def bulk51 (x : Gorchardref01_Reader) : Nat := bulk23 x.B + 1
theorem rd51 : Rd enc E.P Rows.uptoBulk 51 (C.cel 51) wf51 bulk51 := rd_struct bOk tok51.d
  (RdF.cons bOk rd23 rfl (by kernel_rfl) (RdF.nil bOk))
  (fun y => ⟨y.1⟩) (fun _ => rfl) (fun _ h => h) (fun _ => by simp only [bulk51]; omega)
def wf62 (x : Gwire_Writer) : Prop := wf4 x.made ∧ wf23 x.b ∧ True
def bulk62 (x : Gwire_Writer) : Nat := bulk4 x.made + bulk23 x.b + 1
theorem rd62 : Rd enc E.P Rows.uptoBulk 62 (C.cel 62) wf62 bulk62 := rd_struct bOk tok62.d
  (RdF.cons bOk rd4 rfl (by kernel_rfl) (RdF.cons bOk rd23 rfl (by kernel_rfl) (RdF.nil bOk)))
  (fun y => ⟨y.1, y.2.1⟩) (fun _ => rfl) (fun _ h => h) (fun _ => by simp only [bulk62]; omega)
def wf63 (x : Gwire_Writer) : Prop := wf4 x.made ∧ wf23 x.b ∧ True
def bulk63 (x : Gwire_Writer) : Nat := bulk4 x.made + bulk23 x.b + 1
theorem rd63 : Rd enc E.P Rows.uptoBulk 63 (C.cel 63) wf63 bulk63 := rd_struct bOk tok63.d
  (RdF.cons bOk rd4 rfl (by kernel_rfl) (RdF.cons bOk rd23 rfl (by kernel_rfl) (RdF.nil bOk)))
  (fun y => ⟨y.1, y.2.1⟩) (fun _ => rfl) (fun _ h => h) (fun _ => by simp only [bulk63]; omega)
def wf66 (x : Gwire_Writer) : Prop := wf4 x.made ∧ wf23 x.b ∧ True
def bulk66 (x : Gwire_Writer) : Nat := bulk4 x.made + bulk23 x.b + 1
theorem rd66 : Rd enc E.P Rows.uptoBulk 66 (C.cel 66) wf66 bulk66 := rd_struct bOk tok66.d
  (RdF.cons bOk rd4 rfl (by kernel_rfl) (RdF.cons bOk rd23 rfl (by kernel_rfl) (RdF.nil bOk)))
  (fun y => ⟨y.1, y.2.1⟩) (fun _ => rfl) (fun _ h => h) (fun _ => by simp only [bulk66]; omega)
def wf72 (n : Int) : Prop := 0 ≤ n ∧ n ≤ 18446744073709551615
def bulk72 (_ : Int) : Nat := 1
theorem rd72 : Rd enc E.P Rows.uptoBulk 72 (C.cel 72) wf72 bulk72 := (rd_int bOk tok72.d).to (fun _ => rfl) (fun _ h => h) (fun _ => Nat.le_refl _)
def wf80 (n : Int) : Prop := 0 ≤ n ∧ n ≤ 18446744073709551615
def bulk80 (_ : Int) : Nat := 1
theorem rd80 : Rd enc E.P Rows.uptoBulk 80 (C.cel 80) wf80 bulk80 := (rd_int bOk tok80.d).to (fun _ => rfl) (fun _ h => h) (fun _ => Nat.le_refl _)
end
end Go.Proofs.Yticlnhhaaidmaaa
