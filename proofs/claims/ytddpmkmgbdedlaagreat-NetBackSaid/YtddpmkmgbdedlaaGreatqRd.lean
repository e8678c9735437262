/-
What the data of this seat's types are in range and in bulk,and that what reads so stands for typed data. Written by wip/tools/gen_rd.py.
-/
import Derived.Test.YtddpmkmgbdedlaaGreatRows
import Derived.Test.YtddpmkmgbdedlaaGreatqCod
import Derived.Test.YtddpmkmgbdedlaaGreatqTvS
import Derived.JoinedCond
set_option linter.unusedVariables false
namespace Go.Proofs.YtddpmkmgbdedlaaGreat
open Go Go.Ev
theorem nOwn:ownKnob Tryz.prog.godebug=none:=by kernel_rfl
theorem nLaid:laidOutB Tryz.prog=true:=by kernel_rfl
section
variable {H:Type} {enc:TypeId×Value→H}
theorem bOk:zpr (H:=H) Rows.uptoBulk Rows.uptoBulkAll :=
  ⟨fun _=>by simp [Rows.uptoBulk],fun _ _=>by simp [Rows.uptoBulk],fun _=>by simp [Rows.uptoBulk],by simp [Rows.uptoBulk],fun _ _=>by simp [Rows.uptoBulk],fun _=>by simp [Rows.uptoBulk],by simp [Rows.uptoBulkAll],fun _ _=>by simp [Rows.uptoBulkAll]⟩
def wf2 (n:Int):Prop:=(-9223372036854775808)≤n∧n≤9223372036854775807
def bulk2 (_:Int):Nat:=1
theorem rd2:Rd enc E.P Rows.uptoBulk 2 (C.cel 2) wf2 bulk2:=(rd_int bOk tok2.d).to (fun _=>rfl) (fun _ h=>h) (fun _=>Nat.le_refl _)
def wf3 (n:Int):Prop:=(-9223372036854775808)≤n∧n≤9223372036854775807
def bulk3 (_:Int):Nat:=1
theorem rd3:Rd enc E.P Rows.uptoBulk 3 (C.cel 3) wf3 bulk3:=(rd_int bOk tok3.d).to (fun _=>rfl) (fun _ h=>h) (fun _=>Nat.le_refl _)
def wf5 (n:Int):Prop:=0≤n∧n≤255
def bulk5 (_:Int):Nat:=1
theorem rd5:Rd enc E.P Rows.uptoBulk 5 (C.cel 5) wf5 bulk5:=(rd_int bOk tok5.d).to (fun _=>rfl) (fun _ h=>h) (fun _=>Nat.le_refl _)
def wf9 (s:List UInt8):Prop:=s.length≤9223372036854775807
def bulk9 (s:List UInt8):Nat:=s.length+1
theorem rd9:Rd enc E.P Rows.uptoBulk 9 (C.cel 9) wf9 bulk9:=(rd_str bOk tok9.d).to (fun _=>rfl) (fun _ h=>h) (fun _=>Nat.le_refl _)
def wf23 (x:GAddr):Prop:=wf3 x.Group∧wf3 x.Replica∧True
def bulk23 (x:GAddr):Nat:=bulk3 x.Group+bulk3 x.Replica+1
theorem rd23:Rd enc E.P Rows.uptoBulk 23 (C.cel 23) wf23 bulk23:=zd5 bOk tok23.d
  (RdF.cons bOk rd3 rfl (by kernel_rfl) (RdF.cons bOk rd3 rfl (by kernel_rfl) (RdF.nil bOk)))
  (fun y=>⟨y.1,y.2.1⟩) (fun _=>rfl) (fun _ h=>h) (fun _=>by simp only [bulk23]; omega)
def wf25 (x:zu):Prop:=wf2 x.Round∧wf3 x.Replica∧True
def bulk25 (x:zu):Nat:=bulk2 x.Round+bulk3 x.Replica+1
theorem rd25:Rd enc E.P Rows.uptoBulk 25 (C.cel 25) wf25 bulk25:=zd5 bOk tok25.d
  (RdF.cons bOk rd2 rfl (by kernel_rfl) (RdF.cons bOk rd3 rfl (by kernel_rfl) (RdF.nil bOk)))
  (fun y=>⟨y.1,y.2.1⟩) (fun _=>rfl) (fun _ h=>h) (fun _=>by simp only [bulk25]; omega)
def wf28 (x:z1a):Prop:=wf2 x.Time∧wf3 x.Site∧True
def bulk28 (x:z1a):Nat:=bulk2 x.Time+bulk3 x.Site+1
theorem rd28:Rd enc E.P Rows.uptoBulk 28 (C.cel 28) wf28 bulk28:=zd5 bOk tok28.d
  (RdF.cons bOk rd2 rfl (by kernel_rfl) (RdF.cons bOk rd3 rfl (by kernel_rfl) (RdF.nil bOk)))
  (fun y=>⟨y.1,y.2.1⟩) (fun _=>rfl) (fun _ h=>h) (fun _=>by simp only [bulk28]; omega)
def wf30 (x:GOp):Prop:=wf28 x.Stamp∧wf3 x.Kind∧wf2 x.Node∧wf2 x.Parent∧wf9 x.Name∧wf9 x.Key∧wf9 x.Value∧True
def bulk30 (x:GOp):Nat:=bulk28 x.Stamp+bulk3 x.Kind+bulk2 x.Node+bulk2 x.Parent+bulk9 x.Name+bulk9 x.Key+bulk9 x.Value+1
theorem rd30:Rd enc E.P Rows.uptoBulk 30 (C.cel 30) wf30 bulk30:=zd5 bOk tok30.d
  (RdF.cons bOk rd28 rfl (by kernel_rfl) (RdF.cons bOk rd3 rfl (by kernel_rfl) (RdF.cons bOk rd2 rfl (by kernel_rfl) (RdF.cons bOk rd2 rfl (by kernel_rfl) (RdF.cons bOk rd9 rfl (by kernel_rfl) (RdF.cons bOk rd9 rfl (by kernel_rfl) (RdF.cons bOk rd9 rfl (by kernel_rfl) (RdF.nil bOk))))))))
  (fun y=>⟨y.1,y.2.1,y.2.2.1,y.2.2.2.1,y.2.2.2.2.1,y.2.2.2.2.2.1,y.2.2.2.2.2.2.1⟩) (fun _=>rfl) (fun _ h=>h) (fun _=>by simp only [bulk30]; omega)
def wf31 (l:List (GOp)):Prop:=l.length≤9223372036854775807∧∀ y∈l,wf30 y
def bulk31 (l:List (GOp)):Nat:=(l.map bulk30).sum+1
theorem rd31:Rd enc E.P Rows.uptoBulk 31 (C.cel 31) wf31 bulk31:=(zv4 bOk tok31.d rd30 (by kernel_rfl) (by decide) (law30.len)).to (fun _=>rfl) (fun _ h=>h) (fun _=>Nat.le_refl _)
def wf32 (v:Vector (Int) 8):Prop:=∀ y∈v.toList,wf3 y
def bulk32 (v:Vector (Int) 8):Nat:=(v.toList.map bulk3).sum+1
theorem rd32:Rd enc E.P Rows.uptoBulk 32 (C.cel 32) wf32 bulk32:=(rd_arr bOk tok32.d (by kernel_rfl) rd3).to (fun _=>rfl) (fun _ h=>h) (fun _=>Nat.le_refl _)
def wf34 (v:Vector (Int) 8):Prop:=∀ y∈v.toList,wf2 y
def bulk34 (v:Vector (Int) 8):Nat:=(v.toList.map bulk2).sum+1
theorem rd34:Rd enc E.P Rows.uptoBulk 34 (C.cel 34) wf34 bulk34:=(rd_arr bOk tok34.d (by kernel_rfl) rd2).to (fun _=>rfl) (fun _ h=>h) (fun _=>Nat.le_refl _)
def wf36 (x:za):Prop:=wf2 x.Number∧wf32 x.States∧wf34 x.Seals∧wf32 x.Sponsor∧True
def bulk36 (x:za):Nat:=bulk2 x.Number+bulk32 x.States+bulk34 x.Seals+bulk32 x.Sponsor+1
theorem rd36:Rd enc E.P Rows.uptoBulk 36 (C.cel 36) wf36 bulk36:=zd5 bOk tok36.d
  (RdF.cons bOk rd2 rfl (by kernel_rfl) (RdF.cons bOk rd32 rfl (by kernel_rfl) (RdF.cons bOk rd34 rfl (by kernel_rfl) (RdF.cons bOk rd32 rfl (by kernel_rfl) (RdF.nil bOk)))))
  (fun y=>⟨y.1,y.2.1,y.2.2.1,y.2.2.2.1⟩) (fun _=>rfl) (fun _ h=>h) (fun _=>by simp only [bulk36]; omega)
def wf37 (l:List (Int)):Prop:=l.length≤9223372036854775807∧∀ y∈l,wf5 y
def bulk37 (l:List (Int)):Nat:=(l.map bulk5).sum+1
theorem rd37:Rd enc E.P Rows.uptoBulk 37 (C.cel 37) wf37 bulk37:=(zv4 bOk tok37.d rd5 (by kernel_rfl) (by decide) (law5.len)).to (fun _=>rfl) (fun _ h=>h) (fun _=>Nat.le_refl _)
def wf39 (x:GPart):Prop:=wf2 x.Snap∧wf3 x.Index∧wf3 x.Many∧wf37 x.Data∧True
def bulk39 (x:GPart):Nat:=bulk2 x.Snap+bulk3 x.Index+bulk3 x.Many+bulk37 x.Data+1
theorem rd39:Rd enc E.P Rows.uptoBulk 39 (C.cel 39) wf39 bulk39:=zd5 bOk tok39.d
  (RdF.cons bOk rd2 rfl (by kernel_rfl) (RdF.cons bOk rd3 rfl (by kernel_rfl) (RdF.cons bOk rd3 rfl (by kernel_rfl) (RdF.cons bOk rd37 rfl (by kernel_rfl) (RdF.nil bOk)))))
  (fun y=>⟨y.1,y.2.1,y.2.2.1,y.2.2.2.1⟩) (fun _=>rfl) (fun _ h=>h) (fun _=>by simp only [bulk39]; omega)
def wf41 (x:z9):Prop:=wf3 x.Kind∧wf2 x.Session∧wf2 x.Request∧wf30 x.Op∧wf3 x.Origin∧wf2 x.Seq∧wf31 x.Ops∧wf36 x.Epoch∧wf3 x.From∧wf34 x.Vector_∧wf2 x.Clock∧wf39 x.Part∧wf3 x.Site∧wf3 x.Sponsor∧wf2 x.Length∧True
def bulk41 (x:z9):Nat:=bulk3 x.Kind+bulk2 x.Session+bulk2 x.Request+bulk30 x.Op+bulk3 x.Origin+bulk2 x.Seq+bulk31 x.Ops+bulk36 x.Epoch+bulk3 x.From+bulk34 x.Vector_+bulk2 x.Clock+bulk39 x.Part+bulk3 x.Site+bulk3 x.Sponsor+bulk2 x.Length+1
theorem rd41:Rd enc E.P Rows.uptoBulk 41 (C.cel 41) wf41 bulk41:=zd5 bOk tok41.d
  (RdF.cons bOk rd3 rfl (by kernel_rfl) (RdF.cons bOk rd2 rfl (by kernel_rfl) (RdF.cons bOk rd2 rfl (by kernel_rfl) (RdF.cons bOk rd30 rfl (by kernel_rfl) (RdF.cons bOk rd3 rfl (by kernel_rfl) (RdF.cons bOk rd2 rfl (by kernel_rfl) (RdF.cons bOk rd31 rfl (by kernel_rfl) (RdF.cons bOk rd36 rfl (by kernel_rfl) (RdF.cons bOk rd3 rfl (by kernel_rfl) (RdF.cons bOk rd34 rfl (by kernel_rfl) (RdF.cons bOk rd2 rfl (by kernel_rfl) (RdF.cons bOk rd39 rfl (by kernel_rfl) (RdF.cons bOk rd3 rfl (by kernel_rfl) (RdF.cons bOk rd3 rfl (by kernel_rfl) (RdF.cons bOk rd2 rfl (by kernel_rfl) (RdF.nil bOk))))))))))))))))
  (fun y=>⟨y.1,y.2.1,y.2.2.1,y.2.2.2.1,y.2.2.2.2.1,y.2.2.2.2.2.1,y.2.2.2.2.2.2.1,y.2.2.2.2.2.2.2.1,y.2.2.2.2.2.2.2.2.1,y.2.2.2.2.2.2.2.2.2.1,y.2.2.2.2.2.2.2.2.2.2.1,y.2.2.2.2.2.2.2.2.2.2.2.1,y.2.2.2.2.2.2.2.2.2.2.2.2.1,y.2.2.2.2.2.2.2.2.2.2.2.2.2.1,y.2.2.2.2.2.2.2.2.2.2.2.2.2.2.1⟩) (fun _=>rfl) (fun _ h=>h) (fun _=>by simp only [bulk41]; omega)
def wf155 (x:zc):Prop:=wf2 x.Slot∧wf25 x.Ballot∧wf41 x.Entry∧True
def z12r (x:zc):Nat:=bulk2 x.Slot+bulk25 x.Ballot+bulk41 x.Entry+1
theorem rd155:Rd enc E.P Rows.uptoBulk 155 (C.cel 155) wf155 z12r:=zd5 bOk tok155.d
  (RdF.cons bOk rd2 rfl (by kernel_rfl) (RdF.cons bOk rd25 rfl (by kernel_rfl) (RdF.cons bOk rd41 rfl (by kernel_rfl) (RdF.nil bOk))))
  (fun y=>⟨y.1,y.2.1,y.2.2.1⟩) (fun _=>rfl) (fun _ h=>h) (fun _=>by simp only [z12r]; omega)
def wf26 (l:List (zc)):Prop:=l.length≤9223372036854775807∧∀ y∈l,wf155 y
def bulk26 (l:List (zc)):Nat:=(l.map z12r).sum+1
theorem rd26:Rd enc E.P Rows.uptoBulk 26 (C.cel 26) wf26 bulk26:=(zv4 bOk tok26.d rd155 (by kernel_rfl) (by decide) (law155.len)).to (fun _=>rfl) (fun _ h=>h) (fun _=>Nat.le_refl _)
def wf43 (x:GMsg):Prop:=wf3 x.Kind∧wf23 x.From∧wf23 x.To∧wf25 x.Ballot∧wf2 x.Slot∧wf26 x.List_∧wf41 x.Entry∧wf2 x.Number∧wf34 x.Vector_∧wf2 x.Clock∧wf3 x.Origin∧wf31 x.Ops∧wf36 x.Epoch∧wf39 x.Part∧True
def bulk43 (x:GMsg):Nat:=bulk3 x.Kind+bulk23 x.From+bulk23 x.To+bulk25 x.Ballot+bulk2 x.Slot+bulk26 x.List_+bulk41 x.Entry+bulk2 x.Number+bulk34 x.Vector_+bulk2 x.Clock+bulk3 x.Origin+bulk31 x.Ops+bulk36 x.Epoch+bulk39 x.Part+1
theorem rd43:Rd enc E.P Rows.uptoBulk 43 (C.cel 43) wf43 bulk43:=zd5 bOk tok43.d
  (RdF.cons bOk rd3 rfl (by kernel_rfl) (RdF.cons bOk rd23 rfl (by kernel_rfl) (RdF.cons bOk rd23 rfl (by kernel_rfl) (RdF.cons bOk rd25 rfl (by kernel_rfl) (RdF.cons bOk rd2 rfl (by kernel_rfl) (RdF.cons bOk rd26 rfl (by kernel_rfl) (RdF.cons bOk rd41 rfl (by kernel_rfl) (RdF.cons bOk rd2 rfl (by kernel_rfl) (RdF.cons bOk rd34 rfl (by kernel_rfl) (RdF.cons bOk rd2 rfl (by kernel_rfl) (RdF.cons bOk rd3 rfl (by kernel_rfl) (RdF.cons bOk rd31 rfl (by kernel_rfl) (RdF.cons bOk rd36 rfl (by kernel_rfl) (RdF.cons bOk rd39 rfl (by kernel_rfl) (RdF.nil bOk)))))))))))))))
  (fun y=>⟨y.1,y.2.1,y.2.2.1,y.2.2.2.1,y.2.2.2.2.1,y.2.2.2.2.2.1,y.2.2.2.2.2.2.1,y.2.2.2.2.2.2.2.1,y.2.2.2.2.2.2.2.2.1,y.2.2.2.2.2.2.2.2.2.1,y.2.2.2.2.2.2.2.2.2.2.1,y.2.2.2.2.2.2.2.2.2.2.2.1,y.2.2.2.2.2.2.2.2.2.2.2.2.1,y.2.2.2.2.2.2.2.2.2.2.2.2.2.1⟩) (fun _=>rfl) (fun _ h=>h) (fun _=>by simp only [bulk43]; omega)
def wf59 (l:List (GMsg)):Prop:=l.length≤9223372036854775807∧∀ y∈l,wf43 y
def bulk59 (l:List (GMsg)):Nat:=(l.map bulk43).sum+1
theorem rd59:Rd enc E.P Rows.uptoBulk 59 (C.cel 59) wf59 bulk59:=(zv4 bOk tok59.d rd43 (by kernel_rfl) (by decide) (law43.len)).to (fun _=>rfl) (fun _ h=>h) (fun _=>Nat.le_refl _)
end
end Go.Proofs.YtddpmkmgbdedlaaGreat
