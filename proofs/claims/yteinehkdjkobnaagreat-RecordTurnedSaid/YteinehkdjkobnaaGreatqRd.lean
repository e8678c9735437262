/-
What the data of this seat's types are in range and in bulk,and that what reads so stands for typed data. Written by wip/tools/gen_rd.py.
-/
import Derived.Test.YteinehkdjkobnaaGreatRows
import Derived.Test.YteinehkdjkobnaaGreatqCod
import Derived.Test.YteinehkdjkobnaaGreatqTvS
import Derived.JoinedCond
set_option linter.unusedVariables false
namespace Go.Proofs.YteinehkdjkobnaaGreat
open Go Go.Ev
theorem nOwn:ownKnob Tryz.prog.godebug=none:=by kernel_rfl
theorem nLaid:laidOutB Tryz.prog=true:=by kernel_rfl
section
variable {H:Type} {enc:TypeId×Value→H}
theorem bOk:zp1 (H:=H) Rows.uptoBulk Rows.uptoBulkAll :=
  ⟨fun _=>by simp [Rows.uptoBulk],fun _ _=>by simp [Rows.uptoBulk],fun _=>by simp [Rows.uptoBulk],by simp [Rows.uptoBulk],fun _ _=>by simp [Rows.uptoBulk],fun _=>by simp [Rows.uptoBulk],by simp [Rows.uptoBulkAll],fun _ _=>by simp [Rows.uptoBulkAll]⟩
def wf2 (n:Int):Prop:=(-9223372036854775808)≤n∧n≤9223372036854775807
def bulk2 (_:Int):Nat:=1
theorem rd2:Rd enc E.P Rows.uptoBulk 2 (C.cel 2) wf2 bulk2:=(rd_int bOk tok2.d).to (fun _=>rfl) (fun _ h=>h) (fun _=>Nat.le_refl _)
def wf3 (n:Int):Prop:=(-9223372036854775808)≤n∧n≤9223372036854775807
def bulk3 (_:Int):Nat:=1
theorem rd3:Rd enc E.P Rows.uptoBulk 3 (C.cel 3) wf3 bulk3:=(rd_int bOk tok3.d).to (fun _=>rfl) (fun _ h=>h) (fun _=>Nat.le_refl _)
def wf5 (n:Int):Prop:=0≤n∧n≤255
def bulk5 (_:Int):Nat:=1
theorem rd5:Rd enc E.P Rows.uptoBulk 5 (C.cel 5) wf5 bulk5:=(rd_int bOk tok5.d).to (fun _=>rfl) (fun _ h=>h) (fun _=>Nat.le_refl _)
def wf9 (s:List UInt8):Prop:=s.length≤9223372036854775807
def bulk9 (s:List UInt8):Nat:=s.length + 1
theorem rd9:Rd enc E.P Rows.uptoBulk 9 (C.cel 9) wf9 bulk9:=(rd_str bOk tok9.d).to (fun _=>rfl) (fun _ h=>h) (fun _=>Nat.le_refl _)
def wf23 (x:zj):Prop:=wf2 x.Time∧wf3 x.Site∧True
def bulk23 (x:zj):Nat:=bulk2 x.Time + bulk3 x.Site + 1
theorem rd23:Rd enc E.P Rows.uptoBulk 23 (C.cel 23) wf23 bulk23:=zcs bOk tok23.d
  (RdF.cons bOk rd2 rfl (by kernel_rfl) (RdF.cons bOk rd3 rfl (by kernel_rfl) (RdF.nil bOk)))
  (fun y=>⟨y.1,y.2.1⟩) (fun _=>rfl) (fun _ h=>h) (fun _=>by simp only [bulk23]; omega)
def wf25 (x:GOp):Prop:=wf23 x.Stamp∧wf3 x.Kind∧wf2 x.Node∧wf2 x.Parent∧wf9 x.Name∧wf9 x.Key∧wf9 x.Value∧True
def bulk25 (x:GOp):Nat:=bulk23 x.Stamp + bulk3 x.Kind + bulk2 x.Node + bulk2 x.Parent + bulk9 x.Name + bulk9 x.Key + bulk9 x.Value + 1
theorem rd25:Rd enc E.P Rows.uptoBulk 25 (C.cel 25) wf25 bulk25:=zcs bOk tok25.d
  (RdF.cons bOk rd23 rfl (by kernel_rfl) (RdF.cons bOk rd3 rfl (by kernel_rfl) (RdF.cons bOk rd2 rfl (by kernel_rfl) (RdF.cons bOk rd2 rfl (by kernel_rfl) (RdF.cons bOk rd9 rfl (by kernel_rfl) (RdF.cons bOk rd9 rfl (by kernel_rfl) (RdF.cons bOk rd9 rfl (by kernel_rfl) (RdF.nil bOk))))))))
  (fun y=>⟨y.1,y.2.1,y.2.2.1,y.2.2.2.1,y.2.2.2.2.1,y.2.2.2.2.2.1,y.2.2.2.2.2.2.1⟩) (fun _=>rfl) (fun _ h=>h) (fun _=>by simp only [bulk25]; omega)
def wf26 (v:Vector (Int) 8):Prop:=∀ y ∈ v.toList,wf3 y
def bulk26 (v:Vector (Int) 8):Nat:=(v.toList.map bulk3).sum + 1
theorem rd26:Rd enc E.P Rows.uptoBulk 26 (C.cel 26) wf26 bulk26:=(rd_arr bOk tok26.d (by kernel_rfl) rd3).to (fun _=>rfl) (fun _ h=>h) (fun _=>Nat.le_refl _)
def wf28 (v:Vector (Int) 8):Prop:=∀ y ∈ v.toList,wf2 y
def bulk28 (v:Vector (Int) 8):Nat:=(v.toList.map bulk2).sum + 1
theorem rd28:Rd enc E.P Rows.uptoBulk 28 (C.cel 28) wf28 bulk28:=(rd_arr bOk tok28.d (by kernel_rfl) rd2).to (fun _=>rfl) (fun _ h=>h) (fun _=>Nat.le_refl _)
def wf30 (x:z7):Prop:=wf2 x.Number∧wf26 x.States∧wf28 x.Seals∧wf26 x.Sponsor∧True
def bulk30 (x:z7):Nat:=bulk2 x.Number + bulk26 x.States + bulk28 x.Seals + bulk26 x.Sponsor + 1
theorem rd30:Rd enc E.P Rows.uptoBulk 30 (C.cel 30) wf30 bulk30:=zcs bOk tok30.d
  (RdF.cons bOk rd2 rfl (by kernel_rfl) (RdF.cons bOk rd26 rfl (by kernel_rfl) (RdF.cons bOk rd28 rfl (by kernel_rfl) (RdF.cons bOk rd26 rfl (by kernel_rfl) (RdF.nil bOk)))))
  (fun y=>⟨y.1,y.2.1,y.2.2.1,y.2.2.2.1⟩) (fun _=>rfl) (fun _ h=>h) (fun _=>by simp only [bulk30]; omega)
def wf31 (l:List (Int)):Prop:=l.length≤9223372036854775807∧∀ y ∈ l,wf5 y
def bulk31 (l:List (Int)):Nat:=(l.map bulk5).sum + 1
theorem rd31:Rd enc E.P Rows.uptoBulk 31 (C.cel 31) wf31 bulk31:=(zzs bOk tok31.d rd5 (by kernel_rfl) (by decide) (law5.len)).to (fun _=>rfl) (fun _ h=>h) (fun _=>Nat.le_refl _)
def wf60 (l:List (GOp)):Prop:=l.length≤9223372036854775807∧∀ y ∈ l,wf25 y
def bulk60 (l:List (GOp)):Nat:=(l.map bulk25).sum + 1
theorem rd60:Rd enc E.P Rows.uptoBulk 60 (C.cel 60) wf60 bulk60:=(zzs bOk tok60.d rd25 (by kernel_rfl) (by decide) (law25.len)).to (fun _=>rfl) (fun _ h=>h) (fun _=>Nat.le_refl _)
def wf62 (x:GPart):Prop:=wf2 x.Snap∧wf3 x.Index∧wf3 x.Many∧wf31 x.Data∧True
def bulk62 (x:GPart):Nat:=bulk2 x.Snap + bulk3 x.Index + bulk3 x.Many + bulk31 x.Data + 1
theorem rd62:Rd enc E.P Rows.uptoBulk 62 (C.cel 62) wf62 bulk62:=zcs bOk tok62.d
  (RdF.cons bOk rd2 rfl (by kernel_rfl) (RdF.cons bOk rd3 rfl (by kernel_rfl) (RdF.cons bOk rd3 rfl (by kernel_rfl) (RdF.cons bOk rd31 rfl (by kernel_rfl) (RdF.nil bOk)))))
  (fun y=>⟨y.1,y.2.1,y.2.2.1,y.2.2.2.1⟩) (fun _=>rfl) (fun _ h=>h) (fun _=>by simp only [bulk62]; omega)
def wf64 (x:z6):Prop:=wf3 x.Kind∧wf2 x.Session∧wf2 x.Request∧wf25 x.Op∧wf3 x.Origin∧wf2 x.Seq∧wf60 x.Ops∧wf30 x.Epoch∧wf3 x.From∧wf28 x.Vector_∧wf2 x.Clock∧wf62 x.Part∧wf3 x.Site∧wf3 x.Sponsor∧wf2 x.Length∧True
def bulk64 (x:z6):Nat:=bulk3 x.Kind + bulk2 x.Session + bulk2 x.Request + bulk25 x.Op + bulk3 x.Origin + bulk2 x.Seq + bulk60 x.Ops + bulk30 x.Epoch + bulk3 x.From + bulk28 x.Vector_ + bulk2 x.Clock + bulk62 x.Part + bulk3 x.Site + bulk3 x.Sponsor + bulk2 x.Length + 1
theorem rd64:Rd enc E.P Rows.uptoBulk 64 (C.cel 64) wf64 bulk64:=zcs bOk tok64.d
  (RdF.cons bOk rd3 rfl (by kernel_rfl) (RdF.cons bOk rd2 rfl (by kernel_rfl) (RdF.cons bOk rd2 rfl (by kernel_rfl) (RdF.cons bOk rd25 rfl (by kernel_rfl) (RdF.cons bOk rd3 rfl (by kernel_rfl) (RdF.cons bOk rd2 rfl (by kernel_rfl) (RdF.cons bOk rd60 rfl (by kernel_rfl) (RdF.cons bOk rd30 rfl (by kernel_rfl) (RdF.cons bOk rd3 rfl (by kernel_rfl) (RdF.cons bOk rd28 rfl (by kernel_rfl) (RdF.cons bOk rd2 rfl (by kernel_rfl) (RdF.cons bOk rd62 rfl (by kernel_rfl) (RdF.cons bOk rd3 rfl (by kernel_rfl) (RdF.cons bOk rd3 rfl (by kernel_rfl) (RdF.cons bOk rd2 rfl (by kernel_rfl) (RdF.nil bOk))))))))))))))))
  (fun y=>⟨y.1,y.2.1,y.2.2.1,y.2.2.2.1,y.2.2.2.2.1,y.2.2.2.2.2.1,y.2.2.2.2.2.2.1,y.2.2.2.2.2.2.2.1,y.2.2.2.2.2.2.2.2.1,y.2.2.2.2.2.2.2.2.2.1,y.2.2.2.2.2.2.2.2.2.2.1,y.2.2.2.2.2.2.2.2.2.2.2.1,y.2.2.2.2.2.2.2.2.2.2.2.2.1,y.2.2.2.2.2.2.2.2.2.2.2.2.2.1,y.2.2.2.2.2.2.2.2.2.2.2.2.2.2.1⟩) (fun _=>rfl) (fun _ h=>h) (fun _=>by simp only [bulk64]; omega)
def wf66 (x:GAddr):Prop:=wf3 x.Group∧wf3 x.Replica∧True
def bulk66 (x:GAddr):Nat:=bulk3 x.Group + bulk3 x.Replica + 1
theorem rd66:Rd enc E.P Rows.uptoBulk 66 (C.cel 66) wf66 bulk66:=zcs bOk tok66.d
  (RdF.cons bOk rd3 rfl (by kernel_rfl) (RdF.cons bOk rd3 rfl (by kernel_rfl) (RdF.nil bOk)))
  (fun y=>⟨y.1,y.2.1⟩) (fun _=>rfl) (fun _ h=>h) (fun _=>by simp only [bulk66]; omega)
def wf68 (x:zc):Prop:=wf2 x.Round∧wf3 x.Replica∧True
def bulk68 (x:zc):Nat:=bulk2 x.Round + bulk3 x.Replica + 1
theorem rd68:Rd enc E.P Rows.uptoBulk 68 (C.cel 68) wf68 bulk68:=zcs bOk tok68.d
  (RdF.cons bOk rd2 rfl (by kernel_rfl) (RdF.cons bOk rd3 rfl (by kernel_rfl) (RdF.nil bOk)))
  (fun y=>⟨y.1,y.2.1⟩) (fun _=>rfl) (fun _ h=>h) (fun _=>by simp only [bulk68]; omega)
def wf178 (x:zd):Prop:=wf2 x.Slot∧wf68 x.Ballot∧wf64 x.Entry∧True
def z124 (x:zd):Nat:=bulk2 x.Slot + bulk68 x.Ballot + bulk64 x.Entry + 1
theorem rd178:Rd enc E.P Rows.uptoBulk 178 (C.cel 178) wf178 z124:=zcs bOk tok178.d
  (RdF.cons bOk rd2 rfl (by kernel_rfl) (RdF.cons bOk rd68 rfl (by kernel_rfl) (RdF.cons bOk rd64 rfl (by kernel_rfl) (RdF.nil bOk))))
  (fun y=>⟨y.1,y.2.1,y.2.2.1⟩) (fun _=>rfl) (fun _ h=>h) (fun _=>by simp only [z124]; omega)
def wf69 (l:List (zd)):Prop:=l.length≤9223372036854775807∧∀ y ∈ l,wf178 y
def bulk69 (l:List (zd)):Nat:=(l.map z124).sum + 1
theorem rd69:Rd enc E.P Rows.uptoBulk 69 (C.cel 69) wf69 bulk69:=(zzs bOk tok69.d rd178 (by kernel_rfl) (by decide) (law178.len)).to (fun _=>rfl) (fun _ h=>h) (fun _=>Nat.le_refl _)
def wf71 (x:GMsg):Prop:=wf3 x.Kind∧wf66 x.From∧wf66 x.To∧wf68 x.Ballot∧wf2 x.Slot∧wf69 x.List_∧wf64 x.Entry∧wf2 x.Number∧wf28 x.Vector_∧wf2 x.Clock∧wf3 x.Origin∧wf60 x.Ops∧wf30 x.Epoch∧wf62 x.Part∧True
def bulk71 (x:GMsg):Nat:=bulk3 x.Kind + bulk66 x.From + bulk66 x.To + bulk68 x.Ballot + bulk2 x.Slot + bulk69 x.List_ + bulk64 x.Entry + bulk2 x.Number + bulk28 x.Vector_ + bulk2 x.Clock + bulk3 x.Origin + bulk60 x.Ops + bulk30 x.Epoch + bulk62 x.Part + 1
theorem rd71:Rd enc E.P Rows.uptoBulk 71 (C.cel 71) wf71 bulk71:=zcs bOk tok71.d
  (RdF.cons bOk rd3 rfl (by kernel_rfl) (RdF.cons bOk rd66 rfl (by kernel_rfl) (RdF.cons bOk rd66 rfl (by kernel_rfl) (RdF.cons bOk rd68 rfl (by kernel_rfl) (RdF.cons bOk rd2 rfl (by kernel_rfl) (RdF.cons bOk rd69 rfl (by kernel_rfl) (RdF.cons bOk rd64 rfl (by kernel_rfl) (RdF.cons bOk rd2 rfl (by kernel_rfl) (RdF.cons bOk rd28 rfl (by kernel_rfl) (RdF.cons bOk rd2 rfl (by kernel_rfl) (RdF.cons bOk rd3 rfl (by kernel_rfl) (RdF.cons bOk rd60 rfl (by kernel_rfl) (RdF.cons bOk rd30 rfl (by kernel_rfl) (RdF.cons bOk rd62 rfl (by kernel_rfl) (RdF.nil bOk)))))))))))))))
  (fun y=>⟨y.1,y.2.1,y.2.2.1,y.2.2.2.1,y.2.2.2.2.1,y.2.2.2.2.2.1,y.2.2.2.2.2.2.1,y.2.2.2.2.2.2.2.1,y.2.2.2.2.2.2.2.2.1,y.2.2.2.2.2.2.2.2.2.1,y.2.2.2.2.2.2.2.2.2.2.1,y.2.2.2.2.2.2.2.2.2.2.2.1,y.2.2.2.2.2.2.2.2.2.2.2.2.1,y.2.2.2.2.2.2.2.2.2.2.2.2.2.1⟩) (fun _=>rfl) (fun _ h=>h) (fun _=>by simp only [bulk71]; omega)
end
end Go.Proofs.YteinehkdjkobnaaGreat
