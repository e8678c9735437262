/-
The functions of this seat, as plain functions over typed data, each with its contract. Printed by wip/tools/fngen.py.
-/
import Derived.Test.YtekpjhhbmjcbmaaqFea
import Derived.Test.YtekpjhhbmjcbmaaqTvX
import Derived.KernelRfl
set_option linter.unusedVariables false
set_option maxRecDepth 100000
namespace Go.Proofs.Ytekpjhhbmjcbmaa
open Go Go.Ev
def Fref04_site (N : Nat) (n : Int) : Option (Bool) :=
 (some ((decide (0 ≤ n)) && (decide (n < 8))))
def conref04_site : Con τ := { args := [.ty 3], L := [], ret := .ty 4, L' := [], R := Bool, dflt := default, F := fun N a b => Fref04_site N a.1, of := fun r => (r, ()) }
noncomputable def datref04_site : Dat τ := { D := D0, tbl := tblOf [], lp := lpsOf [], k0 := 0, mu := [], un := [] }
theorem okref04_site : ConOk E C 99 conref04_site :=
  con_ok (D := datref04_site) ⟨d0Ok, eGood, tblOf_ok trivial, fun _ => rfl⟩ conref04_site (fun a b => a) none (fun _ _ => rfl) rfl (fun _ _ h => nomatch h) 1000000 (fn := Try.f99) Try.func99 rfl (by kernel_rfl) (by kernel_rfl) rfl (by intro N a b; kernel_rfl)
def Fref04_MayStamp (N : Nat) (s : GStamp) : Option (Bool) :=
 ((Fref04_count N s.Time).bind fun r1 =>
 ((bif r1 then Fref04_site N s.Site else some default).bind fun r2 =>
 (some (r1 && r2))))
def conref04_MayStamp : Con τ := { args := [.ty 41], L := [], ret := .ty 4, L' := [], R := Bool, dflt := default, F := fun N a b => Fref04_MayStamp N a.1, of := fun r => (r, ()) }
noncomputable def datref04_MayStamp : Dat τ := { D := D0, tbl := tblOf [(95, conref04_count), (99, conref04_site)], lp := lpsOf [], k0 := 0, mu := [], un := [] }
theorem okref04_MayStamp : ConOk E C 119 conref04_MayStamp :=
  con_ok (D := datref04_MayStamp) ⟨d0Ok, eGood, tblOf_ok ⟨okref04_count, ⟨okref04_site, trivial⟩⟩, fun _ => rfl⟩ conref04_MayStamp (fun a b => a) none (fun _ _ => rfl) rfl (fun _ _ h => nomatch h) 1000000 (fn := Try.f119) Try.func119 rfl (by kernel_rfl) (by kernel_rfl) rfl (by intro N a b; kernel_rfl)
def Fref04_node (N : Nat) (n : Int) : Option (Bool) :=
 (some ((decide (0 ≤ n)) && (decide (n ≤ 1125899906842624))))
def conref04_node : Con τ := { args := [.ty 2], L := [], ret := .ty 4, L' := [], R := Bool, dflt := default, F := fun N a b => Fref04_node N a.1, of := fun r => (r, ()) }
noncomputable def datref04_node : Dat τ := { D := D0, tbl := tblOf [], lp := lpsOf [], k0 := 0, mu := [], un := [] }
theorem okref04_node : ConOk E C 138 conref04_node :=
  con_ok (D := datref04_node) ⟨d0Ok, eGood, tblOf_ok trivial, fun _ => rfl⟩ conref04_node (fun a b => a) none (fun _ _ => rfl) rfl (fun _ _ h => nomatch h) 1000000 (fn := Try.f138) Try.func138 rfl (by kernel_rfl) (by kernel_rfl) rfl (by intro N a b; kernel_rfl)
def Fref04_MayOp (N : Nat) (op : GOp) : Option (Bool) :=
 ((Fref04_MayStamp N op.Stamp).bind fun r1 =>
 ((bif ((r1 && (decide (1 ≤ op.Kind))) && (decide (op.Kind ≤ 3))) then Fref04_node N op.Node else some default).bind fun r2 =>
 ((bif (((r1 && (decide (1 ≤ op.Kind))) && (decide (op.Kind ≤ 3))) && r2) then Fref04_node N op.Parent else some default).bind fun r3 =>
 (some (((((((r1 && (decide (1 ≤ op.Kind))) && (decide (op.Kind ≤ 3))) && r2) && r3) && (decide (((op.Name).length : Int) ≤ 255))) && (decide (((op.Key).length : Int) ≤ 255))) && (decide (((op.Value).length : Int) ≤ 255)))))))
def conref04_MayOp : Con τ := { args := [.ty 43], L := [], ret := .ty 4, L' := [], R := Bool, dflt := default, F := fun N a b => Fref04_MayOp N a.1, of := fun r => (r, ()) }
noncomputable def datref04_MayOp : Dat τ := { D := D0, tbl := tblOf [(119, conref04_MayStamp), (138, conref04_node)], lp := lpsOf [], k0 := 0, mu := [], un := [] }
theorem okref04_MayOp : ConOk E C 131 conref04_MayOp :=
  con_ok (D := datref04_MayOp) ⟨d0Ok, eGood, tblOf_ok ⟨okref04_MayStamp, ⟨okref04_node, trivial⟩⟩, fun _ => rfl⟩ conref04_MayOp (fun a b => a) none (fun _ _ => rfl) rfl (fun _ _ h => nomatch h) 1000000 (fn := Try.f131) Try.func131 rfl (by kernel_rfl) (by kernel_rfl) rfl (by intro N a b; kernel_rfl)
structure Sref04_opsx2 where
  i : Int
def tsref04_opsx2 : List Sl := [.k, .k, .j, .sh (.ty 2), .j, .j, .j, .j, .j, .j, .j, .j, .j, .j, .j, .j, .k, .k, .k, .k, .k, .k, .k, .k]
def hsref04_opsx2 : List ESh := []
def toref04_opsx2 (a : Sl.Ts τ tsref04_opsx2) (b : ESh.Ts τ hsref04_opsx2) : Sref04_opsx2 := ⟨a.2.2.2.1⟩
def otref04_opsx2 (s : Sref04_opsx2) : Sl.Ts τ tsref04_opsx2 := ((), (), (), s.i, (), (), (), (), (), (), (), (), (), (), (), (), (), (), (), (), (), (), (), (), ())
def ohref04_opsx2 (s : Sref04_opsx2) : ESh.Ts τ hsref04_opsx2 := ()
def lpref04_opsx2 : Lp τ := { ts := tsref04_opsx2, hs := hsref04_opsx2, S := Sref04_opsx2, to := toref04_opsx2, ot := otref04_opsx2, oh := ohref04_opsx2, hk := [], tk := [], ot_to := fun _ _ => rfl, oh_to := fun _ _ => rfl }
def Fref04_ops (N : Nat) (l : List (GOp)) : Option (Bool) :=
 (iter N (fun (s1 : Sref04_opsx2) next2 =>
 (bif (decide (s1.i < ((l).length : Int))) then
 (bif (ibB s1.i ((l).length : Int)) then
 ((Fref04_MayOp N (⟨((lget l s1.i default).Stamp), (lget l s1.i default).Kind, (lget l s1.i default).Node, (lget l s1.i default).Parent, (lget l s1.i default).Name, (lget l s1.i default).Key, (lget l s1.i default).Value⟩ : GOp)).bind fun r3 =>
 (bif (!r3) then
 (some false)
 else
 (next2 ⟨(IntKind.i64.wrap (s1.i + 1))⟩)))
 else none)
 else
 (some ((decide (0 < ((l).length : Int))) && (decide (((l).length : Int) ≤ 4096)))))) ⟨0⟩)
def conref04_ops : Con τ := { args := [.ty 28], L := [], ret := .ty 4, L' := [], R := Bool, dflt := default, F := fun N a b => Fref04_ops N a.1, of := fun r => (r, ()) }
noncomputable def datref04_ops : Dat τ := { D := D0, tbl := tblOf [(131, conref04_MayOp)], lp := lpsOf [(2, lpref04_opsx2)], k0 := 0, mu := [], un := [] }
theorem okref04_ops : ConOk E C 100 conref04_ops :=
  con_ok (D := datref04_ops) ⟨d0Ok, eGood, tblOf_ok ⟨okref04_MayOp, trivial⟩, fun _ => rfl⟩ conref04_ops (fun a b => a) none (fun _ _ => rfl) rfl (fun _ _ h => nomatch h) 1000000 (fn := Try.f100) Try.func100 rfl (by kernel_rfl) (by kernel_rfl) rfl (by intro N a b; kernel_rfl)
structure Sref04_MayEpochx2 where
  i : Int
def tsref04_MayEpochx2 : List Sl := [.k, .k, .j, .sh (.ty 2), .j, .j, .j, .j, .j, .j, .j, .j, .j, .j, .j, .j, .j, .j, .j, .j, .j, .j, .j, .j, .j, .j, .j, .j, .j, .j, .j, .j, .j, .j, .k, .k, .k, .k, .k, .k, .k, .k]
def hsref04_MayEpochx2 : List ESh := [.keep]
def toref04_MayEpochx2 (a : Sl.Ts τ tsref04_MayEpochx2) (b : ESh.Ts τ hsref04_MayEpochx2) : Sref04_MayEpochx2 := ⟨a.2.2.2.1⟩
def otref04_MayEpochx2 (s : Sref04_MayEpochx2) : Sl.Ts τ tsref04_MayEpochx2 := ((), (), (), s.i, (), (), (), (), (), (), (), (), (), (), (), (), (), (), (), (), (), (), (), (), (), (), (), (), (), (), (), (), (), (), (), (), (), (), (), (), (), (), ())
def ohref04_MayEpochx2 (s : Sref04_MayEpochx2) : ESh.Ts τ hsref04_MayEpochx2 := ((), ())
def lpref04_MayEpochx2 : Lp τ := { ts := tsref04_MayEpochx2, hs := hsref04_MayEpochx2, S := Sref04_MayEpochx2, to := toref04_MayEpochx2, ot := otref04_MayEpochx2, oh := ohref04_MayEpochx2, hk := [2], tk := [0, 2], ot_to := fun _ _ => rfl, oh_to := fun _ _ => rfl }
def Fref04_MayEpoch (N : Nat) (e : GEpoch) : Option (Bool) :=
 (iter N (fun (s1 : Sref04_MayEpochx2) next2 =>
 (bif (decide (s1.i < 8)) then
 (bif (ibB s1.i 8) then
 (bif (!(!(decide ((vget e.States ((s1.i).toNat) default) < 0))) || (ibB s1.i 8)) then
 (bif (!(!((decide ((vget e.States ((s1.i).toNat) default) < 0)) || (decide (3 < (vget e.States ((s1.i).toNat) default))))) || (ibB s1.i 8)) then
 (bif (!(!(((decide ((vget e.States ((s1.i).toNat) default) < 0)) || (decide (3 < (vget e.States ((s1.i).toNat) default)))) || (decide ((vget e.Sponsor ((s1.i).toNat) default) < (-1))))) || (ibB s1.i 8)) then
 (bif ((((decide ((vget e.States ((s1.i).toNat) default) < 0)) || (decide (3 < (vget e.States ((s1.i).toNat) default)))) || (decide ((vget e.Sponsor ((s1.i).toNat) default) < (-1)))) || (decide (8 ≤ (vget e.Sponsor ((s1.i).toNat) default)))) then
 (some false)
 else
 (next2 ⟨(IntKind.i64.wrap (s1.i + 1))⟩))
 else none)
 else none)
 else none)
 else none)
 else
 ((Fref04_count N e.Number).bind fun r3 =>
 ((bif r3 then Fref04_MayVector N e.Seals else some default).bind fun r4 =>
 (some (r3 && r4)))))) ⟨0⟩)
def conref04_MayEpoch : Con τ := { args := [.ty 26], L := [], ret := .ty 4, L' := [], R := Bool, dflt := default, F := fun N a b => Fref04_MayEpoch N a.1, of := fun r => (r, ()) }
noncomputable def datref04_MayEpoch : Dat τ := { D := D0, tbl := tblOf [(95, conref04_count), (96, conref04_MayVector)], lp := lpsOf [(2, lpref04_MayEpochx2)], k0 := 0, mu := [], un := [] }
theorem okref04_MayEpoch : ConOk E C 74 conref04_MayEpoch :=
  con_ok (D := datref04_MayEpoch) ⟨d0Ok, eGood, tblOf_ok ⟨okref04_count, ⟨okref04_MayVector, trivial⟩⟩, fun _ => rfl⟩ conref04_MayEpoch (fun a b => a) none (fun _ _ => rfl) rfl (fun _ _ h => nomatch h) 1000000 (fn := Try.f74) Try.func74 rfl (by kernel_rfl) (by kernel_rfl) rfl (by intro N a b; kernel_rfl)
def Fref04_MayPart (N : Nat) (p : GPart) : Option (Bool) :=
 ((Fref04_count N p.Snap).bind fun r1 =>
 (some (((((r1 && (decide (1 ≤ p.Many))) && (decide (p.Many ≤ 4096))) && (decide (0 ≤ p.Index))) && (decide (p.Index < p.Many))) && (decide (((p.Data).length : Int) ≤ 16384)))))
def conref04_MayPart : Con τ := { args := [.ty 51], L := [], ret := .ty 4, L' := [], R := Bool, dflt := default, F := fun N a b => Fref04_MayPart N a.1, of := fun r => (r, ()) }
noncomputable def datref04_MayPart : Dat τ := { D := D0, tbl := tblOf [(95, conref04_count)], lp := lpsOf [], k0 := 0, mu := [], un := [] }
theorem okref04_MayPart : ConOk E C 81 conref04_MayPart :=
  con_ok (D := datref04_MayPart) ⟨d0Ok, eGood, tblOf_ok ⟨okref04_count, trivial⟩, fun _ => rfl⟩ conref04_MayPart (fun a b => a) none (fun _ _ => rfl) rfl (fun _ _ h => nomatch h) 1000000 (fn := Try.f81) Try.func81 rfl (by kernel_rfl) (by kernel_rfl) rfl (by intro N a b; kernel_rfl)
def Fref04_MayEntry (N : Nat) (e : GEntry) : Option (Bool) :=
 ((Fref04_bare N e).bind fun r1 =>
 ((bif (!(!r1.2)) then Fref04_SameEntry N e r1.1 else some default).bind fun r2 =>
 (bif ((!r1.2) || (!r2)) then
 (some false)
 else
 (bif (e.Kind == 1) then
 ((Fref04_count N e.Session).bind fun r3 =>
 ((bif (r3 && (decide (0 < e.Session))) then Fref04_count N e.Request else some default).bind fun r4 =>
 ((bif (((r3 && (decide (0 < e.Session))) && r4) && (decide (0 < e.Request))) then Fref04_MayOp N e.Op else some default).bind fun r5 =>
 (some ((((r3 && (decide (0 < e.Session))) && r4) && (decide (0 < e.Request))) && r5)))))
 else
 (bif (e.Kind == 2) then
 ((Fref04_site N e.Origin).bind fun r6 =>
 ((bif r6 then Fref04_count N e.Seq else some default).bind fun r7 =>
 ((bif (r6 && r7) then Fref04_ops N e.Ops else some default).bind fun r8 =>
 (some ((r6 && r7) && r8)))))
 else
 (bif (e.Kind == 3) then
 ((Fref04_MayEpoch N e.Epoch).bind fun r9 =>
 (some r9))
 else
 (bif (e.Kind == 4) then
 ((Fref04_count N e.Seq).bind fun r10 =>
 ((bif r10 then Fref04_site N e.From else some default).bind fun r11 =>
 ((bif (r10 && r11) then Fref04_MayVector N e.Vector_ else some default).bind fun r12 =>
 ((bif ((r10 && r11) && r12) then Fref04_count N e.Clock else some default).bind fun r13 =>
 (some (((r10 && r11) && r12) && r13))))))
 else
 (bif (e.Kind == 5) then
 ((Fref04_MayPart N e.Part).bind fun r14 =>
 (some r14))
 else
 ((Fref04_site N e.Site).bind fun r15 =>
 ((bif r15 then Fref04_site N e.Sponsor else some default).bind fun r16 =>
 ((bif (r15 && r16) then Fref04_count N e.Length else some default).bind fun r17 =>
 (some ((r15 && r16) && r17)))))))))))))
def conref04_MayEntry : Con τ := { args := [.ty 53], L := [], ret := .ty 4, L' := [], R := Bool, dflt := default, F := fun N a b => Fref04_MayEntry N a.1, of := fun r => (r, ()) }
noncomputable def datref04_MayEntry : Dat τ := { D := D0, tbl := tblOf [(130, conref04_bare), (27, conref04_SameEntry), (95, conref04_count), (131, conref04_MayOp), (99, conref04_site), (100, conref04_ops), (74, conref04_MayEpoch), (96, conref04_MayVector), (81, conref04_MayPart)], lp := lpsOf [], k0 := 0, mu := [], un := [] }
theorem okref04_MayEntry : ConOk E C 98 conref04_MayEntry :=
  con_ok (D := datref04_MayEntry) ⟨d0Ok, eGood, tblOf_ok ⟨okref04_bare, ⟨okref04_SameEntry, ⟨okref04_count, ⟨okref04_MayOp, ⟨okref04_site, ⟨okref04_ops, ⟨okref04_MayEpoch, ⟨okref04_MayVector, ⟨okref04_MayPart, trivial⟩⟩⟩⟩⟩⟩⟩⟩⟩, fun _ => rfl⟩ conref04_MayEntry (fun a b => a) none (fun _ _ => rfl) rfl (fun _ _ h => nomatch h) 1000000 (fn := Try.f98) Try.func98 rfl (by kernel_rfl) (by kernel_rfl) rfl (by intro N a b; kernel_rfl)
structure Sref04_listx2 where
  i : Int
def tsref04_listx2 : List Sl := [.k, .k, .k, .k, .k, .k, .j, .sh (.ty 2), .j, .j, .j, .j, .j, .j, .j, .j, .j, .j, .j, .j, .j, .j, .j, .j, .j, .j, .j, .j, .j, .j, .j, .j, .j, .j, .j, .j, .j, .j, .j, .k, .k, .k, .k, .k, .k, .k, .k, .k, .k]
def hsref04_listx2 : List ESh := []
def toref04_listx2 (a : Sl.Ts τ tsref04_listx2) (b : ESh.Ts τ hsref04_listx2) : Sref04_listx2 := ⟨a.2.2.2.2.2.2.2.1⟩
def otref04_listx2 (s : Sref04_listx2) : Sl.Ts τ tsref04_listx2 := ((), (), (), (), (), (), (), s.i, (), (), (), (), (), (), (), (), (), (), (), (), (), (), (), (), (), (), (), (), (), (), (), (), (), (), (), (), (), (), (), (), (), (), (), (), (), (), (), (), (), ())
def ohref04_listx2 (s : Sref04_listx2) : ESh.Ts τ hsref04_listx2 := ()
def lpref04_listx2 : Lp τ := { ts := tsref04_listx2, hs := hsref04_listx2, S := Sref04_listx2, to := toref04_listx2, ot := otref04_listx2, oh := ohref04_listx2, hk := [], tk := [], ot_to := fun _ _ => rfl, oh_to := fun _ _ => rfl }
def Fref04_list (N : Nat) (l : List (GSlotted)) (least : Int) (most : Int) : Option (Bool) :=
 (iter N (fun (s1 : Sref04_listx2) next2 =>
 (bif (decide (s1.i < ((l).length : Int))) then
 (bif (ibB s1.i ((l).length : Int)) then
 ((Fref04_count N ((lget l s1.i default).Slot)).bind fun r3 =>
 (bif (!(!(!r3)) || (ibB s1.i ((l).length : Int))) then
 ((bif (!(!r3)) then Fref04_ballot N ((lget l s1.i default).Ballot) else some default).bind fun r4 =>
 (bif (!(!((!r3) || (!r4))) || (ibB s1.i ((l).length : Int))) then
 ((bif (!((!r3) || (!r4))) then Fref04_MayEntry N (⟨((lget l s1.i default).Entry).Kind, ((lget l s1.i default).Entry).Session, ((lget l s1.i default).Entry).Request, (⟨((((lget l s1.i default).Entry).Op).Stamp), (((lget l s1.i default).Entry).Op).Kind, (((lget l s1.i default).Entry).Op).Node, (((lget l s1.i default).Entry).Op).Parent, (((lget l s1.i default).Entry).Op).Name, (((lget l s1.i default).Entry).Op).Key, (((lget l s1.i default).Entry).Op).Value⟩ : GOp), ((lget l s1.i default).Entry).Origin, ((lget l s1.i default).Entry).Seq, ((lget l s1.i default).Entry).Ops, (((lget l s1.i default).Entry).Epoch), ((lget l s1.i default).Entry).From, ((lget l s1.i default).Entry).Vector_, ((lget l s1.i default).Entry).Clock, (((lget l s1.i default).Entry).Part), ((lget l s1.i default).Entry).Site, ((lget l s1.i default).Entry).Sponsor, ((lget l s1.i default).Entry).Length⟩ : GEntry) else some default).bind fun r5 =>
 (bif (((!r3) || (!r4)) || (!r5)) then
 (some false)
 else
 (next2 ⟨(IntKind.i64.wrap (s1.i + 1))⟩)))
 else none))
 else none))
 else none)
 else
 (some ((decide (least ≤ ((l).length : Int))) && (decide (((l).length : Int) ≤ most)))))) ⟨0⟩)
def conref04_list : Con τ := { args := [.ty 48, .ty 3, .ty 3], L := [], ret := .ty 4, L' := [], R := Bool, dflt := default, F := fun N a b => Fref04_list N a.1 a.2.1 a.2.2.1, of := fun r => (r, ()) }
noncomputable def datref04_list : Dat τ := { D := D0, tbl := tblOf [(95, conref04_count), (94, conref04_ballot), (98, conref04_MayEntry)], lp := lpsOf [(2, lpref04_listx2)], k0 := 0, mu := [], un := [] }
theorem okref04_list : ConOk E C 97 conref04_list :=
  con_ok (D := datref04_list) ⟨d0Ok, eGood, tblOf_ok ⟨okref04_count, ⟨okref04_ballot, ⟨okref04_MayEntry, trivial⟩⟩⟩, fun _ => rfl⟩ conref04_list (fun a b => a) none (fun _ _ => rfl) rfl (fun _ _ h => nomatch h) 1000000 (fn := Try.f97) Try.func97 rfl (by kernel_rfl) (by kernel_rfl) rfl (by intro N a b; kernel_rfl)
def Fref04_MayMsg (N : Nat) (m : GMsg) : Option (Bool) :=
 ((Fref04_plain N m).bind fun r1 =>
 ((bif (!(!r1.2)) then Fref04_SameMsg N m r1.1 else some default).bind fun r2 =>
 ((bif (!((!r1.2) || (!r2))) then Fref04_MayAddr N m.From else some default).bind fun r3 =>
 ((bif (!(((!r1.2) || (!r2)) || (!r3))) then Fref04_MayAddr N m.To else some default).bind fun r4 =>
 (bif ((((!r1.2) || (!r2)) || (!r3)) || (!r4)) then
 (some false)
 else
 ((Fref04_ballot N m.Ballot).bind fun r5 =>
 ((bif (!(!r5)) then Fref04_count N m.Slot else some default).bind fun r6 =>
 ((bif (!((!r5) || (!r6))) then Fref04_count N m.Number else some default).bind fun r7 =>
 ((bif (!(((!r5) || (!r6)) || (!r7))) then Fref04_MayVector N m.Vector_ else some default).bind fun r8 =>
 ((bif (!((((!r5) || (!r6)) || (!r7)) || (!r8))) then Fref04_count N m.Clock else some default).bind fun r9 =>
 (bif (((((!r5) || (!r6)) || (!r7)) || (!r8)) || (!r9)) then
 (some false)
 else
 (bif (m.Kind == 2) then
 ((Fref04_list N m.List_ 0 4096).bind fun r10 =>
 (some r10))
 else
 (bif (m.Kind == 3) then
 ((Fref04_list N m.List_ 1 1).bind fun r11 =>
 (some r11))
 else
 (bif (m.Kind == 6) then
 ((Fref04_list N m.List_ 1 4096).bind fun r12 =>
 (some r12))
 else
 (bif (m.Kind == 9) then
 ((Fref04_MayEntry N m.Entry).bind fun r13 =>
 (some r13))
 else
 (bif (m.Kind == 11) then
 ((Fref04_site N m.Origin).bind fun r14 =>
 ((bif r14 then Fref04_ops N m.Ops else some default).bind fun r15 =>
 (some (r14 && r15))))
 else
 (bif (m.Kind == 12) then
 ((Fref04_MayEpoch N m.Epoch).bind fun r16 =>
 (some r16))
 else
 (bif (m.Kind == 13) then
 (bif (m.Kind == 13) then
 ((Fref04_MayPart N m.Part).bind fun r17 =>
 (some r17))
 else
 (some true))
 else
 (bif (m.Kind == 15) then
 ((Fref04_MayPart N m.Part).bind fun r18 =>
 (some r18))
 else
 (some true))))))))))))))))))))
def conref04_MayMsg : Con τ := { args := [.ty 55], L := [], ret := .ty 4, L' := [], R := Bool, dflt := default, F := fun N a b => Fref04_MayMsg N a.1, of := fun r => (r, ()) }
noncomputable def datref04_MayMsg : Dat τ := { D := D0, tbl := tblOf [(93, conref04_plain), (19, conref04_SameMsg), (38, conref04_MayAddr), (94, conref04_ballot), (95, conref04_count), (96, conref04_MayVector), (97, conref04_list), (98, conref04_MayEntry), (99, conref04_site), (100, conref04_ops), (74, conref04_MayEpoch), (81, conref04_MayPart)], lp := lpsOf [], k0 := 0, mu := [], un := [] }
theorem okref04_MayMsg : ConOk E C 51 conref04_MayMsg :=
  con_ok (D := datref04_MayMsg) ⟨d0Ok, eGood, tblOf_ok ⟨okref04_plain, ⟨okref04_SameMsg, ⟨okref04_MayAddr, ⟨okref04_ballot, ⟨okref04_count, ⟨okref04_MayVector, ⟨okref04_list, ⟨okref04_MayEntry, ⟨okref04_site, ⟨okref04_ops, ⟨okref04_MayEpoch, ⟨okref04_MayPart, trivial⟩⟩⟩⟩⟩⟩⟩⟩⟩⟩⟩⟩, fun _ => rfl⟩ conref04_MayMsg (fun a b => a) none (fun _ _ => rfl) rfl (fun _ _ h => nomatch h) 1000000 (fn := Try.f51) Try.func51 rfl (by kernel_rfl) (by kernel_rfl) rfl (by intro N a b; kernel_rfl)
def Fref04_CloneEntry (N : Nat) (e : GEntry) : Option (GEntry) :=
 (bif (lenB ((e.Ops).length) 88) then
 (bif (lenB ((e.Part.Data).length) 1) then
 (some e)
 else none)
 else none)
def conref04_CloneEntry : Con τ := { args := [.ty 53], L := [], ret := .ty 53, L' := [], R := GEntry, dflt := default, F := fun N a b => Fref04_CloneEntry N a.1, of := fun r => (r, ()) }
noncomputable def datref04_CloneEntry : Dat τ := { D := D0, tbl := tblOf [], lp := lpsOf [], k0 := 0, mu := [], un := [] }
theorem okref04_CloneEntry : ConOk E C 53 conref04_CloneEntry :=
  con_ok (D := datref04_CloneEntry) ⟨d0Ok, eGood, tblOf_ok trivial, fun _ => rfl⟩ conref04_CloneEntry (fun a b => a) none (fun _ _ => rfl) rfl (fun _ _ h => nomatch h) 1000000 (fn := Try.f53) Try.func53 rfl (by kernel_rfl) (by kernel_rfl) rfl (by intro N a b; kernel_rfl)
structure Sref04_CloneMsgx6 where
  l : List (GSlotted)
  i : Int
def tsref04_CloneMsgx6 : List Sl := [.k, .k, .k, .sh (.own 101 4), .sh (.ty 2), .j, .k, .k, .k, .k, .k, .k, .k, .k, .k, .k, .k, .k, .k, .k, .j, .j, .j, .j, .j, .j, .j, .j, .j, .j, .j, .j, .j, .j, .j, .j, .j, .j, .j, .j, .k, .k, .k]
def hsref04_CloneMsgx6 : List ESh := [.keep, .keep, .keep, .keep, .tail]
def toref04_CloneMsgx6 (a : Sl.Ts τ tsref04_CloneMsgx6) (b : ESh.Ts τ hsref04_CloneMsgx6) : Sref04_CloneMsgx6 := ⟨a.2.2.2.1, a.2.2.2.2.1⟩
def otref04_CloneMsgx6 (s : Sref04_CloneMsgx6) : Sl.Ts τ tsref04_CloneMsgx6 := ((), (), (), s.l, s.i, (), (), (), (), (), (), (), (), (), (), (), (), (), (), (), (), (), (), (), (), (), (), (), (), (), (), (), (), (), (), (), (), (), (), (), (), (), (), ())
def ohref04_CloneMsgx6 (s : Sref04_CloneMsgx6) : ESh.Ts τ hsref04_CloneMsgx6 := ((), (), (), (), (), ())
def lpref04_CloneMsgx6 : Lp τ := { ts := tsref04_CloneMsgx6, hs := hsref04_CloneMsgx6, S := Sref04_CloneMsgx6, to := toref04_CloneMsgx6, ot := otref04_CloneMsgx6, oh := ohref04_CloneMsgx6, hk := [2, 2, 5, 5], tk := [0, 2, 3, 0, 0, 0, 2, 0, 0, 2, 2, 0, 0, 2, 2, 2, 0, 0, 2, 2], ot_to := fun _ _ => rfl, oh_to := fun _ _ => rfl }
def Fref04_CloneMsg (N : Nat) (m : GMsg) : Option (GMsg) :=
 ((Fref04_CloneEntry N m.Entry).bind fun r1 =>
 (bif (lenB ((m.Ops).length) 88) then
 (bif (lenB ((m.Part.Data).length) 1) then
 (iter N (fun (s2 : Sref04_CloneMsgx6) next3 =>
 (bif (decide (s2.i < ((m.List_).length : Int))) then
 (bif (ibB s2.i ((m.List_).length : Int)) then
 ((Fref04_CloneEntry N (⟨((lget m.List_ s2.i default).Entry).Kind, ((lget m.List_ s2.i default).Entry).Session, ((lget m.List_ s2.i default).Entry).Request, (⟨((((lget m.List_ s2.i default).Entry).Op).Stamp), (((lget m.List_ s2.i default).Entry).Op).Kind, (((lget m.List_ s2.i default).Entry).Op).Node, (((lget m.List_ s2.i default).Entry).Op).Parent, (((lget m.List_ s2.i default).Entry).Op).Name, (((lget m.List_ s2.i default).Entry).Op).Key, (((lget m.List_ s2.i default).Entry).Op).Value⟩ : GOp), ((lget m.List_ s2.i default).Entry).Origin, ((lget m.List_ s2.i default).Entry).Seq, ((lget m.List_ s2.i default).Entry).Ops, (((lget m.List_ s2.i default).Entry).Epoch), ((lget m.List_ s2.i default).Entry).From, ((lget m.List_ s2.i default).Entry).Vector_, ((lget m.List_ s2.i default).Entry).Clock, (((lget m.List_ s2.i default).Entry).Part), ((lget m.List_ s2.i default).Entry).Site, ((lget m.List_ s2.i default).Entry).Sponsor, ((lget m.List_ s2.i default).Entry).Length⟩ : GEntry)).bind fun r4 =>
 (bif (lenB ((s2.l).length + ([(⟨(lget m.List_ s2.i default).Slot, ((lget m.List_ s2.i default).Ballot), r4⟩ : GSlotted)]).length) 528) then
 (next3 ⟨(s2.l ++ [(⟨(lget m.List_ s2.i default).Slot, ((lget m.List_ s2.i default).Ballot), r4⟩ : GSlotted)]), (IntKind.i64.wrap (s2.i + 1))⟩)
 else none))
 else none)
 else
 (some (⟨m.Kind, m.From, m.To, m.Ballot, m.Slot, s2.l, r1, m.Number, m.Vector_, m.Clock, m.Origin, m.Ops, m.Epoch, m.Part⟩ : GMsg)))) ⟨[], 0⟩)
 else none)
 else none))
def conref04_CloneMsg : Con τ := { args := [.ty 55], L := [], ret := .ty 55, L' := [], R := GMsg, dflt := default, F := fun N a b => Fref04_CloneMsg N a.1, of := fun r => (r, ()) }
noncomputable def datref04_CloneMsg : Dat τ := { D := D0, tbl := tblOf [(53, conref04_CloneEntry)], lp := lpsOf [(6, lpref04_CloneMsgx6)], k0 := 0, mu := [], un := [] }
theorem okref04_CloneMsg : ConOk E C 31 conref04_CloneMsg :=
  con_ok (D := datref04_CloneMsg) ⟨d0Ok, eGood, tblOf_ok ⟨okref04_CloneEntry, trivial⟩, fun _ => rfl⟩ conref04_CloneMsg (fun a b => a) none (fun _ _ => rfl) rfl (fun _ _ h => nomatch h) 1000000 (fn := Try.f31) Try.func31 rfl (by kernel_rfl) (by kernel_rfl) rfl (by intro N a b; kernel_rfl)
def Fref16_site (N : Nat) (n : Int) : Option (Bool) :=
 (some ((decide (0 ≤ n)) && (decide (n < 8))))
def conref16_site : Con τ := { args := [.ty 3], L := [], ret := .ty 4, L' := [], R := Bool, dflt := default, F := fun N a b => Fref16_site N a.1, of := fun r => (r, ()) }
noncomputable def datref16_site : Dat τ := { D := D0, tbl := tblOf [], lp := lpsOf [], k0 := 0, mu := [], un := [] }
theorem okref16_site : ConOk E C 35 conref16_site :=
  con_ok (D := datref16_site) ⟨d0Ok, eGood, tblOf_ok trivial, fun _ => rfl⟩ conref16_site (fun a b => a) none (fun _ _ => rfl) rfl (fun _ _ h => nomatch h) 1000000 (fn := Try.f35) Try.func35 rfl (by kernel_rfl) (by kernel_rfl) rfl (by intro N a b; kernel_rfl)
def Fref16_Entry (N : Nat) (m : GMsg) : Option (GEntry × Bool) :=
 ((Fref04_MayMsg N m).bind fun r1 =>
 (bif (!r1) then
 (some ((⟨0, 0, 0, (⟨(⟨0, 0⟩ : GStamp), 0, 0, 0, [], [], []⟩ : GOp), 0, 0, [], (⟨0, (Vector.replicate 8 (default : Int)), (Vector.replicate 8 (default : Int)), (Vector.replicate 8 (default : Int))⟩ : GEpoch), 0, (Vector.replicate 8 (default : Int)), 0, (⟨0, 0, 0, []⟩ : GPart), 0, 0, 0⟩ : GEntry), false))
 else
 ((Fref04_CloneMsg N m).bind fun r2 =>
 (bif (r2.Kind == 10) then
 ((Fref16_site N r2.From.Group).bind fun r3 =>
 (bif r3 then
 (some ((⟨4, 0, 0, (⟨(⟨0, 0⟩ : GStamp), 0, 0, 0, [], [], []⟩ : GOp), 0, r2.Number, [], (⟨0, (Vector.replicate 8 (default : Int)), (Vector.replicate 8 (default : Int)), (Vector.replicate 8 (default : Int))⟩ : GEpoch), r2.From.Group, r2.Vector_, r2.Clock, (⟨0, 0, 0, []⟩ : GPart), 0, 0, 0⟩ : GEntry), true))
 else
 (some ((⟨0, 0, 0, (⟨(⟨0, 0⟩ : GStamp), 0, 0, 0, [], [], []⟩ : GOp), 0, 0, [], (⟨0, (Vector.replicate 8 (default : Int)), (Vector.replicate 8 (default : Int)), (Vector.replicate 8 (default : Int))⟩ : GEpoch), 0, (Vector.replicate 8 (default : Int)), 0, (⟨0, 0, 0, []⟩ : GPart), 0, 0, 0⟩ : GEntry), false))))
 else
 (bif (r2.Kind == 11) then
 ((Fref16_site N r2.From.Group).bind fun r4 =>
 (bif r4 then
 (some ((⟨2, 0, 0, (⟨(⟨0, 0⟩ : GStamp), 0, 0, 0, [], [], []⟩ : GOp), r2.Origin, r2.Slot, r2.Ops, (⟨0, (Vector.replicate 8 (default : Int)), (Vector.replicate 8 (default : Int)), (Vector.replicate 8 (default : Int))⟩ : GEpoch), 0, (Vector.replicate 8 (default : Int)), 0, (⟨0, 0, 0, []⟩ : GPart), 0, 0, 0⟩ : GEntry), true))
 else
 (some ((⟨0, 0, 0, (⟨(⟨0, 0⟩ : GStamp), 0, 0, 0, [], [], []⟩ : GOp), 0, 0, [], (⟨0, (Vector.replicate 8 (default : Int)), (Vector.replicate 8 (default : Int)), (Vector.replicate 8 (default : Int))⟩ : GEpoch), 0, (Vector.replicate 8 (default : Int)), 0, (⟨0, 0, 0, []⟩ : GPart), 0, 0, 0⟩ : GEntry), false))))
 else
 (bif (r2.Kind == 12) then
 (some ((⟨3, 0, 0, (⟨(⟨0, 0⟩ : GStamp), 0, 0, 0, [], [], []⟩ : GOp), 0, 0, [], r2.Epoch, 0, (Vector.replicate 8 (default : Int)), 0, (⟨0, 0, 0, []⟩ : GPart), 0, 0, 0⟩ : GEntry), true))
 else
 (bif (r2.Kind == 13) then
 (some ((⟨5, 0, 0, (⟨(⟨0, 0⟩ : GStamp), 0, 0, 0, [], [], []⟩ : GOp), 0, 0, [], (⟨0, (Vector.replicate 8 (default : Int)), (Vector.replicate 8 (default : Int)), (Vector.replicate 8 (default : Int))⟩ : GEpoch), 0, (Vector.replicate 8 (default : Int)), 0, r2.Part, 0, 0, 0⟩ : GEntry), true))
 else
 (some ((⟨0, 0, 0, (⟨(⟨0, 0⟩ : GStamp), 0, 0, 0, [], [], []⟩ : GOp), 0, 0, [], (⟨0, (Vector.replicate 8 (default : Int)), (Vector.replicate 8 (default : Int)), (Vector.replicate 8 (default : Int))⟩ : GEpoch), 0, (Vector.replicate 8 (default : Int)), 0, (⟨0, 0, 0, []⟩ : GPart), 0, 0, 0⟩ : GEntry), false)))))))))
def conref16_Entry : Con τ := { args := [.ty 55], L := [], ret := .tup [.ty 53, .ty 4], L' := [], R := GEntry × Bool, dflt := (default, default), F := fun N a b => Fref16_Entry N a.1, of := fun r => ((r.1, r.2, ()), ()) }
noncomputable def datref16_Entry : Dat τ := { D := D0, tbl := tblOf [(51, conref04_MayMsg), (31, conref04_CloneMsg), (35, conref16_site)], lp := lpsOf [], k0 := 0, mu := [], un := [] }
theorem okref16_Entry : ConOk E C 26 conref16_Entry :=
  con_ok (D := datref16_Entry) ⟨d0Ok, eGood, tblOf_ok ⟨okref04_MayMsg, ⟨okref04_CloneMsg, ⟨okref16_site, trivial⟩⟩⟩, fun _ => rfl⟩ conref16_Entry (fun a b => (a.1, a.2.1)) none (fun _ _ => rfl) rfl (fun _ _ h => nomatch h) 1000000 (fn := Try.f26) Try.func26 rfl (by kernel_rfl) (by kernel_rfl) rfl (by intro N a b; kernel_rfl)
def Fexchange_peers (N : Nat) (s : GSnap) : Option (GSnap) :=
 (some s)
def conexchange_peers : Con τ := { args := [.ty 34], L := [], ret := .fn 65 [.ptr 0 []], L' := [.box (.ty 34)], R := GSnap, dflt := default, F := fun N a b => Fexchange_peers N a.1, of := fun r => (((), ()), (r, ())) }
noncomputable def datexchange_peers : Dat τ := { D := D0, tbl := tblOf [], lp := lpsOf [], k0 := 0, mu := [], un := [] }
theorem okexchange_peers : ConOk E C 39 conexchange_peers :=
  con_ok (D := datexchange_peers) ⟨d0Ok, eGood, tblOf_ok trivial, fun _ => rfl⟩ conexchange_peers (fun a b => b.1) none (fun _ _ => rfl) rfl (fun _ _ h => nomatch h) 1000000 (fn := Try.f39) Try.func39 rfl (by kernel_rfl) (by kernel_rfl) rfl (by intro N a b; kernel_rfl)
def Fexchange_member (N : Nat) (s : GSnap) (i : Int) : Option (Bool) :=
 ((Fexchange_site N i).bind fun r1 =>
 (bif (!r1 || (ibB i 8)) then
 (bif (!(r1 && (!((vget s.Epoch.States ((i).toNat) default) == 1))) || (ibB i 8)) then
 (some (r1 && (((vget s.Epoch.States ((i).toNat) default) == 1) || ((vget s.Epoch.States ((i).toNat) default) == 2))))
 else none)
 else none))
def conexchange_member : Con τ := { args := [.ty 34, .ty 3], L := [], ret := .ty 4, L' := [], R := Bool, dflt := default, F := fun N a b => Fexchange_member N a.1 a.2.1, of := fun r => (r, ()) }
noncomputable def datexchange_member : Dat τ := { D := D0, tbl := tblOf [(33, conexchange_site)], lp := lpsOf [], k0 := 0, mu := [], un := [] }
theorem okexchange_member : ConOk E C 52 conexchange_member :=
  con_ok (D := datexchange_member) ⟨d0Ok, eGood, tblOf_ok ⟨okexchange_site, trivial⟩, fun _ => rfl⟩ conexchange_member (fun a b => a) none (fun _ _ => rfl) rfl (fun _ _ h => nomatch h) 1000000 (fn := Try.f52) Try.func52 rfl (by kernel_rfl) (by kernel_rfl) rfl (by intro N a b; kernel_rfl)
def Fexchange_Peers_3e4 (N : Nat) (x : Int) (s : GSnap) (x2 : GSnap) (b1 : List (Int)) : Option (GSnap × GSnap × (List (Int))) :=
 (bif (lenB ((b1).length + ([x]).length) 8) then
 (some (s, x2, (b1 ++ [x])))
 else none)
def eLexchange_Peers_3e4 : List ESh := [.rcd 17 4 [.ty 33, .junk, .junk, .ptr 1 [], .junk, .ty 33, .junk, .junk, .junk, .junk, .junk, .junk, .junk], .box (.own 3 2), .tail]
def eMexchange_Peers_3e4 : List ESh := [.rcd 17 4 [.ty 33, .junk, .junk, .ptr 1 [], .junk, .ty 33, .junk, .junk, .junk, .junk, .junk, .junk, .junk], .box (.own 3 3), .dead, .tail]
def conexchange_Peers_3e4 : Con τ := { args := [.yld 0, .ty 2], L := eLexchange_Peers_3e4, ret := .bo true, L' := eMexchange_Peers_3e4, R := GSnap × GSnap × (List (Int)), dflt := (default, default, default), F := fun N a b => Fexchange_Peers_3e4 N a.2.1 b.1.1 b.1.2.2.2.2.2.1 b.2.1, of := fun r => ((), ((r.1, (), (), (), (), r.2.1, (), (), (), (), (), (), (), ()), r.2.2, (), (), ())) }
noncomputable def datexchange_Peers_3e4 : Dat τ := { D := D0, tbl := tblOf [], lp := lpsOf [], k0 := 3, mu := [], un := [], fid := 17 }
theorem okexchange_Peers_3e4 : ConOk E C yieldF conexchange_Peers_3e4 :=
  con_round (D := datexchange_Peers_3e4) ⟨d0Ok, eGood, tblOf_ok trivial, fun _ => rfl⟩ (f := 17) (k := 4) (ps := [7]) (by kernel_rfl) rfl (fun a b => (b.1.1, b.1.2.2.2.2.2.1, b.2.1)) none (fun _ _ => rfl) rfl (fun _ _ h => nomatch h) 1000000 (by kernel_rfl) (by kernel_rfl) (by kernel_rfl) (by kernel_rfl) rfl (by intro l N a b; kernel_rfl)
structure Sexchange_peers_1_dfax1 where
  t4 : Int
  z0 : GSnap
  z02 : GSnap
  b2 : List (Int)
def tsexchange_peers_1_dfax1 : List Sl := [.k, .k, .k, .j, .sh (.ty 2), .j, .j, .j, .j, .j, .j, .j, .j, .j, .j, .j, .j, .j, .j, .j, .j, .j, .j]
def hsexchange_peers_1_dfax1 : List ESh := [.rcd 17 4 [.ty 33, .junk, .junk, .ptr 2 [], .junk, .ty 33, .junk, .junk, .junk, .junk, .junk, .junk, .junk], .keep, .box (.own 3 3), .tail]
def toexchange_peers_1_dfax1 (a : Sl.Ts τ tsexchange_peers_1_dfax1) (b : ESh.Ts τ hsexchange_peers_1_dfax1) : Sexchange_peers_1_dfax1 := ⟨a.2.2.2.2.1, b.1.1, b.1.2.2.2.2.2.1, b.2.2.1⟩
def otexchange_peers_1_dfax1 (s : Sexchange_peers_1_dfax1) : Sl.Ts τ tsexchange_peers_1_dfax1 := ((), (), (), (), s.t4, (), (), (), (), (), (), (), (), (), (), (), (), (), (), (), (), (), (), ())
def ohexchange_peers_1_dfax1 (s : Sexchange_peers_1_dfax1) : ESh.Ts τ hsexchange_peers_1_dfax1 := ((s.z0, (), (), (), (), s.z02, (), (), (), (), (), (), (), ()), (), s.b2, (), ())
def lpexchange_peers_1_dfax1 : Lp τ := { ts := tsexchange_peers_1_dfax1, hs := hsexchange_peers_1_dfax1, S := Sexchange_peers_1_dfax1, to := toexchange_peers_1_dfax1, ot := otexchange_peers_1_dfax1, oh := ohexchange_peers_1_dfax1, hk := [6, 2, 2], tk := [0, 3], ot_to := fun _ _ => rfl, oh_to := fun _ _ => rfl }
def Fexchange_peers_1_dfa (N : Nat) (z0 : GSnap) (z02 : GSnap) (b1 : GSnap) : Option (GSnap × GSnap × GSnap × (List (Int))) :=
 (iter N (fun (s1 : Sexchange_peers_1_dfax1) next2 =>
 (bif (decide (s1.t4 < 8)) then
 ((bif (!(s1.t4 == b1.Site)) then Fexchange_member N b1 s1.t4 else some default).bind fun r3 =>
 (bif ((!(s1.t4 == b1.Site)) && r3) then
 ((Fexchange_Peers_3e4 N s1.t4 s1.z0 s1.z02 s1.b2).bind fun r4 =>
 (bif (((!(s1.t4 == b1.Site)) && r3) && false) then
 (some (r4.1, r4.2.1, b1, r4.2.2))
 else
 (next2 ⟨(IntKind.i64.wrap (s1.t4 + 1)), r4.1, r4.2.1, r4.2.2⟩)))
 else
 (next2 ⟨(IntKind.i64.wrap (s1.t4 + 1)), s1.z0, s1.z02, s1.b2⟩)))
 else
 (some (s1.z0, s1.z02, b1, s1.b2)))) ⟨0, z0, z02, []⟩)
def eLexchange_peers_1_dfa : List ESh := [.rcd 17 4 [.ty 33, .junk, .junk, .ptr 2 [], .junk, .ty 33, .junk, .junk, .junk, .junk, .junk, .junk, .junk], .box (.ty 34), .box (.nil .slice)]
def eMexchange_peers_1_dfa : List ESh := [.rcd 17 4 [.ty 33, .junk, .junk, .ptr 2 [], .junk, .ty 33, .junk, .junk, .junk, .junk, .junk, .junk, .junk], .box (.ty 34), .box (.own 3 3), .tail]
def conexchange_peers_1_dfa : Con τ := { args := [.yld 0, .ptr 1 []], L := eLexchange_peers_1_dfa, ret := .tup [], L' := eMexchange_peers_1_dfa, R := GSnap × GSnap × GSnap × (List (Int)), dflt := (default, default, default, default), F := fun N a b => Fexchange_peers_1_dfa N b.1.1 b.1.2.2.2.2.2.1 b.2.1, of := fun r => ((), ((r.1, (), (), (), (), r.2.1, (), (), (), (), (), (), (), ()), r.2.2.1, r.2.2.2, (), ())) }
noncomputable def datexchange_peers_1_dfa : Dat τ := { D := D0, tbl := tblOf [(52, conexchange_member), (1000000, conexchange_Peers_3e4)], lp := lpsOf [(1, lpexchange_peers_1_dfax1)], k0 := 3, mu := [], un := [] }
theorem okexchange_peers_1_dfa : ConOk E C 65 conexchange_peers_1_dfa :=
  con_ok (D := datexchange_peers_1_dfa) ⟨d0Ok, eGood, tblOf_ok ⟨okexchange_member, ⟨okexchange_Peers_3e4, trivial⟩⟩, fun _ => rfl⟩ conexchange_peers_1_dfa (fun a b => (b.1.1, b.1.2.2.2.2.2.1, b.2.1, b.2.2.1)) none (fun _ _ => rfl) rfl (fun _ _ h => nomatch h) 1000000 (fn := Try.f65) Try.func65 rfl (by kernel_rfl) (by kernel_rfl) rfl (by intro N a b; kernel_rfl)
def Fexchange_Peers (N : Nat) (s : GSnap) : Option ((List (Int))) :=
 ((Fexchange_peers N s).bind fun r1 =>
 ((Fexchange_peers_1_dfa N s s r1).bind fun r2 =>
 (some r2.2.2.2)))
def conexchange_Peers : Con τ := { args := [.ty 34], L := [], ret := .ty 60, L' := [], R := (List (Int)), dflt := default, F := fun N a b => Fexchange_Peers N a.1, of := fun r => (r, ()) }
noncomputable def datexchange_Peers : Dat τ := { D := D0, tbl := tblOf [(39, conexchange_peers), (65, conexchange_peers_1_dfa)], lp := lpsOf [], k0 := 0, mu := [], un := [], fid := 17, ex := [] }
theorem okexchange_Peers : ConOk E C 17 conexchange_Peers :=
  con_ok (D := datexchange_Peers) ⟨d0Ok, eGood, tblOf_ok ⟨okexchange_peers, ⟨okexchange_peers_1_dfa, trivial⟩⟩, fun _ => rfl⟩ conexchange_Peers (fun a b => a) none (fun _ _ => rfl) rfl (fun _ _ h => nomatch h) 1000000 (fn := Try.f17) Try.func17 rfl (by kernel_rfl) (by kernel_rfl) rfl (by intro N a b; kernel_rfl) (hsub := ⟨subOk_no (by kernel_rfl), ⟨subOk_no (by kernel_rfl), ⟨⟨subOk_no (by kernel_rfl), (by show SiteP _ _ _ _; unfold SiteP; kernel_rfl)⟩, subOk_no (by kernel_rfl)⟩⟩⟩)
def Fstamp_Check (N : Nat) (s : GStamp) : Option (Bool) :=
 (some ((((decide (1 ≤ s.Time)) && (decide (s.Time ≤ 1099511627776))) && (decide (0 ≤ s.Site))) && (decide (s.Site < 8))))
def constamp_Check : Con τ := { args := [.ty 41], L := [], ret := .ty 4, L' := [], R := Bool, dflt := default, F := fun N a b => Fstamp_Check N a.1, of := fun r => (r, ()) }
noncomputable def datstamp_Check : Dat τ := { D := D0, tbl := tblOf [], lp := lpsOf [], k0 := 0, mu := [], un := [] }
theorem okstamp_Check : ConOk E C 55 constamp_Check :=
  con_ok (D := datstamp_Check) ⟨d0Ok, eGood, tblOf_ok trivial, fun _ => rfl⟩ constamp_Check (fun a b => a) none (fun _ _ => rfl) rfl (fun _ _ h => nomatch h) 1000000 (fn := Try.f55) Try.func55 rfl (by kernel_rfl) (by kernel_rfl) rfl (by intro N a b; kernel_rfl)
def Fstamp_Node (N : Nat) (s : GStamp) : Option (Int) :=
 ((Fstamp_Check N s).bind fun r1 =>
 (bif (!r1) then
 (some 0)
 else
 (some (IntKind.i64.wrap ((IntKind.i64.wrap (16 + (IntKind.i64.wrap (s.Time * 8)))) + s.Site)))))
def constamp_Node : Con τ := { args := [.ty 41], L := [], ret := .ty 2, L' := [], R := Int, dflt := default, F := fun N a b => Fstamp_Node N a.1, of := fun r => (r, ()) }
noncomputable def datstamp_Node : Dat τ := { D := D0, tbl := tblOf [(55, constamp_Check)], lp := lpsOf [], k0 := 0, mu := [], un := [] }
theorem okstamp_Node : ConOk E C 56 constamp_Node :=
  con_ok (D := datstamp_Node) ⟨d0Ok, eGood, tblOf_ok ⟨okstamp_Check, trivial⟩, fun _ => rfl⟩ constamp_Node (fun a b => a) none (fun _ _ => rfl) rfl (fun _ _ h => nomatch h) 1000000 (fn := Try.f56) Try.func56 rfl (by kernel_rfl) (by kernel_rfl) rfl (by intro N a b; kernel_rfl)
def Fstamp_top (N : Nat) (node : Int) : Option (Bool) :=
 (some ((node == 1) || (node == 2)))
def constamp_top : Con τ := { args := [.ty 2], L := [], ret := .ty 4, L' := [], R := Bool, dflt := default, F := fun N a b => Fstamp_top N a.1, of := fun r => (r, ()) }
noncomputable def datstamp_top : Dat τ := { D := D0, tbl := tblOf [], lp := lpsOf [], k0 := 0, mu := [], un := [] }
theorem okstamp_top : ConOk E C 59 constamp_top :=
  con_ok (D := datstamp_top) ⟨d0Ok, eGood, tblOf_ok trivial, fun _ => rfl⟩ constamp_top (fun a b => a) none (fun _ _ => rfl) rfl (fun _ _ h => nomatch h) 1000000 (fn := Try.f59) Try.func59 rfl (by kernel_rfl) (by kernel_rfl) rfl (by intro N a b; kernel_rfl)
def Fstamp_Of (N : Nat) (node : Int) : Option (GStamp × Bool) :=
 (bif (decide (node < 16)) then
 (some ((⟨0, 0⟩ : GStamp), false))
 else
 ((Fstamp_Check N (⟨(IntKind.i64.wrap (Int.tdiv (IntKind.i64.wrap (node - 16)) 8)), (Int.tmod (IntKind.i64.wrap (node - 16)) 8)⟩ : GStamp)).bind fun r1 =>
 (bif (!r1) then
 (some ((⟨0, 0⟩ : GStamp), false))
 else
 (some ((⟨(IntKind.i64.wrap (Int.tdiv (IntKind.i64.wrap (node - 16)) 8)), (Int.tmod (IntKind.i64.wrap (node - 16)) 8)⟩ : GStamp), true)))))
def constamp_Of : Con τ := { args := [.ty 2], L := [], ret := .tup [.ty 41, .ty 4], L' := [], R := GStamp × Bool, dflt := (default, default), F := fun N a b => Fstamp_Of N a.1, of := fun r => ((r.1, r.2, ()), ()) }
noncomputable def datstamp_Of : Dat τ := { D := D0, tbl := tblOf [(55, constamp_Check)], lp := lpsOf [], k0 := 0, mu := [], un := [] }
theorem okstamp_Of : ConOk E C 106 constamp_Of :=
  con_ok (D := datstamp_Of) ⟨d0Ok, eGood, tblOf_ok ⟨okstamp_Check, trivial⟩, fun _ => rfl⟩ constamp_Of (fun a b => (a.1, a.2.1)) none (fun _ _ => rfl) rfl (fun _ _ h => nomatch h) 1000000 (fn := Try.f106) Try.func106 rfl (by kernel_rfl) (by kernel_rfl) rfl (by intro N a b; kernel_rfl)
def Fstamp_made (N : Nat) (node : Int) : Option (Bool) :=
 ((Fstamp_Of N node).bind fun r1 =>
 (some r1.2))
def constamp_made : Con τ := { args := [.ty 2], L := [], ret := .ty 4, L' := [], R := Bool, dflt := default, F := fun N a b => Fstamp_made N a.1, of := fun r => (r, ()) }
noncomputable def datstamp_made : Dat τ := { D := D0, tbl := tblOf [(106, constamp_Of)], lp := lpsOf [], k0 := 0, mu := [], un := [] }
theorem okstamp_made : ConOk E C 58 constamp_made :=
  con_ok (D := datstamp_made) ⟨d0Ok, eGood, tblOf_ok ⟨okstamp_Of, trivial⟩, fun _ => rfl⟩ constamp_made (fun a b => a) none (fun _ _ => rfl) rfl (fun _ _ h => nomatch h) 1000000 (fn := Try.f58) Try.func58 rfl (by kernel_rfl) (by kernel_rfl) rfl (by intro N a b; kernel_rfl)
def Finternal_bytealg_IndexByteString (N : Nat) (s : List UInt8) (c : Int) : Option (Int) :=
 (some (Lib.indexByte s c.toNat.toUInt8))
def coninternal_bytealg_IndexByteString : Con τ := { args := [.ty 9, .ty 5], L := [], ret := .ty 3, L' := [], R := Int, dflt := default, F := fun N a b => Finternal_bytealg_IndexByteString N a.1 a.2.1, of := fun r => (r, ()), ext := true }
theorem okinternal_bytealg_IndexByteString : ConOk E C 144 coninternal_bytealg_IndexByteString :=
  con_ibs (fn := Try.f144) Try.func144 (by kernel_rfl) (by kernel_rfl) (by kernel_rfl) (by kernel_rfl) coninternal_bytealg_IndexByteString rfl rfl (fun a => a.1) (fun a => a.2.1) (fun _ => rfl) (fun _ => rfl) (fun N a b r h => by have h' : some (Lib.indexByte a.1 a.2.1.toNat.toUInt8) = some r := h; cases h'; exact ⟨rfl, rfl⟩)
def Finternal_stringslite_IndexByte (N : Nat) (s : List UInt8) (c : Int) : Option (Int) :=
 ((Finternal_bytealg_IndexByteString N s c).bind fun r1 =>
 (some r1))
def coninternal_stringslite_IndexByte : Con τ := { args := [.ty 9, .ty 5], L := [], ret := .ty 3, L' := [], R := Int, dflt := default, F := fun N a b => Finternal_stringslite_IndexByte N a.1 a.2.1, of := fun r => (r, ()) }
noncomputable def datinternal_stringslite_IndexByte : Dat τ := { D := D0, tbl := tblOf [(144, coninternal_bytealg_IndexByteString)], lp := lpsOf [], k0 := 0, mu := [], un := [] }
theorem okinternal_stringslite_IndexByte : ConOk E C 140 coninternal_stringslite_IndexByte :=
  con_ok (D := datinternal_stringslite_IndexByte) ⟨d0Ok, eGood, tblOf_ok ⟨okinternal_bytealg_IndexByteString, trivial⟩, fun _ => rfl⟩ coninternal_stringslite_IndexByte (fun a b => a) none (fun _ _ => rfl) rfl (fun _ _ h => nomatch h) 1000000 (fn := Try.f140) Try.func140 rfl (by kernel_rfl) (by kernel_rfl) rfl (by intro N a b; kernel_rfl)
def Finternal_stringslite_Index (N : Nat) (s : List UInt8) (substr : List UInt8) : Option (Int) :=
 (bif ((((substr).length : Int) == 0) || (substr == s)) then
 (some 0)
 else
 (bif (((substr).length : Int) == 1) then
 (bif (ibB 0 ((substr).length : Int)) then
 ((Finternal_stringslite_IndexByte N s (((substr).getD 0 0).toNat : Int)).bind fun r1 =>
 (some r1))
 else none)
 else
 (bif (decide (((s).length : Int) ≤ ((substr).length : Int))) then
 (some (-1))
 else
 none)))
def coninternal_stringslite_Index : Con τ := { args := [.ty 9, .ty 9], L := [], ret := .ty 3, L' := [], R := Int, dflt := default, F := fun N a b => Finternal_stringslite_Index N a.1 a.2.1, of := fun r => (r, ()) }
noncomputable def datinternal_stringslite_Index : Dat τ := { D := D0, tbl := tblOf [(140, coninternal_stringslite_IndexByte)], lp := lpsOf [], k0 := 0, mu := [], un := [] }
theorem okinternal_stringslite_Index : ConOk E C 139 coninternal_stringslite_Index :=
  con_ok (D := datinternal_stringslite_Index) ⟨d0Ok, eGood, tblOf_ok ⟨okinternal_stringslite_IndexByte, trivial⟩, fun _ => rfl⟩ coninternal_stringslite_Index (fun a b => a) none (fun _ _ => rfl) rfl (fun _ _ h => nomatch h) 1000000 (fn := Try.f139) Try.func139 rfl (by kernel_rfl) (by kernel_rfl) rfl (by intro N a b; kernel_rfl)
def Fstrings_Index (N : Nat) (s : List UInt8) (substr : List UInt8) : Option (Int) :=
 ((Finternal_stringslite_Index N s substr).bind fun r1 =>
 (some r1))
def constrings_Index : Con τ := { args := [.ty 9, .ty 9], L := [], ret := .ty 3, L' := [], R := Int, dflt := default, F := fun N a b => Fstrings_Index N a.1 a.2.1, of := fun r => (r, ()) }
noncomputable def datstrings_Index : Dat τ := { D := D0, tbl := tblOf [(139, coninternal_stringslite_Index)], lp := lpsOf [], k0 := 0, mu := [], un := [] }
theorem okstrings_Index : ConOk E C 133 constrings_Index :=
  con_ok (D := datstrings_Index) ⟨d0Ok, eGood, tblOf_ok ⟨okinternal_stringslite_Index, trivial⟩, fun _ => rfl⟩ constrings_Index (fun a b => a) none (fun _ _ => rfl) rfl (fun _ _ h => nomatch h) 1000000 (fn := Try.f133) Try.func133 rfl (by kernel_rfl) (by kernel_rfl) rfl (by intro N a b; kernel_rfl)
def Fstrings_Contains (N : Nat) (s : List UInt8) (substr : List UInt8) : Option (Bool) :=
 ((Fstrings_Index N s substr).bind fun r1 =>
 (some (decide (0 ≤ r1))))
def constrings_Contains : Con τ := { args := [.ty 9, .ty 9], L := [], ret := .ty 4, L' := [], R := Bool, dflt := default, F := fun N a b => Fstrings_Contains N a.1 a.2.1, of := fun r => (r, ()) }
noncomputable def datstrings_Contains : Dat τ := { D := D0, tbl := tblOf [(133, constrings_Index)], lp := lpsOf [], k0 := 0, mu := [], un := [] }
theorem okstrings_Contains : ConOk E C 105 constrings_Contains :=
  con_ok (D := datstrings_Contains) ⟨d0Ok, eGood, tblOf_ok ⟨okstrings_Index, trivial⟩, fun _ => rfl⟩ constrings_Contains (fun a b => a) none (fun _ _ => rfl) rfl (fun _ _ h => nomatch h) 1000000 (fn := Try.f105) Try.func105 rfl (by kernel_rfl) (by kernel_rfl) rfl (by intro N a b; kernel_rfl)
def Fstamp_place (N : Nat) (op : GOp) : Option (Int) :=
 ((Fstamp_top N op.Parent).bind fun r1 =>
 ((bif (!r1) then Fstamp_made N op.Parent else some default).bind fun r2 =>
 (bif ((!r1) && (!r2)) then
 (some 1)
 else
 (bif (decide (255 < ((op.Name).length : Int))) then
 (some 3)
 else
 ((bif (!(((op.Name == []) || (op.Name == [46])) || (op.Name == [46, 46]))) then Fstrings_Contains N op.Name [47] else some default).bind fun r3 =>
 (bif ((((((op.Name == []) || (op.Name == [46])) || (op.Name == [46, 46])) || r3) || (!(op.Key == []))) || (!(op.Value == []))) then
 (some 1)
 else
 (some 0)))))))
def constamp_place : Con τ := { args := [.ty 43], L := [], ret := .ty 56, L' := [], R := Int, dflt := default, F := fun N a b => Fstamp_place N a.1, of := fun r => (r, ()) }
noncomputable def datstamp_place : Dat τ := { D := D0, tbl := tblOf [(59, constamp_top), (58, constamp_made), (105, constrings_Contains)], lp := lpsOf [], k0 := 0, mu := [], un := [] }
theorem okstamp_place : ConOk E C 57 constamp_place :=
  con_ok (D := datstamp_place) ⟨d0Ok, eGood, tblOf_ok ⟨okstamp_top, ⟨okstamp_made, ⟨okstrings_Contains, trivial⟩⟩⟩, fun _ => rfl⟩ constamp_place (fun a b => a) none (fun _ _ => rfl) rfl (fun _ _ h => nomatch h) 1000000 (fn := Try.f57) Try.func57 rfl (by kernel_rfl) (by kernel_rfl) rfl (by intro N a b; kernel_rfl)
def Fstamp_CheckOp (N : Nat) (op : GOp) : Option (Int) :=
 ((Fstamp_Check N op.Stamp).bind fun r1 =>
 ((bif ((!(((!r1) || (decide (op.Kind < 1))) || (decide (3 < op.Kind)))) && (op.Kind == 1)) then Fstamp_Node N op.Stamp else some default).bind fun r2 =>
 (bif ((((!r1) || (decide (op.Kind < 1))) || (decide (3 < op.Kind))) || ((op.Kind == 1) && (!(op.Node == r2)))) then
 (some 1)
 else
 (bif (!(op.Kind == 3)) then
 ((Fstamp_place N op).bind fun r3 =>
 (bif (!(r3 == 0)) then
 (some r3)
 else
 (bif (op.Kind == 2) then
 ((Fstamp_made N op.Node).bind fun r4 =>
 (bif (!r4) then
 (some 1)
 else
 (some 0)))
 else
 (bif (op.Kind == 3) then
 ((Fstamp_made N op.Node).bind fun r5 =>
 ((bif (!r5) then Fstamp_top N op.Node else some default).bind fun r6 =>
 (bif ((!r5) && (!r6)) then
 (some 1)
 else
 (bif ((decide (255 < ((op.Key).length : Int))) || (decide (255 < ((op.Value).length : Int)))) then
 (some 3)
 else
 (bif (((op.Key == []) || (!(op.Parent == 0))) || (!(op.Name == []))) then
 (some 1)
 else
 (some 0))))))
 else
 (some 0)))))
 else
 (bif (op.Kind == 2) then
 ((Fstamp_made N op.Node).bind fun r7 =>
 (bif (!r7) then
 (some 1)
 else
 (some 0)))
 else
 (bif (op.Kind == 3) then
 ((Fstamp_made N op.Node).bind fun r8 =>
 ((bif (!r8) then Fstamp_top N op.Node else some default).bind fun r9 =>
 (bif ((!r8) && (!r9)) then
 (some 1)
 else
 (bif ((decide (255 < ((op.Key).length : Int))) || (decide (255 < ((op.Value).length : Int)))) then
 (some 3)
 else
 (bif (((op.Key == []) || (!(op.Parent == 0))) || (!(op.Name == []))) then
 (some 1)
 else
 (some 0))))))
 else
 (some 0)))))))
def constamp_CheckOp : Con τ := { args := [.ty 43], L := [], ret := .ty 56, L' := [], R := Int, dflt := default, F := fun N a b => Fstamp_CheckOp N a.1, of := fun r => (r, ()) }
noncomputable def datstamp_CheckOp : Dat τ := { D := D0, tbl := tblOf [(55, constamp_Check), (56, constamp_Node), (57, constamp_place), (58, constamp_made), (59, constamp_top)], lp := lpsOf [], k0 := 0, mu := [], un := [] }
theorem okstamp_CheckOp : ConOk E C 34 constamp_CheckOp :=
  con_ok (D := datstamp_CheckOp) ⟨d0Ok, eGood, tblOf_ok ⟨okstamp_Check, ⟨okstamp_Node, ⟨okstamp_place, ⟨okstamp_made, ⟨okstamp_top, trivial⟩⟩⟩⟩⟩, fun _ => rfl⟩ constamp_CheckOp (fun a b => a) none (fun _ _ => rfl) rfl (fun _ _ h => nomatch h) 1000000 (fn := Try.f34) Try.func34 rfl (by kernel_rfl) (by kernel_rfl) rfl (by intro N a b; kernel_rfl)
structure Sexchange_Takex9 where
  l : List (GOp)
  last : Int
  t66 : Int
def tsexchange_Takex9 : List Sl := [.k, .k, .k, .k, .k, .k, .k, .k, .k, .k, .sh (.own 43 1), .sh (.ty 2), .k, .j, .j, .j, .k, .k, .k, .k, .j, .j, .j, .j, .k, .k, .j, .j, .j, .j, .j, .j, .k, .k, .k, .k, .k, .k, .k, .k, .j, .j, .j, .k, .k, .j, .j, .k, .k, .j, .j, .j, .j, .j, .j, .k, .k, .k, .k, .k, .k, .k, .k, .k, .k, .k, .sh (.ty 2), .j, .j, .j, .j, .j, .j, .j, .j, .j, .j, .j, .j, .j, .j, .j, .j, .j, .j, .j, .j, .j, .j, .j, .j, .j, .j, .j, .j, .j, .j, .j, .j, .j, .j, .j, .j, .j, .j, .j, .j, .j, .j, .j, .j, .j, .j, .j, .j, .j, .j, .j, .j, .j, .j, .j, .j, .j, .j, .j, .j, .j, .j, .k]
def hsexchange_Takex9 : List ESh := [.keep, .tail]
def toexchange_Takex9 (a : Sl.Ts τ tsexchange_Takex9) (b : ESh.Ts τ hsexchange_Takex9) : Sexchange_Takex9 := ⟨a.2.2.2.2.2.2.2.2.2.2.1, a.2.2.2.2.2.2.2.2.2.2.2.1, a.2.2.2.2.2.2.2.2.2.2.2.2.2.2.2.2.2.2.2.2.2.2.2.2.2.2.2.2.2.2.2.2.2.2.2.2.2.2.2.2.2.2.2.2.2.2.2.2.2.2.2.2.2.2.2.2.2.2.2.2.2.2.2.2.2.2.1⟩
def otexchange_Takex9 (s : Sexchange_Takex9) : Sl.Ts τ tsexchange_Takex9 := ((), (), (), (), (), (), (), (), (), (), s.l, s.last, (), (), (), (), (), (), (), (), (), (), (), (), (), (), (), (), (), (), (), (), (), (), (), (), (), (), (), (), (), (), (), (), (), (), (), (), (), (), (), (), (), (), (), (), (), (), (), (), (), (), (), (), (), (), s.t66, (), (), (), (), (), (), (), (), (), (), (), (), (), (), (), (), (), (), (), (), (), (), (), (), (), (), (), (), (), (), (), (), (), (), (), (), (), (), (), (), (), (), (), (), (), (), (), (), (), (), (), (), (), (), (), (), (), (), (), (), (), (), (), ())
def ohexchange_Takex9 (s : Sexchange_Takex9) : ESh.Ts τ hsexchange_Takex9 := ((), (), ())
def lpexchange_Takex9 : Lp τ := { ts := tsexchange_Takex9, hs := hsexchange_Takex9, S := Sexchange_Takex9, to := toexchange_Takex9, ot := otexchange_Takex9, oh := ohexchange_Takex9, hk := [2], tk := [0, 0, 0, 0, 2, 0, 0, 0, 0, 0, 0, 0, 0, 0, 0, 0, 0, 0, 0, 0, 0, 0, 0, 0, 0, 0, 0, 0, 0, 0, 0, 0, 0, 0, 2, 2, 0, 0, 0, 0, 0, 0, 0, 0, 0, 0, 0, 0, 0, 0, 0, 0, 0, 0, 0, 0, 0, 2, 2], ot_to := fun _ _ => rfl, oh_to := fun _ _ => rfl }
def Fexchange_Take (N : Nat) (s : GSnap) (origin : Int) (seq : Int) (ops : List (GOp)) : Option ((List (GOp))) :=
 ((Fexchange_site N origin).bind fun r1 =>
 (bif (!(!((!r1) || (origin == s.Site))) || (ibB origin 8)) then
 (bif (((!r1) || (origin == s.Site)) || ((vget s.Epoch.States ((origin).toNat) default) == 0)) then
 (some [])
 else
 (bif (ibB origin 8) then
 (bif ((((decide (seq < 0)) || (decide ((vget s.Vector_ ((origin).toNat) default) < seq))) || (decide (1099511627776 < (vget s.Vector_ ((origin).toNat) default)))) || (decide (((ops).length : Int) ≤ (IntKind.i64.wrap ((vget s.Vector_ ((origin).toNat) default) - seq))))) then
 (some [])
 else
 (bif (ibB origin 8) then
 (bif (cutB (IntKind.i64.wrap ((vget s.Vector_ ((origin).toNat) default) - seq)) ((ops).length : Int) ((ops).length : Int)) then
 (iter N (fun (s2 : Sexchange_Takex9) next3 =>
 (bif (decide (s2.t66 < (((cut ops (IntKind.i64.wrap ((vget s.Vector_ ((origin).toNat) default) - seq)) ((ops).length : Int))).length : Int))) then
 (bif (ibB s2.t66 (((cut ops (IntKind.i64.wrap ((vget s.Vector_ ((origin).toNat) default) - seq)) ((ops).length : Int))).length : Int)) then
 (bif (ibB origin 8) then
 (bif (!((vget s.Epoch.States ((origin).toNat) default) == 3) || (ibB origin 8)) then
 ((bif (!((decide (1099511627776 ≤ (IntKind.i64.wrap ((vget s.Vector_ ((origin).toNat) default) + ((s2.l).length : Int))))) || (((vget s.Epoch.States ((origin).toNat) default) == 3) && (decide ((vget s.Epoch.Seals ((origin).toNat) default) ≤ (IntKind.i64.wrap ((vget s.Vector_ ((origin).toNat) default) + ((s2.l).length : Int)))))))) then Fstamp_CheckOp N (⟨((lget (cut ops (IntKind.i64.wrap ((vget s.Vector_ ((origin).toNat) default) - seq)) ((ops).length : Int)) s2.t66 default).Stamp), (lget (cut ops (IntKind.i64.wrap ((vget s.Vector_ ((origin).toNat) default) - seq)) ((ops).length : Int)) s2.t66 default).Kind, (lget (cut ops (IntKind.i64.wrap ((vget s.Vector_ ((origin).toNat) default) - seq)) ((ops).length : Int)) s2.t66 default).Node, (lget (cut ops (IntKind.i64.wrap ((vget s.Vector_ ((origin).toNat) default) - seq)) ((ops).length : Int)) s2.t66 default).Parent, (lget (cut ops (IntKind.i64.wrap ((vget s.Vector_ ((origin).toNat) default) - seq)) ((ops).length : Int)) s2.t66 default).Name, (lget (cut ops (IntKind.i64.wrap ((vget s.Vector_ ((origin).toNat) default) - seq)) ((ops).length : Int)) s2.t66 default).Key, (lget (cut ops (IntKind.i64.wrap ((vget s.Vector_ ((origin).toNat) default) - seq)) ((ops).length : Int)) s2.t66 default).Value⟩ : GOp) else some default).bind fun r4 =>
 (bif ((((((decide (1099511627776 ≤ (IntKind.i64.wrap ((vget s.Vector_ ((origin).toNat) default) + ((s2.l).length : Int))))) || (((vget s.Epoch.States ((origin).toNat) default) == 3) && (decide ((vget s.Epoch.Seals ((origin).toNat) default) ≤ (IntKind.i64.wrap ((vget s.Vector_ ((origin).toNat) default) + ((s2.l).length : Int))))))) || (!(r4 == 0))) || (!((((lget (cut ops (IntKind.i64.wrap ((vget s.Vector_ ((origin).toNat) default) - seq)) ((ops).length : Int)) s2.t66 default).Stamp).Site) == origin))) || (decide ((((lget (cut ops (IntKind.i64.wrap ((vget s.Vector_ ((origin).toNat) default) - seq)) ((ops).length : Int)) s2.t66 default).Stamp).Time) ≤ s2.last))) || (decide ((((lget (cut ops (IntKind.i64.wrap ((vget s.Vector_ ((origin).toNat) default) - seq)) ((ops).length : Int)) s2.t66 default).Stamp).Time) ≤ s.Frontier))) then
 (some s2.l)
 else
 (bif (lenB ((s2.l).length + ([(⟨((lget (cut ops (IntKind.i64.wrap ((vget s.Vector_ ((origin).toNat) default) - seq)) ((ops).length : Int)) s2.t66 default).Stamp), (lget (cut ops (IntKind.i64.wrap ((vget s.Vector_ ((origin).toNat) default) - seq)) ((ops).length : Int)) s2.t66 default).Kind, (lget (cut ops (IntKind.i64.wrap ((vget s.Vector_ ((origin).toNat) default) - seq)) ((ops).length : Int)) s2.t66 default).Node, (lget (cut ops (IntKind.i64.wrap ((vget s.Vector_ ((origin).toNat) default) - seq)) ((ops).length : Int)) s2.t66 default).Parent, (lget (cut ops (IntKind.i64.wrap ((vget s.Vector_ ((origin).toNat) default) - seq)) ((ops).length : Int)) s2.t66 default).Name, (lget (cut ops (IntKind.i64.wrap ((vget s.Vector_ ((origin).toNat) default) - seq)) ((ops).length : Int)) s2.t66 default).Key, (lget (cut ops (IntKind.i64.wrap ((vget s.Vector_ ((origin).toNat) default) - seq)) ((ops).length : Int)) s2.t66 default).Value⟩ : GOp)]).length) 88) then
 (next3 ⟨(s2.l ++ [(⟨((lget (cut ops (IntKind.i64.wrap ((vget s.Vector_ ((origin).toNat) default) - seq)) ((ops).length : Int)) s2.t66 default).Stamp), (lget (cut ops (IntKind.i64.wrap ((vget s.Vector_ ((origin).toNat) default) - seq)) ((ops).length : Int)) s2.t66 default).Kind, (lget (cut ops (IntKind.i64.wrap ((vget s.Vector_ ((origin).toNat) default) - seq)) ((ops).length : Int)) s2.t66 default).Node, (lget (cut ops (IntKind.i64.wrap ((vget s.Vector_ ((origin).toNat) default) - seq)) ((ops).length : Int)) s2.t66 default).Parent, (lget (cut ops (IntKind.i64.wrap ((vget s.Vector_ ((origin).toNat) default) - seq)) ((ops).length : Int)) s2.t66 default).Name, (lget (cut ops (IntKind.i64.wrap ((vget s.Vector_ ((origin).toNat) default) - seq)) ((ops).length : Int)) s2.t66 default).Key, (lget (cut ops (IntKind.i64.wrap ((vget s.Vector_ ((origin).toNat) default) - seq)) ((ops).length : Int)) s2.t66 default).Value⟩ : GOp)]), ((lget (cut ops (IntKind.i64.wrap ((vget s.Vector_ ((origin).toNat) default) - seq)) ((ops).length : Int)) s2.t66 default).Stamp).Time, (IntKind.i64.wrap (s2.t66 + 1))⟩)
 else none)))
 else none)
 else none)
 else none)
 else
 (some s2.l))) ⟨[], (vget s.Last ((origin).toNat) default), 0⟩)
 else none)
 else none))
 else none))
 else none))
def conexchange_Take : Con τ := { args := [.ty 34, .ty 3, .ty 2, .ty 28], L := [], ret := .ty 28, L' := [], R := (List (GOp)), dflt := default, F := fun N a b => Fexchange_Take N a.1 a.2.1 a.2.2.1 a.2.2.2.1, of := fun r => (r, ()) }
noncomputable def datexchange_Take : Dat τ := { D := D0, tbl := tblOf [(33, conexchange_site), (34, constamp_CheckOp)], lp := lpsOf [(9, lpexchange_Takex9)], k0 := 0, mu := [], un := [] }
theorem okexchange_Take : ConOk E C 12 conexchange_Take :=
  con_ok (D := datexchange_Take) ⟨d0Ok, eGood, tblOf_ok ⟨okexchange_site, ⟨okstamp_CheckOp, trivial⟩⟩, fun _ => rfl⟩ conexchange_Take (fun a b => a) none (fun _ _ => rfl) rfl (fun _ _ h => nomatch h) 1000000 (fn := Try.f12) Try.func12 rfl (by kernel_rfl) (by kernel_rfl) rfl (by intro N a b; kernel_rfl)
def Flaw16_begun (N : Nat)  : Option (Bool) :=
 ((Fexchange_Peers N (⟨0, 0, false, (⟨0, (vset (Vector.replicate 8 (default : Int)) 1 1), (Vector.replicate 8 (default : Int)), (Vector.replicate 8 (default : Int))⟩ : GEpoch), 0, (Vector.replicate 8 (default : Int)), (Vector.replicate 8 (default : Int)), [], [], 0, (Vector.replicate 8 (default : Int)), (Vector.replicate 8 (default : List (GOp))), (Vector.replicate 8 (default : Vector (Int) 8)), (Vector.replicate 8 (default : Int)), (Vector.replicate 8 (default : Int)), (Vector.replicate 8 (default : Int)), [], []⟩ : GSnap)).bind fun r1 =>
 (bif (!(((r1).length : Int) == 1) || (ibB 0 ((r1).length : Int))) then
 ((bif ((((r1).length : Int) == 1) && ((lget r1 0 default) == 1)) then Fexchange_Take N (⟨0, 0, false, (⟨0, (vset (Vector.replicate 8 (default : Int)) 1 1), (Vector.replicate 8 (default : Int)), (Vector.replicate 8 (default : Int))⟩ : GEpoch), 0, (Vector.replicate 8 (default : Int)), (Vector.replicate 8 (default : Int)), [], [], 0, (Vector.replicate 8 (default : Int)), (Vector.replicate 8 (default : List (GOp))), (Vector.replicate 8 (default : Vector (Int) 8)), (Vector.replicate 8 (default : Int)), (Vector.replicate 8 (default : Int)), (Vector.replicate 8 (default : Int)), [], []⟩ : GSnap) 1 0 [(⟨(⟨1, 1⟩ : GStamp), 1, 25, 1, [97], [], []⟩ : GOp)] else some default).bind fun r2 =>
 (some (((((r1).length : Int) == 1) && ((lget r1 0 default) == 1)) && (((r2).length : Int) == 1))))
 else none))
def conlaw16_begun : Con τ := { args := [], L := [], ret := .ty 4, L' := [], R := Bool, dflt := default, F := fun N a b => Flaw16_begun N , of := fun r => (r, ()) }
noncomputable def datlaw16_begun : Dat τ := { D := D0, tbl := tblOf [(17, conexchange_Peers), (12, conexchange_Take)], lp := lpsOf [], k0 := 0, mu := [], un := [] }
theorem oklaw16_begun : ConOk E C 10 conlaw16_begun :=
  con_ok (D := datlaw16_begun) ⟨d0Ok, eGood, tblOf_ok ⟨okexchange_Peers, ⟨okexchange_Take, trivial⟩⟩, fun _ => rfl⟩ conlaw16_begun (fun a b => a) none (fun _ _ => rfl) rfl (fun _ _ h => nomatch h) 1000000 (fn := Try.f10) Try.func10 rfl (by kernel_rfl) (by kernel_rfl) rfl (by intro N a b; kernel_rfl)
def Fstamp_Join_1 (N : Nat) (a : Int) (b : Int) : Option (Int) :=
 (some (bif decide (a < b) then b else a))
def constamp_Join_1 : Con τ := { args := [.ty 2, .ty 2], L := [], ret := .ty 2, L' := [], R := Int, dflt := default, F := fun N a b => Fstamp_Join_1 N a.1 a.2.1, of := fun r => (r, ()) }
noncomputable def datstamp_Join_1 : Dat τ := { D := D0, tbl := tblOf [], lp := lpsOf [], k0 := 0, mu := [], un := [] }
theorem okstamp_Join_1 : ConOk E C 111 constamp_Join_1 :=
  con_ok (D := datstamp_Join_1) ⟨d0Ok, eGood, tblOf_ok trivial, fun _ => rfl⟩ constamp_Join_1 (fun a b => a) none (fun _ _ => rfl) rfl (fun _ _ h => nomatch h) 1000000 (fn := Try.f111) Try.func111 rfl (by kernel_rfl) (by kernel_rfl) rfl (by intro N a b; kernel_rfl)
structure Sstamp_fold_330x3 where
  t11 : Int
  b1 : Vector (Int) 8
def tsstamp_fold_330x3 : List Sl := [.k, .k, .k, .k, .k, .k, .j, .j, .j, .k, .k, .sh (.ty 2), .j, .j, .j, .j, .j, .j, .j, .j, .j, .j, .j, .j, .j, .j, .j, .j, .j, .j, .j, .j, .j, .j, .k]
def hsstamp_fold_330x3 : List ESh := [.keep, .box (.ty 23)]
def tostamp_fold_330x3 (a : Sl.Ts τ tsstamp_fold_330x3) (b : ESh.Ts τ hsstamp_fold_330x3) : Sstamp_fold_330x3 := ⟨a.2.2.2.2.2.2.2.2.2.2.2.1, b.2.1⟩
def otstamp_fold_330x3 (s : Sstamp_fold_330x3) : Sl.Ts τ tsstamp_fold_330x3 := ((), (), (), (), (), (), (), (), (), (), (), s.t11, (), (), (), (), (), (), (), (), (), (), (), (), (), (), (), (), (), (), (), (), (), (), (), ())
def ohstamp_fold_330x3 (s : Sstamp_fold_330x3) : ESh.Ts τ hsstamp_fold_330x3 := ((), s.b1, ())
def lpstamp_fold_330x3 : Lp τ := { ts := tsstamp_fold_330x3, hs := hsstamp_fold_330x3, S := Sstamp_fold_330x3, to := tostamp_fold_330x3, ot := otstamp_fold_330x3, oh := ohstamp_fold_330x3, hk := [2, 2], tk := [0, 0, 0, 0, 2, 3], ot_to := fun _ _ => rfl, oh_to := fun _ _ => rfl }
structure Sstamp_fold_330x8 where
  t19 : Int
  b1 : Vector (Int) 8
def tsstamp_fold_330x8 : List Sl := [.k, .k, .k, .k, .k, .k, .k, .k, .j, .k, .k, .k, .k, .k, .k, .k, .k, .k, .k, .sh (.ty 2), .j, .j, .j, .j, .j, .j, .j, .j, .j, .j, .j, .j, .j, .k, .k]
def hsstamp_fold_330x8 : List ESh := [.keep, .box (.ty 23), .keep]
def tostamp_fold_330x8 (a : Sl.Ts τ tsstamp_fold_330x8) (b : ESh.Ts τ hsstamp_fold_330x8) : Sstamp_fold_330x8 := ⟨a.2.2.2.2.2.2.2.2.2.2.2.2.2.2.2.2.2.2.2.1, b.2.1⟩
def otstamp_fold_330x8 (s : Sstamp_fold_330x8) : Sl.Ts τ tsstamp_fold_330x8 := ((), (), (), (), (), (), (), (), (), (), (), (), (), (), (), (), (), (), (), s.t19, (), (), (), (), (), (), (), (), (), (), (), (), (), (), (), ())
def ohstamp_fold_330x8 (s : Sstamp_fold_330x8) : ESh.Ts τ hsstamp_fold_330x8 := ((), s.b1, (), ())
def lpstamp_fold_330x8 : Lp τ := { ts := tsstamp_fold_330x8, hs := hsstamp_fold_330x8, S := Sstamp_fold_330x8, to := tostamp_fold_330x8, ot := otstamp_fold_330x8, oh := ohstamp_fold_330x8, hk := [2, 2, 2], tk := [0, 0, 0, 0, 2, 3, 0, 4], ot_to := fun _ _ => rfl, oh_to := fun _ _ => rfl }
def Fstamp_fold_330 (N : Nat) (l : List (Vector (Int) 8)) : Option ((Vector (Int) 8)) :=
 (iter N (fun (s1 : Sstamp_fold_330x3) next2 =>
 (bif (decide (s1.t11 < ((l).length : Int))) then
 (bif (ibB s1.t11 ((l).length : Int)) then
 (bif (s1.t11 == 0) then
 (iter N (fun (s3 : Sstamp_fold_330x8) next4 =>
 (bif (decide (s3.t19 < 8)) then
 (bif (ibB s3.t19 8) then
 (bif (ibB s3.t19 8) then
 ((Fstamp_Join_1 N (vget s3.b1 ((s3.t19).toNat) default) (vget (lget l s1.t11 default) ((s3.t19).toNat) default)).bind fun r5 =>
 (bif (ibB s3.t19 8) then
 (next4 ⟨(IntKind.i64.wrap (s3.t19 + 1)), (vset s3.b1 ((s3.t19).toNat) r5)⟩)
 else none))
 else none)
 else none)
 else
 (next2 ⟨(IntKind.i64.wrap (s1.t11 + 1)), s3.b1⟩))) ⟨0, (lget l s1.t11 default)⟩)
 else
 (iter N (fun (s6 : Sstamp_fold_330x8) next7 =>
 (bif (decide (s6.t19 < 8)) then
 (bif (ibB s6.t19 8) then
 (bif (ibB s6.t19 8) then
 ((Fstamp_Join_1 N (vget s6.b1 ((s6.t19).toNat) default) (vget (lget l s1.t11 default) ((s6.t19).toNat) default)).bind fun r8 =>
 (bif (ibB s6.t19 8) then
 (next7 ⟨(IntKind.i64.wrap (s6.t19 + 1)), (vset s6.b1 ((s6.t19).toNat) r8)⟩)
 else none))
 else none)
 else none)
 else
 (next2 ⟨(IntKind.i64.wrap (s1.t11 + 1)), s6.b1⟩))) ⟨0, s1.b1⟩))
 else none)
 else
 (some s1.b1))) ⟨0, (Vector.replicate 8 (default : Int))⟩)
def constamp_fold_330 : Con τ := { args := [.fn 111 [], .ty 115], L := [], ret := .ty 24, L' := [], R := (Vector (Int) 8), dflt := default, F := fun N a b => Fstamp_fold_330 N a.2.1, of := fun r => (r, ()) }
noncomputable def datstamp_fold_330 : Dat τ := { D := D0, tbl := tblOf [(111, constamp_Join_1)], lp := lpsOf [(3, lpstamp_fold_330x3), (8, lpstamp_fold_330x8)], k0 := 0, mu := [], un := [] }
theorem okstamp_fold_330 : ConOk E C 110 constamp_fold_330 :=
  con_ok (D := datstamp_fold_330) ⟨d0Ok, eGood, tblOf_ok ⟨okstamp_Join_1, trivial⟩, fun _ => rfl⟩ constamp_fold_330 (fun a b => a) none (fun _ _ => rfl) rfl (fun _ _ h => nomatch h) 1000000 (fn := Try.f110) Try.func110 rfl (by kernel_rfl) (by kernel_rfl) rfl (by intro N a b; kernel_rfl)
def Fstamp_Join (N : Nat) (l : List (Vector (Int) 8)) : Option ((Vector (Int) 8)) :=
 ((Fstamp_fold_330 N l).bind fun r1 =>
 (some r1))
def constamp_Join : Con τ := { args := [.ty 115], L := [], ret := .ty 24, L' := [], R := (Vector (Int) 8), dflt := default, F := fun N a b => Fstamp_Join N a.1, of := fun r => (r, ()) }
noncomputable def datstamp_Join : Dat τ := { D := D0, tbl := tblOf [(110, constamp_fold_330)], lp := lpsOf [], k0 := 0, mu := [], un := [] }
theorem okstamp_Join : ConOk E C 67 constamp_Join :=
  con_ok (D := datstamp_Join) ⟨d0Ok, eGood, tblOf_ok ⟨okstamp_fold_330, trivial⟩, fun _ => rfl⟩ constamp_Join (fun a b => a) none (fun _ _ => rfl) rfl (fun _ _ h => nomatch h) 1000000 (fn := Try.f67) Try.func67 rfl (by kernel_rfl) (by kernel_rfl) rfl (by intro N a b; kernel_rfl)
def Fstamp_Above (N : Nat) (a : Vector (Int) 8) (b : Vector (Int) 8) : Option (Bool) :=
 ((Fstamp_Join N [a, b]).bind fun r1 =>
 (some (vbeq beq2 r1 a)))
def constamp_Above : Con τ := { args := [.ty 24, .ty 24], L := [], ret := .ty 4, L' := [], R := Bool, dflt := default, F := fun N a b => Fstamp_Above N a.1 a.2.1, of := fun r => (r, ()) }
noncomputable def datstamp_Above : Dat τ := { D := D0, tbl := tblOf [(67, constamp_Join)], lp := lpsOf [], k0 := 0, mu := [], un := [] }
theorem okstamp_Above : ConOk E C 44 constamp_Above :=
  con_ok (D := datstamp_Above) ⟨d0Ok, eGood, tblOf_ok ⟨okstamp_Join, trivial⟩, fun _ => rfl⟩ constamp_Above (fun a b => a) none (fun _ _ => rfl) rfl (fun _ _ h => nomatch h) 1000000 (fn := Try.f44) Try.func44 rfl (by kernel_rfl) (by kernel_rfl) rfl (by intro N a b; kernel_rfl)
def Fexchange_Useful (N : Nat) (s : GSnap) (x : GEntry) : Option (Bool) :=
 (bif (x.Kind == 2) then
 ((Fexchange_Take N s x.Origin x.Seq x.Ops).bind fun r1 =>
 (some (decide (0 < ((r1).length : Int)))))
 else
 (bif (x.Kind == 4) then
 ((bif ((x.Seq == s.Epoch.Number) && (!(x.From == s.Site))) then Fexchange_member N s x.From else some default).bind fun r2 =>
 (bif (!(((x.Seq == s.Epoch.Number) && (!(x.From == s.Site))) && r2) || (ibB x.From 8)) then
 ((bif (((x.Seq == s.Epoch.Number) && (!(x.From == s.Site))) && r2) then Fstamp_Above N (vget s.Known ((x.From).toNat) default) x.Vector_ else some default).bind fun r3 =>
 (bif (!((((x.Seq == s.Epoch.Number) && (!(x.From == s.Site))) && r2) && (!(!r3))) || (ibB x.From 8)) then
 (some ((((x.Seq == s.Epoch.Number) && (!(x.From == s.Site))) && r2) && ((!r3) || (decide ((vget s.Clocks ((x.From).toNat) default) < x.Clock)))))
 else none))
 else none))
 else
 (bif (x.Kind == 3) then
 (some (decide (s.Epoch.Number < x.Epoch.Number)))
 else
 (some ((x.Kind == 1) || (x.Kind == 5))))))
def conexchange_Useful : Con τ := { args := [.ty 34, .ty 53], L := [], ret := .ty 4, L' := [], R := Bool, dflt := default, F := fun N a b => Fexchange_Useful N a.1 a.2.1, of := fun r => (r, ()) }
noncomputable def datexchange_Useful : Dat τ := { D := D0, tbl := tblOf [(12, conexchange_Take), (52, conexchange_member), (44, constamp_Above)], lp := lpsOf [], k0 := 0, mu := [], un := [] }
theorem okexchange_Useful : ConOk E C 28 conexchange_Useful :=
  con_ok (D := datexchange_Useful) ⟨d0Ok, eGood, tblOf_ok ⟨okexchange_Take, ⟨okexchange_member, ⟨okstamp_Above, trivial⟩⟩⟩, fun _ => rfl⟩ conexchange_Useful (fun a b => a) none (fun _ _ => rfl) rfl (fun _ _ h => nomatch h) 1000000 (fn := Try.f28) Try.func28 rfl (by kernel_rfl) (by kernel_rfl) rfl (by intro N a b; kernel_rfl)
def Fref11_Site (N : Nat) (n : Int) : Option (Bool) :=
 (some ((decide (0 ≤ n)) && (decide (n < 8))))
def conref11_Site : Con τ := { args := [.ty 3], L := [], ret := .ty 4, L' := [], R := Bool, dflt := default, F := fun N a b => Fref11_Site N a.1, of := fun r => (r, ()) }
noncomputable def datref11_Site : Dat τ := { D := D0, tbl := tblOf [], lp := lpsOf [], k0 := 0, mu := [], un := [] }
theorem okref11_Site : ConOk E C 107 conref11_Site :=
  con_ok (D := datref11_Site) ⟨d0Ok, eGood, tblOf_ok trivial, fun _ => rfl⟩ conref11_Site (fun a b => a) none (fun _ _ => rfl) rfl (fun _ _ h => nomatch h) 1000000 (fn := Try.f107) Try.func107 rfl (by kernel_rfl) (by kernel_rfl) rfl (by intro N a b; kernel_rfl)
def Fref11_Check (N : Nat) (s : GStamp) : Option (Bool) :=
 ((bif ((decide (1 ≤ s.Time)) && (decide (s.Time ≤ 1099511627776))) then Fref11_Site N s.Site else some default).bind fun r1 =>
 (some (((decide (1 ≤ s.Time)) && (decide (s.Time ≤ 1099511627776))) && r1)))
def conref11_Check : Con τ := { args := [.ty 41], L := [], ret := .ty 4, L' := [], R := Bool, dflt := default, F := fun N a b => Fref11_Check N a.1, of := fun r => (r, ()) }
noncomputable def datref11_Check : Dat τ := { D := D0, tbl := tblOf [(107, conref11_Site)], lp := lpsOf [], k0 := 0, mu := [], un := [] }
theorem okref11_Check : ConOk E C 60 conref11_Check :=
  con_ok (D := datref11_Check) ⟨d0Ok, eGood, tblOf_ok ⟨okref11_Site, trivial⟩, fun _ => rfl⟩ conref11_Check (fun a b => a) none (fun _ _ => rfl) rfl (fun _ _ h => nomatch h) 1000000 (fn := Try.f60) Try.func60 rfl (by kernel_rfl) (by kernel_rfl) rfl (by intro N a b; kernel_rfl)
def Fref11_Node (N : Nat) (s : GStamp) : Option (Int) :=
 ((Fref11_Check N s).bind fun r1 =>
 (bif (!r1) then
 (some 0)
 else
 (some (IntKind.i64.wrap ((IntKind.i64.wrap (16 + (IntKind.i64.wrap (s.Time * 8)))) + s.Site)))))
def conref11_Node : Con τ := { args := [.ty 41], L := [], ret := .ty 2, L' := [], R := Int, dflt := default, F := fun N a b => Fref11_Node N a.1, of := fun r => (r, ()) }
noncomputable def datref11_Node : Dat τ := { D := D0, tbl := tblOf [(60, conref11_Check)], lp := lpsOf [], k0 := 0, mu := [], un := [] }
theorem okref11_Node : ConOk E C 61 conref11_Node :=
  con_ok (D := datref11_Node) ⟨d0Ok, eGood, tblOf_ok ⟨okref11_Check, trivial⟩, fun _ => rfl⟩ conref11_Node (fun a b => a) none (fun _ _ => rfl) rfl (fun _ _ h => nomatch h) 1000000 (fn := Try.f61) Try.func61 rfl (by kernel_rfl) (by kernel_rfl) rfl (by intro N a b; kernel_rfl)
def Fref11_top (N : Nat) (node : Int) : Option (Bool) :=
 (some ((node == 1) || (node == 2)))
def conref11_top : Con τ := { args := [.ty 2], L := [], ret := .ty 4, L' := [], R := Bool, dflt := default, F := fun N a b => Fref11_top N a.1, of := fun r => (r, ()) }
noncomputable def datref11_top : Dat τ := { D := D0, tbl := tblOf [], lp := lpsOf [], k0 := 0, mu := [], un := [] }
theorem okref11_top : ConOk E C 64 conref11_top :=
  con_ok (D := datref11_top) ⟨d0Ok, eGood, tblOf_ok trivial, fun _ => rfl⟩ conref11_top (fun a b => a) none (fun _ _ => rfl) rfl (fun _ _ h => nomatch h) 1000000 (fn := Try.f64) Try.func64 rfl (by kernel_rfl) (by kernel_rfl) rfl (by intro N a b; kernel_rfl)
def Fref11_Of (N : Nat) (node : Int) : Option (GStamp × Bool) :=
 (bif (decide (node < 16)) then
 (some ((⟨0, 0⟩ : GStamp), false))
 else
 ((Fref11_Check N (⟨(IntKind.i64.wrap (Int.tdiv (IntKind.i64.wrap (node - 16)) 8)), (Int.tmod (IntKind.i64.wrap (node - 16)) 8)⟩ : GStamp)).bind fun r1 =>
 (bif (!r1) then
 (some ((⟨0, 0⟩ : GStamp), false))
 else
 (some ((⟨(IntKind.i64.wrap (Int.tdiv (IntKind.i64.wrap (node - 16)) 8)), (Int.tmod (IntKind.i64.wrap (node - 16)) 8)⟩ : GStamp), true)))))
def conref11_Of : Con τ := { args := [.ty 2], L := [], ret := .tup [.ty 41, .ty 4], L' := [], R := GStamp × Bool, dflt := (default, default), F := fun N a b => Fref11_Of N a.1, of := fun r => ((r.1, r.2, ()), ()) }
noncomputable def datref11_Of : Dat τ := { D := D0, tbl := tblOf [(60, conref11_Check)], lp := lpsOf [], k0 := 0, mu := [], un := [] }
theorem okref11_Of : ConOk E C 109 conref11_Of :=
  con_ok (D := datref11_Of) ⟨d0Ok, eGood, tblOf_ok ⟨okref11_Check, trivial⟩, fun _ => rfl⟩ conref11_Of (fun a b => (a.1, a.2.1)) none (fun _ _ => rfl) rfl (fun _ _ h => nomatch h) 1000000 (fn := Try.f109) Try.func109 rfl (by kernel_rfl) (by kernel_rfl) rfl (by intro N a b; kernel_rfl)
def Fref11_made (N : Nat) (node : Int) : Option (Bool) :=
 ((Fref11_Of N node).bind fun r1 =>
 (some r1.2))
def conref11_made : Con τ := { args := [.ty 2], L := [], ret := .ty 4, L' := [], R := Bool, dflt := default, F := fun N a b => Fref11_made N a.1, of := fun r => (r, ()) }
noncomputable def datref11_made : Dat τ := { D := D0, tbl := tblOf [(109, conref11_Of)], lp := lpsOf [], k0 := 0, mu := [], un := [] }
theorem okref11_made : ConOk E C 63 conref11_made :=
  con_ok (D := datref11_made) ⟨d0Ok, eGood, tblOf_ok ⟨okref11_Of, trivial⟩, fun _ => rfl⟩ conref11_made (fun a b => a) none (fun _ _ => rfl) rfl (fun _ _ h => nomatch h) 1000000 (fn := Try.f63) Try.func63 rfl (by kernel_rfl) (by kernel_rfl) rfl (by intro N a b; kernel_rfl)
structure Sref11_namex6 where
  i : Int
def tsref11_namex6 : List Sl := [.k, .k, .j, .sh (.ty 2), .k, .k, .k, .k, .k, .k, .j, .j, .k, .k, .j, .j, .k, .j, .j, .j, .j, .j, .j, .j, .j, .j, .j]
def hsref11_namex6 : List ESh := []
def toref11_namex6 (a : Sl.Ts τ tsref11_namex6) (b : ESh.Ts τ hsref11_namex6) : Sref11_namex6 := ⟨a.2.2.2.1⟩
def otref11_namex6 (s : Sref11_namex6) : Sl.Ts τ tsref11_namex6 := ((), (), (), s.i, (), (), (), (), (), (), (), (), (), (), (), (), (), (), (), (), (), (), (), (), (), (), (), ())
def ohref11_namex6 (s : Sref11_namex6) : ESh.Ts τ hsref11_namex6 := ()
def lpref11_namex6 : Lp τ := { ts := tsref11_namex6, hs := hsref11_namex6, S := Sref11_namex6, to := toref11_namex6, ot := otref11_namex6, oh := ohref11_namex6, hk := [], tk := [], ot_to := fun _ _ => rfl, oh_to := fun _ _ => rfl }
def Fref11_name (N : Nat) (s : List UInt8) : Option (Int) :=
 (bif (decide (255 < ((s).length : Int))) then
 (some 3)
 else
 (bif (((s == []) || (s == [46])) || (s == [46, 46])) then
 (some 1)
 else
 (iter N (fun (s1 : Sref11_namex6) next2 =>
 (bif (decide (s1.i < ((s).length : Int))) then
 (bif (ibB s1.i ((s).length : Int)) then
 (bif ((((s).getD ((s1.i).toNat) 0).toNat : Int) == 47) then
 (some 1)
 else
 (next2 ⟨(IntKind.i64.wrap (s1.i + 1))⟩))
 else none)
 else
 (some 0))) ⟨0⟩)))
def conref11_name : Con τ := { args := [.ty 9], L := [], ret := .ty 56, L' := [], R := Int, dflt := default, F := fun N a b => Fref11_name N a.1, of := fun r => (r, ()) }
noncomputable def datref11_name : Dat τ := { D := D0, tbl := tblOf [], lp := lpsOf [(6, lpref11_namex6)], k0 := 0, mu := [], un := [] }
theorem okref11_name : ConOk E C 108 conref11_name :=
  con_ok (D := datref11_name) ⟨d0Ok, eGood, tblOf_ok trivial, fun _ => rfl⟩ conref11_name (fun a b => a) none (fun _ _ => rfl) rfl (fun _ _ h => nomatch h) 1000000 (fn := Try.f108) Try.func108 rfl (by kernel_rfl) (by kernel_rfl) rfl (by intro N a b; kernel_rfl)
def Fref11_place (N : Nat) (op : GOp) : Option (Int) :=
 ((Fref11_top N op.Parent).bind fun r1 =>
 ((bif (!r1) then Fref11_made N op.Parent else some default).bind fun r2 =>
 (bif ((!r1) && (!r2)) then
 (some 1)
 else
 ((Fref11_name N op.Name).bind fun r3 =>
 (bif (!(r3 == 0)) then
 (some r3)
 else
 (bif ((!(op.Key == [])) || (!(op.Value == []))) then
 (some 1)
 else
 (some 0)))))))
def conref11_place : Con τ := { args := [.ty 43], L := [], ret := .ty 56, L' := [], R := Int, dflt := default, F := fun N a b => Fref11_place N a.1, of := fun r => (r, ()) }
noncomputable def datref11_place : Dat τ := { D := D0, tbl := tblOf [(64, conref11_top), (63, conref11_made), (108, conref11_name)], lp := lpsOf [], k0 := 0, mu := [], un := [] }
theorem okref11_place : ConOk E C 62 conref11_place :=
  con_ok (D := datref11_place) ⟨d0Ok, eGood, tblOf_ok ⟨okref11_top, ⟨okref11_made, ⟨okref11_name, trivial⟩⟩⟩, fun _ => rfl⟩ conref11_place (fun a b => a) none (fun _ _ => rfl) rfl (fun _ _ h => nomatch h) 1000000 (fn := Try.f62) Try.func62 rfl (by kernel_rfl) (by kernel_rfl) rfl (by intro N a b; kernel_rfl)
def Fref11_CheckOp (N : Nat) (op : GOp) : Option (Int) :=
 ((Fref11_Check N op.Stamp).bind fun r1 =>
 (bif (((!r1) || (decide (op.Kind < 1))) || (decide (3 < op.Kind))) then
 (some 1)
 else
 ((bif (op.Kind == 1) then Fref11_Node N op.Stamp else some default).bind fun r2 =>
 (bif ((op.Kind == 1) && (!(op.Node == r2))) then
 (some 1)
 else
 (bif (!(op.Kind == 3)) then
 ((Fref11_place N op).bind fun r3 =>
 (bif (!(r3 == 0)) then
 (some r3)
 else
 ((bif (op.Kind == 2) then Fref11_made N op.Node else some default).bind fun r4 =>
 ((bif ((!((op.Kind == 2) && (!r4))) && (op.Kind == 3)) then Fref11_made N op.Node else some default).bind fun r5 =>
 ((bif ((!((op.Kind == 2) && (!r4))) && ((op.Kind == 3) && (!r5))) then Fref11_top N op.Node else some default).bind fun r6 =>
 (bif (((op.Kind == 2) && (!r4)) || (((op.Kind == 3) && (!r5)) && (!r6))) then
 (some 1)
 else
 (bif (!(op.Kind == 3)) then
 (some 0)
 else
 (bif ((decide (255 < ((op.Key).length : Int))) || (decide (255 < ((op.Value).length : Int)))) then
 (some 3)
 else
 (bif (((op.Key == []) || (!(op.Parent == 0))) || (!(op.Name == []))) then
 (some 1)
 else
 (some 0))))))))))
 else
 ((bif (op.Kind == 2) then Fref11_made N op.Node else some default).bind fun r7 =>
 ((bif ((!((op.Kind == 2) && (!r7))) && (op.Kind == 3)) then Fref11_made N op.Node else some default).bind fun r8 =>
 ((bif ((!((op.Kind == 2) && (!r7))) && ((op.Kind == 3) && (!r8))) then Fref11_top N op.Node else some default).bind fun r9 =>
 (bif (((op.Kind == 2) && (!r7)) || (((op.Kind == 3) && (!r8)) && (!r9))) then
 (some 1)
 else
 (bif (!(op.Kind == 3)) then
 (some 0)
 else
 (bif ((decide (255 < ((op.Key).length : Int))) || (decide (255 < ((op.Value).length : Int)))) then
 (some 3)
 else
 (bif (((op.Key == []) || (!(op.Parent == 0))) || (!(op.Name == []))) then
 (some 1)
 else
 (some 0)))))))))))))
def conref11_CheckOp : Con τ := { args := [.ty 43], L := [], ret := .ty 56, L' := [], R := Int, dflt := default, F := fun N a b => Fref11_CheckOp N a.1, of := fun r => (r, ()) }
noncomputable def datref11_CheckOp : Dat τ := { D := D0, tbl := tblOf [(60, conref11_Check), (61, conref11_Node), (62, conref11_place), (63, conref11_made), (64, conref11_top)], lp := lpsOf [], k0 := 0, mu := [], un := [] }
theorem okref11_CheckOp : ConOk E C 36 conref11_CheckOp :=
  con_ok (D := datref11_CheckOp) ⟨d0Ok, eGood, tblOf_ok ⟨okref11_Check, ⟨okref11_Node, ⟨okref11_place, ⟨okref11_made, ⟨okref11_top, trivial⟩⟩⟩⟩⟩, fun _ => rfl⟩ conref11_CheckOp (fun a b => a) none (fun _ _ => rfl) rfl (fun _ _ h => nomatch h) 1000000 (fn := Try.f36) Try.func36 rfl (by kernel_rfl) (by kernel_rfl) rfl (by intro N a b; kernel_rfl)
structure Sref16_Takex7 where
  l : List (GOp)
  last : Int
  number : Int
  i : Int
def tsref16_Takex7 : List Sl := [.k, .k, .k, .k, .k, .k, .k, .k, .k, .sh (.own 43 1), .sh (.ty 2), .sh (.ty 2), .sh (.ty 2), .j, .k, .k, .k, .k, .j, .j, .j, .j, .k, .k, .j, .j, .j, .j, .j, .j, .k, .k, .j, .j, .k, .k, .j, .j, .j, .j, .j, .j, .k, .k, .j, .j, .j, .j, .j, .k, .k, .k, .k, .k, .k, .j, .j, .j, .j, .j, .j, .j, .j, .j, .j, .j, .j, .j, .j, .j, .j, .j, .j, .j, .j, .j, .j, .j, .j, .j, .j, .j, .j, .j, .j, .j, .j, .j, .j, .j, .j, .j, .j, .j, .j, .j, .j, .j, .j, .j, .j, .j, .j, .j, .j, .j, .j, .j, .j, .j, .j, .j, .j, .j, .j, .j, .j, .j, .j, .j, .j, .j, .j, .j, .k]
def hsref16_Takex7 : List ESh := [.keep, .tail]
def toref16_Takex7 (a : Sl.Ts τ tsref16_Takex7) (b : ESh.Ts τ hsref16_Takex7) : Sref16_Takex7 := ⟨a.2.2.2.2.2.2.2.2.2.1, a.2.2.2.2.2.2.2.2.2.2.1, a.2.2.2.2.2.2.2.2.2.2.2.1, a.2.2.2.2.2.2.2.2.2.2.2.2.1⟩
def otref16_Takex7 (s : Sref16_Takex7) : Sl.Ts τ tsref16_Takex7 := ((), (), (), (), (), (), (), (), (), s.l, s.last, s.number, s.i, (), (), (), (), (), (), (), (), (), (), (), (), (), (), (), (), (), (), (), (), (), (), (), (), (), (), (), (), (), (), (), (), (), (), (), (), (), (), (), (), (), (), (), (), (), (), (), (), (), (), (), (), (), (), (), (), (), (), (), (), (), (), (), (), (), (), (), (), (), (), (), (), (), (), (), (), (), (), (), (), (), (), (), (), (), (), (), (), (), (), (), (), (), (), (), (), (), (), (), (), (), (), (), (), (), (), (), (), (), (), (), (), ())
def ohref16_Takex7 (s : Sref16_Takex7) : ESh.Ts τ hsref16_Takex7 := ((), (), ())
def lpref16_Takex7 : Lp τ := { ts := tsref16_Takex7, hs := hsref16_Takex7, S := Sref16_Takex7, to := toref16_Takex7, ot := otref16_Takex7, oh := ohref16_Takex7, hk := [2], tk := [0, 0, 0, 0, 2, 0, 0, 0, 0, 0, 0, 0, 0, 0, 0, 0, 0, 0, 0, 0, 0, 0, 0, 0, 0, 0, 0, 0, 0, 0, 0, 0, 0, 0, 0, 0, 0, 0, 0, 0, 0, 0, 0, 0, 0, 0, 0, 0, 0, 0, 0, 2, 2], ot_to := fun _ _ => rfl, oh_to := fun _ _ => rfl }
def Fref16_Take (N : Nat) (s : GSnap) (origin : Int) (seq : Int) (ops : List (GOp)) : Option ((List (GOp))) :=
 ((Fref16_site N origin).bind fun r1 =>
 (bif (!(!((!r1) || (origin == s.Site))) || (ibB origin 8)) then
 (bif (!(!((((!r1) || (origin == s.Site)) || ((vget s.Epoch.States ((origin).toNat) default) == 0)) || (decide (seq < 0)))) || (ibB origin 8)) then
 (bif (!(!(((((!r1) || (origin == s.Site)) || ((vget s.Epoch.States ((origin).toNat) default) == 0)) || (decide (seq < 0))) || (decide ((vget s.Vector_ ((origin).toNat) default) < seq)))) || (ibB origin 8)) then
 (bif ((((((!r1) || (origin == s.Site)) || ((vget s.Epoch.States ((origin).toNat) default) == 0)) || (decide (seq < 0))) || (decide ((vget s.Vector_ ((origin).toNat) default) < seq))) || (decide (1099511627776 < (vget s.Vector_ ((origin).toNat) default)))) then
 (some [])
 else
 (bif (ibB origin 8) then
 (iter N (fun (s2 : Sref16_Takex7) next3 =>
 (bif (decide (s2.i < ((ops).length : Int))) then
 (bif (ibB s2.i ((ops).length : Int)) then
 (bif (ibB origin 8) then
 (bif (decide ((vget s.Vector_ ((origin).toNat) default) ≤ s2.number)) then
 (bif (!(!(decide (1099511627776 ≤ s2.number))) || (ibB origin 8)) then
 (bif (!((!(decide (1099511627776 ≤ s2.number))) && ((vget s.Epoch.States ((origin).toNat) default) == 3)) || (ibB origin 8)) then
 (bif ((decide (1099511627776 ≤ s2.number)) || (((vget s.Epoch.States ((origin).toNat) default) == 3) && (decide ((vget s.Epoch.Seals ((origin).toNat) default) ≤ s2.number)))) then
 (some s2.l)
 else
 ((Fref11_CheckOp N (⟨((lget ops s2.i default).Stamp), (lget ops s2.i default).Kind, (lget ops s2.i default).Node, (lget ops s2.i default).Parent, (lget ops s2.i default).Name, (lget ops s2.i default).Key, (lget ops s2.i default).Value⟩ : GOp)).bind fun r4 =>
 (bif ((((!(r4 == 0)) || (!((((lget ops s2.i default).Stamp).Site) == origin))) || (decide ((((lget ops s2.i default).Stamp).Time) ≤ s2.last))) || (decide ((((lget ops s2.i default).Stamp).Time) ≤ s.Frontier))) then
 (some s2.l)
 else
 (bif (lenB ((s2.l).length + ([(⟨((lget ops s2.i default).Stamp), (lget ops s2.i default).Kind, (lget ops s2.i default).Node, (lget ops s2.i default).Parent, (lget ops s2.i default).Name, (lget ops s2.i default).Key, (lget ops s2.i default).Value⟩ : GOp)]).length) 88) then
 (next3 ⟨(s2.l ++ [(⟨((lget ops s2.i default).Stamp), (lget ops s2.i default).Kind, (lget ops s2.i default).Node, (lget ops s2.i default).Parent, (lget ops s2.i default).Name, (lget ops s2.i default).Key, (lget ops s2.i default).Value⟩ : GOp)]), ((lget ops s2.i default).Stamp).Time, (IntKind.i64.wrap (s2.number + 1)), (IntKind.i64.wrap (s2.i + 1))⟩)
 else none))))
 else none)
 else none)
 else
 (next3 ⟨s2.l, s2.last, (IntKind.i64.wrap (s2.number + 1)), (IntKind.i64.wrap (s2.i + 1))⟩))
 else none)
 else none)
 else
 (some s2.l))) ⟨[], (vget s.Last ((origin).toNat) default), seq, 0⟩)
 else none))
 else none)
 else none)
 else none))
def conref16_Take : Con τ := { args := [.ty 34, .ty 3, .ty 2, .ty 28], L := [], ret := .ty 28, L' := [], R := (List (GOp)), dflt := default, F := fun N a b => Fref16_Take N a.1 a.2.1 a.2.2.1 a.2.2.2.1, of := fun r => (r, ()) }
noncomputable def datref16_Take : Dat τ := { D := D0, tbl := tblOf [(35, conref16_site), (36, conref11_CheckOp)], lp := lpsOf [(7, lpref16_Takex7)], k0 := 0, mu := [], un := [] }
theorem okref16_Take : ConOk E C 13 conref16_Take :=
  con_ok (D := datref16_Take) ⟨d0Ok, eGood, tblOf_ok ⟨okref16_site, ⟨okref11_CheckOp, trivial⟩⟩, fun _ => rfl⟩ conref16_Take (fun a b => a) none (fun _ _ => rfl) rfl (fun _ _ h => nomatch h) 1000000 (fn := Try.f13) Try.func13 rfl (by kernel_rfl) (by kernel_rfl) rfl (by intro N a b; kernel_rfl)
def Fref16_Member (N : Nat) (e : GEpoch) (n : Int) : Option (Bool) :=
 ((Fref16_site N n).bind fun r1 =>
 (bif (!r1 || (ibB n 8)) then
 (bif (!(r1 && (!((vget e.States ((n).toNat) default) == 1))) || (ibB n 8)) then
 (some (r1 && (((vget e.States ((n).toNat) default) == 1) || ((vget e.States ((n).toNat) default) == 2))))
 else none)
 else none))
def conref16_Member : Con τ := { args := [.ty 26, .ty 3], L := [], ret := .ty 4, L' := [], R := Bool, dflt := default, F := fun N a b => Fref16_Member N a.1 a.2.1, of := fun r => (r, ()) }
noncomputable def datref16_Member : Dat τ := { D := D0, tbl := tblOf [(35, conref16_site)], lp := lpsOf [], k0 := 0, mu := [], un := [] }
theorem okref16_Member : ConOk E C 40 conref16_Member :=
  con_ok (D := datref16_Member) ⟨d0Ok, eGood, tblOf_ok ⟨okref16_site, trivial⟩, fun _ => rfl⟩ conref16_Member (fun a b => a) none (fun _ _ => rfl) rfl (fun _ _ h => nomatch h) 1000000 (fn := Try.f40) Try.func40 rfl (by kernel_rfl) (by kernel_rfl) rfl (by intro N a b; kernel_rfl)
structure Sref16_abovex2 where
  i : Int
def tsref16_abovex2 : List Sl := [.k, .k, .k, .k, .j, .sh (.ty 2), .j, .j, .j, .j, .j, .j, .j, .j, .j, .j, .j]
def hsref16_abovex2 : List ESh := [.keep, .keep]
def toref16_abovex2 (a : Sl.Ts τ tsref16_abovex2) (b : ESh.Ts τ hsref16_abovex2) : Sref16_abovex2 := ⟨a.2.2.2.2.2.1⟩
def otref16_abovex2 (s : Sref16_abovex2) : Sl.Ts τ tsref16_abovex2 := ((), (), (), (), (), s.i, (), (), (), (), (), (), (), (), (), (), (), ())
def ohref16_abovex2 (s : Sref16_abovex2) : ESh.Ts τ hsref16_abovex2 := ((), (), ())
def lpref16_abovex2 : Lp τ := { ts := tsref16_abovex2, hs := hsref16_abovex2, S := Sref16_abovex2, to := toref16_abovex2, ot := otref16_abovex2, oh := ohref16_abovex2, hk := [2, 2], tk := [0, 0, 2, 3], ot_to := fun _ _ => rfl, oh_to := fun _ _ => rfl }
def Fref16_above (N : Nat) (a : Vector (Int) 8) (b : Vector (Int) 8) : Option (Bool) :=
 (iter N (fun (s1 : Sref16_abovex2) next2 =>
 (bif (decide (s1.i < 8)) then
 (bif (ibB s1.i 8) then
 (bif (ibB s1.i 8) then
 (bif (decide ((vget b ((s1.i).toNat) default) < (vget a ((s1.i).toNat) default))) then
 (some true)
 else
 (next2 ⟨(IntKind.i64.wrap (s1.i + 1))⟩))
 else none)
 else none)
 else
 (some false))) ⟨0⟩)
def conref16_above : Con τ := { args := [.ty 24, .ty 24], L := [], ret := .ty 4, L' := [], R := Bool, dflt := default, F := fun N a b => Fref16_above N a.1 a.2.1, of := fun r => (r, ()) }
noncomputable def datref16_above : Dat τ := { D := D0, tbl := tblOf [], lp := lpsOf [(2, lpref16_abovex2)], k0 := 0, mu := [], un := [] }
theorem okref16_above : ConOk E C 45 conref16_above :=
  con_ok (D := datref16_above) ⟨d0Ok, eGood, tblOf_ok trivial, fun _ => rfl⟩ conref16_above (fun a b => a) none (fun _ _ => rfl) rfl (fun _ _ h => nomatch h) 1000000 (fn := Try.f45) Try.func45 rfl (by kernel_rfl) (by kernel_rfl) rfl (by intro N a b; kernel_rfl)
def Fref16_Useful (N : Nat) (s : GSnap) (x : GEntry) : Option (Bool) :=
 (bif (x.Kind == 1) then
 (bif (x.Kind == 1) then
 (some true)
 else
 (bif (x.Kind == 2) then
 ((Fref16_Take N s x.Origin x.Seq x.Ops).bind fun r1 =>
 (some (decide (0 < ((r1).length : Int)))))
 else
 (bif (x.Kind == 4) then
 ((bif ((x.Seq == s.Epoch.Number) && (!(x.From == s.Site))) then Fref16_Member N s.Epoch x.From else some default).bind fun r2 =>
 (bif (!(((x.Seq == s.Epoch.Number) && (!(x.From == s.Site))) && r2) || (ibB x.From 8)) then
 ((bif (((x.Seq == s.Epoch.Number) && (!(x.From == s.Site))) && r2) then Fref16_above N x.Vector_ (vget s.Known ((x.From).toNat) default) else some default).bind fun r3 =>
 (bif (!((((x.Seq == s.Epoch.Number) && (!(x.From == s.Site))) && r2) && (!r3)) || (ibB x.From 8)) then
 (some ((((x.Seq == s.Epoch.Number) && (!(x.From == s.Site))) && r2) && (r3 || (decide ((vget s.Clocks ((x.From).toNat) default) < x.Clock)))))
 else none))
 else none))
 else
 (bif (x.Kind == 3) then
 (some (decide (s.Epoch.Number < x.Epoch.Number)))
 else
 (some false)))))
 else
 (bif (x.Kind == 5) then
 (some true)
 else
 (bif (x.Kind == 2) then
 ((Fref16_Take N s x.Origin x.Seq x.Ops).bind fun r4 =>
 (some (decide (0 < ((r4).length : Int)))))
 else
 (bif (x.Kind == 4) then
 ((bif ((x.Seq == s.Epoch.Number) && (!(x.From == s.Site))) then Fref16_Member N s.Epoch x.From else some default).bind fun r5 =>
 (bif (!(((x.Seq == s.Epoch.Number) && (!(x.From == s.Site))) && r5) || (ibB x.From 8)) then
 ((bif (((x.Seq == s.Epoch.Number) && (!(x.From == s.Site))) && r5) then Fref16_above N x.Vector_ (vget s.Known ((x.From).toNat) default) else some default).bind fun r6 =>
 (bif (!((((x.Seq == s.Epoch.Number) && (!(x.From == s.Site))) && r5) && (!r6)) || (ibB x.From 8)) then
 (some ((((x.Seq == s.Epoch.Number) && (!(x.From == s.Site))) && r5) && (r6 || (decide ((vget s.Clocks ((x.From).toNat) default) < x.Clock)))))
 else none))
 else none))
 else
 (bif (x.Kind == 3) then
 (some (decide (s.Epoch.Number < x.Epoch.Number)))
 else
 (some false))))))
def conref16_Useful : Con τ := { args := [.ty 34, .ty 53], L := [], ret := .ty 4, L' := [], R := Bool, dflt := default, F := fun N a b => Fref16_Useful N a.1 a.2.1, of := fun r => (r, ()) }
noncomputable def datref16_Useful : Dat τ := { D := D0, tbl := tblOf [(13, conref16_Take), (40, conref16_Member), (45, conref16_above)], lp := lpsOf [], k0 := 0, mu := [], un := [] }
theorem okref16_Useful : ConOk E C 29 conref16_Useful :=
  con_ok (D := datref16_Useful) ⟨d0Ok, eGood, tblOf_ok ⟨okref16_Take, ⟨okref16_Member, ⟨okref16_above, trivial⟩⟩⟩, fun _ => rfl⟩ conref16_Useful (fun a b => a) none (fun _ _ => rfl) rfl (fun _ _ h => nomatch h) 1000000 (fn := Try.f29) Try.func29 rfl (by kernel_rfl) (by kernel_rfl) rfl (by intro N a b; kernel_rfl)
def Flaw16_ExchangeEntries (N : Nat) (s : GSnap) (m : GMsg) (x : GEntry) : Option (Bool) :=
 ((Fexchange_Entry N m).bind fun r1 =>
 ((Fref16_Entry N m).bind fun r2 =>
 ((Flaw16_begun N).bind fun r3 =>
 ((bif (r3 && (r1.2 == r2.2)) then Fref04_SameEntry N r1.1 r2.1 else some default).bind fun r4 =>
 ((bif ((r3 && (r1.2 == r2.2)) && r4) then Fexchange_Useful N s x else some default).bind fun r5 =>
 ((bif ((r3 && (r1.2 == r2.2)) && r4) then Fref16_Useful N s x else some default).bind fun r6 =>
 (some (((r3 && (r1.2 == r2.2)) && r4) && (r5 == r6)))))))))
def conlaw16_ExchangeEntries : Con τ := { args := [.ty 34, .ty 55, .ty 53], L := [], ret := .ty 4, L' := [], R := Bool, dflt := default, F := fun N a b => Flaw16_ExchangeEntries N a.1 a.2.1 a.2.2.1, of := fun r => (r, ()) }
noncomputable def datlaw16_ExchangeEntries : Dat τ := { D := D0, tbl := tblOf [(25, conexchange_Entry), (26, conref16_Entry), (10, conlaw16_begun), (27, conref04_SameEntry), (28, conexchange_Useful), (29, conref16_Useful)], lp := lpsOf [], k0 := 0, mu := [], un := [] }
theorem oklaw16_ExchangeEntries : ConOk E C 8 conlaw16_ExchangeEntries :=
  con_ok (D := datlaw16_ExchangeEntries) ⟨d0Ok, eGood, tblOf_ok ⟨okexchange_Entry, ⟨okref16_Entry, ⟨oklaw16_begun, ⟨okref04_SameEntry, ⟨okexchange_Useful, ⟨okref16_Useful, trivial⟩⟩⟩⟩⟩⟩, fun _ => rfl⟩ conlaw16_ExchangeEntries (fun a b => a) none (fun _ _ => rfl) rfl (fun _ _ h => nomatch h) 1000000 (fn := Try.f8) Try.func8 rfl (by kernel_rfl) (by kernel_rfl) rfl (by intro N a b; kernel_rfl)
end Go.Proofs.Ytekpjhhbmjcbmaa
