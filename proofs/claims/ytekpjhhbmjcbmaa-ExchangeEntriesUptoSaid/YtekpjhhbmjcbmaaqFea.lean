/-
The functions of this seat, as plain functions over typed data, each with its contract. Printed by wip/tools/fngen.py.
-/
import Derived.Test.YtekpjhhbmjcbmaaqCod
import Derived.Test.YtekpjhhbmjcbmaaqTvX
import Derived.KernelRfl
set_option linter.unusedVariables false
set_option maxRecDepth 100000
namespace Go.Proofs.Ytekpjhhbmjcbmaa
open Go Go.Ev
structure Srecord_mayAddrx2 where
  t7 : Int
def tsrecord_mayAddrx2 : List Sl := [.k, .k, .j, .k, .j, .k, .k, .sh (.ty 2), .j, .j, .j, .j, .j, .j, .j, .j, .j, .j, .j, .j, .j, .j, .j, .j, .j, .j, .j, .j, .j, .j]
def hsrecord_mayAddrx2 : List ESh := []
def torecord_mayAddrx2 (a : Sl.Ts τ tsrecord_mayAddrx2) (b : ESh.Ts τ hsrecord_mayAddrx2) : Srecord_mayAddrx2 := ⟨a.2.2.2.2.2.2.2.1⟩
def otrecord_mayAddrx2 (s : Srecord_mayAddrx2) : Sl.Ts τ tsrecord_mayAddrx2 := ((), (), (), (), (), (), (), s.t7, (), (), (), (), (), (), (), (), (), (), (), (), (), (), (), (), (), (), (), (), (), (), ())
def ohrecord_mayAddrx2 (s : Srecord_mayAddrx2) : ESh.Ts τ hsrecord_mayAddrx2 := ()
def lprecord_mayAddrx2 : Lp τ := { ts := tsrecord_mayAddrx2, hs := hsrecord_mayAddrx2, S := Srecord_mayAddrx2, to := torecord_mayAddrx2, ot := otrecord_mayAddrx2, oh := ohrecord_mayAddrx2, hk := [], tk := [], ot_to := fun _ _ => rfl, oh_to := fun _ _ => rfl }
def Frecord_mayAddr (N : Nat) (l : List (GAddr)) : Option (Bool) :=
 (iter N (fun (s1 : Srecord_mayAddrx2) next2 =>
 (bif (decide (s1.t7 < ((l).length : Int))) then
 (bif (ibB s1.t7 ((l).length : Int)) then
 (bif ((((decide (((lget l s1.t7 default).Group) < 0)) || (decide (9 ≤ ((lget l s1.t7 default).Group)))) || (decide (((lget l s1.t7 default).Replica) < 0))) || (decide (5 ≤ ((lget l s1.t7 default).Replica)))) then
 (some false)
 else
 (next2 ⟨(IntKind.i64.wrap (s1.t7 + 1))⟩))
 else none)
 else
 (some true))) ⟨0⟩)
def conrecord_mayAddr : Con τ := { args := [.ty 107], L := [], ret := .ty 4, L' := [], R := Bool, dflt := default, F := fun N a b => Frecord_mayAddr N a.1, of := fun r => (r, ()) }
noncomputable def datrecord_mayAddr : Dat τ := { D := D0, tbl := tblOf [], lp := lpsOf [(2, lprecord_mayAddrx2)], k0 := 0, mu := [], un := [] }
theorem okrecord_mayAddr : ConOk E C 82 conrecord_mayAddr :=
  con_ok (D := datrecord_mayAddr) ⟨d0Ok, eGood, tblOf_ok trivial, fun _ => rfl⟩ conrecord_mayAddr (fun a b => a) none (fun _ _ => rfl) rfl (fun _ _ h => nomatch h) 1000000 (fn := Try.f82) Try.func82 rfl (by kernel_rfl) (by kernel_rfl) rfl (by intro N a b; kernel_rfl)
structure Srecord_countx2 where
  t7 : Int
def tsrecord_countx2 : List Sl := [.k, .k, .j, .k, .j, .k, .k, .sh (.ty 2), .j, .j, .j, .j, .j, .j, .j, .j, .j, .j]
def hsrecord_countx2 : List ESh := []
def torecord_countx2 (a : Sl.Ts τ tsrecord_countx2) (b : ESh.Ts τ hsrecord_countx2) : Srecord_countx2 := ⟨a.2.2.2.2.2.2.2.1⟩
def otrecord_countx2 (s : Srecord_countx2) : Sl.Ts τ tsrecord_countx2 := ((), (), (), (), (), (), (), s.t7, (), (), (), (), (), (), (), (), (), (), ())
def ohrecord_countx2 (s : Srecord_countx2) : ESh.Ts τ hsrecord_countx2 := ()
def lprecord_countx2 : Lp τ := { ts := tsrecord_countx2, hs := hsrecord_countx2, S := Srecord_countx2, to := torecord_countx2, ot := otrecord_countx2, oh := ohrecord_countx2, hk := [], tk := [], ot_to := fun _ _ => rfl, oh_to := fun _ _ => rfl }
def Frecord_count (N : Nat) (l : List (Int)) : Option (Bool) :=
 (iter N (fun (s1 : Srecord_countx2) next2 =>
 (bif (decide (s1.t7 < ((l).length : Int))) then
 (bif (ibB s1.t7 ((l).length : Int)) then
 (bif ((decide ((lget l s1.t7 default) < 0)) || (decide (1099511627776 < (lget l s1.t7 default)))) then
 (some false)
 else
 (next2 ⟨(IntKind.i64.wrap (s1.t7 + 1))⟩))
 else none)
 else
 (some true))) ⟨0⟩)
def conrecord_count : Con τ := { args := [.ty 126], L := [], ret := .ty 4, L' := [], R := Bool, dflt := default, F := fun N a b => Frecord_count N a.1, of := fun r => (r, ()) }
noncomputable def datrecord_count : Dat τ := { D := D0, tbl := tblOf [], lp := lpsOf [(2, lprecord_countx2)], k0 := 0, mu := [], un := [] }
theorem okrecord_count : ConOk E C 88 conrecord_count :=
  con_ok (D := datrecord_count) ⟨d0Ok, eGood, tblOf_ok trivial, fun _ => rfl⟩ conrecord_count (fun a b => a) none (fun _ _ => rfl) rfl (fun _ _ h => nomatch h) 1000000 (fn := Try.f88) Try.func88 rfl (by kernel_rfl) (by kernel_rfl) rfl (by intro N a b; kernel_rfl)
def Frecord_mayBallot (N : Nat) (b : GBallot) : Option (Bool) :=
 ((Frecord_count N [b.Round]).bind fun r1 =>
 (some ((r1 && (decide (0 ≤ b.Replica))) && (decide (b.Replica < 5)))))
def conrecord_mayBallot : Con τ := { args := [.ty 47], L := [], ret := .ty 4, L' := [], R := Bool, dflt := default, F := fun N a b => Frecord_mayBallot N a.1, of := fun r => (r, ()) }
noncomputable def datrecord_mayBallot : Dat τ := { D := D0, tbl := tblOf [(88, conrecord_count)], lp := lpsOf [], k0 := 0, mu := [], un := [] }
theorem okrecord_mayBallot : ConOk E C 87 conrecord_mayBallot :=
  con_ok (D := datrecord_mayBallot) ⟨d0Ok, eGood, tblOf_ok ⟨okrecord_count, trivial⟩, fun _ => rfl⟩ conrecord_mayBallot (fun a b => a) none (fun _ _ => rfl) rfl (fun _ _ h => nomatch h) 1000000 (fn := Try.f87) Try.func87 rfl (by kernel_rfl) (by kernel_rfl) rfl (by intro N a b; kernel_rfl)
structure Sslices_Equal_Opx4 where
  t13 : Int
def tsslices_Equal_Opx4 : List Sl := [.k, .k, .k, .k, .j, .j, .k, .k, .k, .k, .k, .k, .k, .sh (.ty 2), .j, .j, .j, .j, .j, .j, .j, .j, .j, .j, .j, .j]
def hsslices_Equal_Opx4 : List ESh := []
def toslices_Equal_Opx4 (a : Sl.Ts τ tsslices_Equal_Opx4) (b : ESh.Ts τ hsslices_Equal_Opx4) : Sslices_Equal_Opx4 := ⟨a.2.2.2.2.2.2.2.2.2.2.2.2.2.1⟩
def otslices_Equal_Opx4 (s : Sslices_Equal_Opx4) : Sl.Ts τ tsslices_Equal_Opx4 := ((), (), (), (), (), (), (), (), (), (), (), (), (), s.t13, (), (), (), (), (), (), (), (), (), (), (), (), ())
def ohslices_Equal_Opx4 (s : Sslices_Equal_Opx4) : ESh.Ts τ hsslices_Equal_Opx4 := ()
def lpslices_Equal_Opx4 : Lp τ := { ts := tsslices_Equal_Opx4, hs := hsslices_Equal_Opx4, S := Sslices_Equal_Opx4, to := toslices_Equal_Opx4, ot := otslices_Equal_Opx4, oh := ohslices_Equal_Opx4, hk := [], tk := [], ot_to := fun _ _ => rfl, oh_to := fun _ _ => rfl }
def Fslices_Equal_Op (N : Nat) (s1_ : List (GOp)) (s2_ : List (GOp)) : Option (Bool) :=
 (bif (!(((s1_).length : Int) == ((s2_).length : Int))) then
 (some false)
 else
 (iter N (fun (s1 : Sslices_Equal_Opx4) next2 =>
 (bif (decide (s1.t13 < ((s1_).length : Int))) then
 (bif (ibB s1.t13 ((s1_).length : Int)) then
 (bif (ibB s1.t13 ((s2_).length : Int)) then
 (bif (!((((((lget s1_ s1.t13 default).Stamp).Time) == (((lget s2_ s1.t13 default).Stamp).Time)) && ((((lget s1_ s1.t13 default).Stamp).Site) == (((lget s2_ s1.t13 default).Stamp).Site))) && ((((lget s1_ s1.t13 default).Kind) == ((lget s2_ s1.t13 default).Kind)) && ((((lget s1_ s1.t13 default).Node) == ((lget s2_ s1.t13 default).Node)) && ((((lget s1_ s1.t13 default).Parent) == ((lget s2_ s1.t13 default).Parent)) && ((((lget s1_ s1.t13 default).Name) == ((lget s2_ s1.t13 default).Name)) && ((((lget s1_ s1.t13 default).Key) == ((lget s2_ s1.t13 default).Key)) && (((lget s1_ s1.t13 default).Value) == ((lget s2_ s1.t13 default).Value))))))))) then
 (some false)
 else
 (next2 ⟨(IntKind.i64.wrap (s1.t13 + 1))⟩))
 else none)
 else none)
 else
 (some true))) ⟨0⟩))
def conslices_Equal_Op : Con τ := { args := [.ty 28, .ty 28], L := [], ret := .ty 4, L' := [], R := Bool, dflt := default, F := fun N a b => Fslices_Equal_Op N a.1 a.2.1, of := fun r => (r, ()) }
noncomputable def datslices_Equal_Op : Dat τ := { D := D0, tbl := tblOf [], lp := lpsOf [(4, lpslices_Equal_Opx4)], k0 := 0, mu := [], un := [] }
theorem okslices_Equal_Op : ConOk E C 128 conslices_Equal_Op :=
  con_ok (D := datslices_Equal_Op) ⟨d0Ok, eGood, tblOf_ok trivial, fun _ => rfl⟩ conslices_Equal_Op (fun a b => a) none (fun _ _ => rfl) rfl (fun _ _ h => nomatch h) 1000000 (fn := Try.f128) Try.func128 rfl (by kernel_rfl) (by kernel_rfl) rfl (by intro N a b; kernel_rfl)
def Frecord_samePart (N : Nat) (a : GPart) (b : GPart) : Option (Bool) :=
 (some ((((a.Snap == b.Snap) && (a.Index == b.Index)) && (a.Many == b.Many)) && ((strI a.Data) == (strI b.Data))))
def conrecord_samePart : Con τ := { args := [.ty 51, .ty 51], L := [], ret := .ty 4, L' := [], R := Bool, dflt := default, F := fun N a b => Frecord_samePart N a.1 a.2.1, of := fun r => (r, ()) }
noncomputable def datrecord_samePart : Dat τ := { D := D0, tbl := tblOf [], lp := lpsOf [], k0 := 0, mu := [], un := [] }
theorem okrecord_samePart : ConOk E C 129 conrecord_samePart :=
  con_ok (D := datrecord_samePart) ⟨d0Ok, eGood, tblOf_ok trivial, fun _ => rfl⟩ conrecord_samePart (fun a b => a) none (fun _ _ => rfl) rfl (fun _ _ h => nomatch h) 1000000 (fn := Try.f129) Try.func129 rfl (by kernel_rfl) (by kernel_rfl) rfl (by intro N a b; kernel_rfl)
def Frecord_SameEntry (N : Nat) (a : GEntry) (b : GEntry) : Option (Bool) :=
 ((bif ((((((a.Kind == b.Kind) && (a.Session == b.Session)) && (a.Request == b.Request)) && (((a.Op.Stamp.Time == b.Op.Stamp.Time) && (a.Op.Stamp.Site == b.Op.Stamp.Site)) && ((a.Op.Kind == b.Op.Kind) && ((a.Op.Node == b.Op.Node) && ((a.Op.Parent == b.Op.Parent) && ((a.Op.Name == b.Op.Name) && ((a.Op.Key == b.Op.Key) && (a.Op.Value == b.Op.Value)))))))) && (a.Origin == b.Origin)) && (a.Seq == b.Seq)) then Fslices_Equal_Op N a.Ops b.Ops else some default).bind fun r1 =>
 ((bif (((((((((((a.Kind == b.Kind) && (a.Session == b.Session)) && (a.Request == b.Request)) && (((a.Op.Stamp.Time == b.Op.Stamp.Time) && (a.Op.Stamp.Site == b.Op.Stamp.Site)) && ((a.Op.Kind == b.Op.Kind) && ((a.Op.Node == b.Op.Node) && ((a.Op.Parent == b.Op.Parent) && ((a.Op.Name == b.Op.Name) && ((a.Op.Key == b.Op.Key) && (a.Op.Value == b.Op.Value)))))))) && (a.Origin == b.Origin)) && (a.Seq == b.Seq)) && r1) && ((a.Epoch.Number == b.Epoch.Number) && ((vbeq beq3 a.Epoch.States b.Epoch.States) && ((vbeq beq2 a.Epoch.Seals b.Epoch.Seals) && (vbeq beq3 a.Epoch.Sponsor b.Epoch.Sponsor))))) && (a.From == b.From)) && (vbeq beq2 a.Vector_ b.Vector_)) && (a.Clock == b.Clock)) then Frecord_samePart N a.Part b.Part else some default).bind fun r2 =>
 (some (((((((((((((((a.Kind == b.Kind) && (a.Session == b.Session)) && (a.Request == b.Request)) && (((a.Op.Stamp.Time == b.Op.Stamp.Time) && (a.Op.Stamp.Site == b.Op.Stamp.Site)) && ((a.Op.Kind == b.Op.Kind) && ((a.Op.Node == b.Op.Node) && ((a.Op.Parent == b.Op.Parent) && ((a.Op.Name == b.Op.Name) && ((a.Op.Key == b.Op.Key) && (a.Op.Value == b.Op.Value)))))))) && (a.Origin == b.Origin)) && (a.Seq == b.Seq)) && r1) && ((a.Epoch.Number == b.Epoch.Number) && ((vbeq beq3 a.Epoch.States b.Epoch.States) && ((vbeq beq2 a.Epoch.Seals b.Epoch.Seals) && (vbeq beq3 a.Epoch.Sponsor b.Epoch.Sponsor))))) && (a.From == b.From)) && (vbeq beq2 a.Vector_ b.Vector_)) && (a.Clock == b.Clock)) && r2) && (a.Site == b.Site)) && (a.Sponsor == b.Sponsor)) && (a.Length == b.Length)))))
def conrecord_SameEntry : Con τ := { args := [.ty 53, .ty 53], L := [], ret := .ty 4, L' := [], R := Bool, dflt := default, F := fun N a b => Frecord_SameEntry N a.1 a.2.1, of := fun r => (r, ()) }
noncomputable def datrecord_SameEntry : Dat τ := { D := D0, tbl := tblOf [(128, conslices_Equal_Op), (129, conrecord_samePart)], lp := lpsOf [], k0 := 0, mu := [], un := [] }
theorem okrecord_SameEntry : ConOk E C 125 conrecord_SameEntry :=
  con_ok (D := datrecord_SameEntry) ⟨d0Ok, eGood, tblOf_ok ⟨okslices_Equal_Op, ⟨okrecord_samePart, trivial⟩⟩, fun _ => rfl⟩ conrecord_SameEntry (fun a b => a) none (fun _ _ => rfl) rfl (fun _ _ h => nomatch h) 1000000 (fn := Try.f125) Try.func125 rfl (by kernel_rfl) (by kernel_rfl) rfl (by intro N a b; kernel_rfl)
def Frecord_verdict (N : Nat) (ok : Bool) : Option (Int) :=
 (bif ok then
 (some 0)
 else
 (some 40))
def conrecord_verdict : Con τ := { args := [.ty 4], L := [], ret := .ty 56, L' := [], R := Int, dflt := default, F := fun N a b => Frecord_verdict N a.1, of := fun r => (r, ()) }
noncomputable def datrecord_verdict : Dat τ := { D := D0, tbl := tblOf [], lp := lpsOf [], k0 := 0, mu := [], un := [] }
theorem okrecord_verdict : ConOk E C 91 conrecord_verdict :=
  con_ok (D := datrecord_verdict) ⟨d0Ok, eGood, tblOf_ok trivial, fun _ => rfl⟩ conrecord_verdict (fun a b => a) none (fun _ _ => rfl) rfl (fun _ _ h => nomatch h) 1000000 (fn := Try.f91) Try.func91 rfl (by kernel_rfl) (by kernel_rfl) rfl (by intro N a b; kernel_rfl)
structure Srecord_sitex2 where
  t7 : Int
def tsrecord_sitex2 : List Sl := [.k, .k, .j, .k, .j, .k, .k, .sh (.ty 2), .j, .j, .j, .j, .j, .j, .j, .j, .j, .j]
def hsrecord_sitex2 : List ESh := []
def torecord_sitex2 (a : Sl.Ts τ tsrecord_sitex2) (b : ESh.Ts τ hsrecord_sitex2) : Srecord_sitex2 := ⟨a.2.2.2.2.2.2.2.1⟩
def otrecord_sitex2 (s : Srecord_sitex2) : Sl.Ts τ tsrecord_sitex2 := ((), (), (), (), (), (), (), s.t7, (), (), (), (), (), (), (), (), (), (), ())
def ohrecord_sitex2 (s : Srecord_sitex2) : ESh.Ts τ hsrecord_sitex2 := ()
def lprecord_sitex2 : Lp τ := { ts := tsrecord_sitex2, hs := hsrecord_sitex2, S := Srecord_sitex2, to := torecord_sitex2, ot := otrecord_sitex2, oh := ohrecord_sitex2, hk := [], tk := [], ot_to := fun _ _ => rfl, oh_to := fun _ _ => rfl }
def Frecord_site (N : Nat) (l : List (Int)) : Option (Bool) :=
 (iter N (fun (s1 : Srecord_sitex2) next2 =>
 (bif (decide (s1.t7 < ((l).length : Int))) then
 (bif (ibB s1.t7 ((l).length : Int)) then
 (bif ((decide ((lget l s1.t7 default) < 0)) || (decide (8 ≤ (lget l s1.t7 default)))) then
 (some false)
 else
 (next2 ⟨(IntKind.i64.wrap (s1.t7 + 1))⟩))
 else none)
 else
 (some true))) ⟨0⟩)
def conrecord_site : Con τ := { args := [.ty 60], L := [], ret := .ty 4, L' := [], R := Bool, dflt := default, F := fun N a b => Frecord_site N a.1, of := fun r => (r, ()) }
noncomputable def datrecord_site : Dat τ := { D := D0, tbl := tblOf [], lp := lpsOf [(2, lprecord_sitex2)], k0 := 0, mu := [], un := [] }
theorem okrecord_site : ConOk E C 83 conrecord_site :=
  con_ok (D := datrecord_site) ⟨d0Ok, eGood, tblOf_ok trivial, fun _ => rfl⟩ conrecord_site (fun a b => a) none (fun _ _ => rfl) rfl (fun _ _ h => nomatch h) 1000000 (fn := Try.f83) Try.func83 rfl (by kernel_rfl) (by kernel_rfl) rfl (by intro N a b; kernel_rfl)
structure Srecord_nodex2 where
  t7 : Int
def tsrecord_nodex2 : List Sl := [.k, .k, .j, .k, .j, .k, .k, .sh (.ty 2), .j, .j, .j, .j, .j, .j, .j, .j, .j, .j]
def hsrecord_nodex2 : List ESh := []
def torecord_nodex2 (a : Sl.Ts τ tsrecord_nodex2) (b : ESh.Ts τ hsrecord_nodex2) : Srecord_nodex2 := ⟨a.2.2.2.2.2.2.2.1⟩
def otrecord_nodex2 (s : Srecord_nodex2) : Sl.Ts τ tsrecord_nodex2 := ((), (), (), (), (), (), (), s.t7, (), (), (), (), (), (), (), (), (), (), ())
def ohrecord_nodex2 (s : Srecord_nodex2) : ESh.Ts τ hsrecord_nodex2 := ()
def lprecord_nodex2 : Lp τ := { ts := tsrecord_nodex2, hs := hsrecord_nodex2, S := Srecord_nodex2, to := torecord_nodex2, ot := otrecord_nodex2, oh := ohrecord_nodex2, hk := [], tk := [], ot_to := fun _ _ => rfl, oh_to := fun _ _ => rfl }
def Frecord_node (N : Nat) (l : List (Int)) : Option (Bool) :=
 (iter N (fun (s1 : Srecord_nodex2) next2 =>
 (bif (decide (s1.t7 < ((l).length : Int))) then
 (bif (ibB s1.t7 ((l).length : Int)) then
 (bif ((decide ((lget l s1.t7 default) < 0)) || (decide (1125899906842624 < (lget l s1.t7 default)))) then
 (some false)
 else
 (next2 ⟨(IntKind.i64.wrap (s1.t7 + 1))⟩))
 else none)
 else
 (some true))) ⟨0⟩)
def conrecord_node : Con τ := { args := [.ty 126], L := [], ret := .ty 4, L' := [], R := Bool, dflt := default, F := fun N a b => Frecord_node N a.1, of := fun r => (r, ()) }
noncomputable def datrecord_node : Dat τ := { D := D0, tbl := tblOf [], lp := lpsOf [(2, lprecord_nodex2)], k0 := 0, mu := [], un := [] }
theorem okrecord_node : ConOk E C 135 conrecord_node :=
  con_ok (D := datrecord_node) ⟨d0Ok, eGood, tblOf_ok trivial, fun _ => rfl⟩ conrecord_node (fun a b => a) none (fun _ _ => rfl) rfl (fun _ _ h => nomatch h) 1000000 (fn := Try.f135) Try.func135 rfl (by kernel_rfl) (by kernel_rfl) rfl (by intro N a b; kernel_rfl)
structure Srecord_textx2 where
  t7 : Int
def tsrecord_textx2 : List Sl := [.k, .k, .j, .k, .j, .k, .k, .sh (.ty 2), .j, .j, .j, .j, .j, .j, .j]
def hsrecord_textx2 : List ESh := []
def torecord_textx2 (a : Sl.Ts τ tsrecord_textx2) (b : ESh.Ts τ hsrecord_textx2) : Srecord_textx2 := ⟨a.2.2.2.2.2.2.2.1⟩
def otrecord_textx2 (s : Srecord_textx2) : Sl.Ts τ tsrecord_textx2 := ((), (), (), (), (), (), (), s.t7, (), (), (), (), (), (), (), ())
def ohrecord_textx2 (s : Srecord_textx2) : ESh.Ts τ hsrecord_textx2 := ()
def lprecord_textx2 : Lp τ := { ts := tsrecord_textx2, hs := hsrecord_textx2, S := Srecord_textx2, to := torecord_textx2, ot := otrecord_textx2, oh := ohrecord_textx2, hk := [], tk := [], ot_to := fun _ _ => rfl, oh_to := fun _ _ => rfl }
def Frecord_text (N : Nat) (l : List (List UInt8)) : Option (Bool) :=
 (iter N (fun (s1 : Srecord_textx2) next2 =>
 (bif (decide (s1.t7 < ((l).length : Int))) then
 (bif (ibB s1.t7 ((l).length : Int)) then
 (bif (decide (255 < (((lget l s1.t7 default)).length : Int))) then
 (some false)
 else
 (next2 ⟨(IntKind.i64.wrap (s1.t7 + 1))⟩))
 else none)
 else
 (some true))) ⟨0⟩)
def conrecord_text : Con τ := { args := [.ty 102], L := [], ret := .ty 4, L' := [], R := Bool, dflt := default, F := fun N a b => Frecord_text N a.1, of := fun r => (r, ()) }
noncomputable def datrecord_text : Dat τ := { D := D0, tbl := tblOf [], lp := lpsOf [(2, lprecord_textx2)], k0 := 0, mu := [], un := [] }
theorem okrecord_text : ConOk E C 136 conrecord_text :=
  con_ok (D := datrecord_text) ⟨d0Ok, eGood, tblOf_ok trivial, fun _ => rfl⟩ conrecord_text (fun a b => a) none (fun _ _ => rfl) rfl (fun _ _ h => nomatch h) 1000000 (fn := Try.f136) Try.func136 rfl (by kernel_rfl) (by kernel_rfl) rfl (by intro N a b; kernel_rfl)
def Frecord_mayOp (N : Nat) (op : GOp) : Option (Bool) :=
 ((Frecord_count N [op.Stamp.Time]).bind fun r1 =>
 ((bif r1 then Frecord_site N [op.Stamp.Site] else some default).bind fun r2 =>
 ((bif (((r1 && r2) && (decide (1 ≤ op.Kind))) && (decide (op.Kind ≤ 3))) then Frecord_node N [op.Node, op.Parent] else some default).bind fun r3 =>
 ((bif ((((r1 && r2) && (decide (1 ≤ op.Kind))) && (decide (op.Kind ≤ 3))) && r3) then Frecord_text N [op.Name, op.Key, op.Value] else some default).bind fun r4 =>
 (some (((((r1 && r2) && (decide (1 ≤ op.Kind))) && (decide (op.Kind ≤ 3))) && r3) && r4))))))
def conrecord_mayOp : Con τ := { args := [.ty 43], L := [], ret := .ty 4, L' := [], R := Bool, dflt := default, F := fun N a b => Frecord_mayOp N a.1, of := fun r => (r, ()) }
noncomputable def datrecord_mayOp : Dat τ := { D := D0, tbl := tblOf [(88, conrecord_count), (83, conrecord_site), (135, conrecord_node), (136, conrecord_text)], lp := lpsOf [], k0 := 0, mu := [], un := [] }
theorem okrecord_mayOp : ConOk E C 122 conrecord_mayOp :=
  con_ok (D := datrecord_mayOp) ⟨d0Ok, eGood, tblOf_ok ⟨okrecord_count, ⟨okrecord_site, ⟨okrecord_node, ⟨okrecord_text, trivial⟩⟩⟩⟩, fun _ => rfl⟩ conrecord_mayOp (fun a b => a) none (fun _ _ => rfl) rfl (fun _ _ h => nomatch h) 1000000 (fn := Try.f122) Try.func122 rfl (by kernel_rfl) (by kernel_rfl) rfl (by intro N a b; kernel_rfl)
def Frecord_mayOps_1 (N : Nat) (op : GOp) : Option (Bool) :=
 ((Frecord_mayOp N op).bind fun r1 =>
 (some (!r1)))
def conrecord_mayOps_1 : Con τ := { args := [.ty 43], L := [], ret := .ty 4, L' := [], R := Bool, dflt := default, F := fun N a b => Frecord_mayOps_1 N a.1, of := fun r => (r, ()) }
noncomputable def datrecord_mayOps_1 : Dat τ := { D := D0, tbl := tblOf [(122, conrecord_mayOp)], lp := lpsOf [], k0 := 0, mu := [], un := [] }
theorem okrecord_mayOps_1 : ConOk E C 121 conrecord_mayOps_1 :=
  con_ok (D := datrecord_mayOps_1) ⟨d0Ok, eGood, tblOf_ok ⟨okrecord_mayOp, trivial⟩, fun _ => rfl⟩ conrecord_mayOps_1 (fun a b => a) none (fun _ _ => rfl) rfl (fun _ _ h => nomatch h) 1000000 (fn := Try.f121) Try.func121 rfl (by kernel_rfl) (by kernel_rfl) rfl (by intro N a b; kernel_rfl)
structure Sslices_IndexFunc_Op_d73x2 where
  t8 : Int
def tsslices_IndexFunc_Op_d73x2 : List Sl := [.k, .k, .k, .k, .j, .j, .k, .k, .sh (.ty 2), .j, .j, .j, .j, .j, .j, .j, .j, .j, .j]
def hsslices_IndexFunc_Op_d73x2 : List ESh := []
def toslices_IndexFunc_Op_d73x2 (a : Sl.Ts τ tsslices_IndexFunc_Op_d73x2) (b : ESh.Ts τ hsslices_IndexFunc_Op_d73x2) : Sslices_IndexFunc_Op_d73x2 := ⟨a.2.2.2.2.2.2.2.2.1⟩
def otslices_IndexFunc_Op_d73x2 (s : Sslices_IndexFunc_Op_d73x2) : Sl.Ts τ tsslices_IndexFunc_Op_d73x2 := ((), (), (), (), (), (), (), (), s.t8, (), (), (), (), (), (), (), (), (), (), ())
def ohslices_IndexFunc_Op_d73x2 (s : Sslices_IndexFunc_Op_d73x2) : ESh.Ts τ hsslices_IndexFunc_Op_d73x2 := ()
def lpslices_IndexFunc_Op_d73x2 : Lp τ := { ts := tsslices_IndexFunc_Op_d73x2, hs := hsslices_IndexFunc_Op_d73x2, S := Sslices_IndexFunc_Op_d73x2, to := toslices_IndexFunc_Op_d73x2, ot := otslices_IndexFunc_Op_d73x2, oh := ohslices_IndexFunc_Op_d73x2, hk := [], tk := [], ot_to := fun _ _ => rfl, oh_to := fun _ _ => rfl }
def Fslices_IndexFunc_Op_d73 (N : Nat) (s : List (GOp)) : Option (Int) :=
 (iter N (fun (s1 : Sslices_IndexFunc_Op_d73x2) next2 =>
 (bif (decide (s1.t8 < ((s).length : Int))) then
 (bif (ibB s1.t8 ((s).length : Int)) then
 ((Frecord_mayOps_1 N (⟨((lget s s1.t8 default).Stamp), (lget s s1.t8 default).Kind, (lget s s1.t8 default).Node, (lget s s1.t8 default).Parent, (lget s s1.t8 default).Name, (lget s s1.t8 default).Key, (lget s s1.t8 default).Value⟩ : GOp)).bind fun r3 =>
 (bif r3 then
 (some s1.t8)
 else
 (next2 ⟨(IntKind.i64.wrap (s1.t8 + 1))⟩)))
 else none)
 else
 (some (-1)))) ⟨0⟩)
def conslices_IndexFunc_Op_d73 : Con τ := { args := [.ty 28, .fn 121 []], L := [], ret := .ty 3, L' := [], R := Int, dflt := default, F := fun N a b => Fslices_IndexFunc_Op_d73 N a.1, of := fun r => (r, ()) }
noncomputable def datslices_IndexFunc_Op_d73 : Dat τ := { D := D0, tbl := tblOf [(121, conrecord_mayOps_1)], lp := lpsOf [(2, lpslices_IndexFunc_Op_d73x2)], k0 := 0, mu := [], un := [] }
theorem okslices_IndexFunc_Op_d73 : ConOk E C 134 conslices_IndexFunc_Op_d73 :=
  con_ok (D := datslices_IndexFunc_Op_d73) ⟨d0Ok, eGood, tblOf_ok ⟨okrecord_mayOps_1, trivial⟩, fun _ => rfl⟩ conslices_IndexFunc_Op_d73 (fun a b => a) none (fun _ _ => rfl) rfl (fun _ _ h => nomatch h) 1000000 (fn := Try.f134) Try.func134 rfl (by kernel_rfl) (by kernel_rfl) rfl (by intro N a b; kernel_rfl)
def Fslices_ContainsFunc_Op_d73 (N : Nat) (s : List (GOp)) : Option (Bool) :=
 ((Fslices_IndexFunc_Op_d73 N s).bind fun r1 =>
 (some (decide (0 ≤ r1))))
def conslices_ContainsFunc_Op_d73 : Con τ := { args := [.ty 28, .fn 121 []], L := [], ret := .ty 4, L' := [], R := Bool, dflt := default, F := fun N a b => Fslices_ContainsFunc_Op_d73 N a.1, of := fun r => (r, ()) }
noncomputable def datslices_ContainsFunc_Op_d73 : Dat τ := { D := D0, tbl := tblOf [(134, conslices_IndexFunc_Op_d73)], lp := lpsOf [], k0 := 0, mu := [], un := [] }
theorem okslices_ContainsFunc_Op_d73 : ConOk E C 120 conslices_ContainsFunc_Op_d73 :=
  con_ok (D := datslices_ContainsFunc_Op_d73) ⟨d0Ok, eGood, tblOf_ok ⟨okslices_IndexFunc_Op_d73, trivial⟩, fun _ => rfl⟩ conslices_ContainsFunc_Op_d73 (fun a b => a) none (fun _ _ => rfl) rfl (fun _ _ h => nomatch h) 1000000 (fn := Try.f120) Try.func120 rfl (by kernel_rfl) (by kernel_rfl) rfl (by intro N a b; kernel_rfl)
def Frecord_mayOps (N : Nat) (l : List (GOp)) (least : Int) : Option (Bool) :=
 ((bif ((decide (least ≤ ((l).length : Int))) && (decide (((l).length : Int) ≤ 4096))) then Fslices_ContainsFunc_Op_d73 N l else some default).bind fun r1 =>
 (some (((decide (least ≤ ((l).length : Int))) && (decide (((l).length : Int) ≤ 4096))) && (!r1))))
def conrecord_mayOps : Con τ := { args := [.ty 28, .ty 3], L := [], ret := .ty 4, L' := [], R := Bool, dflt := default, F := fun N a b => Frecord_mayOps N a.1 a.2.1, of := fun r => (r, ()) }
noncomputable def datrecord_mayOps : Dat τ := { D := D0, tbl := tblOf [(120, conslices_ContainsFunc_Op_d73)], lp := lpsOf [], k0 := 0, mu := [], un := [] }
theorem okrecord_mayOps : ConOk E C 84 conrecord_mayOps :=
  con_ok (D := datrecord_mayOps) ⟨d0Ok, eGood, tblOf_ok ⟨okslices_ContainsFunc_Op_d73, trivial⟩, fun _ => rfl⟩ conrecord_mayOps (fun a b => a) none (fun _ _ => rfl) rfl (fun _ _ h => nomatch h) 1000000 (fn := Try.f84) Try.func84 rfl (by kernel_rfl) (by kernel_rfl) rfl (by intro N a b; kernel_rfl)
structure Srecord_mayEpochx3 where
  ok : Bool
  t14 : Int
def tsrecord_mayEpochx3 : List Sl := [.k, .k, .k, .sh (.ty 4), .j, .k, .k, .k, .k, .k, .j, .k, .j, .k, .sh (.ty 2), .j, .j, .j, .j, .j, .j, .j, .j, .j, .j, .j, .j, .j, .j, .j, .j, .j, .j, .j, .j, .j, .j, .j, .j, .j, .j, .j, .j, .j, .j, .j, .j, .k]
def hsrecord_mayEpochx3 : List ESh := [.keep]
def torecord_mayEpochx3 (a : Sl.Ts τ tsrecord_mayEpochx3) (b : ESh.Ts τ hsrecord_mayEpochx3) : Srecord_mayEpochx3 := ⟨a.2.2.2.1, a.2.2.2.2.2.2.2.2.2.2.2.2.2.2.1⟩
def otrecord_mayEpochx3 (s : Srecord_mayEpochx3) : Sl.Ts τ tsrecord_mayEpochx3 := ((), (), (), s.ok, (), (), (), (), (), (), (), (), (), (), s.t14, (), (), (), (), (), (), (), (), (), (), (), (), (), (), (), (), (), (), (), (), (), (), (), (), (), (), (), (), (), (), (), (), (), ())
def ohrecord_mayEpochx3 (s : Srecord_mayEpochx3) : ESh.Ts τ hsrecord_mayEpochx3 := ((), ())
def lprecord_mayEpochx3 : Lp τ := { ts := tsrecord_mayEpochx3, hs := hsrecord_mayEpochx3, S := Srecord_mayEpochx3, to := torecord_mayEpochx3, ot := otrecord_mayEpochx3, oh := ohrecord_mayEpochx3, hk := [3], tk := [0, 2, 0, 0, 0, 2], ot_to := fun _ _ => rfl, oh_to := fun _ _ => rfl }
structure Srecord_mayEpochx3a where
  ok : Bool
  t14 : Int
def tsrecord_mayEpochx3a : List Sl := [.k, .k, .k, .sh (.ty 4), .j, .k, .k, .k, .k, .k, .j, .k, .k, .k, .sh (.ty 2), .j, .j, .j, .j, .j, .j, .j, .j, .j, .j, .j, .j, .j, .j, .j, .j, .j, .j, .j, .j, .j, .j, .j, .j, .j, .j, .j, .j, .j, .j, .j, .j, .k]
def hsrecord_mayEpochx3a : List ESh := [.keep]
def torecord_mayEpochx3a (a : Sl.Ts τ tsrecord_mayEpochx3a) (b : ESh.Ts τ hsrecord_mayEpochx3a) : Srecord_mayEpochx3a := ⟨a.2.2.2.1, a.2.2.2.2.2.2.2.2.2.2.2.2.2.2.1⟩
def otrecord_mayEpochx3a (s : Srecord_mayEpochx3a) : Sl.Ts τ tsrecord_mayEpochx3a := ((), (), (), s.ok, (), (), (), (), (), (), (), (), (), (), s.t14, (), (), (), (), (), (), (), (), (), (), (), (), (), (), (), (), (), (), (), (), (), (), (), (), (), (), (), (), (), (), (), (), (), ())
def ohrecord_mayEpochx3a (s : Srecord_mayEpochx3a) : ESh.Ts τ hsrecord_mayEpochx3a := ((), ())
def lprecord_mayEpochx3a : Lp τ := { ts := tsrecord_mayEpochx3a, hs := hsrecord_mayEpochx3a, S := Srecord_mayEpochx3a, to := torecord_mayEpochx3a, ot := otrecord_mayEpochx3a, oh := ohrecord_mayEpochx3a, hk := [2], tk := [0, 2, 0, 0, 0, 2], ot_to := fun _ _ => rfl, oh_to := fun _ _ => rfl }
def Frecord_mayEpoch (N : Nat) (e : GEpoch) : Option (Bool) :=
 ((Frecord_count N [e.Number]).bind fun r1 =>
 (bif r1 then
 ((bif r1 then Frecord_count N (e.Seals.toList) else some default).bind fun r2 =>
 (iter N (fun (s3 : Srecord_mayEpochx3) next4 =>
 (bif (decide (s3.t14 < 8)) then
 (bif (!s3.ok || (ibB s3.t14 8)) then
 (bif (!(s3.ok && (decide (0 ≤ (vget e.States ((s3.t14).toNat) default)))) || (ibB s3.t14 8)) then
 (bif (!((s3.ok && (decide (0 ≤ (vget e.States ((s3.t14).toNat) default)))) && (decide ((vget e.States ((s3.t14).toNat) default) ≤ 3))) || (ibB s3.t14 8)) then
 (bif (!(((s3.ok && (decide (0 ≤ (vget e.States ((s3.t14).toNat) default)))) && (decide ((vget e.States ((s3.t14).toNat) default) ≤ 3))) && (decide ((-1) ≤ (vget e.Sponsor ((s3.t14).toNat) default)))) || (ibB s3.t14 8)) then
 (next4 ⟨((((s3.ok && (decide (0 ≤ (vget e.States ((s3.t14).toNat) default)))) && (decide ((vget e.States ((s3.t14).toNat) default) ≤ 3))) && (decide ((-1) ≤ (vget e.Sponsor ((s3.t14).toNat) default)))) && (decide ((vget e.Sponsor ((s3.t14).toNat) default) < 8))), (IntKind.i64.wrap (s3.t14 + 1))⟩)
 else none)
 else none)
 else none)
 else none)
 else
 (some s3.ok))) ⟨(r1 && r2), 0⟩))
 else
 (iter N (fun (s5 : Srecord_mayEpochx3a) next6 =>
 (bif (decide (s5.t14 < 8)) then
 (bif (!s5.ok || (ibB s5.t14 8)) then
 (bif (!(s5.ok && (decide (0 ≤ (vget e.States ((s5.t14).toNat) default)))) || (ibB s5.t14 8)) then
 (bif (!((s5.ok && (decide (0 ≤ (vget e.States ((s5.t14).toNat) default)))) && (decide ((vget e.States ((s5.t14).toNat) default) ≤ 3))) || (ibB s5.t14 8)) then
 (bif (!(((s5.ok && (decide (0 ≤ (vget e.States ((s5.t14).toNat) default)))) && (decide ((vget e.States ((s5.t14).toNat) default) ≤ 3))) && (decide ((-1) ≤ (vget e.Sponsor ((s5.t14).toNat) default)))) || (ibB s5.t14 8)) then
 (next6 ⟨((((s5.ok && (decide (0 ≤ (vget e.States ((s5.t14).toNat) default)))) && (decide ((vget e.States ((s5.t14).toNat) default) ≤ 3))) && (decide ((-1) ≤ (vget e.Sponsor ((s5.t14).toNat) default)))) && (decide ((vget e.Sponsor ((s5.t14).toNat) default) < 8))), (IntKind.i64.wrap (s5.t14 + 1))⟩)
 else none)
 else none)
 else none)
 else none)
 else
 (some s5.ok))) ⟨false, 0⟩)))
def conrecord_mayEpoch : Con τ := { args := [.ty 26], L := [], ret := .ty 4, L' := [], R := Bool, dflt := default, F := fun N a b => Frecord_mayEpoch N a.1, of := fun r => (r, ()) }
noncomputable def datrecord_mayEpoch : Dat τ := { D := D0, tbl := tblOf [(88, conrecord_count)], lp := lpsOf [(3, lprecord_mayEpochx3), (3, lprecord_mayEpochx3a)], k0 := 0, mu := [], un := [] }
theorem okrecord_mayEpoch : ConOk E C 85 conrecord_mayEpoch :=
  con_ok (D := datrecord_mayEpoch) ⟨d0Ok, eGood, tblOf_ok ⟨okrecord_count, trivial⟩, fun _ => rfl⟩ conrecord_mayEpoch (fun a b => a) none (fun _ _ => rfl) rfl (fun _ _ h => nomatch h) 1000000 (fn := Try.f85) Try.func85 rfl (by kernel_rfl) (by kernel_rfl) rfl (by intro N a b; kernel_rfl)
def Frecord_mayPart (N : Nat) (p : GPart) : Option (Bool) :=
 ((Frecord_count N [p.Snap]).bind fun r1 =>
 (some (((((r1 && (decide (1 ≤ p.Many))) && (decide (p.Many ≤ 4096))) && (decide (0 ≤ p.Index))) && (decide (p.Index < p.Many))) && (decide (((p.Data).length : Int) ≤ 16384)))))
def conrecord_mayPart : Con τ := { args := [.ty 51], L := [], ret := .ty 4, L' := [], R := Bool, dflt := default, F := fun N a b => Frecord_mayPart N a.1, of := fun r => (r, ()) }
noncomputable def datrecord_mayPart : Dat τ := { D := D0, tbl := tblOf [(88, conrecord_count)], lp := lpsOf [], k0 := 0, mu := [], un := [] }
theorem okrecord_mayPart : ConOk E C 86 conrecord_mayPart :=
  con_ok (D := datrecord_mayPart) ⟨d0Ok, eGood, tblOf_ok ⟨okrecord_count, trivial⟩, fun _ => rfl⟩ conrecord_mayPart (fun a b => a) none (fun _ _ => rfl) rfl (fun _ _ h => nomatch h) 1000000 (fn := Try.f86) Try.func86 rfl (by kernel_rfl) (by kernel_rfl) rfl (by intro N a b; kernel_rfl)
def Frecord_CheckEntry (N : Nat) (e : GEntry) : Option (Int) :=
 (bif (e.Kind == 0) then
 ((Frecord_SameEntry N (⟨e.Kind, 0, 0, (⟨(⟨0, 0⟩ : GStamp), 0, 0, 0, [], [], []⟩ : GOp), 0, 0, [], (⟨0, (Vector.replicate 8 (default : Int)), (Vector.replicate 8 (default : Int)), (Vector.replicate 8 (default : Int))⟩ : GEpoch), 0, (Vector.replicate 8 (default : Int)), 0, (⟨0, 0, 0, []⟩ : GPart), 0, 0, 0⟩ : GEntry) e).bind fun r1 =>
 ((Frecord_verdict N r1).bind fun r2 =>
 (some r2)))
 else
 (bif (e.Kind == 1) then
 ((Frecord_count N [e.Session, e.Request]).bind fun r3 =>
 ((bif ((r3 && (decide (0 < e.Session))) && (decide (0 < e.Request))) then Frecord_mayOp N e.Op else some default).bind fun r4 =>
 ((bif (((r3 && (decide (0 < e.Session))) && (decide (0 < e.Request))) && r4) then Frecord_SameEntry N (⟨e.Kind, e.Session, e.Request, e.Op, 0, 0, [], (⟨0, (Vector.replicate 8 (default : Int)), (Vector.replicate 8 (default : Int)), (Vector.replicate 8 (default : Int))⟩ : GEpoch), 0, (Vector.replicate 8 (default : Int)), 0, (⟨0, 0, 0, []⟩ : GPart), 0, 0, 0⟩ : GEntry) e else some default).bind fun r5 =>
 ((Frecord_verdict N ((((r3 && (decide (0 < e.Session))) && (decide (0 < e.Request))) && r4) && r5)).bind fun r6 =>
 (some r6)))))
 else
 (bif (e.Kind == 2) then
 ((Frecord_site N [e.Origin]).bind fun r7 =>
 ((bif r7 then Frecord_count N [e.Seq] else some default).bind fun r8 =>
 ((bif (r7 && r8) then Frecord_mayOps N e.Ops 1 else some default).bind fun r9 =>
 ((bif ((r7 && r8) && r9) then Frecord_SameEntry N (⟨e.Kind, 0, 0, (⟨(⟨0, 0⟩ : GStamp), 0, 0, 0, [], [], []⟩ : GOp), e.Origin, e.Seq, e.Ops, (⟨0, (Vector.replicate 8 (default : Int)), (Vector.replicate 8 (default : Int)), (Vector.replicate 8 (default : Int))⟩ : GEpoch), 0, (Vector.replicate 8 (default : Int)), 0, (⟨0, 0, 0, []⟩ : GPart), 0, 0, 0⟩ : GEntry) e else some default).bind fun r10 =>
 ((Frecord_verdict N (((r7 && r8) && r9) && r10)).bind fun r11 =>
 (some r11))))))
 else
 (bif (e.Kind == 3) then
 ((Frecord_mayEpoch N e.Epoch).bind fun r12 =>
 ((bif r12 then Frecord_SameEntry N (⟨e.Kind, 0, 0, (⟨(⟨0, 0⟩ : GStamp), 0, 0, 0, [], [], []⟩ : GOp), 0, 0, [], e.Epoch, 0, (Vector.replicate 8 (default : Int)), 0, (⟨0, 0, 0, []⟩ : GPart), 0, 0, 0⟩ : GEntry) e else some default).bind fun r13 =>
 ((Frecord_verdict N (r12 && r13)).bind fun r14 =>
 (some r14))))
 else
 (bif (e.Kind == 4) then
 ((Frecord_count N [e.Seq, e.Clock]).bind fun r15 =>
 ((bif r15 then Frecord_site N [e.From] else some default).bind fun r16 =>
 (bif (r15 && r16) then
 ((bif (r15 && r16) then Frecord_count N (e.Vector_.toList) else some default).bind fun r17 =>
 ((bif ((r15 && r16) && r17) then Frecord_SameEntry N (⟨e.Kind, 0, 0, (⟨(⟨0, 0⟩ : GStamp), 0, 0, 0, [], [], []⟩ : GOp), 0, e.Seq, [], (⟨0, (Vector.replicate 8 (default : Int)), (Vector.replicate 8 (default : Int)), (Vector.replicate 8 (default : Int))⟩ : GEpoch), e.From, e.Vector_, e.Clock, (⟨0, 0, 0, []⟩ : GPart), 0, 0, 0⟩ : GEntry) e else some default).bind fun r18 =>
 ((Frecord_verdict N (((r15 && r16) && r17) && r18)).bind fun r19 =>
 (some r19))))
 else
 ((bif false then Frecord_SameEntry N (⟨e.Kind, 0, 0, (⟨(⟨0, 0⟩ : GStamp), 0, 0, 0, [], [], []⟩ : GOp), 0, e.Seq, [], (⟨0, (Vector.replicate 8 (default : Int)), (Vector.replicate 8 (default : Int)), (Vector.replicate 8 (default : Int))⟩ : GEpoch), e.From, e.Vector_, e.Clock, (⟨0, 0, 0, []⟩ : GPart), 0, 0, 0⟩ : GEntry) e else some default).bind fun r20 =>
 ((Frecord_verdict N false).bind fun r21 =>
 (some r21))))))
 else
 (bif (e.Kind == 5) then
 ((Frecord_mayPart N e.Part).bind fun r22 =>
 ((bif r22 then Frecord_SameEntry N (⟨e.Kind, 0, 0, (⟨(⟨0, 0⟩ : GStamp), 0, 0, 0, [], [], []⟩ : GOp), 0, 0, [], (⟨0, (Vector.replicate 8 (default : Int)), (Vector.replicate 8 (default : Int)), (Vector.replicate 8 (default : Int))⟩ : GEpoch), 0, (Vector.replicate 8 (default : Int)), 0, e.Part, 0, 0, 0⟩ : GEntry) e else some default).bind fun r23 =>
 ((Frecord_verdict N (r22 && r23)).bind fun r24 =>
 (some r24))))
 else
 (bif (e.Kind == 6) then
 ((Frecord_site N [e.Site, e.Sponsor]).bind fun r25 =>
 ((bif r25 then Frecord_SameEntry N (⟨e.Kind, 0, 0, (⟨(⟨0, 0⟩ : GStamp), 0, 0, 0, [], [], []⟩ : GOp), 0, 0, [], (⟨0, (Vector.replicate 8 (default : Int)), (Vector.replicate 8 (default : Int)), (Vector.replicate 8 (default : Int))⟩ : GEpoch), 0, (Vector.replicate 8 (default : Int)), 0, (⟨0, 0, 0, []⟩ : GPart), e.Site, e.Sponsor, 0⟩ : GEntry) e else some default).bind fun r26 =>
 ((Frecord_verdict N (r25 && r26)).bind fun r27 =>
 (some r27))))
 else
 (bif (e.Kind == 7) then
 ((Frecord_site N [e.Site]).bind fun r28 =>
 ((bif r28 then Frecord_SameEntry N (⟨e.Kind, 0, 0, (⟨(⟨0, 0⟩ : GStamp), 0, 0, 0, [], [], []⟩ : GOp), 0, 0, [], (⟨0, (Vector.replicate 8 (default : Int)), (Vector.replicate 8 (default : Int)), (Vector.replicate 8 (default : Int))⟩ : GEpoch), 0, (Vector.replicate 8 (default : Int)), 0, (⟨0, 0, 0, []⟩ : GPart), e.Site, 0, 0⟩ : GEntry) e else some default).bind fun r29 =>
 ((Frecord_verdict N (r28 && r29)).bind fun r30 =>
 (some r30))))
 else
 (bif (e.Kind == 8) then
 ((Frecord_site N [e.Site]).bind fun r31 =>
 ((bif r31 then Frecord_count N [e.Length] else some default).bind fun r32 =>
 ((bif (r31 && r32) then Frecord_SameEntry N (⟨e.Kind, 0, 0, (⟨(⟨0, 0⟩ : GStamp), 0, 0, 0, [], [], []⟩ : GOp), 0, 0, [], (⟨0, (Vector.replicate 8 (default : Int)), (Vector.replicate 8 (default : Int)), (Vector.replicate 8 (default : Int))⟩ : GEpoch), 0, (Vector.replicate 8 (default : Int)), 0, (⟨0, 0, 0, []⟩ : GPart), e.Site, 0, e.Length⟩ : GEntry) e else some default).bind fun r33 =>
 ((Frecord_verdict N ((r31 && r32) && r33)).bind fun r34 =>
 (some r34)))))
 else
 ((bif false then Frecord_SameEntry N (⟨e.Kind, 0, 0, (⟨(⟨0, 0⟩ : GStamp), 0, 0, 0, [], [], []⟩ : GOp), 0, 0, [], (⟨0, (Vector.replicate 8 (default : Int)), (Vector.replicate 8 (default : Int)), (Vector.replicate 8 (default : Int))⟩ : GEpoch), 0, (Vector.replicate 8 (default : Int)), 0, (⟨0, 0, 0, []⟩ : GPart), 0, 0, 0⟩ : GEntry) e else some default).bind fun r35 =>
 ((Frecord_verdict N false).bind fun r36 =>
 (some r36))))))))))))
def conrecord_CheckEntry : Con τ := { args := [.ty 53], L := [], ret := .ty 56, L' := [], R := Int, dflt := default, F := fun N a b => Frecord_CheckEntry N a.1, of := fun r => (r, ()) }
noncomputable def datrecord_CheckEntry : Dat τ := { D := D0, tbl := tblOf [(125, conrecord_SameEntry), (91, conrecord_verdict), (88, conrecord_count), (122, conrecord_mayOp), (83, conrecord_site), (84, conrecord_mayOps), (85, conrecord_mayEpoch), (86, conrecord_mayPart)], lp := lpsOf [], k0 := 0, mu := [], un := [] }
theorem okrecord_CheckEntry : ConOk E C 90 conrecord_CheckEntry :=
  con_ok (D := datrecord_CheckEntry) ⟨d0Ok, eGood, tblOf_ok ⟨okrecord_SameEntry, ⟨okrecord_verdict, ⟨okrecord_count, ⟨okrecord_mayOp, ⟨okrecord_site, ⟨okrecord_mayOps, ⟨okrecord_mayEpoch, ⟨okrecord_mayPart, trivial⟩⟩⟩⟩⟩⟩⟩⟩, fun _ => rfl⟩ conrecord_CheckEntry (fun a b => a) none (fun _ _ => rfl) rfl (fun _ _ h => nomatch h) 1000000 (fn := Try.f90) Try.func90 rfl (by kernel_rfl) (by kernel_rfl) rfl (by intro N a b; kernel_rfl)
def Frecord_maySlotted_1 (N : Nat) (x : GSlotted) : Option (Bool) :=
 ((Frecord_count N [x.Slot]).bind fun r1 =>
 ((bif (!(!r1)) then Frecord_mayBallot N x.Ballot else some default).bind fun r2 =>
 ((bif (!((!r1) || (!r2))) then Frecord_CheckEntry N x.Entry else some default).bind fun r3 =>
 (some (((!r1) || (!r2)) || (!(r3 == 0)))))))
def conrecord_maySlotted_1 : Con τ := { args := [.ty 101], L := [], ret := .ty 4, L' := [], R := Bool, dflt := default, F := fun N a b => Frecord_maySlotted_1 N a.1, of := fun r => (r, ()) }
noncomputable def datrecord_maySlotted_1 : Dat τ := { D := D0, tbl := tblOf [(88, conrecord_count), (87, conrecord_mayBallot), (90, conrecord_CheckEntry)], lp := lpsOf [], k0 := 0, mu := [], un := [] }
theorem okrecord_maySlotted_1 : ConOk E C 124 conrecord_maySlotted_1 :=
  con_ok (D := datrecord_maySlotted_1) ⟨d0Ok, eGood, tblOf_ok ⟨okrecord_count, ⟨okrecord_mayBallot, ⟨okrecord_CheckEntry, trivial⟩⟩⟩, fun _ => rfl⟩ conrecord_maySlotted_1 (fun a b => a) none (fun _ _ => rfl) rfl (fun _ _ h => nomatch h) 1000000 (fn := Try.f124) Try.func124 rfl (by kernel_rfl) (by kernel_rfl) rfl (by intro N a b; kernel_rfl)
structure Sslices_IndexFunc_Slotted_283x2 where
  t8 : Int
def tsslices_IndexFunc_Slotted_283x2 : List Sl := [.k, .k, .k, .k, .j, .j, .k, .k, .sh (.ty 2), .j, .j, .j, .j, .j, .j, .j, .j, .j, .j]
def hsslices_IndexFunc_Slotted_283x2 : List ESh := []
def toslices_IndexFunc_Slotted_283x2 (a : Sl.Ts τ tsslices_IndexFunc_Slotted_283x2) (b : ESh.Ts τ hsslices_IndexFunc_Slotted_283x2) : Sslices_IndexFunc_Slotted_283x2 := ⟨a.2.2.2.2.2.2.2.2.1⟩
def otslices_IndexFunc_Slotted_283x2 (s : Sslices_IndexFunc_Slotted_283x2) : Sl.Ts τ tsslices_IndexFunc_Slotted_283x2 := ((), (), (), (), (), (), (), (), s.t8, (), (), (), (), (), (), (), (), (), (), ())
def ohslices_IndexFunc_Slotted_283x2 (s : Sslices_IndexFunc_Slotted_283x2) : ESh.Ts τ hsslices_IndexFunc_Slotted_283x2 := ()
def lpslices_IndexFunc_Slotted_283x2 : Lp τ := { ts := tsslices_IndexFunc_Slotted_283x2, hs := hsslices_IndexFunc_Slotted_283x2, S := Sslices_IndexFunc_Slotted_283x2, to := toslices_IndexFunc_Slotted_283x2, ot := otslices_IndexFunc_Slotted_283x2, oh := ohslices_IndexFunc_Slotted_283x2, hk := [], tk := [], ot_to := fun _ _ => rfl, oh_to := fun _ _ => rfl }
def Fslices_IndexFunc_Slotted_283 (N : Nat) (s : List (GSlotted)) : Option (Int) :=
 (iter N (fun (s1 : Sslices_IndexFunc_Slotted_283x2) next2 =>
 (bif (decide (s1.t8 < ((s).length : Int))) then
 (bif (ibB s1.t8 ((s).length : Int)) then
 ((Frecord_maySlotted_1 N (⟨(lget s s1.t8 default).Slot, ((lget s s1.t8 default).Ballot), (⟨((lget s s1.t8 default).Entry).Kind, ((lget s s1.t8 default).Entry).Session, ((lget s s1.t8 default).Entry).Request, (⟨((((lget s s1.t8 default).Entry).Op).Stamp), (((lget s s1.t8 default).Entry).Op).Kind, (((lget s s1.t8 default).Entry).Op).Node, (((lget s s1.t8 default).Entry).Op).Parent, (((lget s s1.t8 default).Entry).Op).Name, (((lget s s1.t8 default).Entry).Op).Key, (((lget s s1.t8 default).Entry).Op).Value⟩ : GOp), ((lget s s1.t8 default).Entry).Origin, ((lget s s1.t8 default).Entry).Seq, ((lget s s1.t8 default).Entry).Ops, (((lget s s1.t8 default).Entry).Epoch), ((lget s s1.t8 default).Entry).From, ((lget s s1.t8 default).Entry).Vector_, ((lget s s1.t8 default).Entry).Clock, (((lget s s1.t8 default).Entry).Part), ((lget s s1.t8 default).Entry).Site, ((lget s s1.t8 default).Entry).Sponsor, ((lget s s1.t8 default).Entry).Length⟩ : GEntry)⟩ : GSlotted)).bind fun r3 =>
 (bif r3 then
 (some s1.t8)
 else
 (next2 ⟨(IntKind.i64.wrap (s1.t8 + 1))⟩)))
 else none)
 else
 (some (-1)))) ⟨0⟩)
def conslices_IndexFunc_Slotted_283 : Con τ := { args := [.ty 48, .fn 124 []], L := [], ret := .ty 3, L' := [], R := Int, dflt := default, F := fun N a b => Fslices_IndexFunc_Slotted_283 N a.1, of := fun r => (r, ()) }
noncomputable def datslices_IndexFunc_Slotted_283 : Dat τ := { D := D0, tbl := tblOf [(124, conrecord_maySlotted_1)], lp := lpsOf [(2, lpslices_IndexFunc_Slotted_283x2)], k0 := 0, mu := [], un := [] }
theorem okslices_IndexFunc_Slotted_283 : ConOk E C 137 conslices_IndexFunc_Slotted_283 :=
  con_ok (D := datslices_IndexFunc_Slotted_283) ⟨d0Ok, eGood, tblOf_ok ⟨okrecord_maySlotted_1, trivial⟩, fun _ => rfl⟩ conslices_IndexFunc_Slotted_283 (fun a b => a) none (fun _ _ => rfl) rfl (fun _ _ h => nomatch h) 1000000 (fn := Try.f137) Try.func137 rfl (by kernel_rfl) (by kernel_rfl) rfl (by intro N a b; kernel_rfl)
def Fslices_ContainsFunc_Slotted_283 (N : Nat) (s : List (GSlotted)) : Option (Bool) :=
 ((Fslices_IndexFunc_Slotted_283 N s).bind fun r1 =>
 (some (decide (0 ≤ r1))))
def conslices_ContainsFunc_Slotted_283 : Con τ := { args := [.ty 48, .fn 124 []], L := [], ret := .ty 4, L' := [], R := Bool, dflt := default, F := fun N a b => Fslices_ContainsFunc_Slotted_283 N a.1, of := fun r => (r, ()) }
noncomputable def datslices_ContainsFunc_Slotted_283 : Dat τ := { D := D0, tbl := tblOf [(137, conslices_IndexFunc_Slotted_283)], lp := lpsOf [], k0 := 0, mu := [], un := [] }
theorem okslices_ContainsFunc_Slotted_283 : ConOk E C 123 conslices_ContainsFunc_Slotted_283 :=
  con_ok (D := datslices_ContainsFunc_Slotted_283) ⟨d0Ok, eGood, tblOf_ok ⟨okslices_IndexFunc_Slotted_283, trivial⟩, fun _ => rfl⟩ conslices_ContainsFunc_Slotted_283 (fun a b => a) none (fun _ _ => rfl) rfl (fun _ _ h => nomatch h) 1000000 (fn := Try.f123) Try.func123 rfl (by kernel_rfl) (by kernel_rfl) rfl (by intro N a b; kernel_rfl)
def Frecord_maySlotted (N : Nat) (l : List (GSlotted)) (least : Int) (most : Int) : Option (Bool) :=
 ((bif ((decide (least ≤ ((l).length : Int))) && (decide (((l).length : Int) ≤ most))) then Fslices_ContainsFunc_Slotted_283 N l else some default).bind fun r1 =>
 (some (((decide (least ≤ ((l).length : Int))) && (decide (((l).length : Int) ≤ most))) && (!r1))))
def conrecord_maySlotted : Con τ := { args := [.ty 48, .ty 3, .ty 3], L := [], ret := .ty 4, L' := [], R := Bool, dflt := default, F := fun N a b => Frecord_maySlotted N a.1 a.2.1 a.2.2.1, of := fun r => (r, ()) }
noncomputable def datrecord_maySlotted : Dat τ := { D := D0, tbl := tblOf [(123, conslices_ContainsFunc_Slotted_283)], lp := lpsOf [], k0 := 0, mu := [], un := [] }
theorem okrecord_maySlotted : ConOk E C 89 conrecord_maySlotted :=
  con_ok (D := datrecord_maySlotted) ⟨d0Ok, eGood, tblOf_ok ⟨okslices_ContainsFunc_Slotted_283, trivial⟩, fun _ => rfl⟩ conrecord_maySlotted (fun a b => a) none (fun _ _ => rfl) rfl (fun _ _ h => nomatch h) 1000000 (fn := Try.f89) Try.func89 rfl (by kernel_rfl) (by kernel_rfl) rfl (by intro N a b; kernel_rfl)
def Frecord_sameSlotted (N : Nat) (a : GSlotted) (b : GSlotted) : Option (Bool) :=
 ((bif ((a.Slot == b.Slot) && ((a.Ballot.Round == b.Ballot.Round) && (a.Ballot.Replica == b.Ballot.Replica))) then Frecord_SameEntry N a.Entry b.Entry else some default).bind fun r1 =>
 (some (((a.Slot == b.Slot) && ((a.Ballot.Round == b.Ballot.Round) && (a.Ballot.Replica == b.Ballot.Replica))) && r1)))
def conrecord_sameSlotted : Con τ := { args := [.ty 101, .ty 101], L := [], ret := .ty 4, L' := [], R := Bool, dflt := default, F := fun N a b => Frecord_sameSlotted N a.1 a.2.1, of := fun r => (r, ()) }
noncomputable def datrecord_sameSlotted : Dat τ := { D := D0, tbl := tblOf [(125, conrecord_SameEntry)], lp := lpsOf [], k0 := 0, mu := [], un := [] }
theorem okrecord_sameSlotted : ConOk E C 127 conrecord_sameSlotted :=
  con_ok (D := datrecord_sameSlotted) ⟨d0Ok, eGood, tblOf_ok ⟨okrecord_SameEntry, trivial⟩, fun _ => rfl⟩ conrecord_sameSlotted (fun a b => a) none (fun _ _ => rfl) rfl (fun _ _ h => nomatch h) 1000000 (fn := Try.f127) Try.func127 rfl (by kernel_rfl) (by kernel_rfl) rfl (by intro N a b; kernel_rfl)
structure Sslices_EqualFunc_Slotted_117x4 where
  t17 : Int
def tsslices_EqualFunc_Slotted_117x4 : List Sl := [.k, .k, .k, .k, .k, .k, .j, .j, .j, .j, .k, .k, .k, .k, .k, .k, .k, .sh (.ty 2), .j, .j, .j, .j, .j, .j, .j, .j, .j, .j, .j, .j, .j, .j]
def hsslices_EqualFunc_Slotted_117x4 : List ESh := []
def toslices_EqualFunc_Slotted_117x4 (a : Sl.Ts τ tsslices_EqualFunc_Slotted_117x4) (b : ESh.Ts τ hsslices_EqualFunc_Slotted_117x4) : Sslices_EqualFunc_Slotted_117x4 := ⟨a.2.2.2.2.2.2.2.2.2.2.2.2.2.2.2.2.2.1⟩
def otslices_EqualFunc_Slotted_117x4 (s : Sslices_EqualFunc_Slotted_117x4) : Sl.Ts τ tsslices_EqualFunc_Slotted_117x4 := ((), (), (), (), (), (), (), (), (), (), (), (), (), (), (), (), (), s.t17, (), (), (), (), (), (), (), (), (), (), (), (), (), (), ())
def ohslices_EqualFunc_Slotted_117x4 (s : Sslices_EqualFunc_Slotted_117x4) : ESh.Ts τ hsslices_EqualFunc_Slotted_117x4 := ()
def lpslices_EqualFunc_Slotted_117x4 : Lp τ := { ts := tsslices_EqualFunc_Slotted_117x4, hs := hsslices_EqualFunc_Slotted_117x4, S := Sslices_EqualFunc_Slotted_117x4, to := toslices_EqualFunc_Slotted_117x4, ot := otslices_EqualFunc_Slotted_117x4, oh := ohslices_EqualFunc_Slotted_117x4, hk := [], tk := [], ot_to := fun _ _ => rfl, oh_to := fun _ _ => rfl }
def Fslices_EqualFunc_Slotted_117 (N : Nat) (s1_ : List (GSlotted)) (s2_ : List (GSlotted)) : Option (Bool) :=
 (bif (!(((s1_).length : Int) == ((s2_).length : Int))) then
 (some false)
 else
 (iter N (fun (s1 : Sslices_EqualFunc_Slotted_117x4) next2 =>
 (bif (decide (s1.t17 < ((s1_).length : Int))) then
 (bif (ibB s1.t17 ((s1_).length : Int)) then
 (bif (ibB s1.t17 ((s2_).length : Int)) then
 ((Frecord_sameSlotted N (⟨(lget s1_ s1.t17 default).Slot, ((lget s1_ s1.t17 default).Ballot), (⟨((lget s1_ s1.t17 default).Entry).Kind, ((lget s1_ s1.t17 default).Entry).Session, ((lget s1_ s1.t17 default).Entry).Request, (⟨((((lget s1_ s1.t17 default).Entry).Op).Stamp), (((lget s1_ s1.t17 default).Entry).Op).Kind, (((lget s1_ s1.t17 default).Entry).Op).Node, (((lget s1_ s1.t17 default).Entry).Op).Parent, (((lget s1_ s1.t17 default).Entry).Op).Name, (((lget s1_ s1.t17 default).Entry).Op).Key, (((lget s1_ s1.t17 default).Entry).Op).Value⟩ : GOp), ((lget s1_ s1.t17 default).Entry).Origin, ((lget s1_ s1.t17 default).Entry).Seq, ((lget s1_ s1.t17 default).Entry).Ops, (((lget s1_ s1.t17 default).Entry).Epoch), ((lget s1_ s1.t17 default).Entry).From, ((lget s1_ s1.t17 default).Entry).Vector_, ((lget s1_ s1.t17 default).Entry).Clock, (((lget s1_ s1.t17 default).Entry).Part), ((lget s1_ s1.t17 default).Entry).Site, ((lget s1_ s1.t17 default).Entry).Sponsor, ((lget s1_ s1.t17 default).Entry).Length⟩ : GEntry)⟩ : GSlotted) (⟨(lget s2_ s1.t17 default).Slot, ((lget s2_ s1.t17 default).Ballot), (⟨((lget s2_ s1.t17 default).Entry).Kind, ((lget s2_ s1.t17 default).Entry).Session, ((lget s2_ s1.t17 default).Entry).Request, (⟨((((lget s2_ s1.t17 default).Entry).Op).Stamp), (((lget s2_ s1.t17 default).Entry).Op).Kind, (((lget s2_ s1.t17 default).Entry).Op).Node, (((lget s2_ s1.t17 default).Entry).Op).Parent, (((lget s2_ s1.t17 default).Entry).Op).Name, (((lget s2_ s1.t17 default).Entry).Op).Key, (((lget s2_ s1.t17 default).Entry).Op).Value⟩ : GOp), ((lget s2_ s1.t17 default).Entry).Origin, ((lget s2_ s1.t17 default).Entry).Seq, ((lget s2_ s1.t17 default).Entry).Ops, (((lget s2_ s1.t17 default).Entry).Epoch), ((lget s2_ s1.t17 default).Entry).From, ((lget s2_ s1.t17 default).Entry).Vector_, ((lget s2_ s1.t17 default).Entry).Clock, (((lget s2_ s1.t17 default).Entry).Part), ((lget s2_ s1.t17 default).Entry).Site, ((lget s2_ s1.t17 default).Entry).Sponsor, ((lget s2_ s1.t17 default).Entry).Length⟩ : GEntry)⟩ : GSlotted)).bind fun r3 =>
 (bif (!r3) then
 (some false)
 else
 (next2 ⟨(IntKind.i64.wrap (s1.t17 + 1))⟩)))
 else none)
 else none)
 else
 (some true))) ⟨0⟩))
def conslices_EqualFunc_Slotted_117 : Con τ := { args := [.ty 48, .ty 48, .fn 127 []], L := [], ret := .ty 4, L' := [], R := Bool, dflt := default, F := fun N a b => Fslices_EqualFunc_Slotted_117 N a.1 a.2.1, of := fun r => (r, ()) }
noncomputable def datslices_EqualFunc_Slotted_117 : Dat τ := { D := D0, tbl := tblOf [(127, conrecord_sameSlotted)], lp := lpsOf [(4, lpslices_EqualFunc_Slotted_117x4)], k0 := 0, mu := [], un := [] }
theorem okslices_EqualFunc_Slotted_117 : ConOk E C 126 conslices_EqualFunc_Slotted_117 :=
  con_ok (D := datslices_EqualFunc_Slotted_117) ⟨d0Ok, eGood, tblOf_ok ⟨okrecord_sameSlotted, trivial⟩, fun _ => rfl⟩ conslices_EqualFunc_Slotted_117 (fun a b => a) none (fun _ _ => rfl) rfl (fun _ _ h => nomatch h) 1000000 (fn := Try.f126) Try.func126 rfl (by kernel_rfl) (by kernel_rfl) rfl (by intro N a b; kernel_rfl)
def Frecord_SameMsg (N : Nat) (a : GMsg) (b : GMsg) : Option (Bool) :=
 ((bif (((((a.Kind == b.Kind) && ((a.From.Group == b.From.Group) && (a.From.Replica == b.From.Replica))) && ((a.To.Group == b.To.Group) && (a.To.Replica == b.To.Replica))) && ((a.Ballot.Round == b.Ballot.Round) && (a.Ballot.Replica == b.Ballot.Replica))) && (a.Slot == b.Slot)) then Fslices_EqualFunc_Slotted_117 N a.List_ b.List_ else some default).bind fun r1 =>
 ((bif ((((((a.Kind == b.Kind) && ((a.From.Group == b.From.Group) && (a.From.Replica == b.From.Replica))) && ((a.To.Group == b.To.Group) && (a.To.Replica == b.To.Replica))) && ((a.Ballot.Round == b.Ballot.Round) && (a.Ballot.Replica == b.Ballot.Replica))) && (a.Slot == b.Slot)) && r1) then Frecord_SameEntry N a.Entry b.Entry else some default).bind fun r2 =>
 ((bif (((((((((((a.Kind == b.Kind) && ((a.From.Group == b.From.Group) && (a.From.Replica == b.From.Replica))) && ((a.To.Group == b.To.Group) && (a.To.Replica == b.To.Replica))) && ((a.Ballot.Round == b.Ballot.Round) && (a.Ballot.Replica == b.Ballot.Replica))) && (a.Slot == b.Slot)) && r1) && r2) && (a.Number == b.Number)) && (vbeq beq2 a.Vector_ b.Vector_)) && (a.Clock == b.Clock)) && (a.Origin == b.Origin)) then Fslices_Equal_Op N a.Ops b.Ops else some default).bind fun r3 =>
 ((bif (((((((((((((a.Kind == b.Kind) && ((a.From.Group == b.From.Group) && (a.From.Replica == b.From.Replica))) && ((a.To.Group == b.To.Group) && (a.To.Replica == b.To.Replica))) && ((a.Ballot.Round == b.Ballot.Round) && (a.Ballot.Replica == b.Ballot.Replica))) && (a.Slot == b.Slot)) && r1) && r2) && (a.Number == b.Number)) && (vbeq beq2 a.Vector_ b.Vector_)) && (a.Clock == b.Clock)) && (a.Origin == b.Origin)) && r3) && ((a.Epoch.Number == b.Epoch.Number) && ((vbeq beq3 a.Epoch.States b.Epoch.States) && ((vbeq beq2 a.Epoch.Seals b.Epoch.Seals) && (vbeq beq3 a.Epoch.Sponsor b.Epoch.Sponsor))))) then Frecord_samePart N a.Part b.Part else some default).bind fun r4 =>
 (some ((((((((((((((a.Kind == b.Kind) && ((a.From.Group == b.From.Group) && (a.From.Replica == b.From.Replica))) && ((a.To.Group == b.To.Group) && (a.To.Replica == b.To.Replica))) && ((a.Ballot.Round == b.Ballot.Round) && (a.Ballot.Replica == b.Ballot.Replica))) && (a.Slot == b.Slot)) && r1) && r2) && (a.Number == b.Number)) && (vbeq beq2 a.Vector_ b.Vector_)) && (a.Clock == b.Clock)) && (a.Origin == b.Origin)) && r3) && ((a.Epoch.Number == b.Epoch.Number) && ((vbeq beq3 a.Epoch.States b.Epoch.States) && ((vbeq beq2 a.Epoch.Seals b.Epoch.Seals) && (vbeq beq3 a.Epoch.Sponsor b.Epoch.Sponsor))))) && r4))))))
def conrecord_SameMsg : Con τ := { args := [.ty 55, .ty 55], L := [], ret := .ty 4, L' := [], R := Bool, dflt := default, F := fun N a b => Frecord_SameMsg N a.1 a.2.1, of := fun r => (r, ()) }
noncomputable def datrecord_SameMsg : Dat τ := { D := D0, tbl := tblOf [(126, conslices_EqualFunc_Slotted_117), (125, conrecord_SameEntry), (128, conslices_Equal_Op), (129, conrecord_samePart)], lp := lpsOf [], k0 := 0, mu := [], un := [] }
theorem okrecord_SameMsg : ConOk E C 92 conrecord_SameMsg :=
  con_ok (D := datrecord_SameMsg) ⟨d0Ok, eGood, tblOf_ok ⟨okslices_EqualFunc_Slotted_117, ⟨okrecord_SameEntry, ⟨okslices_Equal_Op, ⟨okrecord_samePart, trivial⟩⟩⟩⟩, fun _ => rfl⟩ conrecord_SameMsg (fun a b => a) none (fun _ _ => rfl) rfl (fun _ _ h => nomatch h) 1000000 (fn := Try.f92) Try.func92 rfl (by kernel_rfl) (by kernel_rfl) rfl (by intro N a b; kernel_rfl)
structure Srecord_CheckMsgxc where
  ok : Bool
  b0 : GMsg
  b1 : GMsg
def tsrecord_CheckMsgxc : List Sl := [.k, .sh (.ptr 0 []), .j, .sh (.ptr 1 []), .sh (.ty 4), .j, .j, .j, .j, .j, .j, .j, .j, .j, .j, .j, .j, .j, .j, .j, .j, .j, .j, .j, .j, .j, .j, .j, .j, .j, .j, .j, .j, .j, .j, .j, .j, .j, .j, .j, .j, .j, .j, .j, .j, .j, .j, .j, .j, .j, .j, .j, .j, .j, .j, .j, .j, .j, .j, .j, .j, .j, .j, .j, .j, .j, .j, .j, .j, .j, .j, .j, .j, .j, .j, .j, .j, .j, .j, .j, .j, .j, .j, .j, .j, .j, .j, .j, .j, .j, .j, .j, .j, .j, .j, .j, .j, .j, .j, .j, .j, .j, .j, .j, .j, .j, .j, .j, .j, .j, .j, .j, .j, .j, .j, .j, .j, .j, .j, .j, .j, .j, .j, .j, .j, .j, .j, .j, .j, .j, .j, .j, .j, .j, .j, .j, .j, .j, .j, .j, .j, .j, .j, .j, .j, .j, .j, .j, .j, .j, .j, .j, .j, .j, .j, .j, .j, .j, .j, .j, .j, .j, .j, .j, .k, .k, .k, .k, .k, .k, .k, .k, .k, .k, .k, .k, .k, .k, .k, .k, .k, .k, .k, .k, .k, .k, .k, .k, .k, .k, .k, .k, .k, .k, .k, .k, .k, .k, .k, .k, .k, .k, .k]
def hsrecord_CheckMsgxc : List ESh := [.box (.ty 54), .box (.ty 54)]
def torecord_CheckMsgxc (a : Sl.Ts τ tsrecord_CheckMsgxc) (b : ESh.Ts τ hsrecord_CheckMsgxc) : Srecord_CheckMsgxc := ⟨a.2.2.2.2.1, b.1, b.2.1⟩
def otrecord_CheckMsgxc (s : Srecord_CheckMsgxc) : Sl.Ts τ tsrecord_CheckMsgxc := ((), (), (), (), s.ok, (), (), (), (), (), (), (), (), (), (), (), (), (), (), (), (), (), (), (), (), (), (), (), (), (), (), (), (), (), (), (), (), (), (), (), (), (), (), (), (), (), (), (), (), (), (), (), (), (), (), (), (), (), (), (), (), (), (), (), (), (), (), (), (), (), (), (), (), (), (), (), (), (), (), (), (), (), (), (), (), (), (), (), (), (), (), (), (), (), (), (), (), (), (), (), (), (), (), (), (), (), (), (), (), (), (), (), (), (), (), (), (), (), (), (), (), (), (), (), (), (), (), (), (), (), (), (), (), (), (), (), (), (), (), (), (), (), (), (), (), (), (), (), (), (), (), (), (), (), (), (), (), (), (), (), (), (), (), (), (), (), (), (), (), (), (), (), (), (), (), (), (), (), (), (), (), (), (), (), (), (), (), (), (), (), (), (), (), (), (), (), (), (), (), (), (), (), (), ())
def ohrecord_CheckMsgxc (s : Srecord_CheckMsgxc) : ESh.Ts τ hsrecord_CheckMsgxc := (s.b0, s.b1, ())
def lprecord_CheckMsgxc : Lp τ := { ts := tsrecord_CheckMsgxc, hs := hsrecord_CheckMsgxc, S := Srecord_CheckMsgxc, to := torecord_CheckMsgxc, ot := otrecord_CheckMsgxc, oh := ohrecord_CheckMsgxc, hk := [], tk := [], ot_to := fun _ _ => rfl, oh_to := fun _ _ => rfl }
def Grecord_CheckMsg (N : Nat) (m : GMsg) : Option (Srecord_CheckMsgxc ⊕ (Int)) :=
 ((Frecord_mayAddr N [m.From, m.To]).bind fun r1 =>
 (bif (m.Kind == 1) then
 (bif (m.Kind == 1) then
 (some (.inl (⟨r1, m, (⟨m.Kind, m.From, m.To, m.Ballot, m.Slot, [], (⟨0, 0, 0, (⟨(⟨0, 0⟩ : GStamp), 0, 0, 0, [], [], []⟩ : GOp), 0, 0, [], (⟨0, (Vector.replicate 8 (default : Int)), (Vector.replicate 8 (default : Int)), (Vector.replicate 8 (default : Int))⟩ : GEpoch), 0, (Vector.replicate 8 (default : Int)), 0, (⟨0, 0, 0, []⟩ : GPart), 0, 0, 0⟩ : GEntry), 0, (Vector.replicate 8 (default : Int)), 0, 0, [], (⟨0, (Vector.replicate 8 (default : Int)), (Vector.replicate 8 (default : Int)), (Vector.replicate 8 (default : Int))⟩ : GEpoch), (⟨0, 0, 0, []⟩ : GPart)⟩ : GMsg)⟩ : Srecord_CheckMsgxc)))
 else
 (bif (m.Kind == 2) then
 (some (.inl (⟨r1, m, (⟨m.Kind, m.From, m.To, m.Ballot, m.Slot, m.List_, (⟨0, 0, 0, (⟨(⟨0, 0⟩ : GStamp), 0, 0, 0, [], [], []⟩ : GOp), 0, 0, [], (⟨0, (Vector.replicate 8 (default : Int)), (Vector.replicate 8 (default : Int)), (Vector.replicate 8 (default : Int))⟩ : GEpoch), 0, (Vector.replicate 8 (default : Int)), 0, (⟨0, 0, 0, []⟩ : GPart), 0, 0, 0⟩ : GEntry), 0, (Vector.replicate 8 (default : Int)), 0, 0, [], (⟨0, (Vector.replicate 8 (default : Int)), (Vector.replicate 8 (default : Int)), (Vector.replicate 8 (default : Int))⟩ : GEpoch), (⟨0, 0, 0, []⟩ : GPart)⟩ : GMsg)⟩ : Srecord_CheckMsgxc)))
 else
 (bif (m.Kind == 3) then
 (some (.inl (⟨(r1 && (((m.List_).length : Int) == 1)), m, (⟨m.Kind, m.From, m.To, m.Ballot, 0, m.List_, (⟨0, 0, 0, (⟨(⟨0, 0⟩ : GStamp), 0, 0, 0, [], [], []⟩ : GOp), 0, 0, [], (⟨0, (Vector.replicate 8 (default : Int)), (Vector.replicate 8 (default : Int)), (Vector.replicate 8 (default : Int))⟩ : GEpoch), 0, (Vector.replicate 8 (default : Int)), 0, (⟨0, 0, 0, []⟩ : GPart), 0, 0, 0⟩ : GEntry), 0, (Vector.replicate 8 (default : Int)), 0, 0, [], (⟨0, (Vector.replicate 8 (default : Int)), (Vector.replicate 8 (default : Int)), (Vector.replicate 8 (default : Int))⟩ : GEpoch), (⟨0, 0, 0, []⟩ : GPart)⟩ : GMsg)⟩ : Srecord_CheckMsgxc)))
 else
 (bif (m.Kind == 5) then
 (some (.inl (⟨r1, m, (⟨m.Kind, m.From, m.To, m.Ballot, 0, [], (⟨0, 0, 0, (⟨(⟨0, 0⟩ : GStamp), 0, 0, 0, [], [], []⟩ : GOp), 0, 0, [], (⟨0, (Vector.replicate 8 (default : Int)), (Vector.replicate 8 (default : Int)), (Vector.replicate 8 (default : Int))⟩ : GEpoch), 0, (Vector.replicate 8 (default : Int)), 0, (⟨0, 0, 0, []⟩ : GPart), 0, 0, 0⟩ : GEntry), 0, (Vector.replicate 8 (default : Int)), 0, 0, [], (⟨0, (Vector.replicate 8 (default : Int)), (Vector.replicate 8 (default : Int)), (Vector.replicate 8 (default : Int))⟩ : GEpoch), (⟨0, 0, 0, []⟩ : GPart)⟩ : GMsg)⟩ : Srecord_CheckMsgxc)))
 else
 (bif (m.Kind == 6) then
 (some (.inl (⟨(r1 && (decide (1 ≤ ((m.List_).length : Int)))), m, (⟨m.Kind, m.From, m.To, (⟨0, 0⟩ : GBallot), 0, m.List_, (⟨0, 0, 0, (⟨(⟨0, 0⟩ : GStamp), 0, 0, 0, [], [], []⟩ : GOp), 0, 0, [], (⟨0, (Vector.replicate 8 (default : Int)), (Vector.replicate 8 (default : Int)), (Vector.replicate 8 (default : Int))⟩ : GEpoch), 0, (Vector.replicate 8 (default : Int)), 0, (⟨0, 0, 0, []⟩ : GPart), 0, 0, 0⟩ : GEntry), 0, (Vector.replicate 8 (default : Int)), 0, 0, [], (⟨0, (Vector.replicate 8 (default : Int)), (Vector.replicate 8 (default : Int)), (Vector.replicate 8 (default : Int))⟩ : GEpoch), (⟨0, 0, 0, []⟩ : GPart)⟩ : GMsg)⟩ : Srecord_CheckMsgxc)))
 else
 (bif (m.Kind == 8) then
 (some (.inl (⟨r1, m, (⟨m.Kind, m.From, m.To, (⟨0, 0⟩ : GBallot), m.Slot, [], (⟨0, 0, 0, (⟨(⟨0, 0⟩ : GStamp), 0, 0, 0, [], [], []⟩ : GOp), 0, 0, [], (⟨0, (Vector.replicate 8 (default : Int)), (Vector.replicate 8 (default : Int)), (Vector.replicate 8 (default : Int))⟩ : GEpoch), 0, (Vector.replicate 8 (default : Int)), 0, (⟨0, 0, 0, []⟩ : GPart), 0, 0, 0⟩ : GEntry), 0, (Vector.replicate 8 (default : Int)), 0, 0, [], (⟨0, (Vector.replicate 8 (default : Int)), (Vector.replicate 8 (default : Int)), (Vector.replicate 8 (default : Int))⟩ : GEpoch), (⟨0, 0, 0, []⟩ : GPart)⟩ : GMsg)⟩ : Srecord_CheckMsgxc)))
 else
 (bif (m.Kind == 9) then
 (some (.inl (⟨r1, m, (⟨m.Kind, m.From, m.To, (⟨0, 0⟩ : GBallot), 0, [], m.Entry, 0, (Vector.replicate 8 (default : Int)), 0, 0, [], (⟨0, (Vector.replicate 8 (default : Int)), (Vector.replicate 8 (default : Int)), (Vector.replicate 8 (default : Int))⟩ : GEpoch), (⟨0, 0, 0, []⟩ : GPart)⟩ : GMsg)⟩ : Srecord_CheckMsgxc)))
 else
 (bif (m.Kind == 10) then
 (some (.inl (⟨r1, m, (⟨m.Kind, m.From, m.To, (⟨0, 0⟩ : GBallot), 0, [], (⟨0, 0, 0, (⟨(⟨0, 0⟩ : GStamp), 0, 0, 0, [], [], []⟩ : GOp), 0, 0, [], (⟨0, (Vector.replicate 8 (default : Int)), (Vector.replicate 8 (default : Int)), (Vector.replicate 8 (default : Int))⟩ : GEpoch), 0, (Vector.replicate 8 (default : Int)), 0, (⟨0, 0, 0, []⟩ : GPart), 0, 0, 0⟩ : GEntry), m.Number, m.Vector_, m.Clock, 0, [], (⟨0, (Vector.replicate 8 (default : Int)), (Vector.replicate 8 (default : Int)), (Vector.replicate 8 (default : Int))⟩ : GEpoch), (⟨0, 0, 0, []⟩ : GPart)⟩ : GMsg)⟩ : Srecord_CheckMsgxc)))
 else
 (bif (m.Kind == 11) then
 ((bif r1 then Frecord_site N [m.Origin] else some default).bind fun r2 =>
 ((bif (r1 && r2) then Frecord_mayOps N m.Ops 1 else some default).bind fun r3 =>
 (some (.inl (⟨((r1 && r2) && r3), m, (⟨m.Kind, m.From, m.To, (⟨0, 0⟩ : GBallot), m.Slot, [], (⟨0, 0, 0, (⟨(⟨0, 0⟩ : GStamp), 0, 0, 0, [], [], []⟩ : GOp), 0, 0, [], (⟨0, (Vector.replicate 8 (default : Int)), (Vector.replicate 8 (default : Int)), (Vector.replicate 8 (default : Int))⟩ : GEpoch), 0, (Vector.replicate 8 (default : Int)), 0, (⟨0, 0, 0, []⟩ : GPart), 0, 0, 0⟩ : GEntry), m.Number, (Vector.replicate 8 (default : Int)), 0, m.Origin, m.Ops, (⟨0, (Vector.replicate 8 (default : Int)), (Vector.replicate 8 (default : Int)), (Vector.replicate 8 (default : Int))⟩ : GEpoch), (⟨0, 0, 0, []⟩ : GPart)⟩ : GMsg)⟩ : Srecord_CheckMsgxc)))))
 else
 (bif (m.Kind == 12) then
 ((bif r1 then Frecord_mayEpoch N m.Epoch else some default).bind fun r4 =>
 (some (.inl (⟨(r1 && r4), m, (⟨m.Kind, m.From, m.To, (⟨0, 0⟩ : GBallot), 0, [], (⟨0, 0, 0, (⟨(⟨0, 0⟩ : GStamp), 0, 0, 0, [], [], []⟩ : GOp), 0, 0, [], (⟨0, (Vector.replicate 8 (default : Int)), (Vector.replicate 8 (default : Int)), (Vector.replicate 8 (default : Int))⟩ : GEpoch), 0, (Vector.replicate 8 (default : Int)), 0, (⟨0, 0, 0, []⟩ : GPart), 0, 0, 0⟩ : GEntry), 0, (Vector.replicate 8 (default : Int)), 0, 0, [], m.Epoch, (⟨0, 0, 0, []⟩ : GPart)⟩ : GMsg)⟩ : Srecord_CheckMsgxc))))
 else
 (bif (m.Kind == 13) then
 ((bif r1 then Frecord_mayPart N m.Part else some default).bind fun r5 =>
 (some (.inl (⟨(r1 && r5), m, (⟨m.Kind, m.From, m.To, (⟨0, 0⟩ : GBallot), 0, [], (⟨0, 0, 0, (⟨(⟨0, 0⟩ : GStamp), 0, 0, 0, [], [], []⟩ : GOp), 0, 0, [], (⟨0, (Vector.replicate 8 (default : Int)), (Vector.replicate 8 (default : Int)), (Vector.replicate 8 (default : Int))⟩ : GEpoch), 0, (Vector.replicate 8 (default : Int)), 0, (⟨0, 0, 0, []⟩ : GPart), 0, 0, 0⟩ : GEntry), 0, (Vector.replicate 8 (default : Int)), 0, 0, [], (⟨0, (Vector.replicate 8 (default : Int)), (Vector.replicate 8 (default : Int)), (Vector.replicate 8 (default : Int))⟩ : GEpoch), m.Part⟩ : GMsg)⟩ : Srecord_CheckMsgxc))))
 else
 (bif (m.Kind == 14) then
 (some (.inl (⟨r1, m, (⟨m.Kind, m.From, m.To, (⟨0, 0⟩ : GBallot), 0, [], (⟨0, 0, 0, (⟨(⟨0, 0⟩ : GStamp), 0, 0, 0, [], [], []⟩ : GOp), 0, 0, [], (⟨0, (Vector.replicate 8 (default : Int)), (Vector.replicate 8 (default : Int)), (Vector.replicate 8 (default : Int))⟩ : GEpoch), 0, (Vector.replicate 8 (default : Int)), 0, (⟨0, 0, 0, []⟩ : GPart), 0, 0, 0⟩ : GEntry), m.Number, m.Vector_, 0, 0, [], (⟨0, (Vector.replicate 8 (default : Int)), (Vector.replicate 8 (default : Int)), (Vector.replicate 8 (default : Int))⟩ : GEpoch), (⟨0, 0, 0, []⟩ : GPart)⟩ : GMsg)⟩ : Srecord_CheckMsgxc)))
 else
 (bif (m.Kind == 15) then
 ((bif r1 then Frecord_mayPart N m.Part else some default).bind fun r6 =>
 (some (.inl (⟨(r1 && r6), m, (⟨m.Kind, m.From, m.To, (⟨0, 0⟩ : GBallot), m.Slot, [], (⟨0, 0, 0, (⟨(⟨0, 0⟩ : GStamp), 0, 0, 0, [], [], []⟩ : GOp), 0, 0, [], (⟨0, (Vector.replicate 8 (default : Int)), (Vector.replicate 8 (default : Int)), (Vector.replicate 8 (default : Int))⟩ : GEpoch), 0, (Vector.replicate 8 (default : Int)), 0, (⟨0, 0, 0, []⟩ : GPart), 0, 0, 0⟩ : GEntry), 0, (Vector.replicate 8 (default : Int)), 0, 0, [], (⟨0, (Vector.replicate 8 (default : Int)), (Vector.replicate 8 (default : Int)), (Vector.replicate 8 (default : Int))⟩ : GEpoch), m.Part⟩ : GMsg)⟩ : Srecord_CheckMsgxc))))
 else
 (some (.inl (⟨false, m, (⟨m.Kind, m.From, m.To, (⟨0, 0⟩ : GBallot), 0, [], (⟨0, 0, 0, (⟨(⟨0, 0⟩ : GStamp), 0, 0, 0, [], [], []⟩ : GOp), 0, 0, [], (⟨0, (Vector.replicate 8 (default : Int)), (Vector.replicate 8 (default : Int)), (Vector.replicate 8 (default : Int))⟩ : GEpoch), 0, (Vector.replicate 8 (default : Int)), 0, (⟨0, 0, 0, []⟩ : GPart), 0, 0, 0⟩ : GEntry), 0, (Vector.replicate 8 (default : Int)), 0, 0, [], (⟨0, (Vector.replicate 8 (default : Int)), (Vector.replicate 8 (default : Int)), (Vector.replicate 8 (default : Int))⟩ : GEpoch), (⟨0, 0, 0, []⟩ : GPart)⟩ : GMsg)⟩ : Srecord_CheckMsgxc))))))))))))))))
 else
 (bif (m.Kind == 4) then
 (bif (m.Kind == 4) then
 (some (.inl (⟨r1, m, (⟨m.Kind, m.From, m.To, m.Ballot, m.Slot, [], (⟨0, 0, 0, (⟨(⟨0, 0⟩ : GStamp), 0, 0, 0, [], [], []⟩ : GOp), 0, 0, [], (⟨0, (Vector.replicate 8 (default : Int)), (Vector.replicate 8 (default : Int)), (Vector.replicate 8 (default : Int))⟩ : GEpoch), 0, (Vector.replicate 8 (default : Int)), 0, (⟨0, 0, 0, []⟩ : GPart), 0, 0, 0⟩ : GEntry), 0, (Vector.replicate 8 (default : Int)), 0, 0, [], (⟨0, (Vector.replicate 8 (default : Int)), (Vector.replicate 8 (default : Int)), (Vector.replicate 8 (default : Int))⟩ : GEpoch), (⟨0, 0, 0, []⟩ : GPart)⟩ : GMsg)⟩ : Srecord_CheckMsgxc)))
 else
 (bif (m.Kind == 2) then
 (some (.inl (⟨r1, m, (⟨m.Kind, m.From, m.To, m.Ballot, m.Slot, m.List_, (⟨0, 0, 0, (⟨(⟨0, 0⟩ : GStamp), 0, 0, 0, [], [], []⟩ : GOp), 0, 0, [], (⟨0, (Vector.replicate 8 (default : Int)), (Vector.replicate 8 (default : Int)), (Vector.replicate 8 (default : Int))⟩ : GEpoch), 0, (Vector.replicate 8 (default : Int)), 0, (⟨0, 0, 0, []⟩ : GPart), 0, 0, 0⟩ : GEntry), 0, (Vector.replicate 8 (default : Int)), 0, 0, [], (⟨0, (Vector.replicate 8 (default : Int)), (Vector.replicate 8 (default : Int)), (Vector.replicate 8 (default : Int))⟩ : GEpoch), (⟨0, 0, 0, []⟩ : GPart)⟩ : GMsg)⟩ : Srecord_CheckMsgxc)))
 else
 (bif (m.Kind == 3) then
 (some (.inl (⟨(r1 && (((m.List_).length : Int) == 1)), m, (⟨m.Kind, m.From, m.To, m.Ballot, 0, m.List_, (⟨0, 0, 0, (⟨(⟨0, 0⟩ : GStamp), 0, 0, 0, [], [], []⟩ : GOp), 0, 0, [], (⟨0, (Vector.replicate 8 (default : Int)), (Vector.replicate 8 (default : Int)), (Vector.replicate 8 (default : Int))⟩ : GEpoch), 0, (Vector.replicate 8 (default : Int)), 0, (⟨0, 0, 0, []⟩ : GPart), 0, 0, 0⟩ : GEntry), 0, (Vector.replicate 8 (default : Int)), 0, 0, [], (⟨0, (Vector.replicate 8 (default : Int)), (Vector.replicate 8 (default : Int)), (Vector.replicate 8 (default : Int))⟩ : GEpoch), (⟨0, 0, 0, []⟩ : GPart)⟩ : GMsg)⟩ : Srecord_CheckMsgxc)))
 else
 (bif (m.Kind == 5) then
 (some (.inl (⟨r1, m, (⟨m.Kind, m.From, m.To, m.Ballot, 0, [], (⟨0, 0, 0, (⟨(⟨0, 0⟩ : GStamp), 0, 0, 0, [], [], []⟩ : GOp), 0, 0, [], (⟨0, (Vector.replicate 8 (default : Int)), (Vector.replicate 8 (default : Int)), (Vector.replicate 8 (default : Int))⟩ : GEpoch), 0, (Vector.replicate 8 (default : Int)), 0, (⟨0, 0, 0, []⟩ : GPart), 0, 0, 0⟩ : GEntry), 0, (Vector.replicate 8 (default : Int)), 0, 0, [], (⟨0, (Vector.replicate 8 (default : Int)), (Vector.replicate 8 (default : Int)), (Vector.replicate 8 (default : Int))⟩ : GEpoch), (⟨0, 0, 0, []⟩ : GPart)⟩ : GMsg)⟩ : Srecord_CheckMsgxc)))
 else
 (bif (m.Kind == 6) then
 (some (.inl (⟨(r1 && (decide (1 ≤ ((m.List_).length : Int)))), m, (⟨m.Kind, m.From, m.To, (⟨0, 0⟩ : GBallot), 0, m.List_, (⟨0, 0, 0, (⟨(⟨0, 0⟩ : GStamp), 0, 0, 0, [], [], []⟩ : GOp), 0, 0, [], (⟨0, (Vector.replicate 8 (default : Int)), (Vector.replicate 8 (default : Int)), (Vector.replicate 8 (default : Int))⟩ : GEpoch), 0, (Vector.replicate 8 (default : Int)), 0, (⟨0, 0, 0, []⟩ : GPart), 0, 0, 0⟩ : GEntry), 0, (Vector.replicate 8 (default : Int)), 0, 0, [], (⟨0, (Vector.replicate 8 (default : Int)), (Vector.replicate 8 (default : Int)), (Vector.replicate 8 (default : Int))⟩ : GEpoch), (⟨0, 0, 0, []⟩ : GPart)⟩ : GMsg)⟩ : Srecord_CheckMsgxc)))
 else
 (bif (m.Kind == 8) then
 (some (.inl (⟨r1, m, (⟨m.Kind, m.From, m.To, (⟨0, 0⟩ : GBallot), m.Slot, [], (⟨0, 0, 0, (⟨(⟨0, 0⟩ : GStamp), 0, 0, 0, [], [], []⟩ : GOp), 0, 0, [], (⟨0, (Vector.replicate 8 (default : Int)), (Vector.replicate 8 (default : Int)), (Vector.replicate 8 (default : Int))⟩ : GEpoch), 0, (Vector.replicate 8 (default : Int)), 0, (⟨0, 0, 0, []⟩ : GPart), 0, 0, 0⟩ : GEntry), 0, (Vector.replicate 8 (default : Int)), 0, 0, [], (⟨0, (Vector.replicate 8 (default : Int)), (Vector.replicate 8 (default : Int)), (Vector.replicate 8 (default : Int))⟩ : GEpoch), (⟨0, 0, 0, []⟩ : GPart)⟩ : GMsg)⟩ : Srecord_CheckMsgxc)))
 else
 (bif (m.Kind == 9) then
 (some (.inl (⟨r1, m, (⟨m.Kind, m.From, m.To, (⟨0, 0⟩ : GBallot), 0, [], m.Entry, 0, (Vector.replicate 8 (default : Int)), 0, 0, [], (⟨0, (Vector.replicate 8 (default : Int)), (Vector.replicate 8 (default : Int)), (Vector.replicate 8 (default : Int))⟩ : GEpoch), (⟨0, 0, 0, []⟩ : GPart)⟩ : GMsg)⟩ : Srecord_CheckMsgxc)))
 else
 (bif (m.Kind == 10) then
 (some (.inl (⟨r1, m, (⟨m.Kind, m.From, m.To, (⟨0, 0⟩ : GBallot), 0, [], (⟨0, 0, 0, (⟨(⟨0, 0⟩ : GStamp), 0, 0, 0, [], [], []⟩ : GOp), 0, 0, [], (⟨0, (Vector.replicate 8 (default : Int)), (Vector.replicate 8 (default : Int)), (Vector.replicate 8 (default : Int))⟩ : GEpoch), 0, (Vector.replicate 8 (default : Int)), 0, (⟨0, 0, 0, []⟩ : GPart), 0, 0, 0⟩ : GEntry), m.Number, m.Vector_, m.Clock, 0, [], (⟨0, (Vector.replicate 8 (default : Int)), (Vector.replicate 8 (default : Int)), (Vector.replicate 8 (default : Int))⟩ : GEpoch), (⟨0, 0, 0, []⟩ : GPart)⟩ : GMsg)⟩ : Srecord_CheckMsgxc)))
 else
 (bif (m.Kind == 11) then
 ((bif r1 then Frecord_site N [m.Origin] else some default).bind fun r7 =>
 ((bif (r1 && r7) then Frecord_mayOps N m.Ops 1 else some default).bind fun r8 =>
 (some (.inl (⟨((r1 && r7) && r8), m, (⟨m.Kind, m.From, m.To, (⟨0, 0⟩ : GBallot), m.Slot, [], (⟨0, 0, 0, (⟨(⟨0, 0⟩ : GStamp), 0, 0, 0, [], [], []⟩ : GOp), 0, 0, [], (⟨0, (Vector.replicate 8 (default : Int)), (Vector.replicate 8 (default : Int)), (Vector.replicate 8 (default : Int))⟩ : GEpoch), 0, (Vector.replicate 8 (default : Int)), 0, (⟨0, 0, 0, []⟩ : GPart), 0, 0, 0⟩ : GEntry), m.Number, (Vector.replicate 8 (default : Int)), 0, m.Origin, m.Ops, (⟨0, (Vector.replicate 8 (default : Int)), (Vector.replicate 8 (default : Int)), (Vector.replicate 8 (default : Int))⟩ : GEpoch), (⟨0, 0, 0, []⟩ : GPart)⟩ : GMsg)⟩ : Srecord_CheckMsgxc)))))
 else
 (bif (m.Kind == 12) then
 ((bif r1 then Frecord_mayEpoch N m.Epoch else some default).bind fun r9 =>
 (some (.inl (⟨(r1 && r9), m, (⟨m.Kind, m.From, m.To, (⟨0, 0⟩ : GBallot), 0, [], (⟨0, 0, 0, (⟨(⟨0, 0⟩ : GStamp), 0, 0, 0, [], [], []⟩ : GOp), 0, 0, [], (⟨0, (Vector.replicate 8 (default : Int)), (Vector.replicate 8 (default : Int)), (Vector.replicate 8 (default : Int))⟩ : GEpoch), 0, (Vector.replicate 8 (default : Int)), 0, (⟨0, 0, 0, []⟩ : GPart), 0, 0, 0⟩ : GEntry), 0, (Vector.replicate 8 (default : Int)), 0, 0, [], m.Epoch, (⟨0, 0, 0, []⟩ : GPart)⟩ : GMsg)⟩ : Srecord_CheckMsgxc))))
 else
 (bif (m.Kind == 13) then
 ((bif r1 then Frecord_mayPart N m.Part else some default).bind fun r10 =>
 (some (.inl (⟨(r1 && r10), m, (⟨m.Kind, m.From, m.To, (⟨0, 0⟩ : GBallot), 0, [], (⟨0, 0, 0, (⟨(⟨0, 0⟩ : GStamp), 0, 0, 0, [], [], []⟩ : GOp), 0, 0, [], (⟨0, (Vector.replicate 8 (default : Int)), (Vector.replicate 8 (default : Int)), (Vector.replicate 8 (default : Int))⟩ : GEpoch), 0, (Vector.replicate 8 (default : Int)), 0, (⟨0, 0, 0, []⟩ : GPart), 0, 0, 0⟩ : GEntry), 0, (Vector.replicate 8 (default : Int)), 0, 0, [], (⟨0, (Vector.replicate 8 (default : Int)), (Vector.replicate 8 (default : Int)), (Vector.replicate 8 (default : Int))⟩ : GEpoch), m.Part⟩ : GMsg)⟩ : Srecord_CheckMsgxc))))
 else
 (bif (m.Kind == 14) then
 (some (.inl (⟨r1, m, (⟨m.Kind, m.From, m.To, (⟨0, 0⟩ : GBallot), 0, [], (⟨0, 0, 0, (⟨(⟨0, 0⟩ : GStamp), 0, 0, 0, [], [], []⟩ : GOp), 0, 0, [], (⟨0, (Vector.replicate 8 (default : Int)), (Vector.replicate 8 (default : Int)), (Vector.replicate 8 (default : Int))⟩ : GEpoch), 0, (Vector.replicate 8 (default : Int)), 0, (⟨0, 0, 0, []⟩ : GPart), 0, 0, 0⟩ : GEntry), m.Number, m.Vector_, 0, 0, [], (⟨0, (Vector.replicate 8 (default : Int)), (Vector.replicate 8 (default : Int)), (Vector.replicate 8 (default : Int))⟩ : GEpoch), (⟨0, 0, 0, []⟩ : GPart)⟩ : GMsg)⟩ : Srecord_CheckMsgxc)))
 else
 (bif (m.Kind == 15) then
 ((bif r1 then Frecord_mayPart N m.Part else some default).bind fun r11 =>
 (some (.inl (⟨(r1 && r11), m, (⟨m.Kind, m.From, m.To, (⟨0, 0⟩ : GBallot), m.Slot, [], (⟨0, 0, 0, (⟨(⟨0, 0⟩ : GStamp), 0, 0, 0, [], [], []⟩ : GOp), 0, 0, [], (⟨0, (Vector.replicate 8 (default : Int)), (Vector.replicate 8 (default : Int)), (Vector.replicate 8 (default : Int))⟩ : GEpoch), 0, (Vector.replicate 8 (default : Int)), 0, (⟨0, 0, 0, []⟩ : GPart), 0, 0, 0⟩ : GEntry), 0, (Vector.replicate 8 (default : Int)), 0, 0, [], (⟨0, (Vector.replicate 8 (default : Int)), (Vector.replicate 8 (default : Int)), (Vector.replicate 8 (default : Int))⟩ : GEpoch), m.Part⟩ : GMsg)⟩ : Srecord_CheckMsgxc))))
 else
 (some (.inl (⟨false, m, (⟨m.Kind, m.From, m.To, (⟨0, 0⟩ : GBallot), 0, [], (⟨0, 0, 0, (⟨(⟨0, 0⟩ : GStamp), 0, 0, 0, [], [], []⟩ : GOp), 0, 0, [], (⟨0, (Vector.replicate 8 (default : Int)), (Vector.replicate 8 (default : Int)), (Vector.replicate 8 (default : Int))⟩ : GEpoch), 0, (Vector.replicate 8 (default : Int)), 0, (⟨0, 0, 0, []⟩ : GPart), 0, 0, 0⟩ : GEntry), 0, (Vector.replicate 8 (default : Int)), 0, 0, [], (⟨0, (Vector.replicate 8 (default : Int)), (Vector.replicate 8 (default : Int)), (Vector.replicate 8 (default : Int))⟩ : GEpoch), (⟨0, 0, 0, []⟩ : GPart)⟩ : GMsg)⟩ : Srecord_CheckMsgxc))))))))))))))))
 else
 (bif (m.Kind == 7) then
 (some (.inl (⟨r1, m, (⟨m.Kind, m.From, m.To, m.Ballot, m.Slot, [], (⟨0, 0, 0, (⟨(⟨0, 0⟩ : GStamp), 0, 0, 0, [], [], []⟩ : GOp), 0, 0, [], (⟨0, (Vector.replicate 8 (default : Int)), (Vector.replicate 8 (default : Int)), (Vector.replicate 8 (default : Int))⟩ : GEpoch), 0, (Vector.replicate 8 (default : Int)), 0, (⟨0, 0, 0, []⟩ : GPart), 0, 0, 0⟩ : GEntry), 0, (Vector.replicate 8 (default : Int)), 0, 0, [], (⟨0, (Vector.replicate 8 (default : Int)), (Vector.replicate 8 (default : Int)), (Vector.replicate 8 (default : Int))⟩ : GEpoch), (⟨0, 0, 0, []⟩ : GPart)⟩ : GMsg)⟩ : Srecord_CheckMsgxc)))
 else
 (bif (m.Kind == 2) then
 (some (.inl (⟨r1, m, (⟨m.Kind, m.From, m.To, m.Ballot, m.Slot, m.List_, (⟨0, 0, 0, (⟨(⟨0, 0⟩ : GStamp), 0, 0, 0, [], [], []⟩ : GOp), 0, 0, [], (⟨0, (Vector.replicate 8 (default : Int)), (Vector.replicate 8 (default : Int)), (Vector.replicate 8 (default : Int))⟩ : GEpoch), 0, (Vector.replicate 8 (default : Int)), 0, (⟨0, 0, 0, []⟩ : GPart), 0, 0, 0⟩ : GEntry), 0, (Vector.replicate 8 (default : Int)), 0, 0, [], (⟨0, (Vector.replicate 8 (default : Int)), (Vector.replicate 8 (default : Int)), (Vector.replicate 8 (default : Int))⟩ : GEpoch), (⟨0, 0, 0, []⟩ : GPart)⟩ : GMsg)⟩ : Srecord_CheckMsgxc)))
 else
 (bif (m.Kind == 3) then
 (some (.inl (⟨(r1 && (((m.List_).length : Int) == 1)), m, (⟨m.Kind, m.From, m.To, m.Ballot, 0, m.List_, (⟨0, 0, 0, (⟨(⟨0, 0⟩ : GStamp), 0, 0, 0, [], [], []⟩ : GOp), 0, 0, [], (⟨0, (Vector.replicate 8 (default : Int)), (Vector.replicate 8 (default : Int)), (Vector.replicate 8 (default : Int))⟩ : GEpoch), 0, (Vector.replicate 8 (default : Int)), 0, (⟨0, 0, 0, []⟩ : GPart), 0, 0, 0⟩ : GEntry), 0, (Vector.replicate 8 (default : Int)), 0, 0, [], (⟨0, (Vector.replicate 8 (default : Int)), (Vector.replicate 8 (default : Int)), (Vector.replicate 8 (default : Int))⟩ : GEpoch), (⟨0, 0, 0, []⟩ : GPart)⟩ : GMsg)⟩ : Srecord_CheckMsgxc)))
 else
 (bif (m.Kind == 5) then
 (some (.inl (⟨r1, m, (⟨m.Kind, m.From, m.To, m.Ballot, 0, [], (⟨0, 0, 0, (⟨(⟨0, 0⟩ : GStamp), 0, 0, 0, [], [], []⟩ : GOp), 0, 0, [], (⟨0, (Vector.replicate 8 (default : Int)), (Vector.replicate 8 (default : Int)), (Vector.replicate 8 (default : Int))⟩ : GEpoch), 0, (Vector.replicate 8 (default : Int)), 0, (⟨0, 0, 0, []⟩ : GPart), 0, 0, 0⟩ : GEntry), 0, (Vector.replicate 8 (default : Int)), 0, 0, [], (⟨0, (Vector.replicate 8 (default : Int)), (Vector.replicate 8 (default : Int)), (Vector.replicate 8 (default : Int))⟩ : GEpoch), (⟨0, 0, 0, []⟩ : GPart)⟩ : GMsg)⟩ : Srecord_CheckMsgxc)))
 else
 (bif (m.Kind == 6) then
 (some (.inl (⟨(r1 && (decide (1 ≤ ((m.List_).length : Int)))), m, (⟨m.Kind, m.From, m.To, (⟨0, 0⟩ : GBallot), 0, m.List_, (⟨0, 0, 0, (⟨(⟨0, 0⟩ : GStamp), 0, 0, 0, [], [], []⟩ : GOp), 0, 0, [], (⟨0, (Vector.replicate 8 (default : Int)), (Vector.replicate 8 (default : Int)), (Vector.replicate 8 (default : Int))⟩ : GEpoch), 0, (Vector.replicate 8 (default : Int)), 0, (⟨0, 0, 0, []⟩ : GPart), 0, 0, 0⟩ : GEntry), 0, (Vector.replicate 8 (default : Int)), 0, 0, [], (⟨0, (Vector.replicate 8 (default : Int)), (Vector.replicate 8 (default : Int)), (Vector.replicate 8 (default : Int))⟩ : GEpoch), (⟨0, 0, 0, []⟩ : GPart)⟩ : GMsg)⟩ : Srecord_CheckMsgxc)))
 else
 (bif (m.Kind == 8) then
 (some (.inl (⟨r1, m, (⟨m.Kind, m.From, m.To, (⟨0, 0⟩ : GBallot), m.Slot, [], (⟨0, 0, 0, (⟨(⟨0, 0⟩ : GStamp), 0, 0, 0, [], [], []⟩ : GOp), 0, 0, [], (⟨0, (Vector.replicate 8 (default : Int)), (Vector.replicate 8 (default : Int)), (Vector.replicate 8 (default : Int))⟩ : GEpoch), 0, (Vector.replicate 8 (default : Int)), 0, (⟨0, 0, 0, []⟩ : GPart), 0, 0, 0⟩ : GEntry), 0, (Vector.replicate 8 (default : Int)), 0, 0, [], (⟨0, (Vector.replicate 8 (default : Int)), (Vector.replicate 8 (default : Int)), (Vector.replicate 8 (default : Int))⟩ : GEpoch), (⟨0, 0, 0, []⟩ : GPart)⟩ : GMsg)⟩ : Srecord_CheckMsgxc)))
 else
 (bif (m.Kind == 9) then
 (some (.inl (⟨r1, m, (⟨m.Kind, m.From, m.To, (⟨0, 0⟩ : GBallot), 0, [], m.Entry, 0, (Vector.replicate 8 (default : Int)), 0, 0, [], (⟨0, (Vector.replicate 8 (default : Int)), (Vector.replicate 8 (default : Int)), (Vector.replicate 8 (default : Int))⟩ : GEpoch), (⟨0, 0, 0, []⟩ : GPart)⟩ : GMsg)⟩ : Srecord_CheckMsgxc)))
 else
 (bif (m.Kind == 10) then
 (some (.inl (⟨r1, m, (⟨m.Kind, m.From, m.To, (⟨0, 0⟩ : GBallot), 0, [], (⟨0, 0, 0, (⟨(⟨0, 0⟩ : GStamp), 0, 0, 0, [], [], []⟩ : GOp), 0, 0, [], (⟨0, (Vector.replicate 8 (default : Int)), (Vector.replicate 8 (default : Int)), (Vector.replicate 8 (default : Int))⟩ : GEpoch), 0, (Vector.replicate 8 (default : Int)), 0, (⟨0, 0, 0, []⟩ : GPart), 0, 0, 0⟩ : GEntry), m.Number, m.Vector_, m.Clock, 0, [], (⟨0, (Vector.replicate 8 (default : Int)), (Vector.replicate 8 (default : Int)), (Vector.replicate 8 (default : Int))⟩ : GEpoch), (⟨0, 0, 0, []⟩ : GPart)⟩ : GMsg)⟩ : Srecord_CheckMsgxc)))
 else
 (bif (m.Kind == 11) then
 ((bif r1 then Frecord_site N [m.Origin] else some default).bind fun r12 =>
 ((bif (r1 && r12) then Frecord_mayOps N m.Ops 1 else some default).bind fun r13 =>
 (some (.inl (⟨((r1 && r12) && r13), m, (⟨m.Kind, m.From, m.To, (⟨0, 0⟩ : GBallot), m.Slot, [], (⟨0, 0, 0, (⟨(⟨0, 0⟩ : GStamp), 0, 0, 0, [], [], []⟩ : GOp), 0, 0, [], (⟨0, (Vector.replicate 8 (default : Int)), (Vector.replicate 8 (default : Int)), (Vector.replicate 8 (default : Int))⟩ : GEpoch), 0, (Vector.replicate 8 (default : Int)), 0, (⟨0, 0, 0, []⟩ : GPart), 0, 0, 0⟩ : GEntry), m.Number, (Vector.replicate 8 (default : Int)), 0, m.Origin, m.Ops, (⟨0, (Vector.replicate 8 (default : Int)), (Vector.replicate 8 (default : Int)), (Vector.replicate 8 (default : Int))⟩ : GEpoch), (⟨0, 0, 0, []⟩ : GPart)⟩ : GMsg)⟩ : Srecord_CheckMsgxc)))))
 else
 (bif (m.Kind == 12) then
 ((bif r1 then Frecord_mayEpoch N m.Epoch else some default).bind fun r14 =>
 (some (.inl (⟨(r1 && r14), m, (⟨m.Kind, m.From, m.To, (⟨0, 0⟩ : GBallot), 0, [], (⟨0, 0, 0, (⟨(⟨0, 0⟩ : GStamp), 0, 0, 0, [], [], []⟩ : GOp), 0, 0, [], (⟨0, (Vector.replicate 8 (default : Int)), (Vector.replicate 8 (default : Int)), (Vector.replicate 8 (default : Int))⟩ : GEpoch), 0, (Vector.replicate 8 (default : Int)), 0, (⟨0, 0, 0, []⟩ : GPart), 0, 0, 0⟩ : GEntry), 0, (Vector.replicate 8 (default : Int)), 0, 0, [], m.Epoch, (⟨0, 0, 0, []⟩ : GPart)⟩ : GMsg)⟩ : Srecord_CheckMsgxc))))
 else
 (bif (m.Kind == 13) then
 ((bif r1 then Frecord_mayPart N m.Part else some default).bind fun r15 =>
 (some (.inl (⟨(r1 && r15), m, (⟨m.Kind, m.From, m.To, (⟨0, 0⟩ : GBallot), 0, [], (⟨0, 0, 0, (⟨(⟨0, 0⟩ : GStamp), 0, 0, 0, [], [], []⟩ : GOp), 0, 0, [], (⟨0, (Vector.replicate 8 (default : Int)), (Vector.replicate 8 (default : Int)), (Vector.replicate 8 (default : Int))⟩ : GEpoch), 0, (Vector.replicate 8 (default : Int)), 0, (⟨0, 0, 0, []⟩ : GPart), 0, 0, 0⟩ : GEntry), 0, (Vector.replicate 8 (default : Int)), 0, 0, [], (⟨0, (Vector.replicate 8 (default : Int)), (Vector.replicate 8 (default : Int)), (Vector.replicate 8 (default : Int))⟩ : GEpoch), m.Part⟩ : GMsg)⟩ : Srecord_CheckMsgxc))))
 else
 (bif (m.Kind == 14) then
 (some (.inl (⟨r1, m, (⟨m.Kind, m.From, m.To, (⟨0, 0⟩ : GBallot), 0, [], (⟨0, 0, 0, (⟨(⟨0, 0⟩ : GStamp), 0, 0, 0, [], [], []⟩ : GOp), 0, 0, [], (⟨0, (Vector.replicate 8 (default : Int)), (Vector.replicate 8 (default : Int)), (Vector.replicate 8 (default : Int))⟩ : GEpoch), 0, (Vector.replicate 8 (default : Int)), 0, (⟨0, 0, 0, []⟩ : GPart), 0, 0, 0⟩ : GEntry), m.Number, m.Vector_, 0, 0, [], (⟨0, (Vector.replicate 8 (default : Int)), (Vector.replicate 8 (default : Int)), (Vector.replicate 8 (default : Int))⟩ : GEpoch), (⟨0, 0, 0, []⟩ : GPart)⟩ : GMsg)⟩ : Srecord_CheckMsgxc)))
 else
 (bif (m.Kind == 15) then
 ((bif r1 then Frecord_mayPart N m.Part else some default).bind fun r16 =>
 (some (.inl (⟨(r1 && r16), m, (⟨m.Kind, m.From, m.To, (⟨0, 0⟩ : GBallot), m.Slot, [], (⟨0, 0, 0, (⟨(⟨0, 0⟩ : GStamp), 0, 0, 0, [], [], []⟩ : GOp), 0, 0, [], (⟨0, (Vector.replicate 8 (default : Int)), (Vector.replicate 8 (default : Int)), (Vector.replicate 8 (default : Int))⟩ : GEpoch), 0, (Vector.replicate 8 (default : Int)), 0, (⟨0, 0, 0, []⟩ : GPart), 0, 0, 0⟩ : GEntry), 0, (Vector.replicate 8 (default : Int)), 0, 0, [], (⟨0, (Vector.replicate 8 (default : Int)), (Vector.replicate 8 (default : Int)), (Vector.replicate 8 (default : Int))⟩ : GEpoch), m.Part⟩ : GMsg)⟩ : Srecord_CheckMsgxc))))
 else
 (some (.inl (⟨false, m, (⟨m.Kind, m.From, m.To, (⟨0, 0⟩ : GBallot), 0, [], (⟨0, 0, 0, (⟨(⟨0, 0⟩ : GStamp), 0, 0, 0, [], [], []⟩ : GOp), 0, 0, [], (⟨0, (Vector.replicate 8 (default : Int)), (Vector.replicate 8 (default : Int)), (Vector.replicate 8 (default : Int))⟩ : GEpoch), 0, (Vector.replicate 8 (default : Int)), 0, (⟨0, 0, 0, []⟩ : GPart), 0, 0, 0⟩ : GEntry), 0, (Vector.replicate 8 (default : Int)), 0, 0, [], (⟨0, (Vector.replicate 8 (default : Int)), (Vector.replicate 8 (default : Int)), (Vector.replicate 8 (default : Int))⟩ : GEpoch), (⟨0, 0, 0, []⟩ : GPart)⟩ : GMsg)⟩ : Srecord_CheckMsgxc)))))))))))))))))))
def Hrecord_CheckMsg (N : Nat) (m : GMsg) (s : Srecord_CheckMsgxc) : Option (Int) :=
 ((bif s.ok then Frecord_mayBallot N s.b1.Ballot else some default).bind fun r17 =>
 ((bif (s.ok && r17) then Frecord_count N [s.b1.Slot, s.b1.Number, s.b1.Clock] else some default).bind fun r18 =>
 (bif ((s.ok && r17) && r18) then
 ((bif ((s.ok && r17) && r18) then Frecord_count N (s.b1.Vector_.toList) else some default).bind fun r19 =>
 ((bif (((s.ok && r17) && r18) && r19) then Frecord_maySlotted N s.b1.List_ 0 4096 else some default).bind fun r20 =>
 ((bif ((((s.ok && r17) && r18) && r19) && r20) then Frecord_CheckEntry N s.b1.Entry else some default).bind fun r21 =>
 ((bif (((((s.ok && r17) && r18) && r19) && r20) && (r21 == 0)) then Frecord_SameMsg N s.b1 s.b0 else some default).bind fun r22 =>
 ((Frecord_verdict N ((((((s.ok && r17) && r18) && r19) && r20) && (r21 == 0)) && r22)).bind fun r23 =>
 (some r23))))))
 else
 ((bif false then Frecord_maySlotted N s.b1.List_ 0 4096 else some default).bind fun r24 =>
 ((bif false then Frecord_CheckEntry N s.b1.Entry else some default).bind fun r25 =>
 ((bif false then Frecord_SameMsg N s.b1 s.b0 else some default).bind fun r26 =>
 ((Frecord_verdict N false).bind fun r27 =>
 (some r27))))))))
def Frecord_CheckMsg (N : Nat) (m : GMsg) : Option (Int) :=
 (Grecord_CheckMsg N m).bind fun z => match z with | .inl s => Hrecord_CheckMsg N m s | .inr r => some r
def conrecord_CheckMsg : Con τ := { args := [.ty 55], L := [], ret := .ty 56, L' := [], R := Int, dflt := default, F := fun N a b => Frecord_CheckMsg N a.1, of := fun r => (r, ()) }
noncomputable def datrecord_CheckMsg : Dat τ := { D := D0, tbl := tblOf [(82, conrecord_mayAddr), (83, conrecord_site), (84, conrecord_mayOps), (85, conrecord_mayEpoch), (86, conrecord_mayPart), (87, conrecord_mayBallot), (88, conrecord_count), (89, conrecord_maySlotted), (90, conrecord_CheckEntry), (92, conrecord_SameMsg), (91, conrecord_verdict)], lp := lpsOf [], k0 := 0, mu := [], un := [] }
theorem okrecord_CheckMsg : ConOk E C 50 conrecord_CheckMsg :=
  con_cut (D := datrecord_CheckMsg) ⟨d0Ok, eGood, tblOf_ok ⟨okrecord_mayAddr, ⟨okrecord_site, ⟨okrecord_mayOps, ⟨okrecord_mayEpoch, ⟨okrecord_mayPart, ⟨okrecord_mayBallot, ⟨okrecord_count, ⟨okrecord_maySlotted, ⟨okrecord_CheckEntry, ⟨okrecord_SameMsg, ⟨okrecord_verdict, trivial⟩⟩⟩⟩⟩⟩⟩⟩⟩⟩⟩, fun _ => rfl⟩ conrecord_CheckMsg (fun a b => a) none (fun _ _ => rfl) rfl (fun _ _ h => nomatch h) 1000000 [true, true, true, true, false] lprecord_CheckMsgxc (fun N a b => Grecord_CheckMsg N a.1) (fun N a b s => Hrecord_CheckMsg N a.1 s) (by intro N a b; kernel_rfl) (fn := Try.f50) Try.func50 rfl (by kernel_rfl) (by kernel_rfl) rfl (by kernel_rfl) (by intro a b s; kernel_rfl) (by intro N a b; kernel_rfl) (by intro N a b s; kernel_rfl)
def Fslices_Clone_Slotted_439 (N : Nat) (s : List (GSlotted)) : Option (Nat × (List (GSlotted))) :=
 (bif (lenB ((s).length) 528) then
 (some ((s).length, s))
 else none)
def conslices_Clone_Slotted_439 : Con τ := { args := [.nn 101], L := [], ret := .msl 101 0, L' := [.gbx 101], R := Nat × (List (GSlotted)), dflt := (default, default), F := fun N a b => Fslices_Clone_Slotted_439 N a.1, of := fun r => (r.1, (r.2, ())) }
noncomputable def datslices_Clone_Slotted_439 : Dat τ := { D := D0, tbl := tblOf [], lp := lpsOf [], k0 := 0, mu := [7], un := [] }
theorem okslices_Clone_Slotted_439 : ConOk E C 70 conslices_Clone_Slotted_439 :=
  con_ok (D := datslices_Clone_Slotted_439) ⟨d0Ok, eGood, tblOf_ok trivial, fun _ => rfl⟩ conslices_Clone_Slotted_439 (fun a b => (a, b.1)) none (fun _ _ => rfl) rfl (fun _ _ h => nomatch h) 1000000 (fn := Try.f70) Try.func70 rfl (by kernel_rfl) (by kernel_rfl) rfl (by intro N a b; kernel_rfl)
def Fslices_Clone_Slotted_476 (N : Nat)  : Option (Nat × (List (GSlotted))) :=
 (some (0, []))
def conslices_Clone_Slotted_476 : Con τ := { args := [.nil .slice], L := [], ret := .msl 101 0, L' := [.gbx 101], R := Nat × (List (GSlotted)), dflt := (default, default), F := fun N a b => Fslices_Clone_Slotted_476 N , of := fun r => (r.1, (r.2, ())) }
noncomputable def datslices_Clone_Slotted_476 : Dat τ := { D := D0, tbl := tblOf [], lp := lpsOf [], k0 := 0, mu := [7], un := [] }
theorem okslices_Clone_Slotted_476 : ConOk E C 70 conslices_Clone_Slotted_476 :=
  con_ok (D := datslices_Clone_Slotted_476) ⟨d0Ok, eGood, tblOf_ok trivial, fun _ => rfl⟩ conslices_Clone_Slotted_476 (fun a b => (a, b.1)) none (fun _ _ => rfl) rfl (fun _ _ h => nomatch h) 1000000 (fn := Try.f70) Try.func70 rfl (by kernel_rfl) (by kernel_rfl) rfl (by intro N a b; kernel_rfl)
def Fslices_Clone_Slotted_560 (N : Nat) (s : List (GSlotted)) : Option (Nat × (List (GSlotted))) := Fslices_Clone_Slotted_439 N s
def conslices_Clone_Slotted_560 : Con τ := { args := [.ty 48], L := [], ret := .msl 101 0, L' := [.gbx 101], R := Nat × (List (GSlotted)), dflt := (default, default), F := fun N a b => Fslices_Clone_Slotted_560 N a.1, of := fun r => (r.1, (r.2, ())) }
theorem okslices_Clone_Slotted_560 : ConOk E C 70 conslices_Clone_Slotted_560 := by
  intro N a b r h
  obtain ⟨x0, u⟩ := a
  refine FnSpec.split (pre := []) (post := []) (fun h0 => ?_) (okslices_Clone_Slotted_439 N (x0, u) b r h)
  have h0 : x0 = [] := List.map_eq_nil_iff.1 h0
  subst h0
  exact okslices_Clone_Slotted_476 N ((), u) b r ((show conslices_Clone_Slotted_476.F N ((), u) b = conslices_Clone_Slotted_560.F N ([], u) b from by kernel_rfl).trans h)
def Fslices_Clone_Op_367 (N : Nat) (s : List (GOp)) : Option ((List (GOp))) :=
 (bif (lenB (0 + (s).length) 88) then
 (some ([] ++ s))
 else none)
def conslices_Clone_Op_367 : Con τ := { args := [.nn 43], L := [], ret := .ty 28, L' := [], R := (List (GOp)), dflt := default, F := fun N a b => Fslices_Clone_Op_367 N a.1, of := fun r => (r, ()) }
noncomputable def datslices_Clone_Op_367 : Dat τ := { D := D0, tbl := tblOf [], lp := lpsOf [], k0 := 0, mu := [], un := [] }
theorem okslices_Clone_Op_367 : ConOk E C 69 conslices_Clone_Op_367 :=
  con_ok (D := datslices_Clone_Op_367) ⟨d0Ok, eGood, tblOf_ok trivial, fun _ => rfl⟩ conslices_Clone_Op_367 (fun a b => a) none (fun _ _ => rfl) rfl (fun _ _ h => nomatch h) 1000000 (fn := Try.f69) Try.func69 rfl (by kernel_rfl) (by kernel_rfl) rfl (by intro N a b; kernel_rfl)
def Fslices_Clone_Op_932 (N : Nat)  : Option ((List (GOp))) :=
 (some [])
def conslices_Clone_Op_932 : Con τ := { args := [.nil .slice], L := [], ret := .ty 28, L' := [], R := (List (GOp)), dflt := default, F := fun N a b => Fslices_Clone_Op_932 N , of := fun r => (r, ()) }
noncomputable def datslices_Clone_Op_932 : Dat τ := { D := D0, tbl := tblOf [], lp := lpsOf [], k0 := 0, mu := [], un := [] }
theorem okslices_Clone_Op_932 : ConOk E C 69 conslices_Clone_Op_932 :=
  con_ok (D := datslices_Clone_Op_932) ⟨d0Ok, eGood, tblOf_ok trivial, fun _ => rfl⟩ conslices_Clone_Op_932 (fun a b => a) none (fun _ _ => rfl) rfl (fun _ _ h => nomatch h) 1000000 (fn := Try.f69) Try.func69 rfl (by kernel_rfl) (by kernel_rfl) rfl (by intro N a b; kernel_rfl)
def Fslices_Clone_Op (N : Nat) (s : List (GOp)) : Option ((List (GOp))) := Fslices_Clone_Op_367 N s
def conslices_Clone_Op : Con τ := { args := [.ty 28], L := [], ret := .ty 28, L' := [], R := (List (GOp)), dflt := default, F := fun N a b => Fslices_Clone_Op N a.1, of := fun r => (r, ()) }
theorem okslices_Clone_Op : ConOk E C 69 conslices_Clone_Op := by
  intro N a b r h
  obtain ⟨x0, u⟩ := a
  refine FnSpec.split (pre := []) (post := []) (fun h0 => ?_) (okslices_Clone_Op_367 N (x0, u) b r h)
  have h0 : x0 = [] := List.map_eq_nil_iff.1 h0
  subst h0
  exact okslices_Clone_Op_932 N ((), u) b r ((show conslices_Clone_Op_932.F N ((), u) b = conslices_Clone_Op.F N ([], u) b from by kernel_rfl).trans h)
def Fslices_Clone_byte_c35 (N : Nat) (s : List (Int)) : Option ((List (Int))) :=
 (bif (lenB (0 + (s).length) 1) then
 (some ([] ++ s))
 else none)
def conslices_Clone_byte_c35 : Con τ := { args := [.nn 5], L := [], ret := .ty 49, L' := [], R := (List (Int)), dflt := default, F := fun N a b => Fslices_Clone_byte_c35 N a.1, of := fun r => (r, ()) }
noncomputable def datslices_Clone_byte_c35 : Dat τ := { D := D0, tbl := tblOf [], lp := lpsOf [], k0 := 0, mu := [], un := [] }
theorem okslices_Clone_byte_c35 : ConOk E C 72 conslices_Clone_byte_c35 :=
  con_ok (D := datslices_Clone_byte_c35) ⟨d0Ok, eGood, tblOf_ok trivial, fun _ => rfl⟩ conslices_Clone_byte_c35 (fun a b => a) none (fun _ _ => rfl) rfl (fun _ _ h => nomatch h) 1000000 (fn := Try.f72) Try.func72 rfl (by kernel_rfl) (by kernel_rfl) rfl (by intro N a b; kernel_rfl)
def Fslices_Clone_byte_932 (N : Nat)  : Option ((List (Int))) :=
 (some [])
def conslices_Clone_byte_932 : Con τ := { args := [.nil .slice], L := [], ret := .ty 49, L' := [], R := (List (Int)), dflt := default, F := fun N a b => Fslices_Clone_byte_932 N , of := fun r => (r, ()) }
noncomputable def datslices_Clone_byte_932 : Dat τ := { D := D0, tbl := tblOf [], lp := lpsOf [], k0 := 0, mu := [], un := [] }
theorem okslices_Clone_byte_932 : ConOk E C 72 conslices_Clone_byte_932 :=
  con_ok (D := datslices_Clone_byte_932) ⟨d0Ok, eGood, tblOf_ok trivial, fun _ => rfl⟩ conslices_Clone_byte_932 (fun a b => a) none (fun _ _ => rfl) rfl (fun _ _ h => nomatch h) 1000000 (fn := Try.f72) Try.func72 rfl (by kernel_rfl) (by kernel_rfl) rfl (by intro N a b; kernel_rfl)
def Fslices_Clone_byte (N : Nat) (s : List (Int)) : Option ((List (Int))) := Fslices_Clone_byte_c35 N s
def conslices_Clone_byte : Con τ := { args := [.ty 49], L := [], ret := .ty 49, L' := [], R := (List (Int)), dflt := default, F := fun N a b => Fslices_Clone_byte N a.1, of := fun r => (r, ()) }
theorem okslices_Clone_byte : ConOk E C 72 conslices_Clone_byte := by
  intro N a b r h
  obtain ⟨x0, u⟩ := a
  refine FnSpec.split (pre := []) (post := []) (fun h0 => ?_) (okslices_Clone_byte_c35 N (x0, u) b r h)
  have h0 : x0 = [] := List.map_eq_nil_iff.1 h0
  subst h0
  exact okslices_Clone_byte_932 N ((), u) b r ((show conslices_Clone_byte_932.F N ((), u) b = conslices_Clone_byte.F N ([], u) b from by kernel_rfl).trans h)
def Frecord_CloneEntry (N : Nat) (e : GEntry) : Option (GEntry) :=
 ((Fslices_Clone_Op N e.Ops).bind fun r1 =>
 ((Fslices_Clone_byte N e.Part.Data).bind fun r2 =>
 (some (⟨e.Kind, e.Session, e.Request, e.Op, e.Origin, e.Seq, r1, e.Epoch, e.From, e.Vector_, e.Clock, (⟨e.Part.Snap, e.Part.Index, e.Part.Many, r2⟩ : GPart), e.Site, e.Sponsor, e.Length⟩ : GEntry))))
def conrecord_CloneEntry : Con τ := { args := [.ty 53], L := [], ret := .ty 53, L' := [], R := GEntry, dflt := default, F := fun N a b => Frecord_CloneEntry N a.1, of := fun r => (r, ()) }
noncomputable def datrecord_CloneEntry : Dat τ := { D := D0, tbl := tblOf [(69, conslices_Clone_Op), (72, conslices_Clone_byte)], lp := lpsOf [], k0 := 0, mu := [], un := [] }
theorem okrecord_CloneEntry : ConOk E C 71 conrecord_CloneEntry :=
  con_ok (D := datrecord_CloneEntry) ⟨d0Ok, eGood, tblOf_ok ⟨okslices_Clone_Op, ⟨okslices_Clone_byte, trivial⟩⟩, fun _ => rfl⟩ conrecord_CloneEntry (fun a b => a) none (fun _ _ => rfl) rfl (fun _ _ h => nomatch h) 1000000 (fn := Try.f71) Try.func71 rfl (by kernel_rfl) (by kernel_rfl) rfl (by intro N a b; kernel_rfl)
structure Srecord_CloneMsgx3 where
  t11 : Int
  g2 : List (GSlotted)
def tsrecord_CloneMsgx3 : List Sl := [.k, .k, .k, .j, .k, .k, .k, .k, .k, .k, .k, .sh (.ty 2), .j, .j, .j, .j, .j, .j, .j, .j, .j, .j, .j, .j, .j, .j, .j, .k, .k, .k, .k, .k, .k, .k, .k, .k, .k, .k, .k, .k, .k, .k]
def hsrecord_CloneMsgx3 : List ESh := [.keep, .keep, .gbx 101]
def torecord_CloneMsgx3 (a : Sl.Ts τ tsrecord_CloneMsgx3) (b : ESh.Ts τ hsrecord_CloneMsgx3) : Srecord_CloneMsgx3 := ⟨a.2.2.2.2.2.2.2.2.2.2.2.1, b.2.2.1⟩
def otrecord_CloneMsgx3 (s : Srecord_CloneMsgx3) : Sl.Ts τ tsrecord_CloneMsgx3 := ((), (), (), (), (), (), (), (), (), (), (), s.t11, (), (), (), (), (), (), (), (), (), (), (), (), (), (), (), (), (), (), (), (), (), (), (), (), (), (), (), (), (), (), ())
def ohrecord_CloneMsgx3 (s : Srecord_CloneMsgx3) : ESh.Ts τ hsrecord_CloneMsgx3 := ((), (), s.g2, ())
def lprecord_CloneMsgx3 : Lp τ := { ts := tsrecord_CloneMsgx3, hs := hsrecord_CloneMsgx3, S := Srecord_CloneMsgx3, to := torecord_CloneMsgx3, ot := otrecord_CloneMsgx3, oh := ohrecord_CloneMsgx3, hk := [2, 2, 4], tk := [0, 2, 3, 0, 2, 0, 0, 2, 2], ot_to := fun _ _ => rfl, oh_to := fun _ _ => rfl }
def Frecord_CloneMsg (N : Nat) (m : GMsg) : Option (Int × GAddr × GAddr × GBallot × Int × Nat × GEntry × Int × (Vector (Int) 8) × Int × Int × (List (GOp)) × GEpoch × GPart × (List (GSlotted))) :=
 ((Fslices_Clone_Slotted_560 N m.List_).bind fun r1 =>
 (iter N (fun (s2 : Srecord_CloneMsgx3) next3 =>
 (bif (decide (s2.t11 < ((r1.1 : Nat) : Int))) then
 (bif (ibB s2.t11 ((r1.1 : Nat) : Int)) then
 (bif (decide ((s2.t11).toNat < (s2.g2).length)) then
 ((Frecord_CloneEntry N (⟨((s2.g2.getD ((s2.t11).toNat) default).Entry).Kind, ((s2.g2.getD ((s2.t11).toNat) default).Entry).Session, ((s2.g2.getD ((s2.t11).toNat) default).Entry).Request, (⟨((((s2.g2.getD ((s2.t11).toNat) default).Entry).Op).Stamp), (((s2.g2.getD ((s2.t11).toNat) default).Entry).Op).Kind, (((s2.g2.getD ((s2.t11).toNat) default).Entry).Op).Node, (((s2.g2.getD ((s2.t11).toNat) default).Entry).Op).Parent, (((s2.g2.getD ((s2.t11).toNat) default).Entry).Op).Name, (((s2.g2.getD ((s2.t11).toNat) default).Entry).Op).Key, (((s2.g2.getD ((s2.t11).toNat) default).Entry).Op).Value⟩ : GOp), ((s2.g2.getD ((s2.t11).toNat) default).Entry).Origin, ((s2.g2.getD ((s2.t11).toNat) default).Entry).Seq, ((s2.g2.getD ((s2.t11).toNat) default).Entry).Ops, (((s2.g2.getD ((s2.t11).toNat) default).Entry).Epoch), ((s2.g2.getD ((s2.t11).toNat) default).Entry).From, ((s2.g2.getD ((s2.t11).toNat) default).Entry).Vector_, ((s2.g2.getD ((s2.t11).toNat) default).Entry).Clock, (((s2.g2.getD ((s2.t11).toNat) default).Entry).Part), ((s2.g2.getD ((s2.t11).toNat) default).Entry).Site, ((s2.g2.getD ((s2.t11).toNat) default).Entry).Sponsor, ((s2.g2.getD ((s2.t11).toNat) default).Entry).Length⟩ : GEntry)).bind fun r4 =>
 (bif (ibB s2.t11 ((r1.1 : Nat) : Int)) then
 (bif (decide ((s2.t11).toNat < (s2.g2).length)) then
 (next3 ⟨(IntKind.i64.wrap (s2.t11 + 1)), (s2.g2.set ((s2.t11).toNat) (⟨(s2.g2.getD ((s2.t11).toNat) default).Slot, ((s2.g2.getD ((s2.t11).toNat) default).Ballot), r4⟩ : GSlotted))⟩)
 else none)
 else none))
 else none)
 else none)
 else
 ((Frecord_CloneEntry N m.Entry).bind fun r5 =>
 ((Fslices_Clone_Op N m.Ops).bind fun r6 =>
 ((Fslices_Clone_byte N m.Part.Data).bind fun r7 =>
 (some (m.Kind, m.From, m.To, m.Ballot, m.Slot, r1.1, r5, m.Number, m.Vector_, m.Clock, m.Origin, r6, m.Epoch, (⟨m.Part.Snap, m.Part.Index, m.Part.Many, r7⟩ : GPart), s2.g2))))))) ⟨0, r1.2⟩))
def conrecord_CloneMsg : Con τ := { args := [.ty 55], L := [], ret := .agg [.ty 3, .ty 45, .ty 45, .ty 47, .ty 2, .msl 101 0, .ty 53, .ty 2, .ty 24, .ty 2, .ty 3, .ty 28, .ty 26, .ty 51], L' := [.gbx 101], R := Int × GAddr × GAddr × GBallot × Int × Nat × GEntry × Int × (Vector (Int) 8) × Int × Int × (List (GOp)) × GEpoch × GPart × (List (GSlotted)), dflt := (default, default, default, default, default, default, default, default, default, default, default, default, default, default, default), F := fun N a b => Frecord_CloneMsg N a.1, of := fun r => ((r.1, r.2.1, r.2.2.1, r.2.2.2.1, r.2.2.2.2.1, r.2.2.2.2.2.1, r.2.2.2.2.2.2.1, r.2.2.2.2.2.2.2.1, r.2.2.2.2.2.2.2.2.1, r.2.2.2.2.2.2.2.2.2.1, r.2.2.2.2.2.2.2.2.2.2.1, r.2.2.2.2.2.2.2.2.2.2.2.1, r.2.2.2.2.2.2.2.2.2.2.2.2.1, r.2.2.2.2.2.2.2.2.2.2.2.2.2.1, ()), (r.2.2.2.2.2.2.2.2.2.2.2.2.2.2, ())) }
noncomputable def datrecord_CloneMsg : Dat τ := { D := D0, tbl := tblOf [(70, conslices_Clone_Slotted_560), (71, conrecord_CloneEntry), (69, conslices_Clone_Op), (72, conslices_Clone_byte)], lp := lpsOf [(3, lprecord_CloneMsgx3)], k0 := 0, mu := [], un := [] }
theorem okrecord_CloneMsg : ConOk E C 48 conrecord_CloneMsg :=
  con_ok (D := datrecord_CloneMsg) ⟨d0Ok, eGood, tblOf_ok ⟨okslices_Clone_Slotted_560, ⟨okrecord_CloneEntry, ⟨okslices_Clone_Op, ⟨okslices_Clone_byte, trivial⟩⟩⟩⟩, fun _ => rfl⟩ conrecord_CloneMsg (fun a b => (a.1, a.2.1, a.2.2.1, a.2.2.2.1, a.2.2.2.2.1, a.2.2.2.2.2.1, a.2.2.2.2.2.2.1, a.2.2.2.2.2.2.2.1, a.2.2.2.2.2.2.2.2.1, a.2.2.2.2.2.2.2.2.2.1, a.2.2.2.2.2.2.2.2.2.2.1, a.2.2.2.2.2.2.2.2.2.2.2.1, a.2.2.2.2.2.2.2.2.2.2.2.2.1, a.2.2.2.2.2.2.2.2.2.2.2.2.2.1, b.1)) none (fun _ _ => rfl) rfl (fun _ _ h => nomatch h) 1000000 (fn := Try.f48) Try.func48 rfl (by kernel_rfl) (by kernel_rfl) rfl (by intro N a b; kernel_rfl)
def Frecord_CloneMsgz (N : Nat) (m : GMsg) : Option (GMsg) := (Frecord_CloneMsg N m).bind fun r => bif Nat.ble r.2.2.2.2.2.1 (r.2.2.2.2.2.2.2.2.2.2.2.2.2.2).length then some (⟨r.1, r.2.1, r.2.2.1, r.2.2.2.1, r.2.2.2.2.1, (r.2.2.2.2.2.2.2.2.2.2.2.2.2.2.take r.2.2.2.2.2.1), r.2.2.2.2.2.2.1, r.2.2.2.2.2.2.2.1, r.2.2.2.2.2.2.2.2.1, r.2.2.2.2.2.2.2.2.2.1, r.2.2.2.2.2.2.2.2.2.2.1, r.2.2.2.2.2.2.2.2.2.2.2.1, r.2.2.2.2.2.2.2.2.2.2.2.2.1, r.2.2.2.2.2.2.2.2.2.2.2.2.2.1⟩ : GMsg) else none
def conrecord_CloneMsgz : Con τ := { args := [.ty 55], L := [], ret := .ty 55, L' := [.dead], R := GMsg, dflt := default, F := fun N a b => Frecord_CloneMsgz N a.1, of := fun r => (r, ((), ())) }
theorem okrecord_CloneMsgz : ConOk E C 48 conrecord_CloneMsgz := by
  intro N a b r h
  have h : (conrecord_CloneMsg.F N a b).bind (fun r => bif Nat.ble r.2.2.2.2.2.1 (r.2.2.2.2.2.2.2.2.2.2.2.2.2.2).length then some (⟨r.1, r.2.1, r.2.2.1, r.2.2.2.1, r.2.2.2.2.1, (r.2.2.2.2.2.2.2.2.2.2.2.2.2.2.take r.2.2.2.2.2.1), r.2.2.2.2.2.2.1, r.2.2.2.2.2.2.2.1, r.2.2.2.2.2.2.2.2.1, r.2.2.2.2.2.2.2.2.2.1, r.2.2.2.2.2.2.2.2.2.2.1, r.2.2.2.2.2.2.2.2.2.2.2.1, r.2.2.2.2.2.2.2.2.2.2.2.2.1, r.2.2.2.2.2.2.2.2.2.2.2.2.2.1⟩ : GMsg) else none) = some r := h
  obtain ⟨q, h0, h1⟩ := Option.bind_eq_some_iff.1 h
  cases hb : Nat.ble q.2.2.2.2.2.1 (q.2.2.2.2.2.2.2.2.2.2.2.2.2.2).length with
  | false => rw [hb] at h1; cases h1
  | true =>
    rw [hb] at h1
    have h2 : (⟨q.1, q.2.1, q.2.2.1, q.2.2.2.1, q.2.2.2.2.1, (q.2.2.2.2.2.2.2.2.2.2.2.2.2.2.take q.2.2.2.2.2.1), q.2.2.2.2.2.2.1, q.2.2.2.2.2.2.2.1, q.2.2.2.2.2.2.2.2.1, q.2.2.2.2.2.2.2.2.2.1, q.2.2.2.2.2.2.2.2.2.2.1, q.2.2.2.2.2.2.2.2.2.2.2.1, q.2.2.2.2.2.2.2.2.2.2.2.2.1, q.2.2.2.2.2.2.2.2.2.2.2.2.2.1⟩ : GMsg) = r := Option.some.inj h1
    subst h2
    exact FnSpec.mslA (ents := [.gbx 101 q.2.2.2.2.2.2.2.2.2.2.2.2.2.2]) (id := 0) (p := 8) cOk (okrecord_CloneMsg N a b q h0) rfl rfl (Nat.le_of_ble_eq_true hb)
def Fexchange_site (N : Nat) (n : Int) : Option (Bool) :=
 (some ((decide (0 ≤ n)) && (decide (n < 8))))
def conexchange_site : Con τ := { args := [.ty 3], L := [], ret := .ty 4, L' := [], R := Bool, dflt := default, F := fun N a b => Fexchange_site N a.1, of := fun r => (r, ()) }
noncomputable def datexchange_site : Dat τ := { D := D0, tbl := tblOf [], lp := lpsOf [], k0 := 0, mu := [], un := [] }
theorem okexchange_site : ConOk E C 33 conexchange_site :=
  con_ok (D := datexchange_site) ⟨d0Ok, eGood, tblOf_ok trivial, fun _ => rfl⟩ conexchange_site (fun a b => a) none (fun _ _ => rfl) rfl (fun _ _ h => nomatch h) 1000000 (fn := Try.f33) Try.func33 rfl (by kernel_rfl) (by kernel_rfl) rfl (by intro N a b; kernel_rfl)
def Fexchange_Entry (N : Nat) (m : GMsg) : Option (GEntry × Bool) :=
 ((Frecord_CheckMsg N m).bind fun r1 =>
 (bif (!(r1 == 0)) then
 (some ((⟨0, 0, 0, (⟨(⟨0, 0⟩ : GStamp), 0, 0, 0, [], [], []⟩ : GOp), 0, 0, [], (⟨0, (Vector.replicate 8 (default : Int)), (Vector.replicate 8 (default : Int)), (Vector.replicate 8 (default : Int))⟩ : GEpoch), 0, (Vector.replicate 8 (default : Int)), 0, (⟨0, 0, 0, []⟩ : GPart), 0, 0, 0⟩ : GEntry), false))
 else
 ((Frecord_CloneMsgz N m).bind fun r2 =>
 ((bif (r2.Kind == 10) then Fexchange_site N r2.From.Group else some default).bind fun r3 =>
 (bif ((r2.Kind == 10) && r3) then
 (some ((⟨4, 0, 0, (⟨(⟨0, 0⟩ : GStamp), 0, 0, 0, [], [], []⟩ : GOp), 0, r2.Number, [], (⟨0, (Vector.replicate 8 (default : Int)), (Vector.replicate 8 (default : Int)), (Vector.replicate 8 (default : Int))⟩ : GEpoch), r2.From.Group, r2.Vector_, r2.Clock, (⟨0, 0, 0, []⟩ : GPart), 0, 0, 0⟩ : GEntry), true))
 else
 ((bif (r2.Kind == 11) then Fexchange_site N r2.From.Group else some default).bind fun r4 =>
 (bif ((r2.Kind == 11) && r4) then
 (some ((⟨2, 0, 0, (⟨(⟨0, 0⟩ : GStamp), 0, 0, 0, [], [], []⟩ : GOp), r2.Origin, r2.Slot, r2.Ops, (⟨0, (Vector.replicate 8 (default : Int)), (Vector.replicate 8 (default : Int)), (Vector.replicate 8 (default : Int))⟩ : GEpoch), 0, (Vector.replicate 8 (default : Int)), 0, (⟨0, 0, 0, []⟩ : GPart), 0, 0, 0⟩ : GEntry), true))
 else
 (bif (r2.Kind == 12) then
 (some ((⟨3, 0, 0, (⟨(⟨0, 0⟩ : GStamp), 0, 0, 0, [], [], []⟩ : GOp), 0, 0, [], r2.Epoch, 0, (Vector.replicate 8 (default : Int)), 0, (⟨0, 0, 0, []⟩ : GPart), 0, 0, 0⟩ : GEntry), true))
 else
 (bif (r2.Kind == 13) then
 (some ((⟨5, 0, 0, (⟨(⟨0, 0⟩ : GStamp), 0, 0, 0, [], [], []⟩ : GOp), 0, 0, [], (⟨0, (Vector.replicate 8 (default : Int)), (Vector.replicate 8 (default : Int)), (Vector.replicate 8 (default : Int))⟩ : GEpoch), 0, (Vector.replicate 8 (default : Int)), 0, r2.Part, 0, 0, 0⟩ : GEntry), true))
 else
 (some ((⟨0, 0, 0, (⟨(⟨0, 0⟩ : GStamp), 0, 0, 0, [], [], []⟩ : GOp), 0, 0, [], (⟨0, (Vector.replicate 8 (default : Int)), (Vector.replicate 8 (default : Int)), (Vector.replicate 8 (default : Int))⟩ : GEpoch), 0, (Vector.replicate 8 (default : Int)), 0, (⟨0, 0, 0, []⟩ : GPart), 0, 0, 0⟩ : GEntry), false)))))))))))
def conexchange_Entry : Con τ := { args := [.ty 55], L := [], ret := .tup [.ty 53, .ty 4], L' := [], R := GEntry × Bool, dflt := (default, default), F := fun N a b => Fexchange_Entry N a.1, of := fun r => ((r.1, r.2, ()), ()) }
noncomputable def datexchange_Entry : Dat τ := { D := D0, tbl := tblOf [(50, conrecord_CheckMsg), (48, conrecord_CloneMsgz), (33, conexchange_site)], lp := lpsOf [], k0 := 0, mu := [], un := [] }
theorem okexchange_Entry : ConOk E C 25 conexchange_Entry :=
  con_ok (D := datexchange_Entry) ⟨d0Ok, eGood, tblOf_ok ⟨okrecord_CheckMsg, ⟨okrecord_CloneMsgz, ⟨okexchange_site, trivial⟩⟩⟩, fun _ => rfl⟩ conexchange_Entry (fun a b => (a.1, a.2.1)) none (fun _ _ => rfl) rfl (fun _ _ h => nomatch h) 1000000 (fn := Try.f25) Try.func25 rfl (by kernel_rfl) (by kernel_rfl) rfl (by intro N a b; kernel_rfl)
def Fref04_plain (N : Nat) (m : GMsg) : Option (GMsg × Bool) :=
 (bif (m.Kind == 1) then
 (bif (m.Kind == 1) then
 (some ((⟨m.Kind, m.From, m.To, m.Ballot, m.Slot, [], (⟨0, 0, 0, (⟨(⟨0, 0⟩ : GStamp), 0, 0, 0, [], [], []⟩ : GOp), 0, 0, [], (⟨0, (Vector.replicate 8 (default : Int)), (Vector.replicate 8 (default : Int)), (Vector.replicate 8 (default : Int))⟩ : GEpoch), 0, (Vector.replicate 8 (default : Int)), 0, (⟨0, 0, 0, []⟩ : GPart), 0, 0, 0⟩ : GEntry), 0, (Vector.replicate 8 (default : Int)), 0, 0, [], (⟨0, (Vector.replicate 8 (default : Int)), (Vector.replicate 8 (default : Int)), (Vector.replicate 8 (default : Int))⟩ : GEpoch), (⟨0, 0, 0, []⟩ : GPart)⟩ : GMsg), true))
 else
 (bif (m.Kind == 2) then
 (some ((⟨m.Kind, m.From, m.To, m.Ballot, m.Slot, m.List_, (⟨0, 0, 0, (⟨(⟨0, 0⟩ : GStamp), 0, 0, 0, [], [], []⟩ : GOp), 0, 0, [], (⟨0, (Vector.replicate 8 (default : Int)), (Vector.replicate 8 (default : Int)), (Vector.replicate 8 (default : Int))⟩ : GEpoch), 0, (Vector.replicate 8 (default : Int)), 0, (⟨0, 0, 0, []⟩ : GPart), 0, 0, 0⟩ : GEntry), 0, (Vector.replicate 8 (default : Int)), 0, 0, [], (⟨0, (Vector.replicate 8 (default : Int)), (Vector.replicate 8 (default : Int)), (Vector.replicate 8 (default : Int))⟩ : GEpoch), (⟨0, 0, 0, []⟩ : GPart)⟩ : GMsg), true))
 else
 (bif (m.Kind == 3) then
 (some ((⟨m.Kind, m.From, m.To, m.Ballot, 0, m.List_, (⟨0, 0, 0, (⟨(⟨0, 0⟩ : GStamp), 0, 0, 0, [], [], []⟩ : GOp), 0, 0, [], (⟨0, (Vector.replicate 8 (default : Int)), (Vector.replicate 8 (default : Int)), (Vector.replicate 8 (default : Int))⟩ : GEpoch), 0, (Vector.replicate 8 (default : Int)), 0, (⟨0, 0, 0, []⟩ : GPart), 0, 0, 0⟩ : GEntry), 0, (Vector.replicate 8 (default : Int)), 0, 0, [], (⟨0, (Vector.replicate 8 (default : Int)), (Vector.replicate 8 (default : Int)), (Vector.replicate 8 (default : Int))⟩ : GEpoch), (⟨0, 0, 0, []⟩ : GPart)⟩ : GMsg), true))
 else
 (bif (m.Kind == 5) then
 (some ((⟨m.Kind, m.From, m.To, m.Ballot, 0, [], (⟨0, 0, 0, (⟨(⟨0, 0⟩ : GStamp), 0, 0, 0, [], [], []⟩ : GOp), 0, 0, [], (⟨0, (Vector.replicate 8 (default : Int)), (Vector.replicate 8 (default : Int)), (Vector.replicate 8 (default : Int))⟩ : GEpoch), 0, (Vector.replicate 8 (default : Int)), 0, (⟨0, 0, 0, []⟩ : GPart), 0, 0, 0⟩ : GEntry), 0, (Vector.replicate 8 (default : Int)), 0, 0, [], (⟨0, (Vector.replicate 8 (default : Int)), (Vector.replicate 8 (default : Int)), (Vector.replicate 8 (default : Int))⟩ : GEpoch), (⟨0, 0, 0, []⟩ : GPart)⟩ : GMsg), true))
 else
 (bif (m.Kind == 6) then
 (some ((⟨m.Kind, m.From, m.To, (⟨0, 0⟩ : GBallot), 0, m.List_, (⟨0, 0, 0, (⟨(⟨0, 0⟩ : GStamp), 0, 0, 0, [], [], []⟩ : GOp), 0, 0, [], (⟨0, (Vector.replicate 8 (default : Int)), (Vector.replicate 8 (default : Int)), (Vector.replicate 8 (default : Int))⟩ : GEpoch), 0, (Vector.replicate 8 (default : Int)), 0, (⟨0, 0, 0, []⟩ : GPart), 0, 0, 0⟩ : GEntry), 0, (Vector.replicate 8 (default : Int)), 0, 0, [], (⟨0, (Vector.replicate 8 (default : Int)), (Vector.replicate 8 (default : Int)), (Vector.replicate 8 (default : Int))⟩ : GEpoch), (⟨0, 0, 0, []⟩ : GPart)⟩ : GMsg), true))
 else
 (bif (m.Kind == 8) then
 (some ((⟨m.Kind, m.From, m.To, (⟨0, 0⟩ : GBallot), m.Slot, [], (⟨0, 0, 0, (⟨(⟨0, 0⟩ : GStamp), 0, 0, 0, [], [], []⟩ : GOp), 0, 0, [], (⟨0, (Vector.replicate 8 (default : Int)), (Vector.replicate 8 (default : Int)), (Vector.replicate 8 (default : Int))⟩ : GEpoch), 0, (Vector.replicate 8 (default : Int)), 0, (⟨0, 0, 0, []⟩ : GPart), 0, 0, 0⟩ : GEntry), 0, (Vector.replicate 8 (default : Int)), 0, 0, [], (⟨0, (Vector.replicate 8 (default : Int)), (Vector.replicate 8 (default : Int)), (Vector.replicate 8 (default : Int))⟩ : GEpoch), (⟨0, 0, 0, []⟩ : GPart)⟩ : GMsg), true))
 else
 (bif (m.Kind == 9) then
 (some ((⟨m.Kind, m.From, m.To, (⟨0, 0⟩ : GBallot), 0, [], m.Entry, 0, (Vector.replicate 8 (default : Int)), 0, 0, [], (⟨0, (Vector.replicate 8 (default : Int)), (Vector.replicate 8 (default : Int)), (Vector.replicate 8 (default : Int))⟩ : GEpoch), (⟨0, 0, 0, []⟩ : GPart)⟩ : GMsg), true))
 else
 (bif (m.Kind == 10) then
 (some ((⟨m.Kind, m.From, m.To, (⟨0, 0⟩ : GBallot), 0, [], (⟨0, 0, 0, (⟨(⟨0, 0⟩ : GStamp), 0, 0, 0, [], [], []⟩ : GOp), 0, 0, [], (⟨0, (Vector.replicate 8 (default : Int)), (Vector.replicate 8 (default : Int)), (Vector.replicate 8 (default : Int))⟩ : GEpoch), 0, (Vector.replicate 8 (default : Int)), 0, (⟨0, 0, 0, []⟩ : GPart), 0, 0, 0⟩ : GEntry), m.Number, m.Vector_, m.Clock, 0, [], (⟨0, (Vector.replicate 8 (default : Int)), (Vector.replicate 8 (default : Int)), (Vector.replicate 8 (default : Int))⟩ : GEpoch), (⟨0, 0, 0, []⟩ : GPart)⟩ : GMsg), true))
 else
 (bif (m.Kind == 11) then
 (some ((⟨m.Kind, m.From, m.To, (⟨0, 0⟩ : GBallot), m.Slot, [], (⟨0, 0, 0, (⟨(⟨0, 0⟩ : GStamp), 0, 0, 0, [], [], []⟩ : GOp), 0, 0, [], (⟨0, (Vector.replicate 8 (default : Int)), (Vector.replicate 8 (default : Int)), (Vector.replicate 8 (default : Int))⟩ : GEpoch), 0, (Vector.replicate 8 (default : Int)), 0, (⟨0, 0, 0, []⟩ : GPart), 0, 0, 0⟩ : GEntry), m.Number, (Vector.replicate 8 (default : Int)), 0, m.Origin, m.Ops, (⟨0, (Vector.replicate 8 (default : Int)), (Vector.replicate 8 (default : Int)), (Vector.replicate 8 (default : Int))⟩ : GEpoch), (⟨0, 0, 0, []⟩ : GPart)⟩ : GMsg), true))
 else
 (bif (m.Kind == 12) then
 (some ((⟨m.Kind, m.From, m.To, (⟨0, 0⟩ : GBallot), 0, [], (⟨0, 0, 0, (⟨(⟨0, 0⟩ : GStamp), 0, 0, 0, [], [], []⟩ : GOp), 0, 0, [], (⟨0, (Vector.replicate 8 (default : Int)), (Vector.replicate 8 (default : Int)), (Vector.replicate 8 (default : Int))⟩ : GEpoch), 0, (Vector.replicate 8 (default : Int)), 0, (⟨0, 0, 0, []⟩ : GPart), 0, 0, 0⟩ : GEntry), 0, (Vector.replicate 8 (default : Int)), 0, 0, [], m.Epoch, (⟨0, 0, 0, []⟩ : GPart)⟩ : GMsg), true))
 else
 (bif (m.Kind == 13) then
 (some ((⟨m.Kind, m.From, m.To, (⟨0, 0⟩ : GBallot), 0, [], (⟨0, 0, 0, (⟨(⟨0, 0⟩ : GStamp), 0, 0, 0, [], [], []⟩ : GOp), 0, 0, [], (⟨0, (Vector.replicate 8 (default : Int)), (Vector.replicate 8 (default : Int)), (Vector.replicate 8 (default : Int))⟩ : GEpoch), 0, (Vector.replicate 8 (default : Int)), 0, (⟨0, 0, 0, []⟩ : GPart), 0, 0, 0⟩ : GEntry), 0, (Vector.replicate 8 (default : Int)), 0, 0, [], (⟨0, (Vector.replicate 8 (default : Int)), (Vector.replicate 8 (default : Int)), (Vector.replicate 8 (default : Int))⟩ : GEpoch), m.Part⟩ : GMsg), true))
 else
 (bif (m.Kind == 14) then
 (some ((⟨m.Kind, m.From, m.To, (⟨0, 0⟩ : GBallot), 0, [], (⟨0, 0, 0, (⟨(⟨0, 0⟩ : GStamp), 0, 0, 0, [], [], []⟩ : GOp), 0, 0, [], (⟨0, (Vector.replicate 8 (default : Int)), (Vector.replicate 8 (default : Int)), (Vector.replicate 8 (default : Int))⟩ : GEpoch), 0, (Vector.replicate 8 (default : Int)), 0, (⟨0, 0, 0, []⟩ : GPart), 0, 0, 0⟩ : GEntry), m.Number, m.Vector_, 0, 0, [], (⟨0, (Vector.replicate 8 (default : Int)), (Vector.replicate 8 (default : Int)), (Vector.replicate 8 (default : Int))⟩ : GEpoch), (⟨0, 0, 0, []⟩ : GPart)⟩ : GMsg), true))
 else
 (bif (m.Kind == 15) then
 (some ((⟨m.Kind, m.From, m.To, (⟨0, 0⟩ : GBallot), m.Slot, [], (⟨0, 0, 0, (⟨(⟨0, 0⟩ : GStamp), 0, 0, 0, [], [], []⟩ : GOp), 0, 0, [], (⟨0, (Vector.replicate 8 (default : Int)), (Vector.replicate 8 (default : Int)), (Vector.replicate 8 (default : Int))⟩ : GEpoch), 0, (Vector.replicate 8 (default : Int)), 0, (⟨0, 0, 0, []⟩ : GPart), 0, 0, 0⟩ : GEntry), 0, (Vector.replicate 8 (default : Int)), 0, 0, [], (⟨0, (Vector.replicate 8 (default : Int)), (Vector.replicate 8 (default : Int)), (Vector.replicate 8 (default : Int))⟩ : GEpoch), m.Part⟩ : GMsg), true))
 else
 (some ((⟨m.Kind, m.From, m.To, (⟨0, 0⟩ : GBallot), 0, [], (⟨0, 0, 0, (⟨(⟨0, 0⟩ : GStamp), 0, 0, 0, [], [], []⟩ : GOp), 0, 0, [], (⟨0, (Vector.replicate 8 (default : Int)), (Vector.replicate 8 (default : Int)), (Vector.replicate 8 (default : Int))⟩ : GEpoch), 0, (Vector.replicate 8 (default : Int)), 0, (⟨0, 0, 0, []⟩ : GPart), 0, 0, 0⟩ : GEntry), 0, (Vector.replicate 8 (default : Int)), 0, 0, [], (⟨0, (Vector.replicate 8 (default : Int)), (Vector.replicate 8 (default : Int)), (Vector.replicate 8 (default : Int))⟩ : GEpoch), (⟨0, 0, 0, []⟩ : GPart)⟩ : GMsg), false)))))))))))))))
 else
 (bif (m.Kind == 4) then
 (bif (m.Kind == 4) then
 (some ((⟨m.Kind, m.From, m.To, m.Ballot, m.Slot, [], (⟨0, 0, 0, (⟨(⟨0, 0⟩ : GStamp), 0, 0, 0, [], [], []⟩ : GOp), 0, 0, [], (⟨0, (Vector.replicate 8 (default : Int)), (Vector.replicate 8 (default : Int)), (Vector.replicate 8 (default : Int))⟩ : GEpoch), 0, (Vector.replicate 8 (default : Int)), 0, (⟨0, 0, 0, []⟩ : GPart), 0, 0, 0⟩ : GEntry), 0, (Vector.replicate 8 (default : Int)), 0, 0, [], (⟨0, (Vector.replicate 8 (default : Int)), (Vector.replicate 8 (default : Int)), (Vector.replicate 8 (default : Int))⟩ : GEpoch), (⟨0, 0, 0, []⟩ : GPart)⟩ : GMsg), true))
 else
 (bif (m.Kind == 2) then
 (some ((⟨m.Kind, m.From, m.To, m.Ballot, m.Slot, m.List_, (⟨0, 0, 0, (⟨(⟨0, 0⟩ : GStamp), 0, 0, 0, [], [], []⟩ : GOp), 0, 0, [], (⟨0, (Vector.replicate 8 (default : Int)), (Vector.replicate 8 (default : Int)), (Vector.replicate 8 (default : Int))⟩ : GEpoch), 0, (Vector.replicate 8 (default : Int)), 0, (⟨0, 0, 0, []⟩ : GPart), 0, 0, 0⟩ : GEntry), 0, (Vector.replicate 8 (default : Int)), 0, 0, [], (⟨0, (Vector.replicate 8 (default : Int)), (Vector.replicate 8 (default : Int)), (Vector.replicate 8 (default : Int))⟩ : GEpoch), (⟨0, 0, 0, []⟩ : GPart)⟩ : GMsg), true))
 else
 (bif (m.Kind == 3) then
 (some ((⟨m.Kind, m.From, m.To, m.Ballot, 0, m.List_, (⟨0, 0, 0, (⟨(⟨0, 0⟩ : GStamp), 0, 0, 0, [], [], []⟩ : GOp), 0, 0, [], (⟨0, (Vector.replicate 8 (default : Int)), (Vector.replicate 8 (default : Int)), (Vector.replicate 8 (default : Int))⟩ : GEpoch), 0, (Vector.replicate 8 (default : Int)), 0, (⟨0, 0, 0, []⟩ : GPart), 0, 0, 0⟩ : GEntry), 0, (Vector.replicate 8 (default : Int)), 0, 0, [], (⟨0, (Vector.replicate 8 (default : Int)), (Vector.replicate 8 (default : Int)), (Vector.replicate 8 (default : Int))⟩ : GEpoch), (⟨0, 0, 0, []⟩ : GPart)⟩ : GMsg), true))
 else
 (bif (m.Kind == 5) then
 (some ((⟨m.Kind, m.From, m.To, m.Ballot, 0, [], (⟨0, 0, 0, (⟨(⟨0, 0⟩ : GStamp), 0, 0, 0, [], [], []⟩ : GOp), 0, 0, [], (⟨0, (Vector.replicate 8 (default : Int)), (Vector.replicate 8 (default : Int)), (Vector.replicate 8 (default : Int))⟩ : GEpoch), 0, (Vector.replicate 8 (default : Int)), 0, (⟨0, 0, 0, []⟩ : GPart), 0, 0, 0⟩ : GEntry), 0, (Vector.replicate 8 (default : Int)), 0, 0, [], (⟨0, (Vector.replicate 8 (default : Int)), (Vector.replicate 8 (default : Int)), (Vector.replicate 8 (default : Int))⟩ : GEpoch), (⟨0, 0, 0, []⟩ : GPart)⟩ : GMsg), true))
 else
 (bif (m.Kind == 6) then
 (some ((⟨m.Kind, m.From, m.To, (⟨0, 0⟩ : GBallot), 0, m.List_, (⟨0, 0, 0, (⟨(⟨0, 0⟩ : GStamp), 0, 0, 0, [], [], []⟩ : GOp), 0, 0, [], (⟨0, (Vector.replicate 8 (default : Int)), (Vector.replicate 8 (default : Int)), (Vector.replicate 8 (default : Int))⟩ : GEpoch), 0, (Vector.replicate 8 (default : Int)), 0, (⟨0, 0, 0, []⟩ : GPart), 0, 0, 0⟩ : GEntry), 0, (Vector.replicate 8 (default : Int)), 0, 0, [], (⟨0, (Vector.replicate 8 (default : Int)), (Vector.replicate 8 (default : Int)), (Vector.replicate 8 (default : Int))⟩ : GEpoch), (⟨0, 0, 0, []⟩ : GPart)⟩ : GMsg), true))
 else
 (bif (m.Kind == 8) then
 (some ((⟨m.Kind, m.From, m.To, (⟨0, 0⟩ : GBallot), m.Slot, [], (⟨0, 0, 0, (⟨(⟨0, 0⟩ : GStamp), 0, 0, 0, [], [], []⟩ : GOp), 0, 0, [], (⟨0, (Vector.replicate 8 (default : Int)), (Vector.replicate 8 (default : Int)), (Vector.replicate 8 (default : Int))⟩ : GEpoch), 0, (Vector.replicate 8 (default : Int)), 0, (⟨0, 0, 0, []⟩ : GPart), 0, 0, 0⟩ : GEntry), 0, (Vector.replicate 8 (default : Int)), 0, 0, [], (⟨0, (Vector.replicate 8 (default : Int)), (Vector.replicate 8 (default : Int)), (Vector.replicate 8 (default : Int))⟩ : GEpoch), (⟨0, 0, 0, []⟩ : GPart)⟩ : GMsg), true))
 else
 (bif (m.Kind == 9) then
 (some ((⟨m.Kind, m.From, m.To, (⟨0, 0⟩ : GBallot), 0, [], m.Entry, 0, (Vector.replicate 8 (default : Int)), 0, 0, [], (⟨0, (Vector.replicate 8 (default : Int)), (Vector.replicate 8 (default : Int)), (Vector.replicate 8 (default : Int))⟩ : GEpoch), (⟨0, 0, 0, []⟩ : GPart)⟩ : GMsg), true))
 else
 (bif (m.Kind == 10) then
 (some ((⟨m.Kind, m.From, m.To, (⟨0, 0⟩ : GBallot), 0, [], (⟨0, 0, 0, (⟨(⟨0, 0⟩ : GStamp), 0, 0, 0, [], [], []⟩ : GOp), 0, 0, [], (⟨0, (Vector.replicate 8 (default : Int)), (Vector.replicate 8 (default : Int)), (Vector.replicate 8 (default : Int))⟩ : GEpoch), 0, (Vector.replicate 8 (default : Int)), 0, (⟨0, 0, 0, []⟩ : GPart), 0, 0, 0⟩ : GEntry), m.Number, m.Vector_, m.Clock, 0, [], (⟨0, (Vector.replicate 8 (default : Int)), (Vector.replicate 8 (default : Int)), (Vector.replicate 8 (default : Int))⟩ : GEpoch), (⟨0, 0, 0, []⟩ : GPart)⟩ : GMsg), true))
 else
 (bif (m.Kind == 11) then
 (some ((⟨m.Kind, m.From, m.To, (⟨0, 0⟩ : GBallot), m.Slot, [], (⟨0, 0, 0, (⟨(⟨0, 0⟩ : GStamp), 0, 0, 0, [], [], []⟩ : GOp), 0, 0, [], (⟨0, (Vector.replicate 8 (default : Int)), (Vector.replicate 8 (default : Int)), (Vector.replicate 8 (default : Int))⟩ : GEpoch), 0, (Vector.replicate 8 (default : Int)), 0, (⟨0, 0, 0, []⟩ : GPart), 0, 0, 0⟩ : GEntry), m.Number, (Vector.replicate 8 (default : Int)), 0, m.Origin, m.Ops, (⟨0, (Vector.replicate 8 (default : Int)), (Vector.replicate 8 (default : Int)), (Vector.replicate 8 (default : Int))⟩ : GEpoch), (⟨0, 0, 0, []⟩ : GPart)⟩ : GMsg), true))
 else
 (bif (m.Kind == 12) then
 (some ((⟨m.Kind, m.From, m.To, (⟨0, 0⟩ : GBallot), 0, [], (⟨0, 0, 0, (⟨(⟨0, 0⟩ : GStamp), 0, 0, 0, [], [], []⟩ : GOp), 0, 0, [], (⟨0, (Vector.replicate 8 (default : Int)), (Vector.replicate 8 (default : Int)), (Vector.replicate 8 (default : Int))⟩ : GEpoch), 0, (Vector.replicate 8 (default : Int)), 0, (⟨0, 0, 0, []⟩ : GPart), 0, 0, 0⟩ : GEntry), 0, (Vector.replicate 8 (default : Int)), 0, 0, [], m.Epoch, (⟨0, 0, 0, []⟩ : GPart)⟩ : GMsg), true))
 else
 (bif (m.Kind == 13) then
 (some ((⟨m.Kind, m.From, m.To, (⟨0, 0⟩ : GBallot), 0, [], (⟨0, 0, 0, (⟨(⟨0, 0⟩ : GStamp), 0, 0, 0, [], [], []⟩ : GOp), 0, 0, [], (⟨0, (Vector.replicate 8 (default : Int)), (Vector.replicate 8 (default : Int)), (Vector.replicate 8 (default : Int))⟩ : GEpoch), 0, (Vector.replicate 8 (default : Int)), 0, (⟨0, 0, 0, []⟩ : GPart), 0, 0, 0⟩ : GEntry), 0, (Vector.replicate 8 (default : Int)), 0, 0, [], (⟨0, (Vector.replicate 8 (default : Int)), (Vector.replicate 8 (default : Int)), (Vector.replicate 8 (default : Int))⟩ : GEpoch), m.Part⟩ : GMsg), true))
 else
 (bif (m.Kind == 14) then
 (some ((⟨m.Kind, m.From, m.To, (⟨0, 0⟩ : GBallot), 0, [], (⟨0, 0, 0, (⟨(⟨0, 0⟩ : GStamp), 0, 0, 0, [], [], []⟩ : GOp), 0, 0, [], (⟨0, (Vector.replicate 8 (default : Int)), (Vector.replicate 8 (default : Int)), (Vector.replicate 8 (default : Int))⟩ : GEpoch), 0, (Vector.replicate 8 (default : Int)), 0, (⟨0, 0, 0, []⟩ : GPart), 0, 0, 0⟩ : GEntry), m.Number, m.Vector_, 0, 0, [], (⟨0, (Vector.replicate 8 (default : Int)), (Vector.replicate 8 (default : Int)), (Vector.replicate 8 (default : Int))⟩ : GEpoch), (⟨0, 0, 0, []⟩ : GPart)⟩ : GMsg), true))
 else
 (bif (m.Kind == 15) then
 (some ((⟨m.Kind, m.From, m.To, (⟨0, 0⟩ : GBallot), m.Slot, [], (⟨0, 0, 0, (⟨(⟨0, 0⟩ : GStamp), 0, 0, 0, [], [], []⟩ : GOp), 0, 0, [], (⟨0, (Vector.replicate 8 (default : Int)), (Vector.replicate 8 (default : Int)), (Vector.replicate 8 (default : Int))⟩ : GEpoch), 0, (Vector.replicate 8 (default : Int)), 0, (⟨0, 0, 0, []⟩ : GPart), 0, 0, 0⟩ : GEntry), 0, (Vector.replicate 8 (default : Int)), 0, 0, [], (⟨0, (Vector.replicate 8 (default : Int)), (Vector.replicate 8 (default : Int)), (Vector.replicate 8 (default : Int))⟩ : GEpoch), m.Part⟩ : GMsg), true))
 else
 (some ((⟨m.Kind, m.From, m.To, (⟨0, 0⟩ : GBallot), 0, [], (⟨0, 0, 0, (⟨(⟨0, 0⟩ : GStamp), 0, 0, 0, [], [], []⟩ : GOp), 0, 0, [], (⟨0, (Vector.replicate 8 (default : Int)), (Vector.replicate 8 (default : Int)), (Vector.replicate 8 (default : Int))⟩ : GEpoch), 0, (Vector.replicate 8 (default : Int)), 0, (⟨0, 0, 0, []⟩ : GPart), 0, 0, 0⟩ : GEntry), 0, (Vector.replicate 8 (default : Int)), 0, 0, [], (⟨0, (Vector.replicate 8 (default : Int)), (Vector.replicate 8 (default : Int)), (Vector.replicate 8 (default : Int))⟩ : GEpoch), (⟨0, 0, 0, []⟩ : GPart)⟩ : GMsg), false)))))))))))))))
 else
 (bif (m.Kind == 7) then
 (some ((⟨m.Kind, m.From, m.To, m.Ballot, m.Slot, [], (⟨0, 0, 0, (⟨(⟨0, 0⟩ : GStamp), 0, 0, 0, [], [], []⟩ : GOp), 0, 0, [], (⟨0, (Vector.replicate 8 (default : Int)), (Vector.replicate 8 (default : Int)), (Vector.replicate 8 (default : Int))⟩ : GEpoch), 0, (Vector.replicate 8 (default : Int)), 0, (⟨0, 0, 0, []⟩ : GPart), 0, 0, 0⟩ : GEntry), 0, (Vector.replicate 8 (default : Int)), 0, 0, [], (⟨0, (Vector.replicate 8 (default : Int)), (Vector.replicate 8 (default : Int)), (Vector.replicate 8 (default : Int))⟩ : GEpoch), (⟨0, 0, 0, []⟩ : GPart)⟩ : GMsg), true))
 else
 (bif (m.Kind == 2) then
 (some ((⟨m.Kind, m.From, m.To, m.Ballot, m.Slot, m.List_, (⟨0, 0, 0, (⟨(⟨0, 0⟩ : GStamp), 0, 0, 0, [], [], []⟩ : GOp), 0, 0, [], (⟨0, (Vector.replicate 8 (default : Int)), (Vector.replicate 8 (default : Int)), (Vector.replicate 8 (default : Int))⟩ : GEpoch), 0, (Vector.replicate 8 (default : Int)), 0, (⟨0, 0, 0, []⟩ : GPart), 0, 0, 0⟩ : GEntry), 0, (Vector.replicate 8 (default : Int)), 0, 0, [], (⟨0, (Vector.replicate 8 (default : Int)), (Vector.replicate 8 (default : Int)), (Vector.replicate 8 (default : Int))⟩ : GEpoch), (⟨0, 0, 0, []⟩ : GPart)⟩ : GMsg), true))
 else
 (bif (m.Kind == 3) then
 (some ((⟨m.Kind, m.From, m.To, m.Ballot, 0, m.List_, (⟨0, 0, 0, (⟨(⟨0, 0⟩ : GStamp), 0, 0, 0, [], [], []⟩ : GOp), 0, 0, [], (⟨0, (Vector.replicate 8 (default : Int)), (Vector.replicate 8 (default : Int)), (Vector.replicate 8 (default : Int))⟩ : GEpoch), 0, (Vector.replicate 8 (default : Int)), 0, (⟨0, 0, 0, []⟩ : GPart), 0, 0, 0⟩ : GEntry), 0, (Vector.replicate 8 (default : Int)), 0, 0, [], (⟨0, (Vector.replicate 8 (default : Int)), (Vector.replicate 8 (default : Int)), (Vector.replicate 8 (default : Int))⟩ : GEpoch), (⟨0, 0, 0, []⟩ : GPart)⟩ : GMsg), true))
 else
 (bif (m.Kind == 5) then
 (some ((⟨m.Kind, m.From, m.To, m.Ballot, 0, [], (⟨0, 0, 0, (⟨(⟨0, 0⟩ : GStamp), 0, 0, 0, [], [], []⟩ : GOp), 0, 0, [], (⟨0, (Vector.replicate 8 (default : Int)), (Vector.replicate 8 (default : Int)), (Vector.replicate 8 (default : Int))⟩ : GEpoch), 0, (Vector.replicate 8 (default : Int)), 0, (⟨0, 0, 0, []⟩ : GPart), 0, 0, 0⟩ : GEntry), 0, (Vector.replicate 8 (default : Int)), 0, 0, [], (⟨0, (Vector.replicate 8 (default : Int)), (Vector.replicate 8 (default : Int)), (Vector.replicate 8 (default : Int))⟩ : GEpoch), (⟨0, 0, 0, []⟩ : GPart)⟩ : GMsg), true))
 else
 (bif (m.Kind == 6) then
 (some ((⟨m.Kind, m.From, m.To, (⟨0, 0⟩ : GBallot), 0, m.List_, (⟨0, 0, 0, (⟨(⟨0, 0⟩ : GStamp), 0, 0, 0, [], [], []⟩ : GOp), 0, 0, [], (⟨0, (Vector.replicate 8 (default : Int)), (Vector.replicate 8 (default : Int)), (Vector.replicate 8 (default : Int))⟩ : GEpoch), 0, (Vector.replicate 8 (default : Int)), 0, (⟨0, 0, 0, []⟩ : GPart), 0, 0, 0⟩ : GEntry), 0, (Vector.replicate 8 (default : Int)), 0, 0, [], (⟨0, (Vector.replicate 8 (default : Int)), (Vector.replicate 8 (default : Int)), (Vector.replicate 8 (default : Int))⟩ : GEpoch), (⟨0, 0, 0, []⟩ : GPart)⟩ : GMsg), true))
 else
 (bif (m.Kind == 8) then
 (some ((⟨m.Kind, m.From, m.To, (⟨0, 0⟩ : GBallot), m.Slot, [], (⟨0, 0, 0, (⟨(⟨0, 0⟩ : GStamp), 0, 0, 0, [], [], []⟩ : GOp), 0, 0, [], (⟨0, (Vector.replicate 8 (default : Int)), (Vector.replicate 8 (default : Int)), (Vector.replicate 8 (default : Int))⟩ : GEpoch), 0, (Vector.replicate 8 (default : Int)), 0, (⟨0, 0, 0, []⟩ : GPart), 0, 0, 0⟩ : GEntry), 0, (Vector.replicate 8 (default : Int)), 0, 0, [], (⟨0, (Vector.replicate 8 (default : Int)), (Vector.replicate 8 (default : Int)), (Vector.replicate 8 (default : Int))⟩ : GEpoch), (⟨0, 0, 0, []⟩ : GPart)⟩ : GMsg), true))
 else
 (bif (m.Kind == 9) then
 (some ((⟨m.Kind, m.From, m.To, (⟨0, 0⟩ : GBallot), 0, [], m.Entry, 0, (Vector.replicate 8 (default : Int)), 0, 0, [], (⟨0, (Vector.replicate 8 (default : Int)), (Vector.replicate 8 (default : Int)), (Vector.replicate 8 (default : Int))⟩ : GEpoch), (⟨0, 0, 0, []⟩ : GPart)⟩ : GMsg), true))
 else
 (bif (m.Kind == 10) then
 (some ((⟨m.Kind, m.From, m.To, (⟨0, 0⟩ : GBallot), 0, [], (⟨0, 0, 0, (⟨(⟨0, 0⟩ : GStamp), 0, 0, 0, [], [], []⟩ : GOp), 0, 0, [], (⟨0, (Vector.replicate 8 (default : Int)), (Vector.replicate 8 (default : Int)), (Vector.replicate 8 (default : Int))⟩ : GEpoch), 0, (Vector.replicate 8 (default : Int)), 0, (⟨0, 0, 0, []⟩ : GPart), 0, 0, 0⟩ : GEntry), m.Number, m.Vector_, m.Clock, 0, [], (⟨0, (Vector.replicate 8 (default : Int)), (Vector.replicate 8 (default : Int)), (Vector.replicate 8 (default : Int))⟩ : GEpoch), (⟨0, 0, 0, []⟩ : GPart)⟩ : GMsg), true))
 else
 (bif (m.Kind == 11) then
 (some ((⟨m.Kind, m.From, m.To, (⟨0, 0⟩ : GBallot), m.Slot, [], (⟨0, 0, 0, (⟨(⟨0, 0⟩ : GStamp), 0, 0, 0, [], [], []⟩ : GOp), 0, 0, [], (⟨0, (Vector.replicate 8 (default : Int)), (Vector.replicate 8 (default : Int)), (Vector.replicate 8 (default : Int))⟩ : GEpoch), 0, (Vector.replicate 8 (default : Int)), 0, (⟨0, 0, 0, []⟩ : GPart), 0, 0, 0⟩ : GEntry), m.Number, (Vector.replicate 8 (default : Int)), 0, m.Origin, m.Ops, (⟨0, (Vector.replicate 8 (default : Int)), (Vector.replicate 8 (default : Int)), (Vector.replicate 8 (default : Int))⟩ : GEpoch), (⟨0, 0, 0, []⟩ : GPart)⟩ : GMsg), true))
 else
 (bif (m.Kind == 12) then
 (some ((⟨m.Kind, m.From, m.To, (⟨0, 0⟩ : GBallot), 0, [], (⟨0, 0, 0, (⟨(⟨0, 0⟩ : GStamp), 0, 0, 0, [], [], []⟩ : GOp), 0, 0, [], (⟨0, (Vector.replicate 8 (default : Int)), (Vector.replicate 8 (default : Int)), (Vector.replicate 8 (default : Int))⟩ : GEpoch), 0, (Vector.replicate 8 (default : Int)), 0, (⟨0, 0, 0, []⟩ : GPart), 0, 0, 0⟩ : GEntry), 0, (Vector.replicate 8 (default : Int)), 0, 0, [], m.Epoch, (⟨0, 0, 0, []⟩ : GPart)⟩ : GMsg), true))
 else
 (bif (m.Kind == 13) then
 (some ((⟨m.Kind, m.From, m.To, (⟨0, 0⟩ : GBallot), 0, [], (⟨0, 0, 0, (⟨(⟨0, 0⟩ : GStamp), 0, 0, 0, [], [], []⟩ : GOp), 0, 0, [], (⟨0, (Vector.replicate 8 (default : Int)), (Vector.replicate 8 (default : Int)), (Vector.replicate 8 (default : Int))⟩ : GEpoch), 0, (Vector.replicate 8 (default : Int)), 0, (⟨0, 0, 0, []⟩ : GPart), 0, 0, 0⟩ : GEntry), 0, (Vector.replicate 8 (default : Int)), 0, 0, [], (⟨0, (Vector.replicate 8 (default : Int)), (Vector.replicate 8 (default : Int)), (Vector.replicate 8 (default : Int))⟩ : GEpoch), m.Part⟩ : GMsg), true))
 else
 (bif (m.Kind == 14) then
 (some ((⟨m.Kind, m.From, m.To, (⟨0, 0⟩ : GBallot), 0, [], (⟨0, 0, 0, (⟨(⟨0, 0⟩ : GStamp), 0, 0, 0, [], [], []⟩ : GOp), 0, 0, [], (⟨0, (Vector.replicate 8 (default : Int)), (Vector.replicate 8 (default : Int)), (Vector.replicate 8 (default : Int))⟩ : GEpoch), 0, (Vector.replicate 8 (default : Int)), 0, (⟨0, 0, 0, []⟩ : GPart), 0, 0, 0⟩ : GEntry), m.Number, m.Vector_, 0, 0, [], (⟨0, (Vector.replicate 8 (default : Int)), (Vector.replicate 8 (default : Int)), (Vector.replicate 8 (default : Int))⟩ : GEpoch), (⟨0, 0, 0, []⟩ : GPart)⟩ : GMsg), true))
 else
 (bif (m.Kind == 15) then
 (some ((⟨m.Kind, m.From, m.To, (⟨0, 0⟩ : GBallot), m.Slot, [], (⟨0, 0, 0, (⟨(⟨0, 0⟩ : GStamp), 0, 0, 0, [], [], []⟩ : GOp), 0, 0, [], (⟨0, (Vector.replicate 8 (default : Int)), (Vector.replicate 8 (default : Int)), (Vector.replicate 8 (default : Int))⟩ : GEpoch), 0, (Vector.replicate 8 (default : Int)), 0, (⟨0, 0, 0, []⟩ : GPart), 0, 0, 0⟩ : GEntry), 0, (Vector.replicate 8 (default : Int)), 0, 0, [], (⟨0, (Vector.replicate 8 (default : Int)), (Vector.replicate 8 (default : Int)), (Vector.replicate 8 (default : Int))⟩ : GEpoch), m.Part⟩ : GMsg), true))
 else
 (some ((⟨m.Kind, m.From, m.To, (⟨0, 0⟩ : GBallot), 0, [], (⟨0, 0, 0, (⟨(⟨0, 0⟩ : GStamp), 0, 0, 0, [], [], []⟩ : GOp), 0, 0, [], (⟨0, (Vector.replicate 8 (default : Int)), (Vector.replicate 8 (default : Int)), (Vector.replicate 8 (default : Int))⟩ : GEpoch), 0, (Vector.replicate 8 (default : Int)), 0, (⟨0, 0, 0, []⟩ : GPart), 0, 0, 0⟩ : GEntry), 0, (Vector.replicate 8 (default : Int)), 0, 0, [], (⟨0, (Vector.replicate 8 (default : Int)), (Vector.replicate 8 (default : Int)), (Vector.replicate 8 (default : Int))⟩ : GEpoch), (⟨0, 0, 0, []⟩ : GPart)⟩ : GMsg), false)))))))))))))))))
def conref04_plain : Con τ := { args := [.ty 55], L := [], ret := .tup [.ty 55, .ty 4], L' := [], R := GMsg × Bool, dflt := (default, default), F := fun N a b => Fref04_plain N a.1, of := fun r => ((r.1, r.2, ()), ()) }
noncomputable def datref04_plain : Dat τ := { D := D0, tbl := tblOf [], lp := lpsOf [], k0 := 0, mu := [], un := [] }
theorem okref04_plain : ConOk E C 93 conref04_plain :=
  con_ok (D := datref04_plain) ⟨d0Ok, eGood, tblOf_ok trivial, fun _ => rfl⟩ conref04_plain (fun a b => (a.1, a.2.1)) none (fun _ _ => rfl) rfl (fun _ _ h => nomatch h) 1000000 (fn := Try.f93) Try.func93 rfl (by kernel_rfl) (by kernel_rfl) rfl (by intro N a b; kernel_rfl)
structure Sref04_sameOpsx4 where
  i : Int
def tsref04_sameOpsx4 : List Sl := [.k, .k, .k, .k, .j, .sh (.ty 2), .k, .k, .k, .k, .k, .j, .j, .j, .j, .j, .j, .j, .j, .j, .j, .j, .j, .j, .j, .j]
def hsref04_sameOpsx4 : List ESh := []
def toref04_sameOpsx4 (a : Sl.Ts τ tsref04_sameOpsx4) (b : ESh.Ts τ hsref04_sameOpsx4) : Sref04_sameOpsx4 := ⟨a.2.2.2.2.2.1⟩
def otref04_sameOpsx4 (s : Sref04_sameOpsx4) : Sl.Ts τ tsref04_sameOpsx4 := ((), (), (), (), (), s.i, (), (), (), (), (), (), (), (), (), (), (), (), (), (), (), (), (), (), (), (), ())
def ohref04_sameOpsx4 (s : Sref04_sameOpsx4) : ESh.Ts τ hsref04_sameOpsx4 := ()
def lpref04_sameOpsx4 : Lp τ := { ts := tsref04_sameOpsx4, hs := hsref04_sameOpsx4, S := Sref04_sameOpsx4, to := toref04_sameOpsx4, ot := otref04_sameOpsx4, oh := ohref04_sameOpsx4, hk := [], tk := [], ot_to := fun _ _ => rfl, oh_to := fun _ _ => rfl }
def Fref04_sameOps (N : Nat) (a : List (GOp)) (b : List (GOp)) : Option (Bool) :=
 (bif (!(((a).length : Int) == ((b).length : Int))) then
 (some false)
 else
 (iter N (fun (s1 : Sref04_sameOpsx4) next2 =>
 (bif (decide (s1.i < ((a).length : Int))) then
 (bif (ibB s1.i ((a).length : Int)) then
 (bif (ibB s1.i ((b).length : Int)) then
 (bif (!((((((lget a s1.i default).Stamp).Time) == (((lget b s1.i default).Stamp).Time)) && ((((lget a s1.i default).Stamp).Site) == (((lget b s1.i default).Stamp).Site))) && ((((lget a s1.i default).Kind) == ((lget b s1.i default).Kind)) && ((((lget a s1.i default).Node) == ((lget b s1.i default).Node)) && ((((lget a s1.i default).Parent) == ((lget b s1.i default).Parent)) && ((((lget a s1.i default).Name) == ((lget b s1.i default).Name)) && ((((lget a s1.i default).Key) == ((lget b s1.i default).Key)) && (((lget a s1.i default).Value) == ((lget b s1.i default).Value))))))))) then
 (some false)
 else
 (next2 ⟨(IntKind.i64.wrap (s1.i + 1))⟩))
 else none)
 else none)
 else
 (some true))) ⟨0⟩))
def conref04_sameOps : Con τ := { args := [.ty 28, .ty 28], L := [], ret := .ty 4, L' := [], R := Bool, dflt := default, F := fun N a b => Fref04_sameOps N a.1 a.2.1, of := fun r => (r, ()) }
noncomputable def datref04_sameOps : Dat τ := { D := D0, tbl := tblOf [], lp := lpsOf [(4, lpref04_sameOpsx4)], k0 := 0, mu := [], un := [] }
theorem okref04_sameOps : ConOk E C 42 conref04_sameOps :=
  con_ok (D := datref04_sameOps) ⟨d0Ok, eGood, tblOf_ok trivial, fun _ => rfl⟩ conref04_sameOps (fun a b => a) none (fun _ _ => rfl) rfl (fun _ _ h => nomatch h) 1000000 (fn := Try.f42) Try.func42 rfl (by kernel_rfl) (by kernel_rfl) rfl (by intro N a b; kernel_rfl)
def Fref04_SamePart (N : Nat) (a : GPart) (b : GPart) : Option (Bool) :=
 (some ((((a.Snap == b.Snap) && (a.Index == b.Index)) && (a.Many == b.Many)) && ((strI a.Data) == (strI b.Data))))
def conref04_SamePart : Con τ := { args := [.ty 51, .ty 51], L := [], ret := .ty 4, L' := [], R := Bool, dflt := default, F := fun N a b => Fref04_SamePart N a.1 a.2.1, of := fun r => (r, ()) }
noncomputable def datref04_SamePart : Dat τ := { D := D0, tbl := tblOf [], lp := lpsOf [], k0 := 0, mu := [], un := [] }
theorem okref04_SamePart : ConOk E C 43 conref04_SamePart :=
  con_ok (D := datref04_SamePart) ⟨d0Ok, eGood, tblOf_ok trivial, fun _ => rfl⟩ conref04_SamePart (fun a b => a) none (fun _ _ => rfl) rfl (fun _ _ h => nomatch h) 1000000 (fn := Try.f43) Try.func43 rfl (by kernel_rfl) (by kernel_rfl) rfl (by intro N a b; kernel_rfl)
def Fref04_SameEntry (N : Nat) (a : GEntry) (b : GEntry) : Option (Bool) :=
 ((bif ((((((a.Kind == b.Kind) && (a.Session == b.Session)) && (a.Request == b.Request)) && (((a.Op.Stamp.Time == b.Op.Stamp.Time) && (a.Op.Stamp.Site == b.Op.Stamp.Site)) && ((a.Op.Kind == b.Op.Kind) && ((a.Op.Node == b.Op.Node) && ((a.Op.Parent == b.Op.Parent) && ((a.Op.Name == b.Op.Name) && ((a.Op.Key == b.Op.Key) && (a.Op.Value == b.Op.Value)))))))) && (a.Origin == b.Origin)) && (a.Seq == b.Seq)) then Fref04_sameOps N a.Ops b.Ops else some default).bind fun r1 =>
 ((bif (((((((((((a.Kind == b.Kind) && (a.Session == b.Session)) && (a.Request == b.Request)) && (((a.Op.Stamp.Time == b.Op.Stamp.Time) && (a.Op.Stamp.Site == b.Op.Stamp.Site)) && ((a.Op.Kind == b.Op.Kind) && ((a.Op.Node == b.Op.Node) && ((a.Op.Parent == b.Op.Parent) && ((a.Op.Name == b.Op.Name) && ((a.Op.Key == b.Op.Key) && (a.Op.Value == b.Op.Value)))))))) && (a.Origin == b.Origin)) && (a.Seq == b.Seq)) && r1) && ((a.Epoch.Number == b.Epoch.Number) && ((vbeq beq3 a.Epoch.States b.Epoch.States) && ((vbeq beq2 a.Epoch.Seals b.Epoch.Seals) && (vbeq beq3 a.Epoch.Sponsor b.Epoch.Sponsor))))) && (a.From == b.From)) && (vbeq beq2 a.Vector_ b.Vector_)) && (a.Clock == b.Clock)) then Fref04_SamePart N a.Part b.Part else some default).bind fun r2 =>
 (some (((((((((((((((a.Kind == b.Kind) && (a.Session == b.Session)) && (a.Request == b.Request)) && (((a.Op.Stamp.Time == b.Op.Stamp.Time) && (a.Op.Stamp.Site == b.Op.Stamp.Site)) && ((a.Op.Kind == b.Op.Kind) && ((a.Op.Node == b.Op.Node) && ((a.Op.Parent == b.Op.Parent) && ((a.Op.Name == b.Op.Name) && ((a.Op.Key == b.Op.Key) && (a.Op.Value == b.Op.Value)))))))) && (a.Origin == b.Origin)) && (a.Seq == b.Seq)) && r1) && ((a.Epoch.Number == b.Epoch.Number) && ((vbeq beq3 a.Epoch.States b.Epoch.States) && ((vbeq beq2 a.Epoch.Seals b.Epoch.Seals) && (vbeq beq3 a.Epoch.Sponsor b.Epoch.Sponsor))))) && (a.From == b.From)) && (vbeq beq2 a.Vector_ b.Vector_)) && (a.Clock == b.Clock)) && r2) && (a.Site == b.Site)) && (a.Sponsor == b.Sponsor)) && (a.Length == b.Length)))))
def conref04_SameEntry : Con τ := { args := [.ty 53, .ty 53], L := [], ret := .ty 4, L' := [], R := Bool, dflt := default, F := fun N a b => Fref04_SameEntry N a.1 a.2.1, of := fun r => (r, ()) }
noncomputable def datref04_SameEntry : Dat τ := { D := D0, tbl := tblOf [(42, conref04_sameOps), (43, conref04_SamePart)], lp := lpsOf [], k0 := 0, mu := [], un := [] }
theorem okref04_SameEntry : ConOk E C 27 conref04_SameEntry :=
  con_ok (D := datref04_SameEntry) ⟨d0Ok, eGood, tblOf_ok ⟨okref04_sameOps, ⟨okref04_SamePart, trivial⟩⟩, fun _ => rfl⟩ conref04_SameEntry (fun a b => a) none (fun _ _ => rfl) rfl (fun _ _ h => nomatch h) 1000000 (fn := Try.f27) Try.func27 rfl (by kernel_rfl) (by kernel_rfl) rfl (by intro N a b; kernel_rfl)
def Fref04_SameSlotted (N : Nat) (a : GSlotted) (b : GSlotted) : Option (Bool) :=
 ((bif ((a.Slot == b.Slot) && ((a.Ballot.Round == b.Ballot.Round) && (a.Ballot.Replica == b.Ballot.Replica))) then Fref04_SameEntry N a.Entry b.Entry else some default).bind fun r1 =>
 (some (((a.Slot == b.Slot) && ((a.Ballot.Round == b.Ballot.Round) && (a.Ballot.Replica == b.Ballot.Replica))) && r1)))
def conref04_SameSlotted : Con τ := { args := [.ty 101, .ty 101], L := [], ret := .ty 4, L' := [], R := Bool, dflt := default, F := fun N a b => Fref04_SameSlotted N a.1 a.2.1, of := fun r => (r, ()) }
noncomputable def datref04_SameSlotted : Dat τ := { D := D0, tbl := tblOf [(27, conref04_SameEntry)], lp := lpsOf [], k0 := 0, mu := [], un := [] }
theorem okref04_SameSlotted : ConOk E C 66 conref04_SameSlotted :=
  con_ok (D := datref04_SameSlotted) ⟨d0Ok, eGood, tblOf_ok ⟨okref04_SameEntry, trivial⟩, fun _ => rfl⟩ conref04_SameSlotted (fun a b => a) none (fun _ _ => rfl) rfl (fun _ _ h => nomatch h) 1000000 (fn := Try.f66) Try.func66 rfl (by kernel_rfl) (by kernel_rfl) rfl (by intro N a b; kernel_rfl)
structure Sref04_SameListx4 where
  i : Int
def tsref04_SameListx4 : List Sl := [.k, .k, .k, .k, .j, .sh (.ty 2), .k, .k, .k, .k, .k, .j, .j, .j, .j, .j, .j, .j, .j, .j, .j, .j, .j, .j, .j, .j, .j]
def hsref04_SameListx4 : List ESh := []
def toref04_SameListx4 (a : Sl.Ts τ tsref04_SameListx4) (b : ESh.Ts τ hsref04_SameListx4) : Sref04_SameListx4 := ⟨a.2.2.2.2.2.1⟩
def otref04_SameListx4 (s : Sref04_SameListx4) : Sl.Ts τ tsref04_SameListx4 := ((), (), (), (), (), s.i, (), (), (), (), (), (), (), (), (), (), (), (), (), (), (), (), (), (), (), (), (), ())
def ohref04_SameListx4 (s : Sref04_SameListx4) : ESh.Ts τ hsref04_SameListx4 := ()
def lpref04_SameListx4 : Lp τ := { ts := tsref04_SameListx4, hs := hsref04_SameListx4, S := Sref04_SameListx4, to := toref04_SameListx4, ot := otref04_SameListx4, oh := ohref04_SameListx4, hk := [], tk := [], ot_to := fun _ _ => rfl, oh_to := fun _ _ => rfl }
def Fref04_SameList (N : Nat) (a : List (GSlotted)) (b : List (GSlotted)) : Option (Bool) :=
 (bif (!(((a).length : Int) == ((b).length : Int))) then
 (some false)
 else
 (iter N (fun (s1 : Sref04_SameListx4) next2 =>
 (bif (decide (s1.i < ((a).length : Int))) then
 (bif (ibB s1.i ((a).length : Int)) then
 (bif (ibB s1.i ((b).length : Int)) then
 ((Fref04_SameSlotted N (⟨(lget a s1.i default).Slot, ((lget a s1.i default).Ballot), (⟨((lget a s1.i default).Entry).Kind, ((lget a s1.i default).Entry).Session, ((lget a s1.i default).Entry).Request, (⟨((((lget a s1.i default).Entry).Op).Stamp), (((lget a s1.i default).Entry).Op).Kind, (((lget a s1.i default).Entry).Op).Node, (((lget a s1.i default).Entry).Op).Parent, (((lget a s1.i default).Entry).Op).Name, (((lget a s1.i default).Entry).Op).Key, (((lget a s1.i default).Entry).Op).Value⟩ : GOp), ((lget a s1.i default).Entry).Origin, ((lget a s1.i default).Entry).Seq, ((lget a s1.i default).Entry).Ops, (((lget a s1.i default).Entry).Epoch), ((lget a s1.i default).Entry).From, ((lget a s1.i default).Entry).Vector_, ((lget a s1.i default).Entry).Clock, (((lget a s1.i default).Entry).Part), ((lget a s1.i default).Entry).Site, ((lget a s1.i default).Entry).Sponsor, ((lget a s1.i default).Entry).Length⟩ : GEntry)⟩ : GSlotted) (⟨(lget b s1.i default).Slot, ((lget b s1.i default).Ballot), (⟨((lget b s1.i default).Entry).Kind, ((lget b s1.i default).Entry).Session, ((lget b s1.i default).Entry).Request, (⟨((((lget b s1.i default).Entry).Op).Stamp), (((lget b s1.i default).Entry).Op).Kind, (((lget b s1.i default).Entry).Op).Node, (((lget b s1.i default).Entry).Op).Parent, (((lget b s1.i default).Entry).Op).Name, (((lget b s1.i default).Entry).Op).Key, (((lget b s1.i default).Entry).Op).Value⟩ : GOp), ((lget b s1.i default).Entry).Origin, ((lget b s1.i default).Entry).Seq, ((lget b s1.i default).Entry).Ops, (((lget b s1.i default).Entry).Epoch), ((lget b s1.i default).Entry).From, ((lget b s1.i default).Entry).Vector_, ((lget b s1.i default).Entry).Clock, (((lget b s1.i default).Entry).Part), ((lget b s1.i default).Entry).Site, ((lget b s1.i default).Entry).Sponsor, ((lget b s1.i default).Entry).Length⟩ : GEntry)⟩ : GSlotted)).bind fun r3 =>
 (bif (!r3) then
 (some false)
 else
 (next2 ⟨(IntKind.i64.wrap (s1.i + 1))⟩)))
 else none)
 else none)
 else
 (some true))) ⟨0⟩))
def conref04_SameList : Con τ := { args := [.ty 48, .ty 48], L := [], ret := .ty 4, L' := [], R := Bool, dflt := default, F := fun N a b => Fref04_SameList N a.1 a.2.1, of := fun r => (r, ()) }
noncomputable def datref04_SameList : Dat τ := { D := D0, tbl := tblOf [(66, conref04_SameSlotted)], lp := lpsOf [(4, lpref04_SameListx4)], k0 := 0, mu := [], un := [] }
theorem okref04_SameList : ConOk E C 41 conref04_SameList :=
  con_ok (D := datref04_SameList) ⟨d0Ok, eGood, tblOf_ok ⟨okref04_SameSlotted, trivial⟩, fun _ => rfl⟩ conref04_SameList (fun a b => a) none (fun _ _ => rfl) rfl (fun _ _ h => nomatch h) 1000000 (fn := Try.f41) Try.func41 rfl (by kernel_rfl) (by kernel_rfl) rfl (by intro N a b; kernel_rfl)
def Fref04_SameMsg (N : Nat) (a : GMsg) (b : GMsg) : Option (Bool) :=
 ((bif (((((a.Kind == b.Kind) && ((a.From.Group == b.From.Group) && (a.From.Replica == b.From.Replica))) && ((a.To.Group == b.To.Group) && (a.To.Replica == b.To.Replica))) && ((a.Ballot.Round == b.Ballot.Round) && (a.Ballot.Replica == b.Ballot.Replica))) && (a.Slot == b.Slot)) then Fref04_SameList N a.List_ b.List_ else some default).bind fun r1 =>
 ((bif ((((((a.Kind == b.Kind) && ((a.From.Group == b.From.Group) && (a.From.Replica == b.From.Replica))) && ((a.To.Group == b.To.Group) && (a.To.Replica == b.To.Replica))) && ((a.Ballot.Round == b.Ballot.Round) && (a.Ballot.Replica == b.Ballot.Replica))) && (a.Slot == b.Slot)) && r1) then Fref04_SameEntry N a.Entry b.Entry else some default).bind fun r2 =>
 ((bif (((((((((((a.Kind == b.Kind) && ((a.From.Group == b.From.Group) && (a.From.Replica == b.From.Replica))) && ((a.To.Group == b.To.Group) && (a.To.Replica == b.To.Replica))) && ((a.Ballot.Round == b.Ballot.Round) && (a.Ballot.Replica == b.Ballot.Replica))) && (a.Slot == b.Slot)) && r1) && r2) && (a.Number == b.Number)) && (vbeq beq2 a.Vector_ b.Vector_)) && (a.Clock == b.Clock)) && (a.Origin == b.Origin)) then Fref04_sameOps N a.Ops b.Ops else some default).bind fun r3 =>
 ((bif (((((((((((((a.Kind == b.Kind) && ((a.From.Group == b.From.Group) && (a.From.Replica == b.From.Replica))) && ((a.To.Group == b.To.Group) && (a.To.Replica == b.To.Replica))) && ((a.Ballot.Round == b.Ballot.Round) && (a.Ballot.Replica == b.Ballot.Replica))) && (a.Slot == b.Slot)) && r1) && r2) && (a.Number == b.Number)) && (vbeq beq2 a.Vector_ b.Vector_)) && (a.Clock == b.Clock)) && (a.Origin == b.Origin)) && r3) && ((a.Epoch.Number == b.Epoch.Number) && ((vbeq beq3 a.Epoch.States b.Epoch.States) && ((vbeq beq2 a.Epoch.Seals b.Epoch.Seals) && (vbeq beq3 a.Epoch.Sponsor b.Epoch.Sponsor))))) then Fref04_SamePart N a.Part b.Part else some default).bind fun r4 =>
 (some ((((((((((((((a.Kind == b.Kind) && ((a.From.Group == b.From.Group) && (a.From.Replica == b.From.Replica))) && ((a.To.Group == b.To.Group) && (a.To.Replica == b.To.Replica))) && ((a.Ballot.Round == b.Ballot.Round) && (a.Ballot.Replica == b.Ballot.Replica))) && (a.Slot == b.Slot)) && r1) && r2) && (a.Number == b.Number)) && (vbeq beq2 a.Vector_ b.Vector_)) && (a.Clock == b.Clock)) && (a.Origin == b.Origin)) && r3) && ((a.Epoch.Number == b.Epoch.Number) && ((vbeq beq3 a.Epoch.States b.Epoch.States) && ((vbeq beq2 a.Epoch.Seals b.Epoch.Seals) && (vbeq beq3 a.Epoch.Sponsor b.Epoch.Sponsor))))) && r4))))))
def conref04_SameMsg : Con τ := { args := [.ty 55, .ty 55], L := [], ret := .ty 4, L' := [], R := Bool, dflt := default, F := fun N a b => Fref04_SameMsg N a.1 a.2.1, of := fun r => (r, ()) }
noncomputable def datref04_SameMsg : Dat τ := { D := D0, tbl := tblOf [(41, conref04_SameList), (27, conref04_SameEntry), (42, conref04_sameOps), (43, conref04_SamePart)], lp := lpsOf [], k0 := 0, mu := [], un := [] }
theorem okref04_SameMsg : ConOk E C 19 conref04_SameMsg :=
  con_ok (D := datref04_SameMsg) ⟨d0Ok, eGood, tblOf_ok ⟨okref04_SameList, ⟨okref04_SameEntry, ⟨okref04_sameOps, ⟨okref04_SamePart, trivial⟩⟩⟩⟩, fun _ => rfl⟩ conref04_SameMsg (fun a b => a) none (fun _ _ => rfl) rfl (fun _ _ h => nomatch h) 1000000 (fn := Try.f19) Try.func19 rfl (by kernel_rfl) (by kernel_rfl) rfl (by intro N a b; kernel_rfl)
def Fref04_MayAddr (N : Nat) (a : GAddr) : Option (Bool) :=
 (some ((((decide (0 ≤ a.Group)) && (decide (a.Group < 9))) && (decide (0 ≤ a.Replica))) && (decide (a.Replica < 5))))
def conref04_MayAddr : Con τ := { args := [.ty 45], L := [], ret := .ty 4, L' := [], R := Bool, dflt := default, F := fun N a b => Fref04_MayAddr N a.1, of := fun r => (r, ()) }
noncomputable def datref04_MayAddr : Dat τ := { D := D0, tbl := tblOf [], lp := lpsOf [], k0 := 0, mu := [], un := [] }
theorem okref04_MayAddr : ConOk E C 38 conref04_MayAddr :=
  con_ok (D := datref04_MayAddr) ⟨d0Ok, eGood, tblOf_ok trivial, fun _ => rfl⟩ conref04_MayAddr (fun a b => a) none (fun _ _ => rfl) rfl (fun _ _ h => nomatch h) 1000000 (fn := Try.f38) Try.func38 rfl (by kernel_rfl) (by kernel_rfl) rfl (by intro N a b; kernel_rfl)
def Fref04_count (N : Nat) (n : Int) : Option (Bool) :=
 (some ((decide (0 ≤ n)) && (decide (n ≤ 1099511627776))))
def conref04_count : Con τ := { args := [.ty 2], L := [], ret := .ty 4, L' := [], R := Bool, dflt := default, F := fun N a b => Fref04_count N a.1, of := fun r => (r, ()) }
noncomputable def datref04_count : Dat τ := { D := D0, tbl := tblOf [], lp := lpsOf [], k0 := 0, mu := [], un := [] }
theorem okref04_count : ConOk E C 95 conref04_count :=
  con_ok (D := datref04_count) ⟨d0Ok, eGood, tblOf_ok trivial, fun _ => rfl⟩ conref04_count (fun a b => a) none (fun _ _ => rfl) rfl (fun _ _ h => nomatch h) 1000000 (fn := Try.f95) Try.func95 rfl (by kernel_rfl) (by kernel_rfl) rfl (by intro N a b; kernel_rfl)
def Fref04_ballot (N : Nat) (b : GBallot) : Option (Bool) :=
 ((Fref04_count N b.Round).bind fun r1 =>
 (some ((r1 && (decide (0 ≤ b.Replica))) && (decide (b.Replica < 5)))))
def conref04_ballot : Con τ := { args := [.ty 47], L := [], ret := .ty 4, L' := [], R := Bool, dflt := default, F := fun N a b => Fref04_ballot N a.1, of := fun r => (r, ()) }
noncomputable def datref04_ballot : Dat τ := { D := D0, tbl := tblOf [(95, conref04_count)], lp := lpsOf [], k0 := 0, mu := [], un := [] }
theorem okref04_ballot : ConOk E C 94 conref04_ballot :=
  con_ok (D := datref04_ballot) ⟨d0Ok, eGood, tblOf_ok ⟨okref04_count, trivial⟩, fun _ => rfl⟩ conref04_ballot (fun a b => a) none (fun _ _ => rfl) rfl (fun _ _ h => nomatch h) 1000000 (fn := Try.f94) Try.func94 rfl (by kernel_rfl) (by kernel_rfl) rfl (by intro N a b; kernel_rfl)
structure Sref04_MayVectorx2 where
  i : Int
def tsref04_MayVectorx2 : List Sl := [.k, .k, .j, .sh (.ty 2), .j, .j, .j, .j, .j, .j, .j, .j, .j]
def hsref04_MayVectorx2 : List ESh := [.keep]
def toref04_MayVectorx2 (a : Sl.Ts τ tsref04_MayVectorx2) (b : ESh.Ts τ hsref04_MayVectorx2) : Sref04_MayVectorx2 := ⟨a.2.2.2.1⟩
def otref04_MayVectorx2 (s : Sref04_MayVectorx2) : Sl.Ts τ tsref04_MayVectorx2 := ((), (), (), s.i, (), (), (), (), (), (), (), (), (), ())
def ohref04_MayVectorx2 (s : Sref04_MayVectorx2) : ESh.Ts τ hsref04_MayVectorx2 := ((), ())
def lpref04_MayVectorx2 : Lp τ := { ts := tsref04_MayVectorx2, hs := hsref04_MayVectorx2, S := Sref04_MayVectorx2, to := toref04_MayVectorx2, ot := otref04_MayVectorx2, oh := ohref04_MayVectorx2, hk := [2], tk := [0, 2], ot_to := fun _ _ => rfl, oh_to := fun _ _ => rfl }
def Fref04_MayVector (N : Nat) (v : Vector (Int) 8) : Option (Bool) :=
 (iter N (fun (s1 : Sref04_MayVectorx2) next2 =>
 (bif (decide (s1.i < 8)) then
 (bif (ibB s1.i 8) then
 ((Fref04_count N (vget v ((s1.i).toNat) default)).bind fun r3 =>
 (bif (!r3) then
 (some false)
 else
 (next2 ⟨(IntKind.i64.wrap (s1.i + 1))⟩)))
 else none)
 else
 (some true))) ⟨0⟩)
def conref04_MayVector : Con τ := { args := [.ty 24], L := [], ret := .ty 4, L' := [], R := Bool, dflt := default, F := fun N a b => Fref04_MayVector N a.1, of := fun r => (r, ()) }
noncomputable def datref04_MayVector : Dat τ := { D := D0, tbl := tblOf [(95, conref04_count)], lp := lpsOf [(2, lpref04_MayVectorx2)], k0 := 0, mu := [], un := [] }
theorem okref04_MayVector : ConOk E C 96 conref04_MayVector :=
  con_ok (D := datref04_MayVector) ⟨d0Ok, eGood, tblOf_ok ⟨okref04_count, trivial⟩, fun _ => rfl⟩ conref04_MayVector (fun a b => a) none (fun _ _ => rfl) rfl (fun _ _ h => nomatch h) 1000000 (fn := Try.f96) Try.func96 rfl (by kernel_rfl) (by kernel_rfl) rfl (by intro N a b; kernel_rfl)
def Fref04_bare (N : Nat) (e : GEntry) : Option (GEntry × Bool) :=
 (bif (e.Kind == 0) then
 (some ((⟨e.Kind, 0, 0, (⟨(⟨0, 0⟩ : GStamp), 0, 0, 0, [], [], []⟩ : GOp), 0, 0, [], (⟨0, (Vector.replicate 8 (default : Int)), (Vector.replicate 8 (default : Int)), (Vector.replicate 8 (default : Int))⟩ : GEpoch), 0, (Vector.replicate 8 (default : Int)), 0, (⟨0, 0, 0, []⟩ : GPart), 0, 0, 0⟩ : GEntry), true))
 else
 (bif (e.Kind == 1) then
 (some ((⟨e.Kind, e.Session, e.Request, e.Op, 0, 0, [], (⟨0, (Vector.replicate 8 (default : Int)), (Vector.replicate 8 (default : Int)), (Vector.replicate 8 (default : Int))⟩ : GEpoch), 0, (Vector.replicate 8 (default : Int)), 0, (⟨0, 0, 0, []⟩ : GPart), 0, 0, 0⟩ : GEntry), true))
 else
 (bif (e.Kind == 2) then
 (some ((⟨e.Kind, 0, 0, (⟨(⟨0, 0⟩ : GStamp), 0, 0, 0, [], [], []⟩ : GOp), e.Origin, e.Seq, e.Ops, (⟨0, (Vector.replicate 8 (default : Int)), (Vector.replicate 8 (default : Int)), (Vector.replicate 8 (default : Int))⟩ : GEpoch), 0, (Vector.replicate 8 (default : Int)), 0, (⟨0, 0, 0, []⟩ : GPart), 0, 0, 0⟩ : GEntry), true))
 else
 (bif (e.Kind == 3) then
 (some ((⟨e.Kind, 0, 0, (⟨(⟨0, 0⟩ : GStamp), 0, 0, 0, [], [], []⟩ : GOp), 0, 0, [], e.Epoch, 0, (Vector.replicate 8 (default : Int)), 0, (⟨0, 0, 0, []⟩ : GPart), 0, 0, 0⟩ : GEntry), true))
 else
 (bif (e.Kind == 4) then
 (some ((⟨e.Kind, 0, 0, (⟨(⟨0, 0⟩ : GStamp), 0, 0, 0, [], [], []⟩ : GOp), 0, e.Seq, [], (⟨0, (Vector.replicate 8 (default : Int)), (Vector.replicate 8 (default : Int)), (Vector.replicate 8 (default : Int))⟩ : GEpoch), e.From, e.Vector_, e.Clock, (⟨0, 0, 0, []⟩ : GPart), 0, 0, 0⟩ : GEntry), true))
 else
 (bif (e.Kind == 5) then
 (some ((⟨e.Kind, 0, 0, (⟨(⟨0, 0⟩ : GStamp), 0, 0, 0, [], [], []⟩ : GOp), 0, 0, [], (⟨0, (Vector.replicate 8 (default : Int)), (Vector.replicate 8 (default : Int)), (Vector.replicate 8 (default : Int))⟩ : GEpoch), 0, (Vector.replicate 8 (default : Int)), 0, e.Part, 0, 0, 0⟩ : GEntry), true))
 else
 (bif (e.Kind == 6) then
 (some ((⟨e.Kind, 0, 0, (⟨(⟨0, 0⟩ : GStamp), 0, 0, 0, [], [], []⟩ : GOp), 0, 0, [], (⟨0, (Vector.replicate 8 (default : Int)), (Vector.replicate 8 (default : Int)), (Vector.replicate 8 (default : Int))⟩ : GEpoch), 0, (Vector.replicate 8 (default : Int)), 0, (⟨0, 0, 0, []⟩ : GPart), e.Site, e.Sponsor, 0⟩ : GEntry), true))
 else
 (bif (e.Kind == 7) then
 (some ((⟨e.Kind, 0, 0, (⟨(⟨0, 0⟩ : GStamp), 0, 0, 0, [], [], []⟩ : GOp), 0, 0, [], (⟨0, (Vector.replicate 8 (default : Int)), (Vector.replicate 8 (default : Int)), (Vector.replicate 8 (default : Int))⟩ : GEpoch), 0, (Vector.replicate 8 (default : Int)), 0, (⟨0, 0, 0, []⟩ : GPart), e.Site, 0, 0⟩ : GEntry), true))
 else
 (bif (e.Kind == 8) then
 (some ((⟨e.Kind, 0, 0, (⟨(⟨0, 0⟩ : GStamp), 0, 0, 0, [], [], []⟩ : GOp), 0, 0, [], (⟨0, (Vector.replicate 8 (default : Int)), (Vector.replicate 8 (default : Int)), (Vector.replicate 8 (default : Int))⟩ : GEpoch), 0, (Vector.replicate 8 (default : Int)), 0, (⟨0, 0, 0, []⟩ : GPart), e.Site, 0, e.Length⟩ : GEntry), true))
 else
 (some ((⟨e.Kind, 0, 0, (⟨(⟨0, 0⟩ : GStamp), 0, 0, 0, [], [], []⟩ : GOp), 0, 0, [], (⟨0, (Vector.replicate 8 (default : Int)), (Vector.replicate 8 (default : Int)), (Vector.replicate 8 (default : Int))⟩ : GEpoch), 0, (Vector.replicate 8 (default : Int)), 0, (⟨0, 0, 0, []⟩ : GPart), 0, 0, 0⟩ : GEntry), false)))))))))))
def conref04_bare : Con τ := { args := [.ty 53], L := [], ret := .tup [.ty 53, .ty 4], L' := [], R := GEntry × Bool, dflt := (default, default), F := fun N a b => Fref04_bare N a.1, of := fun r => ((r.1, r.2, ()), ()) }
noncomputable def datref04_bare : Dat τ := { D := D0, tbl := tblOf [], lp := lpsOf [], k0 := 0, mu := [], un := [] }
theorem okref04_bare : ConOk E C 130 conref04_bare :=
  con_ok (D := datref04_bare) ⟨d0Ok, eGood, tblOf_ok trivial, fun _ => rfl⟩ conref04_bare (fun a b => (a.1, a.2.1)) none (fun _ _ => rfl) rfl (fun _ _ h => nomatch h) 1000000 (fn := Try.f130) Try.func130 rfl (by kernel_rfl) (by kernel_rfl) rfl (by intro N a b; kernel_rfl)
end Go.Proofs.Ytekpjhhbmjcbmaa
