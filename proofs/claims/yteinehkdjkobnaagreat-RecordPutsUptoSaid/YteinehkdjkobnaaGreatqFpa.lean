/-
The functions of this seat, as plain functions over typed data, each with its contract. Printed by wip/tools/fngen.py.
-/
import Derived.Test.YteinehkdjkobnaaGreatqCod
import Derived.Test.YteinehkdjkobnaaGreatqTvX
import Derived.KernelRfl
set_option linter.unusedVariables false
set_option maxRecDepth 100000
namespace Go.Proofs.YteinehkdjkobnaaGreat
open Go Go.Ev
def Fwire_NewWriter (N : Nat)  : Option (Bool × (List (Int))) :=
 (some (true, []))
def conwire_NewWriter : Con τ := { args := [], L := [], ret := .ptr 0 [], L' := [.box (.agg [.ty 4, .own 5 1]), .tail], R := Bool × (List (Int)), dflt := (default, default), F := fun N a b => Fwire_NewWriter N , of := fun r => ((), ((r.1, r.2, ()), (), ())) }
noncomputable def datwire_NewWriter : Dat τ := { D := D0, tbl := tblOf [], lp := lpsOf [], k0 := 0, mu := [], un := [] }
theorem okwire_NewWriter : ConOk E C 7 conwire_NewWriter :=
  con_ok (D := datwire_NewWriter) ⟨d0Ok, eGood, tblOf_ok trivial, fun _ => rfl⟩ conwire_NewWriter (fun a b => (b.1.1, b.1.2.1)) none (fun _ _ => rfl) rfl (fun _ _ h => nomatch h) 1000000 (fn := Tryz.f7) Tryz.func7 rfl (by kernel_rfl) (by kernel_rfl) rfl (by intro N a b; kernel_rfl)
structure Sslices_Equal_Opx4 where
  t13 : Int
def tsslices_Equal_Opx4 : List Sl := [.k, .k, .k, .k, .j, .j, .k, .k, .k, .k, .k, .k, .k, .sh (.ty 2), .j, .j, .j, .j, .j, .j, .j, .j, .j, .j, .j, .j]
def hsslices_Equal_Opx4 : List ESh := []
def toslices_Equal_Opx4 (a : Sl.Ts τ tsslices_Equal_Opx4) (b : ESh.Ts τ hsslices_Equal_Opx4) : Sslices_Equal_Opx4 := ⟨a.2.2.2.2.2.2.2.2.2.2.2.2.2.1⟩
def otslices_Equal_Opx4 (s : Sslices_Equal_Opx4) : Sl.Ts τ tsslices_Equal_Opx4 := ((), (), (), (), (), (), (), (), (), (), (), (), (), s.t13, (), (), (), (), (), (), (), (), (), (), (), (), ())
def ohslices_Equal_Opx4 (s : Sslices_Equal_Opx4) : ESh.Ts τ hsslices_Equal_Opx4 := ()
def lpslices_Equal_Opx4 : Lp τ := { ts := tsslices_Equal_Opx4, hs := hsslices_Equal_Opx4, S := Sslices_Equal_Opx4, to := toslices_Equal_Opx4, ot := otslices_Equal_Opx4, oh := ohslices_Equal_Opx4, hk := [], tk := [], ot_to := fun _ _ => rfl, oh_to := fun _ _ => rfl }
def Fslices_Equal_Op (N : Nat) (s1_ : List (GOp)) (s2_ : List (GOp)) : Option (Bool) :=
 (bif (!(((s1_).length : Int) == ((s2_).length : Int))) then
 (some false)
 else
 (iter N (fun (s1 : Sslices_Equal_Opx4) next2 =>
 (bif (decide (s1.t13 < ((s1_).length : Int))) then
 (bif (ibB s1.t13 ((s1_).length : Int)) then
 (bif (ibB s1.t13 ((s2_).length : Int)) then
 (bif (!((((((lget s1_ s1.t13 default).Stamp).Time) == (((lget s2_ s1.t13 default).Stamp).Time)) && ((((lget s1_ s1.t13 default).Stamp).Site) == (((lget s2_ s1.t13 default).Stamp).Site))) && ((((lget s1_ s1.t13 default).Kind) == ((lget s2_ s1.t13 default).Kind)) && ((((lget s1_ s1.t13 default).Node) == ((lget s2_ s1.t13 default).Node)) && ((((lget s1_ s1.t13 default).Parent) == ((lget s2_ s1.t13 default).Parent)) && ((((lget s1_ s1.t13 default).Name) == ((lget s2_ s1.t13 default).Name)) && ((((lget s1_ s1.t13 default).Key) == ((lget s2_ s1.t13 default).Key)) && (((lget s1_ s1.t13 default).Value) == ((lget s2_ s1.t13 default).Value))))))))) then
 (some false)
 else
 (next2 ⟨(IntKind.i64.wrap (s1.t13 + 1))⟩))
 else none)
 else none)
 else
 (some true))) ⟨0⟩))
def conslices_Equal_Op : Con τ := { args := [.ty 60, .ty 60], L := [], ret := .ty 4, L' := [], R := Bool, dflt := default, F := fun N a b => Fslices_Equal_Op N a.1 a.2.1, of := fun r => (r, ()) }
noncomputable def datslices_Equal_Op : Dat τ := { D := D0, tbl := tblOf [], lp := lpsOf [(4, lpslices_Equal_Opx4)], k0 := 0, mu := [], un := [] }
theorem okslices_Equal_Op : ConOk E C 144 conslices_Equal_Op :=
  con_ok (D := datslices_Equal_Op) ⟨d0Ok, eGood, tblOf_ok trivial, fun _ => rfl⟩ conslices_Equal_Op (fun a b => a) none (fun _ _ => rfl) rfl (fun _ _ h => nomatch h) 1000000 (fn := Tryz.f144) Tryz.func144 rfl (by kernel_rfl) (by kernel_rfl) rfl (by intro N a b; kernel_rfl)
def Frecord_samePart (N : Nat) (a : GPart) (b : GPart) : Option (Bool) :=
 (some ((((a.Snap == b.Snap) && (a.Index == b.Index)) && (a.Many == b.Many)) && ((strI a.Data) == (strI b.Data))))
def conrecord_samePart : Con τ := { args := [.ty 62, .ty 62], L := [], ret := .ty 4, L' := [], R := Bool, dflt := default, F := fun N a b => Frecord_samePart N a.1 a.2.1, of := fun r => (r, ()) }
noncomputable def datrecord_samePart : Dat τ := { D := D0, tbl := tblOf [], lp := lpsOf [], k0 := 0, mu := [], un := [] }
theorem okrecord_samePart : ConOk E C 145 conrecord_samePart :=
  con_ok (D := datrecord_samePart) ⟨d0Ok, eGood, tblOf_ok trivial, fun _ => rfl⟩ conrecord_samePart (fun a b => a) none (fun _ _ => rfl) rfl (fun _ _ h => nomatch h) 1000000 (fn := Tryz.f145) Tryz.func145 rfl (by kernel_rfl) (by kernel_rfl) rfl (by intro N a b; kernel_rfl)
def Frecord_SameEntry (N : Nat) (a : GEntry) (b : GEntry) : Option (Bool) :=
 ((bif ((((((a.Kind == b.Kind) && (a.Session == b.Session)) && (a.Request == b.Request)) && (((a.Op.Stamp.Time == b.Op.Stamp.Time) && (a.Op.Stamp.Site == b.Op.Stamp.Site)) && ((a.Op.Kind == b.Op.Kind) && ((a.Op.Node == b.Op.Node) && ((a.Op.Parent == b.Op.Parent) && ((a.Op.Name == b.Op.Name) && ((a.Op.Key == b.Op.Key) && (a.Op.Value == b.Op.Value)))))))) && (a.Origin == b.Origin)) && (a.Seq == b.Seq)) then Fslices_Equal_Op N a.Ops b.Ops else some default).bind fun r1 =>
 ((bif (((((((((((a.Kind == b.Kind) && (a.Session == b.Session)) && (a.Request == b.Request)) && (((a.Op.Stamp.Time == b.Op.Stamp.Time) && (a.Op.Stamp.Site == b.Op.Stamp.Site)) && ((a.Op.Kind == b.Op.Kind) && ((a.Op.Node == b.Op.Node) && ((a.Op.Parent == b.Op.Parent) && ((a.Op.Name == b.Op.Name) && ((a.Op.Key == b.Op.Key) && (a.Op.Value == b.Op.Value)))))))) && (a.Origin == b.Origin)) && (a.Seq == b.Seq)) && r1) && ((a.Epoch.Number == b.Epoch.Number) && ((vbeq beq3 a.Epoch.States b.Epoch.States) && ((vbeq beq2 a.Epoch.Seals b.Epoch.Seals) && (vbeq beq3 a.Epoch.Sponsor b.Epoch.Sponsor))))) && (a.From == b.From)) && (vbeq beq2 a.Vector_ b.Vector_)) && (a.Clock == b.Clock)) then Frecord_samePart N a.Part b.Part else some default).bind fun r2 =>
 (some (((((((((((((((a.Kind == b.Kind) && (a.Session == b.Session)) && (a.Request == b.Request)) && (((a.Op.Stamp.Time == b.Op.Stamp.Time) && (a.Op.Stamp.Site == b.Op.Stamp.Site)) && ((a.Op.Kind == b.Op.Kind) && ((a.Op.Node == b.Op.Node) && ((a.Op.Parent == b.Op.Parent) && ((a.Op.Name == b.Op.Name) && ((a.Op.Key == b.Op.Key) && (a.Op.Value == b.Op.Value)))))))) && (a.Origin == b.Origin)) && (a.Seq == b.Seq)) && r1) && ((a.Epoch.Number == b.Epoch.Number) && ((vbeq beq3 a.Epoch.States b.Epoch.States) && ((vbeq beq2 a.Epoch.Seals b.Epoch.Seals) && (vbeq beq3 a.Epoch.Sponsor b.Epoch.Sponsor))))) && (a.From == b.From)) && (vbeq beq2 a.Vector_ b.Vector_)) && (a.Clock == b.Clock)) && r2) && (a.Site == b.Site)) && (a.Sponsor == b.Sponsor)) && (a.Length == b.Length)))))
def conrecord_SameEntry : Con τ := { args := [.ty 64, .ty 64], L := [], ret := .ty 4, L' := [], R := Bool, dflt := default, F := fun N a b => Frecord_SameEntry N a.1 a.2.1, of := fun r => (r, ()) }
noncomputable def datrecord_SameEntry : Dat τ := { D := D0, tbl := tblOf [(144, conslices_Equal_Op), (145, conrecord_samePart)], lp := lpsOf [], k0 := 0, mu := [], un := [] }
theorem okrecord_SameEntry : ConOk E C 110 conrecord_SameEntry :=
  con_ok (D := datrecord_SameEntry) ⟨d0Ok, eGood, tblOf_ok ⟨okslices_Equal_Op, ⟨okrecord_samePart, trivial⟩⟩, fun _ => rfl⟩ conrecord_SameEntry (fun a b => a) none (fun _ _ => rfl) rfl (fun _ _ h => nomatch h) 1000000 (fn := Tryz.f110) Tryz.func110 rfl (by kernel_rfl) (by kernel_rfl) rfl (by intro N a b; kernel_rfl)
def Frecord_verdict (N : Nat) (ok : Bool) : Option (Int) :=
 (bif ok then
 (some 0)
 else
 (some 40))
def conrecord_verdict : Con τ := { args := [.ty 4], L := [], ret := .ty 35, L' := [], R := Int, dflt := default, F := fun N a b => Frecord_verdict N a.1, of := fun r => (r, ()) }
noncomputable def datrecord_verdict : Dat τ := { D := D0, tbl := tblOf [], lp := lpsOf [], k0 := 0, mu := [], un := [] }
theorem okrecord_verdict : ConOk E C 89 conrecord_verdict :=
  con_ok (D := datrecord_verdict) ⟨d0Ok, eGood, tblOf_ok trivial, fun _ => rfl⟩ conrecord_verdict (fun a b => a) none (fun _ _ => rfl) rfl (fun _ _ h => nomatch h) 1000000 (fn := Tryz.f89) Tryz.func89 rfl (by kernel_rfl) (by kernel_rfl) rfl (by intro N a b; kernel_rfl)
structure Srecord_countx2 where
  t7 : Int
def tsrecord_countx2 : List Sl := [.k, .k, .j, .k, .j, .k, .k, .sh (.ty 2), .j, .j, .j, .j, .j, .j, .j, .j, .j, .j]
def hsrecord_countx2 : List ESh := []
def torecord_countx2 (a : Sl.Ts τ tsrecord_countx2) (b : ESh.Ts τ hsrecord_countx2) : Srecord_countx2 := ⟨a.2.2.2.2.2.2.2.1⟩
def otrecord_countx2 (s : Srecord_countx2) : Sl.Ts τ tsrecord_countx2 := ((), (), (), (), (), (), (), s.t7, (), (), (), (), (), (), (), (), (), (), ())
def ohrecord_countx2 (s : Srecord_countx2) : ESh.Ts τ hsrecord_countx2 := ()
def lprecord_countx2 : Lp τ := { ts := tsrecord_countx2, hs := hsrecord_countx2, S := Srecord_countx2, to := torecord_countx2, ot := otrecord_countx2, oh := ohrecord_countx2, hk := [], tk := [], ot_to := fun _ _ => rfl, oh_to := fun _ _ => rfl }
def Frecord_count (N : Nat) (l : List (Int)) : Option (Bool) :=
 (iter N (fun (s1 : Srecord_countx2) next2 =>
 (bif (decide (s1.t7 < ((l).length : Int))) then
 (bif (ibB s1.t7 ((l).length : Int)) then
 (bif ((decide ((lget l s1.t7 default) < 0)) || (decide (1099511627776 < (lget l s1.t7 default)))) then
 (some false)
 else
 (next2 ⟨(IntKind.i64.wrap (s1.t7 + 1))⟩))
 else none)
 else
 (some true))) ⟨0⟩)
def conrecord_count : Con τ := { args := [.ty 143], L := [], ret := .ty 4, L' := [], R := Bool, dflt := default, F := fun N a b => Frecord_count N a.1, of := fun r => (r, ()) }
noncomputable def datrecord_count : Dat τ := { D := D0, tbl := tblOf [], lp := lpsOf [(2, lprecord_countx2)], k0 := 0, mu := [], un := [] }
theorem okrecord_count : ConOk E C 106 conrecord_count :=
  con_ok (D := datrecord_count) ⟨d0Ok, eGood, tblOf_ok trivial, fun _ => rfl⟩ conrecord_count (fun a b => a) none (fun _ _ => rfl) rfl (fun _ _ h => nomatch h) 1000000 (fn := Tryz.f106) Tryz.func106 rfl (by kernel_rfl) (by kernel_rfl) rfl (by intro N a b; kernel_rfl)
structure Srecord_sitex2 where
  t7 : Int
def tsrecord_sitex2 : List Sl := [.k, .k, .j, .k, .j, .k, .k, .sh (.ty 2), .j, .j, .j, .j, .j, .j, .j, .j, .j, .j]
def hsrecord_sitex2 : List ESh := []
def torecord_sitex2 (a : Sl.Ts τ tsrecord_sitex2) (b : ESh.Ts τ hsrecord_sitex2) : Srecord_sitex2 := ⟨a.2.2.2.2.2.2.2.1⟩
def otrecord_sitex2 (s : Srecord_sitex2) : Sl.Ts τ tsrecord_sitex2 := ((), (), (), (), (), (), (), s.t7, (), (), (), (), (), (), (), (), (), (), ())
def ohrecord_sitex2 (s : Srecord_sitex2) : ESh.Ts τ hsrecord_sitex2 := ()
def lprecord_sitex2 : Lp τ := { ts := tsrecord_sitex2, hs := hsrecord_sitex2, S := Srecord_sitex2, to := torecord_sitex2, ot := otrecord_sitex2, oh := ohrecord_sitex2, hk := [], tk := [], ot_to := fun _ _ => rfl, oh_to := fun _ _ => rfl }
def Frecord_site (N : Nat) (l : List (Int)) : Option (Bool) :=
 (iter N (fun (s1 : Srecord_sitex2) next2 =>
 (bif (decide (s1.t7 < ((l).length : Int))) then
 (bif (ibB s1.t7 ((l).length : Int)) then
 (bif ((decide ((lget l s1.t7 default) < 0)) || (decide (8 ≤ (lget l s1.t7 default)))) then
 (some false)
 else
 (next2 ⟨(IntKind.i64.wrap (s1.t7 + 1))⟩))
 else none)
 else
 (some true))) ⟨0⟩)
def conrecord_site : Con τ := { args := [.ty 145], L := [], ret := .ty 4, L' := [], R := Bool, dflt := default, F := fun N a b => Frecord_site N a.1, of := fun r => (r, ()) }
noncomputable def datrecord_site : Dat τ := { D := D0, tbl := tblOf [], lp := lpsOf [(2, lprecord_sitex2)], k0 := 0, mu := [], un := [] }
theorem okrecord_site : ConOk E C 107 conrecord_site :=
  con_ok (D := datrecord_site) ⟨d0Ok, eGood, tblOf_ok trivial, fun _ => rfl⟩ conrecord_site (fun a b => a) none (fun _ _ => rfl) rfl (fun _ _ h => nomatch h) 1000000 (fn := Tryz.f107) Tryz.func107 rfl (by kernel_rfl) (by kernel_rfl) rfl (by intro N a b; kernel_rfl)
structure Srecord_nodex2 where
  t7 : Int
def tsrecord_nodex2 : List Sl := [.k, .k, .j, .k, .j, .k, .k, .sh (.ty 2), .j, .j, .j, .j, .j, .j, .j, .j, .j, .j]
def hsrecord_nodex2 : List ESh := []
def torecord_nodex2 (a : Sl.Ts τ tsrecord_nodex2) (b : ESh.Ts τ hsrecord_nodex2) : Srecord_nodex2 := ⟨a.2.2.2.2.2.2.2.1⟩
def otrecord_nodex2 (s : Srecord_nodex2) : Sl.Ts τ tsrecord_nodex2 := ((), (), (), (), (), (), (), s.t7, (), (), (), (), (), (), (), (), (), (), ())
def ohrecord_nodex2 (s : Srecord_nodex2) : ESh.Ts τ hsrecord_nodex2 := ()
def lprecord_nodex2 : Lp τ := { ts := tsrecord_nodex2, hs := hsrecord_nodex2, S := Srecord_nodex2, to := torecord_nodex2, ot := otrecord_nodex2, oh := ohrecord_nodex2, hk := [], tk := [], ot_to := fun _ _ => rfl, oh_to := fun _ _ => rfl }
def Frecord_node (N : Nat) (l : List (Int)) : Option (Bool) :=
 (iter N (fun (s1 : Srecord_nodex2) next2 =>
 (bif (decide (s1.t7 < ((l).length : Int))) then
 (bif (ibB s1.t7 ((l).length : Int)) then
 (bif ((decide ((lget l s1.t7 default) < 0)) || (decide (1125899906842624 < (lget l s1.t7 default)))) then
 (some false)
 else
 (next2 ⟨(IntKind.i64.wrap (s1.t7 + 1))⟩))
 else none)
 else
 (some true))) ⟨0⟩)
def conrecord_node : Con τ := { args := [.ty 143], L := [], ret := .ty 4, L' := [], R := Bool, dflt := default, F := fun N a b => Frecord_node N a.1, of := fun r => (r, ()) }
noncomputable def datrecord_node : Dat τ := { D := D0, tbl := tblOf [], lp := lpsOf [(2, lprecord_nodex2)], k0 := 0, mu := [], un := [] }
theorem okrecord_node : ConOk E C 135 conrecord_node :=
  con_ok (D := datrecord_node) ⟨d0Ok, eGood, tblOf_ok trivial, fun _ => rfl⟩ conrecord_node (fun a b => a) none (fun _ _ => rfl) rfl (fun _ _ h => nomatch h) 1000000 (fn := Tryz.f135) Tryz.func135 rfl (by kernel_rfl) (by kernel_rfl) rfl (by intro N a b; kernel_rfl)
structure Srecord_textx2 where
  t7 : Int
def tsrecord_textx2 : List Sl := [.k, .k, .j, .k, .j, .k, .k, .sh (.ty 2), .j, .j, .j, .j, .j, .j, .j]
def hsrecord_textx2 : List ESh := []
def torecord_textx2 (a : Sl.Ts τ tsrecord_textx2) (b : ESh.Ts τ hsrecord_textx2) : Srecord_textx2 := ⟨a.2.2.2.2.2.2.2.1⟩
def otrecord_textx2 (s : Srecord_textx2) : Sl.Ts τ tsrecord_textx2 := ((), (), (), (), (), (), (), s.t7, (), (), (), (), (), (), (), ())
def ohrecord_textx2 (s : Srecord_textx2) : ESh.Ts τ hsrecord_textx2 := ()
def lprecord_textx2 : Lp τ := { ts := tsrecord_textx2, hs := hsrecord_textx2, S := Srecord_textx2, to := torecord_textx2, ot := otrecord_textx2, oh := ohrecord_textx2, hk := [], tk := [], ot_to := fun _ _ => rfl, oh_to := fun _ _ => rfl }
def Frecord_text (N : Nat) (l : List (List UInt8)) : Option (Bool) :=
 (iter N (fun (s1 : Srecord_textx2) next2 =>
 (bif (decide (s1.t7 < ((l).length : Int))) then
 (bif (ibB s1.t7 ((l).length : Int)) then
 (bif (decide (255 < (((lget l s1.t7 default)).length : Int))) then
 (some false)
 else
 (next2 ⟨(IntKind.i64.wrap (s1.t7 + 1))⟩))
 else none)
 else
 (some true))) ⟨0⟩)
def conrecord_text : Con τ := { args := [.ty 181], L := [], ret := .ty 4, L' := [], R := Bool, dflt := default, F := fun N a b => Frecord_text N a.1, of := fun r => (r, ()) }
noncomputable def datrecord_text : Dat τ := { D := D0, tbl := tblOf [], lp := lpsOf [(2, lprecord_textx2)], k0 := 0, mu := [], un := [] }
theorem okrecord_text : ConOk E C 136 conrecord_text :=
  con_ok (D := datrecord_text) ⟨d0Ok, eGood, tblOf_ok trivial, fun _ => rfl⟩ conrecord_text (fun a b => a) none (fun _ _ => rfl) rfl (fun _ _ h => nomatch h) 1000000 (fn := Tryz.f136) Tryz.func136 rfl (by kernel_rfl) (by kernel_rfl) rfl (by intro N a b; kernel_rfl)
def Frecord_mayOp (N : Nat) (op : GOp) : Option (Bool) :=
 ((Frecord_count N [op.Stamp.Time]).bind fun r1 =>
 ((bif r1 then Frecord_site N [op.Stamp.Site] else some default).bind fun r2 =>
 ((bif (((r1 && r2) && (decide (1 ≤ op.Kind))) && (decide (op.Kind ≤ 3))) then Frecord_node N [op.Node, op.Parent] else some default).bind fun r3 =>
 ((bif ((((r1 && r2) && (decide (1 ≤ op.Kind))) && (decide (op.Kind ≤ 3))) && r3) then Frecord_text N [op.Name, op.Key, op.Value] else some default).bind fun r4 =>
 (some (((((r1 && r2) && (decide (1 ≤ op.Kind))) && (decide (op.Kind ≤ 3))) && r3) && r4))))))
def conrecord_mayOp : Con τ := { args := [.ty 25], L := [], ret := .ty 4, L' := [], R := Bool, dflt := default, F := fun N a b => Frecord_mayOp N a.1, of := fun r => (r, ()) }
noncomputable def datrecord_mayOp : Dat τ := { D := D0, tbl := tblOf [(106, conrecord_count), (107, conrecord_site), (135, conrecord_node), (136, conrecord_text)], lp := lpsOf [], k0 := 0, mu := [], un := [] }
theorem okrecord_mayOp : ConOk E C 90 conrecord_mayOp :=
  con_ok (D := datrecord_mayOp) ⟨d0Ok, eGood, tblOf_ok ⟨okrecord_count, ⟨okrecord_site, ⟨okrecord_node, ⟨okrecord_text, trivial⟩⟩⟩⟩, fun _ => rfl⟩ conrecord_mayOp (fun a b => a) none (fun _ _ => rfl) rfl (fun _ _ h => nomatch h) 1000000 (fn := Tryz.f90) Tryz.func90 rfl (by kernel_rfl) (by kernel_rfl) rfl (by intro N a b; kernel_rfl)
def Frecord_mayOps_1 (N : Nat) (op : GOp) : Option (Bool) :=
 ((Frecord_mayOp N op).bind fun r1 =>
 (some (!r1)))
def conrecord_mayOps_1 : Con τ := { args := [.ty 25], L := [], ret := .ty 4, L' := [], R := Bool, dflt := default, F := fun N a b => Frecord_mayOps_1 N a.1, of := fun r => (r, ()) }
noncomputable def datrecord_mayOps_1 : Dat τ := { D := D0, tbl := tblOf [(90, conrecord_mayOp)], lp := lpsOf [], k0 := 0, mu := [], un := [] }
theorem okrecord_mayOps_1 : ConOk E C 143 conrecord_mayOps_1 :=
  con_ok (D := datrecord_mayOps_1) ⟨d0Ok, eGood, tblOf_ok ⟨okrecord_mayOp, trivial⟩, fun _ => rfl⟩ conrecord_mayOps_1 (fun a b => a) none (fun _ _ => rfl) rfl (fun _ _ h => nomatch h) 1000000 (fn := Tryz.f143) Tryz.func143 rfl (by kernel_rfl) (by kernel_rfl) rfl (by intro N a b; kernel_rfl)
structure Sslices_IndexFunc_Op_d73x2 where
  t8 : Int
def tsslices_IndexFunc_Op_d73x2 : List Sl := [.k, .k, .k, .k, .j, .j, .k, .k, .sh (.ty 2), .j, .j, .j, .j, .j, .j, .j, .j, .j, .j]
def hsslices_IndexFunc_Op_d73x2 : List ESh := []
def toslices_IndexFunc_Op_d73x2 (a : Sl.Ts τ tsslices_IndexFunc_Op_d73x2) (b : ESh.Ts τ hsslices_IndexFunc_Op_d73x2) : Sslices_IndexFunc_Op_d73x2 := ⟨a.2.2.2.2.2.2.2.2.1⟩
def otslices_IndexFunc_Op_d73x2 (s : Sslices_IndexFunc_Op_d73x2) : Sl.Ts τ tsslices_IndexFunc_Op_d73x2 := ((), (), (), (), (), (), (), (), s.t8, (), (), (), (), (), (), (), (), (), (), ())
def ohslices_IndexFunc_Op_d73x2 (s : Sslices_IndexFunc_Op_d73x2) : ESh.Ts τ hsslices_IndexFunc_Op_d73x2 := ()
def lpslices_IndexFunc_Op_d73x2 : Lp τ := { ts := tsslices_IndexFunc_Op_d73x2, hs := hsslices_IndexFunc_Op_d73x2, S := Sslices_IndexFunc_Op_d73x2, to := toslices_IndexFunc_Op_d73x2, ot := otslices_IndexFunc_Op_d73x2, oh := ohslices_IndexFunc_Op_d73x2, hk := [], tk := [], ot_to := fun _ _ => rfl, oh_to := fun _ _ => rfl }
def Fslices_IndexFunc_Op_d73 (N : Nat) (s : List (GOp)) : Option (Int) :=
 (iter N (fun (s1 : Sslices_IndexFunc_Op_d73x2) next2 =>
 (bif (decide (s1.t8 < ((s).length : Int))) then
 (bif (ibB s1.t8 ((s).length : Int)) then
 ((Frecord_mayOps_1 N (⟨((lget s s1.t8 default).Stamp), (lget s s1.t8 default).Kind, (lget s s1.t8 default).Node, (lget s s1.t8 default).Parent, (lget s s1.t8 default).Name, (lget s s1.t8 default).Key, (lget s s1.t8 default).Value⟩ : GOp)).bind fun r3 =>
 (bif r3 then
 (some s1.t8)
 else
 (next2 ⟨(IntKind.i64.wrap (s1.t8 + 1))⟩)))
 else none)
 else
 (some (-1)))) ⟨0⟩)
def conslices_IndexFunc_Op_d73 : Con τ := { args := [.ty 60, .fn 143 []], L := [], ret := .ty 3, L' := [], R := Int, dflt := default, F := fun N a b => Fslices_IndexFunc_Op_d73 N a.1, of := fun r => (r, ()) }
noncomputable def datslices_IndexFunc_Op_d73 : Dat τ := { D := D0, tbl := tblOf [(143, conrecord_mayOps_1)], lp := lpsOf [(2, lpslices_IndexFunc_Op_d73x2)], k0 := 0, mu := [], un := [] }
theorem okslices_IndexFunc_Op_d73 : ConOk E C 158 conslices_IndexFunc_Op_d73 :=
  con_ok (D := datslices_IndexFunc_Op_d73) ⟨d0Ok, eGood, tblOf_ok ⟨okrecord_mayOps_1, trivial⟩, fun _ => rfl⟩ conslices_IndexFunc_Op_d73 (fun a b => a) none (fun _ _ => rfl) rfl (fun _ _ h => nomatch h) 1000000 (fn := Tryz.f158) Tryz.func158 rfl (by kernel_rfl) (by kernel_rfl) rfl (by intro N a b; kernel_rfl)
def Fslices_ContainsFunc_Op_d73 (N : Nat) (s : List (GOp)) : Option (Bool) :=
 ((Fslices_IndexFunc_Op_d73 N s).bind fun r1 =>
 (some (decide (0 ≤ r1))))
def conslices_ContainsFunc_Op_d73 : Con τ := { args := [.ty 60, .fn 143 []], L := [], ret := .ty 4, L' := [], R := Bool, dflt := default, F := fun N a b => Fslices_ContainsFunc_Op_d73 N a.1, of := fun r => (r, ()) }
noncomputable def datslices_ContainsFunc_Op_d73 : Dat τ := { D := D0, tbl := tblOf [(158, conslices_IndexFunc_Op_d73)], lp := lpsOf [], k0 := 0, mu := [], un := [] }
theorem okslices_ContainsFunc_Op_d73 : ConOk E C 142 conslices_ContainsFunc_Op_d73 :=
  con_ok (D := datslices_ContainsFunc_Op_d73) ⟨d0Ok, eGood, tblOf_ok ⟨okslices_IndexFunc_Op_d73, trivial⟩, fun _ => rfl⟩ conslices_ContainsFunc_Op_d73 (fun a b => a) none (fun _ _ => rfl) rfl (fun _ _ h => nomatch h) 1000000 (fn := Tryz.f142) Tryz.func142 rfl (by kernel_rfl) (by kernel_rfl) rfl (by intro N a b; kernel_rfl)
def Frecord_mayOps (N : Nat) (l : List (GOp)) (least : Int) : Option (Bool) :=
 ((bif ((decide (least ≤ ((l).length : Int))) && (decide (((l).length : Int) ≤ 4096))) then Fslices_ContainsFunc_Op_d73 N l else some default).bind fun r1 =>
 (some (((decide (least ≤ ((l).length : Int))) && (decide (((l).length : Int) ≤ 4096))) && (!r1))))
def conrecord_mayOps : Con τ := { args := [.ty 60, .ty 3], L := [], ret := .ty 4, L' := [], R := Bool, dflt := default, F := fun N a b => Frecord_mayOps N a.1 a.2.1, of := fun r => (r, ()) }
noncomputable def datrecord_mayOps : Dat τ := { D := D0, tbl := tblOf [(142, conslices_ContainsFunc_Op_d73)], lp := lpsOf [], k0 := 0, mu := [], un := [] }
theorem okrecord_mayOps : ConOk E C 108 conrecord_mayOps :=
  con_ok (D := datrecord_mayOps) ⟨d0Ok, eGood, tblOf_ok ⟨okslices_ContainsFunc_Op_d73, trivial⟩, fun _ => rfl⟩ conrecord_mayOps (fun a b => a) none (fun _ _ => rfl) rfl (fun _ _ h => nomatch h) 1000000 (fn := Tryz.f108) Tryz.func108 rfl (by kernel_rfl) (by kernel_rfl) rfl (by intro N a b; kernel_rfl)
structure Srecord_mayEpochx3 where
  ok : Bool
  t14 : Int
def tsrecord_mayEpochx3 : List Sl := [.k, .k, .k, .sh (.ty 4), .j, .k, .k, .k, .k, .k, .j, .k, .j, .k, .sh (.ty 2), .j, .j, .j, .j, .j, .j, .j, .j, .j, .j, .j, .j, .j, .j, .j, .j, .j, .j, .j, .j, .j, .j, .j, .j, .j, .j, .j, .j, .j, .j, .j, .j, .k]
def hsrecord_mayEpochx3 : List ESh := [.keep]
def torecord_mayEpochx3 (a : Sl.Ts τ tsrecord_mayEpochx3) (b : ESh.Ts τ hsrecord_mayEpochx3) : Srecord_mayEpochx3 := ⟨a.2.2.2.1, a.2.2.2.2.2.2.2.2.2.2.2.2.2.2.1⟩
def otrecord_mayEpochx3 (s : Srecord_mayEpochx3) : Sl.Ts τ tsrecord_mayEpochx3 := ((), (), (), s.ok, (), (), (), (), (), (), (), (), (), (), s.t14, (), (), (), (), (), (), (), (), (), (), (), (), (), (), (), (), (), (), (), (), (), (), (), (), (), (), (), (), (), (), (), (), (), ())
def ohrecord_mayEpochx3 (s : Srecord_mayEpochx3) : ESh.Ts τ hsrecord_mayEpochx3 := ((), ())
def lprecord_mayEpochx3 : Lp τ := { ts := tsrecord_mayEpochx3, hs := hsrecord_mayEpochx3, S := Srecord_mayEpochx3, to := torecord_mayEpochx3, ot := otrecord_mayEpochx3, oh := ohrecord_mayEpochx3, hk := [3], tk := [0, 2, 0, 0, 0, 2], ot_to := fun _ _ => rfl, oh_to := fun _ _ => rfl }
structure Srecord_mayEpochx3a where
  ok : Bool
  t14 : Int
def tsrecord_mayEpochx3a : List Sl := [.k, .k, .k, .sh (.ty 4), .j, .k, .k, .k, .k, .k, .j, .k, .k, .k, .sh (.ty 2), .j, .j, .j, .j, .j, .j, .j, .j, .j, .j, .j, .j, .j, .j, .j, .j, .j, .j, .j, .j, .j, .j, .j, .j, .j, .j, .j, .j, .j, .j, .j, .j, .k]
def hsrecord_mayEpochx3a : List ESh := [.keep]
def torecord_mayEpochx3a (a : Sl.Ts τ tsrecord_mayEpochx3a) (b : ESh.Ts τ hsrecord_mayEpochx3a) : Srecord_mayEpochx3a := ⟨a.2.2.2.1, a.2.2.2.2.2.2.2.2.2.2.2.2.2.2.1⟩
def otrecord_mayEpochx3a (s : Srecord_mayEpochx3a) : Sl.Ts τ tsrecord_mayEpochx3a := ((), (), (), s.ok, (), (), (), (), (), (), (), (), (), (), s.t14, (), (), (), (), (), (), (), (), (), (), (), (), (), (), (), (), (), (), (), (), (), (), (), (), (), (), (), (), (), (), (), (), (), ())
def ohrecord_mayEpochx3a (s : Srecord_mayEpochx3a) : ESh.Ts τ hsrecord_mayEpochx3a := ((), ())
def lprecord_mayEpochx3a : Lp τ := { ts := tsrecord_mayEpochx3a, hs := hsrecord_mayEpochx3a, S := Srecord_mayEpochx3a, to := torecord_mayEpochx3a, ot := otrecord_mayEpochx3a, oh := ohrecord_mayEpochx3a, hk := [2], tk := [0, 2, 0, 0, 0, 2], ot_to := fun _ _ => rfl, oh_to := fun _ _ => rfl }
def Frecord_mayEpoch (N : Nat) (e : GEpoch) : Option (Bool) :=
 ((Frecord_count N [e.Number]).bind fun r1 =>
 (bif r1 then
 ((bif r1 then Frecord_count N (e.Seals.toList) else some default).bind fun r2 =>
 (iter N (fun (s3 : Srecord_mayEpochx3) next4 =>
 (bif (decide (s3.t14 < 8)) then
 (bif (!s3.ok || (ibB s3.t14 8)) then
 (bif (!(s3.ok && (decide (0 ≤ (vget e.States ((s3.t14).toNat) default)))) || (ibB s3.t14 8)) then
 (bif (!((s3.ok && (decide (0 ≤ (vget e.States ((s3.t14).toNat) default)))) && (decide ((vget e.States ((s3.t14).toNat) default) ≤ 3))) || (ibB s3.t14 8)) then
 (bif (!(((s3.ok && (decide (0 ≤ (vget e.States ((s3.t14).toNat) default)))) && (decide ((vget e.States ((s3.t14).toNat) default) ≤ 3))) && (decide ((-1) ≤ (vget e.Sponsor ((s3.t14).toNat) default)))) || (ibB s3.t14 8)) then
 (next4 ⟨((((s3.ok && (decide (0 ≤ (vget e.States ((s3.t14).toNat) default)))) && (decide ((vget e.States ((s3.t14).toNat) default) ≤ 3))) && (decide ((-1) ≤ (vget e.Sponsor ((s3.t14).toNat) default)))) && (decide ((vget e.Sponsor ((s3.t14).toNat) default) < 8))), (IntKind.i64.wrap (s3.t14 + 1))⟩)
 else none)
 else none)
 else none)
 else none)
 else
 (some s3.ok))) ⟨(r1 && r2), 0⟩))
 else
 (iter N (fun (s5 : Srecord_mayEpochx3a) next6 =>
 (bif (decide (s5.t14 < 8)) then
 (bif (!s5.ok || (ibB s5.t14 8)) then
 (bif (!(s5.ok && (decide (0 ≤ (vget e.States ((s5.t14).toNat) default)))) || (ibB s5.t14 8)) then
 (bif (!((s5.ok && (decide (0 ≤ (vget e.States ((s5.t14).toNat) default)))) && (decide ((vget e.States ((s5.t14).toNat) default) ≤ 3))) || (ibB s5.t14 8)) then
 (bif (!(((s5.ok && (decide (0 ≤ (vget e.States ((s5.t14).toNat) default)))) && (decide ((vget e.States ((s5.t14).toNat) default) ≤ 3))) && (decide ((-1) ≤ (vget e.Sponsor ((s5.t14).toNat) default)))) || (ibB s5.t14 8)) then
 (next6 ⟨((((s5.ok && (decide (0 ≤ (vget e.States ((s5.t14).toNat) default)))) && (decide ((vget e.States ((s5.t14).toNat) default) ≤ 3))) && (decide ((-1) ≤ (vget e.Sponsor ((s5.t14).toNat) default)))) && (decide ((vget e.Sponsor ((s5.t14).toNat) default) < 8))), (IntKind.i64.wrap (s5.t14 + 1))⟩)
 else none)
 else none)
 else none)
 else none)
 else
 (some s5.ok))) ⟨false, 0⟩)))
def conrecord_mayEpoch : Con τ := { args := [.ty 30], L := [], ret := .ty 4, L' := [], R := Bool, dflt := default, F := fun N a b => Frecord_mayEpoch N a.1, of := fun r => (r, ()) }
noncomputable def datrecord_mayEpoch : Dat τ := { D := D0, tbl := tblOf [(106, conrecord_count)], lp := lpsOf [(3, lprecord_mayEpochx3), (3, lprecord_mayEpochx3a)], k0 := 0, mu := [], un := [] }
theorem okrecord_mayEpoch : ConOk E C 97 conrecord_mayEpoch :=
  con_ok (D := datrecord_mayEpoch) ⟨d0Ok, eGood, tblOf_ok ⟨okrecord_count, trivial⟩, fun _ => rfl⟩ conrecord_mayEpoch (fun a b => a) none (fun _ _ => rfl) rfl (fun _ _ h => nomatch h) 1000000 (fn := Tryz.f97) Tryz.func97 rfl (by kernel_rfl) (by kernel_rfl) rfl (by intro N a b; kernel_rfl)
def Frecord_mayPart (N : Nat) (p : GPart) : Option (Bool) :=
 ((Frecord_count N [p.Snap]).bind fun r1 =>
 (some (((((r1 && (decide (1 ≤ p.Many))) && (decide (p.Many ≤ 4096))) && (decide (0 ≤ p.Index))) && (decide (p.Index < p.Many))) && (decide (((p.Data).length : Int) ≤ 16384)))))
def conrecord_mayPart : Con τ := { args := [.ty 62], L := [], ret := .ty 4, L' := [], R := Bool, dflt := default, F := fun N a b => Frecord_mayPart N a.1, of := fun r => (r, ()) }
noncomputable def datrecord_mayPart : Dat τ := { D := D0, tbl := tblOf [(106, conrecord_count)], lp := lpsOf [], k0 := 0, mu := [], un := [] }
theorem okrecord_mayPart : ConOk E C 109 conrecord_mayPart :=
  con_ok (D := datrecord_mayPart) ⟨d0Ok, eGood, tblOf_ok ⟨okrecord_count, trivial⟩, fun _ => rfl⟩ conrecord_mayPart (fun a b => a) none (fun _ _ => rfl) rfl (fun _ _ h => nomatch h) 1000000 (fn := Tryz.f109) Tryz.func109 rfl (by kernel_rfl) (by kernel_rfl) rfl (by intro N a b; kernel_rfl)
def Frecord_CheckEntry (N : Nat) (e : GEntry) : Option (Int) :=
 (bif (e.Kind == 0) then
 ((Frecord_SameEntry N (⟨e.Kind, 0, 0, (⟨(⟨0, 0⟩ : GStamp), 0, 0, 0, [], [], []⟩ : GOp), 0, 0, [], (⟨0, (Vector.replicate 8 (default : Int)), (Vector.replicate 8 (default : Int)), (Vector.replicate 8 (default : Int))⟩ : GEpoch), 0, (Vector.replicate 8 (default : Int)), 0, (⟨0, 0, 0, []⟩ : GPart), 0, 0, 0⟩ : GEntry) e).bind fun r1 =>
 ((Frecord_verdict N r1).bind fun r2 =>
 (some r2)))
 else
 (bif (e.Kind == 1) then
 ((Frecord_count N [e.Session, e.Request]).bind fun r3 =>
 ((bif ((r3 && (decide (0 < e.Session))) && (decide (0 < e.Request))) then Frecord_mayOp N e.Op else some default).bind fun r4 =>
 ((bif (((r3 && (decide (0 < e.Session))) && (decide (0 < e.Request))) && r4) then Frecord_SameEntry N (⟨e.Kind, e.Session, e.Request, e.Op, 0, 0, [], (⟨0, (Vector.replicate 8 (default : Int)), (Vector.replicate 8 (default : Int)), (Vector.replicate 8 (default : Int))⟩ : GEpoch), 0, (Vector.replicate 8 (default : Int)), 0, (⟨0, 0, 0, []⟩ : GPart), 0, 0, 0⟩ : GEntry) e else some default).bind fun r5 =>
 ((Frecord_verdict N ((((r3 && (decide (0 < e.Session))) && (decide (0 < e.Request))) && r4) && r5)).bind fun r6 =>
 (some r6)))))
 else
 (bif (e.Kind == 2) then
 ((Frecord_site N [e.Origin]).bind fun r7 =>
 ((bif r7 then Frecord_count N [e.Seq] else some default).bind fun r8 =>
 ((bif (r7 && r8) then Frecord_mayOps N e.Ops 1 else some default).bind fun r9 =>
 ((bif ((r7 && r8) && r9) then Frecord_SameEntry N (⟨e.Kind, 0, 0, (⟨(⟨0, 0⟩ : GStamp), 0, 0, 0, [], [], []⟩ : GOp), e.Origin, e.Seq, e.Ops, (⟨0, (Vector.replicate 8 (default : Int)), (Vector.replicate 8 (default : Int)), (Vector.replicate 8 (default : Int))⟩ : GEpoch), 0, (Vector.replicate 8 (default : Int)), 0, (⟨0, 0, 0, []⟩ : GPart), 0, 0, 0⟩ : GEntry) e else some default).bind fun r10 =>
 ((Frecord_verdict N (((r7 && r8) && r9) && r10)).bind fun r11 =>
 (some r11))))))
 else
 (bif (e.Kind == 3) then
 ((Frecord_mayEpoch N e.Epoch).bind fun r12 =>
 ((bif r12 then Frecord_SameEntry N (⟨e.Kind, 0, 0, (⟨(⟨0, 0⟩ : GStamp), 0, 0, 0, [], [], []⟩ : GOp), 0, 0, [], e.Epoch, 0, (Vector.replicate 8 (default : Int)), 0, (⟨0, 0, 0, []⟩ : GPart), 0, 0, 0⟩ : GEntry) e else some default).bind fun r13 =>
 ((Frecord_verdict N (r12 && r13)).bind fun r14 =>
 (some r14))))
 else
 (bif (e.Kind == 4) then
 ((Frecord_count N [e.Seq, e.Clock]).bind fun r15 =>
 ((bif r15 then Frecord_site N [e.From] else some default).bind fun r16 =>
 (bif (r15 && r16) then
 ((bif (r15 && r16) then Frecord_count N (e.Vector_.toList) else some default).bind fun r17 =>
 ((bif ((r15 && r16) && r17) then Frecord_SameEntry N (⟨e.Kind, 0, 0, (⟨(⟨0, 0⟩ : GStamp), 0, 0, 0, [], [], []⟩ : GOp), 0, e.Seq, [], (⟨0, (Vector.replicate 8 (default : Int)), (Vector.replicate 8 (default : Int)), (Vector.replicate 8 (default : Int))⟩ : GEpoch), e.From, e.Vector_, e.Clock, (⟨0, 0, 0, []⟩ : GPart), 0, 0, 0⟩ : GEntry) e else some default).bind fun r18 =>
 ((Frecord_verdict N (((r15 && r16) && r17) && r18)).bind fun r19 =>
 (some r19))))
 else
 ((bif false then Frecord_SameEntry N (⟨e.Kind, 0, 0, (⟨(⟨0, 0⟩ : GStamp), 0, 0, 0, [], [], []⟩ : GOp), 0, e.Seq, [], (⟨0, (Vector.replicate 8 (default : Int)), (Vector.replicate 8 (default : Int)), (Vector.replicate 8 (default : Int))⟩ : GEpoch), e.From, e.Vector_, e.Clock, (⟨0, 0, 0, []⟩ : GPart), 0, 0, 0⟩ : GEntry) e else some default).bind fun r20 =>
 ((Frecord_verdict N false).bind fun r21 =>
 (some r21))))))
 else
 (bif (e.Kind == 5) then
 ((Frecord_mayPart N e.Part).bind fun r22 =>
 ((bif r22 then Frecord_SameEntry N (⟨e.Kind, 0, 0, (⟨(⟨0, 0⟩ : GStamp), 0, 0, 0, [], [], []⟩ : GOp), 0, 0, [], (⟨0, (Vector.replicate 8 (default : Int)), (Vector.replicate 8 (default : Int)), (Vector.replicate 8 (default : Int))⟩ : GEpoch), 0, (Vector.replicate 8 (default : Int)), 0, e.Part, 0, 0, 0⟩ : GEntry) e else some default).bind fun r23 =>
 ((Frecord_verdict N (r22 && r23)).bind fun r24 =>
 (some r24))))
 else
 (bif (e.Kind == 6) then
 ((Frecord_site N [e.Site, e.Sponsor]).bind fun r25 =>
 ((bif r25 then Frecord_SameEntry N (⟨e.Kind, 0, 0, (⟨(⟨0, 0⟩ : GStamp), 0, 0, 0, [], [], []⟩ : GOp), 0, 0, [], (⟨0, (Vector.replicate 8 (default : Int)), (Vector.replicate 8 (default : Int)), (Vector.replicate 8 (default : Int))⟩ : GEpoch), 0, (Vector.replicate 8 (default : Int)), 0, (⟨0, 0, 0, []⟩ : GPart), e.Site, e.Sponsor, 0⟩ : GEntry) e else some default).bind fun r26 =>
 ((Frecord_verdict N (r25 && r26)).bind fun r27 =>
 (some r27))))
 else
 (bif (e.Kind == 7) then
 ((Frecord_site N [e.Site]).bind fun r28 =>
 ((bif r28 then Frecord_SameEntry N (⟨e.Kind, 0, 0, (⟨(⟨0, 0⟩ : GStamp), 0, 0, 0, [], [], []⟩ : GOp), 0, 0, [], (⟨0, (Vector.replicate 8 (default : Int)), (Vector.replicate 8 (default : Int)), (Vector.replicate 8 (default : Int))⟩ : GEpoch), 0, (Vector.replicate 8 (default : Int)), 0, (⟨0, 0, 0, []⟩ : GPart), e.Site, 0, 0⟩ : GEntry) e else some default).bind fun r29 =>
 ((Frecord_verdict N (r28 && r29)).bind fun r30 =>
 (some r30))))
 else
 (bif (e.Kind == 8) then
 ((Frecord_site N [e.Site]).bind fun r31 =>
 ((bif r31 then Frecord_count N [e.Length] else some default).bind fun r32 =>
 ((bif (r31 && r32) then Frecord_SameEntry N (⟨e.Kind, 0, 0, (⟨(⟨0, 0⟩ : GStamp), 0, 0, 0, [], [], []⟩ : GOp), 0, 0, [], (⟨0, (Vector.replicate 8 (default : Int)), (Vector.replicate 8 (default : Int)), (Vector.replicate 8 (default : Int))⟩ : GEpoch), 0, (Vector.replicate 8 (default : Int)), 0, (⟨0, 0, 0, []⟩ : GPart), e.Site, 0, e.Length⟩ : GEntry) e else some default).bind fun r33 =>
 ((Frecord_verdict N ((r31 && r32) && r33)).bind fun r34 =>
 (some r34)))))
 else
 ((bif false then Frecord_SameEntry N (⟨e.Kind, 0, 0, (⟨(⟨0, 0⟩ : GStamp), 0, 0, 0, [], [], []⟩ : GOp), 0, 0, [], (⟨0, (Vector.replicate 8 (default : Int)), (Vector.replicate 8 (default : Int)), (Vector.replicate 8 (default : Int))⟩ : GEpoch), 0, (Vector.replicate 8 (default : Int)), 0, (⟨0, 0, 0, []⟩ : GPart), 0, 0, 0⟩ : GEntry) e else some default).bind fun r35 =>
 ((Frecord_verdict N false).bind fun r36 =>
 (some r36))))))))))))
def conrecord_CheckEntry : Con τ := { args := [.ty 64], L := [], ret := .ty 35, L' := [], R := Int, dflt := default, F := fun N a b => Frecord_CheckEntry N a.1, of := fun r => (r, ()) }
noncomputable def datrecord_CheckEntry : Dat τ := { D := D0, tbl := tblOf [(110, conrecord_SameEntry), (89, conrecord_verdict), (106, conrecord_count), (90, conrecord_mayOp), (107, conrecord_site), (108, conrecord_mayOps), (97, conrecord_mayEpoch), (109, conrecord_mayPart)], lp := lpsOf [], k0 := 0, mu := [], un := [] }
theorem okrecord_CheckEntry : ConOk E C 64 conrecord_CheckEntry :=
  con_ok (D := datrecord_CheckEntry) ⟨d0Ok, eGood, tblOf_ok ⟨okrecord_SameEntry, ⟨okrecord_verdict, ⟨okrecord_count, ⟨okrecord_mayOp, ⟨okrecord_site, ⟨okrecord_mayOps, ⟨okrecord_mayEpoch, ⟨okrecord_mayPart, trivial⟩⟩⟩⟩⟩⟩⟩⟩, fun _ => rfl⟩ conrecord_CheckEntry (fun a b => a) none (fun _ _ => rfl) rfl (fun _ _ h => nomatch h) 1000000 (fn := Tryz.f64) Tryz.func64 rfl (by kernel_rfl) (by kernel_rfl) rfl (by intro N a b; kernel_rfl)
structure Swire_numberx5 where
  u : Int
  b : List (Int)
def tswire_numberx5 : List Sl := [.k, .k, .k, .sh (.ty 12), .sh (.own 5 0), .k, .k, .k, .k, .k, .k, .k, .j, .j, .j, .j, .j, .j, .j, .j, .j, .j, .k, .k, .k, .k, .k]
def hswire_numberx5 : List ESh := [.tail]
def towire_numberx5 (a : Sl.Ts τ tswire_numberx5) (b : ESh.Ts τ hswire_numberx5) : Swire_numberx5 := ⟨a.2.2.2.1, a.2.2.2.2.1⟩
def otwire_numberx5 (s : Swire_numberx5) : Sl.Ts τ tswire_numberx5 := ((), (), (), s.u, s.b, (), (), (), (), (), (), (), (), (), (), (), (), (), (), (), (), (), (), (), (), (), (), ())
def ohwire_numberx5 (s : Swire_numberx5) : ESh.Ts τ hswire_numberx5 := ((), ())
def lpwire_numberx5 : Lp τ := { ts := tswire_numberx5, hs := hswire_numberx5, S := Swire_numberx5, to := towire_numberx5, ot := otwire_numberx5, oh := ohwire_numberx5, hk := [], tk := [], ot_to := fun _ _ => rfl, oh_to := fun _ _ => rfl }
def Fwire_number (N : Nat) (n : Int) : Option ((List (Int))) :=
 (bif (decide (n < 0)) then
 (iter N (fun (s1 : Swire_numberx5) next2 =>
 (bif (decide (128 ≤ s1.u)) then
 (bif (lenB ((s1.b).length + ([(bits .or .u8 (IntKind.u8.wrap s1.u) 128)]).length) 1) then
 (next2 ⟨(shr .u64 s1.u 7), (s1.b ++ [(bits .or .u8 (IntKind.u8.wrap s1.u) 128)])⟩)
 else none)
 else
 (bif (lenB ((s1.b).length + ([(IntKind.u8.wrap s1.u)]).length) 1) then
 (some (s1.b ++ [(IntKind.u8.wrap s1.u)]))
 else none))) ⟨(bits .xor .u64 IntKind.u64.max (shl .u64 (IntKind.u64.wrap n) 1)), []⟩)
 else
 (iter N (fun (s3 : Swire_numberx5) next4 =>
 (bif (decide (128 ≤ s3.u)) then
 (bif (lenB ((s3.b).length + ([(bits .or .u8 (IntKind.u8.wrap s3.u) 128)]).length) 1) then
 (next4 ⟨(shr .u64 s3.u 7), (s3.b ++ [(bits .or .u8 (IntKind.u8.wrap s3.u) 128)])⟩)
 else none)
 else
 (bif (lenB ((s3.b).length + ([(IntKind.u8.wrap s3.u)]).length) 1) then
 (some (s3.b ++ [(IntKind.u8.wrap s3.u)]))
 else none))) ⟨(shl .u64 (IntKind.u64.wrap n) 1), []⟩))
def conwire_number : Con τ := { args := [.ty 2], L := [], ret := .own 5 0, L' := [.tail], R := (List (Int)), dflt := default, F := fun N a b => Fwire_number N a.1, of := fun r => (r, ((), ())) }
noncomputable def datwire_number : Dat τ := { D := D0, tbl := tblOf [], lp := lpsOf [(5, lpwire_numberx5)], k0 := 0, mu := [], un := [] }
theorem okwire_number : ConOk E C 123 conwire_number :=
  con_ok (D := datwire_number) ⟨d0Ok, eGood, tblOf_ok trivial, fun _ => rfl⟩ conwire_number (fun a b => a) none (fun _ _ => rfl) rfl (fun _ _ h => nomatch h) 1000000 (fn := Tryz.f123) Tryz.func123 rfl (by kernel_rfl) (by kernel_rfl) rfl (by intro N a b; kernel_rfl)
def Fwire_Writer_none_052 (N : Nat) (b0 : Bool) (b02 : List (Int)) : Option (Bool × Bool × (List (Int))) :=
 (some ((!b0), b0, b02))
def conwire_Writer_none_052 : Con τ := { args := [.ptr 0 []], L := [.box (.agg [.ty 4, .own 5 1]), .tail], ret := .ty 4, L' := [.box (.agg [.ty 4, .own 5 1]), .tail], R := Bool × Bool × (List (Int)), dflt := (default, default, default), F := fun N a b => Fwire_Writer_none_052 N b.1.1 b.1.2.1, of := fun r => (r.1, ((r.2.1, r.2.2, ()), (), ())) }
noncomputable def datwire_Writer_none_052 : Dat τ := { D := D0, tbl := tblOf [], lp := lpsOf [], k0 := 2, mu := [], un := [] }
theorem okwire_Writer_none_052 : ConOk E C 48 conwire_Writer_none_052 :=
  con_ok (D := datwire_Writer_none_052) ⟨d0Ok, eGood, tblOf_ok trivial, fun _ => rfl⟩ conwire_Writer_none_052 (fun a b => (a, b.1.1, b.1.2.1)) none (fun _ _ => rfl) rfl (fun _ _ h => nomatch h) 1000000 (fn := Tryz.f48) Tryz.func48 rfl (by kernel_rfl) (by kernel_rfl) rfl (by intro N a b; kernel_rfl)
structure Swire_Writer_put_867x5 where
  n : Int
  t19 : Int
def tswire_Writer_put_867x5 : List Sl := [.k, .k, .k, .k, .j, .sh (.ty 2), .k, .j, .k, .k, .k, .k, .k, .k, .k, .k, .k, .k, .k, .sh (.ty 2), .j, .j, .j, .j, .j, .j, .j, .j, .j, .j, .j, .j, .j, .k, .k, .k, .k, .k, .k, .k, .k, .k, .k, .k, .k, .k, .k, .k, .k]
def hswire_Writer_put_867x5 : List ESh := [.keep, .keep]
def towire_Writer_put_867x5 (a : Sl.Ts τ tswire_Writer_put_867x5) (b : ESh.Ts τ hswire_Writer_put_867x5) : Swire_Writer_put_867x5 := ⟨a.2.2.2.2.2.1, a.2.2.2.2.2.2.2.2.2.2.2.2.2.2.2.2.2.2.2.1⟩
def otwire_Writer_put_867x5 (s : Swire_Writer_put_867x5) : Sl.Ts τ tswire_Writer_put_867x5 := ((), (), (), (), (), s.n, (), (), (), (), (), (), (), (), (), (), (), (), (), s.t19, (), (), (), (), (), (), (), (), (), (), (), (), (), (), (), (), (), (), (), (), (), (), (), (), (), (), (), (), (), ())
def ohwire_Writer_put_867x5 (s : Swire_Writer_put_867x5) : ESh.Ts τ hswire_Writer_put_867x5 := ((), (), ())
def lpwire_Writer_put_867x5 : Lp τ := { ts := tswire_Writer_put_867x5, hs := hswire_Writer_put_867x5, S := Swire_Writer_put_867x5, to := towire_Writer_put_867x5, ot := otwire_Writer_put_867x5, oh := ohwire_Writer_put_867x5, hk := [2, 5], tk := [2, 0, 0, 0, 0, 0, 0, 0, 0, 0, 2, 0, 2, 2, 2], ot_to := fun _ _ => rfl, oh_to := fun _ _ => rfl }
structure Swire_Writer_put_867x12 where
  t35 : Int
  b0 : Bool
  b02 : List (Int)
def tswire_Writer_put_867x12 : List Sl := [.k, .k, .k, .k, .k, .k, .k, .k, .k, .j, .k, .k, .k, .k, .k, .k, .k, .k, .k, .k, .k, .k, .k, .k, .k, .k, .k, .k, .k, .k, .k, .k, .k, .k, .k, .sh (.ty 2), .j, .j, .j, .j, .j, .j, .j, .j, .j, .j, .j, .j, .j]
def hswire_Writer_put_867x12 : List ESh := [.box (.agg [.ty 4, .own 5 2]), .dead, .tail]
def towire_Writer_put_867x12 (a : Sl.Ts τ tswire_Writer_put_867x12) (b : ESh.Ts τ hswire_Writer_put_867x12) : Swire_Writer_put_867x12 := ⟨a.2.2.2.2.2.2.2.2.2.2.2.2.2.2.2.2.2.2.2.2.2.2.2.2.2.2.2.2.2.2.2.2.2.2.2.1, b.1.1, b.1.2.1⟩
def otwire_Writer_put_867x12 (s : Swire_Writer_put_867x12) : Sl.Ts τ tswire_Writer_put_867x12 := ((), (), (), (), (), (), (), (), (), (), (), (), (), (), (), (), (), (), (), (), (), (), (), (), (), (), (), (), (), (), (), (), (), (), (), s.t35, (), (), (), (), (), (), (), (), (), (), (), (), (), ())
def ohwire_Writer_put_867x12 (s : Swire_Writer_put_867x12) : ESh.Ts τ hswire_Writer_put_867x12 := ((s.b0, s.b02, ()), (), (), ())
def lpwire_Writer_put_867x12 : Lp τ := { ts := tswire_Writer_put_867x12, hs := hswire_Writer_put_867x12, S := Swire_Writer_put_867x12, to := towire_Writer_put_867x12, ot := otwire_Writer_put_867x12, oh := ohwire_Writer_put_867x12, hk := [2, 5], tk := [2, 0, 0, 0, 0, 0, 0, 0, 0, 0, 2, 0, 2, 2, 2], ot_to := fun _ _ => rfl, oh_to := fun _ _ => rfl }
def Fwire_Writer_put_867 (N : Nat) (l : List (List (Int))) (b0 : Bool) (b02 : List (Int)) : Option (Int × Bool × (List (Int))) :=
 ((Fwire_Writer_none_052 N b0 b02).bind fun r1 =>
 (bif r1.1 then
 (some (2, r1.2.1, r1.2.2))
 else
 (iter N (fun (s2 : Swire_Writer_put_867x5) next3 =>
 (bif (decide (s2.t19 < ((l).length : Int))) then
 (bif (ibB s2.t19 ((l).length : Int)) then
 (bif (decide ((IntKind.i64.wrap (1048576 - s2.n)) < (((lget l s2.t19 default)).length : Int))) then
 (some (3, r1.2.1, r1.2.2))
 else
 (next3 ⟨(IntKind.i64.wrap (s2.n + (((lget l s2.t19 default)).length : Int))), (IntKind.i64.wrap (s2.t19 + 1))⟩))
 else none)
 else
 (iter N (fun (s4 : Swire_Writer_put_867x12) next5 =>
 (bif (decide (s4.t35 < ((l).length : Int))) then
 (bif (ibB s4.t35 ((l).length : Int)) then
 (bif (lenB ((s4.b02).length + ((lget l s4.t35 default)).length) 1) then
 (next5 ⟨(IntKind.i64.wrap (s4.t35 + 1)), s4.b0, (s4.b02 ++ (lget l s4.t35 default))⟩)
 else none)
 else none)
 else
 (some (0, s4.b0, s4.b02)))) ⟨0, r1.2.1, r1.2.2⟩))) ⟨((r1.2.2).length : Int), 0⟩)))
def conwire_Writer_put_867 : Con τ := { args := [.ptr 0 [], .ty 194], L := [.box (.agg [.ty 4, .own 5 1]), .tail], ret := .ty 35, L' := [.box (.agg [.ty 4, .own 5 2]), .dead, .tail], R := Int × Bool × (List (Int)), dflt := (default, default, default), F := fun N a b => Fwire_Writer_put_867 N a.2.1 b.1.1 b.1.2.1, of := fun r => (r.1, ((r.2.1, r.2.2, ()), (), (), ())) }
noncomputable def datwire_Writer_put_867 : Dat τ := { D := D0, tbl := tblOf [(48, conwire_Writer_none_052)], lp := lpsOf [(5, lpwire_Writer_put_867x5), (12, lpwire_Writer_put_867x12)], k0 := 2, mu := [], un := [] }
theorem okwire_Writer_put_867 : ConOk E C 134 conwire_Writer_put_867 :=
  con_ok (D := datwire_Writer_put_867) ⟨d0Ok, eGood, tblOf_ok ⟨okwire_Writer_none_052, trivial⟩, fun _ => rfl⟩ conwire_Writer_put_867 (fun a b => (a, b.1.1, b.1.2.1)) none (fun _ _ => rfl) rfl (fun _ _ h => nomatch h) 1000000 (fn := Tryz.f134) Tryz.func134 rfl (by kernel_rfl) (by kernel_rfl) rfl (by intro N a b; kernel_rfl)
def Fwire_Writer_Int_816 (N : Nat) (n : Int) (b0 : Bool) (b02 : List (Int)) : Option (Int × Bool × (List (Int))) :=
 ((Fwire_number N n).bind fun r1 =>
 ((Fwire_Writer_put_867 N [r1] b0 b02).bind fun r2 =>
 (some (r2.1, r2.2.1, r2.2.2))))
def conwire_Writer_Int_816 : Con τ := { args := [.ptr 0 [], .ty 2], L := [.box (.agg [.ty 4, .own 5 1]), .tail], ret := .ty 35, L' := [.box (.agg [.ty 4, .own 5 2]), .dead, .tail], R := Int × Bool × (List (Int)), dflt := (default, default, default), F := fun N a b => Fwire_Writer_Int_816 N a.2.1 b.1.1 b.1.2.1, of := fun r => (r.1, ((r.2.1, r.2.2, ()), (), (), ())) }
noncomputable def datwire_Writer_Int_816 : Dat τ := { D := D0, tbl := tblOf [(123, conwire_number), (134, conwire_Writer_put_867)], lp := lpsOf [], k0 := 2, mu := [], un := [] }
theorem okwire_Writer_Int_816 : ConOk E C 88 conwire_Writer_Int_816 :=
  con_ok (D := datwire_Writer_Int_816) ⟨d0Ok, eGood, tblOf_ok ⟨okwire_number, ⟨okwire_Writer_put_867, trivial⟩⟩, fun _ => rfl⟩ conwire_Writer_Int_816 (fun a b => (a, b.1.1, b.1.2.1)) none (fun _ _ => rfl) rfl (fun _ _ h => nomatch h) 1000000 (fn := Tryz.f88) Tryz.func88 rfl (by kernel_rfl) (by kernel_rfl) rfl (by intro N a b; kernel_rfl)
def Frecord_writer_keep_9cd (N : Nat) (e : Int) (b0 : Int) (b1 : Bool) (b12 : List (Int)) : Option (Int × Bool × (List (Int))) :=
 (bif (b0 == 0) then
 (some (e, b1, b12))
 else
 (some (b0, b1, b12)))
def conrecord_writer_keep_9cd : Con τ := { args := [.ptr 0 [], .ty 35], L := [.box (.agg [.ptr 1 [], .ty 35]), .box (.agg [.ty 4, .own 5 2]), .tail], ret := .tup [], L' := [.box (.agg [.ptr 1 [], .ty 35]), .box (.agg [.ty 4, .own 5 2]), .tail], R := Int × Bool × (List (Int)), dflt := (default, default, default), F := fun N a b => Frecord_writer_keep_9cd N a.2.1 b.1.2.1 b.2.1.1 b.2.1.2.1, of := fun r => ((), (((), r.1, ()), (r.2.1, r.2.2, ()), (), ())) }
noncomputable def datrecord_writer_keep_9cd : Dat τ := { D := D0, tbl := tblOf [], lp := lpsOf [], k0 := 3, mu := [], un := [] }
theorem okrecord_writer_keep_9cd : ConOk E C 137 conrecord_writer_keep_9cd :=
  con_ok (D := datrecord_writer_keep_9cd) ⟨d0Ok, eGood, tblOf_ok trivial, fun _ => rfl⟩ conrecord_writer_keep_9cd (fun a b => (b.1.2.1, b.2.1.1, b.2.1.2.1)) none (fun _ _ => rfl) rfl (fun _ _ h => nomatch h) 1000000 (fn := Tryz.f137) Tryz.func137 rfl (by kernel_rfl) (by kernel_rfl) rfl (by intro N a b; kernel_rfl)
structure Srecord_writer_small_299x1 where
  t8 : Int
  b0 : Int
  b1 : Bool
  b12 : List (Int)
def tsrecord_writer_small_299x1 : List Sl := [.k, .k, .k, .k, .k, .j, .k, .k, .sh (.ty 2), .j, .j, .j, .j, .j, .j, .j, .j, .j, .j, .j, .j]
def hsrecord_writer_small_299x1 : List ESh := [.box (.agg [.ptr 1 [], .ty 2]), .box (.agg [.ty 4, .own 5 3]), .dead, .tail]
def torecord_writer_small_299x1 (a : Sl.Ts τ tsrecord_writer_small_299x1) (b : ESh.Ts τ hsrecord_writer_small_299x1) : Srecord_writer_small_299x1 := ⟨a.2.2.2.2.2.2.2.2.1, b.1.2.1, b.2.1.1, b.2.1.2.1⟩
def otrecord_writer_small_299x1 (s : Srecord_writer_small_299x1) : Sl.Ts τ tsrecord_writer_small_299x1 := ((), (), (), (), (), (), (), (), s.t8, (), (), (), (), (), (), (), (), (), (), (), (), ())
def ohrecord_writer_small_299x1 (s : Srecord_writer_small_299x1) : ESh.Ts τ hsrecord_writer_small_299x1 := (((), s.b0, ()), (s.b1, s.b12, ()), (), (), ())
def lprecord_writer_small_299x1 : Lp τ := { ts := tsrecord_writer_small_299x1, hs := hsrecord_writer_small_299x1, S := Srecord_writer_small_299x1, to := torecord_writer_small_299x1, ot := otrecord_writer_small_299x1, oh := ohrecord_writer_small_299x1, hk := [2, 2, 5], tk := [2], ot_to := fun _ _ => rfl, oh_to := fun _ _ => rfl }
def Frecord_writer_small_299 (N : Nat) (l : List (Int)) (b0 : Int) (b1 : Bool) (b12 : List (Int)) : Option (Int × Bool × (List (Int))) :=
 (iter N (fun (s1 : Srecord_writer_small_299x1) next2 =>
 (bif (decide (s1.t8 < ((l).length : Int))) then
 (bif (ibB s1.t8 ((l).length : Int)) then
 ((Fwire_Writer_Int_816 N (lget l s1.t8 default) s1.b1 s1.b12).bind fun r3 =>
 ((Frecord_writer_keep_9cd N r3.1 s1.b0 r3.2.1 r3.2.2).bind fun r4 =>
 (next2 ⟨(IntKind.i64.wrap (s1.t8 + 1)), r4.1, r4.2.1, r4.2.2⟩)))
 else none)
 else
 (some (s1.b0, s1.b1, s1.b12)))) ⟨0, b0, b1, b12⟩)
def conrecord_writer_small_299 : Con τ := { args := [.ptr 0 [], .ty 145], L := [.box (.agg [.ptr 1 [], .ty 35]), .box (.agg [.ty 4, .own 5 2]), .tail], ret := .tup [], L' := [.box (.agg [.ptr 1 [], .ty 35]), .box (.agg [.ty 4, .own 5 3]), .dead, .tail], R := Int × Bool × (List (Int)), dflt := (default, default, default), F := fun N a b => Frecord_writer_small_299 N a.2.1 b.1.2.1 b.2.1.1 b.2.1.2.1, of := fun r => ((), (((), r.1, ()), (r.2.1, r.2.2, ()), (), (), ())) }
noncomputable def datrecord_writer_small_299 : Dat τ := { D := D0, tbl := tblOf [(88, conwire_Writer_Int_816), (137, conrecord_writer_keep_9cd)], lp := lpsOf [(1, lprecord_writer_small_299x1)], k0 := 3, mu := [], un := [] }
theorem okrecord_writer_small_299 : ConOk E C 93 conrecord_writer_small_299 :=
  con_ok (D := datrecord_writer_small_299) ⟨d0Ok, eGood, tblOf_ok ⟨okwire_Writer_Int_816, ⟨okrecord_writer_keep_9cd, trivial⟩⟩, fun _ => rfl⟩ conrecord_writer_small_299 (fun a b => (b.1.2.1, b.2.1.1, b.2.1.2.1)) none (fun _ _ => rfl) rfl (fun _ _ h => nomatch h) 1000000 (fn := Tryz.f93) Tryz.func93 rfl (by kernel_rfl) (by kernel_rfl) rfl (by intro N a b; kernel_rfl)
structure Srecord_writer_ints_573x1 where
  t8 : Int
  b0 : Int
  b1 : Bool
  b12 : List (Int)
def tsrecord_writer_ints_573x1 : List Sl := [.k, .k, .k, .k, .k, .j, .k, .k, .sh (.ty 2), .j, .j, .j, .j, .j, .j, .j, .j, .j, .j, .j, .j]
def hsrecord_writer_ints_573x1 : List ESh := [.box (.agg [.ptr 1 [], .ty 2]), .box (.agg [.ty 4, .own 5 3]), .dead, .tail]
def torecord_writer_ints_573x1 (a : Sl.Ts τ tsrecord_writer_ints_573x1) (b : ESh.Ts τ hsrecord_writer_ints_573x1) : Srecord_writer_ints_573x1 := ⟨a.2.2.2.2.2.2.2.2.1, b.1.2.1, b.2.1.1, b.2.1.2.1⟩
def otrecord_writer_ints_573x1 (s : Srecord_writer_ints_573x1) : Sl.Ts τ tsrecord_writer_ints_573x1 := ((), (), (), (), (), (), (), (), s.t8, (), (), (), (), (), (), (), (), (), (), (), (), ())
def ohrecord_writer_ints_573x1 (s : Srecord_writer_ints_573x1) : ESh.Ts τ hsrecord_writer_ints_573x1 := (((), s.b0, ()), (s.b1, s.b12, ()), (), (), ())
def lprecord_writer_ints_573x1 : Lp τ := { ts := tsrecord_writer_ints_573x1, hs := hsrecord_writer_ints_573x1, S := Srecord_writer_ints_573x1, to := torecord_writer_ints_573x1, ot := otrecord_writer_ints_573x1, oh := ohrecord_writer_ints_573x1, hk := [2, 2, 5], tk := [2], ot_to := fun _ _ => rfl, oh_to := fun _ _ => rfl }
def Frecord_writer_ints_573 (N : Nat) (l : List (Int)) (b0 : Int) (b1 : Bool) (b12 : List (Int)) : Option (Int × Bool × (List (Int))) :=
 (iter N (fun (s1 : Srecord_writer_ints_573x1) next2 =>
 (bif (decide (s1.t8 < ((l).length : Int))) then
 (bif (ibB s1.t8 ((l).length : Int)) then
 ((Fwire_Writer_Int_816 N (lget l s1.t8 default) s1.b1 s1.b12).bind fun r3 =>
 ((Frecord_writer_keep_9cd N r3.1 s1.b0 r3.2.1 r3.2.2).bind fun r4 =>
 (next2 ⟨(IntKind.i64.wrap (s1.t8 + 1)), r4.1, r4.2.1, r4.2.2⟩)))
 else none)
 else
 (some (s1.b0, s1.b1, s1.b12)))) ⟨0, b0, b1, b12⟩)
def conrecord_writer_ints_573 : Con τ := { args := [.ptr 0 [], .ty 143], L := [.box (.agg [.ptr 1 [], .ty 35]), .box (.agg [.ty 4, .own 5 2]), .tail], ret := .tup [], L' := [.box (.agg [.ptr 1 [], .ty 35]), .box (.agg [.ty 4, .own 5 3]), .dead, .tail], R := Int × Bool × (List (Int)), dflt := (default, default, default), F := fun N a b => Frecord_writer_ints_573 N a.2.1 b.1.2.1 b.2.1.1 b.2.1.2.1, of := fun r => ((), (((), r.1, ()), (r.2.1, r.2.2, ()), (), (), ())) }
noncomputable def datrecord_writer_ints_573 : Dat τ := { D := D0, tbl := tblOf [(88, conwire_Writer_Int_816), (137, conrecord_writer_keep_9cd)], lp := lpsOf [(1, lprecord_writer_ints_573x1)], k0 := 3, mu := [], un := [] }
theorem okrecord_writer_ints_573 : ConOk E C 92 conrecord_writer_ints_573 :=
  con_ok (D := datrecord_writer_ints_573) ⟨d0Ok, eGood, tblOf_ok ⟨okwire_Writer_Int_816, ⟨okrecord_writer_keep_9cd, trivial⟩⟩, fun _ => rfl⟩ conrecord_writer_ints_573 (fun a b => (b.1.2.1, b.2.1.1, b.2.1.2.1)) none (fun _ _ => rfl) rfl (fun _ _ h => nomatch h) 1000000 (fn := Tryz.f92) Tryz.func92 rfl (by kernel_rfl) (by kernel_rfl) rfl (by intro N a b; kernel_rfl)
def Fwire_Writer_Bytes_eea (N : Nat) (b : List (Int)) (b0 : Bool) (b02 : List (Int)) : Option (Int × Bool × (List (Int))) :=
 ((Fwire_number N ((b).length : Int)).bind fun r1 =>
 ((Fwire_Writer_put_867 N [r1, b] b0 b02).bind fun r2 =>
 (some (r2.1, r2.2.1, r2.2.2))))
def conwire_Writer_Bytes_eea : Con τ := { args := [.ptr 0 [], .ty 31], L := [.box (.agg [.ty 4, .own 5 1]), .tail], ret := .ty 35, L' := [.box (.agg [.ty 4, .own 5 2]), .dead, .tail], R := Int × Bool × (List (Int)), dflt := (default, default, default), F := fun N a b => Fwire_Writer_Bytes_eea N a.2.1 b.1.1 b.1.2.1, of := fun r => (r.1, ((r.2.1, r.2.2, ()), (), (), ())) }
noncomputable def datwire_Writer_Bytes_eea : Dat τ := { D := D0, tbl := tblOf [(123, conwire_number), (134, conwire_Writer_put_867)], lp := lpsOf [], k0 := 2, mu := [], un := [] }
theorem okwire_Writer_Bytes_eea : ConOk E C 146 conwire_Writer_Bytes_eea :=
  con_ok (D := datwire_Writer_Bytes_eea) ⟨d0Ok, eGood, tblOf_ok ⟨okwire_number, ⟨okwire_Writer_put_867, trivial⟩⟩, fun _ => rfl⟩ conwire_Writer_Bytes_eea (fun a b => (a, b.1.1, b.1.2.1)) none (fun _ _ => rfl) rfl (fun _ _ h => nomatch h) 1000000 (fn := Tryz.f146) Tryz.func146 rfl (by kernel_rfl) (by kernel_rfl) rfl (by intro N a b; kernel_rfl)
def Fwire_Writer_Text_caa (N : Nat) (s : List UInt8) (b0 : Bool) (b02 : List (Int)) : Option (Int × Bool × (List (Int))) :=
 ((Fwire_Writer_Bytes_eea N (bytesI s) b0 b02).bind fun r1 =>
 (some (r1.1, r1.2.1, r1.2.2)))
def conwire_Writer_Text_caa : Con τ := { args := [.ptr 0 [], .ty 9], L := [.box (.agg [.ty 4, .own 5 1]), .tail], ret := .ty 35, L' := [.box (.agg [.ty 4, .own 5 2]), .dead, .tail], R := Int × Bool × (List (Int)), dflt := (default, default, default), F := fun N a b => Fwire_Writer_Text_caa N a.2.1 b.1.1 b.1.2.1, of := fun r => (r.1, ((r.2.1, r.2.2, ()), (), (), ())) }
noncomputable def datwire_Writer_Text_caa : Dat τ := { D := D0, tbl := tblOf [(146, conwire_Writer_Bytes_eea)], lp := lpsOf [], k0 := 2, mu := [], un := [] }
theorem okwire_Writer_Text_caa : ConOk E C 138 conwire_Writer_Text_caa :=
  con_ok (D := datwire_Writer_Text_caa) ⟨d0Ok, eGood, tblOf_ok ⟨okwire_Writer_Bytes_eea, trivial⟩, fun _ => rfl⟩ conwire_Writer_Text_caa (fun a b => (a, b.1.1, b.1.2.1)) none (fun _ _ => rfl) rfl (fun _ _ h => nomatch h) 1000000 (fn := Tryz.f138) Tryz.func138 rfl (by kernel_rfl) (by kernel_rfl) rfl (by intro N a b; kernel_rfl)
structure Srecord_writer_texts_53dx1 where
  t8 : Int
  b0 : Int
  b1 : Bool
  b12 : List (Int)
def tsrecord_writer_texts_53dx1 : List Sl := [.k, .k, .k, .k, .k, .j, .k, .k, .sh (.ty 2), .j, .j, .j, .j, .j, .j, .j, .j, .j, .j, .j, .j]
def hsrecord_writer_texts_53dx1 : List ESh := [.box (.agg [.ptr 1 [], .ty 2]), .box (.agg [.ty 4, .own 5 3]), .dead, .tail]
def torecord_writer_texts_53dx1 (a : Sl.Ts τ tsrecord_writer_texts_53dx1) (b : ESh.Ts τ hsrecord_writer_texts_53dx1) : Srecord_writer_texts_53dx1 := ⟨a.2.2.2.2.2.2.2.2.1, b.1.2.1, b.2.1.1, b.2.1.2.1⟩
def otrecord_writer_texts_53dx1 (s : Srecord_writer_texts_53dx1) : Sl.Ts τ tsrecord_writer_texts_53dx1 := ((), (), (), (), (), (), (), (), s.t8, (), (), (), (), (), (), (), (), (), (), (), (), ())
def ohrecord_writer_texts_53dx1 (s : Srecord_writer_texts_53dx1) : ESh.Ts τ hsrecord_writer_texts_53dx1 := (((), s.b0, ()), (s.b1, s.b12, ()), (), (), ())
def lprecord_writer_texts_53dx1 : Lp τ := { ts := tsrecord_writer_texts_53dx1, hs := hsrecord_writer_texts_53dx1, S := Srecord_writer_texts_53dx1, to := torecord_writer_texts_53dx1, ot := otrecord_writer_texts_53dx1, oh := ohrecord_writer_texts_53dx1, hk := [2, 2, 5], tk := [2], ot_to := fun _ _ => rfl, oh_to := fun _ _ => rfl }
def Frecord_writer_texts_53d (N : Nat) (l : List (List UInt8)) (b0 : Int) (b1 : Bool) (b12 : List (Int)) : Option (Int × Bool × (List (Int))) :=
 (iter N (fun (s1 : Srecord_writer_texts_53dx1) next2 =>
 (bif (decide (s1.t8 < ((l).length : Int))) then
 (bif (ibB s1.t8 ((l).length : Int)) then
 ((Fwire_Writer_Text_caa N (lget l s1.t8 default) s1.b1 s1.b12).bind fun r3 =>
 ((Frecord_writer_keep_9cd N r3.1 s1.b0 r3.2.1 r3.2.2).bind fun r4 =>
 (next2 ⟨(IntKind.i64.wrap (s1.t8 + 1)), r4.1, r4.2.1, r4.2.2⟩)))
 else none)
 else
 (some (s1.b0, s1.b1, s1.b12)))) ⟨0, b0, b1, b12⟩)
def conrecord_writer_texts_53d : Con τ := { args := [.ptr 0 [], .ty 181], L := [.box (.agg [.ptr 1 [], .ty 35]), .box (.agg [.ty 4, .own 5 2]), .tail], ret := .tup [], L' := [.box (.agg [.ptr 1 [], .ty 35]), .box (.agg [.ty 4, .own 5 3]), .dead, .tail], R := Int × Bool × (List (Int)), dflt := (default, default, default), F := fun N a b => Frecord_writer_texts_53d N a.2.1 b.1.2.1 b.2.1.1 b.2.1.2.1, of := fun r => ((), (((), r.1, ()), (r.2.1, r.2.2, ()), (), (), ())) }
noncomputable def datrecord_writer_texts_53d : Dat τ := { D := D0, tbl := tblOf [(138, conwire_Writer_Text_caa), (137, conrecord_writer_keep_9cd)], lp := lpsOf [(1, lprecord_writer_texts_53dx1)], k0 := 3, mu := [], un := [] }
theorem okrecord_writer_texts_53d : ConOk E C 94 conrecord_writer_texts_53d :=
  con_ok (D := datrecord_writer_texts_53d) ⟨d0Ok, eGood, tblOf_ok ⟨okwire_Writer_Text_caa, ⟨okrecord_writer_keep_9cd, trivial⟩⟩, fun _ => rfl⟩ conrecord_writer_texts_53d (fun a b => (b.1.2.1, b.2.1.1, b.2.1.2.1)) none (fun _ _ => rfl) rfl (fun _ _ h => nomatch h) 1000000 (fn := Tryz.f94) Tryz.func94 rfl (by kernel_rfl) (by kernel_rfl) rfl (by intro N a b; kernel_rfl)
def Frecord_writer_op_e6d (N : Nat) (op : GOp) (b0 : Int) (b1 : Bool) (b12 : List (Int)) : Option (Int × Bool × (List (Int))) :=
 ((Frecord_writer_ints_573 N [op.Stamp.Time] b0 b1 b12).bind fun r1 =>
 ((Frecord_writer_small_299 N [op.Stamp.Site, op.Kind] r1.1 r1.2.1 r1.2.2).bind fun r2 =>
 ((Frecord_writer_ints_573 N [op.Node, op.Parent] r2.1 r2.2.1 r2.2.2).bind fun r3 =>
 ((Frecord_writer_texts_53d N [op.Name, op.Key, op.Value] r3.1 r3.2.1 r3.2.2).bind fun r4 =>
 (some (r4.1, r4.2.1, r4.2.2))))))
def conrecord_writer_op_e6d : Con τ := { args := [.ptr 0 [], .ty 25], L := [.box (.agg [.ptr 1 [], .ty 35]), .box (.agg [.ty 4, .own 5 2]), .tail], ret := .tup [], L' := [.box (.agg [.ptr 1 [], .ty 35]), .box (.agg [.ty 4, .own 5 3]), .dead, .tail], R := Int × Bool × (List (Int)), dflt := (default, default, default), F := fun N a b => Frecord_writer_op_e6d N a.2.1 b.1.2.1 b.2.1.1 b.2.1.2.1, of := fun r => ((), (((), r.1, ()), (r.2.1, r.2.2, ()), (), (), ())) }
noncomputable def datrecord_writer_op_e6d : Dat τ := { D := D0, tbl := tblOf [(92, conrecord_writer_ints_573), (93, conrecord_writer_small_299), (94, conrecord_writer_texts_53d)], lp := lpsOf [], k0 := 3, mu := [], un := [] }
theorem okrecord_writer_op_e6d : ConOk E C 40 conrecord_writer_op_e6d :=
  con_ok (D := datrecord_writer_op_e6d) ⟨d0Ok, eGood, tblOf_ok ⟨okrecord_writer_ints_573, ⟨okrecord_writer_small_299, ⟨okrecord_writer_texts_53d, trivial⟩⟩⟩, fun _ => rfl⟩ conrecord_writer_op_e6d (fun a b => (b.1.2.1, b.2.1.1, b.2.1.2.1)) none (fun _ _ => rfl) rfl (fun _ _ h => nomatch h) 1000000 (fn := Tryz.f40) Tryz.func40 rfl (by kernel_rfl) (by kernel_rfl) rfl (by intro N a b; kernel_rfl)
structure Srecord_writer_ops_cafx2 where
  t13 : Int
  b0 : Int
  b1 : Bool
  b12 : List (Int)
def tsrecord_writer_ops_cafx2 : List Sl := [.k, .k, .k, .k, .k, .j, .k, .k, .k, .k, .k, .k, .k, .sh (.ty 2), .j, .j, .j, .j, .j, .j, .j]
def hsrecord_writer_ops_cafx2 : List ESh := [.box (.agg [.ptr 1 [], .ty 2]), .box (.agg [.ty 4, .own 5 4]), .keep, .dead, .tail]
def torecord_writer_ops_cafx2 (a : Sl.Ts τ tsrecord_writer_ops_cafx2) (b : ESh.Ts τ hsrecord_writer_ops_cafx2) : Srecord_writer_ops_cafx2 := ⟨a.2.2.2.2.2.2.2.2.2.2.2.2.2.1, b.1.2.1, b.2.1.1, b.2.1.2.1⟩
def otrecord_writer_ops_cafx2 (s : Srecord_writer_ops_cafx2) : Sl.Ts τ tsrecord_writer_ops_cafx2 := ((), (), (), (), (), (), (), (), (), (), (), (), (), s.t13, (), (), (), (), (), (), (), ())
def ohrecord_writer_ops_cafx2 (s : Srecord_writer_ops_cafx2) : ESh.Ts τ hsrecord_writer_ops_cafx2 := (((), s.b0, ()), (s.b1, s.b12, ()), (), (), (), ())
def lprecord_writer_ops_cafx2 : Lp τ := { ts := tsrecord_writer_ops_cafx2, hs := hsrecord_writer_ops_cafx2, S := Srecord_writer_ops_cafx2, to := torecord_writer_ops_cafx2, ot := otrecord_writer_ops_cafx2, oh := ohrecord_writer_ops_cafx2, hk := [2, 2, 1, 5], tk := [2, 0, 0, 0, 0, 0, 2], ot_to := fun _ _ => rfl, oh_to := fun _ _ => rfl }
def Frecord_writer_ops_caf (N : Nat) (l : List (GOp)) (b0 : Int) (b1 : Bool) (b12 : List (Int)) : Option (Int × Bool × (List (Int))) :=
 ((Frecord_writer_small_299 N [((l).length : Int)] b0 b1 b12).bind fun r1 =>
 (iter N (fun (s2 : Srecord_writer_ops_cafx2) next3 =>
 (bif (decide (s2.t13 < ((l).length : Int))) then
 (bif (ibB s2.t13 ((l).length : Int)) then
 ((Frecord_writer_op_e6d N (⟨((lget l s2.t13 default).Stamp), (lget l s2.t13 default).Kind, (lget l s2.t13 default).Node, (lget l s2.t13 default).Parent, (lget l s2.t13 default).Name, (lget l s2.t13 default).Key, (lget l s2.t13 default).Value⟩ : GOp) s2.b0 s2.b1 s2.b12).bind fun r4 =>
 (next3 ⟨(IntKind.i64.wrap (s2.t13 + 1)), r4.1, r4.2.1, r4.2.2⟩))
 else none)
 else
 (some (s2.b0, s2.b1, s2.b12)))) ⟨0, r1.1, r1.2.1, r1.2.2⟩))
def conrecord_writer_ops_caf : Con τ := { args := [.ptr 0 [], .ty 60], L := [.box (.agg [.ptr 1 [], .ty 35]), .box (.agg [.ty 4, .own 5 2]), .tail], ret := .tup [], L' := [.box (.agg [.ptr 1 [], .ty 35]), .box (.agg [.ty 4, .own 5 3]), .dead, .tail], R := Int × Bool × (List (Int)), dflt := (default, default, default), F := fun N a b => Frecord_writer_ops_caf N a.2.1 b.1.2.1 b.2.1.1 b.2.1.2.1, of := fun r => ((), (((), r.1, ()), (r.2.1, r.2.2, ()), (), (), ())) }
noncomputable def datrecord_writer_ops_caf : Dat τ := { D := D0, tbl := tblOf [(93, conrecord_writer_small_299), (40, conrecord_writer_op_e6d)], lp := lpsOf [(2, lprecord_writer_ops_cafx2)], k0 := 3, mu := [], un := [] }
theorem okrecord_writer_ops_caf : ConOk E C 111 conrecord_writer_ops_caf :=
  con_ok (D := datrecord_writer_ops_caf) ⟨d0Ok, eGood, tblOf_ok ⟨okrecord_writer_small_299, ⟨okrecord_writer_op_e6d, trivial⟩⟩, fun _ => rfl⟩ conrecord_writer_ops_caf (fun a b => (b.1.2.1, b.2.1.1, b.2.1.2.1)) none (fun _ _ => rfl) rfl (fun _ _ h => nomatch h) 1000000 (fn := Tryz.f111) Tryz.func111 rfl (by kernel_rfl) (by kernel_rfl) rfl (by intro N a b; kernel_rfl)
def Frecord_writer_epoch_b53 (N : Nat) (e : GEpoch) (b0 : Int) (b1 : Bool) (b12 : List (Int)) : Option (Int × Bool × (List (Int))) :=
 ((Frecord_writer_ints_573 N [e.Number] b0 b1 b12).bind fun r1 =>
 ((Frecord_writer_small_299 N (e.States.toList) r1.1 r1.2.1 r1.2.2).bind fun r2 =>
 ((Frecord_writer_ints_573 N (e.Seals.toList) r2.1 r2.2.1 r2.2.2).bind fun r3 =>
 ((Frecord_writer_small_299 N (e.Sponsor.toList) r3.1 r3.2.1 r3.2.2).bind fun r4 =>
 (some (r4.1, r4.2.1, r4.2.2))))))
def conrecord_writer_epoch_b53 : Con τ := { args := [.ptr 0 [], .ty 30], L := [.box (.agg [.ptr 1 [], .ty 35]), .box (.agg [.ty 4, .own 5 2]), .tail], ret := .tup [], L' := [.box (.agg [.ptr 1 [], .ty 35]), .box (.agg [.ty 4, .own 5 3]), .dead, .tail], R := Int × Bool × (List (Int)), dflt := (default, default, default), F := fun N a b => Frecord_writer_epoch_b53 N a.2.1 b.1.2.1 b.2.1.1 b.2.1.2.1, of := fun r => ((), (((), r.1, ()), (r.2.1, r.2.2, ()), (), (), ())) }
noncomputable def datrecord_writer_epoch_b53 : Dat τ := { D := D0, tbl := tblOf [(92, conrecord_writer_ints_573), (93, conrecord_writer_small_299)], lp := lpsOf [], k0 := 3, mu := [], un := [] }
theorem okrecord_writer_epoch_b53 : ConOk E C 46 conrecord_writer_epoch_b53 :=
  con_ok (D := datrecord_writer_epoch_b53) ⟨d0Ok, eGood, tblOf_ok ⟨okrecord_writer_ints_573, ⟨okrecord_writer_small_299, trivial⟩⟩, fun _ => rfl⟩ conrecord_writer_epoch_b53 (fun a b => (b.1.2.1, b.2.1.1, b.2.1.2.1)) none (fun _ _ => rfl) rfl (fun _ _ h => nomatch h) 1000000 (fn := Tryz.f46) Tryz.func46 rfl (by kernel_rfl) (by kernel_rfl) rfl (by intro N a b; kernel_rfl)
def Frecord_writer_part_317 (N : Nat) (p : GPart) (b0 : Int) (b1 : Bool) (b12 : List (Int)) : Option (Int × Bool × (List (Int))) :=
 ((Frecord_writer_ints_573 N [p.Snap] b0 b1 b12).bind fun r1 =>
 ((Frecord_writer_small_299 N [p.Index, p.Many] r1.1 r1.2.1 r1.2.2).bind fun r2 =>
 ((Fwire_Writer_Bytes_eea N p.Data r2.2.1 r2.2.2).bind fun r3 =>
 ((Frecord_writer_keep_9cd N r3.1 r2.1 r3.2.1 r3.2.2).bind fun r4 =>
 (some (r4.1, r4.2.1, r4.2.2))))))
def conrecord_writer_part_317 : Con τ := { args := [.ptr 0 [], .ty 62], L := [.box (.agg [.ptr 1 [], .ty 35]), .box (.agg [.ty 4, .own 5 2]), .tail], ret := .tup [], L' := [.box (.agg [.ptr 1 [], .ty 35]), .box (.agg [.ty 4, .own 5 3]), .dead, .tail], R := Int × Bool × (List (Int)), dflt := (default, default, default), F := fun N a b => Frecord_writer_part_317 N a.2.1 b.1.2.1 b.2.1.1 b.2.1.2.1, of := fun r => ((), (((), r.1, ()), (r.2.1, r.2.2, ()), (), (), ())) }
noncomputable def datrecord_writer_part_317 : Dat τ := { D := D0, tbl := tblOf [(92, conrecord_writer_ints_573), (93, conrecord_writer_small_299), (146, conwire_Writer_Bytes_eea), (137, conrecord_writer_keep_9cd)], lp := lpsOf [], k0 := 3, mu := [], un := [] }
theorem okrecord_writer_part_317 : ConOk E C 112 conrecord_writer_part_317 :=
  con_ok (D := datrecord_writer_part_317) ⟨d0Ok, eGood, tblOf_ok ⟨okrecord_writer_ints_573, ⟨okrecord_writer_small_299, ⟨okwire_Writer_Bytes_eea, ⟨okrecord_writer_keep_9cd, trivial⟩⟩⟩⟩, fun _ => rfl⟩ conrecord_writer_part_317 (fun a b => (b.1.2.1, b.2.1.1, b.2.1.2.1)) none (fun _ _ => rfl) rfl (fun _ _ h => nomatch h) 1000000 (fn := Tryz.f112) Tryz.func112 rfl (by kernel_rfl) (by kernel_rfl) rfl (by intro N a b; kernel_rfl)
def Frecord_writer_entry_c03 (N : Nat) (e : GEntry) (b0 : Int) (b1 : Bool) (b12 : List (Int)) : Option (Int × Bool × (List (Int))) :=
 ((Frecord_writer_small_299 N [e.Kind] b0 b1 b12).bind fun r1 =>
 (bif (e.Kind == 1) then
 ((Frecord_writer_ints_573 N [e.Session, e.Request] r1.1 r1.2.1 r1.2.2).bind fun r2 =>
 ((Frecord_writer_op_e6d N e.Op r2.1 r2.2.1 r2.2.2).bind fun r3 =>
 (some (r3.1, r3.2.1, r3.2.2))))
 else
 (bif (e.Kind == 2) then
 ((Frecord_writer_small_299 N [e.Origin] r1.1 r1.2.1 r1.2.2).bind fun r4 =>
 ((Frecord_writer_ints_573 N [e.Seq] r4.1 r4.2.1 r4.2.2).bind fun r5 =>
 ((Frecord_writer_ops_caf N e.Ops r5.1 r5.2.1 r5.2.2).bind fun r6 =>
 (some (r6.1, r6.2.1, r6.2.2)))))
 else
 (bif (e.Kind == 3) then
 ((Frecord_writer_epoch_b53 N e.Epoch r1.1 r1.2.1 r1.2.2).bind fun r7 =>
 (some (r7.1, r7.2.1, r7.2.2)))
 else
 (bif (e.Kind == 4) then
 ((Frecord_writer_ints_573 N [e.Seq] r1.1 r1.2.1 r1.2.2).bind fun r8 =>
 ((Frecord_writer_small_299 N [e.From] r8.1 r8.2.1 r8.2.2).bind fun r9 =>
 ((Frecord_writer_ints_573 N (e.Vector_.toList) r9.1 r9.2.1 r9.2.2).bind fun r10 =>
 ((Frecord_writer_ints_573 N [e.Clock] r10.1 r10.2.1 r10.2.2).bind fun r11 =>
 (some (r11.1, r11.2.1, r11.2.2))))))
 else
 (bif (e.Kind == 5) then
 ((Frecord_writer_part_317 N e.Part r1.1 r1.2.1 r1.2.2).bind fun r12 =>
 (some (r12.1, r12.2.1, r12.2.2)))
 else
 (bif (e.Kind == 6) then
 ((Frecord_writer_small_299 N [e.Site, e.Sponsor] r1.1 r1.2.1 r1.2.2).bind fun r13 =>
 (some (r13.1, r13.2.1, r13.2.2)))
 else
 (bif (e.Kind == 7) then
 ((Frecord_writer_small_299 N [e.Site] r1.1 r1.2.1 r1.2.2).bind fun r14 =>
 (some (r14.1, r14.2.1, r14.2.2)))
 else
 (bif (e.Kind == 8) then
 ((Frecord_writer_small_299 N [e.Site] r1.1 r1.2.1 r1.2.2).bind fun r15 =>
 ((Frecord_writer_ints_573 N [e.Length] r15.1 r15.2.1 r15.2.2).bind fun r16 =>
 (some (r16.1, r16.2.1, r16.2.2))))
 else
 (some (r1.1, r1.2.1, r1.2.2)))))))))))
def conrecord_writer_entry_c03 : Con τ := { args := [.ptr 0 [], .ty 64], L := [.box (.agg [.ptr 1 [], .ty 35]), .box (.agg [.ty 4, .own 5 2]), .tail], ret := .tup [], L' := [.box (.agg [.ptr 1 [], .ty 35]), .box (.agg [.ty 4, .own 5 3]), .dead, .tail], R := Int × Bool × (List (Int)), dflt := (default, default, default), F := fun N a b => Frecord_writer_entry_c03 N a.2.1 b.1.2.1 b.2.1.1 b.2.1.2.1, of := fun r => ((), (((), r.1, ()), (r.2.1, r.2.2, ()), (), (), ())) }
noncomputable def datrecord_writer_entry_c03 : Dat τ := { D := D0, tbl := tblOf [(93, conrecord_writer_small_299), (92, conrecord_writer_ints_573), (40, conrecord_writer_op_e6d), (111, conrecord_writer_ops_caf), (46, conrecord_writer_epoch_b53), (112, conrecord_writer_part_317)], lp := lpsOf [], k0 := 3, mu := [], un := [] }
theorem okrecord_writer_entry_c03 : ConOk E C 65 conrecord_writer_entry_c03 :=
  con_ok (D := datrecord_writer_entry_c03) ⟨d0Ok, eGood, tblOf_ok ⟨okrecord_writer_small_299, ⟨okrecord_writer_ints_573, ⟨okrecord_writer_op_e6d, ⟨okrecord_writer_ops_caf, ⟨okrecord_writer_epoch_b53, ⟨okrecord_writer_part_317, trivial⟩⟩⟩⟩⟩⟩, fun _ => rfl⟩ conrecord_writer_entry_c03 (fun a b => (b.1.2.1, b.2.1.1, b.2.1.2.1)) none (fun _ _ => rfl) rfl (fun _ _ h => nomatch h) 1000000 (fn := Tryz.f65) Tryz.func65 rfl (by kernel_rfl) (by kernel_rfl) rfl (by intro N a b; kernel_rfl)
def Fslices_Clone_byte_c35 (N : Nat) (s : List (Int)) : Option ((List (Int))) :=
 (bif (lenB (0 + (s).length) 1) then
 (some ([] ++ s))
 else none)
def conslices_Clone_byte_c35 : Con τ := { args := [.nn 5], L := [], ret := .ty 31, L' := [], R := (List (Int)), dflt := default, F := fun N a b => Fslices_Clone_byte_c35 N a.1, of := fun r => (r, ()) }
noncomputable def datslices_Clone_byte_c35 : Dat τ := { D := D0, tbl := tblOf [], lp := lpsOf [], k0 := 0, mu := [], un := [] }
theorem okslices_Clone_byte_c35 : ConOk E C 49 conslices_Clone_byte_c35 :=
  con_ok (D := datslices_Clone_byte_c35) ⟨d0Ok, eGood, tblOf_ok trivial, fun _ => rfl⟩ conslices_Clone_byte_c35 (fun a b => a) none (fun _ _ => rfl) rfl (fun _ _ h => nomatch h) 1000000 (fn := Tryz.f49) Tryz.func49 rfl (by kernel_rfl) (by kernel_rfl) rfl (by intro N a b; kernel_rfl)
def Fslices_Clone_byte_932 (N : Nat)  : Option ((List (Int))) :=
 (some [])
def conslices_Clone_byte_932 : Con τ := { args := [.nil .slice], L := [], ret := .ty 31, L' := [], R := (List (Int)), dflt := default, F := fun N a b => Fslices_Clone_byte_932 N , of := fun r => (r, ()) }
noncomputable def datslices_Clone_byte_932 : Dat τ := { D := D0, tbl := tblOf [], lp := lpsOf [], k0 := 0, mu := [], un := [] }
theorem okslices_Clone_byte_932 : ConOk E C 49 conslices_Clone_byte_932 :=
  con_ok (D := datslices_Clone_byte_932) ⟨d0Ok, eGood, tblOf_ok trivial, fun _ => rfl⟩ conslices_Clone_byte_932 (fun a b => a) none (fun _ _ => rfl) rfl (fun _ _ h => nomatch h) 1000000 (fn := Tryz.f49) Tryz.func49 rfl (by kernel_rfl) (by kernel_rfl) rfl (by intro N a b; kernel_rfl)
def Fslices_Clone_byte (N : Nat) (s : List (Int)) : Option ((List (Int))) := Fslices_Clone_byte_c35 N s
def conslices_Clone_byte : Con τ := { args := [.ty 31], L := [], ret := .ty 31, L' := [], R := (List (Int)), dflt := default, F := fun N a b => Fslices_Clone_byte N a.1, of := fun r => (r, ()) }
theorem okslices_Clone_byte : ConOk E C 49 conslices_Clone_byte := by
  intro N a b r h
  obtain ⟨x0, u⟩ := a
  refine FnSpec.split (pre := []) (post := []) (fun h0 => ?_) (okslices_Clone_byte_c35 N (x0, u) b r h)
  have h0 : x0 = [] := List.map_eq_nil_iff.1 h0
  subst h0
  exact okslices_Clone_byte_932 N ((), u) b r ((show conslices_Clone_byte_932.F N ((), u) b = conslices_Clone_byte.F N ([], u) b from by kernel_rfl).trans h)
def Fwire_Writer_Out_052 (N : Nat) (b0 : Bool) (b02 : List (Int)) : Option ((List (Int)) × Bool × (List (Int))) :=
 ((Fwire_Writer_none_052 N b0 b02).bind fun r1 =>
 (bif r1.1 then
 (some ([], r1.2.1, r1.2.2))
 else
 ((Fslices_Clone_byte N r1.2.2).bind fun r2 =>
 (some (r2, r1.2.1, r1.2.2)))))
def conwire_Writer_Out_052 : Con τ := { args := [.ptr 0 []], L := [.box (.agg [.ty 4, .own 5 1]), .tail], ret := .ty 31, L' := [.box (.agg [.ty 4, .own 5 1]), .tail], R := (List (Int)) × Bool × (List (Int)), dflt := (default, default, default), F := fun N a b => Fwire_Writer_Out_052 N b.1.1 b.1.2.1, of := fun r => (r.1, ((r.2.1, r.2.2, ()), (), ())) }
noncomputable def datwire_Writer_Out_052 : Dat τ := { D := D0, tbl := tblOf [(48, conwire_Writer_none_052), (49, conslices_Clone_byte)], lp := lpsOf [], k0 := 2, mu := [], un := [] }
theorem okwire_Writer_Out_052 : ConOk E C 16 conwire_Writer_Out_052 :=
  con_ok (D := datwire_Writer_Out_052) ⟨d0Ok, eGood, tblOf_ok ⟨okwire_Writer_none_052, ⟨okslices_Clone_byte, trivial⟩⟩, fun _ => rfl⟩ conwire_Writer_Out_052 (fun a b => (a, b.1.1, b.1.2.1)) none (fun _ _ => rfl) rfl (fun _ _ h => nomatch h) 1000000 (fn := Tryz.f16) Tryz.func16 rfl (by kernel_rfl) (by kernel_rfl) rfl (by intro N a b; kernel_rfl)
def Frecord_Entry (N : Nat) (e : GEntry) : Option ((List (Int)) × Int) :=
 ((Frecord_CheckEntry N e).bind fun r1 =>
 (bif (!(r1 == 0)) then
 (some ([], r1))
 else
 ((Fwire_NewWriter N).bind fun r2 =>
 ((Frecord_writer_entry_c03 N e 0 r2.1 r2.2).bind fun r3 =>
 (bif (!(r3.1 == 0)) then
 (some ([], r3.1))
 else
 ((Fwire_Writer_Out_052 N r3.2.1 r3.2.2).bind fun r4 =>
 (some (r4.1, 0))))))))
def conrecord_Entry : Con τ := { args := [.ty 64], L := [], ret := .tup [.ty 31, .ty 35], L' := [], R := (List (Int)) × Int, dflt := (default, default), F := fun N a b => Frecord_Entry N a.1, of := fun r => ((r.1, r.2, ()), ()) }
noncomputable def datrecord_Entry : Dat τ := { D := D0, tbl := tblOf [(64, conrecord_CheckEntry), (7, conwire_NewWriter), (65, conrecord_writer_entry_c03), (16, conwire_Writer_Out_052)], lp := lpsOf [], k0 := 0, mu := [], un := [] }
theorem okrecord_Entry : ConOk E C 26 conrecord_Entry :=
  con_ok (D := datrecord_Entry) ⟨d0Ok, eGood, tblOf_ok ⟨okrecord_CheckEntry, ⟨okwire_NewWriter, ⟨okrecord_writer_entry_c03, ⟨okwire_Writer_Out_052, trivial⟩⟩⟩⟩, fun _ => rfl⟩ conrecord_Entry (fun a b => (a.1, a.2.1)) none (fun _ _ => rfl) rfl (fun _ _ h => nomatch h) 1000000 (fn := Tryz.f26) Tryz.func26 rfl (by kernel_rfl) (by kernel_rfl) rfl (by intro N a b; kernel_rfl)
def Fwire_NewReader (N : Nat) (b : List (Int)) : Option (Gwire_Writer) :=
 ((Fslices_Clone_byte N b).bind fun r1 =>
 (some (⟨true, r1⟩ : Gwire_Writer)))
def conwire_NewReader : Con τ := { args := [.ty 31], L := [], ret := .ptr 0 [], L' := [.box (.ty 99)], R := Gwire_Writer, dflt := default, F := fun N a b => Fwire_NewReader N a.1, of := fun r => ((), (r, ())) }
noncomputable def datwire_NewReader : Dat τ := { D := D0, tbl := tblOf [(49, conslices_Clone_byte)], lp := lpsOf [], k0 := 0, mu := [], un := [] }
theorem okwire_NewReader : ConOk E C 17 conwire_NewReader :=
  con_ok (D := datwire_NewReader) ⟨d0Ok, eGood, tblOf_ok ⟨okslices_Clone_byte, trivial⟩, fun _ => rfl⟩ conwire_NewReader (fun a b => b.1) none (fun _ _ => rfl) rfl (fun _ _ h => nomatch h) 1000000 (fn := Tryz.f17) Tryz.func17 rfl (by kernel_rfl) (by kernel_rfl) rfl (by intro N a b; kernel_rfl)
def Fwire_Reader_none_d95 (N : Nat) (b0 : Gwire_Writer) : Option (Bool × Gwire_Writer) :=
 (some ((!b0.made), b0))
def conwire_Reader_none_d95 : Con τ := { args := [.ptr 0 []], L := [.box (.ty 99)], ret := .ty 4, L' := [.box (.ty 99)], R := Bool × Gwire_Writer, dflt := (default, default), F := fun N a b => Fwire_Reader_none_d95 N b.1, of := fun r => (r.1, (r.2, ())) }
noncomputable def datwire_Reader_none_d95 : Dat τ := { D := D0, tbl := tblOf [], lp := lpsOf [], k0 := 1, mu := [], un := [] }
theorem okwire_Reader_none_d95 : ConOk E C 63 conwire_Reader_none_d95 :=
  con_ok (D := datwire_Reader_none_d95) ⟨d0Ok, eGood, tblOf_ok trivial, fun _ => rfl⟩ conwire_Reader_none_d95 (fun a b => (a, b.1)) none (fun _ _ => rfl) rfl (fun _ _ h => nomatch h) 1000000 (fn := Tryz.f63) Tryz.func63 rfl (by kernel_rfl) (by kernel_rfl) rfl (by intro N a b; kernel_rfl)
structure Swire_parsex3 where
  u : Int
  t8 : Int
def tswire_parsex3 : List Sl := [.k, .k, .j, .j, .j, .sh (.ty 12), .j, .j, .sh (.ty 2), .j, .j, .j, .j, .j, .j, .j, .j, .j, .j, .j, .j, .j, .j, .j, .j, .j, .j, .j, .j, .j, .j, .j, .j, .j, .j, .j, .j, .j, .j, .j, .j, .j, .j, .j, .j, .j, .j, .j, .j, .j, .j, .j, .j, .j, .j, .j, .j, .j]
def hswire_parsex3 : List ESh := []
def towire_parsex3 (a : Sl.Ts τ tswire_parsex3) (b : ESh.Ts τ hswire_parsex3) : Swire_parsex3 := ⟨a.2.2.2.2.2.1, a.2.2.2.2.2.2.2.2.1⟩
def otwire_parsex3 (s : Swire_parsex3) : Sl.Ts τ tswire_parsex3 := ((), (), (), (), (), s.u, (), (), s.t8, (), (), (), (), (), (), (), (), (), (), (), (), (), (), (), (), (), (), (), (), (), (), (), (), (), (), (), (), (), (), (), (), (), (), (), (), (), (), (), (), (), (), (), (), (), (), (), (), (), ())
def ohwire_parsex3 (s : Swire_parsex3) : ESh.Ts τ hswire_parsex3 := ()
def lpwire_parsex3 : Lp τ := { ts := tswire_parsex3, hs := hswire_parsex3, S := Swire_parsex3, to := towire_parsex3, ot := otwire_parsex3, oh := ohwire_parsex3, hk := [], tk := [], ot_to := fun _ _ => rfl, oh_to := fun _ _ => rfl }
def Fwire_parse (N : Nat) (b : List (Int)) : Option (Int × Int × Int) :=
 (iter N (fun (s1 : Swire_parsex3) next2 =>
 (bif (decide (s1.t8 < 10)) then
 (bif (decide (((b).length : Int) ≤ s1.t8)) then
 (some (0, 0, 10))
 else
 (bif (ibB s1.t8 ((b).length : Int)) then
 (bif (((s1.t8 == 9) && (decide (1 < (lget b s1.t8 default)))) || (((lget b s1.t8 default) == 0) && (decide (0 < s1.t8)))) then
 (some (0, 0, 11))
 else
 (bif (decide (0 ≤ (IntKind.i64.wrap (7 * s1.t8)))) then
 (bif (decide ((lget b s1.t8 default) < 128)) then
 (bif ((bits .and .u64 (bits .or .u64 s1.u (shl .u64 (IntKind.u64.wrap (bits .and .u8 (lget b s1.t8 default) 127)) (IntKind.i64.wrap (7 * s1.t8)))) 1) == 1) then
 (some ((IntKind.i64.wrap (bits .xor .u64 IntKind.u64.max (shr .u64 (bits .or .u64 s1.u (shl .u64 (IntKind.u64.wrap (bits .and .u8 (lget b s1.t8 default) 127)) (IntKind.i64.wrap (7 * s1.t8)))) 1))), (IntKind.i64.wrap (s1.t8 + 1)), 0))
 else
 (some ((IntKind.i64.wrap (shr .u64 (bits .or .u64 s1.u (shl .u64 (IntKind.u64.wrap (bits .and .u8 (lget b s1.t8 default) 127)) (IntKind.i64.wrap (7 * s1.t8)))) 1)), (IntKind.i64.wrap (s1.t8 + 1)), 0)))
 else
 (next2 ⟨(bits .or .u64 s1.u (shl .u64 (IntKind.u64.wrap (bits .and .u8 (lget b s1.t8 default) 127)) (IntKind.i64.wrap (7 * s1.t8)))), (IntKind.i64.wrap (s1.t8 + 1))⟩))
 else none))
 else none))
 else
 (some (0, 0, 11)))) ⟨0, 0⟩)
def conwire_parse : Con τ := { args := [.ty 31], L := [], ret := .tup [.ty 2, .ty 3, .ty 35], L' := [], R := Int × Int × Int, dflt := (default, default, default), F := fun N a b => Fwire_parse N a.1, of := fun r => ((r.1, r.2.1, r.2.2, ()), ()) }
noncomputable def datwire_parse : Dat τ := { D := D0, tbl := tblOf [], lp := lpsOf [(3, lpwire_parsex3)], k0 := 0, mu := [], un := [] }
theorem okwire_parse : ConOk E C 130 conwire_parse :=
  con_ok (D := datwire_parse) ⟨d0Ok, eGood, tblOf_ok trivial, fun _ => rfl⟩ conwire_parse (fun a b => (a.1, a.2.1, a.2.2.1)) none (fun _ _ => rfl) rfl (fun _ _ h => nomatch h) 1000000 (fn := Tryz.f130) Tryz.func130 rfl (by kernel_rfl) (by kernel_rfl) rfl (by intro N a b; kernel_rfl)
def Fwire_Reader_Int_d95 (N : Nat) (b0 : Gwire_Writer) : Option (Int × Int × Gwire_Writer) :=
 ((Fwire_Reader_none_d95 N b0).bind fun r1 =>
 (bif r1.1 then
 (some (0, 2, r1.2))
 else
 ((Fwire_parse N r1.2.b).bind fun r2 =>
 (bif (cutB r2.2.1 ((r1.2.b).length : Int) ((r1.2.b).length : Int)) then
 (some (r2.1, r2.2.2, (⟨r1.2.made, (cut r1.2.b r2.2.1 ((r1.2.b).length : Int))⟩ : Gwire_Writer)))
 else none))))
def conwire_Reader_Int_d95 : Con τ := { args := [.ptr 0 []], L := [.box (.ty 99)], ret := .tup [.ty 2, .ty 35], L' := [.box (.ty 99)], R := Int × Int × Gwire_Writer, dflt := (default, default, default), F := fun N a b => Fwire_Reader_Int_d95 N b.1, of := fun r => ((r.1, r.2.1, ()), (r.2.2, ())) }
noncomputable def datwire_Reader_Int_d95 : Dat τ := { D := D0, tbl := tblOf [(63, conwire_Reader_none_d95), (130, conwire_parse)], lp := lpsOf [], k0 := 1, mu := [], un := [] }
theorem okwire_Reader_Int_d95 : ConOk E C 156 conwire_Reader_Int_d95 :=
  con_ok (D := datwire_Reader_Int_d95) ⟨d0Ok, eGood, tblOf_ok ⟨okwire_Reader_none_d95, ⟨okwire_parse, trivial⟩⟩, fun _ => rfl⟩ conwire_Reader_Int_d95 (fun a b => (a.1, a.2.1, b.1)) none (fun _ _ => rfl) rfl (fun _ _ h => nomatch h) 1000000 (fn := Tryz.f156) Tryz.func156 rfl (by kernel_rfl) (by kernel_rfl) rfl (by intro N a b; kernel_rfl)
def Frecord_reader_keep_bdf (N : Nat) (e : Int) (b0 : Int) (b1 : Gwire_Writer) : Option (Int × Gwire_Writer) :=
 (bif (b0 == 0) then
 (some (e, b1))
 else
 (some (b0, b1)))
def conrecord_reader_keep_bdf : Con τ := { args := [.ptr 0 [], .ty 35], L := [.box (.agg [.ptr 1 [], .ty 35]), .box (.ty 99)], ret := .tup [], L' := [.box (.agg [.ptr 1 [], .ty 35]), .box (.ty 99)], R := Int × Gwire_Writer, dflt := (default, default), F := fun N a b => Frecord_reader_keep_bdf N a.2.1 b.1.2.1 b.2.1, of := fun r => ((), (((), r.1, ()), r.2, ())) }
noncomputable def datrecord_reader_keep_bdf : Dat τ := { D := D0, tbl := tblOf [], lp := lpsOf [], k0 := 2, mu := [], un := [] }
theorem okrecord_reader_keep_bdf : ConOk E C 73 conrecord_reader_keep_bdf :=
  con_ok (D := datrecord_reader_keep_bdf) ⟨d0Ok, eGood, tblOf_ok trivial, fun _ => rfl⟩ conrecord_reader_keep_bdf (fun a b => (b.1.2.1, b.2.1)) none (fun _ _ => rfl) rfl (fun _ _ h => nomatch h) 1000000 (fn := Tryz.f73) Tryz.func73 rfl (by kernel_rfl) (by kernel_rfl) rfl (by intro N a b; kernel_rfl)
def Frecord_reader_int_407 (N : Nat) (b0 : Int) (b1 : Gwire_Writer) : Option (Int × Int × Gwire_Writer) :=
 (bif (!(b0 == 0)) then
 (some (0, b0, b1))
 else
 ((Fwire_Reader_Int_d95 N b1).bind fun r1 =>
 ((Frecord_reader_keep_bdf N r1.2.1 b0 r1.2.2).bind fun r2 =>
 (some (r1.1, r2.1, r2.2)))))
def conrecord_reader_int_407 : Con τ := { args := [.ptr 0 []], L := [.box (.agg [.ptr 1 [], .ty 35]), .box (.ty 99)], ret := .ty 2, L' := [.box (.agg [.ptr 1 [], .ty 35]), .box (.ty 99)], R := Int × Int × Gwire_Writer, dflt := (default, default, default), F := fun N a b => Frecord_reader_int_407 N b.1.2.1 b.2.1, of := fun r => (r.1, (((), r.2.1, ()), r.2.2, ())) }
noncomputable def datrecord_reader_int_407 : Dat τ := { D := D0, tbl := tblOf [(156, conwire_Reader_Int_d95), (73, conrecord_reader_keep_bdf)], lp := lpsOf [], k0 := 2, mu := [], un := [] }
theorem okrecord_reader_int_407 : ConOk E C 139 conrecord_reader_int_407 :=
  con_ok (D := datrecord_reader_int_407) ⟨d0Ok, eGood, tblOf_ok ⟨okwire_Reader_Int_d95, ⟨okrecord_reader_keep_bdf, trivial⟩⟩, fun _ => rfl⟩ conrecord_reader_int_407 (fun a b => (a, b.1.2.1, b.2.1)) none (fun _ _ => rfl) rfl (fun _ _ h => nomatch h) 1000000 (fn := Tryz.f139) Tryz.func139 rfl (by kernel_rfl) (by kernel_rfl) rfl (by intro N a b; kernel_rfl)
def Frecord_reader_small_407 (N : Nat) (b0 : Int) (b1 : Gwire_Writer) : Option (Int × Int × Gwire_Writer) :=
 ((Frecord_reader_int_407 N b0 b1).bind fun r1 =>
 (bif (!(r1.1 == (IntKind.i64.wrap (IntKind.i32.wrap r1.1)))) then
 (some ((-2), r1.2.1, r1.2.2))
 else
 (some (r1.1, r1.2.1, r1.2.2))))
def conrecord_reader_small_407 : Con τ := { args := [.ptr 0 []], L := [.box (.agg [.ptr 1 [], .ty 35]), .box (.ty 99)], ret := .ty 3, L' := [.box (.agg [.ptr 1 [], .ty 35]), .box (.ty 99)], R := Int × Int × Gwire_Writer, dflt := (default, default, default), F := fun N a b => Frecord_reader_small_407 N b.1.2.1 b.2.1, of := fun r => (r.1, (((), r.2.1, ()), r.2.2, ())) }
noncomputable def datrecord_reader_small_407 : Dat τ := { D := D0, tbl := tblOf [(139, conrecord_reader_int_407)], lp := lpsOf [], k0 := 2, mu := [], un := [] }
theorem okrecord_reader_small_407 : ConOk E C 104 conrecord_reader_small_407 :=
  con_ok (D := datrecord_reader_small_407) ⟨d0Ok, eGood, tblOf_ok ⟨okrecord_reader_int_407, trivial⟩, fun _ => rfl⟩ conrecord_reader_small_407 (fun a b => (a, b.1.2.1, b.2.1)) none (fun _ _ => rfl) rfl (fun _ _ h => nomatch h) 1000000 (fn := Tryz.f104) Tryz.func104 rfl (by kernel_rfl) (by kernel_rfl) rfl (by intro N a b; kernel_rfl)
def Frecord_reader_smalls_c10 (N : Nat) (b0 : Int) (b1 : GEntry) (b2 : Gwire_Writer) : Option (Int × GEntry × Gwire_Writer) :=
 ((Frecord_reader_small_407 N b0 b2).bind fun r1 =>
 (some (r1.2.1, (⟨r1.1, b1.Session, b1.Request, b1.Op, b1.Origin, b1.Seq, b1.Ops, b1.Epoch, b1.From, b1.Vector_, b1.Clock, b1.Part, b1.Site, b1.Sponsor, b1.Length⟩ : GEntry), r1.2.2)))
def conrecord_reader_smalls_c10 : Con τ := { args := [.ptr 0 [], .ls 1 [.ptr 1 [.fld 0 0]]], L := [.box (.agg [.ptr 2 [], .ty 35]), .box (.ty 64), .box (.ty 99)], ret := .tup [], L' := [.box (.agg [.ptr 2 [], .ty 35]), .box (.ty 64), .box (.ty 99)], R := Int × GEntry × Gwire_Writer, dflt := (default, default, default), F := fun N a b => Frecord_reader_smalls_c10 N b.1.2.1 b.2.1 b.2.2.1, of := fun r => ((), (((), r.1, ()), r.2.1, r.2.2, ())) }
noncomputable def datrecord_reader_smalls_c10 : Dat τ := { D := D0, tbl := tblOf [(104, conrecord_reader_small_407)], lp := lpsOf [], k0 := 3, mu := [], un := [(1, 3)] }
theorem okrecord_reader_smalls_c10 : ConOk E C 99 conrecord_reader_smalls_c10 :=
  con_ok (D := datrecord_reader_smalls_c10) ⟨d0Ok, eGood, tblOf_ok ⟨okrecord_reader_small_407, trivial⟩, fun _ => rfl⟩ conrecord_reader_smalls_c10 (fun a b => (b.1.2.1, b.2.1, b.2.2.1)) none (fun _ _ => rfl) rfl (fun _ _ h => nomatch h) 1000000 (fn := Tryz.f99) Tryz.func99 rfl (by kernel_rfl) (by kernel_rfl) rfl (by intro N a b; kernel_rfl)
def Frecord_reader_ints_97b (N : Nat) (b0 : Int) (b1 : GEntry) (b2 : Gwire_Writer) : Option (Int × GEntry × Gwire_Writer) :=
 ((Frecord_reader_int_407 N b0 b2).bind fun r1 =>
 ((Frecord_reader_int_407 N r1.2.1 r1.2.2).bind fun r2 =>
 (some (r2.2.1, (⟨b1.Kind, r1.1, r2.1, b1.Op, b1.Origin, b1.Seq, b1.Ops, b1.Epoch, b1.From, b1.Vector_, b1.Clock, b1.Part, b1.Site, b1.Sponsor, b1.Length⟩ : GEntry), r2.2.2))))
def conrecord_reader_ints_97b : Con τ := { args := [.ptr 0 [], .ls 1 [.ptr 1 [.fld 1 1], .ptr 1 [.fld 2 2]]], L := [.box (.agg [.ptr 2 [], .ty 35]), .box (.ty 64), .box (.ty 99)], ret := .tup [], L' := [.box (.agg [.ptr 2 [], .ty 35]), .box (.ty 64), .box (.ty 99)], R := Int × GEntry × Gwire_Writer, dflt := (default, default, default), F := fun N a b => Frecord_reader_ints_97b N b.1.2.1 b.2.1 b.2.2.1, of := fun r => ((), (((), r.1, ()), r.2.1, r.2.2, ())) }
noncomputable def datrecord_reader_ints_97b : Dat τ := { D := D0, tbl := tblOf [(139, conrecord_reader_int_407)], lp := lpsOf [], k0 := 3, mu := [], un := [(1, 4)] }
theorem okrecord_reader_ints_97b : ConOk E C 98 conrecord_reader_ints_97b :=
  con_ok (D := datrecord_reader_ints_97b) ⟨d0Ok, eGood, tblOf_ok ⟨okrecord_reader_int_407, trivial⟩, fun _ => rfl⟩ conrecord_reader_ints_97b (fun a b => (b.1.2.1, b.2.1, b.2.2.1)) none (fun _ _ => rfl) rfl (fun _ _ h => nomatch h) 1000000 (fn := Tryz.f98) Tryz.func98 rfl (by kernel_rfl) (by kernel_rfl) rfl (by intro N a b; kernel_rfl)
def Frecord_reader_ints_058 (N : Nat) (b0 : Int) (b1 : GOp) (b2 : Gwire_Writer) : Option (Int × GOp × Gwire_Writer) :=
 ((Frecord_reader_int_407 N b0 b2).bind fun r1 =>
 (some (r1.2.1, (⟨(⟨r1.1, b1.Stamp.Site⟩ : GStamp), b1.Kind, b1.Node, b1.Parent, b1.Name, b1.Key, b1.Value⟩ : GOp), r1.2.2)))
def conrecord_reader_ints_058 : Con τ := { args := [.ptr 0 [], .ls 1 [.ptr 1 [.fld 0 0, .fld 0 0]]], L := [.box (.agg [.ptr 2 [], .ty 35]), .box (.ty 25), .box (.ty 99)], ret := .tup [], L' := [.box (.agg [.ptr 2 [], .ty 35]), .box (.ty 25), .box (.ty 99)], R := Int × GOp × Gwire_Writer, dflt := (default, default, default), F := fun N a b => Frecord_reader_ints_058 N b.1.2.1 b.2.1 b.2.2.1, of := fun r => ((), (((), r.1, ()), r.2.1, r.2.2, ())) }
noncomputable def datrecord_reader_ints_058 : Dat τ := { D := D0, tbl := tblOf [(139, conrecord_reader_int_407)], lp := lpsOf [], k0 := 3, mu := [], un := [(1, 3)] }
theorem okrecord_reader_ints_058 : ConOk E C 98 conrecord_reader_ints_058 :=
  con_ok (D := datrecord_reader_ints_058) ⟨d0Ok, eGood, tblOf_ok ⟨okrecord_reader_int_407, trivial⟩, fun _ => rfl⟩ conrecord_reader_ints_058 (fun a b => (b.1.2.1, b.2.1, b.2.2.1)) none (fun _ _ => rfl) rfl (fun _ _ h => nomatch h) 1000000 (fn := Tryz.f98) Tryz.func98 rfl (by kernel_rfl) (by kernel_rfl) rfl (by intro N a b; kernel_rfl)
def Frecord_reader_smalls_f5c (N : Nat) (b0 : Int) (b1 : GOp) (b2 : Gwire_Writer) : Option (Int × GOp × Gwire_Writer) :=
 ((Frecord_reader_small_407 N b0 b2).bind fun r1 =>
 ((Frecord_reader_small_407 N r1.2.1 r1.2.2).bind fun r2 =>
 (some (r2.2.1, (⟨(⟨b1.Stamp.Time, r1.1⟩ : GStamp), r2.1, b1.Node, b1.Parent, b1.Name, b1.Key, b1.Value⟩ : GOp), r2.2.2))))
def conrecord_reader_smalls_f5c : Con τ := { args := [.ptr 0 [], .ls 1 [.ptr 1 [.fld 0 0, .fld 1 1], .ptr 1 [.fld 1 2]]], L := [.box (.agg [.ptr 2 [], .ty 35]), .box (.ty 25), .box (.ty 99)], ret := .tup [], L' := [.box (.agg [.ptr 2 [], .ty 35]), .box (.ty 25), .box (.ty 99)], R := Int × GOp × Gwire_Writer, dflt := (default, default, default), F := fun N a b => Frecord_reader_smalls_f5c N b.1.2.1 b.2.1 b.2.2.1, of := fun r => ((), (((), r.1, ()), r.2.1, r.2.2, ())) }
noncomputable def datrecord_reader_smalls_f5c : Dat τ := { D := D0, tbl := tblOf [(104, conrecord_reader_small_407)], lp := lpsOf [], k0 := 3, mu := [], un := [(1, 4)] }
theorem okrecord_reader_smalls_f5c : ConOk E C 99 conrecord_reader_smalls_f5c :=
  con_ok (D := datrecord_reader_smalls_f5c) ⟨d0Ok, eGood, tblOf_ok ⟨okrecord_reader_small_407, trivial⟩, fun _ => rfl⟩ conrecord_reader_smalls_f5c (fun a b => (b.1.2.1, b.2.1, b.2.2.1)) none (fun _ _ => rfl) rfl (fun _ _ h => nomatch h) 1000000 (fn := Tryz.f99) Tryz.func99 rfl (by kernel_rfl) (by kernel_rfl) rfl (by intro N a b; kernel_rfl)
def Frecord_reader_ints_cf7 (N : Nat) (b0 : Int) (b1 : GOp) (b2 : Gwire_Writer) : Option (Int × GOp × Gwire_Writer) :=
 ((Frecord_reader_int_407 N b0 b2).bind fun r1 =>
 ((Frecord_reader_int_407 N r1.2.1 r1.2.2).bind fun r2 =>
 (some (r2.2.1, (⟨b1.Stamp, b1.Kind, r1.1, r2.1, b1.Name, b1.Key, b1.Value⟩ : GOp), r2.2.2))))
def conrecord_reader_ints_cf7 : Con τ := { args := [.ptr 0 [], .ls 1 [.ptr 1 [.fld 2 3], .ptr 1 [.fld 3 4]]], L := [.box (.agg [.ptr 2 [], .ty 35]), .box (.ty 25), .box (.ty 99)], ret := .tup [], L' := [.box (.agg [.ptr 2 [], .ty 35]), .box (.ty 25), .box (.ty 99)], R := Int × GOp × Gwire_Writer, dflt := (default, default, default), F := fun N a b => Frecord_reader_ints_cf7 N b.1.2.1 b.2.1 b.2.2.1, of := fun r => ((), (((), r.1, ()), r.2.1, r.2.2, ())) }
noncomputable def datrecord_reader_ints_cf7 : Dat τ := { D := D0, tbl := tblOf [(139, conrecord_reader_int_407)], lp := lpsOf [], k0 := 3, mu := [], un := [(1, 4)] }
theorem okrecord_reader_ints_cf7 : ConOk E C 98 conrecord_reader_ints_cf7 :=
  con_ok (D := datrecord_reader_ints_cf7) ⟨d0Ok, eGood, tblOf_ok ⟨okrecord_reader_int_407, trivial⟩, fun _ => rfl⟩ conrecord_reader_ints_cf7 (fun a b => (b.1.2.1, b.2.1, b.2.2.1)) none (fun _ _ => rfl) rfl (fun _ _ h => nomatch h) 1000000 (fn := Tryz.f98) Tryz.func98 rfl (by kernel_rfl) (by kernel_rfl) rfl (by intro N a b; kernel_rfl)
def Fwire_Reader_Bytes_d95 (N : Nat) (b0 : Gwire_Writer) : Option ((List (Int)) × Int × Gwire_Writer) :=
 ((Fwire_Reader_none_d95 N b0).bind fun r1 =>
 (bif r1.1 then
 (some ([], 2, r1.2))
 else
 ((Fwire_parse N r1.2.b).bind fun r2 =>
 (bif (!(r2.2.2 == 0)) then
 (some ([], r2.2.2, r1.2))
 else
 (bif (decide (r2.1 < 0)) then
 (some ([], 11, r1.2))
 else
 (bif (decide ((IntKind.i64.wrap (((r1.2.b).length : Int) - r2.2.1)) < r2.1)) then
 (some ([], 10, r1.2))
 else
 (bif (cutB r2.2.1 (IntKind.i64.wrap (r2.2.1 + r2.1)) ((r1.2.b).length : Int)) then
 ((Fslices_Clone_byte N (cut r1.2.b r2.2.1 (IntKind.i64.wrap (r2.2.1 + r2.1)))).bind fun r3 =>
 (bif (cutB (IntKind.i64.wrap (r2.2.1 + r2.1)) ((r1.2.b).length : Int) ((r1.2.b).length : Int)) then
 (some (r3, 0, (⟨r1.2.made, (cut r1.2.b (IntKind.i64.wrap (r2.2.1 + r2.1)) ((r1.2.b).length : Int))⟩ : Gwire_Writer)))
 else none))
 else none)))))))
def conwire_Reader_Bytes_d95 : Con τ := { args := [.ptr 0 []], L := [.box (.ty 99)], ret := .tup [.ty 31, .ty 35], L' := [.box (.ty 99)], R := (List (Int)) × Int × Gwire_Writer, dflt := (default, default, default), F := fun N a b => Fwire_Reader_Bytes_d95 N b.1, of := fun r => ((r.1, r.2.1, ()), (r.2.2, ())) }
noncomputable def datwire_Reader_Bytes_d95 : Dat τ := { D := D0, tbl := tblOf [(63, conwire_Reader_none_d95), (130, conwire_parse), (49, conslices_Clone_byte)], lp := lpsOf [], k0 := 1, mu := [], un := [] }
theorem okwire_Reader_Bytes_d95 : ConOk E C 157 conwire_Reader_Bytes_d95 :=
  con_ok (D := datwire_Reader_Bytes_d95) ⟨d0Ok, eGood, tblOf_ok ⟨okwire_Reader_none_d95, ⟨okwire_parse, ⟨okslices_Clone_byte, trivial⟩⟩⟩, fun _ => rfl⟩ conwire_Reader_Bytes_d95 (fun a b => (a.1, a.2.1, b.1)) none (fun _ _ => rfl) rfl (fun _ _ h => nomatch h) 1000000 (fn := Tryz.f157) Tryz.func157 rfl (by kernel_rfl) (by kernel_rfl) rfl (by intro N a b; kernel_rfl)
def Fwire_Reader_Text_d95 (N : Nat) (b0 : Gwire_Writer) : Option ((List UInt8) × Int × Gwire_Writer) :=
 ((Fwire_Reader_Bytes_d95 N b0).bind fun r1 =>
 (some ((strI r1.1), r1.2.1, r1.2.2)))
def conwire_Reader_Text_d95 : Con τ := { args := [.ptr 0 []], L := [.box (.ty 99)], ret := .tup [.ty 9, .ty 35], L' := [.box (.ty 99)], R := (List UInt8) × Int × Gwire_Writer, dflt := (default, default, default), F := fun N a b => Fwire_Reader_Text_d95 N b.1, of := fun r => ((r.1, r.2.1, ()), (r.2.2, ())) }
noncomputable def datwire_Reader_Text_d95 : Dat τ := { D := D0, tbl := tblOf [(157, conwire_Reader_Bytes_d95)], lp := lpsOf [], k0 := 1, mu := [], un := [] }
theorem okwire_Reader_Text_d95 : ConOk E C 140 conwire_Reader_Text_d95 :=
  con_ok (D := datwire_Reader_Text_d95) ⟨d0Ok, eGood, tblOf_ok ⟨okwire_Reader_Bytes_d95, trivial⟩, fun _ => rfl⟩ conwire_Reader_Text_d95 (fun a b => (a.1, a.2.1, b.1)) none (fun _ _ => rfl) rfl (fun _ _ h => nomatch h) 1000000 (fn := Tryz.f140) Tryz.func140 rfl (by kernel_rfl) (by kernel_rfl) rfl (by intro N a b; kernel_rfl)
def Frecord_reader_text_407 (N : Nat) (b0 : Int) (b1 : Gwire_Writer) : Option ((List UInt8) × Int × Gwire_Writer) :=
 (bif (!(b0 == 0)) then
 (some ([], b0, b1))
 else
 ((Fwire_Reader_Text_d95 N b1).bind fun r1 =>
 ((Frecord_reader_keep_bdf N r1.2.1 b0 r1.2.2).bind fun r2 =>
 (some (r1.1, r2.1, r2.2)))))
def conrecord_reader_text_407 : Con τ := { args := [.ptr 0 []], L := [.box (.agg [.ptr 1 [], .ty 35]), .box (.ty 99)], ret := .ty 9, L' := [.box (.agg [.ptr 1 [], .ty 35]), .box (.ty 99)], R := (List UInt8) × Int × Gwire_Writer, dflt := (default, default, default), F := fun N a b => Frecord_reader_text_407 N b.1.2.1 b.2.1, of := fun r => (r.1, (((), r.2.1, ()), r.2.2, ())) }
noncomputable def datrecord_reader_text_407 : Dat τ := { D := D0, tbl := tblOf [(140, conwire_Reader_Text_d95), (73, conrecord_reader_keep_bdf)], lp := lpsOf [], k0 := 2, mu := [], un := [] }
theorem okrecord_reader_text_407 : ConOk E C 100 conrecord_reader_text_407 :=
  con_ok (D := datrecord_reader_text_407) ⟨d0Ok, eGood, tblOf_ok ⟨okwire_Reader_Text_d95, ⟨okrecord_reader_keep_bdf, trivial⟩⟩, fun _ => rfl⟩ conrecord_reader_text_407 (fun a b => (a, b.1.2.1, b.2.1)) none (fun _ _ => rfl) rfl (fun _ _ h => nomatch h) 1000000 (fn := Tryz.f100) Tryz.func100 rfl (by kernel_rfl) (by kernel_rfl) rfl (by intro N a b; kernel_rfl)
def Frecord_reader_op_407 (N : Nat) (b0 : Int) (b1 : Gwire_Writer) : Option (GOp × Int × Gwire_Writer) :=
 ((Frecord_reader_ints_058 N b0 (⟨(⟨0, 0⟩ : GStamp), 0, 0, 0, [], [], []⟩ : GOp) b1).bind fun r1 =>
 ((Frecord_reader_smalls_f5c N r1.1 r1.2.1 r1.2.2).bind fun r2 =>
 ((Frecord_reader_ints_cf7 N r2.1 r2.2.1 r2.2.2).bind fun r3 =>
 ((Frecord_reader_text_407 N r3.1 r3.2.2).bind fun r4 =>
 ((Frecord_reader_text_407 N r4.2.1 r4.2.2).bind fun r5 =>
 ((Frecord_reader_text_407 N r5.2.1 r5.2.2).bind fun r6 =>
 (some ((⟨r3.2.1.Stamp, r3.2.1.Kind, r3.2.1.Node, r3.2.1.Parent, r4.1, r5.1, r6.1⟩ : GOp), r6.2.1, r6.2.2))))))))
def conrecord_reader_op_407 : Con τ := { args := [.ptr 0 []], L := [.box (.agg [.ptr 1 [], .ty 35]), .box (.ty 99)], ret := .ty 25, L' := [.box (.agg [.ptr 1 [], .ty 35]), .box (.ty 99)], R := GOp × Int × Gwire_Writer, dflt := (default, default, default), F := fun N a b => Frecord_reader_op_407 N b.1.2.1 b.2.1, of := fun r => (r.1, (((), r.2.1, ()), r.2.2, ())) }
noncomputable def datrecord_reader_op_407 : Dat τ := { D := D0, tbl := tblOf [(98, conrecord_reader_ints_058), (99, conrecord_reader_smalls_f5c), (98, conrecord_reader_ints_cf7), (100, conrecord_reader_text_407)], lp := lpsOf [], k0 := 2, mu := [], un := [] }
theorem okrecord_reader_op_407 : ConOk E C 52 conrecord_reader_op_407 :=
  con_ok (D := datrecord_reader_op_407) ⟨d0Ok, eGood, tblOf_ok ⟨okrecord_reader_ints_058, ⟨okrecord_reader_smalls_f5c, ⟨okrecord_reader_ints_cf7, ⟨okrecord_reader_text_407, trivial⟩⟩⟩⟩, fun _ => rfl⟩ conrecord_reader_op_407 (fun a b => (a, b.1.2.1, b.2.1)) none (fun _ _ => rfl) rfl (fun _ _ h => nomatch h) 1000000 (fn := Tryz.f52) Tryz.func52 rfl (by kernel_rfl) (by kernel_rfl) rfl (by intro N a b; kernel_rfl)
def Frecord_reader_smalls_258 (N : Nat) (b0 : Int) (b1 : GEntry) (b2 : Gwire_Writer) : Option (Int × GEntry × Gwire_Writer) :=
 ((Frecord_reader_small_407 N b0 b2).bind fun r1 =>
 (some (r1.2.1, (⟨b1.Kind, b1.Session, b1.Request, b1.Op, r1.1, b1.Seq, b1.Ops, b1.Epoch, b1.From, b1.Vector_, b1.Clock, b1.Part, b1.Site, b1.Sponsor, b1.Length⟩ : GEntry), r1.2.2)))
def conrecord_reader_smalls_258 : Con τ := { args := [.ptr 0 [], .ls 1 [.ptr 1 [.fld 4 11]]], L := [.box (.agg [.ptr 2 [], .ty 35]), .box (.ty 64), .box (.ty 99)], ret := .tup [], L' := [.box (.agg [.ptr 2 [], .ty 35]), .box (.ty 64), .box (.ty 99)], R := Int × GEntry × Gwire_Writer, dflt := (default, default, default), F := fun N a b => Frecord_reader_smalls_258 N b.1.2.1 b.2.1 b.2.2.1, of := fun r => ((), (((), r.1, ()), r.2.1, r.2.2, ())) }
noncomputable def datrecord_reader_smalls_258 : Dat τ := { D := D0, tbl := tblOf [(104, conrecord_reader_small_407)], lp := lpsOf [], k0 := 3, mu := [], un := [(1, 3)] }
theorem okrecord_reader_smalls_258 : ConOk E C 99 conrecord_reader_smalls_258 :=
  con_ok (D := datrecord_reader_smalls_258) ⟨d0Ok, eGood, tblOf_ok ⟨okrecord_reader_small_407, trivial⟩, fun _ => rfl⟩ conrecord_reader_smalls_258 (fun a b => (b.1.2.1, b.2.1, b.2.2.1)) none (fun _ _ => rfl) rfl (fun _ _ h => nomatch h) 1000000 (fn := Tryz.f99) Tryz.func99 rfl (by kernel_rfl) (by kernel_rfl) rfl (by intro N a b; kernel_rfl)
def Frecord_reader_ints_705 (N : Nat) (b0 : Int) (b1 : GEntry) (b2 : Gwire_Writer) : Option (Int × GEntry × Gwire_Writer) :=
 ((Frecord_reader_int_407 N b0 b2).bind fun r1 =>
 (some (r1.2.1, (⟨b1.Kind, b1.Session, b1.Request, b1.Op, b1.Origin, r1.1, b1.Ops, b1.Epoch, b1.From, b1.Vector_, b1.Clock, b1.Part, b1.Site, b1.Sponsor, b1.Length⟩ : GEntry), r1.2.2)))
def conrecord_reader_ints_705 : Con τ := { args := [.ptr 0 [], .ls 1 [.ptr 1 [.fld 5 12]]], L := [.box (.agg [.ptr 2 [], .ty 35]), .box (.ty 64), .box (.ty 99)], ret := .tup [], L' := [.box (.agg [.ptr 2 [], .ty 35]), .box (.ty 64), .box (.ty 99)], R := Int × GEntry × Gwire_Writer, dflt := (default, default, default), F := fun N a b => Frecord_reader_ints_705 N b.1.2.1 b.2.1 b.2.2.1, of := fun r => ((), (((), r.1, ()), r.2.1, r.2.2, ())) }
noncomputable def datrecord_reader_ints_705 : Dat τ := { D := D0, tbl := tblOf [(139, conrecord_reader_int_407)], lp := lpsOf [], k0 := 3, mu := [], un := [(1, 3)] }
theorem okrecord_reader_ints_705 : ConOk E C 98 conrecord_reader_ints_705 :=
  con_ok (D := datrecord_reader_ints_705) ⟨d0Ok, eGood, tblOf_ok ⟨okrecord_reader_int_407, trivial⟩, fun _ => rfl⟩ conrecord_reader_ints_705 (fun a b => (b.1.2.1, b.2.1, b.2.2.1)) none (fun _ _ => rfl) rfl (fun _ _ h => nomatch h) 1000000 (fn := Tryz.f98) Tryz.func98 rfl (by kernel_rfl) (by kernel_rfl) rfl (by intro N a b; kernel_rfl)
def Frecord_reader_many_407 (N : Nat) (b0 : Int) (b1 : Gwire_Writer) : Option (Int × Int × Gwire_Writer) :=
 ((Frecord_reader_int_407 N b0 b1).bind fun r1 =>
 (bif ((r1.2.1 == 0) && ((decide (r1.1 < 0)) || (decide (4096 < r1.1)))) then
 (some (0, 40, r1.2.2))
 else
 (bif (!(r1.2.1 == 0)) then
 (some (0, r1.2.1, r1.2.2))
 else
 (some (r1.1, r1.2.1, r1.2.2)))))
def conrecord_reader_many_407 : Con τ := { args := [.ptr 0 []], L := [.box (.agg [.ptr 1 [], .ty 35]), .box (.ty 99)], ret := .ty 3, L' := [.box (.agg [.ptr 1 [], .ty 35]), .box (.ty 99)], R := Int × Int × Gwire_Writer, dflt := (default, default, default), F := fun N a b => Frecord_reader_many_407 N b.1.2.1 b.2.1, of := fun r => (r.1, (((), r.2.1, ()), r.2.2, ())) }
noncomputable def datrecord_reader_many_407 : Dat τ := { D := D0, tbl := tblOf [(139, conrecord_reader_int_407)], lp := lpsOf [], k0 := 2, mu := [], un := [] }
theorem okrecord_reader_many_407 : ConOk E C 152 conrecord_reader_many_407 :=
  con_ok (D := datrecord_reader_many_407) ⟨d0Ok, eGood, tblOf_ok ⟨okrecord_reader_int_407, trivial⟩, fun _ => rfl⟩ conrecord_reader_many_407 (fun a b => (a, b.1.2.1, b.2.1)) none (fun _ _ => rfl) rfl (fun _ _ h => nomatch h) 1000000 (fn := Tryz.f152) Tryz.func152 rfl (by kernel_rfl) (by kernel_rfl) rfl (by intro N a b; kernel_rfl)
structure Srecord_reader_ops_407x3 where
  l : List (GOp)
  t6 : Int
  b0 : Int
  b1 : Gwire_Writer
def tsrecord_reader_ops_407x3 : List Sl := [.k, .k, .j, .sh (.own 25 2), .k, .k, .sh (.ty 2), .j, .j, .j, .j, .j, .j, .j, .j, .j, .j, .j, .j, .k]
def hsrecord_reader_ops_407x3 : List ESh := [.box (.agg [.ptr 1 [], .ty 2]), .box (.ty 86), .tail]
def torecord_reader_ops_407x3 (a : Sl.Ts τ tsrecord_reader_ops_407x3) (b : ESh.Ts τ hsrecord_reader_ops_407x3) : Srecord_reader_ops_407x3 := ⟨a.2.2.2.1, a.2.2.2.2.2.2.1, b.1.2.1, b.2.1⟩
def otrecord_reader_ops_407x3 (s : Srecord_reader_ops_407x3) : Sl.Ts τ tsrecord_reader_ops_407x3 := ((), (), (), s.l, (), (), s.t6, (), (), (), (), (), (), (), (), (), (), (), (), (), ())
def ohrecord_reader_ops_407x3 (s : Srecord_reader_ops_407x3) : ESh.Ts τ hsrecord_reader_ops_407x3 := (((), s.b0, ()), s.b1, (), ())
def lprecord_reader_ops_407x3 : Lp τ := { ts := tsrecord_reader_ops_407x3, hs := hsrecord_reader_ops_407x3, S := Srecord_reader_ops_407x3, to := torecord_reader_ops_407x3, ot := otrecord_reader_ops_407x3, oh := ohrecord_reader_ops_407x3, hk := [2, 2], tk := [2, 0, 0, 0, 2], ot_to := fun _ _ => rfl, oh_to := fun _ _ => rfl }
def Frecord_reader_ops_407 (N : Nat) (b0 : Int) (b1 : Gwire_Writer) : Option ((List (GOp)) × Int × Gwire_Writer) :=
 ((Frecord_reader_many_407 N b0 b1).bind fun r1 =>
 (iter N (fun (s2 : Srecord_reader_ops_407x3) next3 =>
 (bif (decide (s2.t6 < r1.1)) then
 (bif (!(s2.b0 == 0)) then
 (some ([], s2.b0, s2.b1))
 else
 ((Frecord_reader_op_407 N s2.b0 s2.b1).bind fun r4 =>
 (bif (lenB ((s2.l).length + ([r4.1]).length) 88) then
 (next3 ⟨(s2.l ++ [r4.1]), (IntKind.i64.wrap (s2.t6 + 1)), r4.2.1, r4.2.2⟩)
 else none)))
 else
 (some (s2.l, s2.b0, s2.b1)))) ⟨[], 0, r1.2.1, r1.2.2⟩))
def conrecord_reader_ops_407 : Con τ := { args := [.ptr 0 []], L := [.box (.agg [.ptr 1 [], .ty 35]), .box (.ty 99)], ret := .ty 60, L' := [.box (.agg [.ptr 1 [], .ty 35]), .box (.ty 99)], R := (List (GOp)) × Int × Gwire_Writer, dflt := (default, default, default), F := fun N a b => Frecord_reader_ops_407 N b.1.2.1 b.2.1, of := fun r => (r.1, (((), r.2.1, ()), r.2.2, ())) }
noncomputable def datrecord_reader_ops_407 : Dat τ := { D := D0, tbl := tblOf [(152, conrecord_reader_many_407), (52, conrecord_reader_op_407)], lp := lpsOf [(3, lprecord_reader_ops_407x3)], k0 := 2, mu := [], un := [] }
theorem okrecord_reader_ops_407 : ConOk E C 128 conrecord_reader_ops_407 :=
  con_ok (D := datrecord_reader_ops_407) ⟨d0Ok, eGood, tblOf_ok ⟨okrecord_reader_many_407, ⟨okrecord_reader_op_407, trivial⟩⟩, fun _ => rfl⟩ conrecord_reader_ops_407 (fun a b => (a, b.1.2.1, b.2.1)) none (fun _ _ => rfl) rfl (fun _ _ h => nomatch h) 1000000 (fn := Tryz.f128) Tryz.func128 rfl (by kernel_rfl) (by kernel_rfl) rfl (by intro N a b; kernel_rfl)
def Frecord_reader_ints_b1a (N : Nat) (b0 : Int) (b1 : GEpoch) (b2 : Gwire_Writer) : Option (Int × GEpoch × Gwire_Writer) :=
 ((Frecord_reader_int_407 N b0 b2).bind fun r1 =>
 (some (r1.2.1, (⟨r1.1, b1.States, b1.Seals, b1.Sponsor⟩ : GEpoch), r1.2.2)))
def conrecord_reader_ints_b1a : Con τ := { args := [.ptr 0 [], .ls 1 [.ptr 1 [.fld 0 0]]], L := [.box (.agg [.ptr 2 [], .ty 35]), .box (.ty 30), .box (.ty 99)], ret := .tup [], L' := [.box (.agg [.ptr 2 [], .ty 35]), .box (.ty 30), .box (.ty 99)], R := Int × GEpoch × Gwire_Writer, dflt := (default, default, default), F := fun N a b => Frecord_reader_ints_b1a N b.1.2.1 b.2.1 b.2.2.1, of := fun r => ((), (((), r.1, ()), r.2.1, r.2.2, ())) }
noncomputable def datrecord_reader_ints_b1a : Dat τ := { D := D0, tbl := tblOf [(139, conrecord_reader_int_407)], lp := lpsOf [], k0 := 3, mu := [], un := [(1, 3)] }
theorem okrecord_reader_ints_b1a : ConOk E C 98 conrecord_reader_ints_b1a :=
  con_ok (D := datrecord_reader_ints_b1a) ⟨d0Ok, eGood, tblOf_ok ⟨okrecord_reader_int_407, trivial⟩, fun _ => rfl⟩ conrecord_reader_ints_b1a (fun a b => (b.1.2.1, b.2.1, b.2.2.1)) none (fun _ _ => rfl) rfl (fun _ _ h => nomatch h) 1000000 (fn := Tryz.f98) Tryz.func98 rfl (by kernel_rfl) (by kernel_rfl) rfl (by intro N a b; kernel_rfl)
structure Srecord_reader_vector_6cax1 where
  t5 : Int
  b0 : Int
  b1 : GEpoch
  b2 : Gwire_Writer
def tsrecord_reader_vector_6cax1 : List Sl := [.k, .k, .k, .k, .j, .sh (.ty 2), .j, .j, .j, .j, .j, .j, .j, .j, .j]
def hsrecord_reader_vector_6cax1 : List ESh := [.box (.agg [.ptr 2 [], .ty 2]), .box (.ty 29), .box (.ty 86)]
def torecord_reader_vector_6cax1 (a : Sl.Ts τ tsrecord_reader_vector_6cax1) (b : ESh.Ts τ hsrecord_reader_vector_6cax1) : Srecord_reader_vector_6cax1 := ⟨a.2.2.2.2.2.1, b.1.2.1, b.2.1, b.2.2.1⟩
def otrecord_reader_vector_6cax1 (s : Srecord_reader_vector_6cax1) : Sl.Ts τ tsrecord_reader_vector_6cax1 := ((), (), (), (), (), s.t5, (), (), (), (), (), (), (), (), (), ())
def ohrecord_reader_vector_6cax1 (s : Srecord_reader_vector_6cax1) : ESh.Ts τ hsrecord_reader_vector_6cax1 := (((), s.b0, ()), s.b1, s.b2, ())
def lprecord_reader_vector_6cax1 : Lp τ := { ts := tsrecord_reader_vector_6cax1, hs := hsrecord_reader_vector_6cax1, S := Srecord_reader_vector_6cax1, to := torecord_reader_vector_6cax1, ot := otrecord_reader_vector_6cax1, oh := ohrecord_reader_vector_6cax1, hk := [2, 2, 2], tk := [2, 3], ot_to := fun _ _ => rfl, oh_to := fun _ _ => rfl }
def Frecord_reader_vector_6ca (N : Nat) (b0 : Int) (b1 : GEpoch) (b2 : Gwire_Writer) : Option (Int × GEpoch × Gwire_Writer) :=
 (iter N (fun (s1 : Srecord_reader_vector_6cax1) next2 =>
 (bif (decide (s1.t5 < 8)) then
 ((Frecord_reader_int_407 N s1.b0 s1.b2).bind fun r3 =>
 (bif (ibB s1.t5 8) then
 (next2 ⟨(IntKind.i64.wrap (s1.t5 + 1)), r3.2.1, (⟨s1.b1.Number, s1.b1.States, (vset s1.b1.Seals ((s1.t5).toNat) r3.1), s1.b1.Sponsor⟩ : GEpoch), r3.2.2⟩)
 else none))
 else
 (some (s1.b0, s1.b1, s1.b2)))) ⟨0, b0, b1, b2⟩)
def conrecord_reader_vector_6ca : Con τ := { args := [.ptr 0 [], .ptr 1 [.fld 2 9]], L := [.box (.agg [.ptr 2 [], .ty 35]), .box (.ty 30), .box (.ty 99)], ret := .tup [], L' := [.box (.agg [.ptr 2 [], .ty 35]), .box (.ty 30), .box (.ty 99)], R := Int × GEpoch × Gwire_Writer, dflt := (default, default, default), F := fun N a b => Frecord_reader_vector_6ca N b.1.2.1 b.2.1 b.2.2.1, of := fun r => ((), (((), r.1, ()), r.2.1, r.2.2, ())) }
noncomputable def datrecord_reader_vector_6ca : Dat τ := { D := D0, tbl := tblOf [(139, conrecord_reader_int_407)], lp := lpsOf [(1, lprecord_reader_vector_6cax1)], k0 := 3, mu := [], un := [] }
theorem okrecord_reader_vector_6ca : ConOk E C 105 conrecord_reader_vector_6ca :=
  con_ok (D := datrecord_reader_vector_6ca) ⟨d0Ok, eGood, tblOf_ok ⟨okrecord_reader_int_407, trivial⟩, fun _ => rfl⟩ conrecord_reader_vector_6ca (fun a b => (b.1.2.1, b.2.1, b.2.2.1)) none (fun _ _ => rfl) rfl (fun _ _ h => nomatch h) 1000000 (fn := Tryz.f105) Tryz.func105 rfl (by kernel_rfl) (by kernel_rfl) rfl (by intro N a b; kernel_rfl)
structure Srecord_reader_epoch_407x4 where
  t10 : Int
  b0 : Int
  b1 : Gwire_Writer
  b3 : GEpoch
def tsrecord_reader_epoch_407x4 : List Sl := [.k, .k, .k, .k, .j, .k, .k, .k, .k, .k, .sh (.ty 2), .j, .j, .j, .j, .j, .j, .j, .j, .k, .k, .k, .k, .k, .k, .k, .k, .k, .k, .k, .k, .k]
def hsrecord_reader_epoch_407x4 : List ESh := [.box (.agg [.ptr 1 [], .ty 2]), .box (.ty 86), .keep, .box (.ty 29)]
def torecord_reader_epoch_407x4 (a : Sl.Ts τ tsrecord_reader_epoch_407x4) (b : ESh.Ts τ hsrecord_reader_epoch_407x4) : Srecord_reader_epoch_407x4 := ⟨a.2.2.2.2.2.2.2.2.2.2.1, b.1.2.1, b.2.1, b.2.2.2.1⟩
def otrecord_reader_epoch_407x4 (s : Srecord_reader_epoch_407x4) : Sl.Ts τ tsrecord_reader_epoch_407x4 := ((), (), (), (), (), (), (), (), (), (), s.t10, (), (), (), (), (), (), (), (), (), (), (), (), (), (), (), (), (), (), (), (), (), ())
def ohrecord_reader_epoch_407x4 (s : Srecord_reader_epoch_407x4) : ESh.Ts τ hsrecord_reader_epoch_407x4 := (((), s.b0, ()), s.b1, (), s.b3, ())
def lprecord_reader_epoch_407x4 : Lp τ := { ts := tsrecord_reader_epoch_407x4, hs := hsrecord_reader_epoch_407x4, S := Srecord_reader_epoch_407x4, to := torecord_reader_epoch_407x4, ot := otrecord_reader_epoch_407x4, oh := ohrecord_reader_epoch_407x4, hk := [2, 2, 2, 2], tk := [2, 0, 4, 5, 0, 0, 2, 5], ot_to := fun _ _ => rfl, oh_to := fun _ _ => rfl }
structure Srecord_reader_epoch_407x10 where
  t22 : Int
  b0 : Int
  b1 : Gwire_Writer
  b3 : GEpoch
def tsrecord_reader_epoch_407x10 : List Sl := [.k, .k, .k, .k, .k, .j, .k, .k, .k, .k, .k, .k, .k, .k, .k, .k, .k, .k, .k, .k, .k, .k, .sh (.ty 2), .j, .j, .j, .j, .j, .j, .j, .j, .k]
def hsrecord_reader_epoch_407x10 : List ESh := [.box (.agg [.ptr 1 [], .ty 2]), .box (.ty 86), .keep, .box (.ty 29)]
def torecord_reader_epoch_407x10 (a : Sl.Ts τ tsrecord_reader_epoch_407x10) (b : ESh.Ts τ hsrecord_reader_epoch_407x10) : Srecord_reader_epoch_407x10 := ⟨a.2.2.2.2.2.2.2.2.2.2.2.2.2.2.2.2.2.2.2.2.2.2.1, b.1.2.1, b.2.1, b.2.2.2.1⟩
def otrecord_reader_epoch_407x10 (s : Srecord_reader_epoch_407x10) : Sl.Ts τ tsrecord_reader_epoch_407x10 := ((), (), (), (), (), (), (), (), (), (), (), (), (), (), (), (), (), (), (), (), (), (), s.t22, (), (), (), (), (), (), (), (), (), ())
def ohrecord_reader_epoch_407x10 (s : Srecord_reader_epoch_407x10) : ESh.Ts τ hsrecord_reader_epoch_407x10 := (((), s.b0, ()), s.b1, (), s.b3, ())
def lprecord_reader_epoch_407x10 : Lp τ := { ts := tsrecord_reader_epoch_407x10, hs := hsrecord_reader_epoch_407x10, S := Srecord_reader_epoch_407x10, to := torecord_reader_epoch_407x10, ot := otrecord_reader_epoch_407x10, oh := ohrecord_reader_epoch_407x10, hk := [2, 2, 2, 2], tk := [2, 0, 4, 5, 0, 0, 2, 5, 0, 0, 0, 0, 0, 0, 0, 0, 0, 0, 0, 2, 5], ot_to := fun _ _ => rfl, oh_to := fun _ _ => rfl }
def Frecord_reader_epoch_407 (N : Nat) (b0 : Int) (b1 : Gwire_Writer) : Option (GEpoch × Int × Gwire_Writer) :=
 ((Frecord_reader_ints_b1a N b0 (⟨0, (Vector.replicate 8 (default : Int)), (Vector.replicate 8 (default : Int)), (Vector.replicate 8 (default : Int))⟩ : GEpoch) b1).bind fun r1 =>
 (iter N (fun (s2 : Srecord_reader_epoch_407x4) next3 =>
 (bif (decide (s2.t10 < 8)) then
 ((Frecord_reader_small_407 N s2.b0 s2.b1).bind fun r4 =>
 (bif (ibB s2.t10 8) then
 (next3 ⟨(IntKind.i64.wrap (s2.t10 + 1)), r4.2.1, r4.2.2, (⟨s2.b3.Number, (vset s2.b3.States ((s2.t10).toNat) r4.1), s2.b3.Seals, s2.b3.Sponsor⟩ : GEpoch)⟩)
 else none))
 else
 ((Frecord_reader_vector_6ca N s2.b0 s2.b3 s2.b1).bind fun r5 =>
 (iter N (fun (s6 : Srecord_reader_epoch_407x10) next7 =>
 (bif (decide (s6.t22 < 8)) then
 ((Frecord_reader_small_407 N s6.b0 s6.b1).bind fun r8 =>
 (bif (ibB s6.t22 8) then
 (next7 ⟨(IntKind.i64.wrap (s6.t22 + 1)), r8.2.1, r8.2.2, (⟨s6.b3.Number, s6.b3.States, s6.b3.Seals, (vset s6.b3.Sponsor ((s6.t22).toNat) r8.1)⟩ : GEpoch)⟩)
 else none))
 else
 (some (s6.b3, s6.b0, s6.b1)))) ⟨0, r5.1, r5.2.2, r5.2.1⟩)))) ⟨0, r1.1, r1.2.2, r1.2.1⟩))
def conrecord_reader_epoch_407 : Con τ := { args := [.ptr 0 []], L := [.box (.agg [.ptr 1 [], .ty 35]), .box (.ty 99)], ret := .ty 30, L' := [.box (.agg [.ptr 1 [], .ty 35]), .box (.ty 99)], R := GEpoch × Int × Gwire_Writer, dflt := (default, default, default), F := fun N a b => Frecord_reader_epoch_407 N b.1.2.1 b.2.1, of := fun r => (r.1, (((), r.2.1, ()), r.2.2, ())) }
noncomputable def datrecord_reader_epoch_407 : Dat τ := { D := D0, tbl := tblOf [(98, conrecord_reader_ints_b1a), (104, conrecord_reader_small_407), (105, conrecord_reader_vector_6ca)], lp := lpsOf [(4, lprecord_reader_epoch_407x4), (10, lprecord_reader_epoch_407x10)], k0 := 2, mu := [], un := [] }
theorem okrecord_reader_epoch_407 : ConOk E C 59 conrecord_reader_epoch_407 :=
  con_ok (D := datrecord_reader_epoch_407) ⟨d0Ok, eGood, tblOf_ok ⟨okrecord_reader_ints_b1a, ⟨okrecord_reader_small_407, ⟨okrecord_reader_vector_6ca, trivial⟩⟩⟩, fun _ => rfl⟩ conrecord_reader_epoch_407 (fun a b => (a, b.1.2.1, b.2.1)) none (fun _ _ => rfl) rfl (fun _ _ h => nomatch h) 1000000 (fn := Tryz.f59) Tryz.func59 rfl (by kernel_rfl) (by kernel_rfl) rfl (by intro N a b; kernel_rfl)
def Frecord_reader_smalls_dcf (N : Nat) (b0 : Int) (b1 : GEntry) (b2 : Gwire_Writer) : Option (Int × GEntry × Gwire_Writer) :=
 ((Frecord_reader_small_407 N b0 b2).bind fun r1 =>
 (some (r1.2.1, (⟨b1.Kind, b1.Session, b1.Request, b1.Op, b1.Origin, b1.Seq, b1.Ops, b1.Epoch, r1.1, b1.Vector_, b1.Clock, b1.Part, b1.Site, b1.Sponsor, b1.Length⟩ : GEntry), r1.2.2)))
def conrecord_reader_smalls_dcf : Con τ := { args := [.ptr 0 [], .ls 1 [.ptr 1 [.fld 8 39]]], L := [.box (.agg [.ptr 2 [], .ty 35]), .box (.ty 64), .box (.ty 99)], ret := .tup [], L' := [.box (.agg [.ptr 2 [], .ty 35]), .box (.ty 64), .box (.ty 99)], R := Int × GEntry × Gwire_Writer, dflt := (default, default, default), F := fun N a b => Frecord_reader_smalls_dcf N b.1.2.1 b.2.1 b.2.2.1, of := fun r => ((), (((), r.1, ()), r.2.1, r.2.2, ())) }
noncomputable def datrecord_reader_smalls_dcf : Dat τ := { D := D0, tbl := tblOf [(104, conrecord_reader_small_407)], lp := lpsOf [], k0 := 3, mu := [], un := [(1, 3)] }
theorem okrecord_reader_smalls_dcf : ConOk E C 99 conrecord_reader_smalls_dcf :=
  con_ok (D := datrecord_reader_smalls_dcf) ⟨d0Ok, eGood, tblOf_ok ⟨okrecord_reader_small_407, trivial⟩, fun _ => rfl⟩ conrecord_reader_smalls_dcf (fun a b => (b.1.2.1, b.2.1, b.2.2.1)) none (fun _ _ => rfl) rfl (fun _ _ h => nomatch h) 1000000 (fn := Tryz.f99) Tryz.func99 rfl (by kernel_rfl) (by kernel_rfl) rfl (by intro N a b; kernel_rfl)
structure Srecord_reader_vector_a4ax1 where
  t5 : Int
  b0 : Int
  b1 : GEntry
  b2 : Gwire_Writer
def tsrecord_reader_vector_a4ax1 : List Sl := [.k, .k, .k, .k, .j, .sh (.ty 2), .j, .j, .j, .j, .j, .j, .j, .j, .j]
def hsrecord_reader_vector_a4ax1 : List ESh := [.box (.agg [.ptr 2 [], .ty 2]), .box (.ty 63), .box (.ty 86)]
def torecord_reader_vector_a4ax1 (a : Sl.Ts τ tsrecord_reader_vector_a4ax1) (b : ESh.Ts τ hsrecord_reader_vector_a4ax1) : Srecord_reader_vector_a4ax1 := ⟨a.2.2.2.2.2.1, b.1.2.1, b.2.1, b.2.2.1⟩
def otrecord_reader_vector_a4ax1 (s : Srecord_reader_vector_a4ax1) : Sl.Ts τ tsrecord_reader_vector_a4ax1 := ((), (), (), (), (), s.t5, (), (), (), (), (), (), (), (), (), ())
def ohrecord_reader_vector_a4ax1 (s : Srecord_reader_vector_a4ax1) : ESh.Ts τ hsrecord_reader_vector_a4ax1 := (((), s.b0, ()), s.b1, s.b2, ())
def lprecord_reader_vector_a4ax1 : Lp τ := { ts := tsrecord_reader_vector_a4ax1, hs := hsrecord_reader_vector_a4ax1, S := Srecord_reader_vector_a4ax1, to := torecord_reader_vector_a4ax1, ot := otrecord_reader_vector_a4ax1, oh := ohrecord_reader_vector_a4ax1, hk := [2, 2, 2], tk := [2, 3], ot_to := fun _ _ => rfl, oh_to := fun _ _ => rfl }
def Frecord_reader_vector_a4a (N : Nat) (b0 : Int) (b1 : GEntry) (b2 : Gwire_Writer) : Option (Int × GEntry × Gwire_Writer) :=
 (iter N (fun (s1 : Srecord_reader_vector_a4ax1) next2 =>
 (bif (decide (s1.t5 < 8)) then
 ((Frecord_reader_int_407 N s1.b0 s1.b2).bind fun r3 =>
 (bif (ibB s1.t5 8) then
 (next2 ⟨(IntKind.i64.wrap (s1.t5 + 1)), r3.2.1, (⟨s1.b1.Kind, s1.b1.Session, s1.b1.Request, s1.b1.Op, s1.b1.Origin, s1.b1.Seq, s1.b1.Ops, s1.b1.Epoch, s1.b1.From, (vset s1.b1.Vector_ ((s1.t5).toNat) r3.1), s1.b1.Clock, s1.b1.Part, s1.b1.Site, s1.b1.Sponsor, s1.b1.Length⟩ : GEntry), r3.2.2⟩)
 else none))
 else
 (some (s1.b0, s1.b1, s1.b2)))) ⟨0, b0, b1, b2⟩)
def conrecord_reader_vector_a4a : Con τ := { args := [.ptr 0 [], .ptr 1 [.fld 9 40]], L := [.box (.agg [.ptr 2 [], .ty 35]), .box (.ty 64), .box (.ty 99)], ret := .tup [], L' := [.box (.agg [.ptr 2 [], .ty 35]), .box (.ty 64), .box (.ty 99)], R := Int × GEntry × Gwire_Writer, dflt := (default, default, default), F := fun N a b => Frecord_reader_vector_a4a N b.1.2.1 b.2.1 b.2.2.1, of := fun r => ((), (((), r.1, ()), r.2.1, r.2.2, ())) }
noncomputable def datrecord_reader_vector_a4a : Dat τ := { D := D0, tbl := tblOf [(139, conrecord_reader_int_407)], lp := lpsOf [(1, lprecord_reader_vector_a4ax1)], k0 := 3, mu := [], un := [] }
theorem okrecord_reader_vector_a4a : ConOk E C 105 conrecord_reader_vector_a4a :=
  con_ok (D := datrecord_reader_vector_a4a) ⟨d0Ok, eGood, tblOf_ok ⟨okrecord_reader_int_407, trivial⟩, fun _ => rfl⟩ conrecord_reader_vector_a4a (fun a b => (b.1.2.1, b.2.1, b.2.2.1)) none (fun _ _ => rfl) rfl (fun _ _ h => nomatch h) 1000000 (fn := Tryz.f105) Tryz.func105 rfl (by kernel_rfl) (by kernel_rfl) rfl (by intro N a b; kernel_rfl)
end Go.Proofs.YteinehkdjkobnaaGreat
