/-
The functions of this seat, as plain functions over typed data, each with its contract. Printed by wip/tools/fngen.py.
-/
import Derived.Test.YtphjnagmlgmdfaaqCod
import Derived.Test.YtphjnagmlgmdfaaqTvX
import Derived.KernelRfl
set_option linter.unusedVariables false
set_option maxRecDepth 100000
namespace Go.Proofs.Ytphjnagmlgmdfaa
open Go Go.Ev
def Fstamp_Check (N : Nat) (s : GStamp) : Option (Bool) :=
 (some ((((decide (1 ≤ s.Time)) && (decide (s.Time ≤ 1099511627776))) && (decide (0 ≤ s.Site))) && (decide (s.Site < 8))))
def constamp_Check : Con τ := { args := [.ty 23], L := [], ret := .ty 4, L' := [], R := Bool, dflt := default, F := fun N a b => Fstamp_Check N a.1, of := fun r => (r, ()) }
noncomputable def datstamp_Check : Dat τ := { D := D0, tbl := tblOf [], lp := lpsOf [], k0 := 0, mu := [], un := [] }
theorem okstamp_Check : ConOk E C 25 constamp_Check :=
  con_ok (D := datstamp_Check) ⟨d0Ok, eGood, tblOf_ok trivial, fun _ => rfl⟩ constamp_Check (fun a b => a) none (fun _ _ => rfl) rfl (fun _ _ h => nomatch h) 1000000 (fn := Try.f25) Try.func25 rfl (by kernel_rfl) (by kernel_rfl) rfl (by intro N a b; kernel_rfl)
def Fstamp_Of (N : Nat) (node : Int) : Option (GStamp × Bool) :=
 (bif (decide (node < 16)) then
 (some ((⟨0, 0⟩ : GStamp), false))
 else
 ((Fstamp_Check N (⟨(IntKind.i64.wrap (Int.tdiv (IntKind.i64.wrap (node - 16)) 8)), (Int.tmod (IntKind.i64.wrap (node - 16)) 8)⟩ : GStamp)).bind fun r1 =>
 (bif (!r1) then
 (some ((⟨0, 0⟩ : GStamp), false))
 else
 (some ((⟨(IntKind.i64.wrap (Int.tdiv (IntKind.i64.wrap (node - 16)) 8)), (Int.tmod (IntKind.i64.wrap (node - 16)) 8)⟩ : GStamp), true)))))
def constamp_Of : Con τ := { args := [.ty 2], L := [], ret := .tup [.ty 23, .ty 4], L' := [], R := GStamp × Bool, dflt := (default, default), F := fun N a b => Fstamp_Of N a.1, of := fun r => ((r.1, r.2, ()), ()) }
noncomputable def datstamp_Of : Dat τ := { D := D0, tbl := tblOf [(25, constamp_Check)], lp := lpsOf [], k0 := 0, mu := [], un := [] }
theorem okstamp_Of : ConOk E C 10 constamp_Of :=
  con_ok (D := datstamp_Of) ⟨d0Ok, eGood, tblOf_ok ⟨okstamp_Check, trivial⟩, fun _ => rfl⟩ constamp_Of (fun a b => (a.1, a.2.1)) none (fun _ _ => rfl) rfl (fun _ _ h => nomatch h) 1000000 (fn := Try.f10) Try.func10 rfl (by kernel_rfl) (by kernel_rfl) rfl (by intro N a b; kernel_rfl)
def Fstamp_Node (N : Nat) (s : GStamp) : Option (Int) :=
 ((Fstamp_Check N s).bind fun r1 =>
 (bif (!r1) then
 (some 0)
 else
 (some (IntKind.i64.wrap ((IntKind.i64.wrap (16 + (IntKind.i64.wrap (s.Time * 8)))) + s.Site)))))
def constamp_Node : Con τ := { args := [.ty 23], L := [], ret := .ty 2, L' := [], R := Int, dflt := default, F := fun N a b => Fstamp_Node N a.1, of := fun r => (r, ()) }
noncomputable def datstamp_Node : Dat τ := { D := D0, tbl := tblOf [(25, constamp_Check)], lp := lpsOf [], k0 := 0, mu := [], un := [] }
theorem okstamp_Node : ConOk E C 13 constamp_Node :=
  con_ok (D := datstamp_Node) ⟨d0Ok, eGood, tblOf_ok ⟨okstamp_Check, trivial⟩, fun _ => rfl⟩ constamp_Node (fun a b => a) none (fun _ _ => rfl) rfl (fun _ _ h => nomatch h) 1000000 (fn := Try.f13) Try.func13 rfl (by kernel_rfl) (by kernel_rfl) rfl (by intro N a b; kernel_rfl)
def Flaw11_live (N : Nat)  : Option (Bool) :=
 ((Fstamp_Of N 24).bind fun r1 =>
 ((bif (r1.2 && ((r1.1.Time == 1) && (r1.1.Site == 0))) then Fstamp_Node N r1.1 else some default).bind fun r2 =>
 ((bif ((r1.2 && ((r1.1.Time == 1) && (r1.1.Site == 0))) && (r2 == 24)) then Fstamp_Check N r1.1 else some default).bind fun r3 =>
 (some (((r1.2 && ((r1.1.Time == 1) && (r1.1.Site == 0))) && (r2 == 24)) && r3)))))
def conlaw11_live : Con τ := { args := [], L := [], ret := .ty 4, L' := [], R := Bool, dflt := default, F := fun N a b => Flaw11_live N , of := fun r => (r, ()) }
noncomputable def datlaw11_live : Dat τ := { D := D0, tbl := tblOf [(10, constamp_Of), (13, constamp_Node), (25, constamp_Check)], lp := lpsOf [], k0 := 0, mu := [], un := [] }
theorem oklaw11_live : ConOk E C 12 conlaw11_live :=
  con_ok (D := datlaw11_live) ⟨d0Ok, eGood, tblOf_ok ⟨okstamp_Of, ⟨okstamp_Node, ⟨okstamp_Check, trivial⟩⟩⟩, fun _ => rfl⟩ conlaw11_live (fun a b => a) none (fun _ _ => rfl) rfl (fun _ _ h => nomatch h) 1000000 (fn := Try.f12) Try.func12 rfl (by kernel_rfl) (by kernel_rfl) rfl (by intro N a b; kernel_rfl)
def Fstamp_top (N : Nat) (node : Int) : Option (Bool) :=
 (some ((node == 1) || (node == 2)))
def constamp_top : Con τ := { args := [.ty 2], L := [], ret := .ty 4, L' := [], R := Bool, dflt := default, F := fun N a b => Fstamp_top N a.1, of := fun r => (r, ()) }
noncomputable def datstamp_top : Dat τ := { D := D0, tbl := tblOf [], lp := lpsOf [], k0 := 0, mu := [], un := [] }
theorem okstamp_top : ConOk E C 43 constamp_top :=
  con_ok (D := datstamp_top) ⟨d0Ok, eGood, tblOf_ok trivial, fun _ => rfl⟩ constamp_top (fun a b => a) none (fun _ _ => rfl) rfl (fun _ _ h => nomatch h) 1000000 (fn := Try.f43) Try.func43 rfl (by kernel_rfl) (by kernel_rfl) rfl (by intro N a b; kernel_rfl)
def Fstamp_made (N : Nat) (node : Int) : Option (Bool) :=
 ((Fstamp_Of N node).bind fun r1 =>
 (some r1.2))
def constamp_made : Con τ := { args := [.ty 2], L := [], ret := .ty 4, L' := [], R := Bool, dflt := default, F := fun N a b => Fstamp_made N a.1, of := fun r => (r, ()) }
noncomputable def datstamp_made : Dat τ := { D := D0, tbl := tblOf [(10, constamp_Of)], lp := lpsOf [], k0 := 0, mu := [], un := [] }
theorem okstamp_made : ConOk E C 42 constamp_made :=
  con_ok (D := datstamp_made) ⟨d0Ok, eGood, tblOf_ok ⟨okstamp_Of, trivial⟩, fun _ => rfl⟩ constamp_made (fun a b => a) none (fun _ _ => rfl) rfl (fun _ _ h => nomatch h) 1000000 (fn := Try.f42) Try.func42 rfl (by kernel_rfl) (by kernel_rfl) rfl (by intro N a b; kernel_rfl)
def Finternal_bytealg_IndexByteString (N : Nat) (s : List UInt8) (c : Int) : Option (Int) :=
 (some (Lib.indexByte s c.toNat.toUInt8))
def coninternal_bytealg_IndexByteString : Con τ := { args := [.ty 9, .ty 5], L := [], ret := .ty 3, L' := [], R := Int, dflt := default, F := fun N a b => Finternal_bytealg_IndexByteString N a.1 a.2.1, of := fun r => (r, ()), ext := true }
theorem okinternal_bytealg_IndexByteString : ConOk E C 57 coninternal_bytealg_IndexByteString :=
  con_ibs (fn := Try.f57) Try.func57 (by kernel_rfl) (by kernel_rfl) (by kernel_rfl) (by kernel_rfl) coninternal_bytealg_IndexByteString rfl rfl (fun a => a.1) (fun a => a.2.1) (fun _ => rfl) (fun _ => rfl) (fun N a b r h => by have h' : some (Lib.indexByte a.1 a.2.1.toNat.toUInt8) = some r := h; cases h'; exact ⟨rfl, rfl⟩)
def Finternal_stringslite_IndexByte (N : Nat) (s : List UInt8) (c : Int) : Option (Int) :=
 ((Finternal_bytealg_IndexByteString N s c).bind fun r1 =>
 (some r1))
def coninternal_stringslite_IndexByte : Con τ := { args := [.ty 9, .ty 5], L := [], ret := .ty 3, L' := [], R := Int, dflt := default, F := fun N a b => Finternal_stringslite_IndexByte N a.1 a.2.1, of := fun r => (r, ()) }
noncomputable def datinternal_stringslite_IndexByte : Dat τ := { D := D0, tbl := tblOf [(57, coninternal_bytealg_IndexByteString)], lp := lpsOf [], k0 := 0, mu := [], un := [] }
theorem okinternal_stringslite_IndexByte : ConOk E C 53 coninternal_stringslite_IndexByte :=
  con_ok (D := datinternal_stringslite_IndexByte) ⟨d0Ok, eGood, tblOf_ok ⟨okinternal_bytealg_IndexByteString, trivial⟩, fun _ => rfl⟩ coninternal_stringslite_IndexByte (fun a b => a) none (fun _ _ => rfl) rfl (fun _ _ h => nomatch h) 1000000 (fn := Try.f53) Try.func53 rfl (by kernel_rfl) (by kernel_rfl) rfl (by intro N a b; kernel_rfl)
def Finternal_stringslite_Index (N : Nat) (s : List UInt8) (substr : List UInt8) : Option (Int) :=
 (bif ((((substr).length : Int) == 0) || (substr == s)) then
 (some 0)
 else
 (bif (((substr).length : Int) == 1) then
 (bif (ibB 0 ((substr).length : Int)) then
 ((Finternal_stringslite_IndexByte N s (((substr).getD 0 0).toNat : Int)).bind fun r1 =>
 (some r1))
 else none)
 else
 (bif (decide (((s).length : Int) ≤ ((substr).length : Int))) then
 (some (-1))
 else
 none)))
def coninternal_stringslite_Index : Con τ := { args := [.ty 9, .ty 9], L := [], ret := .ty 3, L' := [], R := Int, dflt := default, F := fun N a b => Finternal_stringslite_Index N a.1 a.2.1, of := fun r => (r, ()) }
noncomputable def datinternal_stringslite_Index : Dat τ := { D := D0, tbl := tblOf [(53, coninternal_stringslite_IndexByte)], lp := lpsOf [], k0 := 0, mu := [], un := [] }
theorem okinternal_stringslite_Index : ConOk E C 52 coninternal_stringslite_Index :=
  con_ok (D := datinternal_stringslite_Index) ⟨d0Ok, eGood, tblOf_ok ⟨okinternal_stringslite_IndexByte, trivial⟩, fun _ => rfl⟩ coninternal_stringslite_Index (fun a b => a) none (fun _ _ => rfl) rfl (fun _ _ h => nomatch h) 1000000 (fn := Try.f52) Try.func52 rfl (by kernel_rfl) (by kernel_rfl) rfl (by intro N a b; kernel_rfl)
def Fstrings_Index (N : Nat) (s : List UInt8) (substr : List UInt8) : Option (Int) :=
 ((Finternal_stringslite_Index N s substr).bind fun r1 =>
 (some r1))
def constrings_Index : Con τ := { args := [.ty 9, .ty 9], L := [], ret := .ty 3, L' := [], R := Int, dflt := default, F := fun N a b => Fstrings_Index N a.1 a.2.1, of := fun r => (r, ()) }
noncomputable def datstrings_Index : Dat τ := { D := D0, tbl := tblOf [(52, coninternal_stringslite_Index)], lp := lpsOf [], k0 := 0, mu := [], un := [] }
theorem okstrings_Index : ConOk E C 51 constrings_Index :=
  con_ok (D := datstrings_Index) ⟨d0Ok, eGood, tblOf_ok ⟨okinternal_stringslite_Index, trivial⟩, fun _ => rfl⟩ constrings_Index (fun a b => a) none (fun _ _ => rfl) rfl (fun _ _ h => nomatch h) 1000000 (fn := Try.f51) Try.func51 rfl (by kernel_rfl) (by kernel_rfl) rfl (by intro N a b; kernel_rfl)
def Fstrings_Contains (N : Nat) (s : List UInt8) (substr : List UInt8) : Option (Bool) :=
 ((Fstrings_Index N s substr).bind fun r1 =>
 (some (decide (0 ≤ r1))))
def constrings_Contains : Con τ := { args := [.ty 9, .ty 9], L := [], ret := .ty 4, L' := [], R := Bool, dflt := default, F := fun N a b => Fstrings_Contains N a.1 a.2.1, of := fun r => (r, ()) }
noncomputable def datstrings_Contains : Dat τ := { D := D0, tbl := tblOf [(51, constrings_Index)], lp := lpsOf [], k0 := 0, mu := [], un := [] }
theorem okstrings_Contains : ConOk E C 49 constrings_Contains :=
  con_ok (D := datstrings_Contains) ⟨d0Ok, eGood, tblOf_ok ⟨okstrings_Index, trivial⟩, fun _ => rfl⟩ constrings_Contains (fun a b => a) none (fun _ _ => rfl) rfl (fun _ _ h => nomatch h) 1000000 (fn := Try.f49) Try.func49 rfl (by kernel_rfl) (by kernel_rfl) rfl (by intro N a b; kernel_rfl)
def Fstamp_place (N : Nat) (op : GOp) : Option (Int) :=
 ((Fstamp_top N op.Parent).bind fun r1 =>
 ((bif (!r1) then Fstamp_made N op.Parent else some default).bind fun r2 =>
 (bif ((!r1) && (!r2)) then
 (some 1)
 else
 (bif (decide (255 < ((op.Name).length : Int))) then
 (some 3)
 else
 ((bif (!(((op.Name == []) || (op.Name == [46])) || (op.Name == [46, 46]))) then Fstrings_Contains N op.Name [47] else some default).bind fun r3 =>
 (bif ((((((op.Name == []) || (op.Name == [46])) || (op.Name == [46, 46])) || r3) || (!(op.Key == []))) || (!(op.Value == []))) then
 (some 1)
 else
 (some 0)))))))
def constamp_place : Con τ := { args := [.ty 48], L := [], ret := .ty 49, L' := [], R := Int, dflt := default, F := fun N a b => Fstamp_place N a.1, of := fun r => (r, ()) }
noncomputable def datstamp_place : Dat τ := { D := D0, tbl := tblOf [(43, constamp_top), (42, constamp_made), (49, constrings_Contains)], lp := lpsOf [], k0 := 0, mu := [], un := [] }
theorem okstamp_place : ConOk E C 41 constamp_place :=
  con_ok (D := datstamp_place) ⟨d0Ok, eGood, tblOf_ok ⟨okstamp_top, ⟨okstamp_made, ⟨okstrings_Contains, trivial⟩⟩⟩, fun _ => rfl⟩ constamp_place (fun a b => a) none (fun _ _ => rfl) rfl (fun _ _ h => nomatch h) 1000000 (fn := Try.f41) Try.func41 rfl (by kernel_rfl) (by kernel_rfl) rfl (by intro N a b; kernel_rfl)
def Fstamp_CheckOp (N : Nat) (op : GOp) : Option (Int) :=
 ((Fstamp_Check N op.Stamp).bind fun r1 =>
 ((bif ((!(((!r1) || (decide (op.Kind < 1))) || (decide (3 < op.Kind)))) && (op.Kind == 1)) then Fstamp_Node N op.Stamp else some default).bind fun r2 =>
 (bif ((((!r1) || (decide (op.Kind < 1))) || (decide (3 < op.Kind))) || ((op.Kind == 1) && (!(op.Node == r2)))) then
 (some 1)
 else
 (bif (!(op.Kind == 3)) then
 ((Fstamp_place N op).bind fun r3 =>
 (bif (!(r3 == 0)) then
 (some r3)
 else
 (bif (op.Kind == 2) then
 ((Fstamp_made N op.Node).bind fun r4 =>
 (bif (!r4) then
 (some 1)
 else
 (some 0)))
 else
 (bif (op.Kind == 3) then
 ((Fstamp_made N op.Node).bind fun r5 =>
 ((bif (!r5) then Fstamp_top N op.Node else some default).bind fun r6 =>
 (bif ((!r5) && (!r6)) then
 (some 1)
 else
 (bif ((decide (255 < ((op.Key).length : Int))) || (decide (255 < ((op.Value).length : Int)))) then
 (some 3)
 else
 (bif (((op.Key == []) || (!(op.Parent == 0))) || (!(op.Name == []))) then
 (some 1)
 else
 (some 0))))))
 else
 (some 0)))))
 else
 (bif (op.Kind == 2) then
 ((Fstamp_made N op.Node).bind fun r7 =>
 (bif (!r7) then
 (some 1)
 else
 (some 0)))
 else
 (bif (op.Kind == 3) then
 ((Fstamp_made N op.Node).bind fun r8 =>
 ((bif (!r8) then Fstamp_top N op.Node else some default).bind fun r9 =>
 (bif ((!r8) && (!r9)) then
 (some 1)
 else
 (bif ((decide (255 < ((op.Key).length : Int))) || (decide (255 < ((op.Value).length : Int)))) then
 (some 3)
 else
 (bif (((op.Key == []) || (!(op.Parent == 0))) || (!(op.Name == []))) then
 (some 1)
 else
 (some 0))))))
 else
 (some 0)))))))
def constamp_CheckOp : Con τ := { args := [.ty 48], L := [], ret := .ty 49, L' := [], R := Int, dflt := default, F := fun N a b => Fstamp_CheckOp N a.1, of := fun r => (r, ()) }
noncomputable def datstamp_CheckOp : Dat τ := { D := D0, tbl := tblOf [(25, constamp_Check), (13, constamp_Node), (41, constamp_place), (42, constamp_made), (43, constamp_top)], lp := lpsOf [], k0 := 0, mu := [], un := [] }
theorem okstamp_CheckOp : ConOk E C 31 constamp_CheckOp :=
  con_ok (D := datstamp_CheckOp) ⟨d0Ok, eGood, tblOf_ok ⟨okstamp_Check, ⟨okstamp_Node, ⟨okstamp_place, ⟨okstamp_made, ⟨okstamp_top, trivial⟩⟩⟩⟩⟩, fun _ => rfl⟩ constamp_CheckOp (fun a b => a) none (fun _ _ => rfl) rfl (fun _ _ h => nomatch h) 1000000 (fn := Try.f31) Try.func31 rfl (by kernel_rfl) (by kernel_rfl) rfl (by intro N a b; kernel_rfl)
def Fref11_Site (N : Nat) (n : Int) : Option (Bool) :=
 (some ((decide (0 ≤ n)) && (decide (n < 8))))
def conref11_Site : Con τ := { args := [.ty 3], L := [], ret := .ty 4, L' := [], R := Bool, dflt := default, F := fun N a b => Fref11_Site N a.1, of := fun r => (r, ()) }
noncomputable def datref11_Site : Dat τ := { D := D0, tbl := tblOf [], lp := lpsOf [], k0 := 0, mu := [], un := [] }
theorem okref11_Site : ConOk E C 37 conref11_Site :=
  con_ok (D := datref11_Site) ⟨d0Ok, eGood, tblOf_ok trivial, fun _ => rfl⟩ conref11_Site (fun a b => a) none (fun _ _ => rfl) rfl (fun _ _ h => nomatch h) 1000000 (fn := Try.f37) Try.func37 rfl (by kernel_rfl) (by kernel_rfl) rfl (by intro N a b; kernel_rfl)
def Fref11_Check (N : Nat) (s : GStamp) : Option (Bool) :=
 ((bif ((decide (1 ≤ s.Time)) && (decide (s.Time ≤ 1099511627776))) then Fref11_Site N s.Site else some default).bind fun r1 =>
 (some (((decide (1 ≤ s.Time)) && (decide (s.Time ≤ 1099511627776))) && r1)))
def conref11_Check : Con τ := { args := [.ty 23], L := [], ret := .ty 4, L' := [], R := Bool, dflt := default, F := fun N a b => Fref11_Check N a.1, of := fun r => (r, ()) }
noncomputable def datref11_Check : Dat τ := { D := D0, tbl := tblOf [(37, conref11_Site)], lp := lpsOf [], k0 := 0, mu := [], un := [] }
theorem okref11_Check : ConOk E C 26 conref11_Check :=
  con_ok (D := datref11_Check) ⟨d0Ok, eGood, tblOf_ok ⟨okref11_Site, trivial⟩, fun _ => rfl⟩ conref11_Check (fun a b => a) none (fun _ _ => rfl) rfl (fun _ _ h => nomatch h) 1000000 (fn := Try.f26) Try.func26 rfl (by kernel_rfl) (by kernel_rfl) rfl (by intro N a b; kernel_rfl)
def Fref11_Node (N : Nat) (s : GStamp) : Option (Int) :=
 ((Fref11_Check N s).bind fun r1 =>
 (bif (!r1) then
 (some 0)
 else
 (some (IntKind.i64.wrap ((IntKind.i64.wrap (16 + (IntKind.i64.wrap (s.Time * 8)))) + s.Site)))))
def conref11_Node : Con τ := { args := [.ty 23], L := [], ret := .ty 2, L' := [], R := Int, dflt := default, F := fun N a b => Fref11_Node N a.1, of := fun r => (r, ()) }
noncomputable def datref11_Node : Dat τ := { D := D0, tbl := tblOf [(26, conref11_Check)], lp := lpsOf [], k0 := 0, mu := [], un := [] }
theorem okref11_Node : ConOk E C 14 conref11_Node :=
  con_ok (D := datref11_Node) ⟨d0Ok, eGood, tblOf_ok ⟨okref11_Check, trivial⟩, fun _ => rfl⟩ conref11_Node (fun a b => a) none (fun _ _ => rfl) rfl (fun _ _ h => nomatch h) 1000000 (fn := Try.f14) Try.func14 rfl (by kernel_rfl) (by kernel_rfl) rfl (by intro N a b; kernel_rfl)
def Fref11_top (N : Nat) (node : Int) : Option (Bool) :=
 (some ((node == 1) || (node == 2)))
def conref11_top : Con τ := { args := [.ty 2], L := [], ret := .ty 4, L' := [], R := Bool, dflt := default, F := fun N a b => Fref11_top N a.1, of := fun r => (r, ()) }
noncomputable def datref11_top : Dat τ := { D := D0, tbl := tblOf [], lp := lpsOf [], k0 := 0, mu := [], un := [] }
theorem okref11_top : ConOk E C 46 conref11_top :=
  con_ok (D := datref11_top) ⟨d0Ok, eGood, tblOf_ok trivial, fun _ => rfl⟩ conref11_top (fun a b => a) none (fun _ _ => rfl) rfl (fun _ _ h => nomatch h) 1000000 (fn := Try.f46) Try.func46 rfl (by kernel_rfl) (by kernel_rfl) rfl (by intro N a b; kernel_rfl)
def Fref11_Of (N : Nat) (node : Int) : Option (GStamp × Bool) :=
 (bif (decide (node < 16)) then
 (some ((⟨0, 0⟩ : GStamp), false))
 else
 ((Fref11_Check N (⟨(IntKind.i64.wrap (Int.tdiv (IntKind.i64.wrap (node - 16)) 8)), (Int.tmod (IntKind.i64.wrap (node - 16)) 8)⟩ : GStamp)).bind fun r1 =>
 (bif (!r1) then
 (some ((⟨0, 0⟩ : GStamp), false))
 else
 (some ((⟨(IntKind.i64.wrap (Int.tdiv (IntKind.i64.wrap (node - 16)) 8)), (Int.tmod (IntKind.i64.wrap (node - 16)) 8)⟩ : GStamp), true)))))
def conref11_Of : Con τ := { args := [.ty 2], L := [], ret := .tup [.ty 23, .ty 4], L' := [], R := GStamp × Bool, dflt := (default, default), F := fun N a b => Fref11_Of N a.1, of := fun r => ((r.1, r.2, ()), ()) }
noncomputable def datref11_Of : Dat τ := { D := D0, tbl := tblOf [(26, conref11_Check)], lp := lpsOf [], k0 := 0, mu := [], un := [] }
theorem okref11_Of : ConOk E C 11 conref11_Of :=
  con_ok (D := datref11_Of) ⟨d0Ok, eGood, tblOf_ok ⟨okref11_Check, trivial⟩, fun _ => rfl⟩ conref11_Of (fun a b => (a.1, a.2.1)) none (fun _ _ => rfl) rfl (fun _ _ h => nomatch h) 1000000 (fn := Try.f11) Try.func11 rfl (by kernel_rfl) (by kernel_rfl) rfl (by intro N a b; kernel_rfl)
def Fref11_made (N : Nat) (node : Int) : Option (Bool) :=
 ((Fref11_Of N node).bind fun r1 =>
 (some r1.2))
def conref11_made : Con τ := { args := [.ty 2], L := [], ret := .ty 4, L' := [], R := Bool, dflt := default, F := fun N a b => Fref11_made N a.1, of := fun r => (r, ()) }
noncomputable def datref11_made : Dat τ := { D := D0, tbl := tblOf [(11, conref11_Of)], lp := lpsOf [], k0 := 0, mu := [], un := [] }
theorem okref11_made : ConOk E C 45 conref11_made :=
  con_ok (D := datref11_made) ⟨d0Ok, eGood, tblOf_ok ⟨okref11_Of, trivial⟩, fun _ => rfl⟩ conref11_made (fun a b => a) none (fun _ _ => rfl) rfl (fun _ _ h => nomatch h) 1000000 (fn := Try.f45) Try.func45 rfl (by kernel_rfl) (by kernel_rfl) rfl (by intro N a b; kernel_rfl)
structure Sref11_namex6 where
  i : Int
def tsref11_namex6 : List Sl := [.k, .k, .j, .sh (.ty 2), .k, .k, .k, .k, .k, .k, .j, .j, .k, .k, .j, .j, .k, .j, .j, .j, .j, .j, .j, .j, .j, .j, .j]
def hsref11_namex6 : List ESh := []
def toref11_namex6 (a : Sl.Ts τ tsref11_namex6) (b : ESh.Ts τ hsref11_namex6) : Sref11_namex6 := ⟨a.2.2.2.1⟩
def otref11_namex6 (s : Sref11_namex6) : Sl.Ts τ tsref11_namex6 := ((), (), (), s.i, (), (), (), (), (), (), (), (), (), (), (), (), (), (), (), (), (), (), (), (), (), (), (), ())
def ohref11_namex6 (s : Sref11_namex6) : ESh.Ts τ hsref11_namex6 := ()
def lpref11_namex6 : Lp τ := { ts := tsref11_namex6, hs := hsref11_namex6, S := Sref11_namex6, to := toref11_namex6, ot := otref11_namex6, oh := ohref11_namex6, hk := [], tk := [], ot_to := fun _ _ => rfl, oh_to := fun _ _ => rfl }
def Fref11_name (N : Nat) (s : List UInt8) : Option (Int) :=
 (bif (decide (255 < ((s).length : Int))) then
 (some 3)
 else
 (bif (((s == []) || (s == [46])) || (s == [46, 46])) then
 (some 1)
 else
 (iter N (fun (s1 : Sref11_namex6) next2 =>
 (bif (decide (s1.i < ((s).length : Int))) then
 (bif (ibB s1.i ((s).length : Int)) then
 (bif ((((s).getD ((s1.i).toNat) 0).toNat : Int) == 47) then
 (some 1)
 else
 (next2 ⟨(IntKind.i64.wrap (s1.i + 1))⟩))
 else none)
 else
 (some 0))) ⟨0⟩)))
def conref11_name : Con τ := { args := [.ty 9], L := [], ret := .ty 49, L' := [], R := Int, dflt := default, F := fun N a b => Fref11_name N a.1, of := fun r => (r, ()) }
noncomputable def datref11_name : Dat τ := { D := D0, tbl := tblOf [], lp := lpsOf [(6, lpref11_namex6)], k0 := 0, mu := [], un := [] }
theorem okref11_name : ConOk E C 50 conref11_name :=
  con_ok (D := datref11_name) ⟨d0Ok, eGood, tblOf_ok trivial, fun _ => rfl⟩ conref11_name (fun a b => a) none (fun _ _ => rfl) rfl (fun _ _ h => nomatch h) 1000000 (fn := Try.f50) Try.func50 rfl (by kernel_rfl) (by kernel_rfl) rfl (by intro N a b; kernel_rfl)
def Fref11_place (N : Nat) (op : GOp) : Option (Int) :=
 ((Fref11_top N op.Parent).bind fun r1 =>
 ((bif (!r1) then Fref11_made N op.Parent else some default).bind fun r2 =>
 (bif ((!r1) && (!r2)) then
 (some 1)
 else
 ((Fref11_name N op.Name).bind fun r3 =>
 (bif (!(r3 == 0)) then
 (some r3)
 else
 (bif ((!(op.Key == [])) || (!(op.Value == []))) then
 (some 1)
 else
 (some 0)))))))
def conref11_place : Con τ := { args := [.ty 48], L := [], ret := .ty 49, L' := [], R := Int, dflt := default, F := fun N a b => Fref11_place N a.1, of := fun r => (r, ()) }
noncomputable def datref11_place : Dat τ := { D := D0, tbl := tblOf [(46, conref11_top), (45, conref11_made), (50, conref11_name)], lp := lpsOf [], k0 := 0, mu := [], un := [] }
theorem okref11_place : ConOk E C 44 conref11_place :=
  con_ok (D := datref11_place) ⟨d0Ok, eGood, tblOf_ok ⟨okref11_top, ⟨okref11_made, ⟨okref11_name, trivial⟩⟩⟩, fun _ => rfl⟩ conref11_place (fun a b => a) none (fun _ _ => rfl) rfl (fun _ _ h => nomatch h) 1000000 (fn := Try.f44) Try.func44 rfl (by kernel_rfl) (by kernel_rfl) rfl (by intro N a b; kernel_rfl)
def Fref11_CheckOp (N : Nat) (op : GOp) : Option (Int) :=
 ((Fref11_Check N op.Stamp).bind fun r1 =>
 (bif (((!r1) || (decide (op.Kind < 1))) || (decide (3 < op.Kind))) then
 (some 1)
 else
 ((bif (op.Kind == 1) then Fref11_Node N op.Stamp else some default).bind fun r2 =>
 (bif ((op.Kind == 1) && (!(op.Node == r2))) then
 (some 1)
 else
 (bif (!(op.Kind == 3)) then
 ((Fref11_place N op).bind fun r3 =>
 (bif (!(r3 == 0)) then
 (some r3)
 else
 ((bif (op.Kind == 2) then Fref11_made N op.Node else some default).bind fun r4 =>
 ((bif ((!((op.Kind == 2) && (!r4))) && (op.Kind == 3)) then Fref11_made N op.Node else some default).bind fun r5 =>
 ((bif ((!((op.Kind == 2) && (!r4))) && ((op.Kind == 3) && (!r5))) then Fref11_top N op.Node else some default).bind fun r6 =>
 (bif (((op.Kind == 2) && (!r4)) || (((op.Kind == 3) && (!r5)) && (!r6))) then
 (some 1)
 else
 (bif (!(op.Kind == 3)) then
 (some 0)
 else
 (bif ((decide (255 < ((op.Key).length : Int))) || (decide (255 < ((op.Value).length : Int)))) then
 (some 3)
 else
 (bif (((op.Key == []) || (!(op.Parent == 0))) || (!(op.Name == []))) then
 (some 1)
 else
 (some 0))))))))))
 else
 ((bif (op.Kind == 2) then Fref11_made N op.Node else some default).bind fun r7 =>
 ((bif ((!((op.Kind == 2) && (!r7))) && (op.Kind == 3)) then Fref11_made N op.Node else some default).bind fun r8 =>
 ((bif ((!((op.Kind == 2) && (!r7))) && ((op.Kind == 3) && (!r8))) then Fref11_top N op.Node else some default).bind fun r9 =>
 (bif (((op.Kind == 2) && (!r7)) || (((op.Kind == 3) && (!r8)) && (!r9))) then
 (some 1)
 else
 (bif (!(op.Kind == 3)) then
 (some 0)
 else
 (bif ((decide (255 < ((op.Key).length : Int))) || (decide (255 < ((op.Value).length : Int)))) then
 (some 3)
 else
 (bif (((op.Key == []) || (!(op.Parent == 0))) || (!(op.Name == []))) then
 (some 1)
 else
 (some 0)))))))))))))
def conref11_CheckOp : Con τ := { args := [.ty 48], L := [], ret := .ty 49, L' := [], R := Int, dflt := default, F := fun N a b => Fref11_CheckOp N a.1, of := fun r => (r, ()) }
noncomputable def datref11_CheckOp : Dat τ := { D := D0, tbl := tblOf [(26, conref11_Check), (14, conref11_Node), (44, conref11_place), (45, conref11_made), (46, conref11_top)], lp := lpsOf [], k0 := 0, mu := [], un := [] }
theorem okref11_CheckOp : ConOk E C 32 conref11_CheckOp :=
  con_ok (D := datref11_CheckOp) ⟨d0Ok, eGood, tblOf_ok ⟨okref11_Check, ⟨okref11_Node, ⟨okref11_place, ⟨okref11_made, ⟨okref11_top, trivial⟩⟩⟩⟩⟩, fun _ => rfl⟩ conref11_CheckOp (fun a b => a) none (fun _ _ => rfl) rfl (fun _ _ h => nomatch h) 1000000 (fn := Try.f32) Try.func32 rfl (by kernel_rfl) (by kernel_rfl) rfl (by intro N a b; kernel_rfl)
def Flaw11_StampOps (N : Nat) (op : GOp) : Option (Bool) :=
 ((Flaw11_live N).bind fun r1 =>
 ((bif r1 then Fstamp_CheckOp N op else some default).bind fun r2 =>
 ((bif r1 then Fref11_CheckOp N op else some default).bind fun r3 =>
 (some (r1 && (r2 == r3))))))
def conlaw11_StampOps : Con τ := { args := [.ty 48], L := [], ret := .ty 4, L' := [], R := Bool, dflt := default, F := fun N a b => Flaw11_StampOps N a.1, of := fun r => (r, ()) }
noncomputable def datlaw11_StampOps : Dat τ := { D := D0, tbl := tblOf [(12, conlaw11_live), (31, constamp_CheckOp), (32, conref11_CheckOp)], lp := lpsOf [], k0 := 0, mu := [], un := [] }
theorem oklaw11_StampOps : ConOk E C 9 conlaw11_StampOps :=
  con_ok (D := datlaw11_StampOps) ⟨d0Ok, eGood, tblOf_ok ⟨oklaw11_live, ⟨okstamp_CheckOp, ⟨okref11_CheckOp, trivial⟩⟩⟩, fun _ => rfl⟩ conlaw11_StampOps (fun a b => a) none (fun _ _ => rfl) rfl (fun _ _ h => nomatch h) 1000000 (fn := Try.f9) Try.func9 rfl (by kernel_rfl) (by kernel_rfl) rfl (by intro N a b; kernel_rfl)
end Go.Proofs.Ytphjnagmlgmdfaa
