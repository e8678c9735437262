/-
The functions of this seat, as plain functions over typed data, each with its contract. Printed by wip/tools/fngen.py.
-/
import Derived.Test.YtjjnclgkppbpnaaqFba
import Derived.Test.YtjjnclgkppbpnaaqTvW
import Derived.KernelRfl
set_option linter.unusedVariables false
set_option maxRecDepth 100000
namespace Go.Proofs.Ytjjnclgkppbpnaa
open Go Go.Ev
def Fwire_Writer_Out_052 (N : Nat) (b0 : Bool) (b02 : List (Int)) : Option ((List (Int)) × Bool × (List (Int))) :=
 ((Fwire_Writer_none_052 N b0 b02).bind fun r1 =>
 (bif r1.1 then
 (some ([], r1.2.1, r1.2.2))
 else
 ((Fslices_Clone_byte N r1.2.2).bind fun r2 =>
 (some (r2, r1.2.1, r1.2.2)))))
def conwire_Writer_Out_052 : Con τ := { args := [.ptr 0 []], L := [.box (.agg [.ty 4, .own 5 1]), .tail], ret := .ty 34, L' := [.box (.agg [.ty 4, .own 5 1]), .tail], R := (List (Int)) × Bool × (List (Int)), dflt := (default, default, default), F := fun N a b => Fwire_Writer_Out_052 N b.1.1 b.1.2.1, of := fun r => (r.1, ((r.2.1, r.2.2, ()), (), ())) }
noncomputable def datwire_Writer_Out_052 : Dat τ := { D := D0, tbl := tblOf [(65, conwire_Writer_none_052), (66, conslices_Clone_byte)], lp := lpsOf [], k0 := 2, mu := [], un := [] }
theorem okwire_Writer_Out_052 : ConOk E C 44 conwire_Writer_Out_052 :=
  con_ok (D := datwire_Writer_Out_052) ⟨d0Ok, eGood, tblOf_ok ⟨okwire_Writer_none_052, ⟨okslices_Clone_byte, trivial⟩⟩, fun _ => rfl⟩ conwire_Writer_Out_052 (fun a b => (a, b.1.1, b.1.2.1)) none (fun _ _ => rfl) rfl (fun _ _ h => nomatch h) 1000000 (fn := Try.f44) Try.func44 rfl (by kernel_rfl) (by kernel_rfl) rfl (by intro N a b; kernel_rfl)
structure Sepoch_Machine_Bytes_ce0x6 where
  t21 : Int
  b2 : Bool
  b22 : List (Int)
def tsepoch_Machine_Bytes_ce0x6 : List Sl := [.k, .k, .k, .k, .k, .j, .k, .k, .k, .k, .k, .k, .k, .k, .k, .k, .k, .k, .k, .k, .k, .sh (.ty 2), .j, .j, .j, .j, .j, .j, .j, .k, .k]
def hsepoch_Machine_Bytes_ce0x6 : List ESh := [.keep, .keep, .box (.agg [.ty 4, .own 5 5]), .keep, .dead, .tail]
def toepoch_Machine_Bytes_ce0x6 (a : Sl.Ts τ tsepoch_Machine_Bytes_ce0x6) (b : ESh.Ts τ hsepoch_Machine_Bytes_ce0x6) : Sepoch_Machine_Bytes_ce0x6 := ⟨a.2.2.2.2.2.2.2.2.2.2.2.2.2.2.2.2.2.2.2.2.2.1, b.2.2.1.1, b.2.2.1.2.1⟩
def otepoch_Machine_Bytes_ce0x6 (s : Sepoch_Machine_Bytes_ce0x6) : Sl.Ts τ tsepoch_Machine_Bytes_ce0x6 := ((), (), (), (), (), (), (), (), (), (), (), (), (), (), (), (), (), (), (), (), (), s.t21, (), (), (), (), (), (), (), (), (), ())
def ohepoch_Machine_Bytes_ce0x6 (s : Sepoch_Machine_Bytes_ce0x6) : ESh.Ts τ hsepoch_Machine_Bytes_ce0x6 := ((), (), (s.b2, s.b22, ()), (), (), (), ())
def lpepoch_Machine_Bytes_ce0x6 : Lp τ := { ts := tsepoch_Machine_Bytes_ce0x6, hs := hsepoch_Machine_Bytes_ce0x6, S := Sepoch_Machine_Bytes_ce0x6, to := toepoch_Machine_Bytes_ce0x6, ot := otepoch_Machine_Bytes_ce0x6, oh := ohepoch_Machine_Bytes_ce0x6, hk := [2, 5, 2, 1, 5], tk := [2, 0, 0, 4, 0, 0, 2, 0, 4, 4, 2, 2, 2, 0, 0, 0, 2, 2, 2], ot_to := fun _ _ => rfl, oh_to := fun _ _ => rfl }
def Fepoch_Machine_Bytes_ce0 (N : Nat) (b0 : List (GEpoch)) : Option ((List (Int)) × (List (GEpoch))) :=
 ((Fepoch_Machine_none_ce0 N b0).bind fun r1 =>
 (bif r1.1 then
 (some ([], r1.2))
 else
 ((Fwire_NewWriter N).bind fun r2 =>
 ((Fwire_Writer_Int_816 N ((r1.2).length : Int) r2.1 r2.2).bind fun r3 =>
 (iter N (fun (s4 : Sepoch_Machine_Bytes_ce0x6) next5 =>
 (bif (decide (s4.t21 < ((r1.2).length : Int))) then
 (bif (ibB s4.t21 ((r1.2).length : Int)) then
 ((Frecord_PutEpoch_26c N (lget r1.2 s4.t21 default) s4.b2 s4.b22).bind fun r6 =>
 (next5 ⟨(IntKind.i64.wrap (s4.t21 + 1)), r6.2.1, r6.2.2⟩))
 else none)
 else
 ((Fwire_Writer_Out_052 N s4.b2 s4.b22).bind fun r7 =>
 (some (r7.1, r1.2))))) ⟨0, r3.2.1, r3.2.2⟩)))))
def conepoch_Machine_Bytes_ce0 : Con τ := { args := [.ptr 0 []], L := [.box (.agg [.own 26 1]), .tail], ret := .ty 34, L' := [.box (.agg [.own 26 1]), .tail], R := (List (Int)) × (List (GEpoch)), dflt := (default, default), F := fun N a b => Fepoch_Machine_Bytes_ce0 N b.1.1, of := fun r => (r.1, ((r.2, ()), (), ())) }
noncomputable def datepoch_Machine_Bytes_ce0 : Dat τ := { D := D0, tbl := tblOf [(40, conepoch_Machine_none_ce0), (41, conwire_NewWriter), (42, conwire_Writer_Int_816), (43, conrecord_PutEpoch_26c), (44, conwire_Writer_Out_052)], lp := lpsOf [(6, lpepoch_Machine_Bytes_ce0x6)], k0 := 2, mu := [], un := [] }
theorem okepoch_Machine_Bytes_ce0 : ConOk E C 24 conepoch_Machine_Bytes_ce0 :=
  con_ok (D := datepoch_Machine_Bytes_ce0) ⟨d0Ok, eGood, tblOf_ok ⟨okepoch_Machine_none_ce0, ⟨okwire_NewWriter, ⟨okwire_Writer_Int_816, ⟨okrecord_PutEpoch_26c, ⟨okwire_Writer_Out_052, trivial⟩⟩⟩⟩⟩, fun _ => rfl⟩ conepoch_Machine_Bytes_ce0 (fun a b => (a, b.1.1)) none (fun _ _ => rfl) rfl (fun _ _ h => nomatch h) 1000000 (fn := Try.f24) Try.func24 rfl (by kernel_rfl) (by kernel_rfl) rfl (by intro N a b; kernel_rfl)
def Fwire_NewReader (N : Nat) (b : List (Int)) : Option (Gwire_Writer) :=
 ((Fslices_Clone_byte N b).bind fun r1 =>
 (some (⟨true, r1⟩ : Gwire_Writer)))
def conwire_NewReader : Con τ := { args := [.ty 34], L := [], ret := .ptr 0 [], L' := [.box (.ty 108)], R := Gwire_Writer, dflt := default, F := fun N a b => Fwire_NewReader N a.1, of := fun r => ((), (r, ())) }
noncomputable def datwire_NewReader : Dat τ := { D := D0, tbl := tblOf [(66, conslices_Clone_byte)], lp := lpsOf [], k0 := 0, mu := [], un := [] }
theorem okwire_NewReader : ConOk E C 47 conwire_NewReader :=
  con_ok (D := datwire_NewReader) ⟨d0Ok, eGood, tblOf_ok ⟨okslices_Clone_byte, trivial⟩, fun _ => rfl⟩ conwire_NewReader (fun a b => b.1) none (fun _ _ => rfl) rfl (fun _ _ h => nomatch h) 1000000 (fn := Try.f47) Try.func47 rfl (by kernel_rfl) (by kernel_rfl) rfl (by intro N a b; kernel_rfl)
def Fwire_Reader_none_d95 (N : Nat) (b0 : Gwire_Writer) : Option (Bool × Gwire_Writer) :=
 (some ((!b0.made), b0))
def conwire_Reader_none_d95 : Con τ := { args := [.ptr 0 []], L := [.box (.ty 108)], ret := .ty 4, L' := [.box (.ty 108)], R := Bool × Gwire_Writer, dflt := (default, default), F := fun N a b => Fwire_Reader_none_d95 N b.1, of := fun r => (r.1, (r.2, ())) }
noncomputable def datwire_Reader_none_d95 : Dat τ := { D := D0, tbl := tblOf [], lp := lpsOf [], k0 := 1, mu := [], un := [] }
theorem okwire_Reader_none_d95 : ConOk E C 67 conwire_Reader_none_d95 :=
  con_ok (D := datwire_Reader_none_d95) ⟨d0Ok, eGood, tblOf_ok trivial, fun _ => rfl⟩ conwire_Reader_none_d95 (fun a b => (a, b.1)) none (fun _ _ => rfl) rfl (fun _ _ h => nomatch h) 1000000 (fn := Try.f67) Try.func67 rfl (by kernel_rfl) (by kernel_rfl) rfl (by intro N a b; kernel_rfl)
structure Swire_parsex3 where
  u : Int
  t8 : Int
def tswire_parsex3 : List Sl := [.k, .k, .j, .j, .j, .sh (.ty 12), .j, .j, .sh (.ty 2), .j, .j, .j, .j, .j, .j, .j, .j, .j, .j, .j, .j, .j, .j, .j, .j, .j, .j, .j, .j, .j, .j, .j, .j, .j, .j, .j, .j, .j, .j, .j, .j, .j, .j, .j, .j, .j, .j, .j, .j, .j, .j, .j, .j, .j, .j, .j, .j, .j]
def hswire_parsex3 : List ESh := []
def towire_parsex3 (a : Sl.Ts τ tswire_parsex3) (b : ESh.Ts τ hswire_parsex3) : Swire_parsex3 := ⟨a.2.2.2.2.2.1, a.2.2.2.2.2.2.2.2.1⟩
def otwire_parsex3 (s : Swire_parsex3) : Sl.Ts τ tswire_parsex3 := ((), (), (), (), (), s.u, (), (), s.t8, (), (), (), (), (), (), (), (), (), (), (), (), (), (), (), (), (), (), (), (), (), (), (), (), (), (), (), (), (), (), (), (), (), (), (), (), (), (), (), (), (), (), (), (), (), (), (), (), (), ())
def ohwire_parsex3 (s : Swire_parsex3) : ESh.Ts τ hswire_parsex3 := ()
def lpwire_parsex3 : Lp τ := { ts := tswire_parsex3, hs := hswire_parsex3, S := Swire_parsex3, to := towire_parsex3, ot := otwire_parsex3, oh := ohwire_parsex3, hk := [], tk := [], ot_to := fun _ _ => rfl, oh_to := fun _ _ => rfl }
def Fwire_parse (N : Nat) (b : List (Int)) : Option (Int × Int × Int) :=
 (iter N (fun (s1 : Swire_parsex3) next2 =>
 (bif (decide (s1.t8 < 10)) then
 (bif (decide (((b).length : Int) ≤ s1.t8)) then
 (some (0, 0, 10))
 else
 (bif (ibB s1.t8 ((b).length : Int)) then
 (bif (((s1.t8 == 9) && (decide (1 < (lget b s1.t8 default)))) || (((lget b s1.t8 default) == 0) && (decide (0 < s1.t8)))) then
 (some (0, 0, 11))
 else
 (bif (decide (0 ≤ (IntKind.i64.wrap (7 * s1.t8)))) then
 (bif (decide ((lget b s1.t8 default) < 128)) then
 (bif ((bits .and .u64 (bits .or .u64 s1.u (shl .u64 (IntKind.u64.wrap (bits .and .u8 (lget b s1.t8 default) 127)) (IntKind.i64.wrap (7 * s1.t8)))) 1) == 1) then
 (some ((IntKind.i64.wrap (bits .xor .u64 IntKind.u64.max (shr .u64 (bits .or .u64 s1.u (shl .u64 (IntKind.u64.wrap (bits .and .u8 (lget b s1.t8 default) 127)) (IntKind.i64.wrap (7 * s1.t8)))) 1))), (IntKind.i64.wrap (s1.t8 + 1)), 0))
 else
 (some ((IntKind.i64.wrap (shr .u64 (bits .or .u64 s1.u (shl .u64 (IntKind.u64.wrap (bits .and .u8 (lget b s1.t8 default) 127)) (IntKind.i64.wrap (7 * s1.t8)))) 1)), (IntKind.i64.wrap (s1.t8 + 1)), 0)))
 else
 (next2 ⟨(bits .or .u64 s1.u (shl .u64 (IntKind.u64.wrap (bits .and .u8 (lget b s1.t8 default) 127)) (IntKind.i64.wrap (7 * s1.t8)))), (IntKind.i64.wrap (s1.t8 + 1))⟩))
 else none))
 else none))
 else
 (some (0, 0, 11)))) ⟨0, 0⟩)
def conwire_parse : Con τ := { args := [.ty 34], L := [], ret := .tup [.ty 2, .ty 3, .ty 39], L' := [], R := Int × Int × Int, dflt := (default, default, default), F := fun N a b => Fwire_parse N a.1, of := fun r => ((r.1, r.2.1, r.2.2, ()), ()) }
noncomputable def datwire_parse : Dat τ := { D := D0, tbl := tblOf [], lp := lpsOf [(3, lpwire_parsex3)], k0 := 0, mu := [], un := [] }
theorem okwire_parse : ConOk E C 68 conwire_parse :=
  con_ok (D := datwire_parse) ⟨d0Ok, eGood, tblOf_ok trivial, fun _ => rfl⟩ conwire_parse (fun a b => (a.1, a.2.1, a.2.2.1)) none (fun _ _ => rfl) rfl (fun _ _ h => nomatch h) 1000000 (fn := Try.f68) Try.func68 rfl (by kernel_rfl) (by kernel_rfl) rfl (by intro N a b; kernel_rfl)
def Fwire_Reader_Int_d95 (N : Nat) (b0 : Gwire_Writer) : Option (Int × Int × Gwire_Writer) :=
 ((Fwire_Reader_none_d95 N b0).bind fun r1 =>
 (bif r1.1 then
 (some (0, 2, r1.2))
 else
 ((Fwire_parse N r1.2.b).bind fun r2 =>
 (bif (cutB r2.2.1 ((r1.2.b).length : Int) ((r1.2.b).length : Int)) then
 (some (r2.1, r2.2.2, (⟨r1.2.made, (cut r1.2.b r2.2.1 ((r1.2.b).length : Int))⟩ : Gwire_Writer)))
 else none))))
def conwire_Reader_Int_d95 : Con τ := { args := [.ptr 0 []], L := [.box (.ty 108)], ret := .tup [.ty 2, .ty 39], L' := [.box (.ty 108)], R := Int × Int × Gwire_Writer, dflt := (default, default, default), F := fun N a b => Fwire_Reader_Int_d95 N b.1, of := fun r => ((r.1, r.2.1, ()), (r.2.2, ())) }
noncomputable def datwire_Reader_Int_d95 : Dat τ := { D := D0, tbl := tblOf [(67, conwire_Reader_none_d95), (68, conwire_parse)], lp := lpsOf [], k0 := 1, mu := [], un := [] }
theorem okwire_Reader_Int_d95 : ConOk E C 48 conwire_Reader_Int_d95 :=
  con_ok (D := datwire_Reader_Int_d95) ⟨d0Ok, eGood, tblOf_ok ⟨okwire_Reader_none_d95, ⟨okwire_parse, trivial⟩⟩, fun _ => rfl⟩ conwire_Reader_Int_d95 (fun a b => (a.1, a.2.1, b.1)) none (fun _ _ => rfl) rfl (fun _ _ h => nomatch h) 1000000 (fn := Try.f48) Try.func48 rfl (by kernel_rfl) (by kernel_rfl) rfl (by intro N a b; kernel_rfl)
def Fwire_Reader_End_d95 (N : Nat) (b0 : Gwire_Writer) : Option (Int × Gwire_Writer) :=
 ((Fwire_Reader_none_d95 N b0).bind fun r1 =>
 (bif r1.1 then
 (some (2, r1.2))
 else
 (bif (decide (0 < ((r1.2.b).length : Int))) then
 (some (13, r1.2))
 else
 (some (0, r1.2)))))
def conwire_Reader_End_d95 : Con τ := { args := [.ptr 0 []], L := [.box (.ty 108)], ret := .ty 39, L' := [.box (.ty 108)], R := Int × Gwire_Writer, dflt := (default, default), F := fun N a b => Fwire_Reader_End_d95 N b.1, of := fun r => (r.1, (r.2, ())) }
noncomputable def datwire_Reader_End_d95 : Dat τ := { D := D0, tbl := tblOf [(67, conwire_Reader_none_d95)], lp := lpsOf [], k0 := 1, mu := [], un := [] }
theorem okwire_Reader_End_d95 : ConOk E C 50 conwire_Reader_End_d95 :=
  con_ok (D := datwire_Reader_End_d95) ⟨d0Ok, eGood, tblOf_ok ⟨okwire_Reader_none_d95, trivial⟩, fun _ => rfl⟩ conwire_Reader_End_d95 (fun a b => (a, b.1)) none (fun _ _ => rfl) rfl (fun _ _ h => nomatch h) 1000000 (fn := Try.f50) Try.func50 rfl (by kernel_rfl) (by kernel_rfl) rfl (by intro N a b; kernel_rfl)
def Frecord_reader_keep_bdf (N : Nat) (e : Int) (b0 : Int) (b1 : Gwire_Writer) : Option (Int × Gwire_Writer) :=
 (bif (b0 == 0) then
 (some (e, b1))
 else
 (some (b0, b1)))
def conrecord_reader_keep_bdf : Con τ := { args := [.ptr 0 [], .ty 39], L := [.box (.agg [.ptr 1 [], .ty 39]), .box (.ty 108)], ret := .tup [], L' := [.box (.agg [.ptr 1 [], .ty 39]), .box (.ty 108)], R := Int × Gwire_Writer, dflt := (default, default), F := fun N a b => Frecord_reader_keep_bdf N a.2.1 b.1.2.1 b.2.1, of := fun r => ((), (((), r.1, ()), r.2, ())) }
noncomputable def datrecord_reader_keep_bdf : Dat τ := { D := D0, tbl := tblOf [], lp := lpsOf [], k0 := 2, mu := [], un := [] }
theorem okrecord_reader_keep_bdf : ConOk E C 88 conrecord_reader_keep_bdf :=
  con_ok (D := datrecord_reader_keep_bdf) ⟨d0Ok, eGood, tblOf_ok trivial, fun _ => rfl⟩ conrecord_reader_keep_bdf (fun a b => (b.1.2.1, b.2.1)) none (fun _ _ => rfl) rfl (fun _ _ h => nomatch h) 1000000 (fn := Try.f88) Try.func88 rfl (by kernel_rfl) (by kernel_rfl) rfl (by intro N a b; kernel_rfl)
def Frecord_reader_int_407 (N : Nat) (b0 : Int) (b1 : Gwire_Writer) : Option (Int × Int × Gwire_Writer) :=
 (bif (!(b0 == 0)) then
 (some (0, b0, b1))
 else
 ((Fwire_Reader_Int_d95 N b1).bind fun r1 =>
 ((Frecord_reader_keep_bdf N r1.2.1 b0 r1.2.2).bind fun r2 =>
 (some (r1.1, r2.1, r2.2)))))
def conrecord_reader_int_407 : Con τ := { args := [.ptr 0 []], L := [.box (.agg [.ptr 1 [], .ty 39]), .box (.ty 108)], ret := .ty 2, L' := [.box (.agg [.ptr 1 [], .ty 39]), .box (.ty 108)], R := Int × Int × Gwire_Writer, dflt := (default, default, default), F := fun N a b => Frecord_reader_int_407 N b.1.2.1 b.2.1, of := fun r => (r.1, (((), r.2.1, ()), r.2.2, ())) }
noncomputable def datrecord_reader_int_407 : Dat τ := { D := D0, tbl := tblOf [(48, conwire_Reader_Int_d95), (88, conrecord_reader_keep_bdf)], lp := lpsOf [], k0 := 2, mu := [], un := [] }
theorem okrecord_reader_int_407 : ConOk E C 87 conrecord_reader_int_407 :=
  con_ok (D := datrecord_reader_int_407) ⟨d0Ok, eGood, tblOf_ok ⟨okwire_Reader_Int_d95, ⟨okrecord_reader_keep_bdf, trivial⟩⟩, fun _ => rfl⟩ conrecord_reader_int_407 (fun a b => (a, b.1.2.1, b.2.1)) none (fun _ _ => rfl) rfl (fun _ _ h => nomatch h) 1000000 (fn := Try.f87) Try.func87 rfl (by kernel_rfl) (by kernel_rfl) rfl (by intro N a b; kernel_rfl)
def Frecord_reader_ints_b1a (N : Nat) (b0 : Int) (b1 : GEpoch) (b2 : Gwire_Writer) : Option (Int × GEpoch × Gwire_Writer) :=
 ((Frecord_reader_int_407 N b0 b2).bind fun r1 =>
 (some (r1.2.1, (⟨r1.1, b1.States, b1.Seals, b1.Sponsor⟩ : GEpoch), r1.2.2)))
def conrecord_reader_ints_b1a : Con τ := { args := [.ptr 0 [], .ls 1 [.ptr 1 [.fld 0 0]]], L := [.box (.agg [.ptr 2 [], .ty 39]), .box (.ty 26), .box (.ty 108)], ret := .tup [], L' := [.box (.agg [.ptr 2 [], .ty 39]), .box (.ty 26), .box (.ty 108)], R := Int × GEpoch × Gwire_Writer, dflt := (default, default, default), F := fun N a b => Frecord_reader_ints_b1a N b.1.2.1 b.2.1 b.2.2.1, of := fun r => ((), (((), r.1, ()), r.2.1, r.2.2, ())) }
noncomputable def datrecord_reader_ints_b1a : Dat τ := { D := D0, tbl := tblOf [(87, conrecord_reader_int_407)], lp := lpsOf [], k0 := 3, mu := [], un := [(1, 3)] }
theorem okrecord_reader_ints_b1a : ConOk E C 82 conrecord_reader_ints_b1a :=
  con_ok (D := datrecord_reader_ints_b1a) ⟨d0Ok, eGood, tblOf_ok ⟨okrecord_reader_int_407, trivial⟩, fun _ => rfl⟩ conrecord_reader_ints_b1a (fun a b => (b.1.2.1, b.2.1, b.2.2.1)) none (fun _ _ => rfl) rfl (fun _ _ h => nomatch h) 1000000 (fn := Try.f82) Try.func82 rfl (by kernel_rfl) (by kernel_rfl) rfl (by intro N a b; kernel_rfl)
def Frecord_reader_small_407 (N : Nat) (b0 : Int) (b1 : Gwire_Writer) : Option (Int × Int × Gwire_Writer) :=
 ((Frecord_reader_int_407 N b0 b1).bind fun r1 =>
 (bif (!(r1.1 == (IntKind.i64.wrap (IntKind.i32.wrap r1.1)))) then
 (some ((-2), r1.2.1, r1.2.2))
 else
 (some (r1.1, r1.2.1, r1.2.2))))
def conrecord_reader_small_407 : Con τ := { args := [.ptr 0 []], L := [.box (.agg [.ptr 1 [], .ty 39]), .box (.ty 108)], ret := .ty 3, L' := [.box (.agg [.ptr 1 [], .ty 39]), .box (.ty 108)], R := Int × Int × Gwire_Writer, dflt := (default, default, default), F := fun N a b => Frecord_reader_small_407 N b.1.2.1 b.2.1, of := fun r => (r.1, (((), r.2.1, ()), r.2.2, ())) }
noncomputable def datrecord_reader_small_407 : Dat τ := { D := D0, tbl := tblOf [(87, conrecord_reader_int_407)], lp := lpsOf [], k0 := 2, mu := [], un := [] }
theorem okrecord_reader_small_407 : ConOk E C 83 conrecord_reader_small_407 :=
  con_ok (D := datrecord_reader_small_407) ⟨d0Ok, eGood, tblOf_ok ⟨okrecord_reader_int_407, trivial⟩, fun _ => rfl⟩ conrecord_reader_small_407 (fun a b => (a, b.1.2.1, b.2.1)) none (fun _ _ => rfl) rfl (fun _ _ h => nomatch h) 1000000 (fn := Try.f83) Try.func83 rfl (by kernel_rfl) (by kernel_rfl) rfl (by intro N a b; kernel_rfl)
structure Srecord_reader_vector_6cax1 where
  t5 : Int
  b0 : Int
  b1 : GEpoch
  b2 : Gwire_Writer
def tsrecord_reader_vector_6cax1 : List Sl := [.k, .k, .k, .k, .j, .sh (.ty 2), .j, .j, .j, .j, .j, .j, .j, .j, .j]
def hsrecord_reader_vector_6cax1 : List ESh := [.box (.agg [.ptr 2 [], .ty 2]), .box (.ty 25), .box (.ty 97)]
def torecord_reader_vector_6cax1 (a : Sl.Ts τ tsrecord_reader_vector_6cax1) (b : ESh.Ts τ hsrecord_reader_vector_6cax1) : Srecord_reader_vector_6cax1 := ⟨a.2.2.2.2.2.1, b.1.2.1, b.2.1, b.2.2.1⟩
def otrecord_reader_vector_6cax1 (s : Srecord_reader_vector_6cax1) : Sl.Ts τ tsrecord_reader_vector_6cax1 := ((), (), (), (), (), s.t5, (), (), (), (), (), (), (), (), (), ())
def ohrecord_reader_vector_6cax1 (s : Srecord_reader_vector_6cax1) : ESh.Ts τ hsrecord_reader_vector_6cax1 := (((), s.b0, ()), s.b1, s.b2, ())
def lprecord_reader_vector_6cax1 : Lp τ := { ts := tsrecord_reader_vector_6cax1, hs := hsrecord_reader_vector_6cax1, S := Srecord_reader_vector_6cax1, to := torecord_reader_vector_6cax1, ot := otrecord_reader_vector_6cax1, oh := ohrecord_reader_vector_6cax1, hk := [2, 2, 2], tk := [2, 3], ot_to := fun _ _ => rfl, oh_to := fun _ _ => rfl }
def Frecord_reader_vector_6ca (N : Nat) (b0 : Int) (b1 : GEpoch) (b2 : Gwire_Writer) : Option (Int × GEpoch × Gwire_Writer) :=
 (iter N (fun (s1 : Srecord_reader_vector_6cax1) next2 =>
 (bif (decide (s1.t5 < 8)) then
 ((Frecord_reader_int_407 N s1.b0 s1.b2).bind fun r3 =>
 (bif (ibB s1.t5 8) then
 (next2 ⟨(IntKind.i64.wrap (s1.t5 + 1)), r3.2.1, (⟨s1.b1.Number, s1.b1.States, (vset s1.b1.Seals ((s1.t5).toNat) r3.1), s1.b1.Sponsor⟩ : GEpoch), r3.2.2⟩)
 else none))
 else
 (some (s1.b0, s1.b1, s1.b2)))) ⟨0, b0, b1, b2⟩)
def conrecord_reader_vector_6ca : Con τ := { args := [.ptr 0 [], .ptr 1 [.fld 2 9]], L := [.box (.agg [.ptr 2 [], .ty 39]), .box (.ty 26), .box (.ty 108)], ret := .tup [], L' := [.box (.agg [.ptr 2 [], .ty 39]), .box (.ty 26), .box (.ty 108)], R := Int × GEpoch × Gwire_Writer, dflt := (default, default, default), F := fun N a b => Frecord_reader_vector_6ca N b.1.2.1 b.2.1 b.2.2.1, of := fun r => ((), (((), r.1, ()), r.2.1, r.2.2, ())) }
noncomputable def datrecord_reader_vector_6ca : Dat τ := { D := D0, tbl := tblOf [(87, conrecord_reader_int_407)], lp := lpsOf [(1, lprecord_reader_vector_6cax1)], k0 := 3, mu := [], un := [] }
theorem okrecord_reader_vector_6ca : ConOk E C 84 conrecord_reader_vector_6ca :=
  con_ok (D := datrecord_reader_vector_6ca) ⟨d0Ok, eGood, tblOf_ok ⟨okrecord_reader_int_407, trivial⟩, fun _ => rfl⟩ conrecord_reader_vector_6ca (fun a b => (b.1.2.1, b.2.1, b.2.2.1)) none (fun _ _ => rfl) rfl (fun _ _ h => nomatch h) 1000000 (fn := Try.f84) Try.func84 rfl (by kernel_rfl) (by kernel_rfl) rfl (by intro N a b; kernel_rfl)
structure Srecord_reader_epoch_407x4 where
  t10 : Int
  b0 : Int
  b1 : Gwire_Writer
  b3 : GEpoch
def tsrecord_reader_epoch_407x4 : List Sl := [.k, .k, .k, .k, .j, .k, .k, .k, .k, .k, .sh (.ty 2), .j, .j, .j, .j, .j, .j, .j, .j, .k, .k, .k, .k, .k, .k, .k, .k, .k, .k, .k, .k, .k]
def hsrecord_reader_epoch_407x4 : List ESh := [.box (.agg [.ptr 1 [], .ty 2]), .box (.ty 97), .keep, .box (.ty 25)]
def torecord_reader_epoch_407x4 (a : Sl.Ts τ tsrecord_reader_epoch_407x4) (b : ESh.Ts τ hsrecord_reader_epoch_407x4) : Srecord_reader_epoch_407x4 := ⟨a.2.2.2.2.2.2.2.2.2.2.1, b.1.2.1, b.2.1, b.2.2.2.1⟩
def otrecord_reader_epoch_407x4 (s : Srecord_reader_epoch_407x4) : Sl.Ts τ tsrecord_reader_epoch_407x4 := ((), (), (), (), (), (), (), (), (), (), s.t10, (), (), (), (), (), (), (), (), (), (), (), (), (), (), (), (), (), (), (), (), (), ())
def ohrecord_reader_epoch_407x4 (s : Srecord_reader_epoch_407x4) : ESh.Ts τ hsrecord_reader_epoch_407x4 := (((), s.b0, ()), s.b1, (), s.b3, ())
def lprecord_reader_epoch_407x4 : Lp τ := { ts := tsrecord_reader_epoch_407x4, hs := hsrecord_reader_epoch_407x4, S := Srecord_reader_epoch_407x4, to := torecord_reader_epoch_407x4, ot := otrecord_reader_epoch_407x4, oh := ohrecord_reader_epoch_407x4, hk := [2, 2, 2, 2], tk := [2, 0, 4, 5, 0, 0, 2, 5], ot_to := fun _ _ => rfl, oh_to := fun _ _ => rfl }
structure Srecord_reader_epoch_407x10 where
  t22 : Int
  b0 : Int
  b1 : Gwire_Writer
  b3 : GEpoch
def tsrecord_reader_epoch_407x10 : List Sl := [.k, .k, .k, .k, .k, .j, .k, .k, .k, .k, .k, .k, .k, .k, .k, .k, .k, .k, .k, .k, .k, .k, .sh (.ty 2), .j, .j, .j, .j, .j, .j, .j, .j, .k]
def hsrecord_reader_epoch_407x10 : List ESh := [.box (.agg [.ptr 1 [], .ty 2]), .box (.ty 97), .keep, .box (.ty 25)]
def torecord_reader_epoch_407x10 (a : Sl.Ts τ tsrecord_reader_epoch_407x10) (b : ESh.Ts τ hsrecord_reader_epoch_407x10) : Srecord_reader_epoch_407x10 := ⟨a.2.2.2.2.2.2.2.2.2.2.2.2.2.2.2.2.2.2.2.2.2.2.1, b.1.2.1, b.2.1, b.2.2.2.1⟩
def otrecord_reader_epoch_407x10 (s : Srecord_reader_epoch_407x10) : Sl.Ts τ tsrecord_reader_epoch_407x10 := ((), (), (), (), (), (), (), (), (), (), (), (), (), (), (), (), (), (), (), (), (), (), s.t22, (), (), (), (), (), (), (), (), (), ())
def ohrecord_reader_epoch_407x10 (s : Srecord_reader_epoch_407x10) : ESh.Ts τ hsrecord_reader_epoch_407x10 := (((), s.b0, ()), s.b1, (), s.b3, ())
def lprecord_reader_epoch_407x10 : Lp τ := { ts := tsrecord_reader_epoch_407x10, hs := hsrecord_reader_epoch_407x10, S := Srecord_reader_epoch_407x10, to := torecord_reader_epoch_407x10, ot := otrecord_reader_epoch_407x10, oh := ohrecord_reader_epoch_407x10, hk := [2, 2, 2, 2], tk := [2, 0, 4, 5, 0, 0, 2, 5, 0, 0, 0, 0, 0, 0, 0, 0, 0, 0, 0, 2, 5], ot_to := fun _ _ => rfl, oh_to := fun _ _ => rfl }
def Frecord_reader_epoch_407 (N : Nat) (b0 : Int) (b1 : Gwire_Writer) : Option (GEpoch × Int × Gwire_Writer) :=
 ((Frecord_reader_ints_b1a N b0 (⟨0, (Vector.replicate 8 (default : Int)), (Vector.replicate 8 (default : Int)), (Vector.replicate 8 (default : Int))⟩ : GEpoch) b1).bind fun r1 =>
 (iter N (fun (s2 : Srecord_reader_epoch_407x4) next3 =>
 (bif (decide (s2.t10 < 8)) then
 ((Frecord_reader_small_407 N s2.b0 s2.b1).bind fun r4 =>
 (bif (ibB s2.t10 8) then
 (next3 ⟨(IntKind.i64.wrap (s2.t10 + 1)), r4.2.1, r4.2.2, (⟨s2.b3.Number, (vset s2.b3.States ((s2.t10).toNat) r4.1), s2.b3.Seals, s2.b3.Sponsor⟩ : GEpoch)⟩)
 else none))
 else
 ((Frecord_reader_vector_6ca N s2.b0 s2.b3 s2.b1).bind fun r5 =>
 (iter N (fun (s6 : Srecord_reader_epoch_407x10) next7 =>
 (bif (decide (s6.t22 < 8)) then
 ((Frecord_reader_small_407 N s6.b0 s6.b1).bind fun r8 =>
 (bif (ibB s6.t22 8) then
 (next7 ⟨(IntKind.i64.wrap (s6.t22 + 1)), r8.2.1, r8.2.2, (⟨s6.b3.Number, s6.b3.States, s6.b3.Seals, (vset s6.b3.Sponsor ((s6.t22).toNat) r8.1)⟩ : GEpoch)⟩)
 else none))
 else
 (some (s6.b3, s6.b0, s6.b1)))) ⟨0, r5.1, r5.2.2, r5.2.1⟩)))) ⟨0, r1.1, r1.2.2, r1.2.1⟩))
def conrecord_reader_epoch_407 : Con τ := { args := [.ptr 0 []], L := [.box (.agg [.ptr 1 [], .ty 39]), .box (.ty 108)], ret := .ty 26, L' := [.box (.agg [.ptr 1 [], .ty 39]), .box (.ty 108)], R := GEpoch × Int × Gwire_Writer, dflt := (default, default, default), F := fun N a b => Frecord_reader_epoch_407 N b.1.2.1 b.2.1, of := fun r => (r.1, (((), r.2.1, ()), r.2.2, ())) }
noncomputable def datrecord_reader_epoch_407 : Dat τ := { D := D0, tbl := tblOf [(82, conrecord_reader_ints_b1a), (83, conrecord_reader_small_407), (84, conrecord_reader_vector_6ca)], lp := lpsOf [(4, lprecord_reader_epoch_407x4), (10, lprecord_reader_epoch_407x10)], k0 := 2, mu := [], un := [] }
theorem okrecord_reader_epoch_407 : ConOk E C 71 conrecord_reader_epoch_407 :=
  con_ok (D := datrecord_reader_epoch_407) ⟨d0Ok, eGood, tblOf_ok ⟨okrecord_reader_ints_b1a, ⟨okrecord_reader_small_407, ⟨okrecord_reader_vector_6ca, trivial⟩⟩⟩, fun _ => rfl⟩ conrecord_reader_epoch_407 (fun a b => (a, b.1.2.1, b.2.1)) none (fun _ _ => rfl) rfl (fun _ _ h => nomatch h) 1000000 (fn := Try.f71) Try.func71 rfl (by kernel_rfl) (by kernel_rfl) rfl (by intro N a b; kernel_rfl)
def Frecord_TakeEpoch_1_219 (N : Nat) (b0 : Int) (b1 : GEpoch) (b2 : Gwire_Writer) : Option (Int × Int × GEpoch × Gwire_Writer) :=
 ((Frecord_reader_epoch_407 N b0 b2).bind fun r1 =>
 ((Frecord_CheckEpoch N r1.1).bind fun r2 =>
 (some (r2, r1.2.1, r1.1, r1.2.2))))
def conrecord_TakeEpoch_1_219 : Con τ := { args := [.ptr 0 [], .ptr 1 []], L := [.box (.agg [.ptr 2 [], .ty 39]), .box (.ty 26), .box (.ty 108)], ret := .ty 39, L' := [.box (.agg [.ptr 2 [], .ty 39]), .box (.ty 26), .box (.ty 108)], R := Int × Int × GEpoch × Gwire_Writer, dflt := (default, default, default, default), F := fun N a b => Frecord_TakeEpoch_1_219 N b.1.2.1 b.2.1 b.2.2.1, of := fun r => (r.1, (((), r.2.1, ()), r.2.2.1, r.2.2.2, ())) }
noncomputable def datrecord_TakeEpoch_1_219 : Dat τ := { D := D0, tbl := tblOf [(71, conrecord_reader_epoch_407), (61, conrecord_CheckEpoch)], lp := lpsOf [], k0 := 3, mu := [], un := [] }
theorem okrecord_TakeEpoch_1_219 : ConOk E C 70 conrecord_TakeEpoch_1_219 :=
  con_ok (D := datrecord_TakeEpoch_1_219) ⟨d0Ok, eGood, tblOf_ok ⟨okrecord_reader_epoch_407, ⟨okrecord_CheckEpoch, trivial⟩⟩, fun _ => rfl⟩ conrecord_TakeEpoch_1_219 (fun a b => (a, b.1.2.1, b.2.1, b.2.2.1)) none (fun _ _ => rfl) rfl (fun _ _ h => nomatch h) 1000000 (fn := Try.f70) Try.func70 rfl (by kernel_rfl) (by kernel_rfl) rfl (by intro N a b; kernel_rfl)
def Frecord_taken_550 (N : Nat) (b0 : Gwire_Writer) (b1 : GEpoch) : Option (Int × Gwire_Writer × GEpoch) :=
 ((Fwire_Reader_End_d95 N b0).bind fun r1 =>
 (bif (r1.1 == 2) then
 (some (2, r1.2, b1))
 else
 ((Frecord_TakeEpoch_1_219 N 0 b1 r1.2).bind fun r2 =>
 (bif (!(r2.2.1 == 0)) then
 (bif (!(r2.2.1 == 0)) then
 (some (r2.2.1, r1.2, r2.2.2.1))
 else
 (some (r2.2.1, r2.2.2.2, r2.2.2.1)))
 else
 (bif (!(r2.1 == 0)) then
 (some (r2.1, r1.2, r2.2.2.1))
 else
 (some (r2.1, r2.2.2.2, r2.2.2.1)))))))
def conrecord_taken_550 : Con τ := { args := [.ptr 0 [], .fn 70 [.ptr 1 []]], L := [.box (.ty 108), .box (.ty 26)], ret := .ty 39, L' := [.box (.ty 108), .box (.ty 26)], R := Int × Gwire_Writer × GEpoch, dflt := (default, default, default), F := fun N a b => Frecord_taken_550 N b.1 b.2.1, of := fun r => (r.1, (r.2.1, r.2.2, ())) }
noncomputable def datrecord_taken_550 : Dat τ := { D := D0, tbl := tblOf [(50, conwire_Reader_End_d95), (70, conrecord_TakeEpoch_1_219)], lp := lpsOf [], k0 := 2, mu := [], un := [] }
theorem okrecord_taken_550 : ConOk E C 69 conrecord_taken_550 :=
  con_ok (D := datrecord_taken_550) ⟨d0Ok, eGood, tblOf_ok ⟨okwire_Reader_End_d95, ⟨okrecord_TakeEpoch_1_219, trivial⟩⟩, fun _ => rfl⟩ conrecord_taken_550 (fun a b => (a, b.1, b.2.1)) none (fun _ _ => rfl) rfl (fun _ _ h => nomatch h) 1000000 (fn := Try.f69) Try.func69 rfl (by kernel_rfl) (by kernel_rfl) rfl (by intro N a b; kernel_rfl)
def Frecord_TakeEpoch_d95 (N : Nat) (b0 : Gwire_Writer) : Option (GEpoch × Int × Gwire_Writer) :=
 ((Frecord_taken_550 N b0 (⟨0, (Vector.replicate 8 (default : Int)), (Vector.replicate 8 (default : Int)), (Vector.replicate 8 (default : Int))⟩ : GEpoch)).bind fun r1 =>
 (bif (!(r1.1 == 0)) then
 (some ((⟨0, (Vector.replicate 8 (default : Int)), (Vector.replicate 8 (default : Int)), (Vector.replicate 8 (default : Int))⟩ : GEpoch), r1.1, r1.2.1))
 else
 (some (r1.2.2, r1.1, r1.2.1))))
def conrecord_TakeEpoch_d95 : Con τ := { args := [.ptr 0 []], L := [.box (.ty 108)], ret := .tup [.ty 26, .ty 39], L' := [.box (.ty 108)], R := GEpoch × Int × Gwire_Writer, dflt := (default, default, default), F := fun N a b => Frecord_TakeEpoch_d95 N b.1, of := fun r => ((r.1, r.2.1, ()), (r.2.2, ())) }
noncomputable def datrecord_TakeEpoch_d95 : Dat τ := { D := D0, tbl := tblOf [(69, conrecord_taken_550)], lp := lpsOf [], k0 := 1, mu := [], un := [] }
theorem okrecord_TakeEpoch_d95 : ConOk E C 49 conrecord_TakeEpoch_d95 :=
  con_ok (D := datrecord_TakeEpoch_d95) ⟨d0Ok, eGood, tblOf_ok ⟨okrecord_taken_550, trivial⟩, fun _ => rfl⟩ conrecord_TakeEpoch_d95 (fun a b => (a.1, a.2.1, b.1)) none (fun _ _ => rfl) rfl (fun _ _ h => nomatch h) 1000000 (fn := Try.f49) Try.func49 rfl (by kernel_rfl) (by kernel_rfl) rfl (by intro N a b; kernel_rfl)
structure Sepoch_Membersx3 where
  l : List (Int)
  t8 : Int
def tsepoch_Membersx3 : List Sl := [.k, .k, .k, .sh (.own 3 1), .j, .j, .k, .k, .sh (.ty 2), .j, .j, .j, .j, .j, .j, .j, .j, .j, .j, .j, .j, .j, .j, .k]
def hsepoch_Membersx3 : List ESh := [.keep, .tail]
def toepoch_Membersx3 (a : Sl.Ts τ tsepoch_Membersx3) (b : ESh.Ts τ hsepoch_Membersx3) : Sepoch_Membersx3 := ⟨a.2.2.2.1, a.2.2.2.2.2.2.2.2.1⟩
def otepoch_Membersx3 (s : Sepoch_Membersx3) : Sl.Ts τ tsepoch_Membersx3 := ((), (), (), s.l, (), (), (), (), s.t8, (), (), (), (), (), (), (), (), (), (), (), (), (), (), (), ())
def ohepoch_Membersx3 (s : Sepoch_Membersx3) : ESh.Ts τ hsepoch_Membersx3 := ((), (), ())
def lpepoch_Membersx3 : Lp τ := { ts := tsepoch_Membersx3, hs := hsepoch_Membersx3, S := Sepoch_Membersx3, to := toepoch_Membersx3, ot := otepoch_Membersx3, oh := ohepoch_Membersx3, hk := [2], tk := [0, 2, 0, 0, 0, 0, 2], ot_to := fun _ _ => rfl, oh_to := fun _ _ => rfl }
def Fepoch_Members (N : Nat) (e : GEpoch) : Option ((List (Int))) :=
 (iter N (fun (s1 : Sepoch_Membersx3) next2 =>
 (bif (decide (s1.t8 < 8)) then
 (bif (ibB s1.t8 8) then
 (bif (((vget e.States ((s1.t8).toNat) default) == 1) || ((vget e.States ((s1.t8).toNat) default) == 2)) then
 (bif (lenB ((s1.l).length + ([s1.t8]).length) 8) then
 (next2 ⟨(s1.l ++ [s1.t8]), (IntKind.i64.wrap (s1.t8 + 1))⟩)
 else none)
 else
 (next2 ⟨s1.l, (IntKind.i64.wrap (s1.t8 + 1))⟩))
 else none)
 else
 (some s1.l))) ⟨[], 0⟩)
def conepoch_Members : Con τ := { args := [.ty 26], L := [], ret := .ty 45, L' := [], R := (List (Int)), dflt := default, F := fun N a b => Fepoch_Members N a.1, of := fun r => (r, ()) }
noncomputable def datepoch_Members : Dat τ := { D := D0, tbl := tblOf [], lp := lpsOf [(3, lpepoch_Membersx3)], k0 := 0, mu := [], un := [] }
theorem okepoch_Members : ConOk E C 17 conepoch_Members :=
  con_ok (D := datepoch_Members) ⟨d0Ok, eGood, tblOf_ok trivial, fun _ => rfl⟩ conepoch_Members (fun a b => a) none (fun _ _ => rfl) rfl (fun _ _ h => nomatch h) 1000000 (fn := Try.f17) Try.func17 rfl (by kernel_rfl) (by kernel_rfl) rfl (by intro N a b; kernel_rfl)
structure Sepoch_Loadx7 where
  t33 : Int
  b0 : Gwire_Writer
  b1 : List (GEpoch)
def tsepoch_Loadx7 : List Sl := [.k, .k, .j, .j, .k, .k, .k, .k, .j, .j, .j, .k, .k, .k, .k, .k, .k, .k, .k, .k, .k, .k, .k, .j, .j, .k, .k, .j, .j, .k, .k, .k, .k, .sh (.ty 2), .j, .j, .j, .j, .j, .j, .j, .j, .j, .j, .j, .j, .j, .j, .j, .j, .j, .j, .j, .j, .j, .j, .j, .j, .j, .j, .j, .j, .j, .j, .j, .j, .j, .j, .j, .j, .j, .j, .j, .j, .j, .j, .k, .k, .k, .k, .k, .k, .k, .k, .k, .k, .k, .k, .k, .k, .k, .k, .k, .k, .k, .k, .k, .k, .k, .k, .k]
def hsepoch_Loadx7 : List ESh := [.box (.ty 97), .box (.agg [.own 26 2]), .tail]
def toepoch_Loadx7 (a : Sl.Ts τ tsepoch_Loadx7) (b : ESh.Ts τ hsepoch_Loadx7) : Sepoch_Loadx7 := ⟨a.2.2.2.2.2.2.2.2.2.2.2.2.2.2.2.2.2.2.2.2.2.2.2.2.2.2.2.2.2.2.2.2.2.1, b.1, b.2.1.1⟩
def otepoch_Loadx7 (s : Sepoch_Loadx7) : Sl.Ts τ tsepoch_Loadx7 := ((), (), (), (), (), (), (), (), (), (), (), (), (), (), (), (), (), (), (), (), (), (), (), (), (), (), (), (), (), (), (), (), (), s.t33, (), (), (), (), (), (), (), (), (), (), (), (), (), (), (), (), (), (), (), (), (), (), (), (), (), (), (), (), (), (), (), (), (), (), (), (), (), (), (), (), (), (), (), (), (), (), (), (), (), (), (), (), (), (), (), (), (), (), (), (), (), (), (), (), (), (), (), ())
def ohepoch_Loadx7 (s : Sepoch_Loadx7) : ESh.Ts τ hsepoch_Loadx7 := (s.b0, (s.b1, ()), (), ())
def lpepoch_Loadx7 : Lp τ := { ts := tsepoch_Loadx7, hs := hsepoch_Loadx7, S := Sepoch_Loadx7, to := toepoch_Loadx7, ot := otepoch_Loadx7, oh := ohepoch_Loadx7, hk := [2, 2], tk := [0, 0, 1, 0, 2, 0, 0, 3, 0, 0, 0, 0, 0, 0, 2, 0, 2, 0, 0, 0, 0, 0, 0, 0, 0, 0, 0, 0, 0, 0, 0, 3], ot_to := fun _ _ => rfl, oh_to := fun _ _ => rfl }
def Fepoch_Load (N : Nat) (b : List (Int)) : Option (Bool × Int × (List (GEpoch)) × Int) :=
 ((Fwire_NewReader N b).bind fun r1 =>
 ((Fwire_Reader_Int_d95 N r1).bind fun r2 =>
 (bif (((!(r2.2.1 == 0)) || (decide (r2.1 < 1))) || (decide (1024 < r2.1))) then
 (some (true, default, default, 1))
 else
 (iter N (fun (s3 : Sepoch_Loadx7) next4 =>
 (bif (decide (s3.t33 < r2.1)) then
 ((Frecord_TakeEpoch_d95 N s3.b0).bind fun r5 =>
 ((bif (!(!(r5.2.1 == 0))) then Fepoch_Check N r5.1 else some default).bind fun r6 =>
 (bif (!((!((!(r5.2.1 == 0)) || (!r6))) && (decide (0 < s3.t33))) || (ibB (IntKind.i64.wrap (s3.t33 - 1)) ((s3.b1).length : Int))) then
 ((bif ((!((!(r5.2.1 == 0)) || (!r6))) && (decide (0 < s3.t33))) then Fepoch_Follows N (lget s3.b1 (IntKind.i64.wrap (s3.t33 - 1)) default) r5.1 else some default).bind fun r7 =>
 (bif (((!(r5.2.1 == 0)) || (!r6)) || ((decide (0 < s3.t33)) && (!r7))) then
 (some (true, default, default, 1))
 else
 (bif (lenB ((s3.b1).length + ([r5.1]).length) 200) then
 (next4 ⟨(IntKind.i64.wrap (s3.t33 + 1)), r5.2.2, (s3.b1 ++ [r5.1])⟩)
 else none)))
 else none)))
 else
 (bif (ibB 0 ((s3.b1).length : Int)) then
 ((Fepoch_Members N (lget s3.b1 0 default)).bind fun r8 =>
 ((Fepoch_Start N r8).bind fun r9 =>
 ((Fwire_Reader_End_d95 N s3.b0).bind fun r10 =>
 (bif (!(!(!(r10.1 == 0))) || (ibB 0 ((s3.b1).length : Int))) then
 (bif ((!(r10.1 == 0)) || (!((((lget s3.b1 0 default).Number) == r9.1.Number) && ((vbeq beq3 ((lget s3.b1 0 default).States) r9.1.States) && ((vbeq beq2 ((lget s3.b1 0 default).Seals) r9.1.Seals) && (vbeq beq3 ((lget s3.b1 0 default).Sponsor) r9.1.Sponsor)))))) then
 (some (true, default, default, 1))
 else
 (some (false, 0, s3.b1, default)))
 else none))))
 else none))) ⟨0, r2.2.2, []⟩))))
def altepoch_Load : Alt τ (Bool × Int × (List (GEpoch)) × Int) := { ret := .tup [.nil .ptr, .ty 39], L' := [], of := fun r => (((), r.2.2.2, ()), ()) }
def conepoch_Load : Con τ := { args := [.ty 34], L := [], ret := .tup [.ptr 0 [], .ty 39], L' := [.box (.agg [.own 26 1]), .tail], R := Bool × Int × (List (GEpoch)) × Int, dflt := (default, default, default, default), F := fun N a b => Fepoch_Load N a.1, of := fun r => (((), r.2.1, ()), ((r.2.2.1, ()), (), ())), alt := some altepoch_Load, sel := fun r => r.1 }
noncomputable def datepoch_Load : Dat τ := { D := D0, tbl := tblOf [(47, conwire_NewReader), (48, conwire_Reader_Int_d95), (49, conrecord_TakeEpoch_d95), (13, conepoch_Check), (10, conepoch_Follows), (17, conepoch_Members), (31, conepoch_Start), (50, conwire_Reader_End_d95)], lp := lpsOf [(7, lpepoch_Loadx7)], k0 := 0, mu := [], un := [] }
theorem okepoch_Load : ConOk E C 27 conepoch_Load :=
  con_ok (D := datepoch_Load) ⟨d0Ok, eGood, tblOf_ok ⟨okwire_NewReader, ⟨okwire_Reader_Int_d95, ⟨okrecord_TakeEpoch_d95, ⟨okepoch_Check, ⟨okepoch_Follows, ⟨okepoch_Members, ⟨okepoch_Start, ⟨okwire_Reader_End_d95, trivial⟩⟩⟩⟩⟩⟩⟩⟩, fun _ => rfl⟩ conepoch_Load (fun a b => (false, a.2.1, b.1.1, default)) (some ⟨altepoch_Load, fun a b => (true, default, default, a.2.1)⟩) (fun _ _ => rfl) rfl (fun A t h => by cases h; exact ⟨fun _ _ => rfl, fun _ _ => rfl, fun _ _ => rfl⟩) 1000000 (fn := Try.f27) Try.func27 rfl (by kernel_rfl) (by kernel_rfl) rfl (by intro N a b; kernel_rfl)
def Fbytes_Equal (N : Nat) (a : List (Int)) (b : List (Int)) : Option (Bool) :=
 (some ((strI a) == (strI b)))
def conbytes_Equal : Con τ := { args := [.ty 34, .ty 34], L := [], ret := .ty 4, L' := [], R := Bool, dflt := default, F := fun N a b => Fbytes_Equal N a.1 a.2.1, of := fun r => (r, ()) }
noncomputable def datbytes_Equal : Dat τ := { D := D0, tbl := tblOf [], lp := lpsOf [], k0 := 0, mu := [], un := [] }
theorem okbytes_Equal : ConOk E C 29 conbytes_Equal :=
  con_ok (D := datbytes_Equal) ⟨d0Ok, eGood, tblOf_ok trivial, fun _ => rfl⟩ conbytes_Equal (fun a b => a) none (fun _ _ => rfl) rfl (fun _ _ h => nomatch h) 1000000 (fn := Try.f29) Try.func29 rfl (by kernel_rfl) (by kernel_rfl) rfl (by intro N a b; kernel_rfl)
def Fepoch_New (N : Nat) (members : List (Int)) : Option (Bool × Int × (List (GEpoch)) × Int) :=
 ((Fepoch_Start N members).bind fun r1 =>
 (bif (!(r1.2 == 0)) then
 (some (true, default, default, r1.2))
 else
 (some (false, 0, [r1.1], default))))
def altepoch_New : Alt τ (Bool × Int × (List (GEpoch)) × Int) := { ret := .tup [.nil .ptr, .ty 39], L' := [], of := fun r => (((), r.2.2.2, ()), ()) }
def conepoch_New : Con τ := { args := [.ty 45], L := [], ret := .tup [.ptr 0 [], .ty 39], L' := [.box (.agg [.own 26 1]), .tail], R := Bool × Int × (List (GEpoch)) × Int, dflt := (default, default, default, default), F := fun N a b => Fepoch_New N a.1, of := fun r => (((), r.2.1, ()), ((r.2.2.1, ()), (), ())), alt := some altepoch_New, sel := fun r => r.1 }
noncomputable def datepoch_New : Dat τ := { D := D0, tbl := tblOf [(31, conepoch_Start)], lp := lpsOf [], k0 := 0, mu := [], un := [] }
theorem okepoch_New : ConOk E C 30 conepoch_New :=
  con_ok (D := datepoch_New) ⟨d0Ok, eGood, tblOf_ok ⟨okepoch_Start, trivial⟩, fun _ => rfl⟩ conepoch_New (fun a b => (false, a.2.1, b.1.1, default)) (some ⟨altepoch_New, fun a b => (true, default, default, a.2.1)⟩) (fun _ _ => rfl) rfl (fun A t h => by cases h; exact ⟨fun _ _ => rfl, fun _ _ => rfl, fun _ _ => rfl⟩) 1000000 (fn := Try.f30) Try.func30 rfl (by kernel_rfl) (by kernel_rfl) rfl (by intro N a b; kernel_rfl)
def Fepoch_Machine_Apply_9cc (N : Nat) (x : GEntry) (b0 : List (GEpoch)) : Option (Int × (List (GEpoch))) :=
 ((Fepoch_Machine_none_ce0 N b0).bind fun r1 =>
 (bif r1.1 then
 (some (2, r1.2))
 else
 (bif (x.Kind == 0) then
 (some (0, r1.2))
 else
 ((Fepoch_Machine_Current_ce0 N r1.2).bind fun r2 =>
 ((Fepoch_Apply N r2.1 x).bind fun r3 =>
 (bif (r3.2 == 0) then
 (bif (lenB ((r2.2).length + ([r3.1]).length) 200) then
 (some (r3.2, (r2.2 ++ [r3.1])))
 else none)
 else
 (some (r3.2, r2.2))))))))
def conepoch_Machine_Apply_9cc : Con τ := { args := [.ptr 0 [], .ty 38], L := [.box (.agg [.own 26 1]), .tail], ret := .ty 39, L' := [.box (.agg [.own 26 2]), .dead, .tail], R := Int × (List (GEpoch)), dflt := (default, default), F := fun N a b => Fepoch_Machine_Apply_9cc N a.2.1 b.1.1, of := fun r => (r.1, ((r.2, ()), (), (), ())) }
noncomputable def datepoch_Machine_Apply_9cc : Dat τ := { D := D0, tbl := tblOf [(40, conepoch_Machine_none_ce0), (23, conepoch_Machine_Current_ce0), (12, conepoch_Apply)], lp := lpsOf [], k0 := 2, mu := [], un := [] }
theorem okepoch_Machine_Apply_9cc : ConOk E C 22 conepoch_Machine_Apply_9cc :=
  con_ok (D := datepoch_Machine_Apply_9cc) ⟨d0Ok, eGood, tblOf_ok ⟨okepoch_Machine_none_ce0, ⟨okepoch_Machine_Current_ce0, ⟨okepoch_Apply, trivial⟩⟩⟩, fun _ => rfl⟩ conepoch_Machine_Apply_9cc (fun a b => (a, b.1.1)) none (fun _ _ => rfl) rfl (fun _ _ h => nomatch h) 1000000 (fn := Try.f22) Try.func22 rfl (by kernel_rfl) (by kernel_rfl) rfl (by intro N a b; kernel_rfl)
structure Slaw17_EpochAgainx8 where
  t43 : Int
def tslaw17_EpochAgainx8 : List Sl := [.k, .k, .k, .k, .k, .k, .j, .k, .k, .k, .k, .k, .j, .k, .k, .k, .k, .k, .k, .k, .k, .k, .k, .k, .k, .k, .k, .k, .k, .k, .j, .j, .k, .k, .k, .k, .k, .k, .k, .k, .k, .k, .k, .sh (.ty 2), .j, .j, .j, .j, .j, .j, .j, .j, .j, .j, .j, .k, .k, .k, .k, .k, .k, .k, .k, .k, .k, .k, .k, .k, .k, .k, .k, .k, .k, .k, .k, .k, .k, .k, .k, .k, .k, .k, .k, .k, .k, .k, .k, .k, .k, .k, .k, .k, .k, .k, .k, .k, .k]
def hslaw17_EpochAgainx8 : List ESh := []
def tolaw17_EpochAgainx8 (a : Sl.Ts τ tslaw17_EpochAgainx8) (b : ESh.Ts τ hslaw17_EpochAgainx8) : Slaw17_EpochAgainx8 := ⟨a.2.2.2.2.2.2.2.2.2.2.2.2.2.2.2.2.2.2.2.2.2.2.2.2.2.2.2.2.2.2.2.2.2.2.2.2.2.2.2.2.2.2.2.1⟩
def otlaw17_EpochAgainx8 (s : Slaw17_EpochAgainx8) : Sl.Ts τ tslaw17_EpochAgainx8 := ((), (), (), (), (), (), (), (), (), (), (), (), (), (), (), (), (), (), (), (), (), (), (), (), (), (), (), (), (), (), (), (), (), (), (), (), (), (), (), (), (), (), (), s.t43, (), (), (), (), (), (), (), (), (), (), (), (), (), (), (), (), (), (), (), (), (), (), (), (), (), (), (), (), (), (), (), (), (), (), (), (), (), (), (), (), (), (), (), (), (), (), (), (), (), (), (), (), (), ())
def ohlaw17_EpochAgainx8 (s : Slaw17_EpochAgainx8) : ESh.Ts τ hslaw17_EpochAgainx8 := ()
def lplaw17_EpochAgainx8 : Lp τ := { ts := tslaw17_EpochAgainx8, hs := hslaw17_EpochAgainx8, S := Slaw17_EpochAgainx8, to := tolaw17_EpochAgainx8, ot := otlaw17_EpochAgainx8, oh := ohlaw17_EpochAgainx8, hk := [], tk := [0, 0, 0, 0, 0, 0, 0, 1, 0, 1, 0, 0, 0, 0, 0, 0, 0, 0, 0, 1, 0, 0, 0, 0, 1], ot_to := fun _ _ => rfl, oh_to := fun _ _ => rfl }
structure Slaw17_EpochAgainx17 where
  t77 : Int
def tslaw17_EpochAgainx17 : List Sl := [.k, .k, .k, .k, .k, .k, .j, .k, .k, .k, .k, .k, .k, .k, .k, .j, .k, .k, .k, .k, .k, .k, .k, .k, .k, .k, .k, .k, .k, .k, .k, .k, .k, .k, .k, .k, .k, .k, .k, .k, .k, .k, .k, .k, .k, .k, .k, .k, .k, .k, .k, .k, .k, .k, .k, .k, .k, .k, .k, .k, .k, .k, .k, .k, .j, .j, .k, .k, .j, .j, .j, .j, .j, .j, .k, .k, .k, .sh (.ty 2), .j, .j, .j, .j, .j, .j, .j, .j, .j, .j, .j, .j, .j, .j, .j, .j, .j, .j, .j]
def hslaw17_EpochAgainx17 : List ESh := []
def tolaw17_EpochAgainx17 (a : Sl.Ts τ tslaw17_EpochAgainx17) (b : ESh.Ts τ hslaw17_EpochAgainx17) : Slaw17_EpochAgainx17 := ⟨a.2.2.2.2.2.2.2.2.2.2.2.2.2.2.2.2.2.2.2.2.2.2.2.2.2.2.2.2.2.2.2.2.2.2.2.2.2.2.2.2.2.2.2.2.2.2.2.2.2.2.2.2.2.2.2.2.2.2.2.2.2.2.2.2.2.2.2.2.2.2.2.2.2.2.2.2.2.1⟩
def otlaw17_EpochAgainx17 (s : Slaw17_EpochAgainx17) : Sl.Ts τ tslaw17_EpochAgainx17 := ((), (), (), (), (), (), (), (), (), (), (), (), (), (), (), (), (), (), (), (), (), (), (), (), (), (), (), (), (), (), (), (), (), (), (), (), (), (), (), (), (), (), (), (), (), (), (), (), (), (), (), (), (), (), (), (), (), (), (), (), (), (), (), (), (), (), (), (), (), (), (), (), (), (), (), (), (), s.t77, (), (), (), (), (), (), (), (), (), (), (), (), (), (), (), (), (), (), (), ())
def ohlaw17_EpochAgainx17 (s : Slaw17_EpochAgainx17) : ESh.Ts τ hslaw17_EpochAgainx17 := ()
def lplaw17_EpochAgainx17 : Lp τ := { ts := tslaw17_EpochAgainx17, hs := hslaw17_EpochAgainx17, S := Slaw17_EpochAgainx17, to := tolaw17_EpochAgainx17, ot := otlaw17_EpochAgainx17, oh := ohlaw17_EpochAgainx17, hk := [], tk := [0, 0, 0, 0, 0, 0, 0, 1, 0, 1, 0, 0, 0, 1, 0, 0, 0, 0, 0, 1, 0, 0, 0, 0, 1, 0, 0, 0, 0, 0, 0, 0, 0, 0, 0, 0, 0, 0, 0, 0, 0, 0, 0, 0, 0, 0, 0, 0, 0, 0, 0, 0, 0, 0, 0, 0, 1, 0, 0, 1], ot_to := fun _ _ => rfl, oh_to := fun _ _ => rfl }
structure Slaw17_EpochAgainx17a where
  t77 : Int
  b0 : List (GEpoch)
def tslaw17_EpochAgainx17a : List Sl := [.k, .k, .k, .k, .k, .k, .j, .k, .k, .k, .k, .k, .k, .k, .k, .j, .k, .k, .k, .k, .k, .k, .k, .k, .k, .k, .k, .k, .k, .k, .k, .k, .k, .k, .k, .k, .k, .k, .k, .k, .k, .k, .k, .k, .k, .k, .k, .k, .k, .k, .k, .k, .k, .k, .k, .k, .k, .k, .k, .k, .k, .k, .k, .k, .j, .j, .k, .k, .j, .j, .j, .j, .j, .j, .k, .k, .k, .sh (.ty 2), .j, .j, .j, .j, .j, .j, .j, .j, .j, .j, .j, .j, .j, .j, .j, .j, .j, .j, .j]
def hslaw17_EpochAgainx17a : List ESh := [.box (.agg [.own 26 2]), .dead, .tail]
def tolaw17_EpochAgainx17a (a : Sl.Ts τ tslaw17_EpochAgainx17a) (b : ESh.Ts τ hslaw17_EpochAgainx17a) : Slaw17_EpochAgainx17a := ⟨a.2.2.2.2.2.2.2.2.2.2.2.2.2.2.2.2.2.2.2.2.2.2.2.2.2.2.2.2.2.2.2.2.2.2.2.2.2.2.2.2.2.2.2.2.2.2.2.2.2.2.2.2.2.2.2.2.2.2.2.2.2.2.2.2.2.2.2.2.2.2.2.2.2.2.2.2.2.1, b.1.1⟩
def otlaw17_EpochAgainx17a (s : Slaw17_EpochAgainx17a) : Sl.Ts τ tslaw17_EpochAgainx17a := ((), (), (), (), (), (), (), (), (), (), (), (), (), (), (), (), (), (), (), (), (), (), (), (), (), (), (), (), (), (), (), (), (), (), (), (), (), (), (), (), (), (), (), (), (), (), (), (), (), (), (), (), (), (), (), (), (), (), (), (), (), (), (), (), (), (), (), (), (), (), (), (), (), (), (), (), (), s.t77, (), (), (), (), (), (), (), (), (), (), (), (), (), (), (), (), (), (), (), ())
def ohlaw17_EpochAgainx17a (s : Slaw17_EpochAgainx17a) : ESh.Ts τ hslaw17_EpochAgainx17a := ((s.b0, ()), (), (), ())
def lplaw17_EpochAgainx17a : Lp τ := { ts := tslaw17_EpochAgainx17a, hs := hslaw17_EpochAgainx17a, S := Slaw17_EpochAgainx17a, to := tolaw17_EpochAgainx17a, ot := otlaw17_EpochAgainx17a, oh := ohlaw17_EpochAgainx17a, hk := [2, 5], tk := [0, 0, 0, 0, 0, 0, 0, 1, 0, 1, 0, 0, 0, 2, 0, 0, 0, 0, 0, 1, 0, 0, 0, 0, 1, 0, 0, 0, 0, 0, 0, 0, 0, 0, 0, 0, 0, 0, 0, 0, 0, 0, 0, 0, 0, 0, 0, 0, 0, 0, 0, 0, 0, 0, 0, 0, 1, 0, 0, 2], ot_to := fun _ _ => rfl, oh_to := fun _ _ => rfl }
structure Slaw17_EpochAgainx8a where
  t43 : Int
  b0 : List (GEpoch)
def tslaw17_EpochAgainx8a : List Sl := [.k, .k, .k, .k, .k, .k, .j, .k, .k, .k, .k, .k, .j, .k, .k, .k, .k, .k, .k, .k, .k, .k, .k, .k, .k, .k, .k, .k, .k, .k, .j, .j, .k, .k, .k, .k, .k, .k, .k, .k, .k, .k, .k, .sh (.ty 2), .j, .j, .j, .j, .j, .j, .j, .j, .j, .j, .j, .k, .k, .k, .k, .k, .k, .k, .k, .k, .k, .k, .k, .k, .k, .k, .k, .k, .k, .k, .k, .k, .k, .k, .k, .k, .k, .k, .k, .k, .k, .k, .k, .k, .k, .k, .k, .k, .k, .k, .k, .k, .k]
def hslaw17_EpochAgainx8a : List ESh := [.box (.agg [.own 26 2]), .dead, .tail]
def tolaw17_EpochAgainx8a (a : Sl.Ts τ tslaw17_EpochAgainx8a) (b : ESh.Ts τ hslaw17_EpochAgainx8a) : Slaw17_EpochAgainx8a := ⟨a.2.2.2.2.2.2.2.2.2.2.2.2.2.2.2.2.2.2.2.2.2.2.2.2.2.2.2.2.2.2.2.2.2.2.2.2.2.2.2.2.2.2.2.1, b.1.1⟩
def otlaw17_EpochAgainx8a (s : Slaw17_EpochAgainx8a) : Sl.Ts τ tslaw17_EpochAgainx8a := ((), (), (), (), (), (), (), (), (), (), (), (), (), (), (), (), (), (), (), (), (), (), (), (), (), (), (), (), (), (), (), (), (), (), (), (), (), (), (), (), (), (), (), s.t43, (), (), (), (), (), (), (), (), (), (), (), (), (), (), (), (), (), (), (), (), (), (), (), (), (), (), (), (), (), (), (), (), (), (), (), (), (), (), (), (), (), (), (), (), (), (), (), (), (), (), (), (), (), ())
def ohlaw17_EpochAgainx8a (s : Slaw17_EpochAgainx8a) : ESh.Ts τ hslaw17_EpochAgainx8a := ((s.b0, ()), (), (), ())
def lplaw17_EpochAgainx8a : Lp τ := { ts := tslaw17_EpochAgainx8a, hs := hslaw17_EpochAgainx8a, S := Slaw17_EpochAgainx8a, to := tolaw17_EpochAgainx8a, ot := otlaw17_EpochAgainx8a, oh := ohlaw17_EpochAgainx8a, hk := [2, 5], tk := [0, 0, 0, 0, 0, 0, 0, 1, 0, 2, 0, 0, 0, 0, 0, 0, 0, 0, 0, 1, 0, 0, 0, 0, 2], ot_to := fun _ _ => rfl, oh_to := fun _ _ => rfl }
structure Slaw17_EpochAgainx17b where
  t77 : Int
def tslaw17_EpochAgainx17b : List Sl := [.k, .k, .k, .k, .k, .k, .j, .k, .k, .k, .k, .k, .k, .k, .k, .j, .k, .k, .k, .k, .k, .k, .k, .k, .k, .k, .k, .k, .k, .k, .k, .k, .k, .k, .k, .k, .k, .k, .k, .k, .k, .k, .k, .k, .k, .k, .k, .k, .k, .k, .k, .k, .k, .k, .k, .k, .k, .k, .k, .k, .k, .k, .k, .k, .j, .j, .k, .k, .j, .j, .j, .k, .j, .j, .k, .k, .k, .sh (.ty 2), .j, .j, .j, .j, .j, .j, .j, .j, .j, .j, .j, .j, .j, .j, .j, .j, .j, .j, .j]
def hslaw17_EpochAgainx17b : List ESh := [.keep, .keep, .keep]
def tolaw17_EpochAgainx17b (a : Sl.Ts τ tslaw17_EpochAgainx17b) (b : ESh.Ts τ hslaw17_EpochAgainx17b) : Slaw17_EpochAgainx17b := ⟨a.2.2.2.2.2.2.2.2.2.2.2.2.2.2.2.2.2.2.2.2.2.2.2.2.2.2.2.2.2.2.2.2.2.2.2.2.2.2.2.2.2.2.2.2.2.2.2.2.2.2.2.2.2.2.2.2.2.2.2.2.2.2.2.2.2.2.2.2.2.2.2.2.2.2.2.2.2.1⟩
def otlaw17_EpochAgainx17b (s : Slaw17_EpochAgainx17b) : Sl.Ts τ tslaw17_EpochAgainx17b := ((), (), (), (), (), (), (), (), (), (), (), (), (), (), (), (), (), (), (), (), (), (), (), (), (), (), (), (), (), (), (), (), (), (), (), (), (), (), (), (), (), (), (), (), (), (), (), (), (), (), (), (), (), (), (), (), (), (), (), (), (), (), (), (), (), (), (), (), (), (), (), (), (), (), (), (), (), s.t77, (), (), (), (), (), (), (), (), (), (), (), (), (), (), (), (), (), (), (), ())
def ohlaw17_EpochAgainx17b (s : Slaw17_EpochAgainx17b) : ESh.Ts τ hslaw17_EpochAgainx17b := ((), (), (), ())
def lplaw17_EpochAgainx17b : Lp τ := { ts := tslaw17_EpochAgainx17b, hs := hslaw17_EpochAgainx17b, S := Slaw17_EpochAgainx17b, to := tolaw17_EpochAgainx17b, ot := otlaw17_EpochAgainx17b, oh := ohlaw17_EpochAgainx17b, hk := [2, 1, 5], tk := [0, 0, 0, 0, 0, 0, 0, 1, 0, 2, 0, 0, 0, 1, 0, 0, 0, 0, 0, 1, 0, 0, 0, 0, 2, 0, 0, 0, 0, 0, 0, 0, 0, 0, 0, 0, 0, 0, 0, 0, 0, 0, 0, 0, 0, 0, 0, 0, 0, 0, 0, 0, 0, 0, 0, 0, 1, 0, 0, 1], ot_to := fun _ _ => rfl, oh_to := fun _ _ => rfl }
structure Slaw17_EpochAgainx17c where
  t77 : Int
  b3 : List (GEpoch)
def tslaw17_EpochAgainx17c : List Sl := [.k, .k, .k, .k, .k, .k, .j, .k, .k, .k, .k, .k, .k, .k, .k, .j, .k, .k, .k, .k, .k, .k, .k, .k, .k, .k, .k, .k, .k, .k, .k, .k, .k, .k, .k, .k, .k, .k, .k, .k, .k, .k, .k, .k, .k, .k, .k, .k, .k, .k, .k, .k, .k, .k, .k, .k, .k, .k, .k, .k, .k, .k, .k, .k, .j, .j, .k, .k, .j, .j, .j, .k, .j, .j, .k, .k, .k, .sh (.ty 2), .j, .j, .j, .j, .j, .j, .j, .j, .j, .j, .j, .j, .j, .j, .j, .j, .j, .j, .j]
def hslaw17_EpochAgainx17c : List ESh := [.keep, .keep, .keep, .box (.agg [.own 26 5]), .dead, .tail]
def tolaw17_EpochAgainx17c (a : Sl.Ts τ tslaw17_EpochAgainx17c) (b : ESh.Ts τ hslaw17_EpochAgainx17c) : Slaw17_EpochAgainx17c := ⟨a.2.2.2.2.2.2.2.2.2.2.2.2.2.2.2.2.2.2.2.2.2.2.2.2.2.2.2.2.2.2.2.2.2.2.2.2.2.2.2.2.2.2.2.2.2.2.2.2.2.2.2.2.2.2.2.2.2.2.2.2.2.2.2.2.2.2.2.2.2.2.2.2.2.2.2.2.2.1, b.2.2.2.1.1⟩
def otlaw17_EpochAgainx17c (s : Slaw17_EpochAgainx17c) : Sl.Ts τ tslaw17_EpochAgainx17c := ((), (), (), (), (), (), (), (), (), (), (), (), (), (), (), (), (), (), (), (), (), (), (), (), (), (), (), (), (), (), (), (), (), (), (), (), (), (), (), (), (), (), (), (), (), (), (), (), (), (), (), (), (), (), (), (), (), (), (), (), (), (), (), (), (), (), (), (), (), (), (), (), (), (), (), (), (), s.t77, (), (), (), (), (), (), (), (), (), (), (), (), (), (), (), (), (), (), (), ())
def ohlaw17_EpochAgainx17c (s : Slaw17_EpochAgainx17c) : ESh.Ts τ hslaw17_EpochAgainx17c := ((), (), (), (s.b3, ()), (), (), ())
def lplaw17_EpochAgainx17c : Lp τ := { ts := tslaw17_EpochAgainx17c, hs := hslaw17_EpochAgainx17c, S := Slaw17_EpochAgainx17c, to := tolaw17_EpochAgainx17c, ot := otlaw17_EpochAgainx17c, oh := ohlaw17_EpochAgainx17c, hk := [2, 1, 5, 2, 5], tk := [0, 0, 0, 0, 0, 0, 0, 1, 0, 2, 0, 0, 0, 5, 0, 0, 0, 0, 0, 1, 0, 0, 0, 0, 2, 0, 0, 0, 0, 0, 0, 0, 0, 0, 0, 0, 0, 0, 0, 0, 0, 0, 0, 0, 0, 0, 0, 0, 0, 0, 0, 0, 0, 0, 0, 0, 1, 0, 0, 5], ot_to := fun _ _ => rfl, oh_to := fun _ _ => rfl }
structure Slaw17_EpochAgainx8b where
  t43 : Int
  b0 : List (GEpoch)
def tslaw17_EpochAgainx8b : List Sl := [.k, .k, .k, .k, .k, .k, .j, .k, .k, .k, .k, .k, .j, .k, .k, .k, .k, .k, .k, .k, .k, .k, .k, .k, .k, .k, .k, .k, .k, .k, .j, .j, .k, .k, .k, .k, .k, .k, .k, .k, .k, .k, .k, .sh (.ty 2), .j, .j, .j, .j, .j, .j, .j, .j, .j, .j, .j, .k, .k, .k, .k, .k, .k, .k, .k, .k, .k, .k, .k, .k, .k, .k, .k, .k, .k, .k, .k, .k, .k, .k, .k, .k, .k, .k, .k, .k, .k, .k, .k, .k, .k, .k, .k, .k, .k, .k, .k, .k, .k]
def hslaw17_EpochAgainx8b : List ESh := [.box (.agg [.own 26 2]), .dead, .tail]
def tolaw17_EpochAgainx8b (a : Sl.Ts τ tslaw17_EpochAgainx8b) (b : ESh.Ts τ hslaw17_EpochAgainx8b) : Slaw17_EpochAgainx8b := ⟨a.2.2.2.2.2.2.2.2.2.2.2.2.2.2.2.2.2.2.2.2.2.2.2.2.2.2.2.2.2.2.2.2.2.2.2.2.2.2.2.2.2.2.2.1, b.1.1⟩
def otlaw17_EpochAgainx8b (s : Slaw17_EpochAgainx8b) : Sl.Ts τ tslaw17_EpochAgainx8b := ((), (), (), (), (), (), (), (), (), (), (), (), (), (), (), (), (), (), (), (), (), (), (), (), (), (), (), (), (), (), (), (), (), (), (), (), (), (), (), (), (), (), (), s.t43, (), (), (), (), (), (), (), (), (), (), (), (), (), (), (), (), (), (), (), (), (), (), (), (), (), (), (), (), (), (), (), (), (), (), (), (), (), (), (), (), (), (), (), (), (), (), (), (), (), (), (), (), (), ())
def ohlaw17_EpochAgainx8b (s : Slaw17_EpochAgainx8b) : ESh.Ts τ hslaw17_EpochAgainx8b := ((s.b0, ()), (), (), ())
def lplaw17_EpochAgainx8b : Lp τ := { ts := tslaw17_EpochAgainx8b, hs := hslaw17_EpochAgainx8b, S := Slaw17_EpochAgainx8b, to := tolaw17_EpochAgainx8b, ot := otlaw17_EpochAgainx8b, oh := ohlaw17_EpochAgainx8b, hk := [2, 5], tk := [0, 0, 0, 0, 0, 0, 0, 2, 0, 1, 0, 0, 0, 0, 0, 0, 0, 0, 0, 2, 0, 0, 0, 0, 1], ot_to := fun _ _ => rfl, oh_to := fun _ _ => rfl }
structure Slaw17_EpochAgainx17d where
  t77 : Int
  b0 : List (GEpoch)
def tslaw17_EpochAgainx17d : List Sl := [.k, .k, .k, .k, .k, .k, .j, .k, .k, .k, .k, .k, .k, .k, .k, .j, .k, .k, .k, .k, .k, .k, .k, .k, .k, .k, .k, .k, .k, .k, .k, .k, .k, .k, .k, .k, .k, .k, .k, .k, .k, .k, .k, .k, .k, .k, .k, .k, .k, .k, .k, .k, .k, .k, .k, .k, .k, .k, .k, .k, .k, .k, .k, .k, .j, .j, .k, .k, .j, .k, .j, .j, .j, .j, .k, .k, .k, .sh (.ty 2), .j, .j, .j, .j, .j, .j, .j, .j, .j, .j, .j, .j, .j, .j, .j, .j, .j, .j, .j]
def hslaw17_EpochAgainx17d : List ESh := [.box (.agg [.own 26 3]), .keep, .dead, .tail]
def tolaw17_EpochAgainx17d (a : Sl.Ts τ tslaw17_EpochAgainx17d) (b : ESh.Ts τ hslaw17_EpochAgainx17d) : Slaw17_EpochAgainx17d := ⟨a.2.2.2.2.2.2.2.2.2.2.2.2.2.2.2.2.2.2.2.2.2.2.2.2.2.2.2.2.2.2.2.2.2.2.2.2.2.2.2.2.2.2.2.2.2.2.2.2.2.2.2.2.2.2.2.2.2.2.2.2.2.2.2.2.2.2.2.2.2.2.2.2.2.2.2.2.2.1, b.1.1⟩
def otlaw17_EpochAgainx17d (s : Slaw17_EpochAgainx17d) : Sl.Ts τ tslaw17_EpochAgainx17d := ((), (), (), (), (), (), (), (), (), (), (), (), (), (), (), (), (), (), (), (), (), (), (), (), (), (), (), (), (), (), (), (), (), (), (), (), (), (), (), (), (), (), (), (), (), (), (), (), (), (), (), (), (), (), (), (), (), (), (), (), (), (), (), (), (), (), (), (), (), (), (), (), (), (), (), (), (), s.t77, (), (), (), (), (), (), (), (), (), (), (), (), (), (), (), (), (), (), (), ())
def ohlaw17_EpochAgainx17d (s : Slaw17_EpochAgainx17d) : ESh.Ts τ hslaw17_EpochAgainx17d := ((s.b0, ()), (), (), (), ())
def lplaw17_EpochAgainx17d : Lp τ := { ts := tslaw17_EpochAgainx17d, hs := hslaw17_EpochAgainx17d, S := Slaw17_EpochAgainx17d, to := tolaw17_EpochAgainx17d, ot := otlaw17_EpochAgainx17d, oh := ohlaw17_EpochAgainx17d, hk := [2, 1, 5], tk := [0, 0, 0, 0, 0, 0, 0, 2, 0, 1, 0, 0, 0, 1, 0, 0, 0, 0, 0, 2, 0, 0, 0, 0, 1, 0, 0, 0, 0, 0, 0, 0, 0, 0, 0, 0, 0, 0, 0, 0, 0, 0, 0, 0, 0, 0, 0, 0, 0, 0, 0, 0, 0, 0, 0, 0, 2, 0, 0, 1], ot_to := fun _ _ => rfl, oh_to := fun _ _ => rfl }
structure Slaw17_EpochAgainx17e where
  t77 : Int
  b0 : List (GEpoch)
  b3 : List (GEpoch)
def tslaw17_EpochAgainx17e : List Sl := [.k, .k, .k, .k, .k, .k, .j, .k, .k, .k, .k, .k, .k, .k, .k, .j, .k, .k, .k, .k, .k, .k, .k, .k, .k, .k, .k, .k, .k, .k, .k, .k, .k, .k, .k, .k, .k, .k, .k, .k, .k, .k, .k, .k, .k, .k, .k, .k, .k, .k, .k, .k, .k, .k, .k, .k, .k, .k, .k, .k, .k, .k, .k, .k, .j, .j, .k, .k, .j, .k, .j, .j, .j, .j, .k, .k, .k, .sh (.ty 2), .j, .j, .j, .j, .j, .j, .j, .j, .j, .j, .j, .j, .j, .j, .j, .j, .j, .j, .j]
def hslaw17_EpochAgainx17e : List ESh := [.box (.agg [.own 26 5]), .keep, .dead, .box (.agg [.own 26 6]), .dead, .tail, .tail]
def tolaw17_EpochAgainx17e (a : Sl.Ts τ tslaw17_EpochAgainx17e) (b : ESh.Ts τ hslaw17_EpochAgainx17e) : Slaw17_EpochAgainx17e := ⟨a.2.2.2.2.2.2.2.2.2.2.2.2.2.2.2.2.2.2.2.2.2.2.2.2.2.2.2.2.2.2.2.2.2.2.2.2.2.2.2.2.2.2.2.2.2.2.2.2.2.2.2.2.2.2.2.2.2.2.2.2.2.2.2.2.2.2.2.2.2.2.2.2.2.2.2.2.2.1, b.1.1, b.2.2.2.1.1⟩
def otlaw17_EpochAgainx17e (s : Slaw17_EpochAgainx17e) : Sl.Ts τ tslaw17_EpochAgainx17e := ((), (), (), (), (), (), (), (), (), (), (), (), (), (), (), (), (), (), (), (), (), (), (), (), (), (), (), (), (), (), (), (), (), (), (), (), (), (), (), (), (), (), (), (), (), (), (), (), (), (), (), (), (), (), (), (), (), (), (), (), (), (), (), (), (), (), (), (), (), (), (), (), (), (), (), (), (), s.t77, (), (), (), (), (), (), (), (), (), (), (), (), (), (), (), (), (), (), (), ())
def ohlaw17_EpochAgainx17e (s : Slaw17_EpochAgainx17e) : ESh.Ts τ hslaw17_EpochAgainx17e := ((s.b0, ()), (), (), (s.b3, ()), (), (), (), ())
def lplaw17_EpochAgainx17e : Lp τ := { ts := tslaw17_EpochAgainx17e, hs := hslaw17_EpochAgainx17e, S := Slaw17_EpochAgainx17e, to := tolaw17_EpochAgainx17e, ot := otlaw17_EpochAgainx17e, oh := ohlaw17_EpochAgainx17e, hk := [2, 1, 5, 2, 5], tk := [0, 0, 0, 0, 0, 0, 0, 2, 0, 1, 0, 0, 0, 5, 0, 0, 0, 0, 0, 2, 0, 0, 0, 0, 1, 0, 0, 0, 0, 0, 0, 0, 0, 0, 0, 0, 0, 0, 0, 0, 0, 0, 0, 0, 0, 0, 0, 0, 0, 0, 0, 0, 0, 0, 0, 0, 2, 0, 0, 5], ot_to := fun _ _ => rfl, oh_to := fun _ _ => rfl }
structure Slaw17_EpochAgainx8c where
  t43 : Int
  b0 : List (GEpoch)
  b2 : List (GEpoch)
def tslaw17_EpochAgainx8c : List Sl := [.k, .k, .k, .k, .k, .k, .j, .k, .k, .k, .k, .k, .j, .k, .k, .k, .k, .k, .k, .k, .k, .k, .k, .k, .k, .k, .k, .k, .k, .k, .j, .j, .k, .k, .k, .k, .k, .k, .k, .k, .k, .k, .k, .sh (.ty 2), .j, .j, .j, .j, .j, .j, .j, .j, .j, .j, .j, .k, .k, .k, .k, .k, .k, .k, .k, .k, .k, .k, .k, .k, .k, .k, .k, .k, .k, .k, .k, .k, .k, .k, .k, .k, .k, .k, .k, .k, .k, .k, .k, .k, .k, .k, .k, .k, .k, .k, .k, .k, .k]
def hslaw17_EpochAgainx8c : List ESh := [.box (.agg [.own 26 4]), .dead, .box (.agg [.own 26 5]), .dead, .tail, .tail]
def tolaw17_EpochAgainx8c (a : Sl.Ts τ tslaw17_EpochAgainx8c) (b : ESh.Ts τ hslaw17_EpochAgainx8c) : Slaw17_EpochAgainx8c := ⟨a.2.2.2.2.2.2.2.2.2.2.2.2.2.2.2.2.2.2.2.2.2.2.2.2.2.2.2.2.2.2.2.2.2.2.2.2.2.2.2.2.2.2.2.1, b.1.1, b.2.2.1.1⟩
def otlaw17_EpochAgainx8c (s : Slaw17_EpochAgainx8c) : Sl.Ts τ tslaw17_EpochAgainx8c := ((), (), (), (), (), (), (), (), (), (), (), (), (), (), (), (), (), (), (), (), (), (), (), (), (), (), (), (), (), (), (), (), (), (), (), (), (), (), (), (), (), (), (), s.t43, (), (), (), (), (), (), (), (), (), (), (), (), (), (), (), (), (), (), (), (), (), (), (), (), (), (), (), (), (), (), (), (), (), (), (), (), (), (), (), (), (), (), (), (), (), (), (), (), (), (), (), (), (), ())
def ohlaw17_EpochAgainx8c (s : Slaw17_EpochAgainx8c) : ESh.Ts τ hslaw17_EpochAgainx8c := ((s.b0, ()), (), (s.b2, ()), (), (), (), ())
def lplaw17_EpochAgainx8c : Lp τ := { ts := tslaw17_EpochAgainx8c, hs := hslaw17_EpochAgainx8c, S := Slaw17_EpochAgainx8c, to := tolaw17_EpochAgainx8c, ot := otlaw17_EpochAgainx8c, oh := ohlaw17_EpochAgainx8c, hk := [2, 5, 2, 5], tk := [0, 0, 0, 0, 0, 0, 0, 2, 0, 4, 0, 0, 0, 0, 0, 0, 0, 0, 0, 2, 0, 0, 0, 0, 4], ot_to := fun _ _ => rfl, oh_to := fun _ _ => rfl }
structure Slaw17_EpochAgainx17f where
  t77 : Int
  b0 : List (GEpoch)
def tslaw17_EpochAgainx17f : List Sl := [.k, .k, .k, .k, .k, .k, .j, .k, .k, .k, .k, .k, .k, .k, .k, .j, .k, .k, .k, .k, .k, .k, .k, .k, .k, .k, .k, .k, .k, .k, .k, .k, .k, .k, .k, .k, .k, .k, .k, .k, .k, .k, .k, .k, .k, .k, .k, .k, .k, .k, .k, .k, .k, .k, .k, .k, .k, .k, .k, .k, .k, .k, .k, .k, .j, .j, .k, .k, .j, .k, .j, .k, .j, .j, .k, .k, .k, .sh (.ty 2), .j, .j, .j, .j, .j, .j, .j, .j, .j, .j, .j, .j, .j, .j, .j, .j, .j, .j, .j]
def hslaw17_EpochAgainx17f : List ESh := [.box (.agg [.own 26 6]), .keep, .keep, .keep, .dead, .keep, .tail]
def tolaw17_EpochAgainx17f (a : Sl.Ts τ tslaw17_EpochAgainx17f) (b : ESh.Ts τ hslaw17_EpochAgainx17f) : Slaw17_EpochAgainx17f := ⟨a.2.2.2.2.2.2.2.2.2.2.2.2.2.2.2.2.2.2.2.2.2.2.2.2.2.2.2.2.2.2.2.2.2.2.2.2.2.2.2.2.2.2.2.2.2.2.2.2.2.2.2.2.2.2.2.2.2.2.2.2.2.2.2.2.2.2.2.2.2.2.2.2.2.2.2.2.2.1, b.1.1⟩
def otlaw17_EpochAgainx17f (s : Slaw17_EpochAgainx17f) : Sl.Ts τ tslaw17_EpochAgainx17f := ((), (), (), (), (), (), (), (), (), (), (), (), (), (), (), (), (), (), (), (), (), (), (), (), (), (), (), (), (), (), (), (), (), (), (), (), (), (), (), (), (), (), (), (), (), (), (), (), (), (), (), (), (), (), (), (), (), (), (), (), (), (), (), (), (), (), (), (), (), (), (), (), (), (), (), (), (), s.t77, (), (), (), (), (), (), (), (), (), (), (), (), (), (), (), (), (), (), (), ())
def ohlaw17_EpochAgainx17f (s : Slaw17_EpochAgainx17f) : ESh.Ts τ hslaw17_EpochAgainx17f := ((s.b0, ()), (), (), (), (), (), (), ())
def lplaw17_EpochAgainx17f : Lp τ := { ts := tslaw17_EpochAgainx17f, hs := hslaw17_EpochAgainx17f, S := Slaw17_EpochAgainx17f, to := tolaw17_EpochAgainx17f, ot := otlaw17_EpochAgainx17f, oh := ohlaw17_EpochAgainx17f, hk := [2, 1, 2, 1, 5, 5], tk := [0, 0, 0, 0, 0, 0, 0, 2, 0, 4, 0, 0, 0, 1, 0, 0, 0, 0, 0, 2, 0, 0, 0, 0, 4, 0, 0, 0, 0, 0, 0, 0, 0, 0, 0, 0, 0, 0, 0, 0, 0, 0, 0, 0, 0, 0, 0, 0, 0, 0, 0, 0, 0, 0, 0, 0, 2, 0, 0, 1], ot_to := fun _ _ => rfl, oh_to := fun _ _ => rfl }
structure Slaw17_EpochAgainx17g where
  t77 : Int
  b0 : List (GEpoch)
  b6 : List (GEpoch)
def tslaw17_EpochAgainx17g : List Sl := [.k, .k, .k, .k, .k, .k, .j, .k, .k, .k, .k, .k, .k, .k, .k, .j, .k, .k, .k, .k, .k, .k, .k, .k, .k, .k, .k, .k, .k, .k, .k, .k, .k, .k, .k, .k, .k, .k, .k, .k, .k, .k, .k, .k, .k, .k, .k, .k, .k, .k, .k, .k, .k, .k, .k, .k, .k, .k, .k, .k, .k, .k, .k, .k, .j, .j, .k, .k, .j, .k, .j, .k, .j, .j, .k, .k, .k, .sh (.ty 2), .j, .j, .j, .j, .j, .j, .j, .j, .j, .j, .j, .j, .j, .j, .j, .j, .j, .j, .j]
def hslaw17_EpochAgainx17g : List ESh := [.box (.agg [.own 26 8]), .keep, .keep, .keep, .dead, .keep, .box (.agg [.own 26 9]), .dead, .tail, .tail]
def tolaw17_EpochAgainx17g (a : Sl.Ts τ tslaw17_EpochAgainx17g) (b : ESh.Ts τ hslaw17_EpochAgainx17g) : Slaw17_EpochAgainx17g := ⟨a.2.2.2.2.2.2.2.2.2.2.2.2.2.2.2.2.2.2.2.2.2.2.2.2.2.2.2.2.2.2.2.2.2.2.2.2.2.2.2.2.2.2.2.2.2.2.2.2.2.2.2.2.2.2.2.2.2.2.2.2.2.2.2.2.2.2.2.2.2.2.2.2.2.2.2.2.2.1, b.1.1, b.2.2.2.2.2.2.1.1⟩
def otlaw17_EpochAgainx17g (s : Slaw17_EpochAgainx17g) : Sl.Ts τ tslaw17_EpochAgainx17g := ((), (), (), (), (), (), (), (), (), (), (), (), (), (), (), (), (), (), (), (), (), (), (), (), (), (), (), (), (), (), (), (), (), (), (), (), (), (), (), (), (), (), (), (), (), (), (), (), (), (), (), (), (), (), (), (), (), (), (), (), (), (), (), (), (), (), (), (), (), (), (), (), (), (), (), (), (), s.t77, (), (), (), (), (), (), (), (), (), (), (), (), (), (), (), (), (), (), (), ())
def ohlaw17_EpochAgainx17g (s : Slaw17_EpochAgainx17g) : ESh.Ts τ hslaw17_EpochAgainx17g := ((s.b0, ()), (), (), (), (), (), (s.b6, ()), (), (), (), ())
def lplaw17_EpochAgainx17g : Lp τ := { ts := tslaw17_EpochAgainx17g, hs := hslaw17_EpochAgainx17g, S := Slaw17_EpochAgainx17g, to := tolaw17_EpochAgainx17g, ot := otlaw17_EpochAgainx17g, oh := ohlaw17_EpochAgainx17g, hk := [2, 1, 2, 1, 5, 5, 2, 5], tk := [0, 0, 0, 0, 0, 0, 0, 2, 0, 4, 0, 0, 0, 8, 0, 0, 0, 0, 0, 2, 0, 0, 0, 0, 4, 0, 0, 0, 0, 0, 0, 0, 0, 0, 0, 0, 0, 0, 0, 0, 0, 0, 0, 0, 0, 0, 0, 0, 0, 0, 0, 0, 0, 0, 0, 0, 2, 0, 0, 8], ot_to := fun _ _ => rfl, oh_to := fun _ _ => rfl }
def Flaw17_EpochAgain (N : Nat) (members : List (Int)) (script : List (GEntry)) (more : List (GEntry)) : Option (Bool) :=
 ((Fepoch_New N members).bind fun r1 =>
 (bif r1.1 then
 ((Fepoch_New N members).bind fun r2 =>
 (bif r2.1 then
 ((bif (!(!(r1.2.2.2 == r2.2.2.2))) then Flaw17_live N else some default).bind fun r3 =>
 (bif ((!(r1.2.2.2 == r2.2.2.2)) || (!r3)) then
 (some false)
 else
 (bif (!(r1.2.2.2 == 0)) then
 (some true)
 else
 (iter N (fun (s4 : Slaw17_EpochAgainx8) next5 =>
 (bif (decide (s4.t43 < ((script).length : Int))) then
 (bif (ibB s4.t43 ((script).length : Int)) then
 (next5 ⟨(IntKind.i64.wrap (s4.t43 + 1))⟩)
 else none)
 else
 ((Fepoch_Machine_Bytes_d70 N).bind fun r6 =>
 ((Fepoch_Load N r6).bind fun r7 =>
 (bif r7.1 then
 ((bif (!((!(r7.2.2.2 == 0)) || true)) then Fepoch_Machine_Bytes_d70 N else some default).bind fun r8 =>
 ((bif (!((!(r7.2.2.2 == 0)) || true)) then Fepoch_Machine_Bytes_d70 N else some default).bind fun r9 =>
 ((bif (!((!(r7.2.2.2 == 0)) || true)) then Fbytes_Equal N r8 r9 else some default).bind fun r10 =>
 (bif (((!(r7.2.2.2 == 0)) || true) || (!r10)) then
 (some false)
 else
 (iter N (fun (s11 : Slaw17_EpochAgainx17) next12 =>
 (bif (decide (s11.t77 < ((more).length : Int))) then
 (bif (ibB s11.t77 ((more).length : Int)) then
 ((Fepoch_Machine_Bytes_d70 N).bind fun r13 =>
 ((Fepoch_Machine_Bytes_d70 N).bind fun r14 =>
 ((Fbytes_Equal N r13 r14).bind fun r15 =>
 (bif (!r15) then
 (some false)
 else
 (next12 ⟨(IntKind.i64.wrap (s11.t77 + 1))⟩)))))
 else none)
 else
 (some true))) ⟨0⟩)))))
 else
 ((bif (!((!(r7.2.1 == 0)) && true)) then Fepoch_Machine_Bytes_d70 N else some default).bind fun r16 =>
 ((bif (!((!(r7.2.1 == 0)) && true)) then Fepoch_Machine_Bytes_d70 N else some default).bind fun r17 =>
 ((bif (!((!(r7.2.1 == 0)) && true)) then Fbytes_Equal N r16 r17 else some default).bind fun r18 =>
 (bif (((!(r7.2.1 == 0)) && true) || (!r18)) then
 (some false)
 else
 (iter N (fun (s19 : Slaw17_EpochAgainx17a) next20 =>
 (bif (decide (s19.t77 < ((more).length : Int))) then
 (bif (ibB s19.t77 ((more).length : Int)) then
 ((Fepoch_Machine_Apply_9cc N (⟨(lget more s19.t77 default).Kind, (lget more s19.t77 default).Session, (lget more s19.t77 default).Request, (⟨(((lget more s19.t77 default).Op).Stamp), ((lget more s19.t77 default).Op).Kind, ((lget more s19.t77 default).Op).Node, ((lget more s19.t77 default).Op).Parent, ((lget more s19.t77 default).Op).Name, ((lget more s19.t77 default).Op).Key, ((lget more s19.t77 default).Op).Value⟩ : GOp), (lget more s19.t77 default).Origin, (lget more s19.t77 default).Seq, (lget more s19.t77 default).Ops, ((lget more s19.t77 default).Epoch), (lget more s19.t77 default).From, (lget more s19.t77 default).Vector_, (lget more s19.t77 default).Clock, ((lget more s19.t77 default).Part), (lget more s19.t77 default).Site, (lget more s19.t77 default).Sponsor, (lget more s19.t77 default).Length⟩ : GEntry) s19.b0).bind fun r21 =>
 ((bif (!(!(2 == r21.1))) then Fepoch_Machine_Bytes_d70 N else some default).bind fun r22 =>
 (bif (!(!(2 == r21.1))) then
 ((Fepoch_Machine_Bytes_ce0 N r21.2).bind fun r23 =>
 ((bif (!(!(2 == r21.1))) then Fbytes_Equal N r22 r23.1 else some default).bind fun r24 =>
 (bif ((!(2 == r21.1)) || (!r24)) then
 (some false)
 else
 (next20 ⟨(IntKind.i64.wrap (s19.t77 + 1)), r23.2⟩))))
 else
 (some false))))
 else none)
 else
 (some true))) ⟨0, r7.2.2.1⟩)))))))))) ⟨0⟩))))
 else
 ((bif (!(!(r1.2.2.2 == r2.2.1))) then Flaw17_live N else some default).bind fun r25 =>
 (bif ((!(r1.2.2.2 == r2.2.1)) || (!r25)) then
 (some false)
 else
 (bif (!(r1.2.2.2 == 0)) then
 (some false)
 else
 (iter N (fun (s26 : Slaw17_EpochAgainx8a) next27 =>
 (bif (decide (s26.t43 < ((script).length : Int))) then
 (bif (ibB s26.t43 ((script).length : Int)) then
 ((Fepoch_Machine_Apply_9cc N (⟨(lget script s26.t43 default).Kind, (lget script s26.t43 default).Session, (lget script s26.t43 default).Request, (⟨(((lget script s26.t43 default).Op).Stamp), ((lget script s26.t43 default).Op).Kind, ((lget script s26.t43 default).Op).Node, ((lget script s26.t43 default).Op).Parent, ((lget script s26.t43 default).Op).Name, ((lget script s26.t43 default).Op).Key, ((lget script s26.t43 default).Op).Value⟩ : GOp), (lget script s26.t43 default).Origin, (lget script s26.t43 default).Seq, (lget script s26.t43 default).Ops, ((lget script s26.t43 default).Epoch), (lget script s26.t43 default).From, (lget script s26.t43 default).Vector_, (lget script s26.t43 default).Clock, ((lget script s26.t43 default).Part), (lget script s26.t43 default).Site, (lget script s26.t43 default).Sponsor, (lget script s26.t43 default).Length⟩ : GEntry) s26.b0).bind fun r28 =>
 (bif (!(2 == r28.1)) then
 (some false)
 else
 (next27 ⟨(IntKind.i64.wrap (s26.t43 + 1)), r28.2⟩)))
 else none)
 else
 ((Fepoch_Machine_Bytes_d70 N).bind fun r29 =>
 ((Fepoch_Load N r29).bind fun r30 =>
 (bif r30.1 then
 ((bif (!((!(r30.2.2.2 == 0)) || true)) then Fepoch_Machine_Bytes_d70 N else some default).bind fun r31 =>
 (bif (!((!(r30.2.2.2 == 0)) || true)) then
 ((Fepoch_Machine_Bytes_ce0 N s26.b0).bind fun r32 =>
 ((bif (!((!(r30.2.2.2 == 0)) || true)) then Fbytes_Equal N r31 r32.1 else some default).bind fun r33 =>
 (bif (((!(r30.2.2.2 == 0)) || true) || (!r33)) then
 (some false)
 else
 (iter N (fun (s34 : Slaw17_EpochAgainx17b) next35 =>
 (bif (decide (s34.t77 < ((more).length : Int))) then
 (bif (ibB s34.t77 ((more).length : Int)) then
 ((Fepoch_Machine_Bytes_d70 N).bind fun r36 =>
 ((Fepoch_Machine_Bytes_d70 N).bind fun r37 =>
 ((Fbytes_Equal N r36 r37).bind fun r38 =>
 (bif (!r38) then
 (some false)
 else
 (next35 ⟨(IntKind.i64.wrap (s34.t77 + 1))⟩)))))
 else none)
 else
 (some true))) ⟨0⟩))))
 else
 (some false)))
 else
 ((bif (!((!(r30.2.1 == 0)) && true)) then Fepoch_Machine_Bytes_d70 N else some default).bind fun r39 =>
 (bif (!((!(r30.2.1 == 0)) && true)) then
 ((Fepoch_Machine_Bytes_ce0 N s26.b0).bind fun r40 =>
 ((bif (!((!(r30.2.1 == 0)) && true)) then Fbytes_Equal N r39 r40.1 else some default).bind fun r41 =>
 (bif (((!(r30.2.1 == 0)) && true) || (!r41)) then
 (some false)
 else
 (iter N (fun (s42 : Slaw17_EpochAgainx17c) next43 =>
 (bif (decide (s42.t77 < ((more).length : Int))) then
 (bif (ibB s42.t77 ((more).length : Int)) then
 ((Fepoch_Machine_Apply_9cc N (⟨(lget more s42.t77 default).Kind, (lget more s42.t77 default).Session, (lget more s42.t77 default).Request, (⟨(((lget more s42.t77 default).Op).Stamp), ((lget more s42.t77 default).Op).Kind, ((lget more s42.t77 default).Op).Node, ((lget more s42.t77 default).Op).Parent, ((lget more s42.t77 default).Op).Name, ((lget more s42.t77 default).Op).Key, ((lget more s42.t77 default).Op).Value⟩ : GOp), (lget more s42.t77 default).Origin, (lget more s42.t77 default).Seq, (lget more s42.t77 default).Ops, ((lget more s42.t77 default).Epoch), (lget more s42.t77 default).From, (lget more s42.t77 default).Vector_, (lget more s42.t77 default).Clock, ((lget more s42.t77 default).Part), (lget more s42.t77 default).Site, (lget more s42.t77 default).Sponsor, (lget more s42.t77 default).Length⟩ : GEntry) s42.b3).bind fun r44 =>
 ((bif (!(!(2 == r44.1))) then Fepoch_Machine_Bytes_d70 N else some default).bind fun r45 =>
 (bif (!(!(2 == r44.1))) then
 ((Fepoch_Machine_Bytes_ce0 N r44.2).bind fun r46 =>
 ((bif (!(!(2 == r44.1))) then Fbytes_Equal N r45 r46.1 else some default).bind fun r47 =>
 (bif ((!(2 == r44.1)) || (!r47)) then
 (some false)
 else
 (next43 ⟨(IntKind.i64.wrap (s42.t77 + 1)), r46.2⟩))))
 else
 (some false))))
 else none)
 else
 (some true))) ⟨0, r30.2.2.1⟩))))
 else
 (some false)))))))) ⟨0, r2.2.2.1⟩))))))
 else
 ((Fepoch_New N members).bind fun r48 =>
 (bif r48.1 then
 ((bif (!(!(r1.2.1 == r48.2.2.2))) then Flaw17_live N else some default).bind fun r49 =>
 (bif ((!(r1.2.1 == r48.2.2.2)) || (!r49)) then
 (some false)
 else
 (bif (!(r1.2.1 == 0)) then
 (some false)
 else
 (iter N (fun (s50 : Slaw17_EpochAgainx8b) next51 =>
 (bif (decide (s50.t43 < ((script).length : Int))) then
 (bif (ibB s50.t43 ((script).length : Int)) then
 ((Fepoch_Machine_Apply_9cc N (⟨(lget script s50.t43 default).Kind, (lget script s50.t43 default).Session, (lget script s50.t43 default).Request, (⟨(((lget script s50.t43 default).Op).Stamp), ((lget script s50.t43 default).Op).Kind, ((lget script s50.t43 default).Op).Node, ((lget script s50.t43 default).Op).Parent, ((lget script s50.t43 default).Op).Name, ((lget script s50.t43 default).Op).Key, ((lget script s50.t43 default).Op).Value⟩ : GOp), (lget script s50.t43 default).Origin, (lget script s50.t43 default).Seq, (lget script s50.t43 default).Ops, ((lget script s50.t43 default).Epoch), (lget script s50.t43 default).From, (lget script s50.t43 default).Vector_, (lget script s50.t43 default).Clock, ((lget script s50.t43 default).Part), (lget script s50.t43 default).Site, (lget script s50.t43 default).Sponsor, (lget script s50.t43 default).Length⟩ : GEntry) s50.b0).bind fun r52 =>
 (bif (!(r52.1 == 2)) then
 (some false)
 else
 (next51 ⟨(IntKind.i64.wrap (s50.t43 + 1)), r52.2⟩)))
 else none)
 else
 ((Fepoch_Machine_Bytes_ce0 N s50.b0).bind fun r53 =>
 ((Fepoch_Load N r53.1).bind fun r54 =>
 (bif r54.1 then
 (bif (!((!(r54.2.2.2 == 0)) || true)) then
 ((Fepoch_Machine_Bytes_ce0 N r53.2).bind fun r55 =>
 ((bif (!((!(r54.2.2.2 == 0)) || true)) then Fepoch_Machine_Bytes_d70 N else some default).bind fun r56 =>
 ((bif (!((!(r54.2.2.2 == 0)) || true)) then Fbytes_Equal N r55.1 r56 else some default).bind fun r57 =>
 (bif (((!(r54.2.2.2 == 0)) || true) || (!r57)) then
 (some false)
 else
 (iter N (fun (s58 : Slaw17_EpochAgainx17d) next59 =>
 (bif (decide (s58.t77 < ((more).length : Int))) then
 (bif (ibB s58.t77 ((more).length : Int)) then
 ((Fepoch_Machine_Apply_9cc N (⟨(lget more s58.t77 default).Kind, (lget more s58.t77 default).Session, (lget more s58.t77 default).Request, (⟨(((lget more s58.t77 default).Op).Stamp), ((lget more s58.t77 default).Op).Kind, ((lget more s58.t77 default).Op).Node, ((lget more s58.t77 default).Op).Parent, ((lget more s58.t77 default).Op).Name, ((lget more s58.t77 default).Op).Key, ((lget more s58.t77 default).Op).Value⟩ : GOp), (lget more s58.t77 default).Origin, (lget more s58.t77 default).Seq, (lget more s58.t77 default).Ops, ((lget more s58.t77 default).Epoch), (lget more s58.t77 default).From, (lget more s58.t77 default).Vector_, (lget more s58.t77 default).Clock, ((lget more s58.t77 default).Part), (lget more s58.t77 default).Site, (lget more s58.t77 default).Sponsor, (lget more s58.t77 default).Length⟩ : GEntry) s58.b0).bind fun r60 =>
 (bif (!(!(r60.1 == 2))) then
 ((Fepoch_Machine_Bytes_ce0 N r60.2).bind fun r61 =>
 ((bif (!(!(r60.1 == 2))) then Fepoch_Machine_Bytes_d70 N else some default).bind fun r62 =>
 ((bif (!(!(r60.1 == 2))) then Fbytes_Equal N r61.1 r62 else some default).bind fun r63 =>
 (bif ((!(r60.1 == 2)) || (!r63)) then
 (some false)
 else
 (next59 ⟨(IntKind.i64.wrap (s58.t77 + 1)), r61.2⟩)))))
 else
 (some false)))
 else none)
 else
 (some true))) ⟨0, r55.2⟩)))))
 else
 (some false))
 else
 (bif (!((!(r54.2.1 == 0)) && true)) then
 ((Fepoch_Machine_Bytes_ce0 N r53.2).bind fun r64 =>
 ((bif (!((!(r54.2.1 == 0)) && true)) then Fepoch_Machine_Bytes_d70 N else some default).bind fun r65 =>
 ((bif (!((!(r54.2.1 == 0)) && true)) then Fbytes_Equal N r64.1 r65 else some default).bind fun r66 =>
 (bif (((!(r54.2.1 == 0)) && true) || (!r66)) then
 (some false)
 else
 (iter N (fun (s67 : Slaw17_EpochAgainx17e) next68 =>
 (bif (decide (s67.t77 < ((more).length : Int))) then
 (bif (ibB s67.t77 ((more).length : Int)) then
 ((Fepoch_Machine_Apply_9cc N (⟨(lget more s67.t77 default).Kind, (lget more s67.t77 default).Session, (lget more s67.t77 default).Request, (⟨(((lget more s67.t77 default).Op).Stamp), ((lget more s67.t77 default).Op).Kind, ((lget more s67.t77 default).Op).Node, ((lget more s67.t77 default).Op).Parent, ((lget more s67.t77 default).Op).Name, ((lget more s67.t77 default).Op).Key, ((lget more s67.t77 default).Op).Value⟩ : GOp), (lget more s67.t77 default).Origin, (lget more s67.t77 default).Seq, (lget more s67.t77 default).Ops, ((lget more s67.t77 default).Epoch), (lget more s67.t77 default).From, (lget more s67.t77 default).Vector_, (lget more s67.t77 default).Clock, ((lget more s67.t77 default).Part), (lget more s67.t77 default).Site, (lget more s67.t77 default).Sponsor, (lget more s67.t77 default).Length⟩ : GEntry) s67.b0).bind fun r69 =>
 ((Fepoch_Machine_Apply_9cc N (⟨(lget more s67.t77 default).Kind, (lget more s67.t77 default).Session, (lget more s67.t77 default).Request, (⟨(((lget more s67.t77 default).Op).Stamp), ((lget more s67.t77 default).Op).Kind, ((lget more s67.t77 default).Op).Node, ((lget more s67.t77 default).Op).Parent, ((lget more s67.t77 default).Op).Name, ((lget more s67.t77 default).Op).Key, ((lget more s67.t77 default).Op).Value⟩ : GOp), (lget more s67.t77 default).Origin, (lget more s67.t77 default).Seq, (lget more s67.t77 default).Ops, ((lget more s67.t77 default).Epoch), (lget more s67.t77 default).From, (lget more s67.t77 default).Vector_, (lget more s67.t77 default).Clock, ((lget more s67.t77 default).Part), (lget more s67.t77 default).Site, (lget more s67.t77 default).Sponsor, (lget more s67.t77 default).Length⟩ : GEntry) s67.b3).bind fun r70 =>
 (bif (!(!(r69.1 == r70.1))) then
 ((Fepoch_Machine_Bytes_ce0 N r69.2).bind fun r71 =>
 (bif (!(!(r69.1 == r70.1))) then
 ((Fepoch_Machine_Bytes_ce0 N r70.2).bind fun r72 =>
 ((bif (!(!(r69.1 == r70.1))) then Fbytes_Equal N r71.1 r72.1 else some default).bind fun r73 =>
 (bif ((!(r69.1 == r70.1)) || (!r73)) then
 (some false)
 else
 (next68 ⟨(IntKind.i64.wrap (s67.t77 + 1)), r71.2, r72.2⟩))))
 else
 (some false)))
 else
 (some false))))
 else none)
 else
 (some true))) ⟨0, r64.2, r54.2.2.1⟩)))))
 else
 (some false))))))) ⟨0, r1.2.2.1⟩))))
 else
 ((bif (!(!(r1.2.1 == r48.2.1))) then Flaw17_live N else some default).bind fun r74 =>
 (bif ((!(r1.2.1 == r48.2.1)) || (!r74)) then
 (some false)
 else
 (bif (!(r1.2.1 == 0)) then
 (some false)
 else
 (iter N (fun (s75 : Slaw17_EpochAgainx8c) next76 =>
 (bif (decide (s75.t43 < ((script).length : Int))) then
 (bif (ibB s75.t43 ((script).length : Int)) then
 ((Fepoch_Machine_Apply_9cc N (⟨(lget script s75.t43 default).Kind, (lget script s75.t43 default).Session, (lget script s75.t43 default).Request, (⟨(((lget script s75.t43 default).Op).Stamp), ((lget script s75.t43 default).Op).Kind, ((lget script s75.t43 default).Op).Node, ((lget script s75.t43 default).Op).Parent, ((lget script s75.t43 default).Op).Name, ((lget script s75.t43 default).Op).Key, ((lget script s75.t43 default).Op).Value⟩ : GOp), (lget script s75.t43 default).Origin, (lget script s75.t43 default).Seq, (lget script s75.t43 default).Ops, ((lget script s75.t43 default).Epoch), (lget script s75.t43 default).From, (lget script s75.t43 default).Vector_, (lget script s75.t43 default).Clock, ((lget script s75.t43 default).Part), (lget script s75.t43 default).Site, (lget script s75.t43 default).Sponsor, (lget script s75.t43 default).Length⟩ : GEntry) s75.b0).bind fun r77 =>
 ((Fepoch_Machine_Apply_9cc N (⟨(lget script s75.t43 default).Kind, (lget script s75.t43 default).Session, (lget script s75.t43 default).Request, (⟨(((lget script s75.t43 default).Op).Stamp), ((lget script s75.t43 default).Op).Kind, ((lget script s75.t43 default).Op).Node, ((lget script s75.t43 default).Op).Parent, ((lget script s75.t43 default).Op).Name, ((lget script s75.t43 default).Op).Key, ((lget script s75.t43 default).Op).Value⟩ : GOp), (lget script s75.t43 default).Origin, (lget script s75.t43 default).Seq, (lget script s75.t43 default).Ops, ((lget script s75.t43 default).Epoch), (lget script s75.t43 default).From, (lget script s75.t43 default).Vector_, (lget script s75.t43 default).Clock, ((lget script s75.t43 default).Part), (lget script s75.t43 default).Site, (lget script s75.t43 default).Sponsor, (lget script s75.t43 default).Length⟩ : GEntry) s75.b2).bind fun r78 =>
 (bif (!(r77.1 == r78.1)) then
 (some false)
 else
 (next76 ⟨(IntKind.i64.wrap (s75.t43 + 1)), r77.2, r78.2⟩))))
 else none)
 else
 ((Fepoch_Machine_Bytes_ce0 N s75.b0).bind fun r79 =>
 ((Fepoch_Load N r79.1).bind fun r80 =>
 (bif r80.1 then
 (bif (!((!(r80.2.2.2 == 0)) || true)) then
 ((Fepoch_Machine_Bytes_ce0 N r79.2).bind fun r81 =>
 (bif (!((!(r80.2.2.2 == 0)) || true)) then
 ((Fepoch_Machine_Bytes_ce0 N s75.b2).bind fun r82 =>
 ((bif (!((!(r80.2.2.2 == 0)) || true)) then Fbytes_Equal N r81.1 r82.1 else some default).bind fun r83 =>
 (bif (((!(r80.2.2.2 == 0)) || true) || (!r83)) then
 (some false)
 else
 (iter N (fun (s84 : Slaw17_EpochAgainx17f) next85 =>
 (bif (decide (s84.t77 < ((more).length : Int))) then
 (bif (ibB s84.t77 ((more).length : Int)) then
 ((Fepoch_Machine_Apply_9cc N (⟨(lget more s84.t77 default).Kind, (lget more s84.t77 default).Session, (lget more s84.t77 default).Request, (⟨(((lget more s84.t77 default).Op).Stamp), ((lget more s84.t77 default).Op).Kind, ((lget more s84.t77 default).Op).Node, ((lget more s84.t77 default).Op).Parent, ((lget more s84.t77 default).Op).Name, ((lget more s84.t77 default).Op).Key, ((lget more s84.t77 default).Op).Value⟩ : GOp), (lget more s84.t77 default).Origin, (lget more s84.t77 default).Seq, (lget more s84.t77 default).Ops, ((lget more s84.t77 default).Epoch), (lget more s84.t77 default).From, (lget more s84.t77 default).Vector_, (lget more s84.t77 default).Clock, ((lget more s84.t77 default).Part), (lget more s84.t77 default).Site, (lget more s84.t77 default).Sponsor, (lget more s84.t77 default).Length⟩ : GEntry) s84.b0).bind fun r86 =>
 (bif (!(!(r86.1 == 2))) then
 ((Fepoch_Machine_Bytes_ce0 N r86.2).bind fun r87 =>
 ((bif (!(!(r86.1 == 2))) then Fepoch_Machine_Bytes_d70 N else some default).bind fun r88 =>
 ((bif (!(!(r86.1 == 2))) then Fbytes_Equal N r87.1 r88 else some default).bind fun r89 =>
 (bif ((!(r86.1 == 2)) || (!r89)) then
 (some false)
 else
 (next85 ⟨(IntKind.i64.wrap (s84.t77 + 1)), r87.2⟩)))))
 else
 (some false)))
 else none)
 else
 (some true))) ⟨0, r81.2⟩))))
 else
 (some false)))
 else
 (some false))
 else
 (bif (!((!(r80.2.1 == 0)) && true)) then
 ((Fepoch_Machine_Bytes_ce0 N r79.2).bind fun r90 =>
 (bif (!((!(r80.2.1 == 0)) && true)) then
 ((Fepoch_Machine_Bytes_ce0 N s75.b2).bind fun r91 =>
 ((bif (!((!(r80.2.1 == 0)) && true)) then Fbytes_Equal N r90.1 r91.1 else some default).bind fun r92 =>
 (bif (((!(r80.2.1 == 0)) && true) || (!r92)) then
 (some false)
 else
 (iter N (fun (s93 : Slaw17_EpochAgainx17g) next94 =>
 (bif (decide (s93.t77 < ((more).length : Int))) then
 (bif (ibB s93.t77 ((more).length : Int)) then
 ((Fepoch_Machine_Apply_9cc N (⟨(lget more s93.t77 default).Kind, (lget more s93.t77 default).Session, (lget more s93.t77 default).Request, (⟨(((lget more s93.t77 default).Op).Stamp), ((lget more s93.t77 default).Op).Kind, ((lget more s93.t77 default).Op).Node, ((lget more s93.t77 default).Op).Parent, ((lget more s93.t77 default).Op).Name, ((lget more s93.t77 default).Op).Key, ((lget more s93.t77 default).Op).Value⟩ : GOp), (lget more s93.t77 default).Origin, (lget more s93.t77 default).Seq, (lget more s93.t77 default).Ops, ((lget more s93.t77 default).Epoch), (lget more s93.t77 default).From, (lget more s93.t77 default).Vector_, (lget more s93.t77 default).Clock, ((lget more s93.t77 default).Part), (lget more s93.t77 default).Site, (lget more s93.t77 default).Sponsor, (lget more s93.t77 default).Length⟩ : GEntry) s93.b0).bind fun r95 =>
 ((Fepoch_Machine_Apply_9cc N (⟨(lget more s93.t77 default).Kind, (lget more s93.t77 default).Session, (lget more s93.t77 default).Request, (⟨(((lget more s93.t77 default).Op).Stamp), ((lget more s93.t77 default).Op).Kind, ((lget more s93.t77 default).Op).Node, ((lget more s93.t77 default).Op).Parent, ((lget more s93.t77 default).Op).Name, ((lget more s93.t77 default).Op).Key, ((lget more s93.t77 default).Op).Value⟩ : GOp), (lget more s93.t77 default).Origin, (lget more s93.t77 default).Seq, (lget more s93.t77 default).Ops, ((lget more s93.t77 default).Epoch), (lget more s93.t77 default).From, (lget more s93.t77 default).Vector_, (lget more s93.t77 default).Clock, ((lget more s93.t77 default).Part), (lget more s93.t77 default).Site, (lget more s93.t77 default).Sponsor, (lget more s93.t77 default).Length⟩ : GEntry) s93.b6).bind fun r96 =>
 (bif (!(!(r95.1 == r96.1))) then
 ((Fepoch_Machine_Bytes_ce0 N r95.2).bind fun r97 =>
 (bif (!(!(r95.1 == r96.1))) then
 ((Fepoch_Machine_Bytes_ce0 N r96.2).bind fun r98 =>
 ((bif (!(!(r95.1 == r96.1))) then Fbytes_Equal N r97.1 r98.1 else some default).bind fun r99 =>
 (bif ((!(r95.1 == r96.1)) || (!r99)) then
 (some false)
 else
 (next94 ⟨(IntKind.i64.wrap (s93.t77 + 1)), r97.2, r98.2⟩))))
 else
 (some false)))
 else
 (some false))))
 else none)
 else
 (some true))) ⟨0, r90.2, r80.2.2.1⟩))))
 else
 (some false)))
 else
 (some false))))))) ⟨0, r1.2.2.1, r48.2.2.1⟩))))))))
def conlaw17_EpochAgain : Con τ := { args := [.ty 45, .ty 70, .ty 70], L := [], ret := .ty 4, L' := [], R := Bool, dflt := default, F := fun N a b => Flaw17_EpochAgain N a.1 a.2.1 a.2.2.1, of := fun r => (r, ()) }
noncomputable def datlaw17_EpochAgain : Dat τ := { D := D0, tbl := tblOf [(30, conepoch_New), (9, conlaw17_live), (22, conepoch_Machine_Apply_066), (24, conepoch_Machine_Bytes_d70), (27, conepoch_Load), (29, conbytes_Equal), (22, conepoch_Machine_Apply_9cc), (24, conepoch_Machine_Bytes_ce0)], lp := lpsOf [(8, lplaw17_EpochAgainx8), (17, lplaw17_EpochAgainx17), (17, lplaw17_EpochAgainx17a), (8, lplaw17_EpochAgainx8a), (17, lplaw17_EpochAgainx17b), (17, lplaw17_EpochAgainx17c), (8, lplaw17_EpochAgainx8b), (17, lplaw17_EpochAgainx17d), (17, lplaw17_EpochAgainx17e), (8, lplaw17_EpochAgainx8c), (17, lplaw17_EpochAgainx17f), (17, lplaw17_EpochAgainx17g)], k0 := 0, mu := [], un := [] }
theorem oklaw17_EpochAgain : ConOk E C 8 conlaw17_EpochAgain :=
  con_ok (D := datlaw17_EpochAgain) ⟨d0Ok, eGood, tblOf_ok ⟨okepoch_New, ⟨oklaw17_live, ⟨okepoch_Machine_Apply_066, ⟨okepoch_Machine_Bytes_d70, ⟨okepoch_Load, ⟨okbytes_Equal, ⟨okepoch_Machine_Apply_9cc, ⟨okepoch_Machine_Bytes_ce0, trivial⟩⟩⟩⟩⟩⟩⟩⟩, fun _ => rfl⟩ conlaw17_EpochAgain (fun a b => a) none (fun _ _ => rfl) rfl (fun _ _ h => nomatch h) 1000000 (fn := Try.f8) Try.func8 rfl (by kernel_rfl) (by kernel_rfl) rfl (by intro N a b; kernel_rfl)
end Go.Proofs.Ytjjnclgkppbpnaa
