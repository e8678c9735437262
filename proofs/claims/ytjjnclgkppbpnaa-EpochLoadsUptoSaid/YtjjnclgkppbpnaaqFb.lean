/-
The functions of this seat, as plain functions over typed data, each with its contract. Printed by wip/tools/fngen.py.
-/
import Derived.Test.YtjjnclgkppbpnaaqFba
import Derived.Test.YtjjnclgkppbpnaaqTvW
import Derived.KernelRfl
set_option linter.unusedVariables false
set_option maxRecDepth 100000
namespace Go.Proofs.Ytjjnclgkppbpnaa
open Go Go.Ev
def Fwire_Writer_Out_052 (N : Nat) (b0 : Bool) (b02 : List (Int)) : Option ((List (Int)) × Bool × (List (Int))) :=
 ((Fwire_Writer_none_052 N b0 b02).bind fun r1 =>
 (bif r1.1 then
 (some ([], r1.2.1, r1.2.2))
 else
 ((Fslices_Clone_byte N r1.2.2).bind fun r2 =>
 (some (r2, r1.2.1, r1.2.2)))))
def conwire_Writer_Out_052 : Con τ := { args := [.ptr 0 []], L := [.box (.agg [.ty 4, .own 5 1]), .tail], ret := .ty 34, L' := [.box (.agg [.ty 4, .own 5 1]), .tail], R := (List (Int)) × Bool × (List (Int)), dflt := (default, default, default), F := fun N a b => Fwire_Writer_Out_052 N b.1.1 b.1.2.1, of := fun r => (r.1, ((r.2.1, r.2.2, ()), (), ())) }
noncomputable def datwire_Writer_Out_052 : Dat τ := { D := D0, tbl := tblOf [(65, conwire_Writer_none_052), (66, conslices_Clone_byte)], lp := lpsOf [], k0 := 2, mu := [], un := [] }
theorem okwire_Writer_Out_052 : ConOk E C 44 conwire_Writer_Out_052 :=
  con_ok (D := datwire_Writer_Out_052) ⟨d0Ok, eGood, tblOf_ok ⟨okwire_Writer_none_052, ⟨okslices_Clone_byte, trivial⟩⟩, fun _ => rfl⟩ conwire_Writer_Out_052 (fun a b => (a, b.1.1, b.1.2.1)) none (fun _ _ => rfl) rfl (fun _ _ h => nomatch h) 1000000 (fn := Try.f44) Try.func44 rfl (by kernel_rfl) (by kernel_rfl) rfl (by intro N a b; kernel_rfl)
structure Sepoch_Machine_Bytes_ce0x6 where
  t21 : Int
  b2 : Bool
  b22 : List (Int)
def tsepoch_Machine_Bytes_ce0x6 : List Sl := [.k, .k, .k, .k, .k, .j, .k, .k, .k, .k, .k, .k, .k, .k, .k, .k, .k, .k, .k, .k, .k, .sh (.ty 2), .j, .j, .j, .j, .j, .j, .j, .k, .k]
def hsepoch_Machine_Bytes_ce0x6 : List ESh := [.keep, .keep, .box (.agg [.ty 4, .own 5 5]), .keep, .dead, .tail]
def toepoch_Machine_Bytes_ce0x6 (a : Sl.Ts τ tsepoch_Machine_Bytes_ce0x6) (b : ESh.Ts τ hsepoch_Machine_Bytes_ce0x6) : Sepoch_Machine_Bytes_ce0x6 := ⟨a.2.2.2.2.2.2.2.2.2.2.2.2.2.2.2.2.2.2.2.2.2.1, b.2.2.1.1, b.2.2.1.2.1⟩
def otepoch_Machine_Bytes_ce0x6 (s : Sepoch_Machine_Bytes_ce0x6) : Sl.Ts τ tsepoch_Machine_Bytes_ce0x6 := ((), (), (), (), (), (), (), (), (), (), (), (), (), (), (), (), (), (), (), (), (), s.t21, (), (), (), (), (), (), (), (), (), ())
def ohepoch_Machine_Bytes_ce0x6 (s : Sepoch_Machine_Bytes_ce0x6) : ESh.Ts τ hsepoch_Machine_Bytes_ce0x6 := ((), (), (s.b2, s.b22, ()), (), (), (), ())
def lpepoch_Machine_Bytes_ce0x6 : Lp τ := { ts := tsepoch_Machine_Bytes_ce0x6, hs := hsepoch_Machine_Bytes_ce0x6, S := Sepoch_Machine_Bytes_ce0x6, to := toepoch_Machine_Bytes_ce0x6, ot := otepoch_Machine_Bytes_ce0x6, oh := ohepoch_Machine_Bytes_ce0x6, hk := [2, 5, 2, 1, 5], tk := [2, 0, 0, 4, 0, 0, 2, 0, 4, 4, 2, 2, 2, 0, 0, 0, 2, 2, 2], ot_to := fun _ _ => rfl, oh_to := fun _ _ => rfl }
def Fepoch_Machine_Bytes_ce0 (N : Nat) (b0 : List (GEpoch)) : Option ((List (Int)) × (List (GEpoch))) :=
 ((Fepoch_Machine_none_ce0 N b0).bind fun r1 =>
 (bif r1.1 then
 (some ([], r1.2))
 else
 ((Fwire_NewWriter N).bind fun r2 =>
 ((Fwire_Writer_Int_816 N ((r1.2).length : Int) r2.1 r2.2).bind fun r3 =>
 (iter N (fun (s4 : Sepoch_Machine_Bytes_ce0x6) next5 =>
 (bif (decide (s4.t21 < ((r1.2).length : Int))) then
 (bif (ibB s4.t21 ((r1.2).length : Int)) then
 ((Frecord_PutEpoch_26c N (lget r1.2 s4.t21 default) s4.b2 s4.b22).bind fun r6 =>
 (next5 ⟨(IntKind.i64.wrap (s4.t21 + 1)), r6.2.1, r6.2.2⟩))
 else none)
 else
 ((Fwire_Writer_Out_052 N s4.b2 s4.b22).bind fun r7 =>
 (some (r7.1, r1.2))))) ⟨0, r3.2.1, r3.2.2⟩)))))
def conepoch_Machine_Bytes_ce0 : Con τ := { args := [.ptr 0 []], L := [.box (.agg [.own 26 1]), .tail], ret := .ty 34, L' := [.box (.agg [.own 26 1]), .tail], R := (List (Int)) × (List (GEpoch)), dflt := (default, default), F := fun N a b => Fepoch_Machine_Bytes_ce0 N b.1.1, of := fun r => (r.1, ((r.2, ()), (), ())) }
noncomputable def datepoch_Machine_Bytes_ce0 : Dat τ := { D := D0, tbl := tblOf [(40, conepoch_Machine_none_ce0), (41, conwire_NewWriter), (42, conwire_Writer_Int_816), (43, conrecord_PutEpoch_26c), (44, conwire_Writer_Out_052)], lp := lpsOf [(6, lpepoch_Machine_Bytes_ce0x6)], k0 := 2, mu := [], un := [] }
theorem okepoch_Machine_Bytes_ce0 : ConOk E C 24 conepoch_Machine_Bytes_ce0 :=
  con_ok (D := datepoch_Machine_Bytes_ce0) ⟨d0Ok, eGood, tblOf_ok ⟨okepoch_Machine_none_ce0, ⟨okwire_NewWriter, ⟨okwire_Writer_Int_816, ⟨okrecord_PutEpoch_26c, ⟨okwire_Writer_Out_052, trivial⟩⟩⟩⟩⟩, fun _ => rfl⟩ conepoch_Machine_Bytes_ce0 (fun a b => (a, b.1.1)) none (fun _ _ => rfl) rfl (fun _ _ h => nomatch h) 1000000 (fn := Try.f24) Try.func24 rfl (by kernel_rfl) (by kernel_rfl) rfl (by intro N a b; kernel_rfl)
def Fwire_NewReader (N : Nat) (b : List (Int)) : Option (Gwire_Writer) :=
 ((Fslices_Clone_byte N b).bind fun r1 =>
 (some (⟨true, r1⟩ : Gwire_Writer)))
def conwire_NewReader : Con τ := { args := [.ty 34], L := [], ret := .ptr 0 [], L' := [.box (.ty 108)], R := Gwire_Writer, dflt := default, F := fun N a b => Fwire_NewReader N a.1, of := fun r => ((), (r, ())) }
noncomputable def datwire_NewReader : Dat τ := { D := D0, tbl := tblOf [(66, conslices_Clone_byte)], lp := lpsOf [], k0 := 0, mu := [], un := [] }
theorem okwire_NewReader : ConOk E C 47 conwire_NewReader :=
  con_ok (D := datwire_NewReader) ⟨d0Ok, eGood, tblOf_ok ⟨okslices_Clone_byte, trivial⟩, fun _ => rfl⟩ conwire_NewReader (fun a b => b.1) none (fun _ _ => rfl) rfl (fun _ _ h => nomatch h) 1000000 (fn := Try.f47) Try.func47 rfl (by kernel_rfl) (by kernel_rfl) rfl (by intro N a b; kernel_rfl)
def Fwire_Reader_none_d95 (N : Nat) (b0 : Gwire_Writer) : Option (Bool × Gwire_Writer) :=
 (some ((!b0.made), b0))
def conwire_Reader_none_d95 : Con τ := { args := [.ptr 0 []], L := [.box (.ty 108)], ret := .ty 4, L' := [.box (.ty 108)], R := Bool × Gwire_Writer, dflt := (default, default), F := fun N a b => Fwire_Reader_none_d95 N b.1, of := fun r => (r.1, (r.2, ())) }
noncomputable def datwire_Reader_none_d95 : Dat τ := { D := D0, tbl := tblOf [], lp := lpsOf [], k0 := 1, mu := [], un := [] }
theorem okwire_Reader_none_d95 : ConOk E C 67 conwire_Reader_none_d95 :=
  con_ok (D := datwire_Reader_none_d95) ⟨d0Ok, eGood, tblOf_ok trivial, fun _ => rfl⟩ conwire_Reader_none_d95 (fun a b => (a, b.1)) none (fun _ _ => rfl) rfl (fun _ _ h => nomatch h) 1000000 (fn := Try.f67) Try.func67 rfl (by kernel_rfl) (by kernel_rfl) rfl (by intro N a b; kernel_rfl)
structure Swire_parsex3 where
  u : Int
  t8 : Int
def tswire_parsex3 : List Sl := [.k, .k, .j, .j, .j, .sh (.ty 12), .j, .j, .sh (.ty 2), .j, .j, .j, .j, .j, .j, .j, .j, .j, .j, .j, .j, .j, .j, .j, .j, .j, .j, .j, .j, .j, .j, .j, .j, .j, .j, .j, .j, .j, .j, .j, .j, .j, .j, .j, .j, .j, .j, .j, .j, .j, .j, .j, .j, .j, .j, .j, .j, .j]
def hswire_parsex3 : List ESh := []
def towire_parsex3 (a : Sl.Ts τ tswire_parsex3) (b : ESh.Ts τ hswire_parsex3) : Swire_parsex3 := ⟨a.2.2.2.2.2.1, a.2.2.2.2.2.2.2.2.1⟩
def otwire_parsex3 (s : Swire_parsex3) : Sl.Ts τ tswire_parsex3 := ((), (), (), (), (), s.u, (), (), s.t8, (), (), (), (), (), (), (), (), (), (), (), (), (), (), (), (), (), (), (), (), (), (), (), (), (), (), (), (), (), (), (), (), (), (), (), (), (), (), (), (), (), (), (), (), (), (), (), (), (), ())
def ohwire_parsex3 (s : Swire_parsex3) : ESh.Ts τ hswire_parsex3 := ()
def lpwire_parsex3 : Lp τ := { ts := tswire_parsex3, hs := hswire_parsex3, S := Swire_parsex3, to := towire_parsex3, ot := otwire_parsex3, oh := ohwire_parsex3, hk := [], tk := [], ot_to := fun _ _ => rfl, oh_to := fun _ _ => rfl }
def Fwire_parse (N : Nat) (b : List (Int)) : Option (Int × Int × Int) :=
 (iter N (fun (s1 : Swire_parsex3) next2 =>
 (bif (decide (s1.t8 < 10)) then
 (bif (decide (((b).length : Int) ≤ s1.t8)) then
 (some (0, 0, 10))
 else
 (bif (ibB s1.t8 ((b).length : Int)) then
 (bif (((s1.t8 == 9) && (decide (1 < (lget b s1.t8 default)))) || (((lget b s1.t8 default) == 0) && (decide (0 < s1.t8)))) then
 (some (0, 0, 11))
 else
 (bif (decide (0 ≤ (IntKind.i64.wrap (7 * s1.t8)))) then
 (bif (decide ((lget b s1.t8 default) < 128)) then
 (bif ((bits .and .u64 (bits .or .u64 s1.u (shl .u64 (IntKind.u64.wrap (bits .and .u8 (lget b s1.t8 default) 127)) (IntKind.i64.wrap (7 * s1.t8)))) 1) == 1) then
 (some ((IntKind.i64.wrap (bits .xor .u64 IntKind.u64.max (shr .u64 (bits .or .u64 s1.u (shl .u64 (IntKind.u64.wrap (bits .and .u8 (lget b s1.t8 default) 127)) (IntKind.i64.wrap (7 * s1.t8)))) 1))), (IntKind.i64.wrap (s1.t8 + 1)), 0))
 else
 (some ((IntKind.i64.wrap (shr .u64 (bits .or .u64 s1.u (shl .u64 (IntKind.u64.wrap (bits .and .u8 (lget b s1.t8 default) 127)) (IntKind.i64.wrap (7 * s1.t8)))) 1)), (IntKind.i64.wrap (s1.t8 + 1)), 0)))
 else
 (next2 ⟨(bits .or .u64 s1.u (shl .u64 (IntKind.u64.wrap (bits .and .u8 (lget b s1.t8 default) 127)) (IntKind.i64.wrap (7 * s1.t8)))), (IntKind.i64.wrap (s1.t8 + 1))⟩))
 else none))
 else none))
 else
 (some (0, 0, 11)))) ⟨0, 0⟩)
def conwire_parse : Con τ := { args := [.ty 34], L := [], ret := .tup [.ty 2, .ty 3, .ty 39], L' := [], R := Int × Int × Int, dflt := (default, default, default), F := fun N a b => Fwire_parse N a.1, of := fun r => ((r.1, r.2.1, r.2.2, ()), ()) }
noncomputable def datwire_parse : Dat τ := { D := D0, tbl := tblOf [], lp := lpsOf [(3, lpwire_parsex3)], k0 := 0, mu := [], un := [] }
theorem okwire_parse : ConOk E C 68 conwire_parse :=
  con_ok (D := datwire_parse) ⟨d0Ok, eGood, tblOf_ok trivial, fun _ => rfl⟩ conwire_parse (fun a b => (a.1, a.2.1, a.2.2.1)) none (fun _ _ => rfl) rfl (fun _ _ h => nomatch h) 1000000 (fn := Try.f68) Try.func68 rfl (by kernel_rfl) (by kernel_rfl) rfl (by intro N a b; kernel_rfl)
def Fwire_Reader_Int_d95 (N : Nat) (b0 : Gwire_Writer) : Option (Int × Int × Gwire_Writer) :=
 ((Fwire_Reader_none_d95 N b0).bind fun r1 =>
 (bif r1.1 then
 (some (0, 2, r1.2))
 else
 ((Fwire_parse N r1.2.b).bind fun r2 =>
 (bif (cutB r2.2.1 ((r1.2.b).length : Int) ((r1.2.b).length : Int)) then
 (some (r2.1, r2.2.2, (⟨r1.2.made, (cut r1.2.b r2.2.1 ((r1.2.b).length : Int))⟩ : Gwire_Writer)))
 else none))))
def conwire_Reader_Int_d95 : Con τ := { args := [.ptr 0 []], L := [.box (.ty 108)], ret := .tup [.ty 2, .ty 39], L' := [.box (.ty 108)], R := Int × Int × Gwire_Writer, dflt := (default, default, default), F := fun N a b => Fwire_Reader_Int_d95 N b.1, of := fun r => ((r.1, r.2.1, ()), (r.2.2, ())) }
noncomputable def datwire_Reader_Int_d95 : Dat τ := { D := D0, tbl := tblOf [(67, conwire_Reader_none_d95), (68, conwire_parse)], lp := lpsOf [], k0 := 1, mu := [], un := [] }
theorem okwire_Reader_Int_d95 : ConOk E C 48 conwire_Reader_Int_d95 :=
  con_ok (D := datwire_Reader_Int_d95) ⟨d0Ok, eGood, tblOf_ok ⟨okwire_Reader_none_d95, ⟨okwire_parse, trivial⟩⟩, fun _ => rfl⟩ conwire_Reader_Int_d95 (fun a b => (a.1, a.2.1, b.1)) none (fun _ _ => rfl) rfl (fun _ _ h => nomatch h) 1000000 (fn := Try.f48) Try.func48 rfl (by kernel_rfl) (by kernel_rfl) rfl (by intro N a b; kernel_rfl)
def Fwire_Reader_End_d95 (N : Nat) (b0 : Gwire_Writer) : Option (Int × Gwire_Writer) :=
 ((Fwire_Reader_none_d95 N b0).bind fun r1 =>
 (bif r1.1 then
 (some (2, r1.2))
 else
 (bif (decide (0 < ((r1.2.b).length : Int))) then
 (some (13, r1.2))
 else
 (some (0, r1.2)))))
def conwire_Reader_End_d95 : Con τ := { args := [.ptr 0 []], L := [.box (.ty 108)], ret := .ty 39, L' := [.box (.ty 108)], R := Int × Gwire_Writer, dflt := (default, default), F := fun N a b => Fwire_Reader_End_d95 N b.1, of := fun r => (r.1, (r.2, ())) }
noncomputable def datwire_Reader_End_d95 : Dat τ := { D := D0, tbl := tblOf [(67, conwire_Reader_none_d95)], lp := lpsOf [], k0 := 1, mu := [], un := [] }
theorem okwire_Reader_End_d95 : ConOk E C 50 conwire_Reader_End_d95 :=
  con_ok (D := datwire_Reader_End_d95) ⟨d0Ok, eGood, tblOf_ok ⟨okwire_Reader_none_d95, trivial⟩, fun _ => rfl⟩ conwire_Reader_End_d95 (fun a b => (a, b.1)) none (fun _ _ => rfl) rfl (fun _ _ h => nomatch h) 1000000 (fn := Try.f50) Try.func50 rfl (by kernel_rfl) (by kernel_rfl) rfl (by intro N a b; kernel_rfl)
def Frecord_reader_keep_bdf (N : Nat) (e : Int) (b0 : Int) (b1 : Gwire_Writer) : Option (Int × Gwire_Writer) :=
 (bif (b0 == 0) then
 (some (e, b1))
 else
 (some (b0, b1)))
def conrecord_reader_keep_bdf : Con τ := { args := [.ptr 0 [], .ty 39], L := [.box (.agg [.ptr 1 [], .ty 39]), .box (.ty 108)], ret := .tup [], L' := [.box (.agg [.ptr 1 [], .ty 39]), .box (.ty 108)], R := Int × Gwire_Writer, dflt := (default, default), F := fun N a b => Frecord_reader_keep_bdf N a.2.1 b.1.2.1 b.2.1, of := fun r => ((), (((), r.1, ()), r.2, ())) }
noncomputable def datrecord_reader_keep_bdf : Dat τ := { D := D0, tbl := tblOf [], lp := lpsOf [], k0 := 2, mu := [], un := [] }
theorem okrecord_reader_keep_bdf : ConOk E C 88 conrecord_reader_keep_bdf :=
  con_ok (D := datrecord_reader_keep_bdf) ⟨d0Ok, eGood, tblOf_ok trivial, fun _ => rfl⟩ conrecord_reader_keep_bdf (fun a b => (b.1.2.1, b.2.1)) none (fun _ _ => rfl) rfl (fun _ _ h => nomatch h) 1000000 (fn := Try.f88) Try.func88 rfl (by kernel_rfl) (by kernel_rfl) rfl (by intro N a b; kernel_rfl)
def Frecord_reader_int_407 (N : Nat) (b0 : Int) (b1 : Gwire_Writer) : Option (Int × Int × Gwire_Writer) :=
 (bif (!(b0 == 0)) then
 (some (0, b0, b1))
 else
 ((Fwire_Reader_Int_d95 N b1).bind fun r1 =>
 ((Frecord_reader_keep_bdf N r1.2.1 b0 r1.2.2).bind fun r2 =>
 (some (r1.1, r2.1, r2.2)))))
def conrecord_reader_int_407 : Con τ := { args := [.ptr 0 []], L := [.box (.agg [.ptr 1 [], .ty 39]), .box (.ty 108)], ret := .ty 2, L' := [.box (.agg [.ptr 1 [], .ty 39]), .box (.ty 108)], R := Int × Int × Gwire_Writer, dflt := (default, default, default), F := fun N a b => Frecord_reader_int_407 N b.1.2.1 b.2.1, of := fun r => (r.1, (((), r.2.1, ()), r.2.2, ())) }
noncomputable def datrecord_reader_int_407 : Dat τ := { D := D0, tbl := tblOf [(48, conwire_Reader_Int_d95), (88, conrecord_reader_keep_bdf)], lp := lpsOf [], k0 := 2, mu := [], un := [] }
theorem okrecord_reader_int_407 : ConOk E C 87 conrecord_reader_int_407 :=
  con_ok (D := datrecord_reader_int_407) ⟨d0Ok, eGood, tblOf_ok ⟨okwire_Reader_Int_d95, ⟨okrecord_reader_keep_bdf, trivial⟩⟩, fun _ => rfl⟩ conrecord_reader_int_407 (fun a b => (a, b.1.2.1, b.2.1)) none (fun _ _ => rfl) rfl (fun _ _ h => nomatch h) 1000000 (fn := Try.f87) Try.func87 rfl (by kernel_rfl) (by kernel_rfl) rfl (by intro N a b; kernel_rfl)
def Frecord_reader_ints_b1a (N : Nat) (b0 : Int) (b1 : GEpoch) (b2 : Gwire_Writer) : Option (Int × GEpoch × Gwire_Writer) :=
 ((Frecord_reader_int_407 N b0 b2).bind fun r1 =>
 (some (r1.2.1, (⟨r1.1, b1.States, b1.Seals, b1.Sponsor⟩ : GEpoch), r1.2.2)))
def conrecord_reader_ints_b1a : Con τ := { args := [.ptr 0 [], .ls 1 [.ptr 1 [.fld 0 0]]], L := [.box (.agg [.ptr 2 [], .ty 39]), .box (.ty 26), .box (.ty 108)], ret := .tup [], L' := [.box (.agg [.ptr 2 [], .ty 39]), .box (.ty 26), .box (.ty 108)], R := Int × GEpoch × Gwire_Writer, dflt := (default, default, default), F := fun N a b => Frecord_reader_ints_b1a N b.1.2.1 b.2.1 b.2.2.1, of := fun r => ((), (((), r.1, ()), r.2.1, r.2.2, ())) }
noncomputable def datrecord_reader_ints_b1a : Dat τ := { D := D0, tbl := tblOf [(87, conrecord_reader_int_407)], lp := lpsOf [], k0 := 3, mu := [], un := [(1, 3)] }
theorem okrecord_reader_ints_b1a : ConOk E C 82 conrecord_reader_ints_b1a :=
  con_ok (D := datrecord_reader_ints_b1a) ⟨d0Ok, eGood, tblOf_ok ⟨okrecord_reader_int_407, trivial⟩, fun _ => rfl⟩ conrecord_reader_ints_b1a (fun a b => (b.1.2.1, b.2.1, b.2.2.1)) none (fun _ _ => rfl) rfl (fun _ _ h => nomatch h) 1000000 (fn := Try.f82) Try.func82 rfl (by kernel_rfl) (by kernel_rfl) rfl (by intro N a b; kernel_rfl)
def Frecord_reader_small_407 (N : Nat) (b0 : Int) (b1 : Gwire_Writer) : Option (Int × Int × Gwire_Writer) :=
 ((Frecord_reader_int_407 N b0 b1).bind fun r1 =>
 (bif (!(r1.1 == (IntKind.i64.wrap (IntKind.i32.wrap r1.1)))) then
 (some ((-2), r1.2.1, r1.2.2))
 else
 (some (r1.1, r1.2.1, r1.2.2))))
def conrecord_reader_small_407 : Con τ := { args := [.ptr 0 []], L := [.box (.agg [.ptr 1 [], .ty 39]), .box (.ty 108)], ret := .ty 3, L' := [.box (.agg [.ptr 1 [], .ty 39]), .box (.ty 108)], R := Int × Int × Gwire_Writer, dflt := (default, default, default), F := fun N a b => Frecord_reader_small_407 N b.1.2.1 b.2.1, of := fun r => (r.1, (((), r.2.1, ()), r.2.2, ())) }
noncomputable def datrecord_reader_small_407 : Dat τ := { D := D0, tbl := tblOf [(87, conrecord_reader_int_407)], lp := lpsOf [], k0 := 2, mu := [], un := [] }
theorem okrecord_reader_small_407 : ConOk E C 83 conrecord_reader_small_407 :=
  con_ok (D := datrecord_reader_small_407) ⟨d0Ok, eGood, tblOf_ok ⟨okrecord_reader_int_407, trivial⟩, fun _ => rfl⟩ conrecord_reader_small_407 (fun a b => (a, b.1.2.1, b.2.1)) none (fun _ _ => rfl) rfl (fun _ _ h => nomatch h) 1000000 (fn := Try.f83) Try.func83 rfl (by kernel_rfl) (by kernel_rfl) rfl (by intro N a b; kernel_rfl)
structure Srecord_reader_vector_6cax1 where
  t5 : Int
  b0 : Int
  b1 : GEpoch
  b2 : Gwire_Writer
def tsrecord_reader_vector_6cax1 : List Sl := [.k, .k, .k, .k, .j, .sh (.ty 2), .j, .j, .j, .j, .j, .j, .j, .j, .j]
def hsrecord_reader_vector_6cax1 : List ESh := [.box (.agg [.ptr 2 [], .ty 2]), .box (.ty 25), .box (.ty 97)]
def torecord_reader_vector_6cax1 (a : Sl.Ts τ tsrecord_reader_vector_6cax1) (b : ESh.Ts τ hsrecord_reader_vector_6cax1) : Srecord_reader_vector_6cax1 := ⟨a.2.2.2.2.2.1, b.1.2.1, b.2.1, b.2.2.1⟩
def otrecord_reader_vector_6cax1 (s : Srecord_reader_vector_6cax1) : Sl.Ts τ tsrecord_reader_vector_6cax1 := ((), (), (), (), (), s.t5, (), (), (), (), (), (), (), (), (), ())
def ohrecord_reader_vector_6cax1 (s : Srecord_reader_vector_6cax1) : ESh.Ts τ hsrecord_reader_vector_6cax1 := (((), s.b0, ()), s.b1, s.b2, ())
def lprecord_reader_vector_6cax1 : Lp τ := { ts := tsrecord_reader_vector_6cax1, hs := hsrecord_reader_vector_6cax1, S := Srecord_reader_vector_6cax1, to := torecord_reader_vector_6cax1, ot := otrecord_reader_vector_6cax1, oh := ohrecord_reader_vector_6cax1, hk := [2, 2, 2], tk := [2, 3], ot_to := fun _ _ => rfl, oh_to := fun _ _ => rfl }
def Frecord_reader_vector_6ca (N : Nat) (b0 : Int) (b1 : GEpoch) (b2 : Gwire_Writer) : Option (Int × GEpoch × Gwire_Writer) :=
 (iter N (fun (s1 : Srecord_reader_vector_6cax1) next2 =>
 (bif (decide (s1.t5 < 8)) then
 ((Frecord_reader_int_407 N s1.b0 s1.b2).bind fun r3 =>
 (bif (ibB s1.t5 8) then
 (next2 ⟨(IntKind.i64.wrap (s1.t5 + 1)), r3.2.1, (⟨s1.b1.Number, s1.b1.States, (vset s1.b1.Seals ((s1.t5).toNat) r3.1), s1.b1.Sponsor⟩ : GEpoch), r3.2.2⟩)
 else none))
 else
 (some (s1.b0, s1.b1, s1.b2)))) ⟨0, b0, b1, b2⟩)
def conrecord_reader_vector_6ca : Con τ := { args := [.ptr 0 [], .ptr 1 [.fld 2 9]], L := [.box (.agg [.ptr 2 [], .ty 39]), .box (.ty 26), .box (.ty 108)], ret := .tup [], L' := [.box (.agg [.ptr 2 [], .ty 39]), .box (.ty 26), .box (.ty 108)], R := Int × GEpoch × Gwire_Writer, dflt := (default, default, default), F := fun N a b => Frecord_reader_vector_6ca N b.1.2.1 b.2.1 b.2.2.1, of := fun r => ((), (((), r.1, ()), r.2.1, r.2.2, ())) }
noncomputable def datrecord_reader_vector_6ca : Dat τ := { D := D0, tbl := tblOf [(87, conrecord_reader_int_407)], lp := lpsOf [(1, lprecord_reader_vector_6cax1)], k0 := 3, mu := [], un := [] }
theorem okrecord_reader_vector_6ca : ConOk E C 84 conrecord_reader_vector_6ca :=
  con_ok (D := datrecord_reader_vector_6ca) ⟨d0Ok, eGood, tblOf_ok ⟨okrecord_reader_int_407, trivial⟩, fun _ => rfl⟩ conrecord_reader_vector_6ca (fun a b => (b.1.2.1, b.2.1, b.2.2.1)) none (fun _ _ => rfl) rfl (fun _ _ h => nomatch h) 1000000 (fn := Try.f84) Try.func84 rfl (by kernel_rfl) (by kernel_rfl) rfl (by intro N a b; kernel_rfl)
structure Srecord_reader_epoch_407x4 where
  t10 : Int
  b0 : Int
  b1 : Gwire_Writer
  b3 : GEpoch
def tsrecord_reader_epoch_407x4 : List Sl := [.k, .k, .k, .k, .j, .k, .k, .k, .k, .k, .sh (.ty 2), .j, .j, .j, .j, .j, .j, .j, .j, .k, .k, .k, .k, .k, .k, .k, .k, .k, .k, .k, .k, .k]
def hsrecord_reader_epoch_407x4 : List ESh := [.box (.agg [.ptr 1 [], .ty 2]), .box (.ty 97), .keep, .box (.ty 25)]
def torecord_reader_epoch_407x4 (a : Sl.Ts τ tsrecord_reader_epoch_407x4) (b : ESh.Ts τ hsrecord_reader_epoch_407x4) : Srecord_reader_epoch_407x4 := ⟨a.2.2.2.2.2.2.2.2.2.2.1, b.1.2.1, b.2.1, b.2.2.2.1⟩
def otrecord_reader_epoch_407x4 (s : Srecord_reader_epoch_407x4) : Sl.Ts τ tsrecord_reader_epoch_407x4 := ((), (), (), (), (), (), (), (), (), (), s.t10, (), (), (), (), (), (), (), (), (), (), (), (), (), (), (), (), (), (), (), (), (), ())
def ohrecord_reader_epoch_407x4 (s : Srecord_reader_epoch_407x4) : ESh.Ts τ hsrecord_reader_epoch_407x4 := (((), s.b0, ()), s.b1, (), s.b3, ())
def lprecord_reader_epoch_407x4 : Lp τ := { ts := tsrecord_reader_epoch_407x4, hs := hsrecord_reader_epoch_407x4, S := Srecord_reader_epoch_407x4, to := torecord_reader_epoch_407x4, ot := otrecord_reader_epoch_407x4, oh := ohrecord_reader_epoch_407x4, hk := [2, 2, 2, 2], tk := [2, 0, 4, 5, 0, 0, 2, 5], ot_to := fun _ _ => rfl, oh_to := fun _ _ => rfl }
structure Srecord_reader_epoch_407x10 where
  t22 : Int
  b0 : Int
  b1 : Gwire_Writer
  b3 : GEpoch
def tsrecord_reader_epoch_407x10 : List Sl := [.k, .k, .k, .k, .k, .j, .k, .k, .k, .k, .k, .k, .k, .k, .k, .k, .k, .k, .k, .k, .k, .k, .sh (.ty 2), .j, .j, .j, .j, .j, .j, .j, .j, .k]
def hsrecord_reader_epoch_407x10 : List ESh := [.box (.agg [.ptr 1 [], .ty 2]), .box (.ty 97), .keep, .box (.ty 25)]
def torecord_reader_epoch_407x10 (a : Sl.Ts τ tsrecord_reader_epoch_407x10) (b : ESh.Ts τ hsrecord_reader_epoch_407x10) : Srecord_reader_epoch_407x10 := ⟨a.2.2.2.2.2.2.2.2.2.2.2.2.2.2.2.2.2.2.2.2.2.2.1, b.1.2.1, b.2.1, b.2.2.2.1⟩
def otrecord_reader_epoch_407x10 (s : Srecord_reader_epoch_407x10) : Sl.Ts τ tsrecord_reader_epoch_407x10 := ((), (), (), (), (), (), (), (), (), (), (), (), (), (), (), (), (), (), (), (), (), (), s.t22, (), (), (), (), (), (), (), (), (), ())
def ohrecord_reader_epoch_407x10 (s : Srecord_reader_epoch_407x10) : ESh.Ts τ hsrecord_reader_epoch_407x10 := (((), s.b0, ()), s.b1, (), s.b3, ())
def lprecord_reader_epoch_407x10 : Lp τ := { ts := tsrecord_reader_epoch_407x10, hs := hsrecord_reader_epoch_407x10, S := Srecord_reader_epoch_407x10, to := torecord_reader_epoch_407x10, ot := otrecord_reader_epoch_407x10, oh := ohrecord_reader_epoch_407x10, hk := [2, 2, 2, 2], tk := [2, 0, 4, 5, 0, 0, 2, 5, 0, 0, 0, 0, 0, 0, 0, 0, 0, 0, 0, 2, 5], ot_to := fun _ _ => rfl, oh_to := fun _ _ => rfl }
def Frecord_reader_epoch_407 (N : Nat) (b0 : Int) (b1 : Gwire_Writer) : Option (GEpoch × Int × Gwire_Writer) :=
 ((Frecord_reader_ints_b1a N b0 (⟨0, (Vector.replicate 8 (default : Int)), (Vector.replicate 8 (default : Int)), (Vector.replicate 8 (default : Int))⟩ : GEpoch) b1).bind fun r1 =>
 (iter N (fun (s2 : Srecord_reader_epoch_407x4) next3 =>
 (bif (decide (s2.t10 < 8)) then
 ((Frecord_reader_small_407 N s2.b0 s2.b1).bind fun r4 =>
 (bif (ibB s2.t10 8) then
 (next3 ⟨(IntKind.i64.wrap (s2.t10 + 1)), r4.2.1, r4.2.2, (⟨s2.b3.Number, (vset s2.b3.States ((s2.t10).toNat) r4.1), s2.b3.Seals, s2.b3.Sponsor⟩ : GEpoch)⟩)
 else none))
 else
 ((Frecord_reader_vector_6ca N s2.b0 s2.b3 s2.b1).bind fun r5 =>
 (iter N (fun (s6 : Srecord_reader_epoch_407x10) next7 =>
 (bif (decide (s6.t22 < 8)) then
 ((Frecord_reader_small_407 N s6.b0 s6.b1).bind fun r8 =>
 (bif (ibB s6.t22 8) then
 (next7 ⟨(IntKind.i64.wrap (s6.t22 + 1)), r8.2.1, r8.2.2, (⟨s6.b3.Number, s6.b3.States, s6.b3.Seals, (vset s6.b3.Sponsor ((s6.t22).toNat) r8.1)⟩ : GEpoch)⟩)
 else none))
 else
 (some (s6.b3, s6.b0, s6.b1)))) ⟨0, r5.1, r5.2.2, r5.2.1⟩)))) ⟨0, r1.1, r1.2.2, r1.2.1⟩))
def conrecord_reader_epoch_407 : Con τ := { args := [.ptr 0 []], L := [.box (.agg [.ptr 1 [], .ty 39]), .box (.ty 108)], ret := .ty 26, L' := [.box (.agg [.ptr 1 [], .ty 39]), .box (.ty 108)], R := GEpoch × Int × Gwire_Writer, dflt := (default, default, default), F := fun N a b => Frecord_reader_epoch_407 N b.1.2.1 b.2.1, of := fun r => (r.1, (((), r.2.1, ()), r.2.2, ())) }
noncomputable def datrecord_reader_epoch_407 : Dat τ := { D := D0, tbl := tblOf [(82, conrecord_reader_ints_b1a), (83, conrecord_reader_small_407), (84, conrecord_reader_vector_6ca)], lp := lpsOf [(4, lprecord_reader_epoch_407x4), (10, lprecord_reader_epoch_407x10)], k0 := 2, mu := [], un := [] }
theorem okrecord_reader_epoch_407 : ConOk E C 71 conrecord_reader_epoch_407 :=
  con_ok (D := datrecord_reader_epoch_407) ⟨d0Ok, eGood, tblOf_ok ⟨okrecord_reader_ints_b1a, ⟨okrecord_reader_small_407, ⟨okrecord_reader_vector_6ca, trivial⟩⟩⟩, fun _ => rfl⟩ conrecord_reader_epoch_407 (fun a b => (a, b.1.2.1, b.2.1)) none (fun _ _ => rfl) rfl (fun _ _ h => nomatch h) 1000000 (fn := Try.f71) Try.func71 rfl (by kernel_rfl) (by kernel_rfl) rfl (by intro N a b; kernel_rfl)
def Frecord_TakeEpoch_1_219 (N : Nat) (b0 : Int) (b1 : GEpoch) (b2 : Gwire_Writer) : Option (Int × Int × GEpoch × Gwire_Writer) :=
 ((Frecord_reader_epoch_407 N b0 b2).bind fun r1 =>
 ((Frecord_CheckEpoch N r1.1).bind fun r2 =>
 (some (r2, r1.2.1, r1.1, r1.2.2))))
def conrecord_TakeEpoch_1_219 : Con τ := { args := [.ptr 0 [], .ptr 1 []], L := [.box (.agg [.ptr 2 [], .ty 39]), .box (.ty 26), .box (.ty 108)], ret := .ty 39, L' := [.box (.agg [.ptr 2 [], .ty 39]), .box (.ty 26), .box (.ty 108)], R := Int × Int × GEpoch × Gwire_Writer, dflt := (default, default, default, default), F := fun N a b => Frecord_TakeEpoch_1_219 N b.1.2.1 b.2.1 b.2.2.1, of := fun r => (r.1, (((), r.2.1, ()), r.2.2.1, r.2.2.2, ())) }
noncomputable def datrecord_TakeEpoch_1_219 : Dat τ := { D := D0, tbl := tblOf [(71, conrecord_reader_epoch_407), (61, conrecord_CheckEpoch)], lp := lpsOf [], k0 := 3, mu := [], un := [] }
theorem okrecord_TakeEpoch_1_219 : ConOk E C 70 conrecord_TakeEpoch_1_219 :=
  con_ok (D := datrecord_TakeEpoch_1_219) ⟨d0Ok, eGood, tblOf_ok ⟨okrecord_reader_epoch_407, ⟨okrecord_CheckEpoch, trivial⟩⟩, fun _ => rfl⟩ conrecord_TakeEpoch_1_219 (fun a b => (a, b.1.2.1, b.2.1, b.2.2.1)) none (fun _ _ => rfl) rfl (fun _ _ h => nomatch h) 1000000 (fn := Try.f70) Try.func70 rfl (by kernel_rfl) (by kernel_rfl) rfl (by intro N a b; kernel_rfl)
def Frecord_taken_550 (N : Nat) (b0 : Gwire_Writer) (b1 : GEpoch) : Option (Int × Gwire_Writer × GEpoch) :=
 ((Fwire_Reader_End_d95 N b0).bind fun r1 =>
 (bif (r1.1 == 2) then
 (some (2, r1.2, b1))
 else
 ((Frecord_TakeEpoch_1_219 N 0 b1 r1.2).bind fun r2 =>
 (bif (!(r2.2.1 == 0)) then
 (bif (!(r2.2.1 == 0)) then
 (some (r2.2.1, r1.2, r2.2.2.1))
 else
 (some (r2.2.1, r2.2.2.2, r2.2.2.1)))
 else
 (bif (!(r2.1 == 0)) then
 (some (r2.1, r1.2, r2.2.2.1))
 else
 (some (r2.1, r2.2.2.2, r2.2.2.1)))))))
def conrecord_taken_550 : Con τ := { args := [.ptr 0 [], .fn 70 [.ptr 1 []]], L := [.box (.ty 108), .box (.ty 26)], ret := .ty 39, L' := [.box (.ty 108), .box (.ty 26)], R := Int × Gwire_Writer × GEpoch, dflt := (default, default, default), F := fun N a b => Frecord_taken_550 N b.1 b.2.1, of := fun r => (r.1, (r.2.1, r.2.2, ())) }
noncomputable def datrecord_taken_550 : Dat τ := { D := D0, tbl := tblOf [(50, conwire_Reader_End_d95), (70, conrecord_TakeEpoch_1_219)], lp := lpsOf [], k0 := 2, mu := [], un := [] }
theorem okrecord_taken_550 : ConOk E C 69 conrecord_taken_550 :=
  con_ok (D := datrecord_taken_550) ⟨d0Ok, eGood, tblOf_ok ⟨okwire_Reader_End_d95, ⟨okrecord_TakeEpoch_1_219, trivial⟩⟩, fun _ => rfl⟩ conrecord_taken_550 (fun a b => (a, b.1, b.2.1)) none (fun _ _ => rfl) rfl (fun _ _ h => nomatch h) 1000000 (fn := Try.f69) Try.func69 rfl (by kernel_rfl) (by kernel_rfl) rfl (by intro N a b; kernel_rfl)
def Frecord_TakeEpoch_d95 (N : Nat) (b0 : Gwire_Writer) : Option (GEpoch × Int × Gwire_Writer) :=
 ((Frecord_taken_550 N b0 (⟨0, (Vector.replicate 8 (default : Int)), (Vector.replicate 8 (default : Int)), (Vector.replicate 8 (default : Int))⟩ : GEpoch)).bind fun r1 =>
 (bif (!(r1.1 == 0)) then
 (some ((⟨0, (Vector.replicate 8 (default : Int)), (Vector.replicate 8 (default : Int)), (Vector.replicate 8 (default : Int))⟩ : GEpoch), r1.1, r1.2.1))
 else
 (some (r1.2.2, r1.1, r1.2.1))))
def conrecord_TakeEpoch_d95 : Con τ := { args := [.ptr 0 []], L := [.box (.ty 108)], ret := .tup [.ty 26, .ty 39], L' := [.box (.ty 108)], R := GEpoch × Int × Gwire_Writer, dflt := (default, default, default), F := fun N a b => Frecord_TakeEpoch_d95 N b.1, of := fun r => ((r.1, r.2.1, ()), (r.2.2, ())) }
noncomputable def datrecord_TakeEpoch_d95 : Dat τ := { D := D0, tbl := tblOf [(69, conrecord_taken_550)], lp := lpsOf [], k0 := 1, mu := [], un := [] }
theorem okrecord_TakeEpoch_d95 : ConOk E C 49 conrecord_TakeEpoch_d95 :=
  con_ok (D := datrecord_TakeEpoch_d95) ⟨d0Ok, eGood, tblOf_ok ⟨okrecord_taken_550, trivial⟩, fun _ => rfl⟩ conrecord_TakeEpoch_d95 (fun a b => (a.1, a.2.1, b.1)) none (fun _ _ => rfl) rfl (fun _ _ h => nomatch h) 1000000 (fn := Try.f49) Try.func49 rfl (by kernel_rfl) (by kernel_rfl) rfl (by intro N a b; kernel_rfl)
structure Sepoch_Membersx3 where
  l : List (Int)
  t8 : Int
def tsepoch_Membersx3 : List Sl := [.k, .k, .k, .sh (.own 3 1), .j, .j, .k, .k, .sh (.ty 2), .j, .j, .j, .j, .j, .j, .j, .j, .j, .j, .j, .j, .j, .j, .k]
def hsepoch_Membersx3 : List ESh := [.keep, .tail]
def toepoch_Membersx3 (a : Sl.Ts τ tsepoch_Membersx3) (b : ESh.Ts τ hsepoch_Membersx3) : Sepoch_Membersx3 := ⟨a.2.2.2.1, a.2.2.2.2.2.2.2.2.1⟩
def otepoch_Membersx3 (s : Sepoch_Membersx3) : Sl.Ts τ tsepoch_Membersx3 := ((), (), (), s.l, (), (), (), (), s.t8, (), (), (), (), (), (), (), (), (), (), (), (), (), (), (), ())
def ohepoch_Membersx3 (s : Sepoch_Membersx3) : ESh.Ts τ hsepoch_Membersx3 := ((), (), ())
def lpepoch_Membersx3 : Lp τ := { ts := tsepoch_Membersx3, hs := hsepoch_Membersx3, S := Sepoch_Membersx3, to := toepoch_Membersx3, ot := otepoch_Membersx3, oh := ohepoch_Membersx3, hk := [2], tk := [0, 2, 0, 0, 0, 0, 2], ot_to := fun _ _ => rfl, oh_to := fun _ _ => rfl }
def Fepoch_Members (N : Nat) (e : GEpoch) : Option ((List (Int))) :=
 (iter N (fun (s1 : Sepoch_Membersx3) next2 =>
 (bif (decide (s1.t8 < 8)) then
 (bif (ibB s1.t8 8) then
 (bif (((vget e.States ((s1.t8).toNat) default) == 1) || ((vget e.States ((s1.t8).toNat) default) == 2)) then
 (bif (lenB ((s1.l).length + ([s1.t8]).length) 8) then
 (next2 ⟨(s1.l ++ [s1.t8]), (IntKind.i64.wrap (s1.t8 + 1))⟩)
 else none)
 else
 (next2 ⟨s1.l, (IntKind.i64.wrap (s1.t8 + 1))⟩))
 else none)
 else
 (some s1.l))) ⟨[], 0⟩)
def conepoch_Members : Con τ := { args := [.ty 26], L := [], ret := .ty 45, L' := [], R := (List (Int)), dflt := default, F := fun N a b => Fepoch_Members N a.1, of := fun r => (r, ()) }
noncomputable def datepoch_Members : Dat τ := { D := D0, tbl := tblOf [], lp := lpsOf [(3, lpepoch_Membersx3)], k0 := 0, mu := [], un := [] }
theorem okepoch_Members : ConOk E C 17 conepoch_Members :=
  con_ok (D := datepoch_Members) ⟨d0Ok, eGood, tblOf_ok trivial, fun _ => rfl⟩ conepoch_Members (fun a b => a) none (fun _ _ => rfl) rfl (fun _ _ h => nomatch h) 1000000 (fn := Try.f17) Try.func17 rfl (by kernel_rfl) (by kernel_rfl) rfl (by intro N a b; kernel_rfl)
structure Sepoch_Loadx7 where
  t33 : Int
  b0 : Gwire_Writer
  b1 : List (GEpoch)
def tsepoch_Loadx7 : List Sl := [.k, .k, .j, .j, .k, .k, .k, .k, .j, .j, .j, .k, .k, .k, .k, .k, .k, .k, .k, .k, .k, .k, .k, .j, .j, .k, .k, .j, .j, .k, .k, .k, .k, .sh (.ty 2), .j, .j, .j, .j, .j, .j, .j, .j, .j, .j, .j, .j, .j, .j, .j, .j, .j, .j, .j, .j, .j, .j, .j, .j, .j, .j, .j, .j, .j, .j, .j, .j, .j, .j, .j, .j, .j, .j, .j, .j, .j, .j, .k, .k, .k, .k, .k, .k, .k, .k, .k, .k, .k, .k, .k, .k, .k, .k, .k, .k, .k, .k, .k, .k, .k, .k, .k]
def hsepoch_Loadx7 : List ESh := [.box (.ty 97), .box (.agg [.own 26 2]), .tail]
def toepoch_Loadx7 (a : Sl.Ts τ tsepoch_Loadx7) (b : ESh.Ts τ hsepoch_Loadx7) : Sepoch_Loadx7 := ⟨a.2.2.2.2.2.2.2.2.2.2.2.2.2.2.2.2.2.2.2.2.2.2.2.2.2.2.2.2.2.2.2.2.2.1, b.1, b.2.1.1⟩
def otepoch_Loadx7 (s : Sepoch_Loadx7) : Sl.Ts τ tsepoch_Loadx7 := ((), (), (), (), (), (), (), (), (), (), (), (), (), (), (), (), (), (), (), (), (), (), (), (), (), (), (), (), (), (), (), (), (), s.t33, (), (), (), (), (), (), (), (), (), (), (), (), (), (), (), (), (), (), (), (), (), (), (), (), (), (), (), (), (), (), (), (), (), (), (), (), (), (), (), (), (), (), (), (), (), (), (), (), (), (), (), (), (), (), (), (), (), (), (), (), (), (), (), (), (), (), (), ())
def ohepoch_Loadx7 (s : Sepoch_Loadx7) : ESh.Ts τ hsepoch_Loadx7 := (s.b0, (s.b1, ()), (), ())
def lpepoch_Loadx7 : Lp τ := { ts := tsepoch_Loadx7, hs := hsepoch_Loadx7, S := Sepoch_Loadx7, to := toepoch_Loadx7, ot := otepoch_Loadx7, oh := ohepoch_Loadx7, hk := [2, 2], tk := [0, 0, 1, 0, 2, 0, 0, 3, 0, 0, 0, 0, 0, 0, 2, 0, 2, 0, 0, 0, 0, 0, 0, 0, 0, 0, 0, 0, 0, 0, 0, 3], ot_to := fun _ _ => rfl, oh_to := fun _ _ => rfl }
def Fepoch_Load (N : Nat) (b : List (Int)) : Option (Bool × Int × (List (GEpoch)) × Int) :=
 ((Fwire_NewReader N b).bind fun r1 =>
 ((Fwire_Reader_Int_d95 N r1).bind fun r2 =>
 (bif (((!(r2.2.1 == 0)) || (decide (r2.1 < 1))) || (decide (1024 < r2.1))) then
 (some (true, default, default, 1))
 else
 (iter N (fun (s3 : Sepoch_Loadx7) next4 =>
 (bif (decide (s3.t33 < r2.1)) then
 ((Frecord_TakeEpoch_d95 N s3.b0).bind fun r5 =>
 ((bif (!(!(r5.2.1 == 0))) then Fepoch_Check N r5.1 else some default).bind fun r6 =>
 (bif (!((!((!(r5.2.1 == 0)) || (!r6))) && (decide (0 < s3.t33))) || (ibB (IntKind.i64.wrap (s3.t33 - 1)) ((s3.b1).length : Int))) then
 ((bif ((!((!(r5.2.1 == 0)) || (!r6))) && (decide (0 < s3.t33))) then Fepoch_Follows N (lget s3.b1 (IntKind.i64.wrap (s3.t33 - 1)) default) r5.1 else some default).bind fun r7 =>
 (bif (((!(r5.2.1 == 0)) || (!r6)) || ((decide (0 < s3.t33)) && (!r7))) then
 (some (true, default, default, 1))
 else
 (bif (lenB ((s3.b1).length + ([r5.1]).length) 200) then
 (next4 ⟨(IntKind.i64.wrap (s3.t33 + 1)), r5.2.2, (s3.b1 ++ [r5.1])⟩)
 else none)))
 else none)))
 else
 (bif (ibB 0 ((s3.b1).length : Int)) then
 ((Fepoch_Members N (lget s3.b1 0 default)).bind fun r8 =>
 ((Fepoch_Start N r8).bind fun r9 =>
 ((Fwire_Reader_End_d95 N s3.b0).bind fun r10 =>
 (bif (!(!(!(r10.1 == 0))) || (ibB 0 ((s3.b1).length : Int))) then
 (bif ((!(r10.1 == 0)) || (!((((lget s3.b1 0 default).Number) == r9.1.Number) && ((vbeq beq3 ((lget s3.b1 0 default).States) r9.1.States) && ((vbeq beq2 ((lget s3.b1 0 default).Seals) r9.1.Seals) && (vbeq beq3 ((lget s3.b1 0 default).Sponsor) r9.1.Sponsor)))))) then
 (some (true, default, default, 1))
 else
 (some (false, 0, s3.b1, default)))
 else none))))
 else none))) ⟨0, r2.2.2, []⟩))))
def altepoch_Load : Alt τ (Bool × Int × (List (GEpoch)) × Int) := { ret := .tup [.nil .ptr, .ty 39], L' := [], of := fun r => (((), r.2.2.2, ()), ()) }
def conepoch_Load : Con τ := { args := [.ty 34], L := [], ret := .tup [.ptr 0 [], .ty 39], L' := [.box (.agg [.own 26 1]), .tail], R := Bool × Int × (List (GEpoch)) × Int, dflt := (default, default, default, default), F := fun N a b => Fepoch_Load N a.1, of := fun r => (((), r.2.1, ()), ((r.2.2.1, ()), (), ())), alt := some altepoch_Load, sel := fun r => r.1 }
noncomputable def datepoch_Load : Dat τ := { D := D0, tbl := tblOf [(47, conwire_NewReader), (48, conwire_Reader_Int_d95), (49, conrecord_TakeEpoch_d95), (13, conepoch_Check), (10, conepoch_Follows), (17, conepoch_Members), (31, conepoch_Start), (50, conwire_Reader_End_d95)], lp := lpsOf [(7, lpepoch_Loadx7)], k0 := 0, mu := [], un := [] }
theorem okepoch_Load : ConOk E C 27 conepoch_Load :=
  con_ok (D := datepoch_Load) ⟨d0Ok, eGood, tblOf_ok ⟨okwire_NewReader, ⟨okwire_Reader_Int_d95, ⟨okrecord_TakeEpoch_d95, ⟨okepoch_Check, ⟨okepoch_Follows, ⟨okepoch_Members, ⟨okepoch_Start, ⟨okwire_Reader_End_d95, trivial⟩⟩⟩⟩⟩⟩⟩⟩, fun _ => rfl⟩ conepoch_Load (fun a b => (false, a.2.1, b.1.1, default)) (some ⟨altepoch_Load, fun a b => (true, default, default, a.2.1)⟩) (fun _ _ => rfl) rfl (fun A t h => by cases h; exact ⟨fun _ _ => rfl, fun _ _ => rfl, fun _ _ => rfl⟩) 1000000 (fn := Try.f27) Try.func27 rfl (by kernel_rfl) (by kernel_rfl) rfl (by intro N a b; kernel_rfl)
structure Sref01_ParseIntx3 where
  u : Int
  i : Int
def tsref01_ParseIntx3 : List Sl := [.k, .k, .j, .j, .j, .sh (.ty 12), .sh (.ty 2), .j, .j, .j, .j, .j, .j, .j, .j, .j, .j, .j, .j, .j, .j, .j, .j, .j, .j, .j, .j, .j, .j, .j, .j, .j, .j, .j, .j, .j, .j, .j, .j, .j, .j, .j, .j, .j, .j, .j, .j, .j, .j, .j, .j, .j, .j, .j, .j]
def hsref01_ParseIntx3 : List ESh := []
def toref01_ParseIntx3 (a : Sl.Ts τ tsref01_ParseIntx3) (b : ESh.Ts τ hsref01_ParseIntx3) : Sref01_ParseIntx3 := ⟨a.2.2.2.2.2.1, a.2.2.2.2.2.2.1⟩
def otref01_ParseIntx3 (s : Sref01_ParseIntx3) : Sl.Ts τ tsref01_ParseIntx3 := ((), (), (), (), (), s.u, s.i, (), (), (), (), (), (), (), (), (), (), (), (), (), (), (), (), (), (), (), (), (), (), (), (), (), (), (), (), (), (), (), (), (), (), (), (), (), (), (), (), (), (), (), (), (), (), (), (), ())
def ohref01_ParseIntx3 (s : Sref01_ParseIntx3) : ESh.Ts τ hsref01_ParseIntx3 := ()
def lpref01_ParseIntx3 : Lp τ := { ts := tsref01_ParseIntx3, hs := hsref01_ParseIntx3, S := Sref01_ParseIntx3, to := toref01_ParseIntx3, ot := otref01_ParseIntx3, oh := ohref01_ParseIntx3, hk := [], tk := [], ot_to := fun _ _ => rfl, oh_to := fun _ _ => rfl }
def Fref01_ParseInt (N : Nat) (b : List (Int)) : Option (Int × Int × Int) :=
 (iter N (fun (s1 : Sref01_ParseIntx3) next2 =>
 (bif (decide (s1.i < ((b).length : Int))) then
 (bif (ibB s1.i ((b).length : Int)) then
 (bif ((s1.i == 9) && (decide (1 < (IntKind.u64.wrap (lget b s1.i default))))) then
 (some (0, 0, 11))
 else
 (bif (decide (0 ≤ (IntKind.i64.wrap (7 * s1.i)))) then
 (bif (decide (128 ≤ (IntKind.u64.wrap (lget b s1.i default)))) then
 (next2 ⟨(IntKind.u64.wrap (s1.u + (shl .u64 (Int.tmod (IntKind.u64.wrap (lget b s1.i default)) 128) (IntKind.i64.wrap (7 * s1.i))))), (IntKind.i64.wrap (s1.i + 1))⟩)
 else
 (bif (((IntKind.u64.wrap (lget b s1.i default)) == 0) && (decide (0 < s1.i))) then
 (some (0, 0, 11))
 else
 (bif ((Int.tmod (IntKind.u64.wrap (s1.u + (shl .u64 (Int.tmod (IntKind.u64.wrap (lget b s1.i default)) 128) (IntKind.i64.wrap (7 * s1.i))))) 2) == 1) then
 (some ((IntKind.i64.wrap ((IntKind.i64.wrap (0 - (IntKind.i64.wrap (IntKind.u64.wrap (Int.tdiv (IntKind.u64.wrap (s1.u + (shl .u64 (Int.tmod (IntKind.u64.wrap (lget b s1.i default)) 128) (IntKind.i64.wrap (7 * s1.i))))) 2))))) - 1)), (IntKind.i64.wrap (s1.i + 1)), 0))
 else
 (some ((IntKind.i64.wrap (IntKind.u64.wrap (Int.tdiv (IntKind.u64.wrap (s1.u + (shl .u64 (Int.tmod (IntKind.u64.wrap (lget b s1.i default)) 128) (IntKind.i64.wrap (7 * s1.i))))) 2))), (IntKind.i64.wrap (s1.i + 1)), 0)))))
 else none))
 else none)
 else
 (some (0, 0, 10)))) ⟨0, 0⟩)
def conref01_ParseInt : Con τ := { args := [.ty 34], L := [], ret := .tup [.ty 2, .ty 3, .ty 39], L' := [], R := Int × Int × Int, dflt := (default, default, default), F := fun N a b => Fref01_ParseInt N a.1, of := fun r => ((r.1, r.2.1, r.2.2, ()), ()) }
noncomputable def datref01_ParseInt : Dat τ := { D := D0, tbl := tblOf [], lp := lpsOf [(3, lpref01_ParseIntx3)], k0 := 0, mu := [], un := [] }
theorem okref01_ParseInt : ConOk E C 72 conref01_ParseInt :=
  con_ok (D := datref01_ParseInt) ⟨d0Ok, eGood, tblOf_ok trivial, fun _ => rfl⟩ conref01_ParseInt (fun a b => (a.1, a.2.1, a.2.2.1)) none (fun _ _ => rfl) rfl (fun _ _ h => nomatch h) 1000000 (fn := Try.f72) Try.func72 rfl (by kernel_rfl) (by kernel_rfl) rfl (by intro N a b; kernel_rfl)
def Fref04_Reader_Fail_d51 (N : Nat) (e : Int) (b0 : Gorchardref04_Reader) : Option (Gorchardref04_Reader) :=
 (bif (b0.E == 0) then
 (some (⟨b0.B, b0.At, e⟩ : Gorchardref04_Reader))
 else
 (some b0))
def conref04_Reader_Fail_d51 : Con τ := { args := [.ptr 0 [], .ty 39], L := [.box (.ty 93)], ret := .tup [], L' := [.box (.ty 93)], R := Gorchardref04_Reader, dflt := default, F := fun N a b => Fref04_Reader_Fail_d51 N a.2.1 b.1, of := fun r => ((), (r, ())) }
noncomputable def datref04_Reader_Fail_d51 : Dat τ := { D := D0, tbl := tblOf [], lp := lpsOf [], k0 := 1, mu := [], un := [] }
theorem okref04_Reader_Fail_d51 : ConOk E C 73 conref04_Reader_Fail_d51 :=
  con_ok (D := datref04_Reader_Fail_d51) ⟨d0Ok, eGood, tblOf_ok trivial, fun _ => rfl⟩ conref04_Reader_Fail_d51 (fun a b => b.1) none (fun _ _ => rfl) rfl (fun _ _ h => nomatch h) 1000000 (fn := Try.f73) Try.func73 rfl (by kernel_rfl) (by kernel_rfl) rfl (by intro N a b; kernel_rfl)
def Fref04_Reader_Num_4b9 (N : Nat) (b0 : Gorchardref04_Reader) : Option (Int × Gorchardref04_Reader) :=
 (bif (!(b0.E == 0)) then
 (some (0, b0))
 else
 (bif (cutB b0.At ((b0.B).length : Int) ((b0.B).length : Int)) then
 ((Fref01_ParseInt N (cut b0.B b0.At ((b0.B).length : Int))).bind fun r1 =>
 (bif (!(r1.2.2 == 0)) then
 ((Fref04_Reader_Fail_d51 N r1.2.2 b0).bind fun r2 =>
 (some (0, r2)))
 else
 (some (r1.1, (⟨b0.B, (IntKind.i64.wrap (b0.At + r1.2.1)), b0.E⟩ : Gorchardref04_Reader)))))
 else none))
def conref04_Reader_Num_4b9 : Con τ := { args := [.ptr 0 []], L := [.box (.ty 93)], ret := .ty 2, L' := [.box (.ty 93)], R := Int × Gorchardref04_Reader, dflt := (default, default), F := fun N a b => Fref04_Reader_Num_4b9 N b.1, of := fun r => (r.1, (r.2, ())) }
noncomputable def datref04_Reader_Num_4b9 : Dat τ := { D := D0, tbl := tblOf [(72, conref01_ParseInt), (73, conref04_Reader_Fail_d51)], lp := lpsOf [], k0 := 1, mu := [], un := [] }
theorem okref04_Reader_Num_4b9 : ConOk E C 51 conref04_Reader_Num_4b9 :=
  con_ok (D := datref04_Reader_Num_4b9) ⟨d0Ok, eGood, tblOf_ok ⟨okref01_ParseInt, ⟨okref04_Reader_Fail_d51, trivial⟩⟩, fun _ => rfl⟩ conref04_Reader_Num_4b9 (fun a b => (a, b.1)) none (fun _ _ => rfl) rfl (fun _ _ h => nomatch h) 1000000 (fn := Try.f51) Try.func51 rfl (by kernel_rfl) (by kernel_rfl) rfl (by intro N a b; kernel_rfl)
def Fref04_Reader_Small_4b9 (N : Nat) (b0 : Gorchardref04_Reader) : Option (Int × Gorchardref04_Reader) :=
 ((Fref04_Reader_Num_4b9 N b0).bind fun r1 =>
 (bif ((decide (r1.1 < (-2147483648))) || (decide (2147483648 < r1.1))) then
 (some ((-2147483648), r1.2))
 else
 (some (r1.1, r1.2))))
def conref04_Reader_Small_4b9 : Con τ := { args := [.ptr 0 []], L := [.box (.ty 93)], ret := .ty 3, L' := [.box (.ty 93)], R := Int × Gorchardref04_Reader, dflt := (default, default), F := fun N a b => Fref04_Reader_Small_4b9 N b.1, of := fun r => (r.1, (r.2, ())) }
noncomputable def datref04_Reader_Small_4b9 : Dat τ := { D := D0, tbl := tblOf [(51, conref04_Reader_Num_4b9)], lp := lpsOf [], k0 := 1, mu := [], un := [] }
theorem okref04_Reader_Small_4b9 : ConOk E C 74 conref04_Reader_Small_4b9 :=
  con_ok (D := datref04_Reader_Small_4b9) ⟨d0Ok, eGood, tblOf_ok ⟨okref04_Reader_Num_4b9, trivial⟩, fun _ => rfl⟩ conref04_Reader_Small_4b9 (fun a b => (a, b.1)) none (fun _ _ => rfl) rfl (fun _ _ h => nomatch h) 1000000 (fn := Try.f74) Try.func74 rfl (by kernel_rfl) (by kernel_rfl) rfl (by intro N a b; kernel_rfl)
structure Sref04_Reader_Vector_4b9x3 where
  i : Int
  b0 : Gorchardref04_Reader
  b2 : Vector (Int) 8
def tsref04_Reader_Vector_4b9x3 : List Sl := [.k, .k, .k, .k, .sh (.ty 2), .j, .j, .j, .j, .j, .j, .j, .j, .k]
def hsref04_Reader_Vector_4b9x3 : List ESh := [.box (.ty 92), .keep, .box (.ty 23)]
def toref04_Reader_Vector_4b9x3 (a : Sl.Ts τ tsref04_Reader_Vector_4b9x3) (b : ESh.Ts τ hsref04_Reader_Vector_4b9x3) : Sref04_Reader_Vector_4b9x3 := ⟨a.2.2.2.2.1, b.1, b.2.2.1⟩
def otref04_Reader_Vector_4b9x3 (s : Sref04_Reader_Vector_4b9x3) : Sl.Ts τ tsref04_Reader_Vector_4b9x3 := ((), (), (), (), s.i, (), (), (), (), (), (), (), (), (), ())
def ohref04_Reader_Vector_4b9x3 (s : Sref04_Reader_Vector_4b9x3) : ESh.Ts τ hsref04_Reader_Vector_4b9x3 := (s.b0, (), s.b2, ())
def lpref04_Reader_Vector_4b9x3 : Lp τ := { ts := tsref04_Reader_Vector_4b9x3, hs := hsref04_Reader_Vector_4b9x3, S := Sref04_Reader_Vector_4b9x3, to := toref04_Reader_Vector_4b9x3, ot := otref04_Reader_Vector_4b9x3, oh := ohref04_Reader_Vector_4b9x3, hk := [2, 2, 2], tk := [2, 0, 3, 4], ot_to := fun _ _ => rfl, oh_to := fun _ _ => rfl }
def Fref04_Reader_Vector_4b9 (N : Nat) (b0 : Gorchardref04_Reader) : Option ((Vector (Int) 8) × Gorchardref04_Reader) :=
 (iter N (fun (s1 : Sref04_Reader_Vector_4b9x3) next2 =>
 (bif (decide (s1.i < 8)) then
 ((Fref04_Reader_Num_4b9 N s1.b0).bind fun r3 =>
 (bif (ibB s1.i 8) then
 (next2 ⟨(IntKind.i64.wrap (s1.i + 1)), r3.2, (vset s1.b2 ((s1.i).toNat) r3.1)⟩)
 else none))
 else
 (some (s1.b2, s1.b0)))) ⟨0, b0, (Vector.replicate 8 (default : Int))⟩)
def conref04_Reader_Vector_4b9 : Con τ := { args := [.ptr 0 []], L := [.box (.ty 93)], ret := .ty 24, L' := [.box (.ty 93)], R := (Vector (Int) 8) × Gorchardref04_Reader, dflt := (default, default), F := fun N a b => Fref04_Reader_Vector_4b9 N b.1, of := fun r => (r.1, (r.2, ())) }
noncomputable def datref04_Reader_Vector_4b9 : Dat τ := { D := D0, tbl := tblOf [(51, conref04_Reader_Num_4b9)], lp := lpsOf [(3, lpref04_Reader_Vector_4b9x3)], k0 := 1, mu := [], un := [] }
theorem okref04_Reader_Vector_4b9 : ConOk E C 75 conref04_Reader_Vector_4b9 :=
  con_ok (D := datref04_Reader_Vector_4b9) ⟨d0Ok, eGood, tblOf_ok ⟨okref04_Reader_Num_4b9, trivial⟩, fun _ => rfl⟩ conref04_Reader_Vector_4b9 (fun a b => (a, b.1)) none (fun _ _ => rfl) rfl (fun _ _ h => nomatch h) 1000000 (fn := Try.f75) Try.func75 rfl (by kernel_rfl) (by kernel_rfl) rfl (by intro N a b; kernel_rfl)
structure Sref04_Reader_Epoch_4b9x4 where
  i : Int
  b0 : Gorchardref04_Reader
  b2 : GEpoch
def tsref04_Reader_Epoch_4b9x4 : List Sl := [.k, .k, .k, .k, .sh (.ty 2), .k, .k, .k, .k, .j, .j, .j, .j, .j, .j, .j, .j, .j, .k, .k, .k, .k, .k, .k, .k, .k, .k, .k, .k, .k, .k]
def hsref04_Reader_Epoch_4b9x4 : List ESh := [.box (.ty 92), .keep, .box (.ty 25)]
def toref04_Reader_Epoch_4b9x4 (a : Sl.Ts τ tsref04_Reader_Epoch_4b9x4) (b : ESh.Ts τ hsref04_Reader_Epoch_4b9x4) : Sref04_Reader_Epoch_4b9x4 := ⟨a.2.2.2.2.1, b.1, b.2.2.1⟩
def otref04_Reader_Epoch_4b9x4 (s : Sref04_Reader_Epoch_4b9x4) : Sl.Ts τ tsref04_Reader_Epoch_4b9x4 := ((), (), (), (), s.i, (), (), (), (), (), (), (), (), (), (), (), (), (), (), (), (), (), (), (), (), (), (), (), (), (), (), ())
def ohref04_Reader_Epoch_4b9x4 (s : Sref04_Reader_Epoch_4b9x4) : ESh.Ts τ hsref04_Reader_Epoch_4b9x4 := (s.b0, (), s.b2, ())
def lpref04_Reader_Epoch_4b9x4 : Lp τ := { ts := tsref04_Reader_Epoch_4b9x4, hs := hsref04_Reader_Epoch_4b9x4, S := Sref04_Reader_Epoch_4b9x4, to := toref04_Reader_Epoch_4b9x4, ot := otref04_Reader_Epoch_4b9x4, oh := ohref04_Reader_Epoch_4b9x4, hk := [2, 2, 2], tk := [2, 0, 3, 4, 0, 0, 2, 0, 4], ot_to := fun _ _ => rfl, oh_to := fun _ _ => rfl }
structure Sref04_Reader_Epoch_4b9x9 where
  i : Int
  b0 : Gorchardref04_Reader
  b2 : GEpoch
def tsref04_Reader_Epoch_4b9x9 : List Sl := [.k, .k, .k, .k, .k, .sh (.ty 2), .k, .k, .k, .k, .k, .k, .k, .k, .k, .k, .k, .k, .k, .k, .k, .j, .j, .j, .j, .j, .j, .j, .j, .j, .k]
def hsref04_Reader_Epoch_4b9x9 : List ESh := [.box (.ty 92), .keep, .box (.ty 25)]
def toref04_Reader_Epoch_4b9x9 (a : Sl.Ts τ tsref04_Reader_Epoch_4b9x9) (b : ESh.Ts τ hsref04_Reader_Epoch_4b9x9) : Sref04_Reader_Epoch_4b9x9 := ⟨a.2.2.2.2.2.1, b.1, b.2.2.1⟩
def otref04_Reader_Epoch_4b9x9 (s : Sref04_Reader_Epoch_4b9x9) : Sl.Ts τ tsref04_Reader_Epoch_4b9x9 := ((), (), (), (), (), s.i, (), (), (), (), (), (), (), (), (), (), (), (), (), (), (), (), (), (), (), (), (), (), (), (), (), ())
def ohref04_Reader_Epoch_4b9x9 (s : Sref04_Reader_Epoch_4b9x9) : ESh.Ts τ hsref04_Reader_Epoch_4b9x9 := (s.b0, (), s.b2, ())
def lpref04_Reader_Epoch_4b9x9 : Lp τ := { ts := tsref04_Reader_Epoch_4b9x9, hs := hsref04_Reader_Epoch_4b9x9, S := Sref04_Reader_Epoch_4b9x9, to := toref04_Reader_Epoch_4b9x9, ot := otref04_Reader_Epoch_4b9x9, oh := ohref04_Reader_Epoch_4b9x9, hk := [2, 2, 2], tk := [2, 0, 3, 4, 0, 0, 2, 0, 4, 0, 0, 0, 0, 0, 0, 0, 0, 0, 2, 0, 4], ot_to := fun _ _ => rfl, oh_to := fun _ _ => rfl }
def Fref04_Reader_Epoch_4b9 (N : Nat) (b0 : Gorchardref04_Reader) : Option (GEpoch × Gorchardref04_Reader) :=
 ((Fref04_Reader_Num_4b9 N b0).bind fun r1 =>
 (iter N (fun (s2 : Sref04_Reader_Epoch_4b9x4) next3 =>
 (bif (decide (s2.i < 8)) then
 ((Fref04_Reader_Small_4b9 N s2.b0).bind fun r4 =>
 (bif (ibB s2.i 8) then
 (next3 ⟨(IntKind.i64.wrap (s2.i + 1)), r4.2, (⟨s2.b2.Number, (vset s2.b2.States ((s2.i).toNat) r4.1), s2.b2.Seals, s2.b2.Sponsor⟩ : GEpoch)⟩)
 else none))
 else
 ((Fref04_Reader_Vector_4b9 N s2.b0).bind fun r5 =>
 (iter N (fun (s6 : Sref04_Reader_Epoch_4b9x9) next7 =>
 (bif (decide (s6.i < 8)) then
 ((Fref04_Reader_Small_4b9 N s6.b0).bind fun r8 =>
 (bif (ibB s6.i 8) then
 (next7 ⟨(IntKind.i64.wrap (s6.i + 1)), r8.2, (⟨s6.b2.Number, s6.b2.States, s6.b2.Seals, (vset s6.b2.Sponsor ((s6.i).toNat) r8.1)⟩ : GEpoch)⟩)
 else none))
 else
 (some (s6.b2, s6.b0)))) ⟨0, r5.2, (⟨s2.b2.Number, s2.b2.States, r5.1, s2.b2.Sponsor⟩ : GEpoch)⟩)))) ⟨0, r1.2, (⟨r1.1, (Vector.replicate 8 (default : Int)), (Vector.replicate 8 (default : Int)), (Vector.replicate 8 (default : Int))⟩ : GEpoch)⟩))
def conref04_Reader_Epoch_4b9 : Con τ := { args := [.ptr 0 []], L := [.box (.ty 93)], ret := .ty 26, L' := [.box (.ty 93)], R := GEpoch × Gorchardref04_Reader, dflt := (default, default), F := fun N a b => Fref04_Reader_Epoch_4b9 N b.1, of := fun r => (r.1, (r.2, ())) }
noncomputable def datref04_Reader_Epoch_4b9 : Dat τ := { D := D0, tbl := tblOf [(51, conref04_Reader_Num_4b9), (74, conref04_Reader_Small_4b9), (75, conref04_Reader_Vector_4b9)], lp := lpsOf [(4, lpref04_Reader_Epoch_4b9x4), (9, lpref04_Reader_Epoch_4b9x9)], k0 := 1, mu := [], un := [] }
theorem okref04_Reader_Epoch_4b9 : ConOk E C 52 conref04_Reader_Epoch_4b9 :=
  con_ok (D := datref04_Reader_Epoch_4b9) ⟨d0Ok, eGood, tblOf_ok ⟨okref04_Reader_Num_4b9, ⟨okref04_Reader_Small_4b9, ⟨okref04_Reader_Vector_4b9, trivial⟩⟩⟩, fun _ => rfl⟩ conref04_Reader_Epoch_4b9 (fun a b => (a, b.1)) none (fun _ _ => rfl) rfl (fun _ _ h => nomatch h) 1000000 (fn := Try.f52) Try.func52 rfl (by kernel_rfl) (by kernel_rfl) rfl (by intro N a b; kernel_rfl)
def Fref11_Count (N : Nat) (n : Int) : Option (Bool) :=
 (some ((decide (0 ≤ n)) && (decide (n ≤ 1099511627776))))
def conref11_Count : Con τ := { args := [.ty 2], L := [], ret := .ty 4, L' := [], R := Bool, dflt := default, F := fun N a b => Fref11_Count N a.1, of := fun r => (r, ()) }
noncomputable def datref11_Count : Dat τ := { D := D0, tbl := tblOf [], lp := lpsOf [], k0 := 0, mu := [], un := [] }
theorem okref11_Count : ConOk E C 37 conref11_Count :=
  con_ok (D := datref11_Count) ⟨d0Ok, eGood, tblOf_ok trivial, fun _ => rfl⟩ conref11_Count (fun a b => a) none (fun _ _ => rfl) rfl (fun _ _ h => nomatch h) 1000000 (fn := Try.f37) Try.func37 rfl (by kernel_rfl) (by kernel_rfl) rfl (by intro N a b; kernel_rfl)
def Fref17_site (N : Nat) (e : GEpoch) (i : Int) : Option (Bool) :=
 (bif (ibB i 8) then
 (bif (ibB i 8) then
 (bif (ibB i 8) then
 ((bif (!((decide ((vget e.States ((i).toNat) default) < 0)) || (decide (3 < (vget e.States ((i).toNat) default))))) then Fref11_Count N (vget e.Seals ((i).toNat) default) else some default).bind fun r1 =>
 (bif ((((decide ((vget e.States ((i).toNat) default) < 0)) || (decide (3 < (vget e.States ((i).toNat) default)))) || (!r1)) || ((!((vget e.States ((i).toNat) default) == 3)) && (!((vget e.Seals ((i).toNat) default) == 0)))) then
 (some false)
 else
 (bif ((vget e.States ((i).toNat) default) == 0) then
 (some ((vget e.Sponsor ((i).toNat) default) == (-1)))
 else
 (some (((decide ((-1) ≤ (vget e.Sponsor ((i).toNat) default))) && (decide ((vget e.Sponsor ((i).toNat) default) < 8))) && (!((vget e.Sponsor ((i).toNat) default) == i)))))))
 else none)
 else none)
 else none)
def conref17_site : Con τ := { args := [.ty 26, .ty 3], L := [], ret := .ty 4, L' := [], R := Bool, dflt := default, F := fun N a b => Fref17_site N a.1 a.2.1, of := fun r => (r, ()) }
noncomputable def datref17_site : Dat τ := { D := D0, tbl := tblOf [(37, conref11_Count)], lp := lpsOf [], k0 := 0, mu := [], un := [] }
theorem okref17_site : ConOk E C 38 conref17_site :=
  con_ok (D := datref17_site) ⟨d0Ok, eGood, tblOf_ok ⟨okref11_Count, trivial⟩, fun _ => rfl⟩ conref17_site (fun a b => a) none (fun _ _ => rfl) rfl (fun _ _ h => nomatch h) 1000000 (fn := Try.f38) Try.func38 rfl (by kernel_rfl) (by kernel_rfl) rfl (by intro N a b; kernel_rfl)
structure Sref17_Checkx3 where
  writes : Bool
  i : Int
def tsref17_Checkx3 : List Sl := [.k, .k, .j, .sh (.ty 4), .sh (.ty 2), .j, .j, .j, .j, .j, .j, .j, .j, .j, .j, .j, .j, .j, .j, .j, .j, .k, .k, .k, .k, .k, .k, .k, .k, .k, .k, .k]
def hsref17_Checkx3 : List ESh := [.keep]
def toref17_Checkx3 (a : Sl.Ts τ tsref17_Checkx3) (b : ESh.Ts τ hsref17_Checkx3) : Sref17_Checkx3 := ⟨a.2.2.2.1, a.2.2.2.2.1⟩
def otref17_Checkx3 (s : Sref17_Checkx3) : Sl.Ts τ tsref17_Checkx3 := ((), (), (), s.writes, s.i, (), (), (), (), (), (), (), (), (), (), (), (), (), (), (), (), (), (), (), (), (), (), (), (), (), (), (), ())
def ohref17_Checkx3 (s : Sref17_Checkx3) : ESh.Ts τ hsref17_Checkx3 := ((), ())
def lpref17_Checkx3 : Lp τ := { ts := tsref17_Checkx3, hs := hsref17_Checkx3, S := Sref17_Checkx3, to := toref17_Checkx3, ot := otref17_Checkx3, oh := ohref17_Checkx3, hk := [2], tk := [0, 2], ot_to := fun _ _ => rfl, oh_to := fun _ _ => rfl }
def Fref17_Check (N : Nat) (e : GEpoch) : Option (Bool) :=
 (iter N (fun (s1 : Sref17_Checkx3) next2 =>
 (bif (decide (s1.i < 8)) then
 ((Fref17_site N e s1.i).bind fun r3 =>
 (bif (!r3) then
 (some false)
 else
 (bif (!(!s1.writes) || (ibB s1.i 8)) then
 (next2 ⟨(s1.writes || ((vget e.States ((s1.i).toNat) default) == 1)), (IntKind.i64.wrap (s1.i + 1))⟩)
 else none)))
 else
 (some ((s1.writes && (decide (0 ≤ e.Number))) && (decide (e.Number < 1024)))))) ⟨false, 0⟩)
def conref17_Check : Con τ := { args := [.ty 26], L := [], ret := .ty 4, L' := [], R := Bool, dflt := default, F := fun N a b => Fref17_Check N a.1, of := fun r => (r, ()) }
noncomputable def datref17_Check : Dat τ := { D := D0, tbl := tblOf [(38, conref17_site)], lp := lpsOf [(3, lpref17_Checkx3)], k0 := 0, mu := [], un := [] }
theorem okref17_Check : ConOk E C 15 conref17_Check :=
  con_ok (D := datref17_Check) ⟨d0Ok, eGood, tblOf_ok ⟨okref17_site, trivial⟩, fun _ => rfl⟩ conref17_Check (fun a b => a) none (fun _ _ => rfl) rfl (fun _ _ h => nomatch h) 1000000 (fn := Try.f15) Try.func15 rfl (by kernel_rfl) (by kernel_rfl) rfl (by intro N a b; kernel_rfl)
def Fref11_Site (N : Nat) (n : Int) : Option (Bool) :=
 (some ((decide (0 ≤ n)) && (decide (n < 8))))
def conref11_Site : Con τ := { args := [.ty 3], L := [], ret := .ty 4, L' := [], R := Bool, dflt := default, F := fun N a b => Fref11_Site N a.1, of := fun r => (r, ()) }
noncomputable def datref11_Site : Dat τ := { D := D0, tbl := tblOf [], lp := lpsOf [], k0 := 0, mu := [], un := [] }
theorem okref11_Site : ConOk E C 34 conref11_Site :=
  con_ok (D := datref11_Site) ⟨d0Ok, eGood, tblOf_ok trivial, fun _ => rfl⟩ conref11_Site (fun a b => a) none (fun _ _ => rfl) rfl (fun _ _ h => nomatch h) 1000000 (fn := Try.f34) Try.func34 rfl (by kernel_rfl) (by kernel_rfl) rfl (by intro N a b; kernel_rfl)
def Fref17_join (N : Nat) (e : GEpoch) (x : GEntry) : Option (GEpoch × Int) :=
 (bif (ibB x.Site 8) then
 (bif (!((vget e.States ((x.Site).toNat) default) == 0)) then
 (some ((⟨0, (Vector.replicate 8 (default : Int)), (Vector.replicate 8 (default : Int)), (Vector.replicate 8 (default : Int))⟩ : GEpoch), 171))
 else
 ((Fref11_Site N x.Sponsor).bind fun r1 =>
 (bif (!r1) then
 (some ((⟨0, (Vector.replicate 8 (default : Int)), (Vector.replicate 8 (default : Int)), (Vector.replicate 8 (default : Int))⟩ : GEpoch), 1))
 else
 (bif (ibB x.Sponsor 8) then
 (bif (!((vget e.States ((x.Sponsor).toNat) default) == 1)) then
 (some ((⟨0, (Vector.replicate 8 (default : Int)), (Vector.replicate 8 (default : Int)), (Vector.replicate 8 (default : Int))⟩ : GEpoch), 171))
 else
 (bif (ibB x.Site 8) then
 (bif (ibB x.Site 8) then
 (some ((⟨e.Number, (vset e.States ((x.Site).toNat) 1), e.Seals, (vset e.Sponsor ((x.Site).toNat) x.Sponsor)⟩ : GEpoch), 0))
 else none)
 else none))
 else none))))
 else none)
def conref17_join : Con τ := { args := [.ty 26, .ty 38], L := [], ret := .tup [.ty 26, .ty 39], L' := [], R := GEpoch × Int, dflt := (default, default), F := fun N a b => Fref17_join N a.1 a.2.1, of := fun r => ((r.1, r.2, ()), ()) }
noncomputable def datref17_join : Dat τ := { D := D0, tbl := tblOf [(34, conref11_Site)], lp := lpsOf [], k0 := 0, mu := [], un := [] }
theorem okref17_join : ConOk E C 35 conref17_join :=
  con_ok (D := datref17_join) ⟨d0Ok, eGood, tblOf_ok ⟨okref11_Site, trivial⟩, fun _ => rfl⟩ conref17_join (fun a b => (a.1, a.2.1)) none (fun _ _ => rfl) rfl (fun _ _ h => nomatch h) 1000000 (fn := Try.f35) Try.func35 rfl (by kernel_rfl) (by kernel_rfl) rfl (by intro N a b; kernel_rfl)
structure Sref17_leavex5 where
  others : Int
  i : Int
def tsref17_leavex5 : List Sl := [.k, .k, .k, .k, .k, .k, .sh (.ty 2), .sh (.ty 2), .k, .k, .k, .k, .k, .k, .k, .j, .j, .j, .j, .j, .j, .j, .j, .j, .j, .j, .j, .j, .j, .j, .j, .j, .k, .k, .k, .k, .k, .k, .k, .k]
def hsref17_leavex5 : List ESh := [.keep, .keep, .keep]
def toref17_leavex5 (a : Sl.Ts τ tsref17_leavex5) (b : ESh.Ts τ hsref17_leavex5) : Sref17_leavex5 := ⟨a.2.2.2.2.2.2.1, a.2.2.2.2.2.2.2.1⟩
def otref17_leavex5 (s : Sref17_leavex5) : Sl.Ts τ tsref17_leavex5 := ((), (), (), (), (), (), s.others, s.i, (), (), (), (), (), (), (), (), (), (), (), (), (), (), (), (), (), (), (), (), (), (), (), (), (), (), (), (), (), (), (), (), ())
def ohref17_leavex5 (s : Sref17_leavex5) : ESh.Ts τ hsref17_leavex5 := ((), (), (), ())
def lpref17_leavex5 : Lp τ := { ts := tsref17_leavex5, hs := hsref17_leavex5, S := Sref17_leavex5, to := toref17_leavex5, ot := otref17_leavex5, oh := ohref17_leavex5, hk := [2, 2, 2], tk := [0, 0, 2, 3, 4, 0, 0, 0, 3, 0, 2, 2], ot_to := fun _ _ => rfl, oh_to := fun _ _ => rfl }
def Fref17_leave (N : Nat) (e : GEpoch) (x : GEntry) : Option (GEpoch × Int) :=
 (bif (ibB x.Site 8) then
 (bif (!((vget e.States ((x.Site).toNat) default) == 1)) then
 (some ((⟨0, (Vector.replicate 8 (default : Int)), (Vector.replicate 8 (default : Int)), (Vector.replicate 8 (default : Int))⟩ : GEpoch), 171))
 else
 (iter N (fun (s1 : Sref17_leavex5) next2 =>
 (bif (decide (s1.i < 8)) then
 (bif (!(!(s1.i == x.Site)) || (ibB s1.i 8)) then
 (bif ((!(s1.i == x.Site)) && ((vget e.States ((s1.i).toNat) default) == 1)) then
 (next2 ⟨(IntKind.i64.wrap (s1.others + 1)), (IntKind.i64.wrap (s1.i + 1))⟩)
 else
 (next2 ⟨s1.others, (IntKind.i64.wrap (s1.i + 1))⟩))
 else none)
 else
 (bif (s1.others == 0) then
 (some ((⟨0, (Vector.replicate 8 (default : Int)), (Vector.replicate 8 (default : Int)), (Vector.replicate 8 (default : Int))⟩ : GEpoch), 170))
 else
 (bif (ibB x.Site 8) then
 (some ((⟨e.Number, (vset e.States ((x.Site).toNat) 2), e.Seals, e.Sponsor⟩ : GEpoch), 0))
 else none)))) ⟨0, 0⟩))
 else none)
def conref17_leave : Con τ := { args := [.ty 26, .ty 38], L := [], ret := .tup [.ty 26, .ty 39], L' := [], R := GEpoch × Int, dflt := (default, default), F := fun N a b => Fref17_leave N a.1 a.2.1, of := fun r => ((r.1, r.2, ()), ()) }
noncomputable def datref17_leave : Dat τ := { D := D0, tbl := tblOf [], lp := lpsOf [(5, lpref17_leavex5)], k0 := 0, mu := [], un := [] }
theorem okref17_leave : ConOk E C 36 conref17_leave :=
  con_ok (D := datref17_leave) ⟨d0Ok, eGood, tblOf_ok trivial, fun _ => rfl⟩ conref17_leave (fun a b => (a.1, a.2.1)) none (fun _ _ => rfl) rfl (fun _ _ h => nomatch h) 1000000 (fn := Try.f36) Try.func36 rfl (by kernel_rfl) (by kernel_rfl) rfl (by intro N a b; kernel_rfl)
def Fref17_Apply (N : Nat) (e : GEpoch) (x : GEntry) : Option (GEpoch × Int) :=
 ((Fref17_Check N e).bind fun r1 =>
 ((bif (!(((!r1) || (decide (x.Kind < 6))) || (decide (8 < x.Kind)))) then Fref11_Site N x.Site else some default).bind fun r2 =>
 (bif ((((!r1) || (decide (x.Kind < 6))) || (decide (8 < x.Kind))) || (!r2)) then
 (some ((⟨0, (Vector.replicate 8 (default : Int)), (Vector.replicate 8 (default : Int)), (Vector.replicate 8 (default : Int))⟩ : GEpoch), 1))
 else
 (bif (e.Number == 1023) then
 (some ((⟨0, (Vector.replicate 8 (default : Int)), (Vector.replicate 8 (default : Int)), (Vector.replicate 8 (default : Int))⟩ : GEpoch), 3))
 else
 (bif (x.Kind == 6) then
 ((Fref17_join N (⟨(IntKind.i64.wrap (e.Number + 1)), e.States, e.Seals, e.Sponsor⟩ : GEpoch) x).bind fun r3 =>
 (some (r3.1, r3.2)))
 else
 (bif (x.Kind == 7) then
 ((Fref17_leave N (⟨(IntKind.i64.wrap (e.Number + 1)), e.States, e.Seals, e.Sponsor⟩ : GEpoch) x).bind fun r4 =>
 (some (r4.1, r4.2)))
 else
 (bif (ibB x.Site 8) then
 (bif (!((vget e.States ((x.Site).toNat) default) == 2)) then
 (some ((⟨0, (Vector.replicate 8 (default : Int)), (Vector.replicate 8 (default : Int)), (Vector.replicate 8 (default : Int))⟩ : GEpoch), 171))
 else
 ((Fref11_Count N x.Length).bind fun r5 =>
 (bif (!r5) then
 (some ((⟨0, (Vector.replicate 8 (default : Int)), (Vector.replicate 8 (default : Int)), (Vector.replicate 8 (default : Int))⟩ : GEpoch), 1))
 else
 (bif (ibB x.Site 8) then
 (bif (ibB x.Site 8) then
 (some ((⟨(IntKind.i64.wrap (e.Number + 1)), (vset e.States ((x.Site).toNat) 3), (vset e.Seals ((x.Site).toNat) x.Length), e.Sponsor⟩ : GEpoch), 0))
 else none)
 else none))))
 else none)))))))
def conref17_Apply : Con τ := { args := [.ty 26, .ty 38], L := [], ret := .tup [.ty 26, .ty 39], L' := [], R := GEpoch × Int, dflt := (default, default), F := fun N a b => Fref17_Apply N a.1 a.2.1, of := fun r => ((r.1, r.2, ()), ()) }
noncomputable def datref17_Apply : Dat τ := { D := D0, tbl := tblOf [(15, conref17_Check), (34, conref11_Site), (35, conref17_join), (36, conref17_leave), (37, conref11_Count)], lp := lpsOf [], k0 := 0, mu := [], un := [] }
theorem okref17_Apply : ConOk E C 14 conref17_Apply :=
  con_ok (D := datref17_Apply) ⟨d0Ok, eGood, tblOf_ok ⟨okref17_Check, ⟨okref11_Site, ⟨okref17_join, ⟨okref17_leave, ⟨okref11_Count, trivial⟩⟩⟩⟩⟩, fun _ => rfl⟩ conref17_Apply (fun a b => (a.1, a.2.1)) none (fun _ _ => rfl) rfl (fun _ _ h => nomatch h) 1000000 (fn := Try.f14) Try.func14 rfl (by kernel_rfl) (by kernel_rfl) rfl (by intro N a b; kernel_rfl)
structure Sref17_Followsx2 where
  i : Int
def tsref17_Followsx2 : List Sl := [.k, .k, .k, .k, .j, .sh (.ty 2), .j, .j, .j, .j, .j, .j, .j, .j, .j, .j, .j, .j, .j, .j, .j, .j, .j, .j, .j, .j, .j, .j, .j, .j, .j, .j, .j, .j, .j, .j, .j, .j, .j, .j, .j, .j, .j, .j, .j, .j, .j, .j, .j]
def hsref17_Followsx2 : List ESh := [.keep, .keep]
def toref17_Followsx2 (a : Sl.Ts τ tsref17_Followsx2) (b : ESh.Ts τ hsref17_Followsx2) : Sref17_Followsx2 := ⟨a.2.2.2.2.2.1⟩
def otref17_Followsx2 (s : Sref17_Followsx2) : Sl.Ts τ tsref17_Followsx2 := ((), (), (), (), (), s.i, (), (), (), (), (), (), (), (), (), (), (), (), (), (), (), (), (), (), (), (), (), (), (), (), (), (), (), (), (), (), (), (), (), (), (), (), (), (), (), (), (), (), (), ())
def ohref17_Followsx2 (s : Sref17_Followsx2) : ESh.Ts τ hsref17_Followsx2 := ((), (), ())
def lpref17_Followsx2 : Lp τ := { ts := tsref17_Followsx2, hs := hsref17_Followsx2, S := Sref17_Followsx2, to := toref17_Followsx2, ot := otref17_Followsx2, oh := ohref17_Followsx2, hk := [2, 2], tk := [0, 0, 2, 3], ot_to := fun _ _ => rfl, oh_to := fun _ _ => rfl }
structure Sref17_Followsx6 where
  k : Int
def tsref17_Followsx6 : List Sl := [.k, .k, .k, .k, .j, .k, .k, .sh (.ty 2), .j, .j, .k, .k, .k, .k, .k, .k, .k, .k, .k, .k, .k, .k, .k, .k, .k, .k, .k, .k, .k, .j, .j, .j, .j, .j, .j, .j, .j, .j, .j, .j, .j, .j, .j, .j, .j, .j, .j, .j, .j]
def hsref17_Followsx6 : List ESh := [.keep, .keep]
def toref17_Followsx6 (a : Sl.Ts τ tsref17_Followsx6) (b : ESh.Ts τ hsref17_Followsx6) : Sref17_Followsx6 := ⟨a.2.2.2.2.2.2.2.1⟩
def otref17_Followsx6 (s : Sref17_Followsx6) : Sl.Ts τ tsref17_Followsx6 := ((), (), (), (), (), (), (), s.k, (), (), (), (), (), (), (), (), (), (), (), (), (), (), (), (), (), (), (), (), (), (), (), (), (), (), (), (), (), (), (), (), (), (), (), (), (), (), (), (), (), ())
def ohref17_Followsx6 (s : Sref17_Followsx6) : ESh.Ts τ hsref17_Followsx6 := ((), (), ())
def lpref17_Followsx6 : Lp τ := { ts := tsref17_Followsx6, hs := hsref17_Followsx6, S := Sref17_Followsx6, to := toref17_Followsx6, ot := otref17_Followsx6, oh := ohref17_Followsx6, hk := [2, 2], tk := [0, 0, 2, 3, 0, 0, 0, 0, 0, 0, 0, 0, 0, 0, 0, 0, 3, 3, 0, 0, 0, 0, 0, 0, 3, 3], ot_to := fun _ _ => rfl, oh_to := fun _ _ => rfl }
def Fref17_Follows (N : Nat) (a : GEpoch) (b : GEpoch) : Option (Bool) :=
 (iter N (fun (s1 : Sref17_Followsx2) next2 =>
 (bif (decide (s1.i < 8)) then
 (bif (ibB s1.i 8) then
 (bif (ibB s1.i 8) then
 (iter N (fun (s3 : Sref17_Followsx6) next4 =>
 (bif (decide (s3.k < 3)) then
 (bif (ibB s3.k (([(⟨6, 0, 0, (⟨(⟨0, 0⟩ : GStamp), 0, 0, 0, [], [], []⟩ : GOp), 0, 0, [], (⟨0, (Vector.replicate 8 (default : Int)), (Vector.replicate 8 (default : Int)), (Vector.replicate 8 (default : Int))⟩ : GEpoch), 0, (Vector.replicate 8 (default : Int)), 0, (⟨0, 0, 0, []⟩ : GPart), s1.i, (vget b.Sponsor ((s1.i).toNat) default), 0⟩ : GEntry), (⟨7, 0, 0, (⟨(⟨0, 0⟩ : GStamp), 0, 0, 0, [], [], []⟩ : GOp), 0, 0, [], (⟨0, (Vector.replicate 8 (default : Int)), (Vector.replicate 8 (default : Int)), (Vector.replicate 8 (default : Int))⟩ : GEpoch), 0, (Vector.replicate 8 (default : Int)), 0, (⟨0, 0, 0, []⟩ : GPart), s1.i, 0, 0⟩ : GEntry), (⟨8, 0, 0, (⟨(⟨0, 0⟩ : GStamp), 0, 0, 0, [], [], []⟩ : GOp), 0, 0, [], (⟨0, (Vector.replicate 8 (default : Int)), (Vector.replicate 8 (default : Int)), (Vector.replicate 8 (default : Int))⟩ : GEpoch), 0, (Vector.replicate 8 (default : Int)), 0, (⟨0, 0, 0, []⟩ : GPart), s1.i, 0, (vget b.Seals ((s1.i).toNat) default)⟩ : GEntry)]).length : Int)) then
 ((Fref17_Apply N a (⟨(lget [(⟨6, 0, 0, (⟨(⟨0, 0⟩ : GStamp), 0, 0, 0, [], [], []⟩ : GOp), 0, 0, [], (⟨0, (Vector.replicate 8 (default : Int)), (Vector.replicate 8 (default : Int)), (Vector.replicate 8 (default : Int))⟩ : GEpoch), 0, (Vector.replicate 8 (default : Int)), 0, (⟨0, 0, 0, []⟩ : GPart), s1.i, (vget b.Sponsor ((s1.i).toNat) default), 0⟩ : GEntry), (⟨7, 0, 0, (⟨(⟨0, 0⟩ : GStamp), 0, 0, 0, [], [], []⟩ : GOp), 0, 0, [], (⟨0, (Vector.replicate 8 (default : Int)), (Vector.replicate 8 (default : Int)), (Vector.replicate 8 (default : Int))⟩ : GEpoch), 0, (Vector.replicate 8 (default : Int)), 0, (⟨0, 0, 0, []⟩ : GPart), s1.i, 0, 0⟩ : GEntry), (⟨8, 0, 0, (⟨(⟨0, 0⟩ : GStamp), 0, 0, 0, [], [], []⟩ : GOp), 0, 0, [], (⟨0, (Vector.replicate 8 (default : Int)), (Vector.replicate 8 (default : Int)), (Vector.replicate 8 (default : Int))⟩ : GEpoch), 0, (Vector.replicate 8 (default : Int)), 0, (⟨0, 0, 0, []⟩ : GPart), s1.i, 0, (vget b.Seals ((s1.i).toNat) default)⟩ : GEntry)] s3.k default).Kind, (lget [(⟨6, 0, 0, (⟨(⟨0, 0⟩ : GStamp), 0, 0, 0, [], [], []⟩ : GOp), 0, 0, [], (⟨0, (Vector.replicate 8 (default : Int)), (Vector.replicate 8 (default : Int)), (Vector.replicate 8 (default : Int))⟩ : GEpoch), 0, (Vector.replicate 8 (default : Int)), 0, (⟨0, 0, 0, []⟩ : GPart), s1.i, (vget b.Sponsor ((s1.i).toNat) default), 0⟩ : GEntry), (⟨7, 0, 0, (⟨(⟨0, 0⟩ : GStamp), 0, 0, 0, [], [], []⟩ : GOp), 0, 0, [], (⟨0, (Vector.replicate 8 (default : Int)), (Vector.replicate 8 (default : Int)), (Vector.replicate 8 (default : Int))⟩ : GEpoch), 0, (Vector.replicate 8 (default : Int)), 0, (⟨0, 0, 0, []⟩ : GPart), s1.i, 0, 0⟩ : GEntry), (⟨8, 0, 0, (⟨(⟨0, 0⟩ : GStamp), 0, 0, 0, [], [], []⟩ : GOp), 0, 0, [], (⟨0, (Vector.replicate 8 (default : Int)), (Vector.replicate 8 (default : Int)), (Vector.replicate 8 (default : Int))⟩ : GEpoch), 0, (Vector.replicate 8 (default : Int)), 0, (⟨0, 0, 0, []⟩ : GPart), s1.i, 0, (vget b.Seals ((s1.i).toNat) default)⟩ : GEntry)] s3.k default).Session, (lget [(⟨6, 0, 0, (⟨(⟨0, 0⟩ : GStamp), 0, 0, 0, [], [], []⟩ : GOp), 0, 0, [], (⟨0, (Vector.replicate 8 (default : Int)), (Vector.replicate 8 (default : Int)), (Vector.replicate 8 (default : Int))⟩ : GEpoch), 0, (Vector.replicate 8 (default : Int)), 0, (⟨0, 0, 0, []⟩ : GPart), s1.i, (vget b.Sponsor ((s1.i).toNat) default), 0⟩ : GEntry), (⟨7, 0, 0, (⟨(⟨0, 0⟩ : GStamp), 0, 0, 0, [], [], []⟩ : GOp), 0, 0, [], (⟨0, (Vector.replicate 8 (default : Int)), (Vector.replicate 8 (default : Int)), (Vector.replicate 8 (default : Int))⟩ : GEpoch), 0, (Vector.replicate 8 (default : Int)), 0, (⟨0, 0, 0, []⟩ : GPart), s1.i, 0, 0⟩ : GEntry), (⟨8, 0, 0, (⟨(⟨0, 0⟩ : GStamp), 0, 0, 0, [], [], []⟩ : GOp), 0, 0, [], (⟨0, (Vector.replicate 8 (default : Int)), (Vector.replicate 8 (default : Int)), (Vector.replicate 8 (default : Int))⟩ : GEpoch), 0, (Vector.replicate 8 (default : Int)), 0, (⟨0, 0, 0, []⟩ : GPart), s1.i, 0, (vget b.Seals ((s1.i).toNat) default)⟩ : GEntry)] s3.k default).Request, (⟨(((lget [(⟨6, 0, 0, (⟨(⟨0, 0⟩ : GStamp), 0, 0, 0, [], [], []⟩ : GOp), 0, 0, [], (⟨0, (Vector.replicate 8 (default : Int)), (Vector.replicate 8 (default : Int)), (Vector.replicate 8 (default : Int))⟩ : GEpoch), 0, (Vector.replicate 8 (default : Int)), 0, (⟨0, 0, 0, []⟩ : GPart), s1.i, (vget b.Sponsor ((s1.i).toNat) default), 0⟩ : GEntry), (⟨7, 0, 0, (⟨(⟨0, 0⟩ : GStamp), 0, 0, 0, [], [], []⟩ : GOp), 0, 0, [], (⟨0, (Vector.replicate 8 (default : Int)), (Vector.replicate 8 (default : Int)), (Vector.replicate 8 (default : Int))⟩ : GEpoch), 0, (Vector.replicate 8 (default : Int)), 0, (⟨0, 0, 0, []⟩ : GPart), s1.i, 0, 0⟩ : GEntry), (⟨8, 0, 0, (⟨(⟨0, 0⟩ : GStamp), 0, 0, 0, [], [], []⟩ : GOp), 0, 0, [], (⟨0, (Vector.replicate 8 (default : Int)), (Vector.replicate 8 (default : Int)), (Vector.replicate 8 (default : Int))⟩ : GEpoch), 0, (Vector.replicate 8 (default : Int)), 0, (⟨0, 0, 0, []⟩ : GPart), s1.i, 0, (vget b.Seals ((s1.i).toNat) default)⟩ : GEntry)] s3.k default).Op).Stamp), ((lget [(⟨6, 0, 0, (⟨(⟨0, 0⟩ : GStamp), 0, 0, 0, [], [], []⟩ : GOp), 0, 0, [], (⟨0, (Vector.replicate 8 (default : Int)), (Vector.replicate 8 (default : Int)), (Vector.replicate 8 (default : Int))⟩ : GEpoch), 0, (Vector.replicate 8 (default : Int)), 0, (⟨0, 0, 0, []⟩ : GPart), s1.i, (vget b.Sponsor ((s1.i).toNat) default), 0⟩ : GEntry), (⟨7, 0, 0, (⟨(⟨0, 0⟩ : GStamp), 0, 0, 0, [], [], []⟩ : GOp), 0, 0, [], (⟨0, (Vector.replicate 8 (default : Int)), (Vector.replicate 8 (default : Int)), (Vector.replicate 8 (default : Int))⟩ : GEpoch), 0, (Vector.replicate 8 (default : Int)), 0, (⟨0, 0, 0, []⟩ : GPart), s1.i, 0, 0⟩ : GEntry), (⟨8, 0, 0, (⟨(⟨0, 0⟩ : GStamp), 0, 0, 0, [], [], []⟩ : GOp), 0, 0, [], (⟨0, (Vector.replicate 8 (default : Int)), (Vector.replicate 8 (default : Int)), (Vector.replicate 8 (default : Int))⟩ : GEpoch), 0, (Vector.replicate 8 (default : Int)), 0, (⟨0, 0, 0, []⟩ : GPart), s1.i, 0, (vget b.Seals ((s1.i).toNat) default)⟩ : GEntry)] s3.k default).Op).Kind, ((lget [(⟨6, 0, 0, (⟨(⟨0, 0⟩ : GStamp), 0, 0, 0, [], [], []⟩ : GOp), 0, 0, [], (⟨0, (Vector.replicate 8 (default : Int)), (Vector.replicate 8 (default : Int)), (Vector.replicate 8 (default : Int))⟩ : GEpoch), 0, (Vector.replicate 8 (default : Int)), 0, (⟨0, 0, 0, []⟩ : GPart), s1.i, (vget b.Sponsor ((s1.i).toNat) default), 0⟩ : GEntry), (⟨7, 0, 0, (⟨(⟨0, 0⟩ : GStamp), 0, 0, 0, [], [], []⟩ : GOp), 0, 0, [], (⟨0, (Vector.replicate 8 (default : Int)), (Vector.replicate 8 (default : Int)), (Vector.replicate 8 (default : Int))⟩ : GEpoch), 0, (Vector.replicate 8 (default : Int)), 0, (⟨0, 0, 0, []⟩ : GPart), s1.i, 0, 0⟩ : GEntry), (⟨8, 0, 0, (⟨(⟨0, 0⟩ : GStamp), 0, 0, 0, [], [], []⟩ : GOp), 0, 0, [], (⟨0, (Vector.replicate 8 (default : Int)), (Vector.replicate 8 (default : Int)), (Vector.replicate 8 (default : Int))⟩ : GEpoch), 0, (Vector.replicate 8 (default : Int)), 0, (⟨0, 0, 0, []⟩ : GPart), s1.i, 0, (vget b.Seals ((s1.i).toNat) default)⟩ : GEntry)] s3.k default).Op).Node, ((lget [(⟨6, 0, 0, (⟨(⟨0, 0⟩ : GStamp), 0, 0, 0, [], [], []⟩ : GOp), 0, 0, [], (⟨0, (Vector.replicate 8 (default : Int)), (Vector.replicate 8 (default : Int)), (Vector.replicate 8 (default : Int))⟩ : GEpoch), 0, (Vector.replicate 8 (default : Int)), 0, (⟨0, 0, 0, []⟩ : GPart), s1.i, (vget b.Sponsor ((s1.i).toNat) default), 0⟩ : GEntry), (⟨7, 0, 0, (⟨(⟨0, 0⟩ : GStamp), 0, 0, 0, [], [], []⟩ : GOp), 0, 0, [], (⟨0, (Vector.replicate 8 (default : Int)), (Vector.replicate 8 (default : Int)), (Vector.replicate 8 (default : Int))⟩ : GEpoch), 0, (Vector.replicate 8 (default : Int)), 0, (⟨0, 0, 0, []⟩ : GPart), s1.i, 0, 0⟩ : GEntry), (⟨8, 0, 0, (⟨(⟨0, 0⟩ : GStamp), 0, 0, 0, [], [], []⟩ : GOp), 0, 0, [], (⟨0, (Vector.replicate 8 (default : Int)), (Vector.replicate 8 (default : Int)), (Vector.replicate 8 (default : Int))⟩ : GEpoch), 0, (Vector.replicate 8 (default : Int)), 0, (⟨0, 0, 0, []⟩ : GPart), s1.i, 0, (vget b.Seals ((s1.i).toNat) default)⟩ : GEntry)] s3.k default).Op).Parent, ((lget [(⟨6, 0, 0, (⟨(⟨0, 0⟩ : GStamp), 0, 0, 0, [], [], []⟩ : GOp), 0, 0, [], (⟨0, (Vector.replicate 8 (default : Int)), (Vector.replicate 8 (default : Int)), (Vector.replicate 8 (default : Int))⟩ : GEpoch), 0, (Vector.replicate 8 (default : Int)), 0, (⟨0, 0, 0, []⟩ : GPart), s1.i, (vget b.Sponsor ((s1.i).toNat) default), 0⟩ : GEntry), (⟨7, 0, 0, (⟨(⟨0, 0⟩ : GStamp), 0, 0, 0, [], [], []⟩ : GOp), 0, 0, [], (⟨0, (Vector.replicate 8 (default : Int)), (Vector.replicate 8 (default : Int)), (Vector.replicate 8 (default : Int))⟩ : GEpoch), 0, (Vector.replicate 8 (default : Int)), 0, (⟨0, 0, 0, []⟩ : GPart), s1.i, 0, 0⟩ : GEntry), (⟨8, 0, 0, (⟨(⟨0, 0⟩ : GStamp), 0, 0, 0, [], [], []⟩ : GOp), 0, 0, [], (⟨0, (Vector.replicate 8 (default : Int)), (Vector.replicate 8 (default : Int)), (Vector.replicate 8 (default : Int))⟩ : GEpoch), 0, (Vector.replicate 8 (default : Int)), 0, (⟨0, 0, 0, []⟩ : GPart), s1.i, 0, (vget b.Seals ((s1.i).toNat) default)⟩ : GEntry)] s3.k default).Op).Name, ((lget [(⟨6, 0, 0, (⟨(⟨0, 0⟩ : GStamp), 0, 0, 0, [], [], []⟩ : GOp), 0, 0, [], (⟨0, (Vector.replicate 8 (default : Int)), (Vector.replicate 8 (default : Int)), (Vector.replicate 8 (default : Int))⟩ : GEpoch), 0, (Vector.replicate 8 (default : Int)), 0, (⟨0, 0, 0, []⟩ : GPart), s1.i, (vget b.Sponsor ((s1.i).toNat) default), 0⟩ : GEntry), (⟨7, 0, 0, (⟨(⟨0, 0⟩ : GStamp), 0, 0, 0, [], [], []⟩ : GOp), 0, 0, [], (⟨0, (Vector.replicate 8 (default : Int)), (Vector.replicate 8 (default : Int)), (Vector.replicate 8 (default : Int))⟩ : GEpoch), 0, (Vector.replicate 8 (default : Int)), 0, (⟨0, 0, 0, []⟩ : GPart), s1.i, 0, 0⟩ : GEntry), (⟨8, 0, 0, (⟨(⟨0, 0⟩ : GStamp), 0, 0, 0, [], [], []⟩ : GOp), 0, 0, [], (⟨0, (Vector.replicate 8 (default : Int)), (Vector.replicate 8 (default : Int)), (Vector.replicate 8 (default : Int))⟩ : GEpoch), 0, (Vector.replicate 8 (default : Int)), 0, (⟨0, 0, 0, []⟩ : GPart), s1.i, 0, (vget b.Seals ((s1.i).toNat) default)⟩ : GEntry)] s3.k default).Op).Key, ((lget [(⟨6, 0, 0, (⟨(⟨0, 0⟩ : GStamp), 0, 0, 0, [], [], []⟩ : GOp), 0, 0, [], (⟨0, (Vector.replicate 8 (default : Int)), (Vector.replicate 8 (default : Int)), (Vector.replicate 8 (default : Int))⟩ : GEpoch), 0, (Vector.replicate 8 (default : Int)), 0, (⟨0, 0, 0, []⟩ : GPart), s1.i, (vget b.Sponsor ((s1.i).toNat) default), 0⟩ : GEntry), (⟨7, 0, 0, (⟨(⟨0, 0⟩ : GStamp), 0, 0, 0, [], [], []⟩ : GOp), 0, 0, [], (⟨0, (Vector.replicate 8 (default : Int)), (Vector.replicate 8 (default : Int)), (Vector.replicate 8 (default : Int))⟩ : GEpoch), 0, (Vector.replicate 8 (default : Int)), 0, (⟨0, 0, 0, []⟩ : GPart), s1.i, 0, 0⟩ : GEntry), (⟨8, 0, 0, (⟨(⟨0, 0⟩ : GStamp), 0, 0, 0, [], [], []⟩ : GOp), 0, 0, [], (⟨0, (Vector.replicate 8 (default : Int)), (Vector.replicate 8 (default : Int)), (Vector.replicate 8 (default : Int))⟩ : GEpoch), 0, (Vector.replicate 8 (default : Int)), 0, (⟨0, 0, 0, []⟩ : GPart), s1.i, 0, (vget b.Seals ((s1.i).toNat) default)⟩ : GEntry)] s3.k default).Op).Value⟩ : GOp), (lget [(⟨6, 0, 0, (⟨(⟨0, 0⟩ : GStamp), 0, 0, 0, [], [], []⟩ : GOp), 0, 0, [], (⟨0, (Vector.replicate 8 (default : Int)), (Vector.replicate 8 (default : Int)), (Vector.replicate 8 (default : Int))⟩ : GEpoch), 0, (Vector.replicate 8 (default : Int)), 0, (⟨0, 0, 0, []⟩ : GPart), s1.i, (vget b.Sponsor ((s1.i).toNat) default), 0⟩ : GEntry), (⟨7, 0, 0, (⟨(⟨0, 0⟩ : GStamp), 0, 0, 0, [], [], []⟩ : GOp), 0, 0, [], (⟨0, (Vector.replicate 8 (default : Int)), (Vector.replicate 8 (default : Int)), (Vector.replicate 8 (default : Int))⟩ : GEpoch), 0, (Vector.replicate 8 (default : Int)), 0, (⟨0, 0, 0, []⟩ : GPart), s1.i, 0, 0⟩ : GEntry), (⟨8, 0, 0, (⟨(⟨0, 0⟩ : GStamp), 0, 0, 0, [], [], []⟩ : GOp), 0, 0, [], (⟨0, (Vector.replicate 8 (default : Int)), (Vector.replicate 8 (default : Int)), (Vector.replicate 8 (default : Int))⟩ : GEpoch), 0, (Vector.replicate 8 (default : Int)), 0, (⟨0, 0, 0, []⟩ : GPart), s1.i, 0, (vget b.Seals ((s1.i).toNat) default)⟩ : GEntry)] s3.k default).Origin, (lget [(⟨6, 0, 0, (⟨(⟨0, 0⟩ : GStamp), 0, 0, 0, [], [], []⟩ : GOp), 0, 0, [], (⟨0, (Vector.replicate 8 (default : Int)), (Vector.replicate 8 (default : Int)), (Vector.replicate 8 (default : Int))⟩ : GEpoch), 0, (Vector.replicate 8 (default : Int)), 0, (⟨0, 0, 0, []⟩ : GPart), s1.i, (vget b.Sponsor ((s1.i).toNat) default), 0⟩ : GEntry), (⟨7, 0, 0, (⟨(⟨0, 0⟩ : GStamp), 0, 0, 0, [], [], []⟩ : GOp), 0, 0, [], (⟨0, (Vector.replicate 8 (default : Int)), (Vector.replicate 8 (default : Int)), (Vector.replicate 8 (default : Int))⟩ : GEpoch), 0, (Vector.replicate 8 (default : Int)), 0, (⟨0, 0, 0, []⟩ : GPart), s1.i, 0, 0⟩ : GEntry), (⟨8, 0, 0, (⟨(⟨0, 0⟩ : GStamp), 0, 0, 0, [], [], []⟩ : GOp), 0, 0, [], (⟨0, (Vector.replicate 8 (default : Int)), (Vector.replicate 8 (default : Int)), (Vector.replicate 8 (default : Int))⟩ : GEpoch), 0, (Vector.replicate 8 (default : Int)), 0, (⟨0, 0, 0, []⟩ : GPart), s1.i, 0, (vget b.Seals ((s1.i).toNat) default)⟩ : GEntry)] s3.k default).Seq, (lget [(⟨6, 0, 0, (⟨(⟨0, 0⟩ : GStamp), 0, 0, 0, [], [], []⟩ : GOp), 0, 0, [], (⟨0, (Vector.replicate 8 (default : Int)), (Vector.replicate 8 (default : Int)), (Vector.replicate 8 (default : Int))⟩ : GEpoch), 0, (Vector.replicate 8 (default : Int)), 0, (⟨0, 0, 0, []⟩ : GPart), s1.i, (vget b.Sponsor ((s1.i).toNat) default), 0⟩ : GEntry), (⟨7, 0, 0, (⟨(⟨0, 0⟩ : GStamp), 0, 0, 0, [], [], []⟩ : GOp), 0, 0, [], (⟨0, (Vector.replicate 8 (default : Int)), (Vector.replicate 8 (default : Int)), (Vector.replicate 8 (default : Int))⟩ : GEpoch), 0, (Vector.replicate 8 (default : Int)), 0, (⟨0, 0, 0, []⟩ : GPart), s1.i, 0, 0⟩ : GEntry), (⟨8, 0, 0, (⟨(⟨0, 0⟩ : GStamp), 0, 0, 0, [], [], []⟩ : GOp), 0, 0, [], (⟨0, (Vector.replicate 8 (default : Int)), (Vector.replicate 8 (default : Int)), (Vector.replicate 8 (default : Int))⟩ : GEpoch), 0, (Vector.replicate 8 (default : Int)), 0, (⟨0, 0, 0, []⟩ : GPart), s1.i, 0, (vget b.Seals ((s1.i).toNat) default)⟩ : GEntry)] s3.k default).Ops, ((lget [(⟨6, 0, 0, (⟨(⟨0, 0⟩ : GStamp), 0, 0, 0, [], [], []⟩ : GOp), 0, 0, [], (⟨0, (Vector.replicate 8 (default : Int)), (Vector.replicate 8 (default : Int)), (Vector.replicate 8 (default : Int))⟩ : GEpoch), 0, (Vector.replicate 8 (default : Int)), 0, (⟨0, 0, 0, []⟩ : GPart), s1.i, (vget b.Sponsor ((s1.i).toNat) default), 0⟩ : GEntry), (⟨7, 0, 0, (⟨(⟨0, 0⟩ : GStamp), 0, 0, 0, [], [], []⟩ : GOp), 0, 0, [], (⟨0, (Vector.replicate 8 (default : Int)), (Vector.replicate 8 (default : Int)), (Vector.replicate 8 (default : Int))⟩ : GEpoch), 0, (Vector.replicate 8 (default : Int)), 0, (⟨0, 0, 0, []⟩ : GPart), s1.i, 0, 0⟩ : GEntry), (⟨8, 0, 0, (⟨(⟨0, 0⟩ : GStamp), 0, 0, 0, [], [], []⟩ : GOp), 0, 0, [], (⟨0, (Vector.replicate 8 (default : Int)), (Vector.replicate 8 (default : Int)), (Vector.replicate 8 (default : Int))⟩ : GEpoch), 0, (Vector.replicate 8 (default : Int)), 0, (⟨0, 0, 0, []⟩ : GPart), s1.i, 0, (vget b.Seals ((s1.i).toNat) default)⟩ : GEntry)] s3.k default).Epoch), (lget [(⟨6, 0, 0, (⟨(⟨0, 0⟩ : GStamp), 0, 0, 0, [], [], []⟩ : GOp), 0, 0, [], (⟨0, (Vector.replicate 8 (default : Int)), (Vector.replicate 8 (default : Int)), (Vector.replicate 8 (default : Int))⟩ : GEpoch), 0, (Vector.replicate 8 (default : Int)), 0, (⟨0, 0, 0, []⟩ : GPart), s1.i, (vget b.Sponsor ((s1.i).toNat) default), 0⟩ : GEntry), (⟨7, 0, 0, (⟨(⟨0, 0⟩ : GStamp), 0, 0, 0, [], [], []⟩ : GOp), 0, 0, [], (⟨0, (Vector.replicate 8 (default : Int)), (Vector.replicate 8 (default : Int)), (Vector.replicate 8 (default : Int))⟩ : GEpoch), 0, (Vector.replicate 8 (default : Int)), 0, (⟨0, 0, 0, []⟩ : GPart), s1.i, 0, 0⟩ : GEntry), (⟨8, 0, 0, (⟨(⟨0, 0⟩ : GStamp), 0, 0, 0, [], [], []⟩ : GOp), 0, 0, [], (⟨0, (Vector.replicate 8 (default : Int)), (Vector.replicate 8 (default : Int)), (Vector.replicate 8 (default : Int))⟩ : GEpoch), 0, (Vector.replicate 8 (default : Int)), 0, (⟨0, 0, 0, []⟩ : GPart), s1.i, 0, (vget b.Seals ((s1.i).toNat) default)⟩ : GEntry)] s3.k default).From, (lget [(⟨6, 0, 0, (⟨(⟨0, 0⟩ : GStamp), 0, 0, 0, [], [], []⟩ : GOp), 0, 0, [], (⟨0, (Vector.replicate 8 (default : Int)), (Vector.replicate 8 (default : Int)), (Vector.replicate 8 (default : Int))⟩ : GEpoch), 0, (Vector.replicate 8 (default : Int)), 0, (⟨0, 0, 0, []⟩ : GPart), s1.i, (vget b.Sponsor ((s1.i).toNat) default), 0⟩ : GEntry), (⟨7, 0, 0, (⟨(⟨0, 0⟩ : GStamp), 0, 0, 0, [], [], []⟩ : GOp), 0, 0, [], (⟨0, (Vector.replicate 8 (default : Int)), (Vector.replicate 8 (default : Int)), (Vector.replicate 8 (default : Int))⟩ : GEpoch), 0, (Vector.replicate 8 (default : Int)), 0, (⟨0, 0, 0, []⟩ : GPart), s1.i, 0, 0⟩ : GEntry), (⟨8, 0, 0, (⟨(⟨0, 0⟩ : GStamp), 0, 0, 0, [], [], []⟩ : GOp), 0, 0, [], (⟨0, (Vector.replicate 8 (default : Int)), (Vector.replicate 8 (default : Int)), (Vector.replicate 8 (default : Int))⟩ : GEpoch), 0, (Vector.replicate 8 (default : Int)), 0, (⟨0, 0, 0, []⟩ : GPart), s1.i, 0, (vget b.Seals ((s1.i).toNat) default)⟩ : GEntry)] s3.k default).Vector_, (lget [(⟨6, 0, 0, (⟨(⟨0, 0⟩ : GStamp), 0, 0, 0, [], [], []⟩ : GOp), 0, 0, [], (⟨0, (Vector.replicate 8 (default : Int)), (Vector.replicate 8 (default : Int)), (Vector.replicate 8 (default : Int))⟩ : GEpoch), 0, (Vector.replicate 8 (default : Int)), 0, (⟨0, 0, 0, []⟩ : GPart), s1.i, (vget b.Sponsor ((s1.i).toNat) default), 0⟩ : GEntry), (⟨7, 0, 0, (⟨(⟨0, 0⟩ : GStamp), 0, 0, 0, [], [], []⟩ : GOp), 0, 0, [], (⟨0, (Vector.replicate 8 (default : Int)), (Vector.replicate 8 (default : Int)), (Vector.replicate 8 (default : Int))⟩ : GEpoch), 0, (Vector.replicate 8 (default : Int)), 0, (⟨0, 0, 0, []⟩ : GPart), s1.i, 0, 0⟩ : GEntry), (⟨8, 0, 0, (⟨(⟨0, 0⟩ : GStamp), 0, 0, 0, [], [], []⟩ : GOp), 0, 0, [], (⟨0, (Vector.replicate 8 (default : Int)), (Vector.replicate 8 (default : Int)), (Vector.replicate 8 (default : Int))⟩ : GEpoch), 0, (Vector.replicate 8 (default : Int)), 0, (⟨0, 0, 0, []⟩ : GPart), s1.i, 0, (vget b.Seals ((s1.i).toNat) default)⟩ : GEntry)] s3.k default).Clock, ((lget [(⟨6, 0, 0, (⟨(⟨0, 0⟩ : GStamp), 0, 0, 0, [], [], []⟩ : GOp), 0, 0, [], (⟨0, (Vector.replicate 8 (default : Int)), (Vector.replicate 8 (default : Int)), (Vector.replicate 8 (default : Int))⟩ : GEpoch), 0, (Vector.replicate 8 (default : Int)), 0, (⟨0, 0, 0, []⟩ : GPart), s1.i, (vget b.Sponsor ((s1.i).toNat) default), 0⟩ : GEntry), (⟨7, 0, 0, (⟨(⟨0, 0⟩ : GStamp), 0, 0, 0, [], [], []⟩ : GOp), 0, 0, [], (⟨0, (Vector.replicate 8 (default : Int)), (Vector.replicate 8 (default : Int)), (Vector.replicate 8 (default : Int))⟩ : GEpoch), 0, (Vector.replicate 8 (default : Int)), 0, (⟨0, 0, 0, []⟩ : GPart), s1.i, 0, 0⟩ : GEntry), (⟨8, 0, 0, (⟨(⟨0, 0⟩ : GStamp), 0, 0, 0, [], [], []⟩ : GOp), 0, 0, [], (⟨0, (Vector.replicate 8 (default : Int)), (Vector.replicate 8 (default : Int)), (Vector.replicate 8 (default : Int))⟩ : GEpoch), 0, (Vector.replicate 8 (default : Int)), 0, (⟨0, 0, 0, []⟩ : GPart), s1.i, 0, (vget b.Seals ((s1.i).toNat) default)⟩ : GEntry)] s3.k default).Part), (lget [(⟨6, 0, 0, (⟨(⟨0, 0⟩ : GStamp), 0, 0, 0, [], [], []⟩ : GOp), 0, 0, [], (⟨0, (Vector.replicate 8 (default : Int)), (Vector.replicate 8 (default : Int)), (Vector.replicate 8 (default : Int))⟩ : GEpoch), 0, (Vector.replicate 8 (default : Int)), 0, (⟨0, 0, 0, []⟩ : GPart), s1.i, (vget b.Sponsor ((s1.i).toNat) default), 0⟩ : GEntry), (⟨7, 0, 0, (⟨(⟨0, 0⟩ : GStamp), 0, 0, 0, [], [], []⟩ : GOp), 0, 0, [], (⟨0, (Vector.replicate 8 (default : Int)), (Vector.replicate 8 (default : Int)), (Vector.replicate 8 (default : Int))⟩ : GEpoch), 0, (Vector.replicate 8 (default : Int)), 0, (⟨0, 0, 0, []⟩ : GPart), s1.i, 0, 0⟩ : GEntry), (⟨8, 0, 0, (⟨(⟨0, 0⟩ : GStamp), 0, 0, 0, [], [], []⟩ : GOp), 0, 0, [], (⟨0, (Vector.replicate 8 (default : Int)), (Vector.replicate 8 (default : Int)), (Vector.replicate 8 (default : Int))⟩ : GEpoch), 0, (Vector.replicate 8 (default : Int)), 0, (⟨0, 0, 0, []⟩ : GPart), s1.i, 0, (vget b.Seals ((s1.i).toNat) default)⟩ : GEntry)] s3.k default).Site, (lget [(⟨6, 0, 0, (⟨(⟨0, 0⟩ : GStamp), 0, 0, 0, [], [], []⟩ : GOp), 0, 0, [], (⟨0, (Vector.replicate 8 (default : Int)), (Vector.replicate 8 (default : Int)), (Vector.replicate 8 (default : Int))⟩ : GEpoch), 0, (Vector.replicate 8 (default : Int)), 0, (⟨0, 0, 0, []⟩ : GPart), s1.i, (vget b.Sponsor ((s1.i).toNat) default), 0⟩ : GEntry), (⟨7, 0, 0, (⟨(⟨0, 0⟩ : GStamp), 0, 0, 0, [], [], []⟩ : GOp), 0, 0, [], (⟨0, (Vector.replicate 8 (default : Int)), (Vector.replicate 8 (default : Int)), (Vector.replicate 8 (default : Int))⟩ : GEpoch), 0, (Vector.replicate 8 (default : Int)), 0, (⟨0, 0, 0, []⟩ : GPart), s1.i, 0, 0⟩ : GEntry), (⟨8, 0, 0, (⟨(⟨0, 0⟩ : GStamp), 0, 0, 0, [], [], []⟩ : GOp), 0, 0, [], (⟨0, (Vector.replicate 8 (default : Int)), (Vector.replicate 8 (default : Int)), (Vector.replicate 8 (default : Int))⟩ : GEpoch), 0, (Vector.replicate 8 (default : Int)), 0, (⟨0, 0, 0, []⟩ : GPart), s1.i, 0, (vget b.Seals ((s1.i).toNat) default)⟩ : GEntry)] s3.k default).Sponsor, (lget [(⟨6, 0, 0, (⟨(⟨0, 0⟩ : GStamp), 0, 0, 0, [], [], []⟩ : GOp), 0, 0, [], (⟨0, (Vector.replicate 8 (default : Int)), (Vector.replicate 8 (default : Int)), (Vector.replicate 8 (default : Int))⟩ : GEpoch), 0, (Vector.replicate 8 (default : Int)), 0, (⟨0, 0, 0, []⟩ : GPart), s1.i, (vget b.Sponsor ((s1.i).toNat) default), 0⟩ : GEntry), (⟨7, 0, 0, (⟨(⟨0, 0⟩ : GStamp), 0, 0, 0, [], [], []⟩ : GOp), 0, 0, [], (⟨0, (Vector.replicate 8 (default : Int)), (Vector.replicate 8 (default : Int)), (Vector.replicate 8 (default : Int))⟩ : GEpoch), 0, (Vector.replicate 8 (default : Int)), 0, (⟨0, 0, 0, []⟩ : GPart), s1.i, 0, 0⟩ : GEntry), (⟨8, 0, 0, (⟨(⟨0, 0⟩ : GStamp), 0, 0, 0, [], [], []⟩ : GOp), 0, 0, [], (⟨0, (Vector.replicate 8 (default : Int)), (Vector.replicate 8 (default : Int)), (Vector.replicate 8 (default : Int))⟩ : GEpoch), 0, (Vector.replicate 8 (default : Int)), 0, (⟨0, 0, 0, []⟩ : GPart), s1.i, 0, (vget b.Seals ((s1.i).toNat) default)⟩ : GEntry)] s3.k default).Length⟩ : GEntry)).bind fun r5 =>
 (bif ((r5.2 == 0) && ((r5.1.Number == b.Number) && ((vbeq beq3 r5.1.States b.States) && ((vbeq beq2 r5.1.Seals b.Seals) && (vbeq beq3 r5.1.Sponsor b.Sponsor))))) then
 (some true)
 else
 (next4 ⟨(IntKind.i64.wrap (s3.k + 1))⟩)))
 else none)
 else
 (next2 ⟨(IntKind.i64.wrap (s1.i + 1))⟩))) ⟨0⟩)
 else none)
 else none)
 else
 (some false))) ⟨0⟩)
def conref17_Follows : Con τ := { args := [.ty 26, .ty 26], L := [], ret := .ty 4, L' := [], R := Bool, dflt := default, F := fun N a b => Fref17_Follows N a.1 a.2.1, of := fun r => (r, ()) }
noncomputable def datref17_Follows : Dat τ := { D := D0, tbl := tblOf [(14, conref17_Apply)], lp := lpsOf [(2, lpref17_Followsx2), (6, lpref17_Followsx6)], k0 := 0, mu := [], un := [] }
theorem okref17_Follows : ConOk E C 11 conref17_Follows :=
  con_ok (D := datref17_Follows) ⟨d0Ok, eGood, tblOf_ok ⟨okref17_Apply, trivial⟩, fun _ => rfl⟩ conref17_Follows (fun a b => a) none (fun _ _ => rfl) rfl (fun _ _ h => nomatch h) 1000000 (fn := Try.f11) Try.func11 rfl (by kernel_rfl) (by kernel_rfl) rfl (by intro N a b; kernel_rfl)
def Fref04_Reader_End_4b9 (N : Nat) (b0 : Gorchardref04_Reader) : Option (Gorchardref04_Reader) :=
 (bif (decide (b0.At < ((b0.B).length : Int))) then
 ((Fref04_Reader_Fail_d51 N 13 b0).bind fun r1 =>
 (some r1))
 else
 (some b0))
def conref04_Reader_End_4b9 : Con τ := { args := [.ptr 0 []], L := [.box (.ty 93)], ret := .tup [], L' := [.box (.ty 93)], R := Gorchardref04_Reader, dflt := default, F := fun N a b => Fref04_Reader_End_4b9 N b.1, of := fun r => ((), (r, ())) }
noncomputable def datref04_Reader_End_4b9 : Dat τ := { D := D0, tbl := tblOf [(73, conref04_Reader_Fail_d51)], lp := lpsOf [], k0 := 1, mu := [], un := [] }
theorem okref04_Reader_End_4b9 : ConOk E C 53 conref04_Reader_End_4b9 :=
  con_ok (D := datref04_Reader_End_4b9) ⟨d0Ok, eGood, tblOf_ok ⟨okref04_Reader_Fail_d51, trivial⟩, fun _ => rfl⟩ conref04_Reader_End_4b9 (fun a b => b.1) none (fun _ _ => rfl) rfl (fun _ _ h => nomatch h) 1000000 (fn := Try.f53) Try.func53 rfl (by kernel_rfl) (by kernel_rfl) rfl (by intro N a b; kernel_rfl)
def Fref17_Member (N : Nat) (e : GEpoch) (i : Int) : Option (Bool) :=
 ((Fref11_Site N i).bind fun r1 =>
 (bif (!r1 || (ibB i 8)) then
 (bif (!(r1 && (!((vget e.States ((i).toNat) default) == 1))) || (ibB i 8)) then
 (some (r1 && (((vget e.States ((i).toNat) default) == 1) || ((vget e.States ((i).toNat) default) == 2))))
 else none)
 else none))
def conref17_Member : Con τ := { args := [.ty 26, .ty 3], L := [], ret := .ty 4, L' := [], R := Bool, dflt := default, F := fun N a b => Fref17_Member N a.1 a.2.1, of := fun r => (r, ()) }
noncomputable def datref17_Member : Dat τ := { D := D0, tbl := tblOf [(34, conref11_Site)], lp := lpsOf [], k0 := 0, mu := [], un := [] }
theorem okref17_Member : ConOk E C 39 conref17_Member :=
  con_ok (D := datref17_Member) ⟨d0Ok, eGood, tblOf_ok ⟨okref11_Site, trivial⟩, fun _ => rfl⟩ conref17_Member (fun a b => a) none (fun _ _ => rfl) rfl (fun _ _ h => nomatch h) 1000000 (fn := Try.f39) Try.func39 rfl (by kernel_rfl) (by kernel_rfl) rfl (by intro N a b; kernel_rfl)
structure Sref17_Membersx3 where
  l : List (Int)
  i : Int
def tsref17_Membersx3 : List Sl := [.k, .k, .k, .sh (.own 3 1), .sh (.ty 2), .j, .j, .j, .j, .j, .j, .j, .j, .j, .j, .j, .k]
def hsref17_Membersx3 : List ESh := [.keep, .tail]
def toref17_Membersx3 (a : Sl.Ts τ tsref17_Membersx3) (b : ESh.Ts τ hsref17_Membersx3) : Sref17_Membersx3 := ⟨a.2.2.2.1, a.2.2.2.2.1⟩
def otref17_Membersx3 (s : Sref17_Membersx3) : Sl.Ts τ tsref17_Membersx3 := ((), (), (), s.l, s.i, (), (), (), (), (), (), (), (), (), (), (), (), ())
def ohref17_Membersx3 (s : Sref17_Membersx3) : ESh.Ts τ hsref17_Membersx3 := ((), (), ())
def lpref17_Membersx3 : Lp τ := { ts := tsref17_Membersx3, hs := hsref17_Membersx3, S := Sref17_Membersx3, to := toref17_Membersx3, ot := otref17_Membersx3, oh := ohref17_Membersx3, hk := [2], tk := [0, 2], ot_to := fun _ _ => rfl, oh_to := fun _ _ => rfl }
def Fref17_Members (N : Nat) (e : GEpoch) : Option ((List (Int))) :=
 (iter N (fun (s1 : Sref17_Membersx3) next2 =>
 (bif (decide (s1.i < 8)) then
 ((Fref17_Member N e s1.i).bind fun r3 =>
 (bif r3 then
 (bif (lenB ((s1.l).length + ([s1.i]).length) 8) then
 (next2 ⟨(s1.l ++ [s1.i]), (IntKind.i64.wrap (s1.i + 1))⟩)
 else none)
 else
 (next2 ⟨s1.l, (IntKind.i64.wrap (s1.i + 1))⟩)))
 else
 (some s1.l))) ⟨[], 0⟩)
def conref17_Members : Con τ := { args := [.ty 26], L := [], ret := .ty 45, L' := [], R := (List (Int)), dflt := default, F := fun N a b => Fref17_Members N a.1, of := fun r => (r, ()) }
noncomputable def datref17_Members : Dat τ := { D := D0, tbl := tblOf [(39, conref17_Member)], lp := lpsOf [(3, lpref17_Membersx3)], k0 := 0, mu := [], un := [] }
theorem okref17_Members : ConOk E C 18 conref17_Members :=
  con_ok (D := datref17_Members) ⟨d0Ok, eGood, tblOf_ok ⟨okref17_Member, trivial⟩, fun _ => rfl⟩ conref17_Members (fun a b => a) none (fun _ _ => rfl) rfl (fun _ _ h => nomatch h) 1000000 (fn := Try.f18) Try.func18 rfl (by kernel_rfl) (by kernel_rfl) rfl (by intro N a b; kernel_rfl)
structure Sref17_Startx5 where
  i : Int
  b1 : GEpoch
def tsref17_Startx5 : List Sl := [.k, .k, .k, .k, .k, .sh (.ty 2), .k, .k, .k, .k, .k, .k, .j, .j, .j, .j, .j, .j, .j, .k, .k, .k, .k, .k, .k, .k, .k, .k, .k, .k, .k, .k, .k, .k, .k, .k, .k, .k, .k, .k, .k, .k, .k, .k, .k, .k, .k, .k, .k, .k, .k, .k, .k, .k]
def hsref17_Startx5 : List ESh := [.keep, .box (.ty 25)]
def toref17_Startx5 (a : Sl.Ts τ tsref17_Startx5) (b : ESh.Ts τ hsref17_Startx5) : Sref17_Startx5 := ⟨a.2.2.2.2.2.1, b.2.1⟩
def otref17_Startx5 (s : Sref17_Startx5) : Sl.Ts τ tsref17_Startx5 := ((), (), (), (), (), s.i, (), (), (), (), (), (), (), (), (), (), (), (), (), (), (), (), (), (), (), (), (), (), (), (), (), (), (), (), (), (), (), (), (), (), (), (), (), (), (), (), (), (), (), (), (), (), (), (), ())
def ohref17_Startx5 (s : Sref17_Startx5) : ESh.Ts τ hsref17_Startx5 := ((), s.b1, ())
def lpref17_Startx5 : Lp τ := { ts := tsref17_Startx5, hs := hsref17_Startx5, S := Sref17_Startx5, to := toref17_Startx5, ot := otref17_Startx5, oh := ohref17_Startx5, hk := [2, 2], tk := [0, 0, 2, 0, 3], ot_to := fun _ _ => rfl, oh_to := fun _ _ => rfl }
structure Sref17_Startx9 where
  i : Int
  b0 : GEpoch
def tsref17_Startx9 : List Sl := [.k, .k, .k, .j, .k, .k, .sh (.ty 2), .k, .k, .k, .k, .k, .k, .k, .k, .k, .k, .k, .k, .j, .j, .j, .j, .j, .j, .j, .j, .j, .j, .j, .j, .j, .k, .k, .k, .k, .k, .k, .k, .k, .k, .k, .k, .k, .k, .k, .k, .k, .k, .k, .k, .k, .k, .k]
def hsref17_Startx9 : List ESh := [.box (.ty 25), .keep]
def toref17_Startx9 (a : Sl.Ts τ tsref17_Startx9) (b : ESh.Ts τ hsref17_Startx9) : Sref17_Startx9 := ⟨a.2.2.2.2.2.2.1, b.1⟩
def otref17_Startx9 (s : Sref17_Startx9) : Sl.Ts τ tsref17_Startx9 := ((), (), (), (), (), (), s.i, (), (), (), (), (), (), (), (), (), (), (), (), (), (), (), (), (), (), (), (), (), (), (), (), (), (), (), (), (), (), (), (), (), (), (), (), (), (), (), (), (), (), (), (), (), (), (), ())
def ohref17_Startx9 (s : Sref17_Startx9) : ESh.Ts τ hsref17_Startx9 := (s.b0, (), ())
def lpref17_Startx9 : Lp τ := { ts := tsref17_Startx9, hs := hsref17_Startx9, S := Sref17_Startx9, to := toref17_Startx9, ot := otref17_Startx9, oh := ohref17_Startx9, hk := [2, 2], tk := [0, 0, 2, 0, 3], ot_to := fun _ _ => rfl, oh_to := fun _ _ => rfl }
structure Sref17_Startx14 where
  i : Int
  b0 : GEpoch
  b1 : GEpoch
def tsref17_Startx14 : List Sl := [.k, .k, .k, .j, .k, .k, .k, .sh (.ty 2), .k, .k, .k, .k, .k, .k, .k, .k, .k, .k, .k, .k, .k, .k, .k, .k, .k, .k, .k, .k, .k, .k, .k, .k, .j, .j, .j, .j, .j, .j, .j, .j, .j, .j, .j, .j, .j, .j, .j, .j, .j, .j, .j, .j, .j, .k]
def hsref17_Startx14 : List ESh := [.box (.ty 25), .box (.ty 25)]
def toref17_Startx14 (a : Sl.Ts τ tsref17_Startx14) (b : ESh.Ts τ hsref17_Startx14) : Sref17_Startx14 := ⟨a.2.2.2.2.2.2.2.1, b.1, b.2.1⟩
def otref17_Startx14 (s : Sref17_Startx14) : Sl.Ts τ tsref17_Startx14 := ((), (), (), (), (), (), (), s.i, (), (), (), (), (), (), (), (), (), (), (), (), (), (), (), (), (), (), (), (), (), (), (), (), (), (), (), (), (), (), (), (), (), (), (), (), (), (), (), (), (), (), (), (), (), (), ())
def ohref17_Startx14 (s : Sref17_Startx14) : ESh.Ts τ hsref17_Startx14 := (s.b0, s.b1, ())
def lpref17_Startx14 : Lp τ := { ts := tsref17_Startx14, hs := hsref17_Startx14, S := Sref17_Startx14, to := toref17_Startx14, ot := otref17_Startx14, oh := ohref17_Startx14, hk := [2, 2], tk := [0, 0, 2, 0, 3], ot_to := fun _ _ => rfl, oh_to := fun _ _ => rfl }
def Fref17_Start (N : Nat) (members : List (Int)) : Option (GEpoch × Int) :=
 (bif (((members).length : Int) == 0) then
 (some ((⟨0, (Vector.replicate 8 (default : Int)), (Vector.replicate 8 (default : Int)), (Vector.replicate 8 (default : Int))⟩ : GEpoch), 1))
 else
 (iter N (fun (s1 : Sref17_Startx5) next2 =>
 (bif (decide (s1.i < 8)) then
 (bif (ibB s1.i 8) then
 (next2 ⟨(IntKind.i64.wrap (s1.i + 1)), (⟨s1.b1.Number, s1.b1.States, s1.b1.Seals, (vset s1.b1.Sponsor ((s1.i).toNat) (-1))⟩ : GEpoch)⟩)
 else none)
 else
 (iter N (fun (s3 : Sref17_Startx9) next4 =>
 (bif (decide (s3.i < ((members).length : Int))) then
 (bif (ibB s3.i ((members).length : Int)) then
 ((Fref11_Site N (lget members s3.i default)).bind fun r5 =>
 (bif (!r5) then
 (some ((⟨0, (Vector.replicate 8 (default : Int)), (Vector.replicate 8 (default : Int)), (Vector.replicate 8 (default : Int))⟩ : GEpoch), 1))
 else
 (next4 ⟨(IntKind.i64.wrap (s3.i + 1)), s3.b0⟩)))
 else none)
 else
 (iter N (fun (s6 : Sref17_Startx14) next7 =>
 (bif (decide (s6.i < ((members).length : Int))) then
 (bif (ibB s6.i ((members).length : Int)) then
 (bif (ibB (lget members s6.i default) 8) then
 (bif (!((vget s6.b1.States (((lget members s6.i default)).toNat) default) == 0)) then
 (some ((⟨0, (Vector.replicate 8 (default : Int)), (Vector.replicate 8 (default : Int)), (Vector.replicate 8 (default : Int))⟩ : GEpoch), 5))
 else
 (bif (ibB s6.i ((members).length : Int)) then
 (bif (ibB (lget members s6.i default) 8) then
 (next7 ⟨(IntKind.i64.wrap (s6.i + 1)), s6.b0, (⟨s6.b1.Number, (vset s6.b1.States (((lget members s6.i default)).toNat) 1), s6.b1.Seals, s6.b1.Sponsor⟩ : GEpoch)⟩)
 else none)
 else none))
 else none)
 else none)
 else
 (some (s6.b1, 0)))) ⟨0, s3.b0, s1.b1⟩))) ⟨0, (⟨0, (Vector.replicate 8 (default : Int)), (Vector.replicate 8 (default : Int)), (Vector.replicate 8 (default : Int))⟩ : GEpoch)⟩))) ⟨0, (⟨0, (Vector.replicate 8 (default : Int)), (Vector.replicate 8 (default : Int)), (Vector.replicate 8 (default : Int))⟩ : GEpoch)⟩))
def conref17_Start : Con τ := { args := [.ty 45], L := [], ret := .tup [.ty 26, .ty 39], L' := [], R := GEpoch × Int, dflt := (default, default), F := fun N a b => Fref17_Start N a.1, of := fun r => ((r.1, r.2, ()), ()) }
noncomputable def datref17_Start : Dat τ := { D := D0, tbl := tblOf [(34, conref11_Site)], lp := lpsOf [(5, lpref17_Startx5), (9, lpref17_Startx9), (14, lpref17_Startx14)], k0 := 0, mu := [], un := [] }
theorem okref17_Start : ConOk E C 54 conref17_Start :=
  con_ok (D := datref17_Start) ⟨d0Ok, eGood, tblOf_ok ⟨okref11_Site, trivial⟩, fun _ => rfl⟩ conref17_Start (fun a b => (a.1, a.2.1)) none (fun _ _ => rfl) rfl (fun _ _ h => nomatch h) 1000000 (fn := Try.f54) Try.func54 rfl (by kernel_rfl) (by kernel_rfl) rfl (by intro N a b; kernel_rfl)
structure Sref17_Loadx7 where
  l : List (GEpoch)
  i : Int
  b0 : Gorchardref04_Reader
def tsref17_Loadx7 : List Sl := [.k, .k, .j, .j, .k, .k, .sh (.own 26 1), .sh (.ty 2), .j, .k, .k, .k, .k, .k, .k, .k, .k, .k, .k, .k, .k, .k, .j, .j, .k, .k, .j, .j, .k, .j, .j, .j, .j, .j, .j, .j, .j, .j, .j, .j, .j, .j, .j, .j, .j, .j, .j, .j, .j, .j, .j, .j, .j, .j, .j, .j, .j, .k, .k, .k, .k, .k, .k, .k, .k, .k, .k, .k, .k, .k, .k, .k, .k, .k, .k, .k, .k, .k, .k, .k, .k, .k, .k, .k]
def hsref17_Loadx7 : List ESh := [.box (.ty 92), .tail]
def toref17_Loadx7 (a : Sl.Ts τ tsref17_Loadx7) (b : ESh.Ts τ hsref17_Loadx7) : Sref17_Loadx7 := ⟨a.2.2.2.2.2.2.1, a.2.2.2.2.2.2.2.1, b.1⟩
def otref17_Loadx7 (s : Sref17_Loadx7) : Sl.Ts τ tsref17_Loadx7 := ((), (), (), (), (), (), s.l, s.i, (), (), (), (), (), (), (), (), (), (), (), (), (), (), (), (), (), (), (), (), (), (), (), (), (), (), (), (), (), (), (), (), (), (), (), (), (), (), (), (), (), (), (), (), (), (), (), (), (), (), (), (), (), (), (), (), (), (), (), (), (), (), (), (), (), (), (), (), (), (), (), (), (), (), (), (), ())
def ohref17_Loadx7 (s : Sref17_Loadx7) : ESh.Ts τ hsref17_Loadx7 := (s.b0, (), ())
def lpref17_Loadx7 : Lp τ := { ts := tsref17_Loadx7, hs := hsref17_Loadx7, S := Sref17_Loadx7, to := toref17_Loadx7, ot := otref17_Loadx7, oh := ohref17_Loadx7, hk := [2], tk := [0, 0, 0, 0, 2, 0, 0, 0, 0, 0, 0, 0, 0, 2, 2, 0, 2, 2, 2], ot_to := fun _ _ => rfl, oh_to := fun _ _ => rfl }
def Fref17_Load (N : Nat) (b : List (Int)) : Option ((List (GEpoch)) × Bool) :=
 ((Fref04_Reader_Num_4b9 N (⟨b, 0, 0⟩ : Gorchardref04_Reader)).bind fun r1 =>
 (bif (((!(r1.2.E == 0)) || (decide (r1.1 < 1))) || (decide (1024 < r1.1))) then
 (some ([], false))
 else
 (iter N (fun (s2 : Sref17_Loadx7) next3 =>
 (bif (decide (s2.i < r1.1)) then
 ((Fref04_Reader_Epoch_4b9 N s2.b0).bind fun r4 =>
 (bif (!(r4.2.E == 0)) then
 (some ([], false))
 else
 (bif (!(decide (0 < s2.i)) || (ibB (IntKind.i64.wrap (s2.i - 1)) ((s2.l).length : Int))) then
 ((bif (decide (0 < s2.i)) then Fref17_Follows N (lget s2.l (IntKind.i64.wrap (s2.i - 1)) default) r4.1 else some default).bind fun r5 =>
 (bif ((decide (0 < s2.i)) && (!r5)) then
 (some ([], false))
 else
 (bif (lenB ((s2.l).length + ([r4.1]).length) 200) then
 (next3 ⟨(s2.l ++ [r4.1]), (IntKind.i64.wrap (s2.i + 1)), r4.2⟩)
 else none)))
 else none)))
 else
 ((Fref04_Reader_End_4b9 N s2.b0).bind fun r6 =>
 (bif (ibB 0 ((s2.l).length : Int)) then
 ((Fref17_Members N (lget s2.l 0 default)).bind fun r7 =>
 ((Fref17_Start N r7).bind fun r8 =>
 (bif (!((r6.E == 0) && (r8.2 == 0)) || (ibB 0 ((s2.l).length : Int))) then
 (some (s2.l, (((r6.E == 0) && (r8.2 == 0)) && ((r8.1.Number == ((lget s2.l 0 default).Number)) && ((vbeq beq3 r8.1.States ((lget s2.l 0 default).States)) && ((vbeq beq2 r8.1.Seals ((lget s2.l 0 default).Seals)) && (vbeq beq3 r8.1.Sponsor ((lget s2.l 0 default).Sponsor))))))))
 else none)))
 else none)))) ⟨[], 0, r1.2⟩)))
def conref17_Load : Con τ := { args := [.ty 34], L := [], ret := .tup [.ty 50, .ty 4], L' := [], R := (List (GEpoch)) × Bool, dflt := (default, default), F := fun N a b => Fref17_Load N a.1, of := fun r => ((r.1, r.2, ()), ()) }
noncomputable def datref17_Load : Dat τ := { D := D0, tbl := tblOf [(51, conref04_Reader_Num_4b9), (52, conref04_Reader_Epoch_4b9), (11, conref17_Follows), (53, conref04_Reader_End_4b9), (18, conref17_Members), (54, conref17_Start)], lp := lpsOf [(7, lpref17_Loadx7)], k0 := 0, mu := [], un := [] }
theorem okref17_Load : ConOk E C 28 conref17_Load :=
  con_ok (D := datref17_Load) ⟨d0Ok, eGood, tblOf_ok ⟨okref04_Reader_Num_4b9, ⟨okref04_Reader_Epoch_4b9, ⟨okref17_Follows, ⟨okref04_Reader_End_4b9, ⟨okref17_Members, ⟨okref17_Start, trivial⟩⟩⟩⟩⟩⟩, fun _ => rfl⟩ conref17_Load (fun a b => (a.1, a.2.1)) none (fun _ _ => rfl) rfl (fun _ _ h => nomatch h) 1000000 (fn := Try.f28) Try.func28 rfl (by kernel_rfl) (by kernel_rfl) rfl (by intro N a b; kernel_rfl)
def Fbytes_Equal (N : Nat) (a : List (Int)) (b : List (Int)) : Option (Bool) :=
 (some ((strI a) == (strI b)))
def conbytes_Equal : Con τ := { args := [.ty 34, .ty 34], L := [], ret := .ty 4, L' := [], R := Bool, dflt := default, F := fun N a b => Fbytes_Equal N a.1 a.2.1, of := fun r => (r, ()) }
noncomputable def datbytes_Equal : Dat τ := { D := D0, tbl := tblOf [], lp := lpsOf [], k0 := 0, mu := [], un := [] }
theorem okbytes_Equal : ConOk E C 29 conbytes_Equal :=
  con_ok (D := datbytes_Equal) ⟨d0Ok, eGood, tblOf_ok trivial, fun _ => rfl⟩ conbytes_Equal (fun a b => a) none (fun _ _ => rfl) rfl (fun _ _ h => nomatch h) 1000000 (fn := Try.f29) Try.func29 rfl (by kernel_rfl) (by kernel_rfl) rfl (by intro N a b; kernel_rfl)
def Flaw17_EpochLoads (N : Nat) (b : List (Int)) : Option (Bool) :=
 ((Fepoch_Load N b).bind fun r1 =>
 (bif r1.1 then
 ((Fref17_Load N b).bind fun r2 =>
 ((Flaw17_live N).bind fun r3 =>
 (bif ((((!r3) || (!(false == r2.2))) || (!((r1.2.2.2 == 0) == r2.2))) || ((!r2.2) && (!(r1.2.2.2 == 1)))) then
 (some false)
 else
 ((bif false then Fepoch_Machine_Current_d70 N else some default).bind fun r4 =>
 ((bif false then Fepoch_Machine_Bytes_d70 N else some default).bind fun r5 =>
 ((bif false then Fbytes_Equal N r5 b else some default).bind fun r6 =>
 (some true)))))))
 else
 ((Fref17_Load N b).bind fun r7 =>
 ((Flaw17_live N).bind fun r8 =>
 (bif ((((!r8) || (!(true == r7.2))) || (!((r1.2.1 == 0) == r7.2))) || ((!r7.2) && (!(r1.2.1 == 1)))) then
 (some false)
 else
 ((Fepoch_Machine_Current_ce0 N r1.2.2.1).bind fun r9 =>
 (bif (ibB (IntKind.i64.wrap (((r7.1).length : Int) - 1)) ((r7.1).length : Int)) then
 (bif ((r9.1.Number == ((lget r7.1 (IntKind.i64.wrap (((r7.1).length : Int) - 1)) default).Number)) && ((vbeq beq3 r9.1.States ((lget r7.1 (IntKind.i64.wrap (((r7.1).length : Int) - 1)) default).States)) && ((vbeq beq2 r9.1.Seals ((lget r7.1 (IntKind.i64.wrap (((r7.1).length : Int) - 1)) default).Seals)) && (vbeq beq3 r9.1.Sponsor ((lget r7.1 (IntKind.i64.wrap (((r7.1).length : Int) - 1)) default).Sponsor))))) then
 ((Fepoch_Machine_Bytes_ce0 N r9.2).bind fun r10 =>
 ((bif ((r9.1.Number == ((lget r7.1 (IntKind.i64.wrap (((r7.1).length : Int) - 1)) default).Number)) && ((vbeq beq3 r9.1.States ((lget r7.1 (IntKind.i64.wrap (((r7.1).length : Int) - 1)) default).States)) && ((vbeq beq2 r9.1.Seals ((lget r7.1 (IntKind.i64.wrap (((r7.1).length : Int) - 1)) default).Seals)) && (vbeq beq3 r9.1.Sponsor ((lget r7.1 (IntKind.i64.wrap (((r7.1).length : Int) - 1)) default).Sponsor))))) then Fbytes_Equal N r10.1 b else some default).bind fun r11 =>
 (some (((r9.1.Number == ((lget r7.1 (IntKind.i64.wrap (((r7.1).length : Int) - 1)) default).Number)) && ((vbeq beq3 r9.1.States ((lget r7.1 (IntKind.i64.wrap (((r7.1).length : Int) - 1)) default).States)) && ((vbeq beq2 r9.1.Seals ((lget r7.1 (IntKind.i64.wrap (((r7.1).length : Int) - 1)) default).Seals)) && (vbeq beq3 r9.1.Sponsor ((lget r7.1 (IntKind.i64.wrap (((r7.1).length : Int) - 1)) default).Sponsor))))) && r11))))
 else
 (some false))
 else none)))))))
def conlaw17_EpochLoads : Con τ := { args := [.ty 34], L := [], ret := .ty 4, L' := [], R := Bool, dflt := default, F := fun N a b => Flaw17_EpochLoads N a.1, of := fun r => (r, ()) }
noncomputable def datlaw17_EpochLoads : Dat τ := { D := D0, tbl := tblOf [(27, conepoch_Load), (28, conref17_Load), (9, conlaw17_live), (23, conepoch_Machine_Current_d70), (24, conepoch_Machine_Bytes_d70), (29, conbytes_Equal), (23, conepoch_Machine_Current_ce0), (24, conepoch_Machine_Bytes_ce0)], lp := lpsOf [], k0 := 0, mu := [], un := [] }
theorem oklaw17_EpochLoads : ConOk E C 7 conlaw17_EpochLoads :=
  con_ok (D := datlaw17_EpochLoads) ⟨d0Ok, eGood, tblOf_ok ⟨okepoch_Load, ⟨okref17_Load, ⟨oklaw17_live, ⟨okepoch_Machine_Current_d70, ⟨okepoch_Machine_Bytes_d70, ⟨okbytes_Equal, ⟨okepoch_Machine_Current_ce0, ⟨okepoch_Machine_Bytes_ce0, trivial⟩⟩⟩⟩⟩⟩⟩⟩, fun _ => rfl⟩ conlaw17_EpochLoads (fun a b => a) none (fun _ _ => rfl) rfl (fun _ _ h => nomatch h) 1000000 (fn := Try.f7) Try.func7 rfl (by kernel_rfl) (by kernel_rfl) rfl (by intro N a b; kernel_rfl)
end Go.Proofs.Ytjjnclgkppbpnaa
