/-
The functions of this seat, as plain functions over typed data, each with its contract. Printed by wip/tools/fngen.py.
-/
import Derived.Test.YtjjnclgkppbpnaaqFba
import Derived.Test.YtjjnclgkppbpnaaqTvW
import Derived.KernelRfl
set_option linter.unusedVariables false
set_option maxRecDepth 100000
namespace Go.Proofs.Ytjjnclgkppbpnaa
open Go Go.Ev
def Fwire_Writer_Out_052 (N : Nat) (b0 : Bool) (b02 : List (Int)) : Option ((List (Int)) × Bool × (List (Int))) :=
 ((Fwire_Writer_none_052 N b0 b02).bind fun r1 =>
 (bif r1.1 then
 (some ([], r1.2.1, r1.2.2))
 else
 ((Fslices_Clone_byte N r1.2.2).bind fun r2 =>
 (some (r2, r1.2.1, r1.2.2)))))
def conwire_Writer_Out_052 : Con τ := { args := [.ptr 0 []], L := [.box (.agg [.ty 4, .own 5 1]), .tail], ret := .ty 34, L' := [.box (.agg [.ty 4, .own 5 1]), .tail], R := (List (Int)) × Bool × (List (Int)), dflt := (default, default, default), F := fun N a b => Fwire_Writer_Out_052 N b.1.1 b.1.2.1, of := fun r => (r.1, ((r.2.1, r.2.2, ()), (), ())) }
noncomputable def datwire_Writer_Out_052 : Dat τ := { D := D0, tbl := tblOf [(65, conwire_Writer_none_052), (66, conslices_Clone_byte)], lp := lpsOf [], k0 := 2, mu := [], un := [] }
theorem okwire_Writer_Out_052 : ConOk E C 44 conwire_Writer_Out_052 :=
  con_ok (D := datwire_Writer_Out_052) ⟨d0Ok, eGood, tblOf_ok ⟨okwire_Writer_none_052, ⟨okslices_Clone_byte, trivial⟩⟩, fun _ => rfl⟩ conwire_Writer_Out_052 (fun a b => (a, b.1.1, b.1.2.1)) none (fun _ _ => rfl) rfl (fun _ _ h => nomatch h) 1000000 (fn := Try.f44) Try.func44 rfl (by kernel_rfl) (by kernel_rfl) rfl (by intro N a b; kernel_rfl)
structure Sepoch_Machine_Bytes_ce0x6 where
  t21 : Int
  b2 : Bool
  b22 : List (Int)
def tsepoch_Machine_Bytes_ce0x6 : List Sl := [.k, .k, .k, .k, .k, .j, .k, .k, .k, .k, .k, .k, .k, .k, .k, .k, .k, .k, .k, .k, .k, .sh (.ty 2), .j, .j, .j, .j, .j, .j, .j, .k, .k]
def hsepoch_Machine_Bytes_ce0x6 : List ESh := [.keep, .keep, .box (.agg [.ty 4, .own 5 5]), .keep, .dead, .tail]
def toepoch_Machine_Bytes_ce0x6 (a : Sl.Ts τ tsepoch_Machine_Bytes_ce0x6) (b : ESh.Ts τ hsepoch_Machine_Bytes_ce0x6) : Sepoch_Machine_Bytes_ce0x6 := ⟨a.2.2.2.2.2.2.2.2.2.2.2.2.2.2.2.2.2.2.2.2.2.1, b.2.2.1.1, b.2.2.1.2.1⟩
def otepoch_Machine_Bytes_ce0x6 (s : Sepoch_Machine_Bytes_ce0x6) : Sl.Ts τ tsepoch_Machine_Bytes_ce0x6 := ((), (), (), (), (), (), (), (), (), (), (), (), (), (), (), (), (), (), (), (), (), s.t21, (), (), (), (), (), (), (), (), (), ())
def ohepoch_Machine_Bytes_ce0x6 (s : Sepoch_Machine_Bytes_ce0x6) : ESh.Ts τ hsepoch_Machine_Bytes_ce0x6 := ((), (), (s.b2, s.b22, ()), (), (), (), ())
def lpepoch_Machine_Bytes_ce0x6 : Lp τ := { ts := tsepoch_Machine_Bytes_ce0x6, hs := hsepoch_Machine_Bytes_ce0x6, S := Sepoch_Machine_Bytes_ce0x6, to := toepoch_Machine_Bytes_ce0x6, ot := otepoch_Machine_Bytes_ce0x6, oh := ohepoch_Machine_Bytes_ce0x6, hk := [2, 5, 2, 1, 5], tk := [2, 0, 0, 4, 0, 0, 2, 0, 4, 4, 2, 2, 2, 0, 0, 0, 2, 2, 2], ot_to := fun _ _ => rfl, oh_to := fun _ _ => rfl }
def Fepoch_Machine_Bytes_ce0 (N : Nat) (b0 : List (GEpoch)) : Option ((List (Int)) × (List (GEpoch))) :=
 ((Fepoch_Machine_none_ce0 N b0).bind fun r1 =>
 (bif r1.1 then
 (some ([], r1.2))
 else
 ((Fwire_NewWriter N).bind fun r2 =>
 ((Fwire_Writer_Int_816 N ((r1.2).length : Int) r2.1 r2.2).bind fun r3 =>
 (iter N (fun (s4 : Sepoch_Machine_Bytes_ce0x6) next5 =>
 (bif (decide (s4.t21 < ((r1.2).length : Int))) then
 (bif (ibB s4.t21 ((r1.2).length : Int)) then
 ((Frecord_PutEpoch_26c N (lget r1.2 s4.t21 default) s4.b2 s4.b22).bind fun r6 =>
 (next5 ⟨(IntKind.i64.wrap (s4.t21 + 1)), r6.2.1, r6.2.2⟩))
 else none)
 else
 ((Fwire_Writer_Out_052 N s4.b2 s4.b22).bind fun r7 =>
 (some (r7.1, r1.2))))) ⟨0, r3.2.1, r3.2.2⟩)))))
def conepoch_Machine_Bytes_ce0 : Con τ := { args := [.ptr 0 []], L := [.box (.agg [.own 26 1]), .tail], ret := .ty 34, L' := [.box (.agg [.own 26 1]), .tail], R := (List (Int)) × (List (GEpoch)), dflt := (default, default), F := fun N a b => Fepoch_Machine_Bytes_ce0 N b.1.1, of := fun r => (r.1, ((r.2, ()), (), ())) }
noncomputable def datepoch_Machine_Bytes_ce0 : Dat τ := { D := D0, tbl := tblOf [(40, conepoch_Machine_none_ce0), (41, conwire_NewWriter), (42, conwire_Writer_Int_816), (43, conrecord_PutEpoch_26c), (44, conwire_Writer_Out_052)], lp := lpsOf [(6, lpepoch_Machine_Bytes_ce0x6)], k0 := 2, mu := [], un := [] }
theorem okepoch_Machine_Bytes_ce0 : ConOk E C 24 conepoch_Machine_Bytes_ce0 :=
  con_ok (D := datepoch_Machine_Bytes_ce0) ⟨d0Ok, eGood, tblOf_ok ⟨okepoch_Machine_none_ce0, ⟨okwire_NewWriter, ⟨okwire_Writer_Int_816, ⟨okrecord_PutEpoch_26c, ⟨okwire_Writer_Out_052, trivial⟩⟩⟩⟩⟩, fun _ => rfl⟩ conepoch_Machine_Bytes_ce0 (fun a b => (a, b.1.1)) none (fun _ _ => rfl) rfl (fun _ _ h => nomatch h) 1000000 (fn := Try.f24) Try.func24 rfl (by kernel_rfl) (by kernel_rfl) rfl (by intro N a b; kernel_rfl)
def Fslices_Clone_Epoch_ca0 (N : Nat) (s : List (GEpoch)) : Option (Nat × (List (GEpoch))) :=
 (bif (lenB ((s).length) 200) then
 (some ((s).length, s))
 else none)
def conslices_Clone_Epoch_ca0 : Con τ := { args := [.nn 26], L := [], ret := .msl 26 0, L' := [.gbx 26], R := Nat × (List (GEpoch)), dflt := (default, default), F := fun N a b => Fslices_Clone_Epoch_ca0 N a.1, of := fun r => (r.1, (r.2, ())) }
noncomputable def datslices_Clone_Epoch_ca0 : Dat τ := { D := D0, tbl := tblOf [], lp := lpsOf [], k0 := 0, mu := [7], un := [] }
theorem okslices_Clone_Epoch_ca0 : ConOk E C 45 conslices_Clone_Epoch_ca0 :=
  con_ok (D := datslices_Clone_Epoch_ca0) ⟨d0Ok, eGood, tblOf_ok trivial, fun _ => rfl⟩ conslices_Clone_Epoch_ca0 (fun a b => (a, b.1)) none (fun _ _ => rfl) rfl (fun _ _ h => nomatch h) 1000000 (fn := Try.f45) Try.func45 rfl (by kernel_rfl) (by kernel_rfl) rfl (by intro N a b; kernel_rfl)
def Fslices_Clone_Epoch_476 (N : Nat)  : Option (Nat × (List (GEpoch))) :=
 (some (0, []))
def conslices_Clone_Epoch_476 : Con τ := { args := [.nil .slice], L := [], ret := .msl 26 0, L' := [.gbx 26], R := Nat × (List (GEpoch)), dflt := (default, default), F := fun N a b => Fslices_Clone_Epoch_476 N , of := fun r => (r.1, (r.2, ())) }
noncomputable def datslices_Clone_Epoch_476 : Dat τ := { D := D0, tbl := tblOf [], lp := lpsOf [], k0 := 0, mu := [7], un := [] }
theorem okslices_Clone_Epoch_476 : ConOk E C 45 conslices_Clone_Epoch_476 :=
  con_ok (D := datslices_Clone_Epoch_476) ⟨d0Ok, eGood, tblOf_ok trivial, fun _ => rfl⟩ conslices_Clone_Epoch_476 (fun a b => (a, b.1)) none (fun _ _ => rfl) rfl (fun _ _ h => nomatch h) 1000000 (fn := Try.f45) Try.func45 rfl (by kernel_rfl) (by kernel_rfl) rfl (by intro N a b; kernel_rfl)
def Fslices_Clone_Epoch_156 (N : Nat) (s : List (GEpoch)) : Option (Nat × (List (GEpoch))) := Fslices_Clone_Epoch_ca0 N s
def conslices_Clone_Epoch_156 : Con τ := { args := [.ty 50], L := [], ret := .msl 26 0, L' := [.gbx 26], R := Nat × (List (GEpoch)), dflt := (default, default), F := fun N a b => Fslices_Clone_Epoch_156 N a.1, of := fun r => (r.1, (r.2, ())) }
theorem okslices_Clone_Epoch_156 : ConOk E C 45 conslices_Clone_Epoch_156 := by
  intro N a b r h
  obtain ⟨x0, u⟩ := a
  refine FnSpec.split (pre := []) (post := []) (fun h0 => ?_) (okslices_Clone_Epoch_ca0 N (x0, u) b r h)
  have h0 : x0 = [] := List.map_eq_nil_iff.1 h0
  subst h0
  exact okslices_Clone_Epoch_476 N ((), u) b r ((show conslices_Clone_Epoch_476.F N ((), u) b = conslices_Clone_Epoch_156.F N ([], u) b from by kernel_rfl).trans h)
def Fepoch_Machine_Clone_ce0 (N : Nat) (b0 : List (GEpoch)) : Option (Bool × (List (GEpoch)) × Nat × (List (GEpoch)) × (List (GEpoch))) :=
 ((Fepoch_Machine_none_ce0 N b0).bind fun r1 =>
 (bif r1.1 then
 (some (true, default, default, default, r1.2))
 else
 ((Fslices_Clone_Epoch_156 N r1.2).bind fun r2 =>
 (some (false, r1.2, r2.1, r2.2, default)))))
def altepoch_Machine_Clone_ce0 : Alt τ (Bool × (List (GEpoch)) × Nat × (List (GEpoch)) × (List (GEpoch))) := { ret := .nil .ptr, L' := [.box (.agg [.own 26 1]), .tail], of := fun r => ((), ((r.2.2.2.2, ()), (), ())) }
def conepoch_Machine_Clone_ce0 : Con τ := { args := [.ptr 0 []], L := [.box (.agg [.own 26 1]), .tail], ret := .ptr 2 [], L' := [.box (.agg [.own 26 1]), .tail, .box (.agg [.msl 26 3]), .gbx 26], R := Bool × (List (GEpoch)) × Nat × (List (GEpoch)) × (List (GEpoch)), dflt := (default, default, default, default, default), F := fun N a b => Fepoch_Machine_Clone_ce0 N b.1.1, of := fun r => ((), ((r.2.1, ()), (), (r.2.2.1, ()), r.2.2.2.1, ())), alt := some altepoch_Machine_Clone_ce0, sel := fun r => r.1 }
noncomputable def datepoch_Machine_Clone_ce0 : Dat τ := { D := D0, tbl := tblOf [(40, conepoch_Machine_none_ce0), (45, conslices_Clone_Epoch_156)], lp := lpsOf [], k0 := 2, mu := [], un := [] }
theorem okepoch_Machine_Clone_ce0 : ConOk E C 25 conepoch_Machine_Clone_ce0 :=
  con_ok (D := datepoch_Machine_Clone_ce0) ⟨d0Ok, eGood, tblOf_ok ⟨okepoch_Machine_none_ce0, ⟨okslices_Clone_Epoch_156, trivial⟩⟩, fun _ => rfl⟩ conepoch_Machine_Clone_ce0 (fun a b => (false, b.1.1, b.2.2.1.1, b.2.2.2.1, default)) (some ⟨altepoch_Machine_Clone_ce0, fun a b => (true, default, default, default, b.1.1)⟩) (fun _ _ => rfl) rfl (fun A t h => by cases h; exact ⟨fun _ _ => rfl, fun _ _ => rfl, fun _ _ => rfl⟩) 1000000 (fn := Try.f25) Try.func25 rfl (by kernel_rfl) (by kernel_rfl) rfl (by intro N a b; kernel_rfl)
def Fepoch_Machine_All_ce0 (N : Nat) (b0 : List (GEpoch)) : Option ((List (GEpoch)) × Nat × (List (GEpoch))) :=
 ((Fepoch_Machine_none_ce0 N b0).bind fun r1 =>
 (bif (!r1.1) then
 ((Fslices_Clone_Epoch_156 N r1.2).bind fun r2 =>
 (some (r1.2, r2.1, r2.2)))
 else
 (some (r1.2, 0, []))))
def conepoch_Machine_All_ce0 : Con τ := { args := [.ptr 0 []], L := [.box (.agg [.own 26 1]), .tail], ret := .fn 46 [.ptr 2 []], L' := [.box (.agg [.own 26 1]), .tail, .box (.msl 26 3), .gbx 26], R := (List (GEpoch)) × Nat × (List (GEpoch)), dflt := (default, default, default), F := fun N a b => Fepoch_Machine_All_ce0 N b.1.1, of := fun r => (((), ()), ((r.1, ()), (), r.2.1, r.2.2, ())) }
noncomputable def datepoch_Machine_All_ce0 : Dat τ := { D := D0, tbl := tblOf [(40, conepoch_Machine_none_ce0), (45, conslices_Clone_Epoch_156)], lp := lpsOf [], k0 := 2, mu := [], un := [] }
theorem okepoch_Machine_All_ce0 : ConOk E C 26 conepoch_Machine_All_ce0 :=
  con_ok (D := datepoch_Machine_All_ce0) ⟨d0Ok, eGood, tblOf_ok ⟨okepoch_Machine_none_ce0, ⟨okslices_Clone_Epoch_156, trivial⟩⟩, fun _ => rfl⟩ conepoch_Machine_All_ce0 (fun a b => (b.1.1, b.2.2.1, b.2.2.2.1)) none (fun _ _ => rfl) rfl (fun _ _ h => nomatch h) 1000000 (fn := Try.f26) Try.func26 rfl (by kernel_rfl) (by kernel_rfl) rfl (by intro N a b; kernel_rfl)
def Flaw17_EpochNone_2f0 (N : Nat) (x : GEpoch) (x2 : GEntry) (x3 : Gepoch_Machine) (x4 : GEpoch) (x5 : GEntry) (x6 : GEpoch) (b1 : Bool) : Option (Bool × GEntry × Gepoch_Machine × GEpoch × GEntry × GEpoch × Bool × Nat × Bool) :=
 (some (true, default, default, default, default, default, default, 0, false))
def eLlaw17_EpochNone_2f0 : List ESh := [.rcd 6 10 [.ty 37, .junk, .junk, .junk, .ptr 1 [], .junk, .junk, .junk, .junk, .junk, .junk, .ty 51, .junk, .junk, .junk, .junk, .junk, .junk, .junk, .junk, .junk, .junk, .junk, .ty 25, .junk, .junk, .ty 37, .junk, .junk, .junk, .junk, .ty 25, .junk, .junk, .junk, .junk, .junk, .junk, .junk, .junk, .junk, .junk, .junk, .junk, .junk, .junk, .junk, .junk, .junk, .junk, .junk, .junk, .junk, .junk, .junk, .junk, .junk, .junk], .box (.ty 4)]
def altlaw17_EpochNone_2f0 : Alt τ (Bool × GEntry × Gepoch_Machine × GEpoch × GEntry × GEpoch × Bool × Nat × Bool) := { ret := .bo false, L' := [.rdn, .box (.ty 4)], of := fun r => ((), (r.2.2.2.2.2.2.2.1, r.2.2.2.2.2.2.2.2, ())) }
def conlaw17_EpochNone_2f0 : Con τ := { args := [.yld 0, .ty 25], L := eLlaw17_EpochNone_2f0, ret := .bo true, L' := eLlaw17_EpochNone_2f0, R := Bool × GEntry × Gepoch_Machine × GEpoch × GEntry × GEpoch × Bool × Nat × Bool, dflt := (default, default, default, default, default, default, default, default, default), F := fun N a b => Flaw17_EpochNone_2f0 N a.2.1 b.1.1 b.1.2.2.2.2.2.2.2.2.2.2.2.1 b.1.2.2.2.2.2.2.2.2.2.2.2.2.2.2.2.2.2.2.2.2.2.2.2.1 b.1.2.2.2.2.2.2.2.2.2.2.2.2.2.2.2.2.2.2.2.2.2.2.2.2.2.2.1 b.1.2.2.2.2.2.2.2.2.2.2.2.2.2.2.2.2.2.2.2.2.2.2.2.2.2.2.2.2.2.2.2.1 b.2.1, of := fun r => ((), ((r.2.1, (), (), (), (), (), (), (), (), (), (), r.2.2.1, (), (), (), (), (), (), (), (), (), (), (), r.2.2.2.1, (), (), r.2.2.2.2.1, (), (), (), (), r.2.2.2.2.2.1, (), (), (), (), (), (), (), (), (), (), (), (), (), (), (), (), (), (), (), (), (), (), (), (), (), (), ()), r.2.2.2.2.2.2.1, ())), alt := some altlaw17_EpochNone_2f0, sel := fun r => r.1 }
noncomputable def datlaw17_EpochNone_2f0 : Dat τ := { D := D0, tbl := tblOf [], lp := lpsOf [], k0 := 2, mu := [], un := [], fid := 6 }
theorem oklaw17_EpochNone_2f0 : ConOk E C yieldF conlaw17_EpochNone_2f0 :=
  con_round (D := datlaw17_EpochNone_2f0) ⟨d0Ok, eGood, tblOf_ok trivial, fun _ => rfl⟩ (f := 6) (k := 10) (ps := [56]) (by kernel_rfl) rfl (fun a b => (false, b.1.1, b.1.2.2.2.2.2.2.2.2.2.2.2.1, b.1.2.2.2.2.2.2.2.2.2.2.2.2.2.2.2.2.2.2.2.2.2.2.2.1, b.1.2.2.2.2.2.2.2.2.2.2.2.2.2.2.2.2.2.2.2.2.2.2.2.2.2.2.1, b.1.2.2.2.2.2.2.2.2.2.2.2.2.2.2.2.2.2.2.2.2.2.2.2.2.2.2.2.2.2.2.2.1, b.2.1, default, default)) (some ⟨altlaw17_EpochNone_2f0, fun a b => (true, default, default, default, default, default, default, b.1, b.2.1)⟩) (fun _ _ => rfl) rfl (fun A t h => by cases h; exact ⟨fun _ _ => rfl, fun _ _ => rfl, fun _ _ => rfl⟩) 1000000 (by kernel_rfl) (by kernel_rfl) (by kernel_rfl) (by kernel_rfl) rfl (by intro l N a b; kernel_rfl)
structure Sepoch_Machine_All_1_e02x1 where
  t7 : Int
  z0 : GEntry
  z02 : Gepoch_Machine
  z03 : GEpoch
  z04 : GEntry
  z05 : GEpoch
  b2 : Bool
def tsepoch_Machine_All_1_e02x1 : List Sl := [.k, .k, .k, .k, .j, .k, .k, .sh (.ty 2), .j, .j, .j, .j, .j, .j, .j, .j]
def hsepoch_Machine_All_1_e02x1 : List ESh := [.rcd 6 10 [.ty 37, .junk, .junk, .junk, .ptr 2 [], .junk, .junk, .junk, .junk, .junk, .junk, .ty 51, .junk, .junk, .junk, .junk, .junk, .junk, .junk, .junk, .junk, .junk, .junk, .ty 25, .junk, .junk, .ty 37, .junk, .junk, .junk, .junk, .ty 25, .junk, .junk, .junk, .junk, .junk, .junk, .junk, .junk, .junk, .junk, .junk, .junk, .junk, .junk, .junk, .junk, .junk, .junk, .junk, .junk, .junk, .junk, .junk, .junk, .junk, .junk], .keep, .box (.ty 4), .keep]
def toepoch_Machine_All_1_e02x1 (a : Sl.Ts τ tsepoch_Machine_All_1_e02x1) (b : ESh.Ts τ hsepoch_Machine_All_1_e02x1) : Sepoch_Machine_All_1_e02x1 := ⟨a.2.2.2.2.2.2.2.1, b.1.1, b.1.2.2.2.2.2.2.2.2.2.2.2.1, b.1.2.2.2.2.2.2.2.2.2.2.2.2.2.2.2.2.2.2.2.2.2.2.2.1, b.1.2.2.2.2.2.2.2.2.2.2.2.2.2.2.2.2.2.2.2.2.2.2.2.2.2.2.1, b.1.2.2.2.2.2.2.2.2.2.2.2.2.2.2.2.2.2.2.2.2.2.2.2.2.2.2.2.2.2.2.2.1, b.2.2.1⟩
def otepoch_Machine_All_1_e02x1 (s : Sepoch_Machine_All_1_e02x1) : Sl.Ts τ tsepoch_Machine_All_1_e02x1 := ((), (), (), (), (), (), (), s.t7, (), (), (), (), (), (), (), (), ())
def ohepoch_Machine_All_1_e02x1 (s : Sepoch_Machine_All_1_e02x1) : ESh.Ts τ hsepoch_Machine_All_1_e02x1 := ((s.z0, (), (), (), (), (), (), (), (), (), (), s.z02, (), (), (), (), (), (), (), (), (), (), (), s.z03, (), (), s.z04, (), (), (), (), s.z05, (), (), (), (), (), (), (), (), (), (), (), (), (), (), (), (), (), (), (), (), (), (), (), (), (), (), ()), (), s.b2, (), ())
def lpepoch_Machine_All_1_e02x1 : Lp τ := { ts := tsepoch_Machine_All_1_e02x1, hs := hsepoch_Machine_All_1_e02x1, S := Sepoch_Machine_All_1_e02x1, to := toepoch_Machine_All_1_e02x1, ot := otepoch_Machine_All_1_e02x1, oh := ohepoch_Machine_All_1_e02x1, hk := [6, 2, 2, 4], tk := [0, 3], ot_to := fun _ _ => rfl, oh_to := fun _ _ => rfl }
def Fepoch_Machine_All_1_e02 (N : Nat) (z0 : GEntry) (z02 : Gepoch_Machine) (z03 : GEpoch) (z04 : GEntry) (z05 : GEpoch) (b1 : Nat) (b2 : Bool) (g3 : List (GEpoch)) : Option (Bool × GEntry × Gepoch_Machine × GEpoch × GEntry × GEpoch × Nat × Bool × (List (GEpoch)) × Nat × Nat × Bool × (List (GEpoch))) :=
 (iter N (fun (s1 : Sepoch_Machine_All_1_e02x1) next2 =>
 (bif (decide (s1.t7 < ((b1 : Nat) : Int))) then
 (bif (ibB s1.t7 ((b1 : Nat) : Int)) then
 (bif (decide ((s1.t7).toNat < (g3).length)) then
 ((Flaw17_EpochNone_2f0 N (g3.getD ((s1.t7).toNat) default) s1.z0 s1.z02 s1.z03 s1.z04 s1.z05 s1.b2).bind fun r3 =>
 (bif r3.1 then
 (some (true, default, default, default, default, default, default, default, default, r3.2.2.2.2.2.2.2.1, b1, r3.2.2.2.2.2.2.2.2, g3))
 else
 (next2 ⟨(IntKind.i64.wrap (s1.t7 + 1)), r3.2.1, r3.2.2.1, r3.2.2.2.1, r3.2.2.2.2.1, r3.2.2.2.2.2.1, r3.2.2.2.2.2.2.1⟩)))
 else none)
 else none)
 else
 (some (false, s1.z0, s1.z02, s1.z03, s1.z04, s1.z05, b1, s1.b2, g3, default, default, default, default)))) ⟨0, z0, z02, z03, z04, z05, b2⟩)
def eLepoch_Machine_All_1_e02 : List ESh := [.rcd 6 10 [.ty 37, .junk, .junk, .junk, .ptr 2 [], .junk, .junk, .junk, .junk, .junk, .junk, .ty 51, .junk, .junk, .junk, .junk, .junk, .junk, .junk, .junk, .junk, .junk, .junk, .ty 25, .junk, .junk, .ty 37, .junk, .junk, .junk, .junk, .ty 25, .junk, .junk, .junk, .junk, .junk, .junk, .junk, .junk, .junk, .junk, .junk, .junk, .junk, .junk, .junk, .junk, .junk, .junk, .junk, .junk, .junk, .junk, .junk, .junk, .junk, .junk], .box (.msl 26 3), .box (.ty 4), .gbx 26]
def altepoch_Machine_All_1_e02 : Alt τ (Bool × GEntry × Gepoch_Machine × GEpoch × GEntry × GEpoch × Nat × Bool × (List (GEpoch)) × Nat × Nat × Bool × (List (GEpoch))) := { ret := .tup [], L' := [.rdn, .box (.msl 26 3), .box (.ty 4), .gbx 26], of := fun r => ((), (r.2.2.2.2.2.2.2.2.2.1, r.2.2.2.2.2.2.2.2.2.2.1, r.2.2.2.2.2.2.2.2.2.2.2.1, r.2.2.2.2.2.2.2.2.2.2.2.2, ())) }
def conepoch_Machine_All_1_e02 : Con τ := { args := [.yld 0, .ptr 1 []], L := eLepoch_Machine_All_1_e02, ret := .tup [], L' := eLepoch_Machine_All_1_e02, R := Bool × GEntry × Gepoch_Machine × GEpoch × GEntry × GEpoch × Nat × Bool × (List (GEpoch)) × Nat × Nat × Bool × (List (GEpoch)), dflt := (default, default, default, default, default, default, default, default, default, default, default, default, default), F := fun N a b => Fepoch_Machine_All_1_e02 N b.1.1 b.1.2.2.2.2.2.2.2.2.2.2.2.1 b.1.2.2.2.2.2.2.2.2.2.2.2.2.2.2.2.2.2.2.2.2.2.2.2.1 b.1.2.2.2.2.2.2.2.2.2.2.2.2.2.2.2.2.2.2.2.2.2.2.2.2.2.2.1 b.1.2.2.2.2.2.2.2.2.2.2.2.2.2.2.2.2.2.2.2.2.2.2.2.2.2.2.2.2.2.2.2.1 b.2.1 b.2.2.1 b.2.2.2.1, of := fun r => ((), ((r.2.1, (), (), (), (), (), (), (), (), (), (), r.2.2.1, (), (), (), (), (), (), (), (), (), (), (), r.2.2.2.1, (), (), r.2.2.2.2.1, (), (), (), (), r.2.2.2.2.2.1, (), (), (), (), (), (), (), (), (), (), (), (), (), (), (), (), (), (), (), (), (), (), (), (), (), (), ()), r.2.2.2.2.2.2.1, r.2.2.2.2.2.2.2.1, r.2.2.2.2.2.2.2.2.1, ())), alt := some altepoch_Machine_All_1_e02, sel := fun r => r.1 }
noncomputable def datepoch_Machine_All_1_e02 : Dat τ := { D := D0, tbl := tblOf [(1000000, conlaw17_EpochNone_2f0)], lp := lpsOf [(1, lpepoch_Machine_All_1_e02x1)], k0 := 4, mu := [], un := [] }
theorem okepoch_Machine_All_1_e02 : ConOk E C 46 conepoch_Machine_All_1_e02 :=
  con_ok (D := datepoch_Machine_All_1_e02) ⟨d0Ok, eGood, tblOf_ok ⟨oklaw17_EpochNone_2f0, trivial⟩, fun _ => rfl⟩ conepoch_Machine_All_1_e02 (fun a b => (false, b.1.1, b.1.2.2.2.2.2.2.2.2.2.2.2.1, b.1.2.2.2.2.2.2.2.2.2.2.2.2.2.2.2.2.2.2.2.2.2.2.2.1, b.1.2.2.2.2.2.2.2.2.2.2.2.2.2.2.2.2.2.2.2.2.2.2.2.2.2.2.1, b.1.2.2.2.2.2.2.2.2.2.2.2.2.2.2.2.2.2.2.2.2.2.2.2.2.2.2.2.2.2.2.2.1, b.2.1, b.2.2.1, b.2.2.2.1, default, default, default, default)) (some ⟨altepoch_Machine_All_1_e02, fun a b => (true, default, default, default, default, default, default, default, default, b.1, b.2.1, b.2.2.1, b.2.2.2.1)⟩) (fun _ _ => rfl) rfl (fun A t h => by cases h; exact ⟨fun _ _ => rfl, fun _ _ => rfl, fun _ _ => rfl⟩) 1000000 (fn := Try.f46) Try.func46 rfl (by kernel_rfl) (by kernel_rfl) rfl (by intro N a b; kernel_rfl)
def Flaw17_EpochNone (N : Nat) (x : GEntry) (number : Int) : Option (Bool) :=
 ((Flaw17_live N).bind fun r1 =>
 (bif (!r1) then
 (some false)
 else
 ((Fepoch_Machine_At_173 N number).bind fun r2 =>
 ((Fepoch_Machine_Current_d70 N).bind fun r3 =>
 ((bif (!(((!((r3.Number == 0) && ((vbeq beq3 r3.States (Vector.replicate 8 (default : Int))) && ((vbeq beq2 r3.Seals (Vector.replicate 8 (default : Int))) && (vbeq beq3 r3.Sponsor (Vector.replicate 8 (default : Int))))))) || r2.2) || (!((r2.1.Number == 0) && ((vbeq beq3 r2.1.States (Vector.replicate 8 (default : Int))) && ((vbeq beq2 r2.1.Seals (Vector.replicate 8 (default : Int))) && (vbeq beq3 r2.1.Sponsor (Vector.replicate 8 (default : Int))))))))) then Fepoch_Machine_Bytes_d70 N else some default).bind fun r4 =>
 ((bif (!((((!((r3.Number == 0) && ((vbeq beq3 r3.States (Vector.replicate 8 (default : Int))) && ((vbeq beq2 r3.Seals (Vector.replicate 8 (default : Int))) && (vbeq beq3 r3.Sponsor (Vector.replicate 8 (default : Int))))))) || r2.2) || (!((r2.1.Number == 0) && ((vbeq beq3 r2.1.States (Vector.replicate 8 (default : Int))) && ((vbeq beq2 r2.1.Seals (Vector.replicate 8 (default : Int))) && (vbeq beq3 r2.1.Sponsor (Vector.replicate 8 (default : Int)))))))) || (!(((r4).length : Int) == 0)))) then Fepoch_Machine_Clone_d70 N else some ()).bind fun r5 =>
 (bif (((((!((r3.Number == 0) && ((vbeq beq3 r3.States (Vector.replicate 8 (default : Int))) && ((vbeq beq2 r3.Seals (Vector.replicate 8 (default : Int))) && (vbeq beq3 r3.Sponsor (Vector.replicate 8 (default : Int))))))) || r2.2) || (!((r2.1.Number == 0) && ((vbeq beq3 r2.1.States (Vector.replicate 8 (default : Int))) && ((vbeq beq2 r2.1.Seals (Vector.replicate 8 (default : Int))) && (vbeq beq3 r2.1.Sponsor (Vector.replicate 8 (default : Int)))))))) || (!(((r4).length : Int) == 0))) && true) then
 (some false)
 else
 ((Fepoch_Machine_All_d70 N).bind fun r6 =>
 ((Fepoch_Machine_All_1_822 N x (⟨[]⟩ : Gepoch_Machine) r2.1 x r6 false).bind fun r7 =>
 (bif r7.1 then
 (bif (Nat.beq r7.2.2.2.2.2.2.2.1 0) then
 (some r7.2.2.2.2.2.2.2.2.2)
 else
 none)
 else
 ((Fepoch_Machine_At_dab N number).bind fun r8 =>
 ((Fepoch_Machine_Apply_03d N x).bind fun r9 =>
 (bif (!(!(r9.1 == 2))) then
 ((Fepoch_Machine_Current_ce0 N r9.2).bind fun r10 =>
 (bif (!((((!(r9.1 == 2)) || (!((r10.1.Number == 0) && ((vbeq beq3 r10.1.States (Vector.replicate 8 (default : Int))) && ((vbeq beq2 r10.1.Seals (Vector.replicate 8 (default : Int))) && (vbeq beq3 r10.1.Sponsor (Vector.replicate 8 (default : Int)))))))) || r8.2) || (!((r8.1.Number == 0) && ((vbeq beq3 r8.1.States (Vector.replicate 8 (default : Int))) && ((vbeq beq2 r8.1.Seals (Vector.replicate 8 (default : Int))) && (vbeq beq3 r8.1.Sponsor (Vector.replicate 8 (default : Int))))))))) then
 ((Fepoch_Machine_Bytes_ce0 N r10.2).bind fun r11 =>
 (bif (!(((((!(r9.1 == 2)) || (!((r10.1.Number == 0) && ((vbeq beq3 r10.1.States (Vector.replicate 8 (default : Int))) && ((vbeq beq2 r10.1.Seals (Vector.replicate 8 (default : Int))) && (vbeq beq3 r10.1.Sponsor (Vector.replicate 8 (default : Int)))))))) || r8.2) || (!((r8.1.Number == 0) && ((vbeq beq3 r8.1.States (Vector.replicate 8 (default : Int))) && ((vbeq beq2 r8.1.Seals (Vector.replicate 8 (default : Int))) && (vbeq beq3 r8.1.Sponsor (Vector.replicate 8 (default : Int)))))))) || (!(((r11.1).length : Int) == 0)))) then
 ((Fepoch_Machine_Clone_ce0 N r11.2).bind fun r12 =>
 (bif r12.1 then
 (bif ((((((!(r9.1 == 2)) || (!((r10.1.Number == 0) && ((vbeq beq3 r10.1.States (Vector.replicate 8 (default : Int))) && ((vbeq beq2 r10.1.Seals (Vector.replicate 8 (default : Int))) && (vbeq beq3 r10.1.Sponsor (Vector.replicate 8 (default : Int)))))))) || r8.2) || (!((r8.1.Number == 0) && ((vbeq beq3 r8.1.States (Vector.replicate 8 (default : Int))) && ((vbeq beq2 r8.1.Seals (Vector.replicate 8 (default : Int))) && (vbeq beq3 r8.1.Sponsor (Vector.replicate 8 (default : Int)))))))) || (!(((r11.1).length : Int) == 0))) && true) then
 (some false)
 else
 ((Fepoch_Machine_All_ce0 N r12.2.2.2.2).bind fun r13 =>
 ((Fepoch_Machine_All_1_e02 N x (⟨[]⟩ : Gepoch_Machine) r8.1 x r10.1 r13.2.1 r7.2.2.2.2.2.2.1 r13.2.2).bind fun r14 =>
 (bif r14.1 then
 (bif (Nat.beq r14.2.2.2.2.2.2.2.2.2.1 0) then
 (some r14.2.2.2.2.2.2.2.2.2.2.2.1)
 else
 none)
 else
 (some true)))))
 else
 (bif ((((((!(r9.1 == 2)) || (!((r10.1.Number == 0) && ((vbeq beq3 r10.1.States (Vector.replicate 8 (default : Int))) && ((vbeq beq2 r10.1.Seals (Vector.replicate 8 (default : Int))) && (vbeq beq3 r10.1.Sponsor (Vector.replicate 8 (default : Int)))))))) || r8.2) || (!((r8.1.Number == 0) && ((vbeq beq3 r8.1.States (Vector.replicate 8 (default : Int))) && ((vbeq beq2 r8.1.Seals (Vector.replicate 8 (default : Int))) && (vbeq beq3 r8.1.Sponsor (Vector.replicate 8 (default : Int)))))))) || (!(((r11.1).length : Int) == 0))) || true) then
 (some false)
 else
 ((Fepoch_Machine_All_ce0 N r12.2.1).bind fun r15 =>
 ((Fepoch_Machine_All_1_e02 N x (⟨[]⟩ : Gepoch_Machine) r8.1 x r10.1 r15.2.1 r7.2.2.2.2.2.2.1 r15.2.2).bind fun r16 =>
 (bif r16.1 then
 (bif (Nat.beq r16.2.2.2.2.2.2.2.2.2.1 0) then
 (some r16.2.2.2.2.2.2.2.2.2.2.2.1)
 else
 none)
 else
 (some true)))))))
 else
 (some false)))
 else
 (some false)))
 else
 (some false))))))))))))))
def conlaw17_EpochNone : Con τ := { args := [.ty 38, .ty 2], L := [], ret := .ty 4, L' := [], R := Bool, dflt := default, F := fun N a b => Flaw17_EpochNone N a.1 a.2.1, of := fun r => (r, ()) }
noncomputable def datlaw17_EpochNone : Dat τ := { D := D0, tbl := tblOf [(9, conlaw17_live), (21, conepoch_Machine_At_173), (22, conepoch_Machine_Apply_066), (23, conepoch_Machine_Current_d70), (24, conepoch_Machine_Bytes_d70), (25, conepoch_Machine_Clone_d70), (26, conepoch_Machine_All_d70), (46, conepoch_Machine_All_1_822), (21, conepoch_Machine_At_dab), (22, conepoch_Machine_Apply_03d), (23, conepoch_Machine_Current_ce0), (24, conepoch_Machine_Bytes_ce0), (25, conepoch_Machine_Clone_ce0), (26, conepoch_Machine_All_ce0), (46, conepoch_Machine_All_1_e02)], lp := lpsOf [], k0 := 0, mu := [], un := [(4, 4)], fid := 6, ex := [0] }
theorem oklaw17_EpochNone : ConOk E C 6 conlaw17_EpochNone :=
  con_ok (D := datlaw17_EpochNone) ⟨d0Ok, eGood, tblOf_ok ⟨oklaw17_live, ⟨okepoch_Machine_At_173, ⟨okepoch_Machine_Apply_066, ⟨okepoch_Machine_Current_d70, ⟨okepoch_Machine_Bytes_d70, ⟨okepoch_Machine_Clone_d70, ⟨okepoch_Machine_All_d70, ⟨okepoch_Machine_All_1_822, ⟨okepoch_Machine_At_dab, ⟨okepoch_Machine_Apply_03d, ⟨okepoch_Machine_Current_ce0, ⟨okepoch_Machine_Bytes_ce0, ⟨okepoch_Machine_Clone_ce0, ⟨okepoch_Machine_All_ce0, ⟨okepoch_Machine_All_1_e02, trivial⟩⟩⟩⟩⟩⟩⟩⟩⟩⟩⟩⟩⟩⟩⟩, fun _ => rfl⟩ conlaw17_EpochNone (fun a b => a) none (fun _ _ => rfl) rfl (fun _ _ h => nomatch h) 1000000 (fn := Try.f6) Try.func6 rfl (by kernel_rfl) (by kernel_rfl) rfl (by intro N a b; kernel_rfl) (hsub := ⟨subOk_no (by kernel_rfl), ⟨subOk_no (by kernel_rfl), ⟨⟨subOk_no (by kernel_rfl), ⟨subOk_no (by kernel_rfl), ⟨subOk_no (by kernel_rfl), ⟨⟨subOk_no (by kernel_rfl), ⟨subOk_no (by kernel_rfl), ⟨subOk_no (by kernel_rfl), ⟨subOk_no (by kernel_rfl), (by show SiteP _ _ _ _; unfold SiteP; kernel_rfl)⟩⟩⟩⟩, subOk_no (by kernel_rfl)⟩⟩⟩⟩, subOk_no (by kernel_rfl)⟩⟩⟩)
end Go.Proofs.Ytjjnclgkppbpnaa
