/-
The functions of this seat, as plain functions over typed data, each with its contract. Printed by wip/tools/fngen.py.
-/
import Derived.Test.YticlnhhaaidmaaaqCod
import Derived.Test.YticlnhhaaidmaaaqTvX
import Derived.KernelRfl
set_option linter.unusedVariables false
set_option maxRecDepth 100000
namespace Go.Proofs.Yticlnhhaaidmaaa
open Go Go.Ev
def Fwire_NewWriter (N : Nat)  : Option (Bool × (List (Int))) :=
 (some (true, []))
def conwire_NewWriter : Con τ := { args := [], L := [], ret := .ptr 0 [], L' := [.box (.agg [.ty 4, .own 5 1]), .tail], R := Bool × (List (Int)), dflt := (default, default), F := fun N a b => Fwire_NewWriter N , of := fun r => ((), ((r.1, r.2, ()), (), ())) }
noncomputable def datwire_NewWriter : Dat τ := { D := D0, tbl := tblOf [], lp := lpsOf [], k0 := 0, mu := [], un := [] }
theorem okwire_NewWriter : ConOk E C 16 conwire_NewWriter :=
  con_ok (D := datwire_NewWriter) ⟨d0Ok, eGood, tblOf_ok trivial, fun _ => rfl⟩ conwire_NewWriter (fun a b => (b.1.1, b.1.2.1)) none (fun _ _ => rfl) rfl (fun _ _ h => nomatch h) 1000000 (fn := Try.f16) Try.func16 rfl (by kernel_rfl) (by kernel_rfl) rfl (by intro N a b; kernel_rfl)
def Fslices_Clone_byte_c35 (N : Nat) (s : List (Int)) : Option ((List (Int))) :=
 (bif (lenB (0 + (s).length) 1) then
 (some ([] ++ s))
 else none)
def conslices_Clone_byte_c35 : Con τ := { args := [.nn 5], L := [], ret := .ty 23, L' := [], R := (List (Int)), dflt := default, F := fun N a b => Fslices_Clone_byte_c35 N a.1, of := fun r => (r, ()) }
noncomputable def datslices_Clone_byte_c35 : Dat τ := { D := D0, tbl := tblOf [], lp := lpsOf [], k0 := 0, mu := [], un := [] }
theorem okslices_Clone_byte_c35 : ConOk E C 43 conslices_Clone_byte_c35 :=
  con_ok (D := datslices_Clone_byte_c35) ⟨d0Ok, eGood, tblOf_ok trivial, fun _ => rfl⟩ conslices_Clone_byte_c35 (fun a b => a) none (fun _ _ => rfl) rfl (fun _ _ h => nomatch h) 1000000 (fn := Try.f43) Try.func43 rfl (by kernel_rfl) (by kernel_rfl) rfl (by intro N a b; kernel_rfl)
def Fslices_Clone_byte_932 (N : Nat)  : Option ((List (Int))) :=
 (some [])
def conslices_Clone_byte_932 : Con τ := { args := [.nil .slice], L := [], ret := .ty 23, L' := [], R := (List (Int)), dflt := default, F := fun N a b => Fslices_Clone_byte_932 N , of := fun r => (r, ()) }
noncomputable def datslices_Clone_byte_932 : Dat τ := { D := D0, tbl := tblOf [], lp := lpsOf [], k0 := 0, mu := [], un := [] }
theorem okslices_Clone_byte_932 : ConOk E C 43 conslices_Clone_byte_932 :=
  con_ok (D := datslices_Clone_byte_932) ⟨d0Ok, eGood, tblOf_ok trivial, fun _ => rfl⟩ conslices_Clone_byte_932 (fun a b => a) none (fun _ _ => rfl) rfl (fun _ _ h => nomatch h) 1000000 (fn := Try.f43) Try.func43 rfl (by kernel_rfl) (by kernel_rfl) rfl (by intro N a b; kernel_rfl)
def Fslices_Clone_byte (N : Nat) (s : List (Int)) : Option ((List (Int))) := Fslices_Clone_byte_c35 N s
def conslices_Clone_byte : Con τ := { args := [.ty 23], L := [], ret := .ty 23, L' := [], R := (List (Int)), dflt := default, F := fun N a b => Fslices_Clone_byte N a.1, of := fun r => (r, ()) }
theorem okslices_Clone_byte : ConOk E C 43 conslices_Clone_byte := by
  intro N a b r h
  obtain ⟨x0, u⟩ := a
  refine FnSpec.split (pre := []) (post := []) (fun h0 => ?_) (okslices_Clone_byte_c35 N (x0, u) b r h)
  have h0 : x0 = [] := List.map_eq_nil_iff.1 h0
  subst h0
  exact okslices_Clone_byte_932 N ((), u) b r ((show conslices_Clone_byte_932.F N ((), u) b = conslices_Clone_byte.F N ([], u) b from by kernel_rfl).trans h)
def Fwire_NewReader (N : Nat) (b : List (Int)) : Option (Gwire_Writer) :=
 ((Fslices_Clone_byte N b).bind fun r1 =>
 (some (⟨true, r1⟩ : Gwire_Writer)))
def conwire_NewReader : Con τ := { args := [.ty 23], L := [], ret := .ptr 0 [], L' := [.box (.ty 66)], R := Gwire_Writer, dflt := default, F := fun N a b => Fwire_NewReader N a.1, of := fun r => ((), (r, ())) }
noncomputable def datwire_NewReader : Dat τ := { D := D0, tbl := tblOf [(43, conslices_Clone_byte)], lp := lpsOf [], k0 := 0, mu := [], un := [] }
theorem okwire_NewReader : ConOk E C 21 conwire_NewReader :=
  con_ok (D := datwire_NewReader) ⟨d0Ok, eGood, tblOf_ok ⟨okslices_Clone_byte, trivial⟩, fun _ => rfl⟩ conwire_NewReader (fun a b => b.1) none (fun _ _ => rfl) rfl (fun _ _ h => nomatch h) 1000000 (fn := Try.f21) Try.func21 rfl (by kernel_rfl) (by kernel_rfl) rfl (by intro N a b; kernel_rfl)
structure Swire_numberx5 where
  u : Int
  b : List (Int)
def tswire_numberx5 : List Sl := [.k, .k, .k, .sh (.ty 12), .sh (.own 5 0), .k, .k, .k, .k, .k, .k, .k, .j, .j, .j, .j, .j, .j, .j, .j, .j, .j, .k, .k, .k, .k, .k]
def hswire_numberx5 : List ESh := [.tail]
def towire_numberx5 (a : Sl.Ts τ tswire_numberx5) (b : ESh.Ts τ hswire_numberx5) : Swire_numberx5 := ⟨a.2.2.2.1, a.2.2.2.2.1⟩
def otwire_numberx5 (s : Swire_numberx5) : Sl.Ts τ tswire_numberx5 := ((), (), (), s.u, s.b, (), (), (), (), (), (), (), (), (), (), (), (), (), (), (), (), (), (), (), (), (), (), ())
def ohwire_numberx5 (s : Swire_numberx5) : ESh.Ts τ hswire_numberx5 := ((), ())
def lpwire_numberx5 : Lp τ := { ts := tswire_numberx5, hs := hswire_numberx5, S := Swire_numberx5, to := towire_numberx5, ot := otwire_numberx5, oh := ohwire_numberx5, hk := [], tk := [], ot_to := fun _ _ => rfl, oh_to := fun _ _ => rfl }
def Fwire_number (N : Nat) (n : Int) : Option ((List (Int))) :=
 (bif (decide (n < 0)) then
 (iter N (fun (s1 : Swire_numberx5) next2 =>
 (bif (decide (128 ≤ s1.u)) then
 (bif (lenB ((s1.b).length + ([(bits .or .u8 (IntKind.u8.wrap s1.u) 128)]).length) 1) then
 (next2 ⟨(shr .u64 s1.u 7), (s1.b ++ [(bits .or .u8 (IntKind.u8.wrap s1.u) 128)])⟩)
 else none)
 else
 (bif (lenB ((s1.b).length + ([(IntKind.u8.wrap s1.u)]).length) 1) then
 (some (s1.b ++ [(IntKind.u8.wrap s1.u)]))
 else none))) ⟨(bits .xor .u64 IntKind.u64.max (shl .u64 (IntKind.u64.wrap n) 1)), []⟩)
 else
 (iter N (fun (s3 : Swire_numberx5) next4 =>
 (bif (decide (128 ≤ s3.u)) then
 (bif (lenB ((s3.b).length + ([(bits .or .u8 (IntKind.u8.wrap s3.u) 128)]).length) 1) then
 (next4 ⟨(shr .u64 s3.u 7), (s3.b ++ [(bits .or .u8 (IntKind.u8.wrap s3.u) 128)])⟩)
 else none)
 else
 (bif (lenB ((s3.b).length + ([(IntKind.u8.wrap s3.u)]).length) 1) then
 (some (s3.b ++ [(IntKind.u8.wrap s3.u)]))
 else none))) ⟨(shl .u64 (IntKind.u64.wrap n) 1), []⟩))
def conwire_number : Con τ := { args := [.ty 2], L := [], ret := .own 5 0, L' := [.tail], R := (List (Int)), dflt := default, F := fun N a b => Fwire_number N a.1, of := fun r => (r, ((), ())) }
noncomputable def datwire_number : Dat τ := { D := D0, tbl := tblOf [], lp := lpsOf [(5, lpwire_numberx5)], k0 := 0, mu := [], un := [] }
theorem okwire_number : ConOk E C 49 conwire_number :=
  con_ok (D := datwire_number) ⟨d0Ok, eGood, tblOf_ok trivial, fun _ => rfl⟩ conwire_number (fun a b => a) none (fun _ _ => rfl) rfl (fun _ _ h => nomatch h) 1000000 (fn := Try.f49) Try.func49 rfl (by kernel_rfl) (by kernel_rfl) rfl (by intro N a b; kernel_rfl)
def Fwire_Writer_none_052 (N : Nat) (b0 : Bool) (b02 : List (Int)) : Option (Bool × Bool × (List (Int))) :=
 (some ((!b0), b0, b02))
def conwire_Writer_none_052 : Con τ := { args := [.ptr 0 []], L := [.box (.agg [.ty 4, .own 5 1]), .tail], ret := .ty 4, L' := [.box (.agg [.ty 4, .own 5 1]), .tail], R := Bool × Bool × (List (Int)), dflt := (default, default, default), F := fun N a b => Fwire_Writer_none_052 N b.1.1 b.1.2.1, of := fun r => (r.1, ((r.2.1, r.2.2, ()), (), ())) }
noncomputable def datwire_Writer_none_052 : Dat τ := { D := D0, tbl := tblOf [], lp := lpsOf [], k0 := 2, mu := [], un := [] }
theorem okwire_Writer_none_052 : ConOk E C 42 conwire_Writer_none_052 :=
  con_ok (D := datwire_Writer_none_052) ⟨d0Ok, eGood, tblOf_ok trivial, fun _ => rfl⟩ conwire_Writer_none_052 (fun a b => (a, b.1.1, b.1.2.1)) none (fun _ _ => rfl) rfl (fun _ _ h => nomatch h) 1000000 (fn := Try.f42) Try.func42 rfl (by kernel_rfl) (by kernel_rfl) rfl (by intro N a b; kernel_rfl)
structure Swire_Writer_put_867x5 where
  n : Int
  t19 : Int
def tswire_Writer_put_867x5 : List Sl := [.k, .k, .k, .k, .j, .sh (.ty 2), .k, .j, .k, .k, .k, .k, .k, .k, .k, .k, .k, .k, .k, .sh (.ty 2), .j, .j, .j, .j, .j, .j, .j, .j, .j, .j, .j, .j, .j, .k, .k, .k, .k, .k, .k, .k, .k, .k, .k, .k, .k, .k, .k, .k, .k]
def hswire_Writer_put_867x5 : List ESh := [.keep, .keep]
def towire_Writer_put_867x5 (a : Sl.Ts τ tswire_Writer_put_867x5) (b : ESh.Ts τ hswire_Writer_put_867x5) : Swire_Writer_put_867x5 := ⟨a.2.2.2.2.2.1, a.2.2.2.2.2.2.2.2.2.2.2.2.2.2.2.2.2.2.2.1⟩
def otwire_Writer_put_867x5 (s : Swire_Writer_put_867x5) : Sl.Ts τ tswire_Writer_put_867x5 := ((), (), (), (), (), s.n, (), (), (), (), (), (), (), (), (), (), (), (), (), s.t19, (), (), (), (), (), (), (), (), (), (), (), (), (), (), (), (), (), (), (), (), (), (), (), (), (), (), (), (), (), ())
def ohwire_Writer_put_867x5 (s : Swire_Writer_put_867x5) : ESh.Ts τ hswire_Writer_put_867x5 := ((), (), ())
def lpwire_Writer_put_867x5 : Lp τ := { ts := tswire_Writer_put_867x5, hs := hswire_Writer_put_867x5, S := Swire_Writer_put_867x5, to := towire_Writer_put_867x5, ot := otwire_Writer_put_867x5, oh := ohwire_Writer_put_867x5, hk := [2, 5], tk := [2, 0, 0, 0, 0, 0, 0, 0, 0, 0, 2, 0, 2, 2, 2], ot_to := fun _ _ => rfl, oh_to := fun _ _ => rfl }
structure Swire_Writer_put_867x12 where
  t35 : Int
  b0 : Bool
  b02 : List (Int)
def tswire_Writer_put_867x12 : List Sl := [.k, .k, .k, .k, .k, .k, .k, .k, .k, .j, .k, .k, .k, .k, .k, .k, .k, .k, .k, .k, .k, .k, .k, .k, .k, .k, .k, .k, .k, .k, .k, .k, .k, .k, .k, .sh (.ty 2), .j, .j, .j, .j, .j, .j, .j, .j, .j, .j, .j, .j, .j]
def hswire_Writer_put_867x12 : List ESh := [.box (.agg [.ty 4, .own 5 2]), .dead, .tail]
def towire_Writer_put_867x12 (a : Sl.Ts τ tswire_Writer_put_867x12) (b : ESh.Ts τ hswire_Writer_put_867x12) : Swire_Writer_put_867x12 := ⟨a.2.2.2.2.2.2.2.2.2.2.2.2.2.2.2.2.2.2.2.2.2.2.2.2.2.2.2.2.2.2.2.2.2.2.2.1, b.1.1, b.1.2.1⟩
def otwire_Writer_put_867x12 (s : Swire_Writer_put_867x12) : Sl.Ts τ tswire_Writer_put_867x12 := ((), (), (), (), (), (), (), (), (), (), (), (), (), (), (), (), (), (), (), (), (), (), (), (), (), (), (), (), (), (), (), (), (), (), (), s.t35, (), (), (), (), (), (), (), (), (), (), (), (), (), ())
def ohwire_Writer_put_867x12 (s : Swire_Writer_put_867x12) : ESh.Ts τ hswire_Writer_put_867x12 := ((s.b0, s.b02, ()), (), (), ())
def lpwire_Writer_put_867x12 : Lp τ := { ts := tswire_Writer_put_867x12, hs := hswire_Writer_put_867x12, S := Swire_Writer_put_867x12, to := towire_Writer_put_867x12, ot := otwire_Writer_put_867x12, oh := ohwire_Writer_put_867x12, hk := [2, 5], tk := [2, 0, 0, 0, 0, 0, 0, 0, 0, 0, 2, 0, 2, 2, 2], ot_to := fun _ _ => rfl, oh_to := fun _ _ => rfl }
def Fwire_Writer_put_867 (N : Nat) (l : List (List (Int))) (b0 : Bool) (b02 : List (Int)) : Option (Int × Bool × (List (Int))) :=
 ((Fwire_Writer_none_052 N b0 b02).bind fun r1 =>
 (bif r1.1 then
 (some (2, r1.2.1, r1.2.2))
 else
 (iter N (fun (s2 : Swire_Writer_put_867x5) next3 =>
 (bif (decide (s2.t19 < ((l).length : Int))) then
 (bif (ibB s2.t19 ((l).length : Int)) then
 (bif (decide ((IntKind.i64.wrap (1048576 - s2.n)) < (((lget l s2.t19 default)).length : Int))) then
 (some (3, r1.2.1, r1.2.2))
 else
 (next3 ⟨(IntKind.i64.wrap (s2.n + (((lget l s2.t19 default)).length : Int))), (IntKind.i64.wrap (s2.t19 + 1))⟩))
 else none)
 else
 (iter N (fun (s4 : Swire_Writer_put_867x12) next5 =>
 (bif (decide (s4.t35 < ((l).length : Int))) then
 (bif (ibB s4.t35 ((l).length : Int)) then
 (bif (lenB ((s4.b02).length + ((lget l s4.t35 default)).length) 1) then
 (next5 ⟨(IntKind.i64.wrap (s4.t35 + 1)), s4.b0, (s4.b02 ++ (lget l s4.t35 default))⟩)
 else none)
 else none)
 else
 (some (0, s4.b0, s4.b02)))) ⟨0, r1.2.1, r1.2.2⟩))) ⟨((r1.2.2).length : Int), 0⟩)))
def conwire_Writer_put_867 : Con τ := { args := [.ptr 0 [], .ty 22], L := [.box (.agg [.ty 4, .own 5 1]), .tail], ret := .ty 34, L' := [.box (.agg [.ty 4, .own 5 2]), .dead, .tail], R := Int × Bool × (List (Int)), dflt := (default, default, default), F := fun N a b => Fwire_Writer_put_867 N a.2.1 b.1.1 b.1.2.1, of := fun r => (r.1, ((r.2.1, r.2.2, ()), (), (), ())) }
noncomputable def datwire_Writer_put_867 : Dat τ := { D := D0, tbl := tblOf [(42, conwire_Writer_none_052)], lp := lpsOf [(5, lpwire_Writer_put_867x5), (12, lpwire_Writer_put_867x12)], k0 := 2, mu := [], un := [] }
theorem okwire_Writer_put_867 : ConOk E C 48 conwire_Writer_put_867 :=
  con_ok (D := datwire_Writer_put_867) ⟨d0Ok, eGood, tblOf_ok ⟨okwire_Writer_none_052, trivial⟩, fun _ => rfl⟩ conwire_Writer_put_867 (fun a b => (a, b.1.1, b.1.2.1)) none (fun _ _ => rfl) rfl (fun _ _ h => nomatch h) 1000000 (fn := Try.f48) Try.func48 rfl (by kernel_rfl) (by kernel_rfl) rfl (by intro N a b; kernel_rfl)
def Fwire_Writer_Int_816 (N : Nat) (n : Int) (b0 : Bool) (b02 : List (Int)) : Option (Int × Bool × (List (Int))) :=
 ((Fwire_number N n).bind fun r1 =>
 ((Fwire_Writer_put_867 N [r1] b0 b02).bind fun r2 =>
 (some (r2.1, r2.2.1, r2.2.2))))
def conwire_Writer_Int_816 : Con τ := { args := [.ptr 0 [], .ty 2], L := [.box (.agg [.ty 4, .own 5 1]), .tail], ret := .ty 34, L' := [.box (.agg [.ty 4, .own 5 2]), .dead, .tail], R := Int × Bool × (List (Int)), dflt := (default, default, default), F := fun N a b => Fwire_Writer_Int_816 N a.2.1 b.1.1 b.1.2.1, of := fun r => (r.1, ((r.2.1, r.2.2, ()), (), (), ())) }
noncomputable def datwire_Writer_Int_816 : Dat τ := { D := D0, tbl := tblOf [(49, conwire_number), (48, conwire_Writer_put_867)], lp := lpsOf [], k0 := 2, mu := [], un := [] }
theorem okwire_Writer_Int_816 : ConOk E C 31 conwire_Writer_Int_816 :=
  con_ok (D := datwire_Writer_Int_816) ⟨d0Ok, eGood, tblOf_ok ⟨okwire_number, ⟨okwire_Writer_put_867, trivial⟩⟩, fun _ => rfl⟩ conwire_Writer_Int_816 (fun a b => (a, b.1.1, b.1.2.1)) none (fun _ _ => rfl) rfl (fun _ _ h => nomatch h) 1000000 (fn := Try.f31) Try.func31 rfl (by kernel_rfl) (by kernel_rfl) rfl (by intro N a b; kernel_rfl)
def Fwire_Reader_none_d95 (N : Nat) (b0 : Gwire_Writer) : Option (Bool × Gwire_Writer) :=
 (some ((!b0.made), b0))
def conwire_Reader_none_d95 : Con τ := { args := [.ptr 0 []], L := [.box (.ty 66)], ret := .ty 4, L' := [.box (.ty 66)], R := Bool × Gwire_Writer, dflt := (default, default), F := fun N a b => Fwire_Reader_none_d95 N b.1, of := fun r => (r.1, (r.2, ())) }
noncomputable def datwire_Reader_none_d95 : Dat τ := { D := D0, tbl := tblOf [], lp := lpsOf [], k0 := 1, mu := [], un := [] }
theorem okwire_Reader_none_d95 : ConOk E C 44 conwire_Reader_none_d95 :=
  con_ok (D := datwire_Reader_none_d95) ⟨d0Ok, eGood, tblOf_ok trivial, fun _ => rfl⟩ conwire_Reader_none_d95 (fun a b => (a, b.1)) none (fun _ _ => rfl) rfl (fun _ _ h => nomatch h) 1000000 (fn := Try.f44) Try.func44 rfl (by kernel_rfl) (by kernel_rfl) rfl (by intro N a b; kernel_rfl)
structure Swire_parsex3 where
  u : Int
  t8 : Int
def tswire_parsex3 : List Sl := [.k, .k, .j, .j, .j, .sh (.ty 12), .j, .j, .sh (.ty 2), .j, .j, .j, .j, .j, .j, .j, .j, .j, .j, .j, .j, .j, .j, .j, .j, .j, .j, .j, .j, .j, .j, .j, .j, .j, .j, .j, .j, .j, .j, .j, .j, .j, .j, .j, .j, .j, .j, .j, .j, .j, .j, .j, .j, .j, .j, .j, .j, .j]
def hswire_parsex3 : List ESh := []
def towire_parsex3 (a : Sl.Ts τ tswire_parsex3) (b : ESh.Ts τ hswire_parsex3) : Swire_parsex3 := ⟨a.2.2.2.2.2.1, a.2.2.2.2.2.2.2.2.1⟩
def otwire_parsex3 (s : Swire_parsex3) : Sl.Ts τ tswire_parsex3 := ((), (), (), (), (), s.u, (), (), s.t8, (), (), (), (), (), (), (), (), (), (), (), (), (), (), (), (), (), (), (), (), (), (), (), (), (), (), (), (), (), (), (), (), (), (), (), (), (), (), (), (), (), (), (), (), (), (), (), (), (), ())
def ohwire_parsex3 (s : Swire_parsex3) : ESh.Ts τ hswire_parsex3 := ()
def lpwire_parsex3 : Lp τ := { ts := tswire_parsex3, hs := hswire_parsex3, S := Swire_parsex3, to := towire_parsex3, ot := otwire_parsex3, oh := ohwire_parsex3, hk := [], tk := [], ot_to := fun _ _ => rfl, oh_to := fun _ _ => rfl }
def Fwire_parse (N : Nat) (b : List (Int)) : Option (Int × Int × Int) :=
 (iter N (fun (s1 : Swire_parsex3) next2 =>
 (bif (decide (s1.t8 < 10)) then
 (bif (decide (((b).length : Int) ≤ s1.t8)) then
 (some (0, 0, 10))
 else
 (bif (ibB s1.t8 ((b).length : Int)) then
 (bif (((s1.t8 == 9) && (decide (1 < (lget b s1.t8 default)))) || (((lget b s1.t8 default) == 0) && (decide (0 < s1.t8)))) then
 (some (0, 0, 11))
 else
 (bif (decide (0 ≤ (IntKind.i64.wrap (7 * s1.t8)))) then
 (bif (decide ((lget b s1.t8 default) < 128)) then
 (bif ((bits .and .u64 (bits .or .u64 s1.u (shl .u64 (IntKind.u64.wrap (bits .and .u8 (lget b s1.t8 default) 127)) (IntKind.i64.wrap (7 * s1.t8)))) 1) == 1) then
 (some ((IntKind.i64.wrap (bits .xor .u64 IntKind.u64.max (shr .u64 (bits .or .u64 s1.u (shl .u64 (IntKind.u64.wrap (bits .and .u8 (lget b s1.t8 default) 127)) (IntKind.i64.wrap (7 * s1.t8)))) 1))), (IntKind.i64.wrap (s1.t8 + 1)), 0))
 else
 (some ((IntKind.i64.wrap (shr .u64 (bits .or .u64 s1.u (shl .u64 (IntKind.u64.wrap (bits .and .u8 (lget b s1.t8 default) 127)) (IntKind.i64.wrap (7 * s1.t8)))) 1)), (IntKind.i64.wrap (s1.t8 + 1)), 0)))
 else
 (next2 ⟨(bits .or .u64 s1.u (shl .u64 (IntKind.u64.wrap (bits .and .u8 (lget b s1.t8 default) 127)) (IntKind.i64.wrap (7 * s1.t8)))), (IntKind.i64.wrap (s1.t8 + 1))⟩))
 else none))
 else none))
 else
 (some (0, 0, 11)))) ⟨0, 0⟩)
def conwire_parse : Con τ := { args := [.ty 23], L := [], ret := .tup [.ty 2, .ty 3, .ty 34], L' := [], R := Int × Int × Int, dflt := (default, default, default), F := fun N a b => Fwire_parse N a.1, of := fun r => ((r.1, r.2.1, r.2.2, ()), ()) }
noncomputable def datwire_parse : Dat τ := { D := D0, tbl := tblOf [], lp := lpsOf [(3, lpwire_parsex3)], k0 := 0, mu := [], un := [] }
theorem okwire_parse : ConOk E C 45 conwire_parse :=
  con_ok (D := datwire_parse) ⟨d0Ok, eGood, tblOf_ok trivial, fun _ => rfl⟩ conwire_parse (fun a b => (a.1, a.2.1, a.2.2.1)) none (fun _ _ => rfl) rfl (fun _ _ h => nomatch h) 1000000 (fn := Try.f45) Try.func45 rfl (by kernel_rfl) (by kernel_rfl) rfl (by intro N a b; kernel_rfl)
def Fwire_Reader_Int_d95 (N : Nat) (b0 : Gwire_Writer) : Option (Int × Int × Gwire_Writer) :=
 ((Fwire_Reader_none_d95 N b0).bind fun r1 =>
 (bif r1.1 then
 (some (0, 2, r1.2))
 else
 ((Fwire_parse N r1.2.b).bind fun r2 =>
 (bif (cutB r2.2.1 ((r1.2.b).length : Int) ((r1.2.b).length : Int)) then
 (some (r2.1, r2.2.2, (⟨r1.2.made, (cut r1.2.b r2.2.1 ((r1.2.b).length : Int))⟩ : Gwire_Writer)))
 else none))))
def conwire_Reader_Int_d95 : Con τ := { args := [.ptr 0 []], L := [.box (.ty 66)], ret := .tup [.ty 2, .ty 34], L' := [.box (.ty 66)], R := Int × Int × Gwire_Writer, dflt := (default, default, default), F := fun N a b => Fwire_Reader_Int_d95 N b.1, of := fun r => ((r.1, r.2.1, ()), (r.2.2, ())) }
noncomputable def datwire_Reader_Int_d95 : Dat τ := { D := D0, tbl := tblOf [(44, conwire_Reader_none_d95), (45, conwire_parse)], lp := lpsOf [], k0 := 1, mu := [], un := [] }
theorem okwire_Reader_Int_d95 : ConOk E C 22 conwire_Reader_Int_d95 :=
  con_ok (D := datwire_Reader_Int_d95) ⟨d0Ok, eGood, tblOf_ok ⟨okwire_Reader_none_d95, ⟨okwire_parse, trivial⟩⟩, fun _ => rfl⟩ conwire_Reader_Int_d95 (fun a b => (a.1, a.2.1, b.1)) none (fun _ _ => rfl) rfl (fun _ _ h => nomatch h) 1000000 (fn := Try.f22) Try.func22 rfl (by kernel_rfl) (by kernel_rfl) rfl (by intro N a b; kernel_rfl)
def Fslices_Clone_byte_e12 (N : Nat) (s : List (Int)) : Option (Nat × (List (Int))) :=
 (bif (lenB ((s).length) 1) then
 (some ((s).length, s))
 else none)
def conslices_Clone_byte_e12 : Con τ := { args := [.nn 5], L := [], ret := .msl 5 0, L' := [.gbx 5], R := Nat × (List (Int)), dflt := (default, default), F := fun N a b => Fslices_Clone_byte_e12 N a.1, of := fun r => (r.1, (r.2, ())) }
noncomputable def datslices_Clone_byte_e12 : Dat τ := { D := D0, tbl := tblOf [], lp := lpsOf [], k0 := 0, mu := [7], un := [] }
theorem okslices_Clone_byte_e12 : ConOk E C 43 conslices_Clone_byte_e12 :=
  con_ok (D := datslices_Clone_byte_e12) ⟨d0Ok, eGood, tblOf_ok trivial, fun _ => rfl⟩ conslices_Clone_byte_e12 (fun a b => (a, b.1)) none (fun _ _ => rfl) rfl (fun _ _ h => nomatch h) 1000000 (fn := Try.f43) Try.func43 rfl (by kernel_rfl) (by kernel_rfl) rfl (by intro N a b; kernel_rfl)
def Fslices_Clone_byte_476 (N : Nat)  : Option (Nat × (List (Int))) :=
 (some (0, []))
def conslices_Clone_byte_476 : Con τ := { args := [.nil .slice], L := [], ret := .msl 5 0, L' := [.gbx 5], R := Nat × (List (Int)), dflt := (default, default), F := fun N a b => Fslices_Clone_byte_476 N , of := fun r => (r.1, (r.2, ())) }
noncomputable def datslices_Clone_byte_476 : Dat τ := { D := D0, tbl := tblOf [], lp := lpsOf [], k0 := 0, mu := [7], un := [] }
theorem okslices_Clone_byte_476 : ConOk E C 43 conslices_Clone_byte_476 :=
  con_ok (D := datslices_Clone_byte_476) ⟨d0Ok, eGood, tblOf_ok trivial, fun _ => rfl⟩ conslices_Clone_byte_476 (fun a b => (a, b.1)) none (fun _ _ => rfl) rfl (fun _ _ h => nomatch h) 1000000 (fn := Try.f43) Try.func43 rfl (by kernel_rfl) (by kernel_rfl) rfl (by intro N a b; kernel_rfl)
def Fslices_Clone_byte_be0 (N : Nat) (s : List (Int)) : Option (Nat × (List (Int))) := Fslices_Clone_byte_e12 N s
def conslices_Clone_byte_be0 : Con τ := { args := [.ty 23], L := [], ret := .msl 5 0, L' := [.gbx 5], R := Nat × (List (Int)), dflt := (default, default), F := fun N a b => Fslices_Clone_byte_be0 N a.1, of := fun r => (r.1, (r.2, ())) }
theorem okslices_Clone_byte_be0 : ConOk E C 43 conslices_Clone_byte_be0 := by
  intro N a b r h
  obtain ⟨x0, u⟩ := a
  refine FnSpec.split (pre := []) (post := []) (fun h0 => ?_) (okslices_Clone_byte_e12 N (x0, u) b r h)
  have h0 : x0 = [] := List.map_eq_nil_iff.1 h0
  subst h0
  exact okslices_Clone_byte_476 N ((), u) b r ((show conslices_Clone_byte_476.F N ((), u) b = conslices_Clone_byte_be0.F N ([], u) b from by kernel_rfl).trans h)
def Fwire_Writer_Out_052 (N : Nat) (b0 : Bool) (b02 : List (Int)) : Option (Nat × Bool × (List (Int)) × (List (Int))) :=
 ((Fwire_Writer_none_052 N b0 b02).bind fun r1 =>
 (bif r1.1 then
 (some (0, r1.2.1, r1.2.2, []))
 else
 ((Fslices_Clone_byte_be0 N r1.2.2).bind fun r2 =>
 (some (r2.1, r1.2.1, r1.2.2, r2.2)))))
def conwire_Writer_Out_052 : Con τ := { args := [.ptr 0 []], L := [.box (.agg [.ty 4, .own 5 1]), .tail], ret := .msl 5 2, L' := [.box (.agg [.ty 4, .own 5 1]), .tail, .gbx 5], R := Nat × Bool × (List (Int)) × (List (Int)), dflt := (default, default, default, default), F := fun N a b => Fwire_Writer_Out_052 N b.1.1 b.1.2.1, of := fun r => (r.1, ((r.2.1, r.2.2.1, ()), (), r.2.2.2, ())) }
noncomputable def datwire_Writer_Out_052 : Dat τ := { D := D0, tbl := tblOf [(42, conwire_Writer_none_052), (43, conslices_Clone_byte_be0)], lp := lpsOf [], k0 := 2, mu := [], un := [] }
theorem okwire_Writer_Out_052 : ConOk E C 20 conwire_Writer_Out_052 :=
  con_ok (D := datwire_Writer_Out_052) ⟨d0Ok, eGood, tblOf_ok ⟨okwire_Writer_none_052, ⟨okslices_Clone_byte_be0, trivial⟩⟩, fun _ => rfl⟩ conwire_Writer_Out_052 (fun a b => (a, b.1.1, b.1.2.1, b.2.2.1)) none (fun _ _ => rfl) rfl (fun _ _ h => nomatch h) 1000000 (fn := Try.f20) Try.func20 rfl (by kernel_rfl) (by kernel_rfl) rfl (by intro N a b; kernel_rfl)
def Fbytes_Equal_27b (N : Nat) (a : Nat) (b : List (Int)) (g0 : List (Int)) : Option (Bool × (List (Int))) :=
 (bif (Nat.ble (0 + a) (g0).length) then
 (some (((strI ((g0.drop 0).take a)) == (strI b)), g0))
 else none)
def conbytes_Equal_27b : Con τ := { args := [.msl 5 0, .ty 23], L := [.gbx 5], ret := .ty 4, L' := [.gbx 5], R := Bool × (List (Int)), dflt := (default, default), F := fun N a b => Fbytes_Equal_27b N a.1 a.2.1 b.1, of := fun r => (r.1, (r.2, ())) }
noncomputable def datbytes_Equal_27b : Dat τ := { D := D0, tbl := tblOf [], lp := lpsOf [], k0 := 1, mu := [], un := [] }
theorem okbytes_Equal_27b : ConOk E C 19 conbytes_Equal_27b :=
  con_ok (D := datbytes_Equal_27b) ⟨d0Ok, eGood, tblOf_ok trivial, fun _ => rfl⟩ conbytes_Equal_27b (fun a b => (a, b.1)) none (fun _ _ => rfl) rfl (fun _ _ h => nomatch h) 1000000 (fn := Try.f19) Try.func19 rfl (by kernel_rfl) (by kernel_rfl) rfl (by intro N a b; kernel_rfl)
structure Swire_Sumx3 where
  sum : Int
  t11 : Int
def tswire_Sumx3 : List Sl := [.k, .k, .k, .sh (.ty 25), .k, .j, .k, .j, .j, .k, .k, .sh (.ty 2), .j, .j, .j, .j, .j, .j, .j, .j, .j, .j, .j, .j, .j, .j, .j, .j, .j, .j, .j, .j, .j, .j, .j, .j, .j, .j, .k, .k]
def hswire_Sumx3 : List ESh := []
def towire_Sumx3 (a : Sl.Ts τ tswire_Sumx3) (b : ESh.Ts τ hswire_Sumx3) : Swire_Sumx3 := ⟨a.2.2.2.1, a.2.2.2.2.2.2.2.2.2.2.2.1⟩
def otwire_Sumx3 (s : Swire_Sumx3) : Sl.Ts τ tswire_Sumx3 := ((), (), (), s.sum, (), (), (), (), (), (), (), s.t11, (), (), (), (), (), (), (), (), (), (), (), (), (), (), (), (), (), (), (), (), (), (), (), (), (), (), (), (), ())
def ohwire_Sumx3 (s : Swire_Sumx3) : ESh.Ts τ hswire_Sumx3 := ()
def lpwire_Sumx3 : Lp τ := { ts := tswire_Sumx3, hs := hswire_Sumx3, S := Swire_Sumx3, to := towire_Sumx3, ot := otwire_Sumx3, oh := ohwire_Sumx3, hk := [], tk := [], ot_to := fun _ _ => rfl, oh_to := fun _ _ => rfl }
structure Swire_Sumx6 where
  sum : Int
  t17 : Int
def tswire_Sumx6 : List Sl := [.k, .k, .k, .sh (.ty 25), .k, .k, .k, .j, .j, .k, .k, .k, .k, .k, .k, .k, .k, .sh (.ty 2), .j, .j, .j, .j, .j, .j, .j, .j, .j, .j, .j, .j, .j, .j, .j, .j, .j, .j, .j, .k, .k, .k]
def hswire_Sumx6 : List ESh := []
def towire_Sumx6 (a : Sl.Ts τ tswire_Sumx6) (b : ESh.Ts τ hswire_Sumx6) : Swire_Sumx6 := ⟨a.2.2.2.1, a.2.2.2.2.2.2.2.2.2.2.2.2.2.2.2.2.2.1⟩
def otwire_Sumx6 (s : Swire_Sumx6) : Sl.Ts τ tswire_Sumx6 := ((), (), (), s.sum, (), (), (), (), (), (), (), (), (), (), (), (), (), s.t17, (), (), (), (), (), (), (), (), (), (), (), (), (), (), (), (), (), (), (), (), (), (), ())
def ohwire_Sumx6 (s : Swire_Sumx6) : ESh.Ts τ hswire_Sumx6 := ()
def lpwire_Sumx6 : Lp τ := { ts := tswire_Sumx6, hs := hswire_Sumx6, S := Swire_Sumx6, to := towire_Sumx6, ot := otwire_Sumx6, oh := ohwire_Sumx6, hk := [], tk := [], ot_to := fun _ _ => rfl, oh_to := fun _ _ => rfl }
structure Swire_Sumx10 where
  sum : Int
  t25 : Int
def tswire_Sumx10 : List Sl := [.k, .k, .k, .sh (.ty 25), .k, .k, .k, .k, .j, .k, .k, .k, .k, .k, .k, .k, .k, .k, .k, .k, .k, .k, .k, .k, .k, .sh (.ty 2), .j, .j, .j, .j, .j, .j, .j, .j, .j, .j, .k, .k, .k, .k]
def hswire_Sumx10 : List ESh := []
def towire_Sumx10 (a : Sl.Ts τ tswire_Sumx10) (b : ESh.Ts τ hswire_Sumx10) : Swire_Sumx10 := ⟨a.2.2.2.1, a.2.2.2.2.2.2.2.2.2.2.2.2.2.2.2.2.2.2.2.2.2.2.2.2.2.1⟩
def otwire_Sumx10 (s : Swire_Sumx10) : Sl.Ts τ tswire_Sumx10 := ((), (), (), s.sum, (), (), (), (), (), (), (), (), (), (), (), (), (), (), (), (), (), (), (), (), (), s.t25, (), (), (), (), (), (), (), (), (), (), (), (), (), (), ())
def ohwire_Sumx10 (s : Swire_Sumx10) : ESh.Ts τ hswire_Sumx10 := ()
def lpwire_Sumx10 : Lp τ := { ts := tswire_Sumx10, hs := hswire_Sumx10, S := Swire_Sumx10, to := towire_Sumx10, ot := otwire_Sumx10, oh := ohwire_Sumx10, hk := [], tk := [], ot_to := fun _ _ => rfl, oh_to := fun _ _ => rfl }
def Fwire_Sum (N : Nat) (l : List (List (Int))) : Option (Int) :=
 (iter N (fun (s1 : Swire_Sumx3) next2 =>
 (bif (decide (s1.t11 < ((l).length : Int))) then
 (bif (ibB s1.t11 ((l).length : Int)) then
 (iter N (fun (s3 : Swire_Sumx6) next4 =>
 (bif (decide (s3.t17 < (((lget l s1.t11 default)).length : Int))) then
 (bif (ibB s3.t17 (((lget l s1.t11 default)).length : Int)) then
 (iter N (fun (s5 : Swire_Sumx10) next6 =>
 (bif (decide (s5.t25 < 8)) then
 (bif ((bits .and .u32 s5.sum 1) == 1) then
 (next6 ⟨(bits .xor .u32 (shr .u32 s5.sum 1) 3988292384), (IntKind.i64.wrap (s5.t25 + 1))⟩)
 else
 (next6 ⟨(shr .u32 s5.sum 1), (IntKind.i64.wrap (s5.t25 + 1))⟩))
 else
 (next4 ⟨s5.sum, (IntKind.i64.wrap (s3.t17 + 1))⟩))) ⟨(bits .xor .u32 s3.sum (IntKind.u32.wrap (lget (lget l s1.t11 default) s3.t17 default))), 0⟩)
 else none)
 else
 (next2 ⟨s3.sum, (IntKind.i64.wrap (s1.t11 + 1))⟩))) ⟨s1.sum, 0⟩)
 else none)
 else
 (some (bits .xor .u32 IntKind.u32.max s1.sum)))) ⟨4294967295, 0⟩)
def conwire_Sum : Con τ := { args := [.ty 22], L := [], ret := .ty 25, L' := [], R := Int, dflt := default, F := fun N a b => Fwire_Sum N a.1, of := fun r => (r, ()) }
noncomputable def datwire_Sum : Dat τ := { D := D0, tbl := tblOf [], lp := lpsOf [(3, lpwire_Sumx3), (6, lpwire_Sumx6), (10, lpwire_Sumx10)], k0 := 0, mu := [], un := [] }
theorem okwire_Sum : ConOk E C 14 conwire_Sum :=
  con_ok (D := datwire_Sum) ⟨d0Ok, eGood, tblOf_ok trivial, fun _ => rfl⟩ conwire_Sum (fun a b => a) none (fun _ _ => rfl) rfl (fun _ _ h => nomatch h) 1000000 (fn := Try.f14) Try.func14 rfl (by kernel_rfl) (by kernel_rfl) rfl (by intro N a b; kernel_rfl)
def Flaw01_live (N : Nat)  : Option (Bool) :=
 ((Fwire_NewWriter N).bind fun r1 =>
 ((Fwire_NewReader N [128, 1]).bind fun r2 =>
 ((Fwire_Writer_Int_816 N (-1) r1.1 r1.2).bind fun r3 =>
 ((Fwire_Reader_Int_d95 N r2).bind fun r4 =>
 (bif (((r3.1 == 0) && (r4.2.1 == 0)) && (r4.1 == 64)) then
 ((Fwire_Writer_Out_052 N r3.2.1 r3.2.2).bind fun r5 =>
 (bif (((r3.1 == 0) && (r4.2.1 == 0)) && (r4.1 == 64)) then
 (bif (((r3.1 == 0) && (r4.2.1 == 0)) && (r4.1 == 64)) then
 ((Fbytes_Equal_27b N r5.1 [1] r5.2.2.2).bind fun r6 =>
 (bif ((((r3.1 == 0) && (r4.2.1 == 0)) && (r4.1 == 64)) && r6.1) then
 (bif ((((r3.1 == 0) && (r4.2.1 == 0)) && (r4.1 == 64)) && r6.1) then
 (bif ((((r3.1 == 0) && (r4.2.1 == 0)) && (r4.1 == 64)) && r6.1) then
 (bif ((((r3.1 == 0) && (r4.2.1 == 0)) && (r4.1 == 64)) && r6.1) then
 ((bif ((((r3.1 == 0) && (r4.2.1 == 0)) && (r4.1 == 64)) && r6.1) then Fwire_Sum N [[49, 50, 51, 52], [53, 54, 55, 56, 57]] else some default).bind fun r7 =>
 (some (((((r3.1 == 0) && (r4.2.1 == 0)) && (r4.1 == 64)) && r6.1) && (r7 == 3421780262))))
 else
 (some false))
 else
 (some false))
 else
 (some false))
 else
 (some false)))
 else
 (some false))
 else
 (some false)))
 else
 (some false))))))
def conlaw01_live : Con τ := { args := [], L := [], ret := .ty 4, L' := [], R := Bool, dflt := default, F := fun N a b => Flaw01_live N , of := fun r => (r, ()) }
noncomputable def datlaw01_live : Dat τ := { D := D0, tbl := tblOf [(16, conwire_NewWriter), (21, conwire_NewReader), (31, conwire_Writer_Int_816), (22, conwire_Reader_Int_d95), (20, conwire_Writer_Out_052), (19, conbytes_Equal_27b), (14, conwire_Sum)], lp := lpsOf [], k0 := 0, mu := [], un := [] }
theorem oklaw01_live : ConOk E C 13 conlaw01_live :=
  con_ok (D := datlaw01_live) ⟨d0Ok, eGood, tblOf_ok ⟨okwire_NewWriter, ⟨okwire_NewReader, ⟨okwire_Writer_Int_816, ⟨okwire_Reader_Int_d95, ⟨okwire_Writer_Out_052, ⟨okbytes_Equal_27b, ⟨okwire_Sum, trivial⟩⟩⟩⟩⟩⟩⟩, fun _ => rfl⟩ conlaw01_live (fun a b => a) none (fun _ _ => rfl) rfl (fun _ _ h => nomatch h) 1000000 (fn := Try.f13) Try.func13 rfl (by kernel_rfl) (by kernel_rfl) rfl (by intro N a b; kernel_rfl)
def Fwire_Writer_put_a71 (N : Nat) (l : List (Int)) (l2 : Nat) (b0 : Bool) (b02 : List (Int)) (g2 : List (Int)) : Option (Int × Bool × (List (Int)) × (List (Int))) :=
 ((Fwire_Writer_none_052 N b0 b02).bind fun r1 =>
 (bif r1.1 then
 (some (2, r1.2.1, r1.2.2, g2))
 else
 (bif (decide ((IntKind.i64.wrap (1048576 - ((r1.2.2).length : Int))) < ((l).length : Int))) then
 (some (3, r1.2.1, r1.2.2, g2))
 else
 (bif (decide ((IntKind.i64.wrap (1048576 - (IntKind.i64.wrap (((r1.2.2).length : Int) + ((l).length : Int))))) < ((l2 : Nat) : Int))) then
 (some (3, r1.2.1, r1.2.2, g2))
 else
 (bif (lenB ((r1.2.2).length + (l).length) 1) then
 (bif ((lenB (((r1.2.2 ++ l)).length + (((g2.drop 0).take l2)).length) 1) && (Nat.ble (0 + l2) (g2).length)) then
 (some (0, r1.2.1, ((r1.2.2 ++ l) ++ ((g2.drop 0).take l2)), g2))
 else none)
 else none)))))
def conwire_Writer_put_a71 : Con τ := { args := [.ptr 0 [], .ls 1 [.own 5 1, .msl 5 2]], L := [.box (.agg [.ty 4, .own 5 3]), .tail, .gbx 5, .tail], ret := .ty 34, L' := [.box (.agg [.ty 4, .own 5 4]), .tail, .gbx 5, .dead, .tail], R := Int × Bool × (List (Int)) × (List (Int)), dflt := (default, default, default, default), F := fun N a b => Fwire_Writer_put_a71 N a.2.1.1 a.2.1.2.1 b.1.1 b.1.2.1 b.2.2.1, of := fun r => (r.1, ((r.2.1, r.2.2.1, ()), (), r.2.2.2, (), (), ())) }
noncomputable def datwire_Writer_put_a71 : Dat τ := { D := D0, tbl := tblOf [(42, conwire_Writer_none_052)], lp := lpsOf [], k0 := 4, mu := [], un := [(5, 4), (12, 4)] }
theorem okwire_Writer_put_a71 : ConOk E C 48 conwire_Writer_put_a71 :=
  con_ok (D := datwire_Writer_put_a71) ⟨d0Ok, eGood, tblOf_ok ⟨okwire_Writer_none_052, trivial⟩, fun _ => rfl⟩ conwire_Writer_put_a71 (fun a b => (a, b.1.1, b.1.2.1, b.2.2.1)) none (fun _ _ => rfl) rfl (fun _ _ h => nomatch h) 1000000 (fn := Try.f48) Try.func48 rfl (by kernel_rfl) (by kernel_rfl) rfl (by intro N a b; kernel_rfl)
def Fwire_Writer_Bytes_b91 (N : Nat) (b : Nat) (b0 : Bool) (b02 : List (Int)) (g1 : List (Int)) : Option (Int × Bool × (List (Int)) × (List (Int))) :=
 ((Fwire_number N ((b : Nat) : Int)).bind fun r1 =>
 ((Fwire_Writer_put_a71 N r1 b b0 b02 g1).bind fun r2 =>
 (some (r2.1, r2.2.1, r2.2.2.1, r2.2.2.2))))
def conwire_Writer_Bytes_b91 : Con τ := { args := [.ptr 0 [], .msl 5 1], L := [.box (.agg [.ty 4, .own 5 2]), .gbx 5, .tail], ret := .ty 34, L' := [.box (.agg [.ty 4, .own 5 3]), .gbx 5, .dead, .tail], R := Int × Bool × (List (Int)) × (List (Int)), dflt := (default, default, default, default), F := fun N a b => Fwire_Writer_Bytes_b91 N a.2.1 b.1.1 b.1.2.1 b.2.1, of := fun r => (r.1, ((r.2.1, r.2.2.1, ()), r.2.2.2, (), (), ())) }
noncomputable def datwire_Writer_Bytes_b91 : Dat τ := { D := D0, tbl := tblOf [(49, conwire_number), (48, conwire_Writer_put_a71)], lp := lpsOf [], k0 := 3, mu := [], un := [] }
theorem okwire_Writer_Bytes_b91 : ConOk E C 32 conwire_Writer_Bytes_b91 :=
  con_ok (D := datwire_Writer_Bytes_b91) ⟨d0Ok, eGood, tblOf_ok ⟨okwire_number, ⟨okwire_Writer_put_a71, trivial⟩⟩, fun _ => rfl⟩ conwire_Writer_Bytes_b91 (fun a b => (a, b.1.1, b.1.2.1, b.2.1)) none (fun _ _ => rfl) rfl (fun _ _ h => nomatch h) 1000000 (fn := Try.f32) Try.func32 rfl (by kernel_rfl) (by kernel_rfl) rfl (by intro N a b; kernel_rfl)
structure Swire_Sum_e15x6 where
  sum : Int
  t17 : Int
def tswire_Sum_e15x6 : List Sl := [.k, .k, .k, .sh (.ty 25), .k, .k, .k, .j, .j, .k, .k, .k, .k, .k, .k, .k, .k, .sh (.ty 2), .j, .j, .j, .j, .j, .j, .j, .j, .j, .j, .j, .j, .j, .j, .j, .j, .j, .j, .j, .k, .k, .k]
def hswire_Sum_e15x6 : List ESh := [.keep]
def towire_Sum_e15x6 (a : Sl.Ts τ tswire_Sum_e15x6) (b : ESh.Ts τ hswire_Sum_e15x6) : Swire_Sum_e15x6 := ⟨a.2.2.2.1, a.2.2.2.2.2.2.2.2.2.2.2.2.2.2.2.2.2.1⟩
def otwire_Sum_e15x6 (s : Swire_Sum_e15x6) : Sl.Ts τ tswire_Sum_e15x6 := ((), (), (), s.sum, (), (), (), (), (), (), (), (), (), (), (), (), (), s.t17, (), (), (), (), (), (), (), (), (), (), (), (), (), (), (), (), (), (), (), (), (), (), ())
def ohwire_Sum_e15x6 (s : Swire_Sum_e15x6) : ESh.Ts τ hswire_Sum_e15x6 := ((), ())
def lpwire_Sum_e15x6 : Lp τ := { ts := tswire_Sum_e15x6, hs := hswire_Sum_e15x6, S := Swire_Sum_e15x6, to := towire_Sum_e15x6, ot := otwire_Sum_e15x6, oh := ohwire_Sum_e15x6, hk := [4], tk := [], ot_to := fun _ _ => rfl, oh_to := fun _ _ => rfl }
structure Swire_Sum_e15x10 where
  sum : Int
  t25 : Int
def tswire_Sum_e15x10 : List Sl := [.k, .k, .k, .sh (.ty 25), .k, .k, .k, .k, .j, .k, .k, .k, .k, .k, .k, .k, .k, .k, .k, .k, .k, .k, .k, .k, .k, .sh (.ty 2), .j, .j, .j, .j, .j, .j, .j, .j, .j, .j, .k, .k, .k, .k]
def hswire_Sum_e15x10 : List ESh := [.keep]
def towire_Sum_e15x10 (a : Sl.Ts τ tswire_Sum_e15x10) (b : ESh.Ts τ hswire_Sum_e15x10) : Swire_Sum_e15x10 := ⟨a.2.2.2.1, a.2.2.2.2.2.2.2.2.2.2.2.2.2.2.2.2.2.2.2.2.2.2.2.2.2.1⟩
def otwire_Sum_e15x10 (s : Swire_Sum_e15x10) : Sl.Ts τ tswire_Sum_e15x10 := ((), (), (), s.sum, (), (), (), (), (), (), (), (), (), (), (), (), (), (), (), (), (), (), (), (), (), s.t25, (), (), (), (), (), (), (), (), (), (), (), (), (), (), ())
def ohwire_Sum_e15x10 (s : Swire_Sum_e15x10) : ESh.Ts τ hswire_Sum_e15x10 := ((), ())
def lpwire_Sum_e15x10 : Lp τ := { ts := tswire_Sum_e15x10, hs := hswire_Sum_e15x10, S := Swire_Sum_e15x10, to := towire_Sum_e15x10, ot := otwire_Sum_e15x10, oh := ohwire_Sum_e15x10, hk := [4], tk := [0, 0, 0, 0, 0, 0, 0, 0, 0, 0, 0, 0, 0, 0, 0, 0, 0, 0, 0, 2], ot_to := fun _ _ => rfl, oh_to := fun _ _ => rfl }
def Fwire_Sum_e15 (N : Nat) (l : Nat) (g0 : List (Int)) : Option (Int × (List (Int))) :=
 (iter N (fun (s1 : Swire_Sum_e15x6) next2 =>
 (bif (decide (s1.t17 < ((l : Nat) : Int))) then
 (bif (ibB s1.t17 ((l : Nat) : Int)) then
 (bif (decide ((s1.t17).toNat < (g0).length)) then
 (iter N (fun (s3 : Swire_Sum_e15x10) next4 =>
 (bif (decide (s3.t25 < 8)) then
 (bif ((bits .and .u32 s3.sum 1) == 1) then
 (next4 ⟨(bits .xor .u32 (shr .u32 s3.sum 1) 3988292384), (IntKind.i64.wrap (s3.t25 + 1))⟩)
 else
 (next4 ⟨(shr .u32 s3.sum 1), (IntKind.i64.wrap (s3.t25 + 1))⟩))
 else
 (next2 ⟨s3.sum, (IntKind.i64.wrap (s1.t17 + 1))⟩))) ⟨(bits .xor .u32 s1.sum (IntKind.u32.wrap (g0.getD ((s1.t17).toNat) default))), 0⟩)
 else none)
 else none)
 else
 (some ((bits .xor .u32 IntKind.u32.max s1.sum), g0)))) ⟨4294967295, 0⟩)
def conwire_Sum_e15 : Con τ := { args := [.ls 1 [.msl 5 0]], L := [.gbx 5], ret := .ty 25, L' := [.gbx 5], R := Int × (List (Int)), dflt := (default, default), F := fun N a b => Fwire_Sum_e15 N a.1.1 b.1, of := fun r => (r.1, (r.2, ())) }
noncomputable def datwire_Sum_e15 : Dat τ := { D := D0, tbl := tblOf [], lp := lpsOf [(6, lpwire_Sum_e15x6), (10, lpwire_Sum_e15x10)], k0 := 1, mu := [], un := [(3, 3)] }
theorem okwire_Sum_e15 : ConOk E C 14 conwire_Sum_e15 :=
  con_ok (D := datwire_Sum_e15) ⟨d0Ok, eGood, tblOf_ok trivial, fun _ => rfl⟩ conwire_Sum_e15 (fun a b => (a, b.1)) none (fun _ _ => rfl) rfl (fun _ _ h => nomatch h) 1000000 (fn := Try.f14) Try.func14 rfl (by kernel_rfl) (by kernel_rfl) rfl (by intro N a b; kernel_rfl)
def Fwire_four (N : Nat) (sum : Int) : Option ((List (Int))) :=
 (some [(IntKind.u8.wrap sum), (IntKind.u8.wrap (shr .u32 sum 8)), (IntKind.u8.wrap (shr .u32 sum 16)), (IntKind.u8.wrap (shr .u32 sum 24))])
def conwire_four : Con τ := { args := [.ty 25], L := [], ret := .ty 23, L' := [], R := (List (Int)), dflt := default, F := fun N a b => Fwire_four N a.1, of := fun r => (r, ()) }
noncomputable def datwire_four : Dat τ := { D := D0, tbl := tblOf [], lp := lpsOf [], k0 := 0, mu := [], un := [] }
theorem okwire_four : ConOk E C 51 conwire_four :=
  con_ok (D := datwire_four) ⟨d0Ok, eGood, tblOf_ok trivial, fun _ => rfl⟩ conwire_four (fun a b => a) none (fun _ _ => rfl) rfl (fun _ _ h => nomatch h) 1000000 (fn := Try.f51) Try.func51 rfl (by kernel_rfl) (by kernel_rfl) rfl (by intro N a b; kernel_rfl)
def Fslices_Grow_byte_c93 (N : Nat) (n : Int) : Option (Nat × (List (Int))) :=
 (bif (decide (n < 0)) then
 none
 else
 (bif (decide (0 < (IntKind.i64.wrap (n - 0)))) then
 (bif (mkB (IntKind.i64.wrap (n - 0)) 1) then
 (bif (cutB 0 0 ((((IntKind.i64.wrap (n - 0))).toNat : Nat) : Int)) then
 (some (0, (List.replicate (((IntKind.i64.wrap (n - 0))).toNat) 0)))
 else none)
 else none)
 else
 (some (0, []))))
def conslices_Grow_byte_c93 : Con τ := { args := [.nil .slice, .ty 3], L := [], ret := .msl 5 0, L' := [.gbx 5], R := Nat × (List (Int)), dflt := (default, default), F := fun N a b => Fslices_Grow_byte_c93 N a.2.1, of := fun r => (r.1, (r.2, ())) }
noncomputable def datslices_Grow_byte_c93 : Dat τ := { D := D0, tbl := tblOf [], lp := lpsOf [], k0 := 0, mu := [22], un := [] }
theorem okslices_Grow_byte_c93 : ConOk E C 53 conslices_Grow_byte_c93 :=
  con_ok (D := datslices_Grow_byte_c93) ⟨d0Ok, eGood, tblOf_ok trivial, fun _ => rfl⟩ conslices_Grow_byte_c93 (fun a b => (a, b.1)) none (fun _ _ => rfl) rfl (fun _ _ h => nomatch h) 1000000 (fn := Try.f53) Try.func53 rfl (by kernel_rfl) (by kernel_rfl) rfl (by intro N a b; kernel_rfl)
def Fslices_Concat_byte_95b (N : Nat) (slices : List (Int)) (slices2 : Nat) (slices3 : List (Int)) (g1 : List (Int)) : Option (Nat × (List (Int)) × (List (Int))) :=
 (bif (decide ((IntKind.i64.wrap (0 + ((slices).length : Int))) < 0)) then
 none
 else
 (bif (decide ((IntKind.i64.wrap ((IntKind.i64.wrap (0 + ((slices).length : Int))) + ((slices2 : Nat) : Int))) < 0)) then
 none
 else
 (bif (decide ((IntKind.i64.wrap ((IntKind.i64.wrap ((IntKind.i64.wrap (0 + ((slices).length : Int))) + ((slices2 : Nat) : Int))) + ((slices3).length : Int))) < 0)) then
 none
 else
 ((Fslices_Grow_byte_c93 N (IntKind.i64.wrap ((IntKind.i64.wrap ((IntKind.i64.wrap (0 + ((slices).length : Int))) + ((slices2 : Nat) : Int))) + ((slices3).length : Int)))).bind fun r1 =>
 (bif ((lenB (r1.1 + (slices).length) 1) && (Nat.ble r1.1 (r1.2).length)) then
 (bif (((lenB ((r1.1 + (slices).length) + (((g1.drop 0).take slices2)).length) 1) && (Nat.ble (r1.1 + (slices).length) ((r1.2.take r1.1 ++ slices)).length)) && (Nat.ble (0 + slices2) (g1).length)) then
 (bif ((lenB (((r1.1 + (slices).length) + (((g1.drop 0).take slices2)).length) + (slices3).length) 1) && (Nat.ble ((r1.1 + (slices).length) + (((g1.drop 0).take slices2)).length) (((r1.2.take r1.1 ++ slices).take (r1.1 + (slices).length) ++ ((g1.drop 0).take slices2))).length)) then
 (some ((((r1.1 + (slices).length) + (((g1.drop 0).take slices2)).length) + (slices3).length), g1, (((r1.2.take r1.1 ++ slices).take (r1.1 + (slices).length) ++ ((g1.drop 0).take slices2)).take ((r1.1 + (slices).length) + (((g1.drop 0).take slices2)).length) ++ slices3)))
 else none)
 else none)
 else none)))))
def conslices_Concat_byte_95b : Con τ := { args := [.ls 1 [.own 5 0, .msl 5 1, .ty 23]], L := [.tail, .gbx 5], ret := .msl 5 2, L' := [.tail, .gbx 5, .gbx 5], R := Nat × (List (Int)) × (List (Int)), dflt := (default, default, default), F := fun N a b => Fslices_Concat_byte_95b N a.1.1 a.1.2.1 a.1.2.2.1 b.2.1, of := fun r => (r.1, ((), r.2.1, r.2.2, ())) }
noncomputable def datslices_Concat_byte_95b : Dat τ := { D := D0, tbl := tblOf [(53, conslices_Grow_byte_c93)], lp := lpsOf [], k0 := 2, mu := [33], un := [(3, 5), (11, 5)] }
theorem okslices_Concat_byte_95b : ConOk E C 50 conslices_Concat_byte_95b :=
  con_ok (D := datslices_Concat_byte_95b) ⟨d0Ok, eGood, tblOf_ok ⟨okslices_Grow_byte_c93, trivial⟩, fun _ => rfl⟩ conslices_Concat_byte_95b (fun a b => (a, b.2.1, b.2.2.1)) none (fun _ _ => rfl) rfl (fun _ _ h => nomatch h) 1000000 (fn := Try.f50) Try.func50 rfl (by kernel_rfl) (by kernel_rfl) rfl (by intro N a b; kernel_rfl)
def Fwire_Frame_6ac (N : Nat) (b : Nat) (g0 : List (Int)) : Option (Nat × Int × (List (Int)) × (List (Int))) :=
 (bif (decide (1048576 < ((b : Nat) : Int))) then
 (some (0, 3, g0, []))
 else
 ((Fwire_number N ((b : Nat) : Int)).bind fun r1 =>
 ((Fwire_Sum_e15 N b g0).bind fun r2 =>
 ((Fwire_four N r2.1).bind fun r3 =>
 ((Fslices_Concat_byte_95b N r1 b r3 r2.2).bind fun r4 =>
 (some (r4.1, 0, r4.2.1, r4.2.2)))))))
def conwire_Frame_6ac : Con τ := { args := [.msl 5 0], L := [.gbx 5], ret := .tup [.msl 5 1, .ty 34], L' := [.gbx 5, .gbx 5], R := Nat × Int × (List (Int)) × (List (Int)), dflt := (default, default, default, default), F := fun N a b => Fwire_Frame_6ac N a.1 b.1, of := fun r => ((r.1, r.2.1, ()), (r.2.2.1, r.2.2.2, ())) }
noncomputable def datwire_Frame_6ac : Dat τ := { D := D0, tbl := tblOf [(49, conwire_number), (14, conwire_Sum_e15), (51, conwire_four), (50, conslices_Concat_byte_95b)], lp := lpsOf [], k0 := 1, mu := [], un := [] }
theorem okwire_Frame_6ac : ConOk E C 35 conwire_Frame_6ac :=
  con_ok (D := datwire_Frame_6ac) ⟨d0Ok, eGood, tblOf_ok ⟨okwire_number, ⟨okwire_Sum_e15, ⟨okwire_four, ⟨okslices_Concat_byte_95b, trivial⟩⟩⟩⟩, fun _ => rfl⟩ conwire_Frame_6ac (fun a b => (a.1, a.2.1, b.1, b.2.1)) none (fun _ _ => rfl) rfl (fun _ _ h => nomatch h) 1000000 (fn := Try.f35) Try.func35 rfl (by kernel_rfl) (by kernel_rfl) rfl (by intro N a b; kernel_rfl)
def Fslices_Clone_byte_028 (N : Nat) (s : Nat) (s2 : Nat) (s3 : Nat) (s4 : Bool) (g0 : List (Int)) : Option ((List (Int)) × (List (Int))) :=
 (bif (s4 || (Nat.blt 0 s2)) then
 (bif ((lenB ((((g0.drop s).take s2)).length) 1) && (Nat.ble (s + s2) (g0).length)) then
 (some (((g0.drop s).take s2), g0))
 else none)
 else none)
def conslices_Clone_byte_028 : Con τ := { args := [.wsl 5 0], L := [.gbx 5], ret := .ty 23, L' := [.gbx 5], R := (List (Int)) × (List (Int)), dflt := (default, default), F := fun N a b => Fslices_Clone_byte_028 N a.1.1 a.1.2.1 a.1.2.2.1 a.1.2.2.2 b.1, of := fun r => (r.1, (r.2, ())) }
noncomputable def datslices_Clone_byte_028 : Dat τ := { D := D0, tbl := tblOf [], lp := lpsOf [], k0 := 1, mu := [], un := [] }
theorem okslices_Clone_byte_028 : ConOk E C 43 conslices_Clone_byte_028 :=
  con_ok (D := datslices_Clone_byte_028) ⟨d0Ok, eGood, tblOf_ok trivial, fun _ => rfl⟩ conslices_Clone_byte_028 (fun a b => (a, b.1)) none (fun _ _ => rfl) rfl (fun _ _ h => nomatch h) 1000000 (fn := Try.f43) Try.func43 rfl (by kernel_rfl) (by kernel_rfl) rfl (by intro N a b; kernel_rfl)
def Fslices_Clone_byte_c66 (N : Nat) (g0 : List (Int)) : Option ((List (Int)) × (List (Int))) :=
 (some ([], g0))
def conslices_Clone_byte_c66 : Con τ := { args := [.nil .slice], L := [.gbx 5], ret := .ty 23, L' := [.gbx 5], R := (List (Int)) × (List (Int)), dflt := (default, default), F := fun N a b => Fslices_Clone_byte_c66 N b.1, of := fun r => (r.1, (r.2, ())) }
noncomputable def datslices_Clone_byte_c66 : Dat τ := { D := D0, tbl := tblOf [], lp := lpsOf [], k0 := 1, mu := [], un := [] }
theorem okslices_Clone_byte_c66 : ConOk E C 43 conslices_Clone_byte_c66 :=
  con_ok (D := datslices_Clone_byte_c66) ⟨d0Ok, eGood, tblOf_ok trivial, fun _ => rfl⟩ conslices_Clone_byte_c66 (fun a b => (a, b.1)) none (fun _ _ => rfl) rfl (fun _ _ h => nomatch h) 1000000 (fn := Try.f43) Try.func43 rfl (by kernel_rfl) (by kernel_rfl) rfl (by intro N a b; kernel_rfl)
def Fslices_Clone_byte_6ac (N : Nat) (s : Nat) (g0 : List (Int)) : Option ((List (Int)) × (List (Int))) := Fslices_Clone_byte_028 N 0 s s true g0
def conslices_Clone_byte_6ac : Con τ := { args := [.msl 5 0], L := [.gbx 5], ret := .ty 23, L' := [.gbx 5], R := (List (Int)) × (List (Int)), dflt := (default, default), F := fun N a b => Fslices_Clone_byte_6ac N a.1 b.1, of := fun r => (r.1, (r.2, ())) }
theorem okslices_Clone_byte_6ac : ConOk E C 43 conslices_Clone_byte_6ac := by
  intro N a b r h
  obtain ⟨x0, u⟩ := a
  refine FnSpec.splitM (pre := []) (post := []) (fun h0 => ?_) (okslices_Clone_byte_028 N ((0, x0, x0, true), u) b r h)
  have h0 : x0 = (0 : Nat) := h0
  subst h0
  have e : conslices_Clone_byte_c66.F N ((), u) b = conslices_Clone_byte_6ac.F N ((0 : Nat), u) b := by
    obtain ⟨b0, v⟩ := b
    cases b0 <;> kernel_rfl
  exact okslices_Clone_byte_c66 N ((), u) b r (e.trans h)
def Fwire_NewReader_6ac (N : Nat) (b : Nat) (g0 : List (Int)) : Option ((List (Int)) × Gwire_Writer) :=
 ((Fslices_Clone_byte_6ac N b g0).bind fun r1 =>
 (some (r1.2, (⟨true, r1.1⟩ : Gwire_Writer))))
def conwire_NewReader_6ac : Con τ := { args := [.msl 5 0], L := [.gbx 5], ret := .ptr 1 [], L' := [.gbx 5, .box (.ty 66)], R := (List (Int)) × Gwire_Writer, dflt := (default, default), F := fun N a b => Fwire_NewReader_6ac N a.1 b.1, of := fun r => ((), (r.1, r.2, ())) }
noncomputable def datwire_NewReader_6ac : Dat τ := { D := D0, tbl := tblOf [(43, conslices_Clone_byte_6ac)], lp := lpsOf [], k0 := 1, mu := [], un := [] }
theorem okwire_NewReader_6ac : ConOk E C 21 conwire_NewReader_6ac :=
  con_ok (D := datwire_NewReader_6ac) ⟨d0Ok, eGood, tblOf_ok ⟨okslices_Clone_byte_6ac, trivial⟩, fun _ => rfl⟩ conwire_NewReader_6ac (fun a b => (b.1, b.2.1)) none (fun _ _ => rfl) rfl (fun _ _ h => nomatch h) 1000000 (fn := Try.f21) Try.func21 rfl (by kernel_rfl) (by kernel_rfl) rfl (by intro N a b; kernel_rfl)
structure Sref01_Intx5 where
  u : Int
  b : List (Int)
def tsref01_Intx5 : List Sl := [.k, .k, .k, .sh (.ty 12), .sh (.own 5 0), .k, .k, .k, .k, .k, .k, .k, .k, .k, .k, .k, .j, .j, .j, .j, .j, .j, .j, .j, .j, .j, .j, .k, .k, .k, .k, .k]
def hsref01_Intx5 : List ESh := [.tail]
def toref01_Intx5 (a : Sl.Ts τ tsref01_Intx5) (b : ESh.Ts τ hsref01_Intx5) : Sref01_Intx5 := ⟨a.2.2.2.1, a.2.2.2.2.1⟩
def otref01_Intx5 (s : Sref01_Intx5) : Sl.Ts τ tsref01_Intx5 := ((), (), (), s.u, s.b, (), (), (), (), (), (), (), (), (), (), (), (), (), (), (), (), (), (), (), (), (), (), (), (), (), (), (), ())
def ohref01_Intx5 (s : Sref01_Intx5) : ESh.Ts τ hsref01_Intx5 := ((), ())
def lpref01_Intx5 : Lp τ := { ts := tsref01_Intx5, hs := hsref01_Intx5, S := Sref01_Intx5, to := toref01_Intx5, ot := otref01_Intx5, oh := ohref01_Intx5, hk := [], tk := [], ot_to := fun _ _ => rfl, oh_to := fun _ _ => rfl }
def Fref01_Int (N : Nat) (n : Int) : Option ((List (Int))) :=
 (bif (decide (n < 0)) then
 (iter N (fun (s1 : Sref01_Intx5) next2 =>
 (bif (decide (128 ≤ s1.u)) then
 (bif (lenB ((s1.b).length + ([(IntKind.u8.wrap ((IntKind.u8.wrap (Int.tmod s1.u 128)) + 128))]).length) 1) then
 (next2 ⟨(IntKind.u64.wrap (Int.tdiv s1.u 128)), (s1.b ++ [(IntKind.u8.wrap ((IntKind.u8.wrap (Int.tmod s1.u 128)) + 128))])⟩)
 else none)
 else
 (bif (lenB ((s1.b).length + ([(IntKind.u8.wrap s1.u)]).length) 1) then
 (some (s1.b ++ [(IntKind.u8.wrap s1.u)]))
 else none))) ⟨(IntKind.u64.wrap ((IntKind.u64.wrap ((IntKind.u64.wrap (IntKind.i64.wrap (0 - (IntKind.i64.wrap (n + 1))))) * 2)) + 1)), []⟩)
 else
 (iter N (fun (s3 : Sref01_Intx5) next4 =>
 (bif (decide (128 ≤ s3.u)) then
 (bif (lenB ((s3.b).length + ([(IntKind.u8.wrap ((IntKind.u8.wrap (Int.tmod s3.u 128)) + 128))]).length) 1) then
 (next4 ⟨(IntKind.u64.wrap (Int.tdiv s3.u 128)), (s3.b ++ [(IntKind.u8.wrap ((IntKind.u8.wrap (Int.tmod s3.u 128)) + 128))])⟩)
 else none)
 else
 (bif (lenB ((s3.b).length + ([(IntKind.u8.wrap s3.u)]).length) 1) then
 (some (s3.b ++ [(IntKind.u8.wrap s3.u)]))
 else none))) ⟨(IntKind.u64.wrap ((IntKind.u64.wrap n) * 2)), []⟩))
def conref01_Int : Con τ := { args := [.ty 2], L := [], ret := .own 5 0, L' := [.tail], R := (List (Int)), dflt := default, F := fun N a b => Fref01_Int N a.1, of := fun r => (r, ((), ())) }
noncomputable def datref01_Int : Dat τ := { D := D0, tbl := tblOf [], lp := lpsOf [(5, lpref01_Intx5)], k0 := 0, mu := [], un := [] }
theorem okref01_Int : ConOk E C 41 conref01_Int :=
  con_ok (D := datref01_Int) ⟨d0Ok, eGood, tblOf_ok trivial, fun _ => rfl⟩ conref01_Int (fun a b => a) none (fun _ _ => rfl) rfl (fun _ _ h => nomatch h) 1000000 (fn := Try.f41) Try.func41 rfl (by kernel_rfl) (by kernel_rfl) rfl (by intro N a b; kernel_rfl)
def Fref01_Bytes (N : Nat) (l : List (Int)) : Option ((List (Int))) :=
 ((Fref01_Int N ((l).length : Int)).bind fun r1 =>
 (bif (lenB ((r1).length + (l).length) 1) then
 (some (r1 ++ l))
 else none))
def conref01_Bytes : Con τ := { args := [.ty 23], L := [], ret := .own 5 0, L' := [.tail], R := (List (Int)), dflt := default, F := fun N a b => Fref01_Bytes N a.1, of := fun r => (r, ((), ())) }
noncomputable def datref01_Bytes : Dat τ := { D := D0, tbl := tblOf [(41, conref01_Int)], lp := lpsOf [], k0 := 0, mu := [], un := [] }
theorem okref01_Bytes : ConOk E C 36 conref01_Bytes :=
  con_ok (D := datref01_Bytes) ⟨d0Ok, eGood, tblOf_ok ⟨okref01_Int, trivial⟩, fun _ => rfl⟩ conref01_Bytes (fun a b => a) none (fun _ _ => rfl) rfl (fun _ _ h => nomatch h) 1000000 (fn := Try.f36) Try.func36 rfl (by kernel_rfl) (by kernel_rfl) rfl (by intro N a b; kernel_rfl)
def Fwire_Reader_Bytes_d95 (N : Nat) (b0 : Gwire_Writer) : Option (Nat × Int × Gwire_Writer × (List (Int))) :=
 ((Fwire_Reader_none_d95 N b0).bind fun r1 =>
 (bif r1.1 then
 (some (0, 2, r1.2, []))
 else
 ((Fwire_parse N r1.2.b).bind fun r2 =>
 (bif (!(r2.2.2 == 0)) then
 (some (0, r2.2.2, r1.2, []))
 else
 (bif (decide (r2.1 < 0)) then
 (some (0, 11, r1.2, []))
 else
 (bif (decide ((IntKind.i64.wrap (((r1.2.b).length : Int) - r2.2.1)) < r2.1)) then
 (some (0, 10, r1.2, []))
 else
 (bif (cutB r2.2.1 (IntKind.i64.wrap (r2.2.1 + r2.1)) ((r1.2.b).length : Int)) then
 ((Fslices_Clone_byte_be0 N (cut r1.2.b r2.2.1 (IntKind.i64.wrap (r2.2.1 + r2.1)))).bind fun r3 =>
 (bif (cutB (IntKind.i64.wrap (r2.2.1 + r2.1)) ((r1.2.b).length : Int) ((r1.2.b).length : Int)) then
 (some (r3.1, 0, (⟨r1.2.made, (cut r1.2.b (IntKind.i64.wrap (r2.2.1 + r2.1)) ((r1.2.b).length : Int))⟩ : Gwire_Writer), r3.2))
 else none))
 else none)))))))
def conwire_Reader_Bytes_d95 : Con τ := { args := [.ptr 0 []], L := [.box (.ty 66)], ret := .tup [.msl 5 1, .ty 34], L' := [.box (.ty 66), .gbx 5], R := Nat × Int × Gwire_Writer × (List (Int)), dflt := (default, default, default, default), F := fun N a b => Fwire_Reader_Bytes_d95 N b.1, of := fun r => ((r.1, r.2.1, ()), (r.2.2.1, r.2.2.2, ())) }
noncomputable def datwire_Reader_Bytes_d95 : Dat τ := { D := D0, tbl := tblOf [(44, conwire_Reader_none_d95), (45, conwire_parse), (43, conslices_Clone_byte_be0)], lp := lpsOf [], k0 := 1, mu := [], un := [] }
theorem okwire_Reader_Bytes_d95 : ConOk E C 23 conwire_Reader_Bytes_d95 :=
  con_ok (D := datwire_Reader_Bytes_d95) ⟨d0Ok, eGood, tblOf_ok ⟨okwire_Reader_none_d95, ⟨okwire_parse, ⟨okslices_Clone_byte_be0, trivial⟩⟩⟩, fun _ => rfl⟩ conwire_Reader_Bytes_d95 (fun a b => (a.1, a.2.1, b.1, b.2.1)) none (fun _ _ => rfl) rfl (fun _ _ h => nomatch h) 1000000 (fn := Try.f23) Try.func23 rfl (by kernel_rfl) (by kernel_rfl) rfl (by intro N a b; kernel_rfl)
structure Slaw01_WireOwnx11 where
  t39 : Int
  g2 : List (Int)
def tslaw01_WireOwnx11 : List Sl := [.k, .k, .k, .k, .k, .k, .k, .k, .k, .j, .k, .k, .k, .k, .k, .k, .k, .k, .k, .k, .k, .k, .j, .j, .k, .k, .k, .k, .k, .k, .k, .k, .k, .k, .k, .k, .k, .k, .k, .sh (.ty 2), .j, .j, .j, .j, .j, .j, .j, .j, .j, .k, .k, .k, .k, .k, .k, .k, .k, .k, .k, .k, .k, .k, .k, .k, .k, .k, .k, .k, .k, .k, .k, .k, .k, .k, .k, .k, .k, .k, .k, .k, .k, .k, .k, .k, .k, .k, .k, .k, .k, .k, .k, .k, .k, .k, .k, .k, .k, .k, .k, .k, .k, .k, .k, .k, .k, .k, .k, .k, .k, .k, .k, .k, .k, .k, .k, .k, .k, .k, .k, .k, .k, .k, .k, .k, .k, .k, .k, .k, .k, .k, .k]
def hslaw01_WireOwnx11 : List ESh := [.keep, .keep, .gbx 5, .keep, .keep, .keep]
def tolaw01_WireOwnx11 (a : Sl.Ts τ tslaw01_WireOwnx11) (b : ESh.Ts τ hslaw01_WireOwnx11) : Slaw01_WireOwnx11 := ⟨a.2.2.2.2.2.2.2.2.2.2.2.2.2.2.2.2.2.2.2.2.2.2.2.2.2.2.2.2.2.2.2.2.2.2.2.2.2.2.2.1, b.2.2.1⟩
def otlaw01_WireOwnx11 (s : Slaw01_WireOwnx11) : Sl.Ts τ tslaw01_WireOwnx11 := ((), (), (), (), (), (), (), (), (), (), (), (), (), (), (), (), (), (), (), (), (), (), (), (), (), (), (), (), (), (), (), (), (), (), (), (), (), (), (), s.t39, (), (), (), (), (), (), (), (), (), (), (), (), (), (), (), (), (), (), (), (), (), (), (), (), (), (), (), (), (), (), (), (), (), (), (), (), (), (), (), (), (), (), (), (), (), (), (), (), (), (), (), (), (), (), (), (), (), (), (), (), (), (), (), (), (), (), (), (), (), (), (), (), (), (), (), (), (), (), (), (), (), (), (), (), (), (), (), (), (), (), (), ())
def ohlaw01_WireOwnx11 (s : Slaw01_WireOwnx11) : ESh.Ts τ hslaw01_WireOwnx11 := ((), (), s.g2, (), (), (), ())
def lplaw01_WireOwnx11 : Lp τ := { ts := tslaw01_WireOwnx11, hs := hslaw01_WireOwnx11, S := Slaw01_WireOwnx11, to := tolaw01_WireOwnx11, ot := otlaw01_WireOwnx11, oh := ohlaw01_WireOwnx11, hk := [2, 1, 4, 5, 4, 2], tk := [0, 0, 0, 2, 0, 0, 0, 0, 7, 0, 0, 0, 0, 0, 0, 2, 0, 0, 0, 2, 0, 0, 0, 0, 0, 2, 0, 0, 0, 0, 0, 0, 0, 0, 7, 7], ot_to := fun _ _ => rfl, oh_to := fun _ _ => rfl }
structure Slaw01_WireOwnx17 where
  t53 : Int
  g6 : List (Int)
def tslaw01_WireOwnx17 : List Sl := [.k, .k, .k, .k, .k, .k, .k, .k, .k, .k, .k, .j, .k, .k, .k, .k, .k, .k, .k, .k, .k, .k, .k, .k, .k, .k, .k, .k, .k, .k, .k, .k, .k, .k, .k, .k, .k, .k, .k, .k, .k, .k, .k, .k, .k, .k, .k, .k, .k, .k, .k, .k, .k, .sh (.ty 2), .j, .j, .j, .j, .j, .j, .j, .j, .j, .k, .k, .k, .k, .k, .k, .k, .k, .k, .k, .k, .k, .k, .k, .k, .k, .k, .k, .k, .k, .k, .k, .k, .k, .k, .k, .k, .k, .k, .k, .k, .k, .k, .k, .k, .k, .k, .k, .k, .k, .k, .k, .k, .k, .k, .k, .k, .k, .k, .k, .k, .k, .k, .k, .k, .k, .k, .k, .k, .k, .k, .k, .k, .k, .k, .k, .k, .k]
def hslaw01_WireOwnx17 : List ESh := [.keep, .keep, .keep, .keep, .keep, .keep, .gbx 5]
def tolaw01_WireOwnx17 (a : Sl.Ts τ tslaw01_WireOwnx17) (b : ESh.Ts τ hslaw01_WireOwnx17) : Slaw01_WireOwnx17 := ⟨a.2.2.2.2.2.2.2.2.2.2.2.2.2.2.2.2.2.2.2.2.2.2.2.2.2.2.2.2.2.2.2.2.2.2.2.2.2.2.2.2.2.2.2.2.2.2.2.2.2.2.2.2.2.1, b.2.2.2.2.2.2.1⟩
def otlaw01_WireOwnx17 (s : Slaw01_WireOwnx17) : Sl.Ts τ tslaw01_WireOwnx17 := ((), (), (), (), (), (), (), (), (), (), (), (), (), (), (), (), (), (), (), (), (), (), (), (), (), (), (), (), (), (), (), (), (), (), (), (), (), (), (), (), (), (), (), (), (), (), (), (), (), (), (), (), (), s.t53, (), (), (), (), (), (), (), (), (), (), (), (), (), (), (), (), (), (), (), (), (), (), (), (), (), (), (), (), (), (), (), (), (), (), (), (), (), (), (), (), (), (), (), (), (), (), (), (), (), (), (), (), (), (), (), (), (), (), (), (), (), (), (), (), (), (), (), (), (), (), (), (), (), (), (), (), (), ())
def ohlaw01_WireOwnx17 (s : Slaw01_WireOwnx17) : ESh.Ts τ hslaw01_WireOwnx17 := ((), (), (), (), (), (), s.g6, ())
def lplaw01_WireOwnx17 : Lp τ := { ts := tslaw01_WireOwnx17, hs := hslaw01_WireOwnx17, S := Slaw01_WireOwnx17, to := tolaw01_WireOwnx17, ot := otlaw01_WireOwnx17, oh := ohlaw01_WireOwnx17, hk := [2, 1, 4, 5, 4, 2, 4], tk := [0, 0, 0, 2, 0, 0, 0, 0, 7, 0, 0, 0, 0, 0, 0, 2, 0, 0, 0, 2, 0, 0, 0, 0, 0, 2, 0, 0, 0, 0, 0, 0, 0, 0, 7, 7, 0, 0, 0, 0, 0, 0, 0, 0, 0, 0, 0, 0, 0, 2], ot_to := fun _ _ => rfl, oh_to := fun _ _ => rfl }
structure Slaw01_WireOwnx24 where
  t75 : Int
  g4 : List (Int)
def tslaw01_WireOwnx24 : List Sl := [.k, .k, .k, .k, .k, .k, .k, .k, .k, .k, .k, .k, .j, .k, .k, .k, .k, .k, .k, .k, .k, .k, .k, .k, .k, .k, .k, .k, .k, .k, .k, .k, .k, .k, .k, .k, .k, .k, .k, .k, .k, .k, .k, .k, .k, .k, .k, .k, .k, .k, .k, .k, .k, .k, .k, .k, .k, .k, .k, .k, .k, .k, .k, .k, .k, .k, .j, .k, .j, .k, .k, .j, .k, .k, .k, .sh (.ty 2), .j, .j, .j, .j, .j, .j, .j, .j, .j, .k, .k, .k, .k, .k, .k, .k, .k, .k, .k, .k, .k, .k, .k, .k, .k, .k, .k, .k, .k, .k, .k, .k, .k, .k, .k, .k, .k, .k, .k, .k, .k, .k, .k, .k, .k, .k, .k, .k, .k, .k, .k, .k, .k, .k, .k]
def hslaw01_WireOwnx24 : List ESh := [.keep, .keep, .keep, .keep, .gbx 5, .keep, .keep, .keep, .keep]
def tolaw01_WireOwnx24 (a : Sl.Ts τ tslaw01_WireOwnx24) (b : ESh.Ts τ hslaw01_WireOwnx24) : Slaw01_WireOwnx24 := ⟨a.2.2.2.2.2.2.2.2.2.2.2.2.2.2.2.2.2.2.2.2.2.2.2.2.2.2.2.2.2.2.2.2.2.2.2.2.2.2.2.2.2.2.2.2.2.2.2.2.2.2.2.2.2.2.2.2.2.2.2.2.2.2.2.2.2.2.2.2.2.2.2.2.2.2.2.1, b.2.2.2.2.1⟩
def otlaw01_WireOwnx24 (s : Slaw01_WireOwnx24) : Sl.Ts τ tslaw01_WireOwnx24 := ((), (), (), (), (), (), (), (), (), (), (), (), (), (), (), (), (), (), (), (), (), (), (), (), (), (), (), (), (), (), (), (), (), (), (), (), (), (), (), (), (), (), (), (), (), (), (), (), (), (), (), (), (), (), (), (), (), (), (), (), (), (), (), (), (), (), (), (), (), (), (), (), (), (), (), s.t75, (), (), (), (), (), (), (), (), (), (), (), (), (), (), (), (), (), (), (), (), (), (), (), (), (), (), (), (), (), (), (), (), (), (), (), (), (), (), (), (), (), (), (), (), (), (), (), (), (), (), (), (), (), (), (), ())
def ohlaw01_WireOwnx24 (s : Slaw01_WireOwnx24) : ESh.Ts τ hslaw01_WireOwnx24 := ((), (), (), (), s.g4, (), (), (), (), ())
def lplaw01_WireOwnx24 : Lp τ := { ts := tslaw01_WireOwnx24, hs := hslaw01_WireOwnx24, S := Slaw01_WireOwnx24, to := tolaw01_WireOwnx24, ot := otlaw01_WireOwnx24, oh := ohlaw01_WireOwnx24, hk := [2, 1, 4, 5, 4, 2, 4, 4, 5], tk := [0, 0, 0, 2, 0, 0, 0, 0, 7, 0, 0, 0, 0, 0, 0, 2, 0, 0, 0, 2, 0, 0, 0, 0, 0, 2, 0, 0, 0, 0, 0, 0, 0, 0, 7, 7, 0, 0, 0, 0, 0, 0, 0, 0, 0, 0, 0, 0, 0, 2], ot_to := fun _ _ => rfl, oh_to := fun _ _ => rfl }
structure Slaw01_WireOwnx30 where
  t92 : Int
  g9 : List (Int)
def tslaw01_WireOwnx30 : List Sl := [.k, .k, .k, .k, .k, .k, .k, .k, .k, .k, .k, .k, .k, .k, .j, .k, .k, .k, .k, .k, .k, .k, .k, .k, .k, .k, .k, .k, .k, .k, .k, .k, .k, .k, .k, .k, .k, .k, .k, .k, .k, .k, .k, .k, .k, .k, .k, .k, .k, .k, .k, .k, .k, .k, .k, .k, .k, .k, .k, .k, .k, .k, .k, .k, .k, .k, .k, .k, .k, .k, .k, .k, .k, .k, .k, .k, .k, .k, .k, .k, .k, .k, .k, .k, .k, .k, .k, .k, .k, .k, .k, .k, .sh (.ty 2), .j, .j, .j, .j, .j, .j, .j, .j, .j, .k, .k, .k, .k, .k, .k, .k, .k, .k, .k, .k, .k, .k, .k, .k, .k, .k, .k, .k, .k, .k, .k, .k, .k, .k, .k, .k, .k, .k]
def hslaw01_WireOwnx30 : List ESh := [.keep, .keep, .keep, .keep, .keep, .keep, .keep, .keep, .keep, .gbx 5]
def tolaw01_WireOwnx30 (a : Sl.Ts τ tslaw01_WireOwnx30) (b : ESh.Ts τ hslaw01_WireOwnx30) : Slaw01_WireOwnx30 := ⟨a.2.2.2.2.2.2.2.2.2.2.2.2.2.2.2.2.2.2.2.2.2.2.2.2.2.2.2.2.2.2.2.2.2.2.2.2.2.2.2.2.2.2.2.2.2.2.2.2.2.2.2.2.2.2.2.2.2.2.2.2.2.2.2.2.2.2.2.2.2.2.2.2.2.2.2.2.2.2.2.2.2.2.2.2.2.2.2.2.2.2.2.2.1, b.2.2.2.2.2.2.2.2.2.1⟩
def otlaw01_WireOwnx30 (s : Slaw01_WireOwnx30) : Sl.Ts τ tslaw01_WireOwnx30 := ((), (), (), (), (), (), (), (), (), (), (), (), (), (), (), (), (), (), (), (), (), (), (), (), (), (), (), (), (), (), (), (), (), (), (), (), (), (), (), (), (), (), (), (), (), (), (), (), (), (), (), (), (), (), (), (), (), (), (), (), (), (), (), (), (), (), (), (), (), (), (), (), (), (), (), (), (), (), (), (), (), (), (), (), (), (), (), (), (), (), (), (), s.t92, (), (), (), (), (), (), (), (), (), (), (), (), (), (), (), (), (), (), (), (), (), (), (), (), (), (), (), (), (), (), (), (), (), (), (), (), (), (), ())
def ohlaw01_WireOwnx30 (s : Slaw01_WireOwnx30) : ESh.Ts τ hslaw01_WireOwnx30 := ((), (), (), (), (), (), (), (), (), s.g9, ())
def lplaw01_WireOwnx30 : Lp τ := { ts := tslaw01_WireOwnx30, hs := hslaw01_WireOwnx30, S := Slaw01_WireOwnx30, to := tolaw01_WireOwnx30, ot := otlaw01_WireOwnx30, oh := ohlaw01_WireOwnx30, hk := [2, 1, 4, 5, 4, 2, 4, 4, 5, 4], tk := [0, 0, 0, 2, 0, 0, 0, 0, 7, 0, 0, 0, 0, 0, 0, 2, 0, 0, 0, 2, 0, 0, 0, 0, 0, 2, 0, 0, 0, 0, 0, 0, 0, 0, 7, 7, 0, 0, 0, 0, 0, 0, 0, 0, 0, 0, 0, 0, 0, 2, 0, 0, 0, 0, 0, 0, 0, 0, 0, 0, 0, 0, 0, 0, 0, 0, 0, 0, 0, 0, 0, 0, 0, 0, 0, 0, 0, 0, 0, 0, 0, 0, 0, 0, 0, 0, 7], ot_to := fun _ _ => rfl, oh_to := fun _ _ => rfl }
structure Slaw01_WireOwnx24a where
  t75 : Int
  g4 : List (Int)
def tslaw01_WireOwnx24a : List Sl := [.k, .k, .k, .k, .k, .k, .k, .k, .k, .k, .k, .k, .j, .k, .k, .k, .k, .k, .k, .k, .k, .k, .k, .k, .k, .k, .k, .k, .k, .k, .k, .k, .k, .k, .k, .k, .k, .k, .k, .k, .k, .k, .k, .k, .k, .k, .k, .k, .k, .k, .k, .k, .k, .k, .k, .k, .k, .k, .k, .k, .k, .k, .k, .k, .k, .k, .j, .k, .j, .k, .k, .k, .k, .k, .k, .sh (.ty 2), .j, .j, .j, .j, .j, .j, .j, .j, .j, .k, .k, .k, .k, .k, .k, .k, .k, .k, .k, .k, .k, .k, .k, .k, .k, .k, .k, .k, .k, .k, .k, .k, .k, .k, .k, .k, .k, .k, .k, .k, .k, .k, .k, .k, .k, .k, .k, .k, .k, .k, .k, .k, .k, .k, .k]
def hslaw01_WireOwnx24a : List ESh := [.keep, .keep, .keep, .keep, .gbx 5, .keep, .keep, .keep]
def tolaw01_WireOwnx24a (a : Sl.Ts τ tslaw01_WireOwnx24a) (b : ESh.Ts τ hslaw01_WireOwnx24a) : Slaw01_WireOwnx24a := ⟨a.2.2.2.2.2.2.2.2.2.2.2.2.2.2.2.2.2.2.2.2.2.2.2.2.2.2.2.2.2.2.2.2.2.2.2.2.2.2.2.2.2.2.2.2.2.2.2.2.2.2.2.2.2.2.2.2.2.2.2.2.2.2.2.2.2.2.2.2.2.2.2.2.2.2.2.1, b.2.2.2.2.1⟩
def otlaw01_WireOwnx24a (s : Slaw01_WireOwnx24a) : Sl.Ts τ tslaw01_WireOwnx24a := ((), (), (), (), (), (), (), (), (), (), (), (), (), (), (), (), (), (), (), (), (), (), (), (), (), (), (), (), (), (), (), (), (), (), (), (), (), (), (), (), (), (), (), (), (), (), (), (), (), (), (), (), (), (), (), (), (), (), (), (), (), (), (), (), (), (), (), (), (), (), (), (), (), (), (), s.t75, (), (), (), (), (), (), (), (), (), (), (), (), (), (), (), (), (), (), (), (), (), (), (), (), (), (), (), (), (), (), (), (), (), (), (), (), (), (), (), (), (), (), (), (), (), (), (), (), (), (), (), (), (), (), (), ())
def ohlaw01_WireOwnx24a (s : Slaw01_WireOwnx24a) : ESh.Ts τ hslaw01_WireOwnx24a := ((), (), (), (), s.g4, (), (), (), ())
def lplaw01_WireOwnx24a : Lp τ := { ts := tslaw01_WireOwnx24a, hs := hslaw01_WireOwnx24a, S := Slaw01_WireOwnx24a, to := tolaw01_WireOwnx24a, ot := otlaw01_WireOwnx24a, oh := ohlaw01_WireOwnx24a, hk := [2, 1, 4, 5, 4, 2, 4, 4], tk := [0, 0, 0, 2, 0, 0, 0, 0, 7, 0, 0, 0, 0, 0, 0, 2, 0, 0, 0, 2, 0, 0, 0, 0, 0, 2, 0, 0, 0, 0, 0, 0, 0, 0, 7, 7, 0, 0, 0, 0, 0, 0, 0, 0, 0, 0, 0, 0, 0, 2], ot_to := fun _ _ => rfl, oh_to := fun _ _ => rfl }
structure Slaw01_WireOwnx30a where
  t92 : Int
  g8 : List (Int)
def tslaw01_WireOwnx30a : List Sl := [.k, .k, .k, .k, .k, .k, .k, .k, .k, .k, .k, .k, .k, .k, .j, .k, .k, .k, .k, .k, .k, .k, .k, .k, .k, .k, .k, .k, .k, .k, .k, .k, .k, .k, .k, .k, .k, .k, .k, .k, .k, .k, .k, .k, .k, .k, .k, .k, .k, .k, .k, .k, .k, .k, .k, .k, .k, .k, .k, .k, .k, .k, .k, .k, .k, .k, .k, .k, .k, .k, .k, .k, .k, .k, .k, .k, .k, .k, .k, .k, .k, .k, .k, .k, .k, .k, .k, .k, .k, .k, .k, .k, .sh (.ty 2), .j, .j, .j, .j, .j, .j, .j, .j, .j, .k, .k, .k, .k, .k, .k, .k, .k, .k, .k, .k, .k, .k, .k, .k, .k, .k, .k, .k, .k, .k, .k, .k, .k, .k, .k, .k, .k, .k]
def hslaw01_WireOwnx30a : List ESh := [.keep, .keep, .keep, .keep, .keep, .keep, .keep, .keep, .gbx 5]
def tolaw01_WireOwnx30a (a : Sl.Ts τ tslaw01_WireOwnx30a) (b : ESh.Ts τ hslaw01_WireOwnx30a) : Slaw01_WireOwnx30a := ⟨a.2.2.2.2.2.2.2.2.2.2.2.2.2.2.2.2.2.2.2.2.2.2.2.2.2.2.2.2.2.2.2.2.2.2.2.2.2.2.2.2.2.2.2.2.2.2.2.2.2.2.2.2.2.2.2.2.2.2.2.2.2.2.2.2.2.2.2.2.2.2.2.2.2.2.2.2.2.2.2.2.2.2.2.2.2.2.2.2.2.2.2.2.1, b.2.2.2.2.2.2.2.2.1⟩
def otlaw01_WireOwnx30a (s : Slaw01_WireOwnx30a) : Sl.Ts τ tslaw01_WireOwnx30a := ((), (), (), (), (), (), (), (), (), (), (), (), (), (), (), (), (), (), (), (), (), (), (), (), (), (), (), (), (), (), (), (), (), (), (), (), (), (), (), (), (), (), (), (), (), (), (), (), (), (), (), (), (), (), (), (), (), (), (), (), (), (), (), (), (), (), (), (), (), (), (), (), (), (), (), (), (), (), (), (), (), (), (), (), (), (), (), (), (), (), (), (), s.t92, (), (), (), (), (), (), (), (), (), (), (), (), (), (), (), (), (), (), (), (), (), (), (), (), (), (), (), (), (), (), (), (), (), (), (), (), (), (), ())
def ohlaw01_WireOwnx30a (s : Slaw01_WireOwnx30a) : ESh.Ts τ hslaw01_WireOwnx30a := ((), (), (), (), (), (), (), (), s.g8, ())
def lplaw01_WireOwnx30a : Lp τ := { ts := tslaw01_WireOwnx30a, hs := hslaw01_WireOwnx30a, S := Slaw01_WireOwnx30a, to := tolaw01_WireOwnx30a, ot := otlaw01_WireOwnx30a, oh := ohlaw01_WireOwnx30a, hk := [2, 1, 4, 5, 4, 2, 4, 4, 4], tk := [0, 0, 0, 2, 0, 0, 0, 0, 7, 0, 0, 0, 0, 0, 0, 2, 0, 0, 0, 2, 0, 0, 0, 0, 0, 2, 0, 0, 0, 0, 0, 0, 0, 0, 7, 7, 0, 0, 0, 0, 0, 0, 0, 0, 0, 0, 0, 0, 0, 2, 0, 0, 0, 0, 0, 0, 0, 0, 0, 0, 0, 0, 0, 0, 0, 0, 0, 0, 0, 0, 0, 0, 0, 0, 0, 0, 0, 0, 0, 0, 0, 0, 0, 0, 0, 0, 7], ot_to := fun _ _ => rfl, oh_to := fun _ _ => rfl }
structure Slaw01_WireOwnx24b where
  t75 : Int
  g4 : List (Int)
def tslaw01_WireOwnx24b : List Sl := [.k, .k, .k, .k, .k, .k, .k, .k, .k, .k, .k, .k, .j, .k, .k, .k, .k, .k, .k, .k, .k, .k, .k, .k, .k, .k, .k, .k, .k, .k, .k, .k, .k, .k, .k, .k, .k, .k, .k, .k, .k, .k, .k, .k, .k, .k, .k, .k, .k, .k, .k, .k, .k, .k, .k, .k, .k, .k, .k, .k, .k, .k, .k, .k, .k, .k, .j, .k, .k, .k, .k, .k, .k, .k, .k, .sh (.ty 2), .j, .j, .j, .j, .j, .j, .j, .j, .j, .k, .k, .k, .k, .k, .k, .k, .k, .k, .k, .k, .k, .k, .k, .k, .k, .k, .k, .k, .k, .k, .k, .k, .k, .k, .k, .k, .k, .k, .k, .k, .k, .k, .k, .k, .k, .k, .k, .k, .k, .k, .k, .k, .k, .k, .k]
def hslaw01_WireOwnx24b : List ESh := [.keep, .keep, .keep, .keep, .gbx 5, .keep, .keep]
def tolaw01_WireOwnx24b (a : Sl.Ts τ tslaw01_WireOwnx24b) (b : ESh.Ts τ hslaw01_WireOwnx24b) : Slaw01_WireOwnx24b := ⟨a.2.2.2.2.2.2.2.2.2.2.2.2.2.2.2.2.2.2.2.2.2.2.2.2.2.2.2.2.2.2.2.2.2.2.2.2.2.2.2.2.2.2.2.2.2.2.2.2.2.2.2.2.2.2.2.2.2.2.2.2.2.2.2.2.2.2.2.2.2.2.2.2.2.2.2.1, b.2.2.2.2.1⟩
def otlaw01_WireOwnx24b (s : Slaw01_WireOwnx24b) : Sl.Ts τ tslaw01_WireOwnx24b := ((), (), (), (), (), (), (), (), (), (), (), (), (), (), (), (), (), (), (), (), (), (), (), (), (), (), (), (), (), (), (), (), (), (), (), (), (), (), (), (), (), (), (), (), (), (), (), (), (), (), (), (), (), (), (), (), (), (), (), (), (), (), (), (), (), (), (), (), (), (), (), (), (), (), (), s.t75, (), (), (), (), (), (), (), (), (), (), (), (), (), (), (), (), (), (), (), (), (), (), (), (), (), (), (), (), (), (), (), (), (), (), (), (), (), (), (), (), (), (), (), (), (), (), (), (), (), (), (), (), (), (), (), ())
def ohlaw01_WireOwnx24b (s : Slaw01_WireOwnx24b) : ESh.Ts τ hslaw01_WireOwnx24b := ((), (), (), (), s.g4, (), (), ())
def lplaw01_WireOwnx24b : Lp τ := { ts := tslaw01_WireOwnx24b, hs := hslaw01_WireOwnx24b, S := Slaw01_WireOwnx24b, to := tolaw01_WireOwnx24b, ot := otlaw01_WireOwnx24b, oh := ohlaw01_WireOwnx24b, hk := [2, 1, 4, 5, 4, 2, 4], tk := [0, 0, 0, 2, 0, 0, 0, 0, 7, 0, 0, 0, 0, 0, 0, 2, 0, 0, 0, 2, 0, 0, 0, 0, 0, 2, 0, 0, 0, 0, 0, 0, 0, 0, 7, 7, 0, 0, 0, 0, 0, 0, 0, 0, 0, 0, 0, 0, 0, 2], ot_to := fun _ _ => rfl, oh_to := fun _ _ => rfl }
structure Slaw01_WireOwnx30b where
  t92 : Int
  g7 : List (Int)
def tslaw01_WireOwnx30b : List Sl := [.k, .k, .k, .k, .k, .k, .k, .k, .k, .k, .k, .k, .k, .k, .j, .k, .k, .k, .k, .k, .k, .k, .k, .k, .k, .k, .k, .k, .k, .k, .k, .k, .k, .k, .k, .k, .k, .k, .k, .k, .k, .k, .k, .k, .k, .k, .k, .k, .k, .k, .k, .k, .k, .k, .k, .k, .k, .k, .k, .k, .k, .k, .k, .k, .k, .k, .k, .k, .k, .k, .k, .k, .k, .k, .k, .k, .k, .k, .k, .k, .k, .k, .k, .k, .k, .k, .k, .k, .k, .k, .k, .k, .sh (.ty 2), .j, .j, .j, .j, .j, .j, .j, .j, .j, .k, .k, .k, .k, .k, .k, .k, .k, .k, .k, .k, .k, .k, .k, .k, .k, .k, .k, .k, .k, .k, .k, .k, .k, .k, .k, .k, .k, .k]
def hslaw01_WireOwnx30b : List ESh := [.keep, .keep, .keep, .keep, .keep, .keep, .keep, .gbx 5]
def tolaw01_WireOwnx30b (a : Sl.Ts τ tslaw01_WireOwnx30b) (b : ESh.Ts τ hslaw01_WireOwnx30b) : Slaw01_WireOwnx30b := ⟨a.2.2.2.2.2.2.2.2.2.2.2.2.2.2.2.2.2.2.2.2.2.2.2.2.2.2.2.2.2.2.2.2.2.2.2.2.2.2.2.2.2.2.2.2.2.2.2.2.2.2.2.2.2.2.2.2.2.2.2.2.2.2.2.2.2.2.2.2.2.2.2.2.2.2.2.2.2.2.2.2.2.2.2.2.2.2.2.2.2.2.2.2.1, b.2.2.2.2.2.2.2.1⟩
def otlaw01_WireOwnx30b (s : Slaw01_WireOwnx30b) : Sl.Ts τ tslaw01_WireOwnx30b := ((), (), (), (), (), (), (), (), (), (), (), (), (), (), (), (), (), (), (), (), (), (), (), (), (), (), (), (), (), (), (), (), (), (), (), (), (), (), (), (), (), (), (), (), (), (), (), (), (), (), (), (), (), (), (), (), (), (), (), (), (), (), (), (), (), (), (), (), (), (), (), (), (), (), (), (), (), (), (), (), (), (), (), (), (), (), (), (), (), (), (), (), s.t92, (), (), (), (), (), (), (), (), (), (), (), (), (), (), (), (), (), (), (), (), (), (), (), (), (), (), (), (), (), (), (), (), (), (), (), (), (), (), ())
def ohlaw01_WireOwnx30b (s : Slaw01_WireOwnx30b) : ESh.Ts τ hslaw01_WireOwnx30b := ((), (), (), (), (), (), (), s.g7, ())
def lplaw01_WireOwnx30b : Lp τ := { ts := tslaw01_WireOwnx30b, hs := hslaw01_WireOwnx30b, S := Slaw01_WireOwnx30b, to := tolaw01_WireOwnx30b, ot := otlaw01_WireOwnx30b, oh := ohlaw01_WireOwnx30b, hk := [2, 1, 4, 5, 4, 2, 4, 4], tk := [0, 0, 0, 2, 0, 0, 0, 0, 7, 0, 0, 0, 0, 0, 0, 2, 0, 0, 0, 2, 0, 0, 0, 0, 0, 2, 0, 0, 0, 0, 0, 0, 0, 0, 7, 7, 0, 0, 0, 0, 0, 0, 0, 0, 0, 0, 0, 0, 0, 2, 0, 0, 0, 0, 0, 0, 0, 0, 0, 0, 0, 0, 0, 0, 0, 0, 0, 0, 0, 0, 0, 0, 0, 0, 0, 0, 0, 0, 0, 0, 0, 0, 0, 0, 0, 0, 7], ot_to := fun _ _ => rfl, oh_to := fun _ _ => rfl }
def Flaw01_WireOwn (N : Nat) (b : List (Int)) : Option (Bool) :=
 ((Fwire_NewWriter N).bind fun r1 =>
 (bif (lenB ((b).length) 1) then
 ((Flaw01_live N).bind fun r2 =>
 (bif (!r2) then
 (some false)
 else
 ((Fwire_Writer_Bytes_b91 N ((b).length) r1.1 r1.2 b).bind fun r3 =>
 ((Fwire_Frame_6ac N ((b).length) r3.2.2.2).bind fun r4 =>
 ((Fwire_NewReader_6ac N r4.1 r4.2.2.2).bind fun r5 =>
 (iter N (fun (s6 : Slaw01_WireOwnx11) next7 =>
 (bif (decide (s6.t39 < (((b).length : Nat) : Int))) then
 (bif (ibB s6.t39 (((b).length : Nat) : Int)) then
 (bif (decide ((s6.t39).toNat < (s6.g2).length)) then
 (bif (ibB s6.t39 (((b).length : Nat) : Int)) then
 (bif (decide ((s6.t39).toNat < (s6.g2).length)) then
 (next7 ⟨(IntKind.i64.wrap (s6.t39 + 1)), (s6.g2.set ((s6.t39).toNat) (bits .xor .u8 (s6.g2.getD ((s6.t39).toNat) default) 255))⟩)
 else none)
 else none)
 else none)
 else none)
 else
 ((Fwire_Writer_Out_052 N r3.2.1 r3.2.2.1).bind fun r8 =>
 (iter N (fun (s9 : Slaw01_WireOwnx17) next10 =>
 (bif (decide (s9.t53 < ((r8.1 : Nat) : Int))) then
 (bif (ibB s9.t53 ((r8.1 : Nat) : Int)) then
 (bif (decide ((s9.t53).toNat < (s9.g6).length)) then
 (bif (ibB s9.t53 ((r8.1 : Nat) : Int)) then
 (bif (decide ((s9.t53).toNat < (s9.g6).length)) then
 (next10 ⟨(IntKind.i64.wrap (s9.t53 + 1)), (s9.g6.set ((s9.t53).toNat) (bits .xor .u8 (s9.g6.getD ((s9.t53).toNat) default) 255))⟩)
 else none)
 else none)
 else none)
 else none)
 else
 (bif (r3.1 == 0) then
 ((Fwire_Writer_Out_052 N r8.2.1 r8.2.2.1).bind fun r11 =>
 (bif (r3.1 == 0) then
 ((Fref01_Bytes N b).bind fun r12 =>
 (bif (r3.1 == 0) then
 ((Fbytes_Equal_27b N r11.1 r12 r11.2.2.2).bind fun r13 =>
 (bif ((r3.1 == 0) && (!r13.1)) then
 (some false)
 else
 (iter N (fun (s14 : Slaw01_WireOwnx24) next15 =>
 (bif (decide (s14.t75 < ((r4.1 : Nat) : Int))) then
 (bif (ibB s14.t75 ((r4.1 : Nat) : Int)) then
 (bif (decide ((s14.t75).toNat < (s14.g4).length)) then
 (bif (ibB s14.t75 ((r4.1 : Nat) : Int)) then
 (bif (decide ((s14.t75).toNat < (s14.g4).length)) then
 (next15 ⟨(IntKind.i64.wrap (s14.t75 + 1)), (s14.g4.set ((s14.t75).toNat) (bits .xor .u8 (s14.g4.getD ((s14.t75).toNat) default) 255))⟩)
 else none)
 else none)
 else none)
 else none)
 else
 ((Fwire_Reader_Bytes_d95 N r5.2).bind fun r16 =>
 (iter N (fun (s17 : Slaw01_WireOwnx30) next18 =>
 (bif (decide (s17.t92 < ((r16.1 : Nat) : Int))) then
 (bif (ibB s17.t92 ((r16.1 : Nat) : Int)) then
 (bif (decide ((s17.t92).toNat < (s17.g9).length)) then
 (bif (ibB s17.t92 ((r16.1 : Nat) : Int)) then
 (bif (decide ((s17.t92).toNat < (s17.g9).length)) then
 (next18 ⟨(IntKind.i64.wrap (s17.t92 + 1)), (s17.g9.set ((s17.t92).toNat) (bits .xor .u8 (s17.g9.getD ((s17.t92).toNat) default) 255))⟩)
 else none)
 else none)
 else none)
 else none)
 else
 (bif (!(((!(decide (1048576 < ((b).length : Int)))) && ((r16.2.1 == 0) && (((r16.1 : Nat) : Int) == ((b).length : Int)))) && (!(((b).length : Int) == 0))) || (ibB 0 ((r16.1 : Nat) : Int))) then
 (bif (!(((!(decide (1048576 < ((b).length : Int)))) && ((r16.2.1 == 0) && (((r16.1 : Nat) : Int) == ((b).length : Int)))) && (!(((b).length : Int) == 0))) || (decide (0 < (s17.g9).length))) then
 (bif (!(((!(decide (1048576 < ((b).length : Int)))) && ((r16.2.1 == 0) && (((r16.1 : Nat) : Int) == ((b).length : Int)))) && (!(((b).length : Int) == 0))) || (ibB 0 ((b).length : Int))) then
 (some ((decide (1048576 < ((b).length : Int))) || (((r16.2.1 == 0) && (((r16.1 : Nat) : Int) == ((b).length : Int))) && ((((b).length : Int) == 0) || ((s17.g9.getD 0 default) == (bits .xor .u8 (lget b 0 default) 255))))))
 else none)
 else none)
 else none))) ⟨0, r16.2.2.2⟩)))) ⟨0, r5.1⟩)))
 else
 (iter N (fun (s19 : Slaw01_WireOwnx24) next20 =>
 (bif (decide (s19.t75 < ((r4.1 : Nat) : Int))) then
 (bif (ibB s19.t75 ((r4.1 : Nat) : Int)) then
 (bif (decide ((s19.t75).toNat < (s19.g4).length)) then
 (bif (ibB s19.t75 ((r4.1 : Nat) : Int)) then
 (bif (decide ((s19.t75).toNat < (s19.g4).length)) then
 (next20 ⟨(IntKind.i64.wrap (s19.t75 + 1)), (s19.g4.set ((s19.t75).toNat) (bits .xor .u8 (s19.g4.getD ((s19.t75).toNat) default) 255))⟩)
 else none)
 else none)
 else none)
 else none)
 else
 ((Fwire_Reader_Bytes_d95 N r5.2).bind fun r21 =>
 (iter N (fun (s22 : Slaw01_WireOwnx30) next23 =>
 (bif (decide (s22.t92 < ((r21.1 : Nat) : Int))) then
 (bif (ibB s22.t92 ((r21.1 : Nat) : Int)) then
 (bif (decide ((s22.t92).toNat < (s22.g9).length)) then
 (bif (ibB s22.t92 ((r21.1 : Nat) : Int)) then
 (bif (decide ((s22.t92).toNat < (s22.g9).length)) then
 (next23 ⟨(IntKind.i64.wrap (s22.t92 + 1)), (s22.g9.set ((s22.t92).toNat) (bits .xor .u8 (s22.g9.getD ((s22.t92).toNat) default) 255))⟩)
 else none)
 else none)
 else none)
 else none)
 else
 (bif (!(((!(decide (1048576 < ((b).length : Int)))) && ((r21.2.1 == 0) && (((r21.1 : Nat) : Int) == ((b).length : Int)))) && (!(((b).length : Int) == 0))) || (ibB 0 ((r21.1 : Nat) : Int))) then
 (bif (!(((!(decide (1048576 < ((b).length : Int)))) && ((r21.2.1 == 0) && (((r21.1 : Nat) : Int) == ((b).length : Int)))) && (!(((b).length : Int) == 0))) || (decide (0 < (s22.g9).length))) then
 (bif (!(((!(decide (1048576 < ((b).length : Int)))) && ((r21.2.1 == 0) && (((r21.1 : Nat) : Int) == ((b).length : Int)))) && (!(((b).length : Int) == 0))) || (ibB 0 ((b).length : Int))) then
 (some ((decide (1048576 < ((b).length : Int))) || (((r21.2.1 == 0) && (((r21.1 : Nat) : Int) == ((b).length : Int))) && ((((b).length : Int) == 0) || ((s22.g9.getD 0 default) == (bits .xor .u8 (lget b 0 default) 255))))))
 else none)
 else none)
 else none))) ⟨0, r21.2.2.2⟩)))) ⟨0, r5.1⟩)))
 else
 (iter N (fun (s24 : Slaw01_WireOwnx24a) next25 =>
 (bif (decide (s24.t75 < ((r4.1 : Nat) : Int))) then
 (bif (ibB s24.t75 ((r4.1 : Nat) : Int)) then
 (bif (decide ((s24.t75).toNat < (s24.g4).length)) then
 (bif (ibB s24.t75 ((r4.1 : Nat) : Int)) then
 (bif (decide ((s24.t75).toNat < (s24.g4).length)) then
 (next25 ⟨(IntKind.i64.wrap (s24.t75 + 1)), (s24.g4.set ((s24.t75).toNat) (bits .xor .u8 (s24.g4.getD ((s24.t75).toNat) default) 255))⟩)
 else none)
 else none)
 else none)
 else none)
 else
 ((Fwire_Reader_Bytes_d95 N r5.2).bind fun r26 =>
 (iter N (fun (s27 : Slaw01_WireOwnx30a) next28 =>
 (bif (decide (s27.t92 < ((r26.1 : Nat) : Int))) then
 (bif (ibB s27.t92 ((r26.1 : Nat) : Int)) then
 (bif (decide ((s27.t92).toNat < (s27.g8).length)) then
 (bif (ibB s27.t92 ((r26.1 : Nat) : Int)) then
 (bif (decide ((s27.t92).toNat < (s27.g8).length)) then
 (next28 ⟨(IntKind.i64.wrap (s27.t92 + 1)), (s27.g8.set ((s27.t92).toNat) (bits .xor .u8 (s27.g8.getD ((s27.t92).toNat) default) 255))⟩)
 else none)
 else none)
 else none)
 else none)
 else
 (bif (!(((!(decide (1048576 < ((b).length : Int)))) && ((r26.2.1 == 0) && (((r26.1 : Nat) : Int) == ((b).length : Int)))) && (!(((b).length : Int) == 0))) || (ibB 0 ((r26.1 : Nat) : Int))) then
 (bif (!(((!(decide (1048576 < ((b).length : Int)))) && ((r26.2.1 == 0) && (((r26.1 : Nat) : Int) == ((b).length : Int)))) && (!(((b).length : Int) == 0))) || (decide (0 < (s27.g8).length))) then
 (bif (!(((!(decide (1048576 < ((b).length : Int)))) && ((r26.2.1 == 0) && (((r26.1 : Nat) : Int) == ((b).length : Int)))) && (!(((b).length : Int) == 0))) || (ibB 0 ((b).length : Int))) then
 (some ((decide (1048576 < ((b).length : Int))) || (((r26.2.1 == 0) && (((r26.1 : Nat) : Int) == ((b).length : Int))) && ((((b).length : Int) == 0) || ((s27.g8.getD 0 default) == (bits .xor .u8 (lget b 0 default) 255))))))
 else none)
 else none)
 else none))) ⟨0, r26.2.2.2⟩)))) ⟨0, r5.1⟩)))
 else
 (iter N (fun (s29 : Slaw01_WireOwnx24b) next30 =>
 (bif (decide (s29.t75 < ((r4.1 : Nat) : Int))) then
 (bif (ibB s29.t75 ((r4.1 : Nat) : Int)) then
 (bif (decide ((s29.t75).toNat < (s29.g4).length)) then
 (bif (ibB s29.t75 ((r4.1 : Nat) : Int)) then
 (bif (decide ((s29.t75).toNat < (s29.g4).length)) then
 (next30 ⟨(IntKind.i64.wrap (s29.t75 + 1)), (s29.g4.set ((s29.t75).toNat) (bits .xor .u8 (s29.g4.getD ((s29.t75).toNat) default) 255))⟩)
 else none)
 else none)
 else none)
 else none)
 else
 ((Fwire_Reader_Bytes_d95 N r5.2).bind fun r31 =>
 (iter N (fun (s32 : Slaw01_WireOwnx30b) next33 =>
 (bif (decide (s32.t92 < ((r31.1 : Nat) : Int))) then
 (bif (ibB s32.t92 ((r31.1 : Nat) : Int)) then
 (bif (decide ((s32.t92).toNat < (s32.g7).length)) then
 (bif (ibB s32.t92 ((r31.1 : Nat) : Int)) then
 (bif (decide ((s32.t92).toNat < (s32.g7).length)) then
 (next33 ⟨(IntKind.i64.wrap (s32.t92 + 1)), (s32.g7.set ((s32.t92).toNat) (bits .xor .u8 (s32.g7.getD ((s32.t92).toNat) default) 255))⟩)
 else none)
 else none)
 else none)
 else none)
 else
 (bif (!(((!(decide (1048576 < ((b).length : Int)))) && ((r31.2.1 == 0) && (((r31.1 : Nat) : Int) == ((b).length : Int)))) && (!(((b).length : Int) == 0))) || (ibB 0 ((r31.1 : Nat) : Int))) then
 (bif (!(((!(decide (1048576 < ((b).length : Int)))) && ((r31.2.1 == 0) && (((r31.1 : Nat) : Int) == ((b).length : Int)))) && (!(((b).length : Int) == 0))) || (decide (0 < (s32.g7).length))) then
 (bif (!(((!(decide (1048576 < ((b).length : Int)))) && ((r31.2.1 == 0) && (((r31.1 : Nat) : Int) == ((b).length : Int)))) && (!(((b).length : Int) == 0))) || (ibB 0 ((b).length : Int))) then
 (some ((decide (1048576 < ((b).length : Int))) || (((r31.2.1 == 0) && (((r31.1 : Nat) : Int) == ((b).length : Int))) && ((((b).length : Int) == 0) || ((s32.g7.getD 0 default) == (bits .xor .u8 (lget b 0 default) 255))))))
 else none)
 else none)
 else none))) ⟨0, r31.2.2.2⟩)))) ⟨0, r5.1⟩)))) ⟨0, r8.2.2.2⟩)))) ⟨0, r4.2.2.1⟩))))))
 else none))
def conlaw01_WireOwn : Con τ := { args := [.ty 23], L := [], ret := .ty 4, L' := [], R := Bool, dflt := default, F := fun N a b => Flaw01_WireOwn N a.1, of := fun r => (r, ()) }
noncomputable def datlaw01_WireOwn : Dat τ := { D := D0, tbl := tblOf [(16, conwire_NewWriter), (13, conlaw01_live), (32, conwire_Writer_Bytes_b91), (35, conwire_Frame_6ac), (21, conwire_NewReader_6ac), (20, conwire_Writer_Out_052), (36, conref01_Bytes), (19, conbytes_Equal_27b), (23, conwire_Reader_Bytes_d95)], lp := lpsOf [(11, lplaw01_WireOwnx11), (17, lplaw01_WireOwnx17), (24, lplaw01_WireOwnx24), (30, lplaw01_WireOwnx30), (24, lplaw01_WireOwnx24a), (30, lplaw01_WireOwnx30a), (24, lplaw01_WireOwnx24b), (30, lplaw01_WireOwnx30b)], k0 := 0, mu := [18], un := [] }
theorem oklaw01_WireOwn : ConOk E C 8 conlaw01_WireOwn :=
  con_ok (D := datlaw01_WireOwn) ⟨d0Ok, eGood, tblOf_ok ⟨okwire_NewWriter, ⟨oklaw01_live, ⟨okwire_Writer_Bytes_b91, ⟨okwire_Frame_6ac, ⟨okwire_NewReader_6ac, ⟨okwire_Writer_Out_052, ⟨okref01_Bytes, ⟨okbytes_Equal_27b, ⟨okwire_Reader_Bytes_d95, trivial⟩⟩⟩⟩⟩⟩⟩⟩⟩, fun _ => rfl⟩ conlaw01_WireOwn (fun a b => a) none (fun _ _ => rfl) rfl (fun _ _ h => nomatch h) 1000000 (fn := Try.f8) Try.func8 rfl (by kernel_rfl) (by kernel_rfl) rfl (by intro N a b; kernel_rfl)
end Go.Proofs.Yticlnhhaaidmaaa
