/-
The functions of this seat, as plain functions over typed data, each with its contract. Printed by wip/tools/fngen.py.
-/
import Derived.Test.YticlnhhaaidmaaaqCod
import Derived.Test.YticlnhhaaidmaaaqTvX
import Derived.KernelRfl
set_option linter.unusedVariables false
set_option maxRecDepth 100000
namespace Go.Proofs.Yticlnhhaaidmaaa
open Go Go.Ev
structure Swire_numberx5 where
  u : Int
  b : List (Int)
def tswire_numberx5 : List Sl := [.k, .k, .k, .sh (.ty 12), .sh (.own 5 0), .k, .k, .k, .k, .k, .k, .k, .j, .j, .j, .j, .j, .j, .j, .j, .j, .j, .k, .k, .k, .k, .k]
def hswire_numberx5 : List ESh := [.tail]
def towire_numberx5 (a : Sl.Ts τ tswire_numberx5) (b : ESh.Ts τ hswire_numberx5) : Swire_numberx5 := ⟨a.2.2.2.1, a.2.2.2.2.1⟩
def otwire_numberx5 (s : Swire_numberx5) : Sl.Ts τ tswire_numberx5 := ((), (), (), s.u, s.b, (), (), (), (), (), (), (), (), (), (), (), (), (), (), (), (), (), (), (), (), (), (), ())
def ohwire_numberx5 (s : Swire_numberx5) : ESh.Ts τ hswire_numberx5 := ((), ())
def lpwire_numberx5 : Lp τ := { ts := tswire_numberx5, hs := hswire_numberx5, S := Swire_numberx5, to := towire_numberx5, ot := otwire_numberx5, oh := ohwire_numberx5, hk := [], tk := [], ot_to := fun _ _ => rfl, oh_to := fun _ _ => rfl }
def Fwire_number (N : Nat) (n : Int) : Option ((List (Int))) :=
 (bif (decide (n < 0)) then
 (iter N (fun (s1 : Swire_numberx5) next2 =>
 (bif (decide (128 ≤ s1.u)) then
 (bif (lenB ((s1.b).length + ([(bits .or .u8 (IntKind.u8.wrap s1.u) 128)]).length) 1) then
 (next2 ⟨(shr .u64 s1.u 7), (s1.b ++ [(bits .or .u8 (IntKind.u8.wrap s1.u) 128)])⟩)
 else none)
 else
 (bif (lenB ((s1.b).length + ([(IntKind.u8.wrap s1.u)]).length) 1) then
 (some (s1.b ++ [(IntKind.u8.wrap s1.u)]))
 else none))) ⟨(bits .xor .u64 IntKind.u64.max (shl .u64 (IntKind.u64.wrap n) 1)), []⟩)
 else
 (iter N (fun (s3 : Swire_numberx5) next4 =>
 (bif (decide (128 ≤ s3.u)) then
 (bif (lenB ((s3.b).length + ([(bits .or .u8 (IntKind.u8.wrap s3.u) 128)]).length) 1) then
 (next4 ⟨(shr .u64 s3.u 7), (s3.b ++ [(bits .or .u8 (IntKind.u8.wrap s3.u) 128)])⟩)
 else none)
 else
 (bif (lenB ((s3.b).length + ([(IntKind.u8.wrap s3.u)]).length) 1) then
 (some (s3.b ++ [(IntKind.u8.wrap s3.u)]))
 else none))) ⟨(shl .u64 (IntKind.u64.wrap n) 1), []⟩))
def conwire_number : Con τ := { args := [.ty 2], L := [], ret := .own 5 0, L' := [.tail], R := (List (Int)), dflt := default, F := fun N a b => Fwire_number N a.1, of := fun r => (r, ((), ())) }
noncomputable def datwire_number : Dat τ := { D := D0, tbl := tblOf [], lp := lpsOf [(5, lpwire_numberx5)], k0 := 0, mu := [], un := [] }
theorem okwire_number : ConOk E C 49 conwire_number :=
  con_ok (D := datwire_number) ⟨d0Ok, eGood, tblOf_ok trivial, fun _ => rfl⟩ conwire_number (fun a b => a) none (fun _ _ => rfl) rfl (fun _ _ h => nomatch h) 1000000 (fn := Try.f49) Try.func49 rfl (by kernel_rfl) (by kernel_rfl) rfl (by intro N a b; kernel_rfl)
structure Swire_Sumx3 where
  sum : Int
  t11 : Int
def tswire_Sumx3 : List Sl := [.k, .k, .k, .sh (.ty 25), .k, .j, .k, .j, .j, .k, .k, .sh (.ty 2), .j, .j, .j, .j, .j, .j, .j, .j, .j, .j, .j, .j, .j, .j, .j, .j, .j, .j, .j, .j, .j, .j, .j, .j, .j, .j, .k, .k]
def hswire_Sumx3 : List ESh := []
def towire_Sumx3 (a : Sl.Ts τ tswire_Sumx3) (b : ESh.Ts τ hswire_Sumx3) : Swire_Sumx3 := ⟨a.2.2.2.1, a.2.2.2.2.2.2.2.2.2.2.2.1⟩
def otwire_Sumx3 (s : Swire_Sumx3) : Sl.Ts τ tswire_Sumx3 := ((), (), (), s.sum, (), (), (), (), (), (), (), s.t11, (), (), (), (), (), (), (), (), (), (), (), (), (), (), (), (), (), (), (), (), (), (), (), (), (), (), (), (), ())
def ohwire_Sumx3 (s : Swire_Sumx3) : ESh.Ts τ hswire_Sumx3 := ()
def lpwire_Sumx3 : Lp τ := { ts := tswire_Sumx3, hs := hswire_Sumx3, S := Swire_Sumx3, to := towire_Sumx3, ot := otwire_Sumx3, oh := ohwire_Sumx3, hk := [], tk := [], ot_to := fun _ _ => rfl, oh_to := fun _ _ => rfl }
structure Swire_Sumx6 where
  sum : Int
  t17 : Int
def tswire_Sumx6 : List Sl := [.k, .k, .k, .sh (.ty 25), .k, .k, .k, .j, .j, .k, .k, .k, .k, .k, .k, .k, .k, .sh (.ty 2), .j, .j, .j, .j, .j, .j, .j, .j, .j, .j, .j, .j, .j, .j, .j, .j, .j, .j, .j, .k, .k, .k]
def hswire_Sumx6 : List ESh := []
def towire_Sumx6 (a : Sl.Ts τ tswire_Sumx6) (b : ESh.Ts τ hswire_Sumx6) : Swire_Sumx6 := ⟨a.2.2.2.1, a.2.2.2.2.2.2.2.2.2.2.2.2.2.2.2.2.2.1⟩
def otwire_Sumx6 (s : Swire_Sumx6) : Sl.Ts τ tswire_Sumx6 := ((), (), (), s.sum, (), (), (), (), (), (), (), (), (), (), (), (), (), s.t17, (), (), (), (), (), (), (), (), (), (), (), (), (), (), (), (), (), (), (), (), (), (), ())
def ohwire_Sumx6 (s : Swire_Sumx6) : ESh.Ts τ hswire_Sumx6 := ()
def lpwire_Sumx6 : Lp τ := { ts := tswire_Sumx6, hs := hswire_Sumx6, S := Swire_Sumx6, to := towire_Sumx6, ot := otwire_Sumx6, oh := ohwire_Sumx6, hk := [], tk := [], ot_to := fun _ _ => rfl, oh_to := fun _ _ => rfl }
structure Swire_Sumx10 where
  sum : Int
  t25 : Int
def tswire_Sumx10 : List Sl := [.k, .k, .k, .sh (.ty 25), .k, .k, .k, .k, .j, .k, .k, .k, .k, .k, .k, .k, .k, .k, .k, .k, .k, .k, .k, .k, .k, .sh (.ty 2), .j, .j, .j, .j, .j, .j, .j, .j, .j, .j, .k, .k, .k, .k]
def hswire_Sumx10 : List ESh := []
def towire_Sumx10 (a : Sl.Ts τ tswire_Sumx10) (b : ESh.Ts τ hswire_Sumx10) : Swire_Sumx10 := ⟨a.2.2.2.1, a.2.2.2.2.2.2.2.2.2.2.2.2.2.2.2.2.2.2.2.2.2.2.2.2.2.1⟩
def otwire_Sumx10 (s : Swire_Sumx10) : Sl.Ts τ tswire_Sumx10 := ((), (), (), s.sum, (), (), (), (), (), (), (), (), (), (), (), (), (), (), (), (), (), (), (), (), (), s.t25, (), (), (), (), (), (), (), (), (), (), (), (), (), (), ())
def ohwire_Sumx10 (s : Swire_Sumx10) : ESh.Ts τ hswire_Sumx10 := ()
def lpwire_Sumx10 : Lp τ := { ts := tswire_Sumx10, hs := hswire_Sumx10, S := Swire_Sumx10, to := towire_Sumx10, ot := otwire_Sumx10, oh := ohwire_Sumx10, hk := [], tk := [], ot_to := fun _ _ => rfl, oh_to := fun _ _ => rfl }
def Fwire_Sum (N : Nat) (l : List (List (Int))) : Option (Int) :=
 (iter N (fun (s1 : Swire_Sumx3) next2 =>
 (bif (decide (s1.t11 < ((l).length : Int))) then
 (bif (ibB s1.t11 ((l).length : Int)) then
 (iter N (fun (s3 : Swire_Sumx6) next4 =>
 (bif (decide (s3.t17 < (((lget l s1.t11 default)).length : Int))) then
 (bif (ibB s3.t17 (((lget l s1.t11 default)).length : Int)) then
 (iter N (fun (s5 : Swire_Sumx10) next6 =>
 (bif (decide (s5.t25 < 8)) then
 (bif ((bits .and .u32 s5.sum 1) == 1) then
 (next6 ⟨(bits .xor .u32 (shr .u32 s5.sum 1) 3988292384), (IntKind.i64.wrap (s5.t25 + 1))⟩)
 else
 (next6 ⟨(shr .u32 s5.sum 1), (IntKind.i64.wrap (s5.t25 + 1))⟩))
 else
 (next4 ⟨s5.sum, (IntKind.i64.wrap (s3.t17 + 1))⟩))) ⟨(bits .xor .u32 s3.sum (IntKind.u32.wrap (lget (lget l s1.t11 default) s3.t17 default))), 0⟩)
 else none)
 else
 (next2 ⟨s3.sum, (IntKind.i64.wrap (s1.t11 + 1))⟩))) ⟨s1.sum, 0⟩)
 else none)
 else
 (some (bits .xor .u32 IntKind.u32.max s1.sum)))) ⟨4294967295, 0⟩)
def conwire_Sum : Con τ := { args := [.ty 22], L := [], ret := .ty 25, L' := [], R := Int, dflt := default, F := fun N a b => Fwire_Sum N a.1, of := fun r => (r, ()) }
noncomputable def datwire_Sum : Dat τ := { D := D0, tbl := tblOf [], lp := lpsOf [(3, lpwire_Sumx3), (6, lpwire_Sumx6), (10, lpwire_Sumx10)], k0 := 0, mu := [], un := [] }
theorem okwire_Sum : ConOk E C 14 conwire_Sum :=
  con_ok (D := datwire_Sum) ⟨d0Ok, eGood, tblOf_ok trivial, fun _ => rfl⟩ conwire_Sum (fun a b => a) none (fun _ _ => rfl) rfl (fun _ _ h => nomatch h) 1000000 (fn := Try.f14) Try.func14 rfl (by kernel_rfl) (by kernel_rfl) rfl (by intro N a b; kernel_rfl)
def Fwire_four (N : Nat) (sum : Int) : Option ((List (Int))) :=
 (some [(IntKind.u8.wrap sum), (IntKind.u8.wrap (shr .u32 sum 8)), (IntKind.u8.wrap (shr .u32 sum 16)), (IntKind.u8.wrap (shr .u32 sum 24))])
def conwire_four : Con τ := { args := [.ty 25], L := [], ret := .ty 23, L' := [], R := (List (Int)), dflt := default, F := fun N a b => Fwire_four N a.1, of := fun r => (r, ()) }
noncomputable def datwire_four : Dat τ := { D := D0, tbl := tblOf [], lp := lpsOf [], k0 := 0, mu := [], un := [] }
theorem okwire_four : ConOk E C 51 conwire_four :=
  con_ok (D := datwire_four) ⟨d0Ok, eGood, tblOf_ok trivial, fun _ => rfl⟩ conwire_four (fun a b => a) none (fun _ _ => rfl) rfl (fun _ _ h => nomatch h) 1000000 (fn := Try.f51) Try.func51 rfl (by kernel_rfl) (by kernel_rfl) rfl (by intro N a b; kernel_rfl)
def Fslices_Grow_byte_c93 (N : Nat) (n : Int) : Option (Nat × (List (Int))) :=
 (bif (decide (n < 0)) then
 none
 else
 (bif (decide (0 < (IntKind.i64.wrap (n - 0)))) then
 (bif (mkB (IntKind.i64.wrap (n - 0)) 1) then
 (bif (cutB 0 0 ((((IntKind.i64.wrap (n - 0))).toNat : Nat) : Int)) then
 (some (0, (List.replicate (((IntKind.i64.wrap (n - 0))).toNat) 0)))
 else none)
 else none)
 else
 (some (0, []))))
def conslices_Grow_byte_c93 : Con τ := { args := [.nil .slice, .ty 3], L := [], ret := .msl 5 0, L' := [.gbx 5], R := Nat × (List (Int)), dflt := (default, default), F := fun N a b => Fslices_Grow_byte_c93 N a.2.1, of := fun r => (r.1, (r.2, ())) }
noncomputable def datslices_Grow_byte_c93 : Dat τ := { D := D0, tbl := tblOf [], lp := lpsOf [], k0 := 0, mu := [22], un := [] }
theorem okslices_Grow_byte_c93 : ConOk E C 53 conslices_Grow_byte_c93 :=
  con_ok (D := datslices_Grow_byte_c93) ⟨d0Ok, eGood, tblOf_ok trivial, fun _ => rfl⟩ conslices_Grow_byte_c93 (fun a b => (a, b.1)) none (fun _ _ => rfl) rfl (fun _ _ h => nomatch h) 1000000 (fn := Try.f53) Try.func53 rfl (by kernel_rfl) (by kernel_rfl) rfl (by intro N a b; kernel_rfl)
structure Sslices_Concat_byte_558x3 where
  size : Int
  t11 : Int
def tsslices_Concat_byte_558x3 : List Sl := [.k, .k, .k, .sh (.ty 2), .k, .j, .k, .k, .k, .k, .k, .sh (.ty 2), .j, .j, .j, .j, .j, .j, .j, .j, .j, .j, .j, .k, .k, .k, .k, .k, .k, .k, .k, .k, .k, .k, .k, .k]
def hsslices_Concat_byte_558x3 : List ESh := []
def toslices_Concat_byte_558x3 (a : Sl.Ts τ tsslices_Concat_byte_558x3) (b : ESh.Ts τ hsslices_Concat_byte_558x3) : Sslices_Concat_byte_558x3 := ⟨a.2.2.2.1, a.2.2.2.2.2.2.2.2.2.2.2.1⟩
def otslices_Concat_byte_558x3 (s : Sslices_Concat_byte_558x3) : Sl.Ts τ tsslices_Concat_byte_558x3 := ((), (), (), s.size, (), (), (), (), (), (), (), s.t11, (), (), (), (), (), (), (), (), (), (), (), (), (), (), (), (), (), (), (), (), (), (), (), (), ())
def ohslices_Concat_byte_558x3 (s : Sslices_Concat_byte_558x3) : ESh.Ts τ hsslices_Concat_byte_558x3 := ()
def lpslices_Concat_byte_558x3 : Lp τ := { ts := tsslices_Concat_byte_558x3, hs := hsslices_Concat_byte_558x3, S := Sslices_Concat_byte_558x3, to := toslices_Concat_byte_558x3, ot := otslices_Concat_byte_558x3, oh := ohslices_Concat_byte_558x3, hk := [], tk := [], ot_to := fun _ _ => rfl, oh_to := fun _ _ => rfl }
structure Sslices_Concat_byte_558x11 where
  newslice : Nat
  t27 : Int
  g1 : List (Int)
def tsslices_Concat_byte_558x11 : List Sl := [.k, .k, .k, .k, .k, .k, .sh (.msl 5 1), .k, .j, .k, .k, .k, .k, .k, .k, .k, .k, .k, .k, .k, .k, .k, .k, .k, .k, .k, .k, .sh (.ty 2), .j, .j, .j, .j, .j, .j, .j, .k]
def hsslices_Concat_byte_558x11 : List ESh := [.dead, .gbx 5]
def toslices_Concat_byte_558x11 (a : Sl.Ts τ tsslices_Concat_byte_558x11) (b : ESh.Ts τ hsslices_Concat_byte_558x11) : Sslices_Concat_byte_558x11 := ⟨a.2.2.2.2.2.2.1, a.2.2.2.2.2.2.2.2.2.2.2.2.2.2.2.2.2.2.2.2.2.2.2.2.2.2.2.1, b.2.1⟩
def otslices_Concat_byte_558x11 (s : Sslices_Concat_byte_558x11) : Sl.Ts τ tsslices_Concat_byte_558x11 := ((), (), (), (), (), (), s.newslice, (), (), (), (), (), (), (), (), (), (), (), (), (), (), (), (), (), (), (), (), s.t27, (), (), (), (), (), (), (), (), ())
def ohslices_Concat_byte_558x11 (s : Sslices_Concat_byte_558x11) : ESh.Ts τ hsslices_Concat_byte_558x11 := ((), s.g1, ())
def lpslices_Concat_byte_558x11 : Lp τ := { ts := tsslices_Concat_byte_558x11, hs := hsslices_Concat_byte_558x11, S := Sslices_Concat_byte_558x11, to := toslices_Concat_byte_558x11, ot := otslices_Concat_byte_558x11, oh := ohslices_Concat_byte_558x11, hk := [4], tk := [], ot_to := fun _ _ => rfl, oh_to := fun _ _ => rfl }
def Fslices_Concat_byte_558 (N : Nat) (slices : List (List (Int))) : Option (Nat × (List (Int))) :=
 (iter N (fun (s1 : Sslices_Concat_byte_558x3) next2 =>
 (bif (decide (s1.t11 < ((slices).length : Int))) then
 (bif (ibB s1.t11 ((slices).length : Int)) then
 (bif (decide ((IntKind.i64.wrap (s1.size + (((lget slices s1.t11 default)).length : Int))) < 0)) then
 none
 else
 (next2 ⟨(IntKind.i64.wrap (s1.size + (((lget slices s1.t11 default)).length : Int))), (IntKind.i64.wrap (s1.t11 + 1))⟩))
 else none)
 else
 ((Fslices_Grow_byte_c93 N s1.size).bind fun r3 =>
 (iter N (fun (s4 : Sslices_Concat_byte_558x11) next5 =>
 (bif (decide (s4.t27 < ((slices).length : Int))) then
 (bif (ibB s4.t27 ((slices).length : Int)) then
 (bif ((lenB (s4.newslice + ((lget slices s4.t27 default)).length) 1) && (Nat.ble s4.newslice (s4.g1).length)) then
 (next5 ⟨(s4.newslice + ((lget slices s4.t27 default)).length), (IntKind.i64.wrap (s4.t27 + 1)), (s4.g1.take s4.newslice ++ (lget slices s4.t27 default))⟩)
 else none)
 else none)
 else
 (some (s4.newslice, s4.g1)))) ⟨r3.1, 0, r3.2⟩)))) ⟨0, 0⟩)
def conslices_Concat_byte_558 : Con τ := { args := [.ty 22], L := [], ret := .msl 5 0, L' := [.gbx 5], R := Nat × (List (Int)), dflt := (default, default), F := fun N a b => Fslices_Concat_byte_558 N a.1, of := fun r => (r.1, (r.2, ())) }
noncomputable def datslices_Concat_byte_558 : Dat τ := { D := D0, tbl := tblOf [(53, conslices_Grow_byte_c93)], lp := lpsOf [(3, lpslices_Concat_byte_558x3), (11, lpslices_Concat_byte_558x11)], k0 := 0, mu := [33], un := [] }
theorem okslices_Concat_byte_558 : ConOk E C 50 conslices_Concat_byte_558 :=
  con_ok (D := datslices_Concat_byte_558) ⟨d0Ok, eGood, tblOf_ok ⟨okslices_Grow_byte_c93, trivial⟩, fun _ => rfl⟩ conslices_Concat_byte_558 (fun a b => (a, b.1)) none (fun _ _ => rfl) rfl (fun _ _ h => nomatch h) 1000000 (fn := Try.f50) Try.func50 rfl (by kernel_rfl) (by kernel_rfl) rfl (by intro N a b; kernel_rfl)
def Fwire_Frame (N : Nat) (b : List (Int)) : Option (Nat × Int × (List (Int))) :=
 (bif (decide (1048576 < ((b).length : Int))) then
 (some (0, 3, []))
 else
 ((Fwire_number N ((b).length : Int)).bind fun r1 =>
 ((Fwire_Sum N [b]).bind fun r2 =>
 ((Fwire_four N r2).bind fun r3 =>
 ((Fslices_Concat_byte_558 N [r1, b, r3]).bind fun r4 =>
 (some (r4.1, 0, r4.2)))))))
def conwire_Frame : Con τ := { args := [.ty 23], L := [], ret := .tup [.msl 5 0, .ty 34], L' := [.gbx 5], R := Nat × Int × (List (Int)), dflt := (default, default, default), F := fun N a b => Fwire_Frame N a.1, of := fun r => ((r.1, r.2.1, ()), (r.2.2, ())) }
noncomputable def datwire_Frame : Dat τ := { D := D0, tbl := tblOf [(49, conwire_number), (14, conwire_Sum), (51, conwire_four), (50, conslices_Concat_byte_558)], lp := lpsOf [], k0 := 0, mu := [], un := [] }
theorem okwire_Frame : ConOk E C 35 conwire_Frame :=
  con_ok (D := datwire_Frame) ⟨d0Ok, eGood, tblOf_ok ⟨okwire_number, ⟨okwire_Sum, ⟨okwire_four, ⟨okslices_Concat_byte_558, trivial⟩⟩⟩⟩, fun _ => rfl⟩ conwire_Frame (fun a b => (a.1, a.2.1, b.1)) none (fun _ _ => rfl) rfl (fun _ _ h => nomatch h) 1000000 (fn := Try.f35) Try.func35 rfl (by kernel_rfl) (by kernel_rfl) rfl (by intro N a b; kernel_rfl)
def Fwire_NewWriter (N : Nat)  : Option (Bool × (List (Int))) :=
 (some (true, []))
def conwire_NewWriter : Con τ := { args := [], L := [], ret := .ptr 0 [], L' := [.box (.agg [.ty 4, .own 5 1]), .tail], R := Bool × (List (Int)), dflt := (default, default), F := fun N a b => Fwire_NewWriter N , of := fun r => ((), ((r.1, r.2, ()), (), ())) }
noncomputable def datwire_NewWriter : Dat τ := { D := D0, tbl := tblOf [], lp := lpsOf [], k0 := 0, mu := [], un := [] }
theorem okwire_NewWriter : ConOk E C 16 conwire_NewWriter :=
  con_ok (D := datwire_NewWriter) ⟨d0Ok, eGood, tblOf_ok trivial, fun _ => rfl⟩ conwire_NewWriter (fun a b => (b.1.1, b.1.2.1)) none (fun _ _ => rfl) rfl (fun _ _ h => nomatch h) 1000000 (fn := Try.f16) Try.func16 rfl (by kernel_rfl) (by kernel_rfl) rfl (by intro N a b; kernel_rfl)
def Fslices_Clone_byte_c35 (N : Nat) (s : List (Int)) : Option ((List (Int))) :=
 (bif (lenB (0 + (s).length) 1) then
 (some ([] ++ s))
 else none)
def conslices_Clone_byte_c35 : Con τ := { args := [.nn 5], L := [], ret := .ty 23, L' := [], R := (List (Int)), dflt := default, F := fun N a b => Fslices_Clone_byte_c35 N a.1, of := fun r => (r, ()) }
noncomputable def datslices_Clone_byte_c35 : Dat τ := { D := D0, tbl := tblOf [], lp := lpsOf [], k0 := 0, mu := [], un := [] }
theorem okslices_Clone_byte_c35 : ConOk E C 43 conslices_Clone_byte_c35 :=
  con_ok (D := datslices_Clone_byte_c35) ⟨d0Ok, eGood, tblOf_ok trivial, fun _ => rfl⟩ conslices_Clone_byte_c35 (fun a b => a) none (fun _ _ => rfl) rfl (fun _ _ h => nomatch h) 1000000 (fn := Try.f43) Try.func43 rfl (by kernel_rfl) (by kernel_rfl) rfl (by intro N a b; kernel_rfl)
def Fslices_Clone_byte_932 (N : Nat)  : Option ((List (Int))) :=
 (some [])
def conslices_Clone_byte_932 : Con τ := { args := [.nil .slice], L := [], ret := .ty 23, L' := [], R := (List (Int)), dflt := default, F := fun N a b => Fslices_Clone_byte_932 N , of := fun r => (r, ()) }
noncomputable def datslices_Clone_byte_932 : Dat τ := { D := D0, tbl := tblOf [], lp := lpsOf [], k0 := 0, mu := [], un := [] }
theorem okslices_Clone_byte_932 : ConOk E C 43 conslices_Clone_byte_932 :=
  con_ok (D := datslices_Clone_byte_932) ⟨d0Ok, eGood, tblOf_ok trivial, fun _ => rfl⟩ conslices_Clone_byte_932 (fun a b => a) none (fun _ _ => rfl) rfl (fun _ _ h => nomatch h) 1000000 (fn := Try.f43) Try.func43 rfl (by kernel_rfl) (by kernel_rfl) rfl (by intro N a b; kernel_rfl)
def Fslices_Clone_byte (N : Nat) (s : List (Int)) : Option ((List (Int))) := Fslices_Clone_byte_c35 N s
def conslices_Clone_byte : Con τ := { args := [.ty 23], L := [], ret := .ty 23, L' := [], R := (List (Int)), dflt := default, F := fun N a b => Fslices_Clone_byte N a.1, of := fun r => (r, ()) }
theorem okslices_Clone_byte : ConOk E C 43 conslices_Clone_byte := by
  intro N a b r h
  obtain ⟨x0, u⟩ := a
  refine FnSpec.split (pre := []) (post := []) (fun h0 => ?_) (okslices_Clone_byte_c35 N (x0, u) b r h)
  have h0 : x0 = [] := List.map_eq_nil_iff.1 h0
  subst h0
  exact okslices_Clone_byte_932 N ((), u) b r ((show conslices_Clone_byte_932.F N ((), u) b = conslices_Clone_byte.F N ([], u) b from by kernel_rfl).trans h)
def Fwire_NewReader (N : Nat) (b : List (Int)) : Option (Gwire_Writer) :=
 ((Fslices_Clone_byte N b).bind fun r1 =>
 (some (⟨true, r1⟩ : Gwire_Writer)))
def conwire_NewReader : Con τ := { args := [.ty 23], L := [], ret := .ptr 0 [], L' := [.box (.ty 66)], R := Gwire_Writer, dflt := default, F := fun N a b => Fwire_NewReader N a.1, of := fun r => ((), (r, ())) }
noncomputable def datwire_NewReader : Dat τ := { D := D0, tbl := tblOf [(43, conslices_Clone_byte)], lp := lpsOf [], k0 := 0, mu := [], un := [] }
theorem okwire_NewReader : ConOk E C 21 conwire_NewReader :=
  con_ok (D := datwire_NewReader) ⟨d0Ok, eGood, tblOf_ok ⟨okslices_Clone_byte, trivial⟩, fun _ => rfl⟩ conwire_NewReader (fun a b => b.1) none (fun _ _ => rfl) rfl (fun _ _ h => nomatch h) 1000000 (fn := Try.f21) Try.func21 rfl (by kernel_rfl) (by kernel_rfl) rfl (by intro N a b; kernel_rfl)
def Fwire_Writer_none_052 (N : Nat) (b0 : Bool) (b02 : List (Int)) : Option (Bool × Bool × (List (Int))) :=
 (some ((!b0), b0, b02))
def conwire_Writer_none_052 : Con τ := { args := [.ptr 0 []], L := [.box (.agg [.ty 4, .own 5 1]), .tail], ret := .ty 4, L' := [.box (.agg [.ty 4, .own 5 1]), .tail], R := Bool × Bool × (List (Int)), dflt := (default, default, default), F := fun N a b => Fwire_Writer_none_052 N b.1.1 b.1.2.1, of := fun r => (r.1, ((r.2.1, r.2.2, ()), (), ())) }
noncomputable def datwire_Writer_none_052 : Dat τ := { D := D0, tbl := tblOf [], lp := lpsOf [], k0 := 2, mu := [], un := [] }
theorem okwire_Writer_none_052 : ConOk E C 42 conwire_Writer_none_052 :=
  con_ok (D := datwire_Writer_none_052) ⟨d0Ok, eGood, tblOf_ok trivial, fun _ => rfl⟩ conwire_Writer_none_052 (fun a b => (a, b.1.1, b.1.2.1)) none (fun _ _ => rfl) rfl (fun _ _ h => nomatch h) 1000000 (fn := Try.f42) Try.func42 rfl (by kernel_rfl) (by kernel_rfl) rfl (by intro N a b; kernel_rfl)
structure Swire_Writer_put_867x5 where
  n : Int
  t19 : Int
def tswire_Writer_put_867x5 : List Sl := [.k, .k, .k, .k, .j, .sh (.ty 2), .k, .j, .k, .k, .k, .k, .k, .k, .k, .k, .k, .k, .k, .sh (.ty 2), .j, .j, .j, .j, .j, .j, .j, .j, .j, .j, .j, .j, .j, .k, .k, .k, .k, .k, .k, .k, .k, .k, .k, .k, .k, .k, .k, .k, .k]
def hswire_Writer_put_867x5 : List ESh := [.keep, .keep]
def towire_Writer_put_867x5 (a : Sl.Ts τ tswire_Writer_put_867x5) (b : ESh.Ts τ hswire_Writer_put_867x5) : Swire_Writer_put_867x5 := ⟨a.2.2.2.2.2.1, a.2.2.2.2.2.2.2.2.2.2.2.2.2.2.2.2.2.2.2.1⟩
def otwire_Writer_put_867x5 (s : Swire_Writer_put_867x5) : Sl.Ts τ tswire_Writer_put_867x5 := ((), (), (), (), (), s.n, (), (), (), (), (), (), (), (), (), (), (), (), (), s.t19, (), (), (), (), (), (), (), (), (), (), (), (), (), (), (), (), (), (), (), (), (), (), (), (), (), (), (), (), (), ())
def ohwire_Writer_put_867x5 (s : Swire_Writer_put_867x5) : ESh.Ts τ hswire_Writer_put_867x5 := ((), (), ())
def lpwire_Writer_put_867x5 : Lp τ := { ts := tswire_Writer_put_867x5, hs := hswire_Writer_put_867x5, S := Swire_Writer_put_867x5, to := towire_Writer_put_867x5, ot := otwire_Writer_put_867x5, oh := ohwire_Writer_put_867x5, hk := [2, 5], tk := [2, 0, 0, 0, 0, 0, 0, 0, 0, 0, 2, 0, 2, 2, 2], ot_to := fun _ _ => rfl, oh_to := fun _ _ => rfl }
structure Swire_Writer_put_867x12 where
  t35 : Int
  b0 : Bool
  b02 : List (Int)
def tswire_Writer_put_867x12 : List Sl := [.k, .k, .k, .k, .k, .k, .k, .k, .k, .j, .k, .k, .k, .k, .k, .k, .k, .k, .k, .k, .k, .k, .k, .k, .k, .k, .k, .k, .k, .k, .k, .k, .k, .k, .k, .sh (.ty 2), .j, .j, .j, .j, .j, .j, .j, .j, .j, .j, .j, .j, .j]
def hswire_Writer_put_867x12 : List ESh := [.box (.agg [.ty 4, .own 5 2]), .dead, .tail]
def towire_Writer_put_867x12 (a : Sl.Ts τ tswire_Writer_put_867x12) (b : ESh.Ts τ hswire_Writer_put_867x12) : Swire_Writer_put_867x12 := ⟨a.2.2.2.2.2.2.2.2.2.2.2.2.2.2.2.2.2.2.2.2.2.2.2.2.2.2.2.2.2.2.2.2.2.2.2.1, b.1.1, b.1.2.1⟩
def otwire_Writer_put_867x12 (s : Swire_Writer_put_867x12) : Sl.Ts τ tswire_Writer_put_867x12 := ((), (), (), (), (), (), (), (), (), (), (), (), (), (), (), (), (), (), (), (), (), (), (), (), (), (), (), (), (), (), (), (), (), (), (), s.t35, (), (), (), (), (), (), (), (), (), (), (), (), (), ())
def ohwire_Writer_put_867x12 (s : Swire_Writer_put_867x12) : ESh.Ts τ hswire_Writer_put_867x12 := ((s.b0, s.b02, ()), (), (), ())
def lpwire_Writer_put_867x12 : Lp τ := { ts := tswire_Writer_put_867x12, hs := hswire_Writer_put_867x12, S := Swire_Writer_put_867x12, to := towire_Writer_put_867x12, ot := otwire_Writer_put_867x12, oh := ohwire_Writer_put_867x12, hk := [2, 5], tk := [2, 0, 0, 0, 0, 0, 0, 0, 0, 0, 2, 0, 2, 2, 2], ot_to := fun _ _ => rfl, oh_to := fun _ _ => rfl }
def Fwire_Writer_put_867 (N : Nat) (l : List (List (Int))) (b0 : Bool) (b02 : List (Int)) : Option (Int × Bool × (List (Int))) :=
 ((Fwire_Writer_none_052 N b0 b02).bind fun r1 =>
 (bif r1.1 then
 (some (2, r1.2.1, r1.2.2))
 else
 (iter N (fun (s2 : Swire_Writer_put_867x5) next3 =>
 (bif (decide (s2.t19 < ((l).length : Int))) then
 (bif (ibB s2.t19 ((l).length : Int)) then
 (bif (decide ((IntKind.i64.wrap (1048576 - s2.n)) < (((lget l s2.t19 default)).length : Int))) then
 (some (3, r1.2.1, r1.2.2))
 else
 (next3 ⟨(IntKind.i64.wrap (s2.n + (((lget l s2.t19 default)).length : Int))), (IntKind.i64.wrap (s2.t19 + 1))⟩))
 else none)
 else
 (iter N (fun (s4 : Swire_Writer_put_867x12) next5 =>
 (bif (decide (s4.t35 < ((l).length : Int))) then
 (bif (ibB s4.t35 ((l).length : Int)) then
 (bif (lenB ((s4.b02).length + ((lget l s4.t35 default)).length) 1) then
 (next5 ⟨(IntKind.i64.wrap (s4.t35 + 1)), s4.b0, (s4.b02 ++ (lget l s4.t35 default))⟩)
 else none)
 else none)
 else
 (some (0, s4.b0, s4.b02)))) ⟨0, r1.2.1, r1.2.2⟩))) ⟨((r1.2.2).length : Int), 0⟩)))
def conwire_Writer_put_867 : Con τ := { args := [.ptr 0 [], .ty 22], L := [.box (.agg [.ty 4, .own 5 1]), .tail], ret := .ty 34, L' := [.box (.agg [.ty 4, .own 5 2]), .dead, .tail], R := Int × Bool × (List (Int)), dflt := (default, default, default), F := fun N a b => Fwire_Writer_put_867 N a.2.1 b.1.1 b.1.2.1, of := fun r => (r.1, ((r.2.1, r.2.2, ()), (), (), ())) }
noncomputable def datwire_Writer_put_867 : Dat τ := { D := D0, tbl := tblOf [(42, conwire_Writer_none_052)], lp := lpsOf [(5, lpwire_Writer_put_867x5), (12, lpwire_Writer_put_867x12)], k0 := 2, mu := [], un := [] }
theorem okwire_Writer_put_867 : ConOk E C 48 conwire_Writer_put_867 :=
  con_ok (D := datwire_Writer_put_867) ⟨d0Ok, eGood, tblOf_ok ⟨okwire_Writer_none_052, trivial⟩, fun _ => rfl⟩ conwire_Writer_put_867 (fun a b => (a, b.1.1, b.1.2.1)) none (fun _ _ => rfl) rfl (fun _ _ h => nomatch h) 1000000 (fn := Try.f48) Try.func48 rfl (by kernel_rfl) (by kernel_rfl) rfl (by intro N a b; kernel_rfl)
def Fwire_Writer_Int_816 (N : Nat) (n : Int) (b0 : Bool) (b02 : List (Int)) : Option (Int × Bool × (List (Int))) :=
 ((Fwire_number N n).bind fun r1 =>
 ((Fwire_Writer_put_867 N [r1] b0 b02).bind fun r2 =>
 (some (r2.1, r2.2.1, r2.2.2))))
def conwire_Writer_Int_816 : Con τ := { args := [.ptr 0 [], .ty 2], L := [.box (.agg [.ty 4, .own 5 1]), .tail], ret := .ty 34, L' := [.box (.agg [.ty 4, .own 5 2]), .dead, .tail], R := Int × Bool × (List (Int)), dflt := (default, default, default), F := fun N a b => Fwire_Writer_Int_816 N a.2.1 b.1.1 b.1.2.1, of := fun r => (r.1, ((r.2.1, r.2.2, ()), (), (), ())) }
noncomputable def datwire_Writer_Int_816 : Dat τ := { D := D0, tbl := tblOf [(49, conwire_number), (48, conwire_Writer_put_867)], lp := lpsOf [], k0 := 2, mu := [], un := [] }
theorem okwire_Writer_Int_816 : ConOk E C 31 conwire_Writer_Int_816 :=
  con_ok (D := datwire_Writer_Int_816) ⟨d0Ok, eGood, tblOf_ok ⟨okwire_number, ⟨okwire_Writer_put_867, trivial⟩⟩, fun _ => rfl⟩ conwire_Writer_Int_816 (fun a b => (a, b.1.1, b.1.2.1)) none (fun _ _ => rfl) rfl (fun _ _ h => nomatch h) 1000000 (fn := Try.f31) Try.func31 rfl (by kernel_rfl) (by kernel_rfl) rfl (by intro N a b; kernel_rfl)
def Fwire_Reader_none_d95 (N : Nat) (b0 : Gwire_Writer) : Option (Bool × Gwire_Writer) :=
 (some ((!b0.made), b0))
def conwire_Reader_none_d95 : Con τ := { args := [.ptr 0 []], L := [.box (.ty 66)], ret := .ty 4, L' := [.box (.ty 66)], R := Bool × Gwire_Writer, dflt := (default, default), F := fun N a b => Fwire_Reader_none_d95 N b.1, of := fun r => (r.1, (r.2, ())) }
noncomputable def datwire_Reader_none_d95 : Dat τ := { D := D0, tbl := tblOf [], lp := lpsOf [], k0 := 1, mu := [], un := [] }
theorem okwire_Reader_none_d95 : ConOk E C 44 conwire_Reader_none_d95 :=
  con_ok (D := datwire_Reader_none_d95) ⟨d0Ok, eGood, tblOf_ok trivial, fun _ => rfl⟩ conwire_Reader_none_d95 (fun a b => (a, b.1)) none (fun _ _ => rfl) rfl (fun _ _ h => nomatch h) 1000000 (fn := Try.f44) Try.func44 rfl (by kernel_rfl) (by kernel_rfl) rfl (by intro N a b; kernel_rfl)
structure Swire_parsex3 where
  u : Int
  t8 : Int
def tswire_parsex3 : List Sl := [.k, .k, .j, .j, .j, .sh (.ty 12), .j, .j, .sh (.ty 2), .j, .j, .j, .j, .j, .j, .j, .j, .j, .j, .j, .j, .j, .j, .j, .j, .j, .j, .j, .j, .j, .j, .j, .j, .j, .j, .j, .j, .j, .j, .j, .j, .j, .j, .j, .j, .j, .j, .j, .j, .j, .j, .j, .j, .j, .j, .j, .j, .j]
def hswire_parsex3 : List ESh := []
def towire_parsex3 (a : Sl.Ts τ tswire_parsex3) (b : ESh.Ts τ hswire_parsex3) : Swire_parsex3 := ⟨a.2.2.2.2.2.1, a.2.2.2.2.2.2.2.2.1⟩
def otwire_parsex3 (s : Swire_parsex3) : Sl.Ts τ tswire_parsex3 := ((), (), (), (), (), s.u, (), (), s.t8, (), (), (), (), (), (), (), (), (), (), (), (), (), (), (), (), (), (), (), (), (), (), (), (), (), (), (), (), (), (), (), (), (), (), (), (), (), (), (), (), (), (), (), (), (), (), (), (), (), ())
def ohwire_parsex3 (s : Swire_parsex3) : ESh.Ts τ hswire_parsex3 := ()
def lpwire_parsex3 : Lp τ := { ts := tswire_parsex3, hs := hswire_parsex3, S := Swire_parsex3, to := towire_parsex3, ot := otwire_parsex3, oh := ohwire_parsex3, hk := [], tk := [], ot_to := fun _ _ => rfl, oh_to := fun _ _ => rfl }
def Fwire_parse (N : Nat) (b : List (Int)) : Option (Int × Int × Int) :=
 (iter N (fun (s1 : Swire_parsex3) next2 =>
 (bif (decide (s1.t8 < 10)) then
 (bif (decide (((b).length : Int) ≤ s1.t8)) then
 (some (0, 0, 10))
 else
 (bif (ibB s1.t8 ((b).length : Int)) then
 (bif (((s1.t8 == 9) && (decide (1 < (lget b s1.t8 default)))) || (((lget b s1.t8 default) == 0) && (decide (0 < s1.t8)))) then
 (some (0, 0, 11))
 else
 (bif (decide (0 ≤ (IntKind.i64.wrap (7 * s1.t8)))) then
 (bif (decide ((lget b s1.t8 default) < 128)) then
 (bif ((bits .and .u64 (bits .or .u64 s1.u (shl .u64 (IntKind.u64.wrap (bits .and .u8 (lget b s1.t8 default) 127)) (IntKind.i64.wrap (7 * s1.t8)))) 1) == 1) then
 (some ((IntKind.i64.wrap (bits .xor .u64 IntKind.u64.max (shr .u64 (bits .or .u64 s1.u (shl .u64 (IntKind.u64.wrap (bits .and .u8 (lget b s1.t8 default) 127)) (IntKind.i64.wrap (7 * s1.t8)))) 1))), (IntKind.i64.wrap (s1.t8 + 1)), 0))
 else
 (some ((IntKind.i64.wrap (shr .u64 (bits .or .u64 s1.u (shl .u64 (IntKind.u64.wrap (bits .and .u8 (lget b s1.t8 default) 127)) (IntKind.i64.wrap (7 * s1.t8)))) 1)), (IntKind.i64.wrap (s1.t8 + 1)), 0)))
 else
 (next2 ⟨(bits .or .u64 s1.u (shl .u64 (IntKind.u64.wrap (bits .and .u8 (lget b s1.t8 default) 127)) (IntKind.i64.wrap (7 * s1.t8)))), (IntKind.i64.wrap (s1.t8 + 1))⟩))
 else none))
 else none))
 else
 (some (0, 0, 11)))) ⟨0, 0⟩)
def conwire_parse : Con τ := { args := [.ty 23], L := [], ret := .tup [.ty 2, .ty 3, .ty 34], L' := [], R := Int × Int × Int, dflt := (default, default, default), F := fun N a b => Fwire_parse N a.1, of := fun r => ((r.1, r.2.1, r.2.2, ()), ()) }
noncomputable def datwire_parse : Dat τ := { D := D0, tbl := tblOf [], lp := lpsOf [(3, lpwire_parsex3)], k0 := 0, mu := [], un := [] }
theorem okwire_parse : ConOk E C 45 conwire_parse :=
  con_ok (D := datwire_parse) ⟨d0Ok, eGood, tblOf_ok trivial, fun _ => rfl⟩ conwire_parse (fun a b => (a.1, a.2.1, a.2.2.1)) none (fun _ _ => rfl) rfl (fun _ _ h => nomatch h) 1000000 (fn := Try.f45) Try.func45 rfl (by kernel_rfl) (by kernel_rfl) rfl (by intro N a b; kernel_rfl)
def Fwire_Reader_Int_d95 (N : Nat) (b0 : Gwire_Writer) : Option (Int × Int × Gwire_Writer) :=
 ((Fwire_Reader_none_d95 N b0).bind fun r1 =>
 (bif r1.1 then
 (some (0, 2, r1.2))
 else
 ((Fwire_parse N r1.2.b).bind fun r2 =>
 (bif (cutB r2.2.1 ((r1.2.b).length : Int) ((r1.2.b).length : Int)) then
 (some (r2.1, r2.2.2, (⟨r1.2.made, (cut r1.2.b r2.2.1 ((r1.2.b).length : Int))⟩ : Gwire_Writer)))
 else none))))
def conwire_Reader_Int_d95 : Con τ := { args := [.ptr 0 []], L := [.box (.ty 66)], ret := .tup [.ty 2, .ty 34], L' := [.box (.ty 66)], R := Int × Int × Gwire_Writer, dflt := (default, default, default), F := fun N a b => Fwire_Reader_Int_d95 N b.1, of := fun r => ((r.1, r.2.1, ()), (r.2.2, ())) }
noncomputable def datwire_Reader_Int_d95 : Dat τ := { D := D0, tbl := tblOf [(44, conwire_Reader_none_d95), (45, conwire_parse)], lp := lpsOf [], k0 := 1, mu := [], un := [] }
theorem okwire_Reader_Int_d95 : ConOk E C 22 conwire_Reader_Int_d95 :=
  con_ok (D := datwire_Reader_Int_d95) ⟨d0Ok, eGood, tblOf_ok ⟨okwire_Reader_none_d95, ⟨okwire_parse, trivial⟩⟩, fun _ => rfl⟩ conwire_Reader_Int_d95 (fun a b => (a.1, a.2.1, b.1)) none (fun _ _ => rfl) rfl (fun _ _ h => nomatch h) 1000000 (fn := Try.f22) Try.func22 rfl (by kernel_rfl) (by kernel_rfl) rfl (by intro N a b; kernel_rfl)
def Fwire_Writer_Out_052 (N : Nat) (b0 : Bool) (b02 : List (Int)) : Option ((List (Int)) × Bool × (List (Int))) :=
 ((Fwire_Writer_none_052 N b0 b02).bind fun r1 =>
 (bif r1.1 then
 (some ([], r1.2.1, r1.2.2))
 else
 ((Fslices_Clone_byte N r1.2.2).bind fun r2 =>
 (some (r2, r1.2.1, r1.2.2)))))
def conwire_Writer_Out_052 : Con τ := { args := [.ptr 0 []], L := [.box (.agg [.ty 4, .own 5 1]), .tail], ret := .ty 23, L' := [.box (.agg [.ty 4, .own 5 1]), .tail], R := (List (Int)) × Bool × (List (Int)), dflt := (default, default, default), F := fun N a b => Fwire_Writer_Out_052 N b.1.1 b.1.2.1, of := fun r => (r.1, ((r.2.1, r.2.2, ()), (), ())) }
noncomputable def datwire_Writer_Out_052 : Dat τ := { D := D0, tbl := tblOf [(42, conwire_Writer_none_052), (43, conslices_Clone_byte)], lp := lpsOf [], k0 := 2, mu := [], un := [] }
theorem okwire_Writer_Out_052 : ConOk E C 20 conwire_Writer_Out_052 :=
  con_ok (D := datwire_Writer_Out_052) ⟨d0Ok, eGood, tblOf_ok ⟨okwire_Writer_none_052, ⟨okslices_Clone_byte, trivial⟩⟩, fun _ => rfl⟩ conwire_Writer_Out_052 (fun a b => (a, b.1.1, b.1.2.1)) none (fun _ _ => rfl) rfl (fun _ _ h => nomatch h) 1000000 (fn := Try.f20) Try.func20 rfl (by kernel_rfl) (by kernel_rfl) rfl (by intro N a b; kernel_rfl)
def Fbytes_Equal (N : Nat) (a : List (Int)) (b : List (Int)) : Option (Bool) :=
 (some ((strI a) == (strI b)))
def conbytes_Equal : Con τ := { args := [.ty 23, .ty 23], L := [], ret := .ty 4, L' := [], R := Bool, dflt := default, F := fun N a b => Fbytes_Equal N a.1 a.2.1, of := fun r => (r, ()) }
noncomputable def datbytes_Equal : Dat τ := { D := D0, tbl := tblOf [], lp := lpsOf [], k0 := 0, mu := [], un := [] }
theorem okbytes_Equal : ConOk E C 19 conbytes_Equal :=
  con_ok (D := datbytes_Equal) ⟨d0Ok, eGood, tblOf_ok trivial, fun _ => rfl⟩ conbytes_Equal (fun a b => a) none (fun _ _ => rfl) rfl (fun _ _ h => nomatch h) 1000000 (fn := Try.f19) Try.func19 rfl (by kernel_rfl) (by kernel_rfl) rfl (by intro N a b; kernel_rfl)
def Flaw01_live (N : Nat)  : Option (Bool) :=
 ((Fwire_NewWriter N).bind fun r1 =>
 ((Fwire_NewReader N [128, 1]).bind fun r2 =>
 ((Fwire_Writer_Int_816 N (-1) r1.1 r1.2).bind fun r3 =>
 ((Fwire_Reader_Int_d95 N r2).bind fun r4 =>
 (bif (((r3.1 == 0) && (r4.2.1 == 0)) && (r4.1 == 64)) then
 ((Fwire_Writer_Out_052 N r3.2.1 r3.2.2).bind fun r5 =>
 (bif (((r3.1 == 0) && (r4.2.1 == 0)) && (r4.1 == 64)) then
 ((bif (((r3.1 == 0) && (r4.2.1 == 0)) && (r4.1 == 64)) then Fbytes_Equal N r5.1 [1] else some default).bind fun r6 =>
 (bif ((((r3.1 == 0) && (r4.2.1 == 0)) && (r4.1 == 64)) && r6) then
 (bif ((((r3.1 == 0) && (r4.2.1 == 0)) && (r4.1 == 64)) && r6) then
 (bif ((((r3.1 == 0) && (r4.2.1 == 0)) && (r4.1 == 64)) && r6) then
 (bif ((((r3.1 == 0) && (r4.2.1 == 0)) && (r4.1 == 64)) && r6) then
 ((bif ((((r3.1 == 0) && (r4.2.1 == 0)) && (r4.1 == 64)) && r6) then Fwire_Sum N [[49, 50, 51, 52], [53, 54, 55, 56, 57]] else some default).bind fun r7 =>
 (some (((((r3.1 == 0) && (r4.2.1 == 0)) && (r4.1 == 64)) && r6) && (r7 == 3421780262))))
 else
 (some false))
 else
 (some false))
 else
 (some false))
 else
 (some false)))
 else
 (some false)))
 else
 (some false))))))
def conlaw01_live : Con τ := { args := [], L := [], ret := .ty 4, L' := [], R := Bool, dflt := default, F := fun N a b => Flaw01_live N , of := fun r => (r, ()) }
noncomputable def datlaw01_live : Dat τ := { D := D0, tbl := tblOf [(16, conwire_NewWriter), (21, conwire_NewReader), (31, conwire_Writer_Int_816), (22, conwire_Reader_Int_d95), (20, conwire_Writer_Out_052), (19, conbytes_Equal), (14, conwire_Sum)], lp := lpsOf [], k0 := 0, mu := [], un := [] }
theorem oklaw01_live : ConOk E C 13 conlaw01_live :=
  con_ok (D := datlaw01_live) ⟨d0Ok, eGood, tblOf_ok ⟨okwire_NewWriter, ⟨okwire_NewReader, ⟨okwire_Writer_Int_816, ⟨okwire_Reader_Int_d95, ⟨okwire_Writer_Out_052, ⟨okbytes_Equal, ⟨okwire_Sum, trivial⟩⟩⟩⟩⟩⟩⟩, fun _ => rfl⟩ conlaw01_live (fun a b => a) none (fun _ _ => rfl) rfl (fun _ _ h => nomatch h) 1000000 (fn := Try.f13) Try.func13 rfl (by kernel_rfl) (by kernel_rfl) rfl (by intro N a b; kernel_rfl)
structure Swire_parse_6acx3 where
  u : Int
  t8 : Int
def tswire_parse_6acx3 : List Sl := [.k, .k, .j, .j, .j, .sh (.ty 12), .j, .j, .sh (.ty 2), .j, .j, .j, .j, .j, .j, .j, .j, .j, .j, .j, .j, .j, .j, .j, .j, .j, .j, .j, .j, .j, .j, .j, .j, .j, .j, .j, .j, .j, .j, .j, .j, .j, .j, .j, .j, .j, .j, .j, .j, .j, .j, .j, .j, .j, .j, .j, .j, .j]
def hswire_parse_6acx3 : List ESh := [.keep]
def towire_parse_6acx3 (a : Sl.Ts τ tswire_parse_6acx3) (b : ESh.Ts τ hswire_parse_6acx3) : Swire_parse_6acx3 := ⟨a.2.2.2.2.2.1, a.2.2.2.2.2.2.2.2.1⟩
def otwire_parse_6acx3 (s : Swire_parse_6acx3) : Sl.Ts τ tswire_parse_6acx3 := ((), (), (), (), (), s.u, (), (), s.t8, (), (), (), (), (), (), (), (), (), (), (), (), (), (), (), (), (), (), (), (), (), (), (), (), (), (), (), (), (), (), (), (), (), (), (), (), (), (), (), (), (), (), (), (), (), (), (), (), (), ())
def ohwire_parse_6acx3 (s : Swire_parse_6acx3) : ESh.Ts τ hswire_parse_6acx3 := ((), ())
def lpwire_parse_6acx3 : Lp τ := { ts := tswire_parse_6acx3, hs := hswire_parse_6acx3, S := Swire_parse_6acx3, to := towire_parse_6acx3, ot := otwire_parse_6acx3, oh := ohwire_parse_6acx3, hk := [4], tk := [], ot_to := fun _ _ => rfl, oh_to := fun _ _ => rfl }
def Fwire_parse_6ac (N : Nat) (b : Nat) (g0 : List (Int)) : Option (Int × Int × Int × (List (Int))) :=
 (iter N (fun (s1 : Swire_parse_6acx3) next2 =>
 (bif (decide (s1.t8 < 10)) then
 (bif (decide (((b : Nat) : Int) ≤ s1.t8)) then
 (some (0, 0, 10, g0))
 else
 (bif (ibB s1.t8 ((b : Nat) : Int)) then
 (bif (decide ((s1.t8).toNat < (g0).length)) then
 (bif (((s1.t8 == 9) && (decide (1 < (g0.getD ((s1.t8).toNat) default)))) || (((g0.getD ((s1.t8).toNat) default) == 0) && (decide (0 < s1.t8)))) then
 (some (0, 0, 11, g0))
 else
 (bif (decide (0 ≤ (IntKind.i64.wrap (7 * s1.t8)))) then
 (bif (decide ((g0.getD ((s1.t8).toNat) default) < 128)) then
 (bif ((bits .and .u64 (bits .or .u64 s1.u (shl .u64 (IntKind.u64.wrap (bits .and .u8 (g0.getD ((s1.t8).toNat) default) 127)) (IntKind.i64.wrap (7 * s1.t8)))) 1) == 1) then
 (some ((IntKind.i64.wrap (bits .xor .u64 IntKind.u64.max (shr .u64 (bits .or .u64 s1.u (shl .u64 (IntKind.u64.wrap (bits .and .u8 (g0.getD ((s1.t8).toNat) default) 127)) (IntKind.i64.wrap (7 * s1.t8)))) 1))), (IntKind.i64.wrap (s1.t8 + 1)), 0, g0))
 else
 (some ((IntKind.i64.wrap (shr .u64 (bits .or .u64 s1.u (shl .u64 (IntKind.u64.wrap (bits .and .u8 (g0.getD ((s1.t8).toNat) default) 127)) (IntKind.i64.wrap (7 * s1.t8)))) 1)), (IntKind.i64.wrap (s1.t8 + 1)), 0, g0)))
 else
 (next2 ⟨(bits .or .u64 s1.u (shl .u64 (IntKind.u64.wrap (bits .and .u8 (g0.getD ((s1.t8).toNat) default) 127)) (IntKind.i64.wrap (7 * s1.t8)))), (IntKind.i64.wrap (s1.t8 + 1))⟩))
 else none))
 else none)
 else none))
 else
 (some (0, 0, 11, g0)))) ⟨0, 0⟩)
def conwire_parse_6ac : Con τ := { args := [.msl 5 0], L := [.gbx 5], ret := .tup [.ty 2, .ty 3, .ty 34], L' := [.gbx 5], R := Int × Int × Int × (List (Int)), dflt := (default, default, default, default), F := fun N a b => Fwire_parse_6ac N a.1 b.1, of := fun r => ((r.1, r.2.1, r.2.2.1, ()), (r.2.2.2, ())) }
noncomputable def datwire_parse_6ac : Dat τ := { D := D0, tbl := tblOf [], lp := lpsOf [(3, lpwire_parse_6acx3)], k0 := 1, mu := [], un := [] }
theorem okwire_parse_6ac : ConOk E C 45 conwire_parse_6ac :=
  con_ok (D := datwire_parse_6ac) ⟨d0Ok, eGood, tblOf_ok trivial, fun _ => rfl⟩ conwire_parse_6ac (fun a b => (a.1, a.2.1, a.2.2.1, b.1)) none (fun _ _ => rfl) rfl (fun _ _ h => nomatch h) 1000000 (fn := Try.f45) Try.func45 rfl (by kernel_rfl) (by kernel_rfl) rfl (by intro N a b; kernel_rfl)
structure Swire_Sum_3bex6 where
  sum : Int
  t17 : Int
def tswire_Sum_3bex6 : List Sl := [.k, .k, .k, .sh (.ty 25), .k, .k, .k, .j, .j, .k, .k, .k, .k, .k, .k, .k, .k, .sh (.ty 2), .j, .j, .j, .j, .j, .j, .j, .j, .j, .j, .j, .j, .j, .j, .j, .j, .j, .j, .j, .k, .k, .k]
def hswire_Sum_3bex6 : List ESh := [.keep]
def towire_Sum_3bex6 (a : Sl.Ts τ tswire_Sum_3bex6) (b : ESh.Ts τ hswire_Sum_3bex6) : Swire_Sum_3bex6 := ⟨a.2.2.2.1, a.2.2.2.2.2.2.2.2.2.2.2.2.2.2.2.2.2.1⟩
def otwire_Sum_3bex6 (s : Swire_Sum_3bex6) : Sl.Ts τ tswire_Sum_3bex6 := ((), (), (), s.sum, (), (), (), (), (), (), (), (), (), (), (), (), (), s.t17, (), (), (), (), (), (), (), (), (), (), (), (), (), (), (), (), (), (), (), (), (), (), ())
def ohwire_Sum_3bex6 (s : Swire_Sum_3bex6) : ESh.Ts τ hswire_Sum_3bex6 := ((), ())
def lpwire_Sum_3bex6 : Lp τ := { ts := tswire_Sum_3bex6, hs := hswire_Sum_3bex6, S := Swire_Sum_3bex6, to := towire_Sum_3bex6, ot := otwire_Sum_3bex6, oh := ohwire_Sum_3bex6, hk := [4], tk := [], ot_to := fun _ _ => rfl, oh_to := fun _ _ => rfl }
structure Swire_Sum_3bex10 where
  sum : Int
  t25 : Int
def tswire_Sum_3bex10 : List Sl := [.k, .k, .k, .sh (.ty 25), .k, .k, .k, .k, .j, .k, .k, .k, .k, .k, .k, .k, .k, .k, .k, .k, .k, .k, .k, .k, .k, .sh (.ty 2), .j, .j, .j, .j, .j, .j, .j, .j, .j, .j, .k, .k, .k, .k]
def hswire_Sum_3bex10 : List ESh := [.keep]
def towire_Sum_3bex10 (a : Sl.Ts τ tswire_Sum_3bex10) (b : ESh.Ts τ hswire_Sum_3bex10) : Swire_Sum_3bex10 := ⟨a.2.2.2.1, a.2.2.2.2.2.2.2.2.2.2.2.2.2.2.2.2.2.2.2.2.2.2.2.2.2.1⟩
def otwire_Sum_3bex10 (s : Swire_Sum_3bex10) : Sl.Ts τ tswire_Sum_3bex10 := ((), (), (), s.sum, (), (), (), (), (), (), (), (), (), (), (), (), (), (), (), (), (), (), (), (), (), s.t25, (), (), (), (), (), (), (), (), (), (), (), (), (), (), ())
def ohwire_Sum_3bex10 (s : Swire_Sum_3bex10) : ESh.Ts τ hswire_Sum_3bex10 := ((), ())
def lpwire_Sum_3bex10 : Lp τ := { ts := tswire_Sum_3bex10, hs := hswire_Sum_3bex10, S := Swire_Sum_3bex10, to := towire_Sum_3bex10, ot := otwire_Sum_3bex10, oh := ohwire_Sum_3bex10, hk := [4], tk := [0, 0, 0, 0, 0, 0, 0, 0, 0, 0, 0, 0, 0, 0, 0, 0, 0, 0, 0, 2], ot_to := fun _ _ => rfl, oh_to := fun _ _ => rfl }
def Fwire_Sum_3be (N : Nat) (l : Nat) (l2 : Nat) (l3 : Nat) (l4 : Bool) (g0 : List (Int)) : Option (Int × (List (Int))) :=
 (iter N (fun (s1 : Swire_Sum_3bex6) next2 =>
 (bif (decide (s1.t17 < ((l2 : Nat) : Int))) then
 (bif (ibB s1.t17 ((l2 : Nat) : Int)) then
 (bif (decide ((l + (s1.t17).toNat) < (g0).length)) then
 (iter N (fun (s3 : Swire_Sum_3bex10) next4 =>
 (bif (decide (s3.t25 < 8)) then
 (bif ((bits .and .u32 s3.sum 1) == 1) then
 (next4 ⟨(bits .xor .u32 (shr .u32 s3.sum 1) 3988292384), (IntKind.i64.wrap (s3.t25 + 1))⟩)
 else
 (next4 ⟨(shr .u32 s3.sum 1), (IntKind.i64.wrap (s3.t25 + 1))⟩))
 else
 (next2 ⟨s3.sum, (IntKind.i64.wrap (s1.t17 + 1))⟩))) ⟨(bits .xor .u32 s1.sum (IntKind.u32.wrap (g0.getD (l + (s1.t17).toNat) default))), 0⟩)
 else none)
 else none)
 else
 (some ((bits .xor .u32 IntKind.u32.max s1.sum), g0)))) ⟨4294967295, 0⟩)
def conwire_Sum_3be : Con τ := { args := [.ls 1 [.wsl 5 0]], L := [.gbx 5], ret := .ty 25, L' := [.gbx 5], R := Int × (List (Int)), dflt := (default, default), F := fun N a b => Fwire_Sum_3be N a.1.1.1 a.1.1.2.1 a.1.1.2.2.1 a.1.1.2.2.2 b.1, of := fun r => (r.1, (r.2, ())) }
noncomputable def datwire_Sum_3be : Dat τ := { D := D0, tbl := tblOf [], lp := lpsOf [(6, lpwire_Sum_3bex6), (10, lpwire_Sum_3bex10)], k0 := 1, mu := [], un := [(3, 3)] }
theorem okwire_Sum_3be : ConOk E C 14 conwire_Sum_3be :=
  con_ok (D := datwire_Sum_3be) ⟨d0Ok, eGood, tblOf_ok trivial, fun _ => rfl⟩ conwire_Sum_3be (fun a b => (a, b.1)) none (fun _ _ => rfl) rfl (fun _ _ h => nomatch h) 1000000 (fn := Try.f14) Try.func14 rfl (by kernel_rfl) (by kernel_rfl) rfl (by intro N a b; kernel_rfl)
structure Sslices_Equal_byte_9d2x4 where
  t13 : Int
def tsslices_Equal_byte_9d2x4 : List Sl := [.k, .k, .k, .k, .j, .j, .k, .k, .k, .k, .k, .k, .k, .sh (.ty 2), .j, .j, .j, .j, .j, .j, .j, .j, .j, .j, .j, .j]
def hsslices_Equal_byte_9d2x4 : List ESh := [.keep]
def toslices_Equal_byte_9d2x4 (a : Sl.Ts τ tsslices_Equal_byte_9d2x4) (b : ESh.Ts τ hsslices_Equal_byte_9d2x4) : Sslices_Equal_byte_9d2x4 := ⟨a.2.2.2.2.2.2.2.2.2.2.2.2.2.1⟩
def otslices_Equal_byte_9d2x4 (s : Sslices_Equal_byte_9d2x4) : Sl.Ts τ tsslices_Equal_byte_9d2x4 := ((), (), (), (), (), (), (), (), (), (), (), (), (), s.t13, (), (), (), (), (), (), (), (), (), (), (), (), ())
def ohslices_Equal_byte_9d2x4 (s : Sslices_Equal_byte_9d2x4) : ESh.Ts τ hsslices_Equal_byte_9d2x4 := ((), ())
def lpslices_Equal_byte_9d2x4 : Lp τ := { ts := tsslices_Equal_byte_9d2x4, hs := hsslices_Equal_byte_9d2x4, S := Sslices_Equal_byte_9d2x4, to := toslices_Equal_byte_9d2x4, ot := otslices_Equal_byte_9d2x4, oh := ohslices_Equal_byte_9d2x4, hk := [4], tk := [], ot_to := fun _ _ => rfl, oh_to := fun _ _ => rfl }
def Fslices_Equal_byte_9d2 (N : Nat) (s1_ : Nat) (s1_2 : Nat) (s1_3 : Nat) (s1_4 : Bool) (s2_ : List (Int)) (g0 : List (Int)) : Option (Bool × (List (Int))) :=
 (bif (!(((s1_2 : Nat) : Int) == ((s2_).length : Int))) then
 (some (false, g0))
 else
 (iter N (fun (s1 : Sslices_Equal_byte_9d2x4) next2 =>
 (bif (decide (s1.t13 < ((s1_2 : Nat) : Int))) then
 (bif (ibB s1.t13 ((s1_2 : Nat) : Int)) then
 (bif (decide ((s1_ + (s1.t13).toNat) < (g0).length)) then
 (bif (ibB s1.t13 ((s2_).length : Int)) then
 (bif (!((g0.getD (s1_ + (s1.t13).toNat) default) == (lget s2_ s1.t13 default))) then
 (some (false, g0))
 else
 (next2 ⟨(IntKind.i64.wrap (s1.t13 + 1))⟩))
 else none)
 else none)
 else none)
 else
 (some (true, g0)))) ⟨0⟩))
def conslices_Equal_byte_9d2 : Con τ := { args := [.wsl 5 0, .ty 23], L := [.gbx 5], ret := .ty 4, L' := [.gbx 5], R := Bool × (List (Int)), dflt := (default, default), F := fun N a b => Fslices_Equal_byte_9d2 N a.1.1 a.1.2.1 a.1.2.2.1 a.1.2.2.2 a.2.1 b.1, of := fun r => (r.1, (r.2, ())) }
noncomputable def datslices_Equal_byte_9d2 : Dat τ := { D := D0, tbl := tblOf [], lp := lpsOf [(4, lpslices_Equal_byte_9d2x4)], k0 := 1, mu := [], un := [] }
theorem okslices_Equal_byte_9d2 : ConOk E C 52 conslices_Equal_byte_9d2 :=
  con_ok (D := datslices_Equal_byte_9d2) ⟨d0Ok, eGood, tblOf_ok trivial, fun _ => rfl⟩ conslices_Equal_byte_9d2 (fun a b => (a, b.1)) none (fun _ _ => rfl) rfl (fun _ _ h => nomatch h) 1000000 (fn := Try.f52) Try.func52 rfl (by kernel_rfl) (by kernel_rfl) rfl (by intro N a b; kernel_rfl)
def Fslices_Clone_byte_028 (N : Nat) (s : Nat) (s2 : Nat) (s3 : Nat) (s4 : Bool) (g0 : List (Int)) : Option ((List (Int)) × (List (Int))) :=
 (bif (s4 || (Nat.blt 0 s2)) then
 (bif ((lenB ((((g0.drop s).take s2)).length) 1) && (Nat.ble (s + s2) (g0).length)) then
 (some (((g0.drop s).take s2), g0))
 else none)
 else none)
def conslices_Clone_byte_028 : Con τ := { args := [.wsl 5 0], L := [.gbx 5], ret := .ty 23, L' := [.gbx 5], R := (List (Int)) × (List (Int)), dflt := (default, default), F := fun N a b => Fslices_Clone_byte_028 N a.1.1 a.1.2.1 a.1.2.2.1 a.1.2.2.2 b.1, of := fun r => (r.1, (r.2, ())) }
noncomputable def datslices_Clone_byte_028 : Dat τ := { D := D0, tbl := tblOf [], lp := lpsOf [], k0 := 1, mu := [], un := [] }
theorem okslices_Clone_byte_028 : ConOk E C 43 conslices_Clone_byte_028 :=
  con_ok (D := datslices_Clone_byte_028) ⟨d0Ok, eGood, tblOf_ok trivial, fun _ => rfl⟩ conslices_Clone_byte_028 (fun a b => (a, b.1)) none (fun _ _ => rfl) rfl (fun _ _ h => nomatch h) 1000000 (fn := Try.f43) Try.func43 rfl (by kernel_rfl) (by kernel_rfl) rfl (by intro N a b; kernel_rfl)
def Fwire_Unframe_6ac (N : Nat) (b : Nat) (g0 : List (Int)) : Option ((List (Int)) × Int × Int × (List (Int))) :=
 ((Fwire_parse_6ac N b g0).bind fun r1 =>
 (bif (!(r1.2.2.1 == 0)) then
 (some ([], 0, r1.2.2.1, r1.2.2.2))
 else
 (bif (decide (r1.1 < 0)) then
 (some ([], 0, 11, r1.2.2.2))
 else
 (bif (decide (1048576 < r1.1)) then
 (some ([], 0, 3, r1.2.2.2))
 else
 (bif (decide ((IntKind.i64.wrap (((b : Nat) : Int) - r1.2.1)) < (IntKind.i64.wrap (r1.1 + 4)))) then
 (some ([], 0, 10, r1.2.2.2))
 else
 (bif (cutW (IntKind.i64.wrap (r1.2.1 + r1.1)) (IntKind.i64.wrap ((IntKind.i64.wrap (r1.2.1 + r1.1)) + 4)) ((b : Nat) : Int) ((b : Nat) : Int)) then
 (bif (cutW r1.2.1 (IntKind.i64.wrap (r1.2.1 + r1.1)) ((b : Nat) : Int) ((b : Nat) : Int)) then
 ((Fwire_Sum_3be N (0 + (r1.2.1).toNat) (((IntKind.i64.wrap (r1.2.1 + r1.1))).toNat - (r1.2.1).toNat) (b - (r1.2.1).toNat) (Nat.blt 0 b) r1.2.2.2).bind fun r2 =>
 ((Fwire_four N r2.1).bind fun r3 =>
 ((Fslices_Equal_byte_9d2 N (0 + ((IntKind.i64.wrap (r1.2.1 + r1.1))).toNat) (((IntKind.i64.wrap ((IntKind.i64.wrap (r1.2.1 + r1.1)) + 4))).toNat - ((IntKind.i64.wrap (r1.2.1 + r1.1))).toNat) (b - ((IntKind.i64.wrap (r1.2.1 + r1.1))).toNat) (Nat.blt 0 b) r3 r2.2).bind fun r4 =>
 (bif (!r4.1) then
 (some ([], 0, 12, r4.2))
 else
 (bif (cutW r1.2.1 (IntKind.i64.wrap (r1.2.1 + r1.1)) ((b : Nat) : Int) ((b : Nat) : Int)) then
 ((Fslices_Clone_byte_028 N (0 + (r1.2.1).toNat) (((IntKind.i64.wrap (r1.2.1 + r1.1))).toNat - (r1.2.1).toNat) (b - (r1.2.1).toNat) (Nat.blt 0 b) r4.2).bind fun r5 =>
 (some (r5.1, (IntKind.i64.wrap ((IntKind.i64.wrap (r1.2.1 + r1.1)) + 4)), 0, r5.2)))
 else none)))))
 else none)
 else none))))))
def conwire_Unframe_6ac : Con τ := { args := [.msl 5 0], L := [.gbx 5], ret := .tup [.ty 23, .ty 3, .ty 34], L' := [.gbx 5], R := (List (Int)) × Int × Int × (List (Int)), dflt := (default, default, default, default), F := fun N a b => Fwire_Unframe_6ac N a.1 b.1, of := fun r => ((r.1, r.2.1, r.2.2.1, ()), (r.2.2.2, ())) }
noncomputable def datwire_Unframe_6ac : Dat τ := { D := D0, tbl := tblOf [(45, conwire_parse_6ac), (14, conwire_Sum_3be), (51, conwire_four), (52, conslices_Equal_byte_9d2), (43, conslices_Clone_byte_028)], lp := lpsOf [], k0 := 1, mu := [], un := [] }
theorem okwire_Unframe_6ac : ConOk E C 39 conwire_Unframe_6ac :=
  con_ok (D := datwire_Unframe_6ac) ⟨d0Ok, eGood, tblOf_ok ⟨okwire_parse_6ac, ⟨okwire_Sum_3be, ⟨okwire_four, ⟨okslices_Equal_byte_9d2, ⟨okslices_Clone_byte_028, trivial⟩⟩⟩⟩⟩, fun _ => rfl⟩ conwire_Unframe_6ac (fun a b => (a.1, a.2.1, a.2.2.1, b.1)) none (fun _ _ => rfl) rfl (fun _ _ h => nomatch h) 1000000 (fn := Try.f39) Try.func39 rfl (by kernel_rfl) (by kernel_rfl) rfl (by intro N a b; kernel_rfl)
def Flaw01_WireTorn (N : Nat) (b : List (Int)) (behind : List (Int)) (n : Int) : Option (Bool) :=
 ((Fwire_Frame N b).bind fun r1 =>
 ((bif (!(!(r1.2.1 == 0))) then Flaw01_live N else some default).bind fun r2 =>
 (bif (((!(r1.2.1 == 0)) || (!r2)) || (decide (((r1.1 : Nat) : Int) < (IntKind.i64.wrap (((b).length : Int) + 5))))) then
 ((Flaw01_live N).bind fun r3 =>
 (some ((r3 && (decide (1048576 < ((b).length : Int)))) && (r1.2.1 == 3))))
 else
 (bif ((lenB ((((r1.2.2.drop 0).take r1.1)).length) 1) && (Nat.ble (0 + r1.1) (r1.2.2).length)) then
 (bif ((lenB ((((r1.2.2.drop 0).take r1.1)).length + (behind).length) 1) && (Nat.ble ((((r1.2.2.drop 0).take r1.1)).length) (((r1.2.2.drop 0).take r1.1)).length)) then
 ((Fwire_Unframe_6ac N ((((r1.2.2.drop 0).take r1.1)).length + (behind).length) (((r1.2.2.drop 0).take r1.1).take ((((r1.2.2.drop 0).take r1.1)).length) ++ behind)).bind fun r4 =>
 ((bif (!((!(r4.2.2.1 == 0)) || (!(r4.2.1 == ((r1.1 : Nat) : Int))))) then Fbytes_Equal N r4.1 b else some default).bind fun r5 =>
 (bif (((!(r4.2.2.1 == 0)) || (!(r4.2.1 == ((r1.1 : Nat) : Int)))) || (!r5)) then
 (some false)
 else
 (bif (!(((r1.1 : Nat) : Int) == 0)) then
 (bif (cutB 0 (Int.tmod (IntKind.i64.wrap n) ((r1.1 : Nat) : Int)) ((r1.1 : Nat) : Int)) then
 ((Fwire_Unframe_6ac N (((Int.tmod (IntKind.i64.wrap n) ((r1.1 : Nat) : Int))).toNat) r1.2.2).bind fun r6 =>
 (bif (!(r6.2.2.1 == 10)) then
 (some false)
 else
 (bif (!((IntKind.i64.wrap (((b).length : Int) + 4)) == 0)) then
 (bif (ibB (IntKind.i64.wrap ((IntKind.i64.wrap ((IntKind.i64.wrap (((r1.1 : Nat) : Int) - ((b).length : Int))) - 4)) + (Int.tmod (IntKind.i64.wrap n) (IntKind.i64.wrap (((b).length : Int) + 4))))) ((r1.1 : Nat) : Int)) then
 (bif (decide (((IntKind.i64.wrap ((IntKind.i64.wrap ((IntKind.i64.wrap (((r1.1 : Nat) : Int) - ((b).length : Int))) - 4)) + (Int.tmod (IntKind.i64.wrap n) (IntKind.i64.wrap (((b).length : Int) + 4)))))).toNat < (r6.2.2.2).length)) then
 (bif (decide (0 ≤ (Int.tmod n 8))) then
 (bif (ibB (IntKind.i64.wrap ((IntKind.i64.wrap ((IntKind.i64.wrap (((r1.1 : Nat) : Int) - ((b).length : Int))) - 4)) + (Int.tmod (IntKind.i64.wrap n) (IntKind.i64.wrap (((b).length : Int) + 4))))) ((r1.1 : Nat) : Int)) then
 (bif (decide (((IntKind.i64.wrap ((IntKind.i64.wrap ((IntKind.i64.wrap (((r1.1 : Nat) : Int) - ((b).length : Int))) - 4)) + (Int.tmod (IntKind.i64.wrap n) (IntKind.i64.wrap (((b).length : Int) + 4)))))).toNat < (r6.2.2.2).length)) then
 ((Fwire_Unframe_6ac N r1.1 (r6.2.2.2.set (((IntKind.i64.wrap ((IntKind.i64.wrap ((IntKind.i64.wrap (((r1.1 : Nat) : Int) - ((b).length : Int))) - 4)) + (Int.tmod (IntKind.i64.wrap n) (IntKind.i64.wrap (((b).length : Int) + 4)))))).toNat) (bits .xor .u8 (r6.2.2.2.getD (((IntKind.i64.wrap ((IntKind.i64.wrap ((IntKind.i64.wrap (((r1.1 : Nat) : Int) - ((b).length : Int))) - 4)) + (Int.tmod (IntKind.i64.wrap n) (IntKind.i64.wrap (((b).length : Int) + 4)))))).toNat) default) (shl .u8 1 (Int.tmod n 8))))).bind fun r7 =>
 (some (r7.2.2.1 == 12)))
 else none)
 else none)
 else none)
 else none)
 else none)
 else none)))
 else none)
 else none))))
 else none)
 else none))))
def conlaw01_WireTorn : Con τ := { args := [.ty 23, .ty 23, .ty 41], L := [], ret := .ty 4, L' := [], R := Bool, dflt := default, F := fun N a b => Flaw01_WireTorn N a.1 a.2.1 a.2.2.1, of := fun r => (r, ()) }
noncomputable def datlaw01_WireTorn : Dat τ := { D := D0, tbl := tblOf [(35, conwire_Frame), (13, conlaw01_live), (39, conwire_Unframe_6ac), (19, conbytes_Equal)], lp := lpsOf [], k0 := 0, mu := [48, 50], un := [] }
theorem oklaw01_WireTorn : ConOk E C 12 conlaw01_WireTorn :=
  con_ok (D := datlaw01_WireTorn) ⟨d0Ok, eGood, tblOf_ok ⟨okwire_Frame, ⟨oklaw01_live, ⟨okwire_Unframe_6ac, ⟨okbytes_Equal, trivial⟩⟩⟩⟩, fun _ => rfl⟩ conlaw01_WireTorn (fun a b => a) none (fun _ _ => rfl) rfl (fun _ _ h => nomatch h) 1000000 (fn := Try.f12) Try.func12 rfl (by kernel_rfl) (by kernel_rfl) rfl (by intro N a b; kernel_rfl)
end Go.Proofs.Yticlnhhaaidmaaa
