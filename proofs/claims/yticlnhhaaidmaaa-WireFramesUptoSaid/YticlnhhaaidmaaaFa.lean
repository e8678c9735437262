/-
The functions of this seat, as plain functions over typed data, each with its contract. Printed by wip/tools/fngen.py.
-/
import Derived.Test.YticlnhhaaidmaaaCod
import Derived.Test.YticlnhhaaidmaaaTvU
import Derived.KernelRfl
set_option linter.unusedVariables false
set_option maxRecDepth 100000
namespace Go.Proofs.Yticlnhhaaidmaaa
open Go Go.Ev

/-- orchard/wire.NewWriter -/
def F16 (N : Nat)  : Option (Bool × (List (Int))) :=
 (some (true, []))
def con16 : Con τ := { args := [], L := [], ret := .ptr 0 [], L' := [.box (.agg [.ty 4, .own 5 1]), .tail], R := Bool × (List (Int)), dflt := (default, default), F := fun N a b => F16 N , of := fun r => ((), ((r.1, r.2, ()), (), ())) }
noncomputable def dat16 : Dat τ := { D := D0, tbl := tblOf [], lp := lpsOf [], k0 := 0, mu := [], un := [] }
theorem ok16 : ConOk E C 16 con16 :=
  con_ok (D := dat16) ⟨d0Ok, eGood, tblOf_ok (l := []) trivial⟩ con16 (fun a b => (b.1.1, b.1.2.1)) none (fun _ _ => rfl) rfl (fun _ _ h => nomatch h) 1000000 (fn := Try.f16) Try.func16 rfl (by kernel_rfl) (by kernel_rfl) rfl (by intro N a b; kernel_rfl)

/-- slices.Clone[[]byte,byte] -/
def F43i1 (N : Nat) (s : List (Int)) : Option ((List (Int))) :=
 (bif (lenB (0 + (s).length) 1) then
 (some ([] ++ s))
 else none)
def con43i1 : Con τ := { args := [.nn 5], L := [], ret := .ty 23, L' := [], R := (List (Int)), dflt := default, F := fun N a b => F43i1 N a.1, of := fun r => (r, ()) }
noncomputable def dat43i1 : Dat τ := { D := D0, tbl := tblOf [], lp := lpsOf [], k0 := 0, mu := [], un := [] }
theorem ok43i1 : ConOk E C 43 con43i1 :=
  con_ok (D := dat43i1) ⟨d0Ok, eGood, tblOf_ok (l := []) trivial⟩ con43i1 (fun a b => a) none (fun _ _ => rfl) rfl (fun _ _ h => nomatch h) 1000000 (fn := Try.f43) Try.func43 rfl (by kernel_rfl) (by kernel_rfl) rfl (by intro N a b; kernel_rfl)

/-- slices.Clone[[]byte,byte] -/
def F43i2 (N : Nat)  : Option ((List (Int))) :=
 (some [])
def con43i2 : Con τ := { args := [.nil .slice], L := [], ret := .ty 23, L' := [], R := (List (Int)), dflt := default, F := fun N a b => F43i2 N , of := fun r => (r, ()) }
noncomputable def dat43i2 : Dat τ := { D := D0, tbl := tblOf [], lp := lpsOf [], k0 := 0, mu := [], un := [] }
theorem ok43i2 : ConOk E C 43 con43i2 :=
  con_ok (D := dat43i2) ⟨d0Ok, eGood, tblOf_ok (l := []) trivial⟩ con43i2 (fun a b => a) none (fun _ _ => rfl) rfl (fun _ _ h => nomatch h) 1000000 (fn := Try.f43) Try.func43 rfl (by kernel_rfl) (by kernel_rfl) rfl (by intro N a b; kernel_rfl)

/-- slices.Clone[[]byte,byte] -/
def F43 (N : Nat) (s : List (Int)) : Option ((List (Int))) := F43i1 N s
def con43 : Con τ := { args := [.ty 23], L := [], ret := .ty 23, L' := [], R := (List (Int)), dflt := default, F := fun N a b => F43 N a.1, of := fun r => (r, ()) }
theorem ok43 : ConOk E C 43 con43 := by
  intro N a b r h
  obtain ⟨x0, u⟩ := a
  refine FnSpec.split (pre := []) (post := []) (fun h0 => ?_) (ok43i1 N (x0, u) b r h)
  have h0 : x0 = [] := List.map_eq_nil_iff.1 h0
  subst h0
  exact ok43i2 N ((), u) b r ((show con43i2.F N ((), u) b = con43.F N ([], u) b from by kernel_rfl).trans h)

/-- orchard/wire.NewReader -/
def F21 (N : Nat) (b : List (Int)) : Option (Gwire_Writer) :=
 ((F43 N b).bind fun r1 =>
 (some (⟨true, r1⟩ : Gwire_Writer)))
def con21 : Con τ := { args := [.ty 23], L := [], ret := .ptr 0 [], L' := [.box (.ty 66)], R := Gwire_Writer, dflt := default, F := fun N a b => F21 N a.1, of := fun r => ((), (r, ())) }
noncomputable def dat21 : Dat τ := { D := D0, tbl := tblOf [(43, con43)], lp := lpsOf [], k0 := 0, mu := [], un := [] }
theorem ok21 : ConOk E C 21 con21 :=
  con_ok (D := dat21) ⟨d0Ok, eGood, tblOf_ok (l := [(43, con43)]) ⟨ok43, trivial⟩⟩ con21 (fun a b => b.1) none (fun _ _ => rfl) rfl (fun _ _ h => nomatch h) 1000000 (fn := Try.f21) Try.func21 rfl (by kernel_rfl) (by kernel_rfl) rfl (by intro N a b; kernel_rfl)

structure S49x5 where
  u : Int
  b : List (Int)
def ts49x5 : List Sl := [.keep, .keep, .keep, .sh (.ty 12), .sh (.own 5 0), .keep, .keep, .keep, .keep, .keep, .keep, .keep, .junk, .junk, .junk, .junk, .junk, .junk, .junk, .junk, .junk, .junk, .keep, .keep, .keep, .keep, .keep]
def hs49x5 : List ESh := [.tail]
def to49x5 (a : Sl.Ts τ ts49x5) (b : ESh.Ts τ hs49x5) : S49x5 := ⟨a.2.2.2.1, a.2.2.2.2.1⟩
def ot49x5 (s : S49x5) : Sl.Ts τ ts49x5 := ((), (), (), s.u, s.b, (), (), (), (), (), (), (), (), (), (), (), (), (), (), (), (), (), (), (), (), (), (), ())
def oh49x5 (s : S49x5) : ESh.Ts τ hs49x5 := ((), ())
def lp49x5 : Lp τ := { ts := ts49x5, hs := hs49x5, S := S49x5, to := to49x5, ot := ot49x5, oh := oh49x5, hk := [], tk := [], ot_to := fun _ _ => rfl, oh_to := fun _ _ => rfl }
/-- orchard/wire.number -/
def F49 (N : Nat) (n : Int) : Option ((List (Int))) :=
 (bif (decide (n < 0)) then
 (iter N (fun (s1 : S49x5) next2 =>
 (bif (decide (128 ≤ s1.u)) then
 (bif (lenB ((s1.b).length + ([(bits .or .u8 (IntKind.u8.wrap s1.u) 128)]).length) 1) then
 (next2 ⟨(shr .u64 s1.u 7), (s1.b ++ [(bits .or .u8 (IntKind.u8.wrap s1.u) 128)])⟩)
 else none)
 else
 (bif (lenB ((s1.b).length + ([(IntKind.u8.wrap s1.u)]).length) 1) then
 (some (s1.b ++ [(IntKind.u8.wrap s1.u)]))
 else none))) ⟨(bits .xor .u64 IntKind.u64.max (shl .u64 (IntKind.u64.wrap n) 1)), []⟩)
 else
 (iter N (fun (s3 : S49x5) next4 =>
 (bif (decide (128 ≤ s3.u)) then
 (bif (lenB ((s3.b).length + ([(bits .or .u8 (IntKind.u8.wrap s3.u) 128)]).length) 1) then
 (next4 ⟨(shr .u64 s3.u 7), (s3.b ++ [(bits .or .u8 (IntKind.u8.wrap s3.u) 128)])⟩)
 else none)
 else
 (bif (lenB ((s3.b).length + ([(IntKind.u8.wrap s3.u)]).length) 1) then
 (some (s3.b ++ [(IntKind.u8.wrap s3.u)]))
 else none))) ⟨(shl .u64 (IntKind.u64.wrap n) 1), []⟩))
def con49 : Con τ := { args := [.ty 2], L := [], ret := .own 5 0, L' := [.tail], R := (List (Int)), dflt := default, F := fun N a b => F49 N a.1, of := fun r => (r, ((), ())) }
noncomputable def dat49 : Dat τ := { D := D0, tbl := tblOf [], lp := lpsOf [(5, lp49x5)], k0 := 0, mu := [], un := [] }
theorem ok49 : ConOk E C 49 con49 :=
  con_ok (D := dat49) ⟨d0Ok, eGood, tblOf_ok (l := []) trivial⟩ con49 (fun a b => a) none (fun _ _ => rfl) rfl (fun _ _ h => nomatch h) 1000000 (fn := Try.f49) Try.func49 rfl (by kernel_rfl) (by kernel_rfl) rfl (by intro N a b; kernel_rfl)

/-- (*orchard/wire.Writer).none -/
def F42 (N : Nat) (b0 : Bool) (b02 : List (Int)) : Option (Bool × Bool × (List (Int))) :=
 (some ((!b0), b0, b02))
def con42 : Con τ := { args := [.ptr 0 []], L := [.box (.agg [.ty 4, .own 5 1]), .tail], ret := .ty 4, L' := [.box (.agg [.ty 4, .own 5 1]), .tail], R := Bool × Bool × (List (Int)), dflt := (default, default, default), F := fun N a b => F42 N b.1.1 b.1.2.1, of := fun r => (r.1, ((r.2.1, r.2.2, ()), (), ())) }
noncomputable def dat42 : Dat τ := { D := D0, tbl := tblOf [], lp := lpsOf [], k0 := 2, mu := [], un := [] }
theorem ok42 : ConOk E C 42 con42 :=
  con_ok (D := dat42) ⟨d0Ok, eGood, tblOf_ok (l := []) trivial⟩ con42 (fun a b => (a, b.1.1, b.1.2.1)) none (fun _ _ => rfl) rfl (fun _ _ h => nomatch h) 1000000 (fn := Try.f42) Try.func42 rfl (by kernel_rfl) (by kernel_rfl) rfl (by intro N a b; kernel_rfl)

structure S48x5 where
  n : Int
  t19 : Int
def ts48x5 : List Sl := [.keep, .keep, .keep, .keep, .junk, .sh (.ty 2), .keep, .junk, .keep, .keep, .keep, .keep, .keep, .keep, .keep, .keep, .keep, .keep, .keep, .sh (.ty 2), .junk, .junk, .junk, .junk, .junk, .junk, .junk, .junk, .junk, .junk, .junk, .junk, .junk, .keep, .keep, .keep, .keep, .keep, .keep, .keep, .keep, .keep, .keep, .keep, .keep, .keep, .keep, .keep, .keep]
def hs48x5 : List ESh := [.keep, .keep]
def to48x5 (a : Sl.Ts τ ts48x5) (b : ESh.Ts τ hs48x5) : S48x5 := ⟨a.2.2.2.2.2.1, a.2.2.2.2.2.2.2.2.2.2.2.2.2.2.2.2.2.2.2.1⟩
def ot48x5 (s : S48x5) : Sl.Ts τ ts48x5 := ((), (), (), (), (), s.n, (), (), (), (), (), (), (), (), (), (), (), (), (), s.t19, (), (), (), (), (), (), (), (), (), (), (), (), (), (), (), (), (), (), (), (), (), (), (), (), (), (), (), (), (), ())
def oh48x5 (s : S48x5) : ESh.Ts τ hs48x5 := ((), (), ())
def lp48x5 : Lp τ := { ts := ts48x5, hs := hs48x5, S := S48x5, to := to48x5, ot := ot48x5, oh := oh48x5, hk := [2, 5], tk := [2, 0, 0, 0, 0, 0, 0, 0, 0, 0, 2, 0, 2, 2, 2], ot_to := fun _ _ => rfl, oh_to := fun _ _ => rfl }
structure S48x12 where
  t35 : Int
  b0 : Bool
  b02 : List (Int)
def ts48x12 : List Sl := [.keep, .keep, .keep, .keep, .keep, .keep, .keep, .keep, .keep, .junk, .keep, .keep, .keep, .keep, .keep, .keep, .keep, .keep, .keep, .keep, .keep, .keep, .keep, .keep, .keep, .keep, .keep, .keep, .keep, .keep, .keep, .keep, .keep, .keep, .keep, .sh (.ty 2), .junk, .junk, .junk, .junk, .junk, .junk, .junk, .junk, .junk, .junk, .junk, .junk, .junk]
def hs48x12 : List ESh := [.box (.agg [.ty 4, .own 5 2]), .dead, .tail]
def to48x12 (a : Sl.Ts τ ts48x12) (b : ESh.Ts τ hs48x12) : S48x12 := ⟨a.2.2.2.2.2.2.2.2.2.2.2.2.2.2.2.2.2.2.2.2.2.2.2.2.2.2.2.2.2.2.2.2.2.2.2.1, b.1.1, b.1.2.1⟩
def ot48x12 (s : S48x12) : Sl.Ts τ ts48x12 := ((), (), (), (), (), (), (), (), (), (), (), (), (), (), (), (), (), (), (), (), (), (), (), (), (), (), (), (), (), (), (), (), (), (), (), s.t35, (), (), (), (), (), (), (), (), (), (), (), (), (), ())
def oh48x12 (s : S48x12) : ESh.Ts τ hs48x12 := ((s.b0, s.b02, ()), (), (), ())
def lp48x12 : Lp τ := { ts := ts48x12, hs := hs48x12, S := S48x12, to := to48x12, ot := ot48x12, oh := oh48x12, hk := [2, 5], tk := [2, 0, 0, 0, 0, 0, 0, 0, 0, 0, 2, 0, 2, 2, 2], ot_to := fun _ _ => rfl, oh_to := fun _ _ => rfl }
/-- (*orchard/wire.Writer).put -/
def F48 (N : Nat) (l : List (List (Int))) (b0 : Bool) (b02 : List (Int)) : Option (Int × Bool × (List (Int))) :=
 ((F42 N b0 b02).bind fun r1 =>
 (bif r1.1 then
 (some (2, r1.2.1, r1.2.2))
 else
 (iter N (fun (s2 : S48x5) next3 =>
 (bif (decide (s2.t19 < ((l).length : Int))) then
 (bif (ibB s2.t19 ((l).length : Int)) then
 (bif (decide ((IntKind.i64.wrap (1048576 - s2.n)) < (((lget l s2.t19 default)).length : Int))) then
 (some (3, r1.2.1, r1.2.2))
 else
 (next3 ⟨(IntKind.i64.wrap (s2.n + (((lget l s2.t19 default)).length : Int))), (IntKind.i64.wrap (s2.t19 + 1))⟩))
 else none)
 else
 (iter N (fun (s4 : S48x12) next5 =>
 (bif (decide (s4.t35 < ((l).length : Int))) then
 (bif (ibB s4.t35 ((l).length : Int)) then
 (bif (lenB ((s4.b02).length + ((lget l s4.t35 default)).length) 1) then
 (next5 ⟨(IntKind.i64.wrap (s4.t35 + 1)), s4.b0, (s4.b02 ++ (lget l s4.t35 default))⟩)
 else none)
 else none)
 else
 (some (0, s4.b0, s4.b02)))) ⟨0, r1.2.1, r1.2.2⟩))) ⟨((r1.2.2).length : Int), 0⟩)))
def con48 : Con τ := { args := [.ptr 0 [], .ty 22], L := [.box (.agg [.ty 4, .own 5 1]), .tail], ret := .ty 34, L' := [.box (.agg [.ty 4, .own 5 2]), .dead, .tail], R := Int × Bool × (List (Int)), dflt := (default, default, default), F := fun N a b => F48 N a.2.1 b.1.1 b.1.2.1, of := fun r => (r.1, ((r.2.1, r.2.2, ()), (), (), ())) }
noncomputable def dat48 : Dat τ := { D := D0, tbl := tblOf [(42, con42)], lp := lpsOf [(5, lp48x5), (12, lp48x12)], k0 := 2, mu := [], un := [] }
theorem ok48 : ConOk E C 48 con48 :=
  con_ok (D := dat48) ⟨d0Ok, eGood, tblOf_ok (l := [(42, con42)]) ⟨ok42, trivial⟩⟩ con48 (fun a b => (a, b.1.1, b.1.2.1)) none (fun _ _ => rfl) rfl (fun _ _ h => nomatch h) 1000000 (fn := Try.f48) Try.func48 rfl (by kernel_rfl) (by kernel_rfl) rfl (by intro N a b; kernel_rfl)

/-- (*orchard/wire.Writer).Int -/
def F31 (N : Nat) (n : Int) (b0 : Bool) (b02 : List (Int)) : Option (Int × Bool × (List (Int))) :=
 ((F49 N n).bind fun r1 =>
 ((F48 N [r1] b0 b02).bind fun r2 =>
 (some (r2.1, r2.2.1, r2.2.2))))
def con31 : Con τ := { args := [.ptr 0 [], .ty 2], L := [.box (.agg [.ty 4, .own 5 1]), .tail], ret := .ty 34, L' := [.box (.agg [.ty 4, .own 5 2]), .dead, .tail], R := Int × Bool × (List (Int)), dflt := (default, default, default), F := fun N a b => F31 N a.2.1 b.1.1 b.1.2.1, of := fun r => (r.1, ((r.2.1, r.2.2, ()), (), (), ())) }
noncomputable def dat31 : Dat τ := { D := D0, tbl := tblOf [(49, con49), (48, con48)], lp := lpsOf [], k0 := 2, mu := [], un := [] }
theorem ok31 : ConOk E C 31 con31 :=
  con_ok (D := dat31) ⟨d0Ok, eGood, tblOf_ok (l := [(49, con49), (48, con48)]) ⟨ok49, ⟨ok48, trivial⟩⟩⟩ con31 (fun a b => (a, b.1.1, b.1.2.1)) none (fun _ _ => rfl) rfl (fun _ _ h => nomatch h) 1000000 (fn := Try.f31) Try.func31 rfl (by kernel_rfl) (by kernel_rfl) rfl (by intro N a b; kernel_rfl)

/-- (*orchard/wire.Reader).none -/
def F44 (N : Nat) (b0 : Gwire_Writer) : Option (Bool × Gwire_Writer) :=
 (some ((!b0.made), b0))
def con44 : Con τ := { args := [.ptr 0 []], L := [.box (.ty 66)], ret := .ty 4, L' := [.box (.ty 66)], R := Bool × Gwire_Writer, dflt := (default, default), F := fun N a b => F44 N b.1, of := fun r => (r.1, (r.2, ())) }
noncomputable def dat44 : Dat τ := { D := D0, tbl := tblOf [], lp := lpsOf [], k0 := 1, mu := [], un := [] }
theorem ok44 : ConOk E C 44 con44 :=
  con_ok (D := dat44) ⟨d0Ok, eGood, tblOf_ok (l := []) trivial⟩ con44 (fun a b => (a, b.1)) none (fun _ _ => rfl) rfl (fun _ _ h => nomatch h) 1000000 (fn := Try.f44) Try.func44 rfl (by kernel_rfl) (by kernel_rfl) rfl (by intro N a b; kernel_rfl)

structure S45x3 where
  u : Int
  t8 : Int
def ts45x3 : List Sl := [.keep, .keep, .junk, .junk, .junk, .sh (.ty 12), .junk, .junk, .sh (.ty 2), .junk, .junk, .junk, .junk, .junk, .junk, .junk, .junk, .junk, .junk, .junk, .junk, .junk, .junk, .junk, .junk, .junk, .junk, .junk, .junk, .junk, .junk, .junk, .junk, .junk, .junk, .junk, .junk, .junk, .junk, .junk, .junk, .junk, .junk, .junk, .junk, .junk, .junk, .junk, .junk, .junk, .junk, .junk, .junk, .junk, .junk, .junk, .junk, .junk]
def hs45x3 : List ESh := []
def to45x3 (a : Sl.Ts τ ts45x3) (b : ESh.Ts τ hs45x3) : S45x3 := ⟨a.2.2.2.2.2.1, a.2.2.2.2.2.2.2.2.1⟩
def ot45x3 (s : S45x3) : Sl.Ts τ ts45x3 := ((), (), (), (), (), s.u, (), (), s.t8, (), (), (), (), (), (), (), (), (), (), (), (), (), (), (), (), (), (), (), (), (), (), (), (), (), (), (), (), (), (), (), (), (), (), (), (), (), (), (), (), (), (), (), (), (), (), (), (), (), ())
def oh45x3 (s : S45x3) : ESh.Ts τ hs45x3 := ()
def lp45x3 : Lp τ := { ts := ts45x3, hs := hs45x3, S := S45x3, to := to45x3, ot := ot45x3, oh := oh45x3, hk := [], tk := [], ot_to := fun _ _ => rfl, oh_to := fun _ _ => rfl }
/-- orchard/wire.parse -/
def F45 (N : Nat) (b : List (Int)) : Option (Int × Int × Int) :=
 (iter N (fun (s1 : S45x3) next2 =>
 (bif (decide (s1.t8 < 10)) then
 (bif (decide (((b).length : Int) ≤ s1.t8)) then
 (some (0, 0, 10))
 else
 (bif (ibB s1.t8 ((b).length : Int)) then
 (bif (((s1.t8 == 9) && (decide (1 < (lget b s1.t8 default)))) || (((lget b s1.t8 default) == 0) && (decide (0 < s1.t8)))) then
 (some (0, 0, 11))
 else
 (bif (decide (0 ≤ (IntKind.i64.wrap (7 * s1.t8)))) then
 (bif (decide ((lget b s1.t8 default) < 128)) then
 (bif ((bits .and .u64 (bits .or .u64 s1.u (shl .u64 (IntKind.u64.wrap (bits .and .u8 (lget b s1.t8 default) 127)) (IntKind.i64.wrap (7 * s1.t8)))) 1) == 1) then
 (some ((IntKind.i64.wrap (bits .xor .u64 IntKind.u64.max (shr .u64 (bits .or .u64 s1.u (shl .u64 (IntKind.u64.wrap (bits .and .u8 (lget b s1.t8 default) 127)) (IntKind.i64.wrap (7 * s1.t8)))) 1))), (IntKind.i64.wrap (s1.t8 + 1)), 0))
 else
 (some ((IntKind.i64.wrap (shr .u64 (bits .or .u64 s1.u (shl .u64 (IntKind.u64.wrap (bits .and .u8 (lget b s1.t8 default) 127)) (IntKind.i64.wrap (7 * s1.t8)))) 1)), (IntKind.i64.wrap (s1.t8 + 1)), 0)))
 else
 (next2 ⟨(bits .or .u64 s1.u (shl .u64 (IntKind.u64.wrap (bits .and .u8 (lget b s1.t8 default) 127)) (IntKind.i64.wrap (7 * s1.t8)))), (IntKind.i64.wrap (s1.t8 + 1))⟩))
 else none))
 else none))
 else
 (some (0, 0, 11)))) ⟨0, 0⟩)
def con45 : Con τ := { args := [.ty 23], L := [], ret := .tup [.ty 2, .ty 3, .ty 34], L' := [], R := Int × Int × Int, dflt := (default, default, default), F := fun N a b => F45 N a.1, of := fun r => ((r.1, r.2.1, r.2.2, ()), ()) }
noncomputable def dat45 : Dat τ := { D := D0, tbl := tblOf [], lp := lpsOf [(3, lp45x3)], k0 := 0, mu := [], un := [] }
theorem ok45 : ConOk E C 45 con45 :=
  con_ok (D := dat45) ⟨d0Ok, eGood, tblOf_ok (l := []) trivial⟩ con45 (fun a b => (a.1, a.2.1, a.2.2.1)) none (fun _ _ => rfl) rfl (fun _ _ h => nomatch h) 1000000 (fn := Try.f45) Try.func45 rfl (by kernel_rfl) (by kernel_rfl) rfl (by intro N a b; kernel_rfl)

/-- (*orchard/wire.Reader).Int -/
def F22 (N : Nat) (b0 : Gwire_Writer) : Option (Int × Int × Gwire_Writer) :=
 ((F44 N b0).bind fun r1 =>
 (bif r1.1 then
 (some (0, 2, r1.2))
 else
 ((F45 N r1.2.b).bind fun r2 =>
 (bif (cutB r2.2.1 ((r1.2.b).length : Int) ((r1.2.b).length : Int)) then
 (some (r2.1, r2.2.2, (⟨r1.2.made, (cut r1.2.b r2.2.1 ((r1.2.b).length : Int))⟩ : Gwire_Writer)))
 else none))))
def con22 : Con τ := { args := [.ptr 0 []], L := [.box (.ty 66)], ret := .tup [.ty 2, .ty 34], L' := [.box (.ty 66)], R := Int × Int × Gwire_Writer, dflt := (default, default, default), F := fun N a b => F22 N b.1, of := fun r => ((r.1, r.2.1, ()), (r.2.2, ())) }
noncomputable def dat22 : Dat τ := { D := D0, tbl := tblOf [(44, con44), (45, con45)], lp := lpsOf [], k0 := 1, mu := [], un := [] }
theorem ok22 : ConOk E C 22 con22 :=
  con_ok (D := dat22) ⟨d0Ok, eGood, tblOf_ok (l := [(44, con44), (45, con45)]) ⟨ok44, ⟨ok45, trivial⟩⟩⟩ con22 (fun a b => (a.1, a.2.1, b.1)) none (fun _ _ => rfl) rfl (fun _ _ h => nomatch h) 1000000 (fn := Try.f22) Try.func22 rfl (by kernel_rfl) (by kernel_rfl) rfl (by intro N a b; kernel_rfl)

/-- (*orchard/wire.Writer).Out -/
def F20 (N : Nat) (b0 : Bool) (b02 : List (Int)) : Option ((List (Int)) × Bool × (List (Int))) :=
 ((F42 N b0 b02).bind fun r1 =>
 (bif r1.1 then
 (some ([], r1.2.1, r1.2.2))
 else
 ((F43 N r1.2.2).bind fun r2 =>
 (some (r2, r1.2.1, r1.2.2)))))
def con20 : Con τ := { args := [.ptr 0 []], L := [.box (.agg [.ty 4, .own 5 1]), .tail], ret := .ty 23, L' := [.box (.agg [.ty 4, .own 5 1]), .tail], R := (List (Int)) × Bool × (List (Int)), dflt := (default, default, default), F := fun N a b => F20 N b.1.1 b.1.2.1, of := fun r => (r.1, ((r.2.1, r.2.2, ()), (), ())) }
noncomputable def dat20 : Dat τ := { D := D0, tbl := tblOf [(42, con42), (43, con43)], lp := lpsOf [], k0 := 2, mu := [], un := [] }
theorem ok20 : ConOk E C 20 con20 :=
  con_ok (D := dat20) ⟨d0Ok, eGood, tblOf_ok (l := [(42, con42), (43, con43)]) ⟨ok42, ⟨ok43, trivial⟩⟩⟩ con20 (fun a b => (a, b.1.1, b.1.2.1)) none (fun _ _ => rfl) rfl (fun _ _ h => nomatch h) 1000000 (fn := Try.f20) Try.func20 rfl (by kernel_rfl) (by kernel_rfl) rfl (by intro N a b; kernel_rfl)

/-- bytes.Equal -/
def F19 (N : Nat) (a : List (Int)) (b : List (Int)) : Option (Bool) :=
 (some ((strI a) == (strI b)))
def con19 : Con τ := { args := [.ty 23, .ty 23], L := [], ret := .ty 4, L' := [], R := Bool, dflt := default, F := fun N a b => F19 N a.1 a.2.1, of := fun r => (r, ()) }
noncomputable def dat19 : Dat τ := { D := D0, tbl := tblOf [], lp := lpsOf [], k0 := 0, mu := [], un := [] }
theorem ok19 : ConOk E C 19 con19 :=
  con_ok (D := dat19) ⟨d0Ok, eGood, tblOf_ok (l := []) trivial⟩ con19 (fun a b => a) none (fun _ _ => rfl) rfl (fun _ _ h => nomatch h) 1000000 (fn := Try.f19) Try.func19 rfl (by kernel_rfl) (by kernel_rfl) rfl (by intro N a b; kernel_rfl)

structure S14x3 where
  sum : Int
  t11 : Int
def ts14x3 : List Sl := [.keep, .keep, .keep, .sh (.ty 25), .keep, .junk, .keep, .junk, .junk, .keep, .keep, .sh (.ty 2), .junk, .junk, .junk, .junk, .junk, .junk, .junk, .junk, .junk, .junk, .junk, .junk, .junk, .junk, .junk, .junk, .junk, .junk, .junk, .junk, .junk, .junk, .junk, .junk, .junk, .junk, .keep, .keep]
def hs14x3 : List ESh := []
def to14x3 (a : Sl.Ts τ ts14x3) (b : ESh.Ts τ hs14x3) : S14x3 := ⟨a.2.2.2.1, a.2.2.2.2.2.2.2.2.2.2.2.1⟩
def ot14x3 (s : S14x3) : Sl.Ts τ ts14x3 := ((), (), (), s.sum, (), (), (), (), (), (), (), s.t11, (), (), (), (), (), (), (), (), (), (), (), (), (), (), (), (), (), (), (), (), (), (), (), (), (), (), (), (), ())
def oh14x3 (s : S14x3) : ESh.Ts τ hs14x3 := ()
def lp14x3 : Lp τ := { ts := ts14x3, hs := hs14x3, S := S14x3, to := to14x3, ot := ot14x3, oh := oh14x3, hk := [], tk := [], ot_to := fun _ _ => rfl, oh_to := fun _ _ => rfl }
structure S14x6 where
  sum : Int
  t17 : Int
def ts14x6 : List Sl := [.keep, .keep, .keep, .sh (.ty 25), .keep, .keep, .keep, .junk, .junk, .keep, .keep, .keep, .keep, .keep, .keep, .keep, .keep, .sh (.ty 2), .junk, .junk, .junk, .junk, .junk, .junk, .junk, .junk, .junk, .junk, .junk, .junk, .junk, .junk, .junk, .junk, .junk, .junk, .junk, .keep, .keep, .keep]
def hs14x6 : List ESh := []
def to14x6 (a : Sl.Ts τ ts14x6) (b : ESh.Ts τ hs14x6) : S14x6 := ⟨a.2.2.2.1, a.2.2.2.2.2.2.2.2.2.2.2.2.2.2.2.2.2.1⟩
def ot14x6 (s : S14x6) : Sl.Ts τ ts14x6 := ((), (), (), s.sum, (), (), (), (), (), (), (), (), (), (), (), (), (), s.t17, (), (), (), (), (), (), (), (), (), (), (), (), (), (), (), (), (), (), (), (), (), (), ())
def oh14x6 (s : S14x6) : ESh.Ts τ hs14x6 := ()
def lp14x6 : Lp τ := { ts := ts14x6, hs := hs14x6, S := S14x6, to := to14x6, ot := ot14x6, oh := oh14x6, hk := [], tk := [], ot_to := fun _ _ => rfl, oh_to := fun _ _ => rfl }
structure S14x10 where
  sum : Int
  t25 : Int
def ts14x10 : List Sl := [.keep, .keep, .keep, .sh (.ty 25), .keep, .keep, .keep, .keep, .junk, .keep, .keep, .keep, .keep, .keep, .keep, .keep, .keep, .keep, .keep, .keep, .keep, .keep, .keep, .keep, .keep, .sh (.ty 2), .junk, .junk, .junk, .junk, .junk, .junk, .junk, .junk, .junk, .junk, .keep, .keep, .keep, .keep]
def hs14x10 : List ESh := []
def to14x10 (a : Sl.Ts τ ts14x10) (b : ESh.Ts τ hs14x10) : S14x10 := ⟨a.2.2.2.1, a.2.2.2.2.2.2.2.2.2.2.2.2.2.2.2.2.2.2.2.2.2.2.2.2.2.1⟩
def ot14x10 (s : S14x10) : Sl.Ts τ ts14x10 := ((), (), (), s.sum, (), (), (), (), (), (), (), (), (), (), (), (), (), (), (), (), (), (), (), (), (), s.t25, (), (), (), (), (), (), (), (), (), (), (), (), (), (), ())
def oh14x10 (s : S14x10) : ESh.Ts τ hs14x10 := ()
def lp14x10 : Lp τ := { ts := ts14x10, hs := hs14x10, S := S14x10, to := to14x10, ot := ot14x10, oh := oh14x10, hk := [], tk := [], ot_to := fun _ _ => rfl, oh_to := fun _ _ => rfl }
/-- orchard/wire.Sum -/
def F14 (N : Nat) (l : List (List (Int))) : Option (Int) :=
 (iter N (fun (s1 : S14x3) next2 =>
 (bif (decide (s1.t11 < ((l).length : Int))) then
 (bif (ibB s1.t11 ((l).length : Int)) then
 (iter N (fun (s3 : S14x6) next4 =>
 (bif (decide (s3.t17 < (((lget l s1.t11 default)).length : Int))) then
 (bif (ibB s3.t17 (((lget l s1.t11 default)).length : Int)) then
 (iter N (fun (s5 : S14x10) next6 =>
 (bif (decide (s5.t25 < 8)) then
 (bif ((bits .and .u32 s5.sum 1) == 1) then
 (next6 ⟨(bits .xor .u32 (shr .u32 s5.sum 1) 3988292384), (IntKind.i64.wrap (s5.t25 + 1))⟩)
 else
 (next6 ⟨(shr .u32 s5.sum 1), (IntKind.i64.wrap (s5.t25 + 1))⟩))
 else
 (next4 ⟨s5.sum, (IntKind.i64.wrap (s3.t17 + 1))⟩))) ⟨(bits .xor .u32 s3.sum (IntKind.u32.wrap (lget (lget l s1.t11 default) s3.t17 default))), 0⟩)
 else none)
 else
 (next2 ⟨s3.sum, (IntKind.i64.wrap (s1.t11 + 1))⟩))) ⟨s1.sum, 0⟩)
 else none)
 else
 (some (bits .xor .u32 IntKind.u32.max s1.sum)))) ⟨4294967295, 0⟩)
def con14 : Con τ := { args := [.ty 22], L := [], ret := .ty 25, L' := [], R := Int, dflt := default, F := fun N a b => F14 N a.1, of := fun r => (r, ()) }
noncomputable def dat14 : Dat τ := { D := D0, tbl := tblOf [], lp := lpsOf [(3, lp14x3), (6, lp14x6), (10, lp14x10)], k0 := 0, mu := [], un := [] }
theorem ok14 : ConOk E C 14 con14 :=
  con_ok (D := dat14) ⟨d0Ok, eGood, tblOf_ok (l := []) trivial⟩ con14 (fun a b => a) none (fun _ _ => rfl) rfl (fun _ _ h => nomatch h) 1000000 (fn := Try.f14) Try.func14 rfl (by kernel_rfl) (by kernel_rfl) rfl (by intro N a b; kernel_rfl)

/-- orchard/orchardlaw01.live -/
def F13 (N : Nat)  : Option (Bool) :=
 ((F16 N).bind fun r1 =>
 ((F21 N [128, 1]).bind fun r2 =>
 ((F31 N (-1) r1.1 r1.2).bind fun r3 =>
 ((F22 N r2).bind fun r4 =>
 (bif (((r3.1 == 0) && (r4.2.1 == 0)) && (r4.1 == 64)) then
 ((F20 N r3.2.1 r3.2.2).bind fun r5 =>
 (bif (((r3.1 == 0) && (r4.2.1 == 0)) && (r4.1 == 64)) then
 ((bif (((r3.1 == 0) && (r4.2.1 == 0)) && (r4.1 == 64)) then F19 N r5.1 [1] else some default).bind fun r6 =>
 (bif ((((r3.1 == 0) && (r4.2.1 == 0)) && (r4.1 == 64)) && r6) then
 (bif ((((r3.1 == 0) && (r4.2.1 == 0)) && (r4.1 == 64)) && r6) then
 (bif ((((r3.1 == 0) && (r4.2.1 == 0)) && (r4.1 == 64)) && r6) then
 (bif ((((r3.1 == 0) && (r4.2.1 == 0)) && (r4.1 == 64)) && r6) then
 ((bif ((((r3.1 == 0) && (r4.2.1 == 0)) && (r4.1 == 64)) && r6) then F14 N [[49, 50, 51, 52], [53, 54, 55, 56, 57]] else some default).bind fun r7 =>
 (some (((((r3.1 == 0) && (r4.2.1 == 0)) && (r4.1 == 64)) && r6) && (r7 == 3421780262))))
 else
 (some false))
 else
 (some false))
 else
 (some false))
 else
 (some false)))
 else
 (some false)))
 else
 (some false))))))
def con13 : Con τ := { args := [], L := [], ret := .ty 4, L' := [], R := Bool, dflt := default, F := fun N a b => F13 N , of := fun r => (r, ()) }
noncomputable def dat13 : Dat τ := { D := D0, tbl := tblOf [(16, con16), (21, con21), (31, con31), (22, con22), (20, con20), (19, con19), (14, con14)], lp := lpsOf [], k0 := 0, mu := [], un := [] }
theorem ok13 : ConOk E C 13 con13 :=
  con_ok (D := dat13) ⟨d0Ok, eGood, tblOf_ok (l := [(16, con16), (21, con21), (31, con31), (22, con22), (20, con20), (19, con19), (14, con14)]) ⟨ok16, ⟨ok21, ⟨ok31, ⟨ok22, ⟨ok20, ⟨ok19, ⟨ok14, trivial⟩⟩⟩⟩⟩⟩⟩⟩ con13 (fun a b => a) none (fun _ _ => rfl) rfl (fun _ _ h => nomatch h) 1000000 (fn := Try.f13) Try.func13 rfl (by kernel_rfl) (by kernel_rfl) rfl (by intro N a b; kernel_rfl)

structure S15x3 where
  sum : Int
  i : Int
def ts15x3 : List Sl := [.keep, .keep, .keep, .sh (.ty 25), .sh (.ty 2), .junk, .junk, .junk, .junk, .junk, .junk, .junk, .junk, .junk, .junk, .junk, .junk, .junk, .junk, .junk, .junk, .junk, .junk, .junk, .junk, .junk, .junk, .junk, .junk, .junk, .junk, .keep, .keep]
def hs15x3 : List ESh := []
def to15x3 (a : Sl.Ts τ ts15x3) (b : ESh.Ts τ hs15x3) : S15x3 := ⟨a.2.2.2.1, a.2.2.2.2.1⟩
def ot15x3 (s : S15x3) : Sl.Ts τ ts15x3 := ((), (), (), s.sum, s.i, (), (), (), (), (), (), (), (), (), (), (), (), (), (), (), (), (), (), (), (), (), (), (), (), (), (), (), (), ())
def oh15x3 (s : S15x3) : ESh.Ts τ hs15x3 := ()
def lp15x3 : Lp τ := { ts := ts15x3, hs := hs15x3, S := S15x3, to := to15x3, ot := ot15x3, oh := oh15x3, hk := [], tk := [], ot_to := fun _ _ => rfl, oh_to := fun _ _ => rfl }
structure S15x7 where
  sum : Int
  k : Int
def ts15x7 : List Sl := [.keep, .keep, .keep, .sh (.ty 25), .keep, .sh (.ty 2), .keep, .keep, .keep, .keep, .keep, .keep, .keep, .keep, .keep, .keep, .keep, .keep, .keep, .junk, .junk, .junk, .junk, .junk, .junk, .junk, .junk, .junk, .junk, .junk, .junk, .keep, .keep]
def hs15x7 : List ESh := []
def to15x7 (a : Sl.Ts τ ts15x7) (b : ESh.Ts τ hs15x7) : S15x7 := ⟨a.2.2.2.1, a.2.2.2.2.2.1⟩
def ot15x7 (s : S15x7) : Sl.Ts τ ts15x7 := ((), (), (), s.sum, (), s.k, (), (), (), (), (), (), (), (), (), (), (), (), (), (), (), (), (), (), (), (), (), (), (), (), (), (), (), ())
def oh15x7 (s : S15x7) : ESh.Ts τ hs15x7 := ()
def lp15x7 : Lp τ := { ts := ts15x7, hs := hs15x7, S := S15x7, to := to15x7, ot := ot15x7, oh := oh15x7, hk := [], tk := [], ot_to := fun _ _ => rfl, oh_to := fun _ _ => rfl }
/-- orchard/orchardref01.Sum -/
def F15 (N : Nat) (b : List (Int)) : Option (Int) :=
 (iter N (fun (s1 : S15x3) next2 =>
 (bif (decide (s1.i < ((b).length : Int))) then
 (bif (ibB s1.i ((b).length : Int)) then
 (iter N (fun (s3 : S15x7) next4 =>
 (bif (decide (s3.k < 8)) then
 (bif ((Int.tmod s3.sum 2) == 1) then
 (next4 ⟨(bits .xor .u32 (IntKind.u32.wrap (Int.tdiv s3.sum 2)) 3988292384), (IntKind.i64.wrap (s3.k + 1))⟩)
 else
 (next4 ⟨(IntKind.u32.wrap (Int.tdiv s3.sum 2)), (IntKind.i64.wrap (s3.k + 1))⟩))
 else
 (next2 ⟨s3.sum, (IntKind.i64.wrap (s1.i + 1))⟩))) ⟨(bits .xor .u32 s1.sum (IntKind.u32.wrap (lget b s1.i default))), 0⟩)
 else none)
 else
 (some (bits .xor .u32 IntKind.u32.max s1.sum)))) ⟨4294967295, 0⟩)
def con15 : Con τ := { args := [.ty 23], L := [], ret := .ty 25, L' := [], R := Int, dflt := default, F := fun N a b => F15 N a.1, of := fun r => (r, ()) }
noncomputable def dat15 : Dat τ := { D := D0, tbl := tblOf [], lp := lpsOf [(3, lp15x3), (7, lp15x7)], k0 := 0, mu := [], un := [] }
theorem ok15 : ConOk E C 15 con15 :=
  con_ok (D := dat15) ⟨d0Ok, eGood, tblOf_ok (l := []) trivial⟩ con15 (fun a b => a) none (fun _ _ => rfl) rfl (fun _ _ h => nomatch h) 1000000 (fn := Try.f15) Try.func15 rfl (by kernel_rfl) (by kernel_rfl) rfl (by intro N a b; kernel_rfl)

structure S3x3 where
  all : List (Int)
  t8 : Int
def ts3x3 : List Sl := [.keep, .keep, .keep, .sh (.own 5 0), .keep, .junk, .keep, .keep, .sh (.ty 2), .junk, .junk, .junk, .junk, .junk, .junk, .junk, .keep, .keep, .keep, .keep, .keep, .keep, .keep, .keep, .keep, .keep, .keep, .keep, .keep, .keep, .keep, .keep]
def hs3x3 : List ESh := [.tail]
def to3x3 (a : Sl.Ts τ ts3x3) (b : ESh.Ts τ hs3x3) : S3x3 := ⟨a.2.2.2.1, a.2.2.2.2.2.2.2.2.1⟩
def ot3x3 (s : S3x3) : Sl.Ts τ ts3x3 := ((), (), (), s.all, (), (), (), (), s.t8, (), (), (), (), (), (), (), (), (), (), (), (), (), (), (), (), (), (), (), (), (), (), (), ())
def oh3x3 (s : S3x3) : ESh.Ts τ hs3x3 := ((), ())
def lp3x3 : Lp τ := { ts := ts3x3, hs := hs3x3, S := S3x3, to := to3x3, ot := ot3x3, oh := oh3x3, hk := [], tk := [], ot_to := fun _ _ => rfl, oh_to := fun _ _ => rfl }
/-- orchard/orchardlaw01.WireSums -/
def F3 (N : Nat) (l : List (List (Int))) : Option (Bool) :=
 (iter N (fun (s1 : S3x3) next2 =>
 (bif (decide (s1.t8 < ((l).length : Int))) then
 (bif (ibB s1.t8 ((l).length : Int)) then
 (bif (lenB ((s1.all).length + ((lget l s1.t8 default)).length) 1) then
 (next2 ⟨(s1.all ++ (lget l s1.t8 default)), (IntKind.i64.wrap (s1.t8 + 1))⟩)
 else none)
 else none)
 else
 ((F13 N).bind fun r3 =>
 ((bif r3 then F14 N l else some default).bind fun r4 =>
 ((bif r3 then F15 N s1.all else some default).bind fun r5 =>
 ((bif (r3 && (r4 == r5)) then F14 N [s1.all] else some default).bind fun r6 =>
 ((bif (r3 && (r4 == r5)) then F15 N s1.all else some default).bind fun r7 =>
 (some ((r3 && (r4 == r5)) && (r6 == r7)))))))))) ⟨[], 0⟩)
def con3 : Con τ := { args := [.ty 22], L := [], ret := .ty 4, L' := [], R := Bool, dflt := default, F := fun N a b => F3 N a.1, of := fun r => (r, ()) }
noncomputable def dat3 : Dat τ := { D := D0, tbl := tblOf [(13, con13), (14, con14), (15, con15)], lp := lpsOf [(3, lp3x3)], k0 := 0, mu := [], un := [] }
theorem ok3 : ConOk E C 3 con3 :=
  con_ok (D := dat3) ⟨d0Ok, eGood, tblOf_ok (l := [(13, con13), (14, con14), (15, con15)]) ⟨ok13, ⟨ok14, ⟨ok15, trivial⟩⟩⟩⟩ con3 (fun a b => a) none (fun _ _ => rfl) rfl (fun _ _ h => nomatch h) 1000000 (fn := Try.f3) Try.func3 rfl (by kernel_rfl) (by kernel_rfl) rfl (by intro N a b; kernel_rfl)

structure S41x5 where
  u : Int
  b : List (Int)
def ts41x5 : List Sl := [.keep, .keep, .keep, .sh (.ty 12), .sh (.own 5 0), .keep, .keep, .keep, .keep, .keep, .keep, .keep, .keep, .keep, .keep, .keep, .junk, .junk, .junk, .junk, .junk, .junk, .junk, .junk, .junk, .junk, .junk, .keep, .keep, .keep, .keep, .keep]
def hs41x5 : List ESh := [.tail]
def to41x5 (a : Sl.Ts τ ts41x5) (b : ESh.Ts τ hs41x5) : S41x5 := ⟨a.2.2.2.1, a.2.2.2.2.1⟩
def ot41x5 (s : S41x5) : Sl.Ts τ ts41x5 := ((), (), (), s.u, s.b, (), (), (), (), (), (), (), (), (), (), (), (), (), (), (), (), (), (), (), (), (), (), (), (), (), (), (), ())
def oh41x5 (s : S41x5) : ESh.Ts τ hs41x5 := ((), ())
def lp41x5 : Lp τ := { ts := ts41x5, hs := hs41x5, S := S41x5, to := to41x5, ot := ot41x5, oh := oh41x5, hk := [], tk := [], ot_to := fun _ _ => rfl, oh_to := fun _ _ => rfl }
/-- orchard/orchardref01.Int -/
def F41 (N : Nat) (n : Int) : Option ((List (Int))) :=
 (bif (decide (n < 0)) then
 (iter N (fun (s1 : S41x5) next2 =>
 (bif (decide (128 ≤ s1.u)) then
 (bif (lenB ((s1.b).length + ([(IntKind.u8.wrap ((IntKind.u8.wrap (Int.tmod s1.u 128)) + 128))]).length) 1) then
 (next2 ⟨(IntKind.u64.wrap (Int.tdiv s1.u 128)), (s1.b ++ [(IntKind.u8.wrap ((IntKind.u8.wrap (Int.tmod s1.u 128)) + 128))])⟩)
 else none)
 else
 (bif (lenB ((s1.b).length + ([(IntKind.u8.wrap s1.u)]).length) 1) then
 (some (s1.b ++ [(IntKind.u8.wrap s1.u)]))
 else none))) ⟨(IntKind.u64.wrap ((IntKind.u64.wrap ((IntKind.u64.wrap (IntKind.i64.wrap (0 - (IntKind.i64.wrap (n + 1))))) * 2)) + 1)), []⟩)
 else
 (iter N (fun (s3 : S41x5) next4 =>
 (bif (decide (128 ≤ s3.u)) then
 (bif (lenB ((s3.b).length + ([(IntKind.u8.wrap ((IntKind.u8.wrap (Int.tmod s3.u 128)) + 128))]).length) 1) then
 (next4 ⟨(IntKind.u64.wrap (Int.tdiv s3.u 128)), (s3.b ++ [(IntKind.u8.wrap ((IntKind.u8.wrap (Int.tmod s3.u 128)) + 128))])⟩)
 else none)
 else
 (bif (lenB ((s3.b).length + ([(IntKind.u8.wrap s3.u)]).length) 1) then
 (some (s3.b ++ [(IntKind.u8.wrap s3.u)]))
 else none))) ⟨(IntKind.u64.wrap ((IntKind.u64.wrap n) * 2)), []⟩))
def con41 : Con τ := { args := [.ty 2], L := [], ret := .own 5 0, L' := [.tail], R := (List (Int)), dflt := default, F := fun N a b => F41 N a.1, of := fun r => (r, ((), ())) }
noncomputable def dat41 : Dat τ := { D := D0, tbl := tblOf [], lp := lpsOf [(5, lp41x5)], k0 := 0, mu := [], un := [] }
theorem ok41 : ConOk E C 41 con41 :=
  con_ok (D := dat41) ⟨d0Ok, eGood, tblOf_ok (l := []) trivial⟩ con41 (fun a b => a) none (fun _ _ => rfl) rfl (fun _ _ h => nomatch h) 1000000 (fn := Try.f41) Try.func41 rfl (by kernel_rfl) (by kernel_rfl) rfl (by intro N a b; kernel_rfl)

/-- orchard/orchardref01.Bytes -/
def F36 (N : Nat) (l : List (Int)) : Option ((List (Int))) :=
 ((F41 N ((l).length : Int)).bind fun r1 =>
 (bif (lenB ((r1).length + (l).length) 1) then
 (some (r1 ++ l))
 else none))
def con36 : Con τ := { args := [.ty 23], L := [], ret := .own 5 0, L' := [.tail], R := (List (Int)), dflt := default, F := fun N a b => F36 N a.1, of := fun r => (r, ((), ())) }
noncomputable def dat36 : Dat τ := { D := D0, tbl := tblOf [(41, con41)], lp := lpsOf [], k0 := 0, mu := [], un := [] }
theorem ok36 : ConOk E C 36 con36 :=
  con_ok (D := dat36) ⟨d0Ok, eGood, tblOf_ok (l := [(41, con41)]) ⟨ok41, trivial⟩⟩ con36 (fun a b => a) none (fun _ _ => rfl) rfl (fun _ _ h => nomatch h) 1000000 (fn := Try.f36) Try.func36 rfl (by kernel_rfl) (by kernel_rfl) rfl (by intro N a b; kernel_rfl)

/-- (*orchard/wire.Writer).Bytes -/
def F32 (N : Nat) (b : List (Int)) (b0 : Bool) (b02 : List (Int)) : Option (Int × Bool × (List (Int))) :=
 ((F49 N ((b).length : Int)).bind fun r1 =>
 ((F48 N [r1, b] b0 b02).bind fun r2 =>
 (some (r2.1, r2.2.1, r2.2.2))))
def con32 : Con τ := { args := [.ptr 0 [], .ty 23], L := [.box (.agg [.ty 4, .own 5 1]), .tail], ret := .ty 34, L' := [.box (.agg [.ty 4, .own 5 2]), .dead, .tail], R := Int × Bool × (List (Int)), dflt := (default, default, default), F := fun N a b => F32 N a.2.1 b.1.1 b.1.2.1, of := fun r => (r.1, ((r.2.1, r.2.2, ()), (), (), ())) }
noncomputable def dat32 : Dat τ := { D := D0, tbl := tblOf [(49, con49), (48, con48)], lp := lpsOf [], k0 := 2, mu := [], un := [] }
theorem ok32 : ConOk E C 32 con32 :=
  con_ok (D := dat32) ⟨d0Ok, eGood, tblOf_ok (l := [(49, con49), (48, con48)]) ⟨ok49, ⟨ok48, trivial⟩⟩⟩ con32 (fun a b => (a, b.1.1, b.1.2.1)) none (fun _ _ => rfl) rfl (fun _ _ h => nomatch h) 1000000 (fn := Try.f32) Try.func32 rfl (by kernel_rfl) (by kernel_rfl) rfl (by intro N a b; kernel_rfl)

/-- (*orchard/wire.Writer).Text -/
def F37 (N : Nat) (s : List UInt8) (b0 : Bool) (b02 : List (Int)) : Option (Int × Bool × (List (Int))) :=
 ((F32 N (bytesI s) b0 b02).bind fun r1 =>
 (some (r1.1, r1.2.1, r1.2.2)))
def con37 : Con τ := { args := [.ptr 0 [], .ty 9], L := [.box (.agg [.ty 4, .own 5 1]), .tail], ret := .ty 34, L' := [.box (.agg [.ty 4, .own 5 2]), .dead, .tail], R := Int × Bool × (List (Int)), dflt := (default, default, default), F := fun N a b => F37 N a.2.1 b.1.1 b.1.2.1, of := fun r => (r.1, ((r.2.1, r.2.2, ()), (), (), ())) }
noncomputable def dat37 : Dat τ := { D := D0, tbl := tblOf [(32, con32)], lp := lpsOf [], k0 := 2, mu := [], un := [] }
theorem ok37 : ConOk E C 37 con37 :=
  con_ok (D := dat37) ⟨d0Ok, eGood, tblOf_ok (l := [(32, con32)]) ⟨ok32, trivial⟩⟩ con37 (fun a b => (a, b.1.1, b.1.2.1)) none (fun _ _ => rfl) rfl (fun _ _ h => nomatch h) 1000000 (fn := Try.f37) Try.func37 rfl (by kernel_rfl) (by kernel_rfl) rfl (by intro N a b; kernel_rfl)

/-- (*orchard/wire.Writer).Flag -/
def F33 (N : Nat) (yes : Bool) (b0 : Bool) (b02 : List (Int)) : Option (Int × Bool × (List (Int))) :=
 (bif yes then
 ((F31 N 1 b0 b02).bind fun r1 =>
 (some (r1.1, r1.2.1, r1.2.2)))
 else
 ((F31 N 0 b0 b02).bind fun r2 =>
 (some (r2.1, r2.2.1, r2.2.2))))
def con33 : Con τ := { args := [.ptr 0 [], .ty 4], L := [.box (.agg [.ty 4, .own 5 1]), .tail], ret := .ty 34, L' := [.box (.agg [.ty 4, .own 5 2]), .dead, .tail], R := Int × Bool × (List (Int)), dflt := (default, default, default), F := fun N a b => F33 N a.2.1 b.1.1 b.1.2.1, of := fun r => (r.1, ((r.2.1, r.2.2, ()), (), (), ())) }
noncomputable def dat33 : Dat τ := { D := D0, tbl := tblOf [(31, con31)], lp := lpsOf [], k0 := 2, mu := [], un := [] }
theorem ok33 : ConOk E C 33 con33 :=
  con_ok (D := dat33) ⟨d0Ok, eGood, tblOf_ok (l := [(31, con31)]) ⟨ok31, trivial⟩⟩ con33 (fun a b => (a, b.1.1, b.1.2.1)) none (fun _ _ => rfl) rfl (fun _ _ h => nomatch h) 1000000 (fn := Try.f33) Try.func33 rfl (by kernel_rfl) (by kernel_rfl) rfl (by intro N a b; kernel_rfl)

/-- orchard/orchardlaw01.put -/
def F17 (N : Nat) (p : Gorchardlaw01_Part) (b0 : Bool) (b02 : List (Int)) : Option ((List (Int)) × Int × Bool × (List (Int))) :=
 (bif (p.Kind == 0) then
 ((F41 N p.N).bind fun r1 =>
 ((F31 N p.N b0 b02).bind fun r2 =>
 (some (r1, r2.1, r2.2.1, r2.2.2))))
 else
 (bif (p.Kind == 1) then
 ((F36 N p.B).bind fun r3 =>
 ((F32 N p.B b0 b02).bind fun r4 =>
 (some (r3, r4.1, r4.2.1, r4.2.2))))
 else
 (bif (p.Kind == 2) then
 ((F36 N p.B).bind fun r5 =>
 ((F37 N (strI p.B) b0 b02).bind fun r6 =>
 (some (r5, r6.1, r6.2.1, r6.2.2))))
 else
 (bif (decide (0 < p.N)) then
 ((F41 N 1).bind fun r7 =>
 ((F33 N (decide (0 < p.N)) b0 b02).bind fun r8 =>
 (some (r7, r8.1, r8.2.1, r8.2.2))))
 else
 ((F41 N 0).bind fun r9 =>
 ((F33 N (decide (0 < p.N)) b0 b02).bind fun r10 =>
 (some (r9, r10.1, r10.2.1, r10.2.2))))))))
def con17 : Con τ := { args := [.ptr 0 [], .ty 33], L := [.box (.agg [.ty 4, .own 5 1]), .tail], ret := .tup [.ty 23, .ty 34], L' := [.box (.agg [.ty 4, .own 5 2]), .dead, .tail], R := (List (Int)) × Int × Bool × (List (Int)), dflt := (default, default, default, default), F := fun N a b => F17 N a.2.1 b.1.1 b.1.2.1, of := fun r => ((r.1, r.2.1, ()), ((r.2.2.1, r.2.2.2, ()), (), (), ())) }
noncomputable def dat17 : Dat τ := { D := D0, tbl := tblOf [(41, con41), (31, con31), (36, con36), (32, con32), (37, con37), (33, con33)], lp := lpsOf [], k0 := 2, mu := [], un := [] }
theorem ok17 : ConOk E C 17 con17 :=
  con_ok (D := dat17) ⟨d0Ok, eGood, tblOf_ok (l := [(41, con41), (31, con31), (36, con36), (32, con32), (37, con37), (33, con33)]) ⟨ok41, ⟨ok31, ⟨ok36, ⟨ok32, ⟨ok37, ⟨ok33, trivial⟩⟩⟩⟩⟩⟩⟩ con17 (fun a b => (a.1, a.2.1, b.1.1, b.1.2.1)) none (fun _ _ => rfl) rfl (fun _ _ h => nomatch h) 1000000 (fn := Try.f17) Try.func17 rfl (by kernel_rfl) (by kernel_rfl) rfl (by intro N a b; kernel_rfl)

/-- (*orchard/wire.Writer).Len -/
def F18 (N : Nat) (b0 : Bool) (b02 : List (Int)) : Option (Int × Bool × (List (Int))) :=
 ((F42 N b0 b02).bind fun r1 =>
 (bif r1.1 then
 (some (0, r1.2.1, r1.2.2))
 else
 (some (((r1.2.2).length : Int), r1.2.1, r1.2.2))))
def con18 : Con τ := { args := [.ptr 0 []], L := [.box (.agg [.ty 4, .own 5 1]), .tail], ret := .ty 3, L' := [.box (.agg [.ty 4, .own 5 1]), .tail], R := Int × Bool × (List (Int)), dflt := (default, default, default), F := fun N a b => F18 N b.1.1 b.1.2.1, of := fun r => (r.1, ((r.2.1, r.2.2, ()), (), ())) }
noncomputable def dat18 : Dat τ := { D := D0, tbl := tblOf [(42, con42)], lp := lpsOf [], k0 := 2, mu := [], un := [] }
theorem ok18 : ConOk E C 18 con18 :=
  con_ok (D := dat18) ⟨d0Ok, eGood, tblOf_ok (l := [(42, con42)]) ⟨ok42, trivial⟩⟩ con18 (fun a b => (a, b.1.1, b.1.2.1)) none (fun _ _ => rfl) rfl (fun _ _ h => nomatch h) 1000000 (fn := Try.f18) Try.func18 rfl (by kernel_rfl) (by kernel_rfl) rfl (by intro N a b; kernel_rfl)

structure S4x6 where
  want : List (Int)
  t18 : Int
  b0 : Bool
  b02 : List (Int)
def ts4x6 : List Sl := [.keep, .keep, .junk, .keep, .sh (.own 5 2), .keep, .junk, .junk, .junk, .keep, .keep, .keep, .keep, .junk, .junk, .keep, .keep, .keep, .sh (.ty 2), .junk, .junk, .junk, .junk, .junk, .junk, .junk, .junk, .junk, .junk, .junk, .junk, .junk, .junk, .junk, .junk, .junk, .junk, .junk, .junk, .junk, .junk, .junk, .junk, .junk, .junk, .junk, .junk, .junk, .junk, .keep, .keep, .keep, .keep]
def hs4x6 : List ESh := [.box (.agg [.ty 4, .own 5 3]), .dead, .tail, .tail]
def to4x6 (a : Sl.Ts τ ts4x6) (b : ESh.Ts τ hs4x6) : S4x6 := ⟨a.2.2.2.2.1, a.2.2.2.2.2.2.2.2.2.2.2.2.2.2.2.2.2.2.1, b.1.1, b.1.2.1⟩
def ot4x6 (s : S4x6) : Sl.Ts τ ts4x6 := ((), (), (), (), s.want, (), (), (), (), (), (), (), (), (), (), (), (), (), s.t18, (), (), (), (), (), (), (), (), (), (), (), (), (), (), (), (), (), (), (), (), (), (), (), (), (), (), (), (), (), (), (), (), (), (), ())
def oh4x6 (s : S4x6) : ESh.Ts τ hs4x6 := ((s.b0, s.b02, ()), (), (), (), ())
def lp4x6 : Lp τ := { ts := ts4x6, hs := hs4x6, S := S4x6, to := to4x6, ot := ot4x6, oh := oh4x6, hk := [2, 5], tk := [0, 0, 0, 2, 0, 0, 0, 0, 0, 2, 2], ot_to := fun _ _ => rfl, oh_to := fun _ _ => rfl }
/-- orchard/orchardlaw01.WireWrites -/
def F4 (N : Nat) (l : List (Gorchardlaw01_Part)) : Option (Bool) :=
 ((F16 N).bind fun r1 =>
 ((F13 N).bind fun r2 =>
 (bif (!r2) then
 (some false)
 else
 (iter N (fun (s3 : S4x6) next4 =>
 (bif (decide (s3.t18 < ((l).length : Int))) then
 (bif (ibB s3.t18 ((l).length : Int)) then
 ((F17 N (lget l s3.t18 default) s3.b0 s3.b02).bind fun r5 =>
 (bif (decide (1048576 < (IntKind.i64.wrap (((s3.want).length : Int) + ((r5.1).length : Int))))) then
 (bif (!(r5.2.1 == 3)) then
 (some false)
 else
 (next4 ⟨s3.want, (IntKind.i64.wrap (s3.t18 + 1)), r5.2.2.1, r5.2.2.2⟩))
 else
 (bif (lenB ((s3.want).length + (r5.1).length) 1) then
 (bif (!(!(r5.2.1 == 0))) then
 ((F18 N r5.2.2.1 r5.2.2.2).bind fun r6 =>
 (bif ((!(r5.2.1 == 0)) || (!(r6.1 == (((s3.want ++ r5.1)).length : Int)))) then
 (some false)
 else
 (next4 ⟨(s3.want ++ r5.1), (IntKind.i64.wrap (s3.t18 + 1)), r6.2.1, r6.2.2⟩)))
 else
 (some false))
 else none)))
 else none)
 else
 ((F20 N s3.b0 s3.b02).bind fun r7 =>
 ((F19 N r7.1 s3.want).bind fun r8 =>
 (some r8))))) ⟨[], 0, r1.1, r1.2⟩))))
def con4 : Con τ := { args := [.ty 29], L := [], ret := .ty 4, L' := [], R := Bool, dflt := default, F := fun N a b => F4 N a.1, of := fun r => (r, ()) }
noncomputable def dat4 : Dat τ := { D := D0, tbl := tblOf [(16, con16), (13, con13), (17, con17), (18, con18), (20, con20), (19, con19)], lp := lpsOf [(6, lp4x6)], k0 := 0, mu := [], un := [] }
theorem ok4 : ConOk E C 4 con4 :=
  con_ok (D := dat4) ⟨d0Ok, eGood, tblOf_ok (l := [(16, con16), (13, con13), (17, con17), (18, con18), (20, con20), (19, con19)]) ⟨ok16, ⟨ok13, ⟨ok17, ⟨ok18, ⟨ok20, ⟨ok19, trivial⟩⟩⟩⟩⟩⟩⟩ con4 (fun a b => a) none (fun _ _ => rfl) rfl (fun _ _ h => nomatch h) 1000000 (fn := Try.f4) Try.func4 rfl (by kernel_rfl) (by kernel_rfl) rfl (by intro N a b; kernel_rfl)

/-- (*orchard/wire.Reader).Bytes -/
def F23 (N : Nat) (b0 : Gwire_Writer) : Option ((List (Int)) × Int × Gwire_Writer) :=
 ((F44 N b0).bind fun r1 =>
 (bif r1.1 then
 (some ([], 2, r1.2))
 else
 ((F45 N r1.2.b).bind fun r2 =>
 (bif (!(r2.2.2 == 0)) then
 (some ([], r2.2.2, r1.2))
 else
 (bif (decide (r2.1 < 0)) then
 (some ([], 11, r1.2))
 else
 (bif (decide ((IntKind.i64.wrap (((r1.2.b).length : Int) - r2.2.1)) < r2.1)) then
 (some ([], 10, r1.2))
 else
 (bif (cutB r2.2.1 (IntKind.i64.wrap (r2.2.1 + r2.1)) ((r1.2.b).length : Int)) then
 ((F43 N (cut r1.2.b r2.2.1 (IntKind.i64.wrap (r2.2.1 + r2.1)))).bind fun r3 =>
 (bif (cutB (IntKind.i64.wrap (r2.2.1 + r2.1)) ((r1.2.b).length : Int) ((r1.2.b).length : Int)) then
 (some (r3, 0, (⟨r1.2.made, (cut r1.2.b (IntKind.i64.wrap (r2.2.1 + r2.1)) ((r1.2.b).length : Int))⟩ : Gwire_Writer)))
 else none))
 else none)))))))
def con23 : Con τ := { args := [.ptr 0 []], L := [.box (.ty 66)], ret := .tup [.ty 23, .ty 34], L' := [.box (.ty 66)], R := (List (Int)) × Int × Gwire_Writer, dflt := (default, default, default), F := fun N a b => F23 N b.1, of := fun r => ((r.1, r.2.1, ()), (r.2.2, ())) }
noncomputable def dat23 : Dat τ := { D := D0, tbl := tblOf [(44, con44), (45, con45), (43, con43)], lp := lpsOf [], k0 := 1, mu := [], un := [] }
theorem ok23 : ConOk E C 23 con23 :=
  con_ok (D := dat23) ⟨d0Ok, eGood, tblOf_ok (l := [(44, con44), (45, con45), (43, con43)]) ⟨ok44, ⟨ok45, ⟨ok43, trivial⟩⟩⟩⟩ con23 (fun a b => (a.1, a.2.1, b.1)) none (fun _ _ => rfl) rfl (fun _ _ h => nomatch h) 1000000 (fn := Try.f23) Try.func23 rfl (by kernel_rfl) (by kernel_rfl) rfl (by intro N a b; kernel_rfl)

/-- (*orchard/wire.Reader).Flag -/
def F24 (N : Nat) (b0 : Gwire_Writer) : Option (Bool × Int × Gwire_Writer) :=
 ((F44 N b0).bind fun r1 =>
 (bif r1.1 then
 (some (false, 2, r1.2))
 else
 ((F45 N r1.2.b).bind fun r2 =>
 (bif (!(r2.2.2 == 0)) then
 (some (false, r2.2.2, r1.2))
 else
 (bif ((!(r2.1 == 0)) && (!(r2.1 == 1))) then
 (some (false, 11, r1.2))
 else
 (bif (cutB r2.2.1 ((r1.2.b).length : Int) ((r1.2.b).length : Int)) then
 (some ((r2.1 == 1), 0, (⟨r1.2.made, (cut r1.2.b r2.2.1 ((r1.2.b).length : Int))⟩ : Gwire_Writer)))
 else none))))))
def con24 : Con τ := { args := [.ptr 0 []], L := [.box (.ty 66)], ret := .tup [.ty 4, .ty 34], L' := [.box (.ty 66)], R := Bool × Int × Gwire_Writer, dflt := (default, default, default), F := fun N a b => F24 N b.1, of := fun r => ((r.1, r.2.1, ()), (r.2.2, ())) }
noncomputable def dat24 : Dat τ := { D := D0, tbl := tblOf [(44, con44), (45, con45)], lp := lpsOf [], k0 := 1, mu := [], un := [] }
theorem ok24 : ConOk E C 24 con24 :=
  con_ok (D := dat24) ⟨d0Ok, eGood, tblOf_ok (l := [(44, con44), (45, con45)]) ⟨ok44, ⟨ok45, trivial⟩⟩⟩ con24 (fun a b => (a.1, a.2.1, b.1)) none (fun _ _ => rfl) rfl (fun _ _ h => nomatch h) 1000000 (fn := Try.f24) Try.func24 rfl (by kernel_rfl) (by kernel_rfl) rfl (by intro N a b; kernel_rfl)

structure S5x6 where
  there : List (Gorchardlaw01_Part)
  t26 : Int
  b0 : Bool
  b02 : List (Int)
def ts5x6 : List Sl := [.keep, .keep, .keep, .keep, .keep, .keep, .sh (.own 33 2), .keep, .junk, .junk, .junk, .keep, .keep, .keep, .keep, .keep, .keep, .keep, .keep, .keep, .keep, .junk, .junk, .keep, .keep, .keep, .sh (.ty 2), .junk, .junk, .junk, .junk, .junk, .junk, .junk, .junk, .junk, .junk, .junk, .junk, .junk, .junk, .junk, .junk, .keep, .keep, .keep, .keep, .keep, .keep, .keep, .keep, .keep, .keep, .keep, .keep, .keep, .keep, .keep, .keep, .keep, .keep, .keep, .keep, .keep, .keep, .keep, .keep, .keep, .keep, .keep, .keep, .keep, .keep, .keep, .keep, .keep, .keep, .keep, .keep, .keep, .keep, .keep, .keep, .keep, .keep, .keep, .keep, .keep, .keep, .keep]
def hs5x6 : List ESh := [.box (.agg [.ty 4, .own 5 3]), .dead, .tail, .tail]
def to5x6 (a : Sl.Ts τ ts5x6) (b : ESh.Ts τ hs5x6) : S5x6 := ⟨a.2.2.2.2.2.2.1, a.2.2.2.2.2.2.2.2.2.2.2.2.2.2.2.2.2.2.2.2.2.2.2.2.2.2.1, b.1.1, b.1.2.1⟩
def ot5x6 (s : S5x6) : Sl.Ts τ ts5x6 := ((), (), (), (), (), (), s.there, (), (), (), (), (), (), (), (), (), (), (), (), (), (), (), (), (), (), (), s.t26, (), (), (), (), (), (), (), (), (), (), (), (), (), (), (), (), (), (), (), (), (), (), (), (), (), (), (), (), (), (), (), (), (), (), (), (), (), (), (), (), (), (), (), (), (), (), (), (), (), (), (), (), (), (), (), (), (), (), (), (), (), (), (), ())
def oh5x6 (s : S5x6) : ESh.Ts τ hs5x6 := ((s.b0, s.b02, ()), (), (), (), ())
def lp5x6 : Lp τ := { ts := ts5x6, hs := hs5x6, S := S5x6, to := to5x6, ot := ot5x6, oh := oh5x6, hk := [2, 5], tk := [0, 0, 0, 0, 0, 2, 0, 0, 0, 0, 0, 0, 0, 0, 0, 0, 0, 2, 2], ot_to := fun _ _ => rfl, oh_to := fun _ _ => rfl }
structure S5x18 where
  t59 : Int
  b4 : Gwire_Writer
def ts5x18 : List Sl := [.keep, .keep, .keep, .keep, .junk, .keep, .keep, .keep, .keep, .keep, .keep, .keep, .keep, .keep, .keep, .junk, .junk, .keep, .keep, .keep, .keep, .keep, .keep, .keep, .keep, .keep, .keep, .keep, .keep, .keep, .keep, .keep, .keep, .keep, .keep, .keep, .keep, .keep, .keep, .keep, .keep, .keep, .keep, .keep, .keep, .keep, .keep, .keep, .keep, .keep, .keep, .keep, .keep, .keep, .keep, .keep, .keep, .keep, .keep, .sh (.ty 2), .junk, .junk, .junk, .junk, .junk, .junk, .junk, .junk, .junk, .junk, .junk, .junk, .junk, .junk, .junk, .junk, .junk, .junk, .junk, .junk, .junk, .junk, .junk, .junk, .junk, .junk, .junk, .junk, .junk, .junk]
def hs5x18 : List ESh := [.keep, .keep, .keep, .keep, .box (.ty 62)]
def to5x18 (a : Sl.Ts τ ts5x18) (b : ESh.Ts τ hs5x18) : S5x18 := ⟨a.2.2.2.2.2.2.2.2.2.2.2.2.2.2.2.2.2.2.2.2.2.2.2.2.2.2.2.2.2.2.2.2.2.2.2.2.2.2.2.2.2.2.2.2.2.2.2.2.2.2.2.2.2.2.2.2.2.2.2.1, b.2.2.2.2.1⟩
def ot5x18 (s : S5x18) : Sl.Ts τ ts5x18 := ((), (), (), (), (), (), (), (), (), (), (), (), (), (), (), (), (), (), (), (), (), (), (), (), (), (), (), (), (), (), (), (), (), (), (), (), (), (), (), (), (), (), (), (), (), (), (), (), (), (), (), (), (), (), (), (), (), (), (), s.t59, (), (), (), (), (), (), (), (), (), (), (), (), (), (), (), (), (), (), (), (), (), (), (), (), (), (), (), (), (), (), ())
def oh5x18 (s : S5x18) : ESh.Ts τ hs5x18 := ((), (), (), (), s.b4, ())
def lp5x18 : Lp τ := { ts := ts5x18, hs := hs5x18, S := S5x18, to := to5x18, ot := ot5x18, oh := oh5x18, hk := [2, 1, 5, 5, 2], tk := [0, 0, 0, 0, 0, 2, 0, 0, 0, 0, 0, 0, 0, 6, 0, 0, 0, 2, 2, 0, 0, 0, 0, 0, 0, 0, 0, 0, 0, 0, 0, 0, 0, 0, 0, 0, 0, 0, 0, 0, 0, 0, 0, 2, 0, 0, 0, 0, 0, 0, 0, 0, 0, 0, 0, 0, 6], ot_to := fun _ _ => rfl, oh_to := fun _ _ => rfl }
/-- orchard/orchardlaw01.WireHeads -/
def F5 (N : Nat) (l : List (Gorchardlaw01_Part)) (cut_ : Int) : Option (Bool) :=
 ((F16 N).bind fun r1 =>
 ((F13 N).bind fun r2 =>
 (bif (!r2) then
 (some false)
 else
 (iter N (fun (s3 : S5x6) next4 =>
 (bif (decide (s3.t26 < ((l).length : Int))) then
 (bif (ibB s3.t26 ((l).length : Int)) then
 ((F17 N (lget l s3.t26 default) s3.b0 s3.b02).bind fun r5 =>
 (bif (r5.2.1 == 0) then
 (bif (lenB ((s3.there).length + ([(lget l s3.t26 default)]).length) 40) then
 (next4 ⟨(s3.there ++ [(lget l s3.t26 default)]), (IntKind.i64.wrap (s3.t26 + 1)), r5.2.2.1, r5.2.2.2⟩)
 else none)
 else
 (next4 ⟨s3.there, (IntKind.i64.wrap (s3.t26 + 1)), r5.2.2.1, r5.2.2.2⟩)))
 else none)
 else
 ((F20 N s3.b0 s3.b02).bind fun r6 =>
 (bif (((r6.1).length : Int) == 0) then
 (some true)
 else
 (bif (!(((r6.1).length : Int) == 0)) then
 (bif (cutB 0 (Int.tmod (IntKind.i64.wrap cut_) ((r6.1).length : Int)) ((r6.1).length : Int)) then
 ((F21 N (cut r6.1 0 (Int.tmod (IntKind.i64.wrap cut_) ((r6.1).length : Int)))).bind fun r7 =>
 (iter N (fun (s8 : S5x18) next9 =>
 (bif (decide (s8.t59 < ((s3.there).length : Int))) then
 (bif (ibB s8.t59 ((s3.there).length : Int)) then
 (bif (((lget s3.there s8.t59 default).Kind) == 0) then
 ((F22 N s8.b4).bind fun r10 =>
 (bif (!(r10.2.1 == 0)) then
 (some (r10.2.1 == 10))
 else
 (next9 ⟨(IntKind.i64.wrap (s8.t59 + 1)), r10.2.2⟩)))
 else
 (bif (((lget s3.there s8.t59 default).Kind) == 1) then
 (bif (((lget s3.there s8.t59 default).Kind) == 1) then
 ((F23 N s8.b4).bind fun r11 =>
 (bif (!(r11.2.1 == 0)) then
 (some (r11.2.1 == 10))
 else
 (next9 ⟨(IntKind.i64.wrap (s8.t59 + 1)), r11.2.2⟩)))
 else
 ((F24 N s8.b4).bind fun r12 =>
 (bif (!(r12.2.1 == 0)) then
 (some (r12.2.1 == 10))
 else
 (next9 ⟨(IntKind.i64.wrap (s8.t59 + 1)), r12.2.2⟩))))
 else
 (bif (((lget s3.there s8.t59 default).Kind) == 2) then
 ((F23 N s8.b4).bind fun r13 =>
 (bif (!(r13.2.1 == 0)) then
 (some (r13.2.1 == 10))
 else
 (next9 ⟨(IntKind.i64.wrap (s8.t59 + 1)), r13.2.2⟩)))
 else
 ((F24 N s8.b4).bind fun r14 =>
 (bif (!(r14.2.1 == 0)) then
 (some (r14.2.1 == 10))
 else
 (next9 ⟨(IntKind.i64.wrap (s8.t59 + 1)), r14.2.2⟩))))))
 else none)
 else
 (some false))) ⟨0, r7⟩))
 else none)
 else none))))) ⟨[], 0, r1.1, r1.2⟩))))
def con5 : Con τ := { args := [.ty 29, .ty 41], L := [], ret := .ty 4, L' := [], R := Bool, dflt := default, F := fun N a b => F5 N a.1 a.2.1, of := fun r => (r, ()) }
noncomputable def dat5 : Dat τ := { D := D0, tbl := tblOf [(16, con16), (13, con13), (17, con17), (20, con20), (21, con21), (22, con22), (23, con23), (24, con24)], lp := lpsOf [(6, lp5x6), (18, lp5x18)], k0 := 0, mu := [], un := [] }
theorem ok5 : ConOk E C 5 con5 :=
  con_ok (D := dat5) ⟨d0Ok, eGood, tblOf_ok (l := [(16, con16), (13, con13), (17, con17), (20, con20), (21, con21), (22, con22), (23, con23), (24, con24)]) ⟨ok16, ⟨ok13, ⟨ok17, ⟨ok20, ⟨ok21, ⟨ok22, ⟨ok23, ⟨ok24, trivial⟩⟩⟩⟩⟩⟩⟩⟩⟩ con5 (fun a b => a) none (fun _ _ => rfl) rfl (fun _ _ h => nomatch h) 1000000 (fn := Try.f5) Try.func5 rfl (by kernel_rfl) (by kernel_rfl) rfl (by intro N a b; kernel_rfl)

structure S46x3 where
  u : Int
  i : Int
def ts46x3 : List Sl := [.keep, .keep, .junk, .junk, .junk, .sh (.ty 12), .sh (.ty 2), .junk, .junk, .junk, .junk, .junk, .junk, .junk, .junk, .junk, .junk, .junk, .junk, .junk, .junk, .junk, .junk, .junk, .junk, .junk, .junk, .junk, .junk, .junk, .junk, .junk, .junk, .junk, .junk, .junk, .junk, .junk, .junk, .junk, .junk, .junk, .junk, .junk, .junk, .junk, .junk, .junk, .junk, .junk, .junk, .junk, .junk, .junk, .junk]
def hs46x3 : List ESh := []
def to46x3 (a : Sl.Ts τ ts46x3) (b : ESh.Ts τ hs46x3) : S46x3 := ⟨a.2.2.2.2.2.1, a.2.2.2.2.2.2.1⟩
def ot46x3 (s : S46x3) : Sl.Ts τ ts46x3 := ((), (), (), (), (), s.u, s.i, (), (), (), (), (), (), (), (), (), (), (), (), (), (), (), (), (), (), (), (), (), (), (), (), (), (), (), (), (), (), (), (), (), (), (), (), (), (), (), (), (), (), (), (), (), (), (), (), ())
def oh46x3 (s : S46x3) : ESh.Ts τ hs46x3 := ()
def lp46x3 : Lp τ := { ts := ts46x3, hs := hs46x3, S := S46x3, to := to46x3, ot := ot46x3, oh := oh46x3, hk := [], tk := [], ot_to := fun _ _ => rfl, oh_to := fun _ _ => rfl }
/-- orchard/orchardref01.ParseInt -/
def F46 (N : Nat) (b : List (Int)) : Option (Int × Int × Int) :=
 (iter N (fun (s1 : S46x3) next2 =>
 (bif (decide (s1.i < ((b).length : Int))) then
 (bif (ibB s1.i ((b).length : Int)) then
 (bif ((s1.i == 9) && (decide (1 < (IntKind.u64.wrap (lget b s1.i default))))) then
 (some (0, 0, 11))
 else
 (bif (decide (0 ≤ (IntKind.i64.wrap (7 * s1.i)))) then
 (bif (decide (128 ≤ (IntKind.u64.wrap (lget b s1.i default)))) then
 (next2 ⟨(IntKind.u64.wrap (s1.u + (shl .u64 (Int.tmod (IntKind.u64.wrap (lget b s1.i default)) 128) (IntKind.i64.wrap (7 * s1.i))))), (IntKind.i64.wrap (s1.i + 1))⟩)
 else
 (bif (((IntKind.u64.wrap (lget b s1.i default)) == 0) && (decide (0 < s1.i))) then
 (some (0, 0, 11))
 else
 (bif ((Int.tmod (IntKind.u64.wrap (s1.u + (shl .u64 (Int.tmod (IntKind.u64.wrap (lget b s1.i default)) 128) (IntKind.i64.wrap (7 * s1.i))))) 2) == 1) then
 (some ((IntKind.i64.wrap ((IntKind.i64.wrap (0 - (IntKind.i64.wrap (IntKind.u64.wrap (Int.tdiv (IntKind.u64.wrap (s1.u + (shl .u64 (Int.tmod (IntKind.u64.wrap (lget b s1.i default)) 128) (IntKind.i64.wrap (7 * s1.i))))) 2))))) - 1)), (IntKind.i64.wrap (s1.i + 1)), 0))
 else
 (some ((IntKind.i64.wrap (IntKind.u64.wrap (Int.tdiv (IntKind.u64.wrap (s1.u + (shl .u64 (Int.tmod (IntKind.u64.wrap (lget b s1.i default)) 128) (IntKind.i64.wrap (7 * s1.i))))) 2))), (IntKind.i64.wrap (s1.i + 1)), 0)))))
 else none))
 else none)
 else
 (some (0, 0, 10)))) ⟨0, 0⟩)
def con46 : Con τ := { args := [.ty 23], L := [], ret := .tup [.ty 2, .ty 3, .ty 34], L' := [], R := Int × Int × Int, dflt := (default, default, default), F := fun N a b => F46 N a.1, of := fun r => ((r.1, r.2.1, r.2.2, ()), ()) }
noncomputable def dat46 : Dat τ := { D := D0, tbl := tblOf [], lp := lpsOf [(3, lp46x3)], k0 := 0, mu := [], un := [] }
theorem ok46 : ConOk E C 46 con46 :=
  con_ok (D := dat46) ⟨d0Ok, eGood, tblOf_ok (l := []) trivial⟩ con46 (fun a b => (a.1, a.2.1, a.2.2.1)) none (fun _ _ => rfl) rfl (fun _ _ h => nomatch h) 1000000 (fn := Try.f46) Try.func46 rfl (by kernel_rfl) (by kernel_rfl) rfl (by intro N a b; kernel_rfl)

/-- (*orchard/orchardref01.Reader).Int -/
def F25 (N : Nat) (b0 : Gorchardref01_Reader) : Option (Int × Int × Gorchardref01_Reader) :=
 ((F46 N b0.B).bind fun r1 =>
 (bif (cutB r1.2.1 ((b0.B).length : Int) ((b0.B).length : Int)) then
 (some (r1.1, r1.2.2, (⟨(cut b0.B r1.2.1 ((b0.B).length : Int))⟩ : Gorchardref01_Reader)))
 else none))
def con25 : Con τ := { args := [.ptr 0 []], L := [.box (.ty 51)], ret := .tup [.ty 2, .ty 34], L' := [.box (.ty 51)], R := Int × Int × Gorchardref01_Reader, dflt := (default, default, default), F := fun N a b => F25 N b.1, of := fun r => ((r.1, r.2.1, ()), (r.2.2, ())) }
noncomputable def dat25 : Dat τ := { D := D0, tbl := tblOf [(46, con46)], lp := lpsOf [], k0 := 1, mu := [], un := [] }
theorem ok25 : ConOk E C 25 con25 :=
  con_ok (D := dat25) ⟨d0Ok, eGood, tblOf_ok (l := [(46, con46)]) ⟨ok46, trivial⟩⟩ con25 (fun a b => (a.1, a.2.1, b.1)) none (fun _ _ => rfl) rfl (fun _ _ h => nomatch h) 1000000 (fn := Try.f25) Try.func25 rfl (by kernel_rfl) (by kernel_rfl) rfl (by intro N a b; kernel_rfl)

/-- (*orchard/wire.Reader).Left -/
def F29 (N : Nat) (b0 : Gwire_Writer) : Option (Int × Gwire_Writer) :=
 ((F44 N b0).bind fun r1 =>
 (bif r1.1 then
 (some (0, r1.2))
 else
 (some (((r1.2.b).length : Int), r1.2))))
def con29 : Con τ := { args := [.ptr 0 []], L := [.box (.ty 66)], ret := .ty 3, L' := [.box (.ty 66)], R := Int × Gwire_Writer, dflt := (default, default), F := fun N a b => F29 N b.1, of := fun r => (r.1, (r.2, ())) }
noncomputable def dat29 : Dat τ := { D := D0, tbl := tblOf [(44, con44)], lp := lpsOf [], k0 := 1, mu := [], un := [] }
theorem ok29 : ConOk E C 29 con29 :=
  con_ok (D := dat29) ⟨d0Ok, eGood, tblOf_ok (l := [(44, con44)]) ⟨ok44, trivial⟩⟩ con29 (fun a b => (a, b.1)) none (fun _ _ => rfl) rfl (fun _ _ h => nomatch h) 1000000 (fn := Try.f29) Try.func29 rfl (by kernel_rfl) (by kernel_rfl) rfl (by intro N a b; kernel_rfl)

/-- (*orchard/wire.Reader).End -/
def F30 (N : Nat) (b0 : Gwire_Writer) : Option (Int × Gwire_Writer) :=
 ((F44 N b0).bind fun r1 =>
 (bif r1.1 then
 (some (2, r1.2))
 else
 (bif (decide (0 < ((r1.2.b).length : Int))) then
 (some (13, r1.2))
 else
 (some (0, r1.2)))))
def con30 : Con τ := { args := [.ptr 0 []], L := [.box (.ty 66)], ret := .ty 34, L' := [.box (.ty 66)], R := Int × Gwire_Writer, dflt := (default, default), F := fun N a b => F30 N b.1, of := fun r => (r.1, (r.2, ())) }
noncomputable def dat30 : Dat τ := { D := D0, tbl := tblOf [(44, con44)], lp := lpsOf [], k0 := 1, mu := [], un := [] }
theorem ok30 : ConOk E C 30 con30 :=
  con_ok (D := dat30) ⟨d0Ok, eGood, tblOf_ok (l := [(44, con44)]) ⟨ok44, trivial⟩⟩ con30 (fun a b => (a, b.1)) none (fun _ _ => rfl) rfl (fun _ _ h => nomatch h) 1000000 (fn := Try.f30) Try.func30 rfl (by kernel_rfl) (by kernel_rfl) rfl (by intro N a b; kernel_rfl)

/-- orchard/orchardref01.ParseBytes -/
def F47 (N : Nat) (b : List (Int)) : Option ((List (Int)) × Int × Int) :=
 ((F46 N b).bind fun r1 =>
 (bif (!(r1.2.2 == 0)) then
 (some ([], 0, r1.2.2))
 else
 (bif (decide (r1.1 < 0)) then
 (some ([], 0, 11))
 else
 (bif (decide ((IntKind.i64.wrap (((b).length : Int) - r1.2.1)) < r1.1)) then
 (some ([], 0, 10))
 else
 (bif (cutB r1.2.1 (IntKind.i64.wrap (r1.2.1 + r1.1)) ((b).length : Int)) then
 (bif (lenB (((cut b r1.2.1 (IntKind.i64.wrap (r1.2.1 + r1.1)))).length) 1) then
 (some ((cut b r1.2.1 (IntKind.i64.wrap (r1.2.1 + r1.1))), (IntKind.i64.wrap (r1.2.1 + r1.1)), 0))
 else none)
 else none)))))
def con47 : Con τ := { args := [.ty 23], L := [], ret := .tup [.ty 23, .ty 3, .ty 34], L' := [], R := (List (Int)) × Int × Int, dflt := (default, default, default), F := fun N a b => F47 N a.1, of := fun r => ((r.1, r.2.1, r.2.2, ()), ()) }
noncomputable def dat47 : Dat τ := { D := D0, tbl := tblOf [(46, con46)], lp := lpsOf [], k0 := 0, mu := [], un := [] }
theorem ok47 : ConOk E C 47 con47 :=
  con_ok (D := dat47) ⟨d0Ok, eGood, tblOf_ok (l := [(46, con46)]) ⟨ok46, trivial⟩⟩ con47 (fun a b => (a.1, a.2.1, a.2.2.1)) none (fun _ _ => rfl) rfl (fun _ _ h => nomatch h) 1000000 (fn := Try.f47) Try.func47 rfl (by kernel_rfl) (by kernel_rfl) rfl (by intro N a b; kernel_rfl)

/-- (*orchard/orchardref01.Reader).Bytes -/
def F26 (N : Nat) (b0 : Gorchardref01_Reader) : Option ((List (Int)) × Int × Gorchardref01_Reader) :=
 ((F47 N b0.B).bind fun r1 =>
 (bif (cutB r1.2.1 ((b0.B).length : Int) ((b0.B).length : Int)) then
 (some (r1.1, r1.2.2, (⟨(cut b0.B r1.2.1 ((b0.B).length : Int))⟩ : Gorchardref01_Reader)))
 else none))
def con26 : Con τ := { args := [.ptr 0 []], L := [.box (.ty 51)], ret := .tup [.ty 23, .ty 34], L' := [.box (.ty 51)], R := (List (Int)) × Int × Gorchardref01_Reader, dflt := (default, default, default), F := fun N a b => F26 N b.1, of := fun r => ((r.1, r.2.1, ()), (r.2.2, ())) }
noncomputable def dat26 : Dat τ := { D := D0, tbl := tblOf [(47, con47)], lp := lpsOf [], k0 := 1, mu := [], un := [] }
theorem ok26 : ConOk E C 26 con26 :=
  con_ok (D := dat26) ⟨d0Ok, eGood, tblOf_ok (l := [(47, con47)]) ⟨ok47, trivial⟩⟩ con26 (fun a b => (a.1, a.2.1, b.1)) none (fun _ _ => rfl) rfl (fun _ _ h => nomatch h) 1000000 (fn := Try.f26) Try.func26 rfl (by kernel_rfl) (by kernel_rfl) rfl (by intro N a b; kernel_rfl)

/-- (*orchard/wire.Reader).Text -/
def F27 (N : Nat) (b0 : Gwire_Writer) : Option ((List UInt8) × Int × Gwire_Writer) :=
 ((F23 N b0).bind fun r1 =>
 (some ((strI r1.1), r1.2.1, r1.2.2)))
def con27 : Con τ := { args := [.ptr 0 []], L := [.box (.ty 66)], ret := .tup [.ty 9, .ty 34], L' := [.box (.ty 66)], R := (List UInt8) × Int × Gwire_Writer, dflt := (default, default, default), F := fun N a b => F27 N b.1, of := fun r => ((r.1, r.2.1, ()), (r.2.2, ())) }
noncomputable def dat27 : Dat τ := { D := D0, tbl := tblOf [(23, con23)], lp := lpsOf [], k0 := 1, mu := [], un := [] }
theorem ok27 : ConOk E C 27 con27 :=
  con_ok (D := dat27) ⟨d0Ok, eGood, tblOf_ok (l := [(23, con23)]) ⟨ok23, trivial⟩⟩ con27 (fun a b => (a.1, a.2.1, b.1)) none (fun _ _ => rfl) rfl (fun _ _ h => nomatch h) 1000000 (fn := Try.f27) Try.func27 rfl (by kernel_rfl) (by kernel_rfl) rfl (by intro N a b; kernel_rfl)

/-- (*orchard/orchardref01.Reader).Flag -/
def F28 (N : Nat) (b0 : Gorchardref01_Reader) : Option (Bool × Int × Gorchardref01_Reader) :=
 ((F46 N b0.B).bind fun r1 =>
 (bif ((r1.2.2 == 0) && ((decide (r1.1 < 0)) || (decide (1 < r1.1)))) then
 (some (false, 11, b0))
 else
 (bif (cutB r1.2.1 ((b0.B).length : Int) ((b0.B).length : Int)) then
 (some ((r1.1 == 1), r1.2.2, (⟨(cut b0.B r1.2.1 ((b0.B).length : Int))⟩ : Gorchardref01_Reader)))
 else none)))
def con28 : Con τ := { args := [.ptr 0 []], L := [.box (.ty 51)], ret := .tup [.ty 4, .ty 34], L' := [.box (.ty 51)], R := Bool × Int × Gorchardref01_Reader, dflt := (default, default, default), F := fun N a b => F28 N b.1, of := fun r => ((r.1, r.2.1, ()), (r.2.2, ())) }
noncomputable def dat28 : Dat τ := { D := D0, tbl := tblOf [(46, con46)], lp := lpsOf [], k0 := 1, mu := [], un := [] }
theorem ok28 : ConOk E C 28 con28 :=
  con_ok (D := dat28) ⟨d0Ok, eGood, tblOf_ok (l := [(46, con46)]) ⟨ok46, trivial⟩⟩ con28 (fun a b => (a.1, a.2.1, b.1)) none (fun _ _ => rfl) rfl (fun _ _ h => nomatch h) 1000000 (fn := Try.f28) Try.func28 rfl (by kernel_rfl) (by kernel_rfl) rfl (by intro N a b; kernel_rfl)

structure S6x6 where
  t30 : Int
  b0 : Gwire_Writer
  b1 : Gorchardref01_Reader
def ts6x6 : List Sl := [.keep, .keep, .keep, .keep, .junk, .keep, .keep, .keep, .junk, .junk, .junk, .junk, .junk, .junk, .junk, .junk, .junk, .junk, .keep, .keep, .keep, .keep, .keep, .keep, .keep, .junk, .junk, .keep, .keep, .keep, .sh (.ty 2), .junk, .junk, .junk, .junk, .junk, .junk, .junk, .junk, .junk, .junk, .junk, .junk, .junk, .junk, .junk, .junk, .junk, .junk, .junk, .junk, .junk, .junk, .junk, .junk, .junk, .junk, .junk, .junk, .junk, .junk, .junk, .junk, .junk, .junk, .junk, .junk, .junk, .junk, .junk, .junk, .junk, .junk, .junk, .junk, .junk, .junk, .junk, .junk, .junk, .junk, .junk, .junk, .junk, .junk, .junk, .junk, .junk, .junk, .junk, .junk, .junk, .junk, .junk, .junk, .junk, .junk, .junk, .junk, .junk, .junk, .junk, .junk, .junk, .junk, .junk, .junk, .junk, .junk, .junk, .junk, .junk, .junk, .junk, .junk, .junk]
def hs6x6 : List ESh := [.box (.ty 62), .box (.ty 50)]
def to6x6 (a : Sl.Ts τ ts6x6) (b : ESh.Ts τ hs6x6) : S6x6 := ⟨a.2.2.2.2.2.2.2.2.2.2.2.2.2.2.2.2.2.2.2.2.2.2.2.2.2.2.2.2.2.2.1, b.1, b.2.1⟩
def ot6x6 (s : S6x6) : Sl.Ts τ ts6x6 := ((), (), (), (), (), (), (), (), (), (), (), (), (), (), (), (), (), (), (), (), (), (), (), (), (), (), (), (), (), (), s.t30, (), (), (), (), (), (), (), (), (), (), (), (), (), (), (), (), (), (), (), (), (), (), (), (), (), (), (), (), (), (), (), (), (), (), (), (), (), (), (), (), (), (), (), (), (), (), (), (), (), (), (), (), (), (), (), (), (), (), (), (), (), (), (), (), (), (), (), (), (), (), (), (), (), (), (), (), (), (), (), (), (), (), (), (), (), ())
def oh6x6 (s : S6x6) : ESh.Ts τ hs6x6 := (s.b0, s.b1, ())
def lp6x6 : Lp τ := { ts := ts6x6, hs := hs6x6, S := S6x6, to := to6x6, ot := ot6x6, oh := oh6x6, hk := [2, 2], tk := [0, 0, 0, 0, 0, 2, 3, 0, 0, 0, 0, 0, 0, 0, 0, 0, 0, 0, 0, 2, 0, 0, 2], ot_to := fun _ _ => rfl, oh_to := fun _ _ => rfl }
/-- orchard/orchardlaw01.WireReads -/
def F6 (N : Nat) (b : List (Int)) (l : List (Gorchardlaw01_Part)) : Option (Bool) :=
 ((F21 N b).bind fun r1 =>
 ((F13 N).bind fun r2 =>
 (bif (!r2) then
 (some false)
 else
 (iter N (fun (s3 : S6x6) next4 =>
 (bif (decide (s3.t30 < ((l).length : Int))) then
 (bif (ibB s3.t30 ((l).length : Int)) then
 (bif (((lget l s3.t30 default).Kind) == 0) then
 ((F22 N s3.b0).bind fun r5 =>
 ((F25 N s3.b1).bind fun r6 =>
 ((bif (!(!(r5.1 == r6.1))) then F19 N [] [] else some default).bind fun r7 =>
 (bif (!(((!(r5.1 == r6.1)) || (!r7)) || (!(r5.2.1 == r6.2.1)))) then
 ((F29 N r5.2.2).bind fun r8 =>
 (bif (!((((!(r5.1 == r6.1)) || (!r7)) || (!(r5.2.1 == r6.2.1))) || (!(r8.1 == ((r6.2.2.B).length : Int))))) then
 ((F30 N r8.2).bind fun r9 =>
 (bif (((((!(r5.1 == r6.1)) || (!r7)) || (!(r5.2.1 == r6.2.1))) || (!(r8.1 == ((r6.2.2.B).length : Int)))) || (!((r9.1 == 0) == (((r6.2.2.B).length : Int) == 0)))) then
 (some false)
 else
 (next4 ⟨(IntKind.i64.wrap (s3.t30 + 1)), r9.2, r6.2.2⟩)))
 else
 (some false)))
 else
 (some false)))))
 else
 (bif (((lget l s3.t30 default).Kind) == 1) then
 ((F23 N s3.b0).bind fun r10 =>
 ((F26 N s3.b1).bind fun r11 =>
 ((F19 N r10.1 r11.1).bind fun r12 =>
 (bif (!((!r12) || (!(r10.2.1 == r11.2.1)))) then
 ((F29 N r10.2.2).bind fun r13 =>
 (bif (!(((!r12) || (!(r10.2.1 == r11.2.1))) || (!(r13.1 == ((r11.2.2.B).length : Int))))) then
 ((F30 N r13.2).bind fun r14 =>
 (bif ((((!r12) || (!(r10.2.1 == r11.2.1))) || (!(r13.1 == ((r11.2.2.B).length : Int)))) || (!((r14.1 == 0) == (((r11.2.2.B).length : Int) == 0)))) then
 (some false)
 else
 (next4 ⟨(IntKind.i64.wrap (s3.t30 + 1)), r14.2, r11.2.2⟩)))
 else
 (some false)))
 else
 (some false)))))
 else
 (bif (((lget l s3.t30 default).Kind) == 2) then
 ((F27 N s3.b0).bind fun r15 =>
 ((F26 N s3.b1).bind fun r16 =>
 ((F19 N (bytesI r15.1) r16.1).bind fun r17 =>
 (bif (!((!r17) || (!(r15.2.1 == r16.2.1)))) then
 ((F29 N r15.2.2).bind fun r18 =>
 (bif (!(((!r17) || (!(r15.2.1 == r16.2.1))) || (!(r18.1 == ((r16.2.2.B).length : Int))))) then
 ((F30 N r18.2).bind fun r19 =>
 (bif ((((!r17) || (!(r15.2.1 == r16.2.1))) || (!(r18.1 == ((r16.2.2.B).length : Int)))) || (!((r19.1 == 0) == (((r16.2.2.B).length : Int) == 0)))) then
 (some false)
 else
 (next4 ⟨(IntKind.i64.wrap (s3.t30 + 1)), r19.2, r16.2.2⟩)))
 else
 (some false)))
 else
 (some false)))))
 else
 ((F24 N s3.b0).bind fun r20 =>
 ((F28 N s3.b1).bind fun r21 =>
 (bif (!(r20.1 == r21.1)) then
 (some false)
 else
 ((F19 N [] []).bind fun r22 =>
 (bif (!((!r22) || (!(r20.2.1 == r21.2.1)))) then
 ((F29 N r20.2.2).bind fun r23 =>
 (bif (!(((!r22) || (!(r20.2.1 == r21.2.1))) || (!(r23.1 == ((r21.2.2.B).length : Int))))) then
 ((F30 N r23.2).bind fun r24 =>
 (bif ((((!r22) || (!(r20.2.1 == r21.2.1))) || (!(r23.1 == ((r21.2.2.B).length : Int)))) || (!((r24.1 == 0) == (((r21.2.2.B).length : Int) == 0)))) then
 (some false)
 else
 (next4 ⟨(IntKind.i64.wrap (s3.t30 + 1)), r24.2, r21.2.2⟩)))
 else
 (some false)))
 else
 (some false)))))))))
 else none)
 else
 (some true))) ⟨0, r1, (⟨b⟩ : Gorchardref01_Reader)⟩))))
def con6 : Con τ := { args := [.ty 23, .ty 29], L := [], ret := .ty 4, L' := [], R := Bool, dflt := default, F := fun N a b => F6 N a.1 a.2.1, of := fun r => (r, ()) }
noncomputable def dat6 : Dat τ := { D := D0, tbl := tblOf [(21, con21), (13, con13), (22, con22), (25, con25), (19, con19), (29, con29), (30, con30), (23, con23), (26, con26), (27, con27), (24, con24), (28, con28)], lp := lpsOf [(6, lp6x6)], k0 := 0, mu := [], un := [] }
theorem ok6 : ConOk E C 6 con6 :=
  con_ok (D := dat6) ⟨d0Ok, eGood, tblOf_ok (l := [(21, con21), (13, con13), (22, con22), (25, con25), (19, con19), (29, con29), (30, con30), (23, con23), (26, con26), (27, con27), (24, con24), (28, con28)]) ⟨ok21, ⟨ok13, ⟨ok22, ⟨ok25, ⟨ok19, ⟨ok29, ⟨ok30, ⟨ok23, ⟨ok26, ⟨ok27, ⟨ok24, ⟨ok28, trivial⟩⟩⟩⟩⟩⟩⟩⟩⟩⟩⟩⟩⟩ con6 (fun a b => a) none (fun _ _ => rfl) rfl (fun _ _ h => nomatch h) 1000000 (fn := Try.f6) Try.func6 rfl (by kernel_rfl) (by kernel_rfl) rfl (by intro N a b; kernel_rfl)

/-- bytes.HasPrefix -/
def F34 (N : Nat) (s : List (Int)) (prefix_ : List (Int)) : Option (Bool) :=
 (bif (!(decide (((prefix_).length : Int) ≤ ((s).length : Int))) || (cutB 0 ((prefix_).length : Int) ((s).length : Int))) then
 ((bif (decide (((prefix_).length : Int) ≤ ((s).length : Int))) then F19 N (cut s 0 ((prefix_).length : Int)) prefix_ else some default).bind fun r1 =>
 (some ((decide (((prefix_).length : Int) ≤ ((s).length : Int))) && r1)))
 else none)
def con34 : Con τ := { args := [.ty 23, .ty 23], L := [], ret := .ty 4, L' := [], R := Bool, dflt := default, F := fun N a b => F34 N a.1 a.2.1, of := fun r => (r, ()) }
noncomputable def dat34 : Dat τ := { D := D0, tbl := tblOf [(19, con19)], lp := lpsOf [], k0 := 0, mu := [], un := [] }
theorem ok34 : ConOk E C 34 con34 :=
  con_ok (D := dat34) ⟨d0Ok, eGood, tblOf_ok (l := [(19, con19)]) ⟨ok19, trivial⟩⟩ con34 (fun a b => a) none (fun _ _ => rfl) rfl (fun _ _ h => nomatch h) 1000000 (fn := Try.f34) Try.func34 rfl (by kernel_rfl) (by kernel_rfl) rfl (by intro N a b; kernel_rfl)

structure S7x6 where
  t34 : Int
  b0 : Gwire_Writer
  b1 : Bool
  b12 : List (Int)
def ts7x6 : List Sl := [.keep, .keep, .keep, .keep, .junk, .keep, .keep, .keep, .junk, .junk, .junk, .junk, .junk, .junk, .junk, .junk, .junk, .junk, .junk, .keep, .keep, .keep, .keep, .keep, .keep, .junk, .junk, .keep, .keep, .junk, .junk, .keep, .keep, .keep, .sh (.ty 2), .junk, .junk, .junk, .junk, .junk, .junk, .junk, .junk, .junk, .junk, .junk, .junk, .junk, .junk, .junk, .junk, .junk, .junk, .junk, .junk, .junk, .junk, .junk, .junk, .junk, .junk, .junk, .junk, .junk, .junk, .junk, .junk, .junk, .junk, .junk, .junk, .junk, .junk, .junk, .junk, .junk, .junk, .junk, .junk, .junk, .junk, .junk, .junk, .junk, .junk, .junk, .junk, .junk, .junk, .junk, .junk, .junk, .junk, .junk, .junk, .junk, .junk, .junk, .junk, .junk, .junk, .keep, .keep, .keep, .keep]
def hs7x6 : List ESh := [.box (.ty 62), .box (.agg [.ty 4, .own 5 3]), .dead, .tail]
def to7x6 (a : Sl.Ts τ ts7x6) (b : ESh.Ts τ hs7x6) : S7x6 := ⟨a.2.2.2.2.2.2.2.2.2.2.2.2.2.2.2.2.2.2.2.2.2.2.2.2.2.2.2.2.2.2.2.2.2.2.1, b.1, b.2.1.1, b.2.1.2.1⟩
def ot7x6 (s : S7x6) : Sl.Ts τ ts7x6 := ((), (), (), (), (), (), (), (), (), (), (), (), (), (), (), (), (), (), (), (), (), (), (), (), (), (), (), (), (), (), (), (), (), (), s.t34, (), (), (), (), (), (), (), (), (), (), (), (), (), (), (), (), (), (), (), (), (), (), (), (), (), (), (), (), (), (), (), (), (), (), (), (), (), (), (), (), (), (), (), (), (), (), (), (), (), (), (), (), (), (), (), (), (), (), (), (), (), (), (), (), (), (), (), (), (), (), ())
def oh7x6 (s : S7x6) : ESh.Ts τ hs7x6 := (s.b0, (s.b1, s.b12, ()), (), (), ())
def lp7x6 : Lp τ := { ts := ts7x6, hs := hs7x6, S := S7x6, to := to7x6, ot := ot7x6, oh := oh7x6, hk := [2, 2, 5], tk := [0, 0, 0, 0, 0, 2, 3, 0, 0, 0, 0, 0, 0, 0, 0, 0, 0, 0, 0, 0, 2, 3, 2], ot_to := fun _ _ => rfl, oh_to := fun _ _ => rfl }
/-- orchard/orchardlaw01.WireOne -/
def F7 (N : Nat) (b : List (Int)) (l : List (Gorchardlaw01_Part)) : Option (Bool) :=
 ((F21 N b).bind fun r1 =>
 ((F16 N).bind fun r2 =>
 ((F13 N).bind fun r3 =>
 (bif (!r3) then
 (some false)
 else
 (iter N (fun (s4 : S7x6) next5 =>
 (bif (decide (s4.t34 < ((l).length : Int))) then
 (bif (ibB s4.t34 ((l).length : Int)) then
 ((F29 N s4.b0).bind fun r6 =>
 ((F18 N s4.b1 s4.b12).bind fun r7 =>
 (bif (((lget l s4.t34 default).Kind) == 0) then
 ((F22 N r6.2).bind fun r8 =>
 (bif (r8.2.1 == 0) then
 ((F31 N r8.1 r7.2.1 r7.2.2).bind fun r9 =>
 (bif (r9.1 == 3) then
 (some (decide (1048576 < ((b).length : Int))))
 else
 (bif (!(!(r9.1 == 0))) then
 ((F29 N r8.2.2).bind fun r10 =>
 (bif (!(!(r9.1 == 0))) then
 ((F18 N r9.2.1 r9.2.2).bind fun r11 =>
 (bif ((!(r9.1 == 0)) || (!((IntKind.i64.wrap (r6.1 - r10.1)) == (IntKind.i64.wrap (r11.1 - r7.1))))) then
 (some false)
 else
 (next5 ⟨(IntKind.i64.wrap (s4.t34 + 1)), r10.2, r11.2.1, r11.2.2⟩)))
 else
 (some false)))
 else
 (some false))))
 else
 ((F29 N r8.2.2).bind fun r12 =>
 ((F18 N r7.2.1 r7.2.2).bind fun r13 =>
 (bif (!((IntKind.i64.wrap (r6.1 - r12.1)) == (IntKind.i64.wrap (r13.1 - r7.1)))) then
 (some false)
 else
 (next5 ⟨(IntKind.i64.wrap (s4.t34 + 1)), r12.2, r13.2.1, r13.2.2⟩))))))
 else
 (bif (((lget l s4.t34 default).Kind) == 1) then
 (bif (((lget l s4.t34 default).Kind) == 1) then
 ((F23 N r6.2).bind fun r14 =>
 (bif (r14.2.1 == 0) then
 ((F32 N r14.1 r7.2.1 r7.2.2).bind fun r15 =>
 (bif (r15.1 == 3) then
 (some (decide (1048576 < ((b).length : Int))))
 else
 (bif (!(!(r15.1 == 0))) then
 ((F29 N r14.2.2).bind fun r16 =>
 (bif (!(!(r15.1 == 0))) then
 ((F18 N r15.2.1 r15.2.2).bind fun r17 =>
 (bif ((!(r15.1 == 0)) || (!((IntKind.i64.wrap (r6.1 - r16.1)) == (IntKind.i64.wrap (r17.1 - r7.1))))) then
 (some false)
 else
 (next5 ⟨(IntKind.i64.wrap (s4.t34 + 1)), r16.2, r17.2.1, r17.2.2⟩)))
 else
 (some false)))
 else
 (some false))))
 else
 ((F29 N r14.2.2).bind fun r18 =>
 ((F18 N r7.2.1 r7.2.2).bind fun r19 =>
 (bif (!((IntKind.i64.wrap (r6.1 - r18.1)) == (IntKind.i64.wrap (r19.1 - r7.1)))) then
 (some false)
 else
 (next5 ⟨(IntKind.i64.wrap (s4.t34 + 1)), r18.2, r19.2.1, r19.2.2⟩))))))
 else
 ((F24 N r6.2).bind fun r20 =>
 (bif (r20.2.1 == 0) then
 ((F33 N r20.1 r7.2.1 r7.2.2).bind fun r21 =>
 (bif (r21.1 == 3) then
 (some (decide (1048576 < ((b).length : Int))))
 else
 (bif (!(!(r21.1 == 0))) then
 ((F29 N r20.2.2).bind fun r22 =>
 (bif (!(!(r21.1 == 0))) then
 ((F18 N r21.2.1 r21.2.2).bind fun r23 =>
 (bif ((!(r21.1 == 0)) || (!((IntKind.i64.wrap (r6.1 - r22.1)) == (IntKind.i64.wrap (r23.1 - r7.1))))) then
 (some false)
 else
 (next5 ⟨(IntKind.i64.wrap (s4.t34 + 1)), r22.2, r23.2.1, r23.2.2⟩)))
 else
 (some false)))
 else
 (some false))))
 else
 ((F29 N r20.2.2).bind fun r24 =>
 ((F18 N r7.2.1 r7.2.2).bind fun r25 =>
 (bif (!((IntKind.i64.wrap (r6.1 - r24.1)) == (IntKind.i64.wrap (r25.1 - r7.1)))) then
 (some false)
 else
 (next5 ⟨(IntKind.i64.wrap (s4.t34 + 1)), r24.2, r25.2.1, r25.2.2⟩)))))))
 else
 (bif (((lget l s4.t34 default).Kind) == 2) then
 ((F23 N r6.2).bind fun r26 =>
 (bif (r26.2.1 == 0) then
 ((F32 N r26.1 r7.2.1 r7.2.2).bind fun r27 =>
 (bif (r27.1 == 3) then
 (some (decide (1048576 < ((b).length : Int))))
 else
 (bif (!(!(r27.1 == 0))) then
 ((F29 N r26.2.2).bind fun r28 =>
 (bif (!(!(r27.1 == 0))) then
 ((F18 N r27.2.1 r27.2.2).bind fun r29 =>
 (bif ((!(r27.1 == 0)) || (!((IntKind.i64.wrap (r6.1 - r28.1)) == (IntKind.i64.wrap (r29.1 - r7.1))))) then
 (some false)
 else
 (next5 ⟨(IntKind.i64.wrap (s4.t34 + 1)), r28.2, r29.2.1, r29.2.2⟩)))
 else
 (some false)))
 else
 (some false))))
 else
 ((F29 N r26.2.2).bind fun r30 =>
 ((F18 N r7.2.1 r7.2.2).bind fun r31 =>
 (bif (!((IntKind.i64.wrap (r6.1 - r30.1)) == (IntKind.i64.wrap (r31.1 - r7.1)))) then
 (some false)
 else
 (next5 ⟨(IntKind.i64.wrap (s4.t34 + 1)), r30.2, r31.2.1, r31.2.2⟩))))))
 else
 ((F24 N r6.2).bind fun r32 =>
 (bif (r32.2.1 == 0) then
 ((F33 N r32.1 r7.2.1 r7.2.2).bind fun r33 =>
 (bif (r33.1 == 3) then
 (some (decide (1048576 < ((b).length : Int))))
 else
 (bif (!(!(r33.1 == 0))) then
 ((F29 N r32.2.2).bind fun r34 =>
 (bif (!(!(r33.1 == 0))) then
 ((F18 N r33.2.1 r33.2.2).bind fun r35 =>
 (bif ((!(r33.1 == 0)) || (!((IntKind.i64.wrap (r6.1 - r34.1)) == (IntKind.i64.wrap (r35.1 - r7.1))))) then
 (some false)
 else
 (next5 ⟨(IntKind.i64.wrap (s4.t34 + 1)), r34.2, r35.2.1, r35.2.2⟩)))
 else
 (some false)))
 else
 (some false))))
 else
 ((F29 N r32.2.2).bind fun r36 =>
 ((F18 N r7.2.1 r7.2.2).bind fun r37 =>
 (bif (!((IntKind.i64.wrap (r6.1 - r36.1)) == (IntKind.i64.wrap (r37.1 - r7.1)))) then
 (some false)
 else
 (next5 ⟨(IntKind.i64.wrap (s4.t34 + 1)), r36.2, r37.2.1, r37.2.2⟩)))))))))))
 else none)
 else
 ((F20 N s4.b1 s4.b12).bind fun r38 =>
 ((F34 N b r38.1).bind fun r39 =>
 (some r39))))) ⟨0, r1, r2.1, r2.2⟩)))))
def con7 : Con τ := { args := [.ty 23, .ty 29], L := [], ret := .ty 4, L' := [], R := Bool, dflt := default, F := fun N a b => F7 N a.1 a.2.1, of := fun r => (r, ()) }
noncomputable def dat7 : Dat τ := { D := D0, tbl := tblOf [(21, con21), (16, con16), (13, con13), (29, con29), (18, con18), (22, con22), (31, con31), (23, con23), (32, con32), (24, con24), (33, con33), (20, con20), (34, con34)], lp := lpsOf [(6, lp7x6)], k0 := 0, mu := [], un := [] }
theorem ok7 : ConOk E C 7 con7 :=
  con_ok (D := dat7) ⟨d0Ok, eGood, tblOf_ok (l := [(21, con21), (16, con16), (13, con13), (29, con29), (18, con18), (22, con22), (31, con31), (23, con23), (32, con32), (24, con24), (33, con33), (20, con20), (34, con34)]) ⟨ok21, ⟨ok16, ⟨ok13, ⟨ok29, ⟨ok18, ⟨ok22, ⟨ok31, ⟨ok23, ⟨ok32, ⟨ok24, ⟨ok33, ⟨ok20, ⟨ok34, trivial⟩⟩⟩⟩⟩⟩⟩⟩⟩⟩⟩⟩⟩⟩ con7 (fun a b => a) none (fun _ _ => rfl) rfl (fun _ _ h => nomatch h) 1000000 (fn := Try.f7) Try.func7 rfl (by kernel_rfl) (by kernel_rfl) rfl (by intro N a b; kernel_rfl)

structure S9x6 where
  there : List (Gorchardlaw01_Part)
  t30 : Int
  b0 : Bool
  b02 : List (Int)
def ts9x6 : List Sl := [.keep, .keep, .keep, .keep, .sh (.own 33 2), .keep, .junk, .junk, .junk, .keep, .keep, .keep, .keep, .keep, .keep, .keep, .keep, .keep, .keep, .keep, .keep, .keep, .keep, .keep, .keep, .junk, .junk, .keep, .keep, .keep, .sh (.ty 2), .junk, .junk, .junk, .junk, .junk, .junk, .junk, .junk, .junk, .junk, .junk, .junk, .junk, .junk, .junk, .junk, .keep, .keep, .keep, .keep, .keep, .keep, .keep, .keep, .keep, .keep, .keep, .keep, .keep, .keep, .keep, .keep, .keep, .keep, .keep, .keep, .keep, .keep, .keep, .keep, .keep, .keep, .keep, .keep, .keep, .keep, .keep, .keep, .keep, .keep, .keep, .keep, .keep, .keep, .keep, .keep, .keep, .keep, .keep, .keep, .keep, .keep, .keep, .keep, .keep, .keep, .keep, .keep, .keep, .keep, .keep, .keep, .keep, .keep, .keep, .keep, .keep, .keep, .keep, .keep, .keep, .keep, .keep, .keep, .keep, .keep, .keep, .keep, .keep, .keep, .keep, .keep, .keep, .keep, .keep, .keep, .keep, .keep, .keep, .keep]
def hs9x6 : List ESh := [.box (.agg [.ty 4, .own 5 3]), .dead, .tail, .tail]
def to9x6 (a : Sl.Ts τ ts9x6) (b : ESh.Ts τ hs9x6) : S9x6 := ⟨a.2.2.2.2.1, a.2.2.2.2.2.2.2.2.2.2.2.2.2.2.2.2.2.2.2.2.2.2.2.2.2.2.2.2.2.2.1, b.1.1, b.1.2.1⟩
def ot9x6 (s : S9x6) : Sl.Ts τ ts9x6 := ((), (), (), (), s.there, (), (), (), (), (), (), (), (), (), (), (), (), (), (), (), (), (), (), (), (), (), (), (), (), (), s.t30, (), (), (), (), (), (), (), (), (), (), (), (), (), (), (), (), (), (), (), (), (), (), (), (), (), (), (), (), (), (), (), (), (), (), (), (), (), (), (), (), (), (), (), (), (), (), (), (), (), (), (), (), (), (), (), (), (), (), (), (), (), (), (), (), (), (), (), (), (), (), (), (), (), (), (), (), (), (), (), (), (), (), (), (), (), (), (), (), (), (), (), (), (), (), (), (), (), (), (), (), ())
def oh9x6 (s : S9x6) : ESh.Ts τ hs9x6 := ((s.b0, s.b02, ()), (), (), (), ())
def lp9x6 : Lp τ := { ts := ts9x6, hs := hs9x6, S := S9x6, to := to9x6, ot := ot9x6, oh := oh9x6, hk := [2, 5], tk := [0, 0, 0, 2, 0, 0, 0, 0, 0, 0, 0, 0, 0, 0, 0, 0, 0, 0, 0, 0, 0, 2, 2], ot_to := fun _ _ => rfl, oh_to := fun _ _ => rfl }
structure S9x16 where
  t54 : Int
  b4 : Gwire_Writer
def ts9x16 : List Sl := [.keep, .keep, .junk, .keep, .keep, .keep, .keep, .keep, .keep, .keep, .keep, .junk, .junk, .junk, .junk, .junk, .junk, .junk, .junk, .junk, .junk, .keep, .keep, .keep, .keep, .keep, .keep, .keep, .keep, .keep, .keep, .keep, .keep, .keep, .keep, .keep, .keep, .keep, .keep, .keep, .keep, .keep, .keep, .keep, .keep, .keep, .keep, .keep, .keep, .keep, .keep, .keep, .keep, .keep, .sh (.ty 2), .junk, .junk, .junk, .junk, .junk, .junk, .junk, .junk, .junk, .junk, .junk, .junk, .junk, .junk, .junk, .junk, .junk, .junk, .junk, .junk, .junk, .junk, .junk, .junk, .junk, .junk, .junk, .junk, .junk, .junk, .junk, .junk, .junk, .junk, .junk, .junk, .junk, .junk, .junk, .junk, .junk, .junk, .junk, .junk, .junk, .junk, .junk, .junk, .junk, .junk, .junk, .junk, .junk, .junk, .junk, .junk, .junk, .junk, .junk, .junk, .junk, .junk, .junk, .junk, .junk, .junk, .junk, .junk, .keep, .keep, .keep, .keep, .keep, .keep, .keep, .keep]
def hs9x16 : List ESh := [.keep, .keep, .keep, .keep, .box (.ty 62)]
def to9x16 (a : Sl.Ts τ ts9x16) (b : ESh.Ts τ hs9x16) : S9x16 := ⟨a.2.2.2.2.2.2.2.2.2.2.2.2.2.2.2.2.2.2.2.2.2.2.2.2.2.2.2.2.2.2.2.2.2.2.2.2.2.2.2.2.2.2.2.2.2.2.2.2.2.2.2.2.2.2.1, b.2.2.2.2.1⟩
def ot9x16 (s : S9x16) : Sl.Ts τ ts9x16 := ((), (), (), (), (), (), (), (), (), (), (), (), (), (), (), (), (), (), (), (), (), (), (), (), (), (), (), (), (), (), (), (), (), (), (), (), (), (), (), (), (), (), (), (), (), (), (), (), (), (), (), (), (), (), s.t54, (), (), (), (), (), (), (), (), (), (), (), (), (), (), (), (), (), (), (), (), (), (), (), (), (), (), (), (), (), (), (), (), (), (), (), (), (), (), (), (), (), (), (), (), (), (), (), (), (), (), (), (), (), (), (), (), (), (), (), (), (), (), (), (), (), (), (), (), (), (), (), (), (), (), (), (), ())
def oh9x16 (s : S9x16) : ESh.Ts τ hs9x16 := ((), (), (), (), s.b4, ())
def lp9x16 : Lp τ := { ts := ts9x16, hs := hs9x16, S := S9x16, to := to9x16, ot := ot9x16, oh := oh9x16, hk := [2, 1, 5, 5, 2], tk := [0, 0, 0, 2, 0, 0, 0, 0, 0, 6, 0, 0, 0, 0, 0, 0, 0, 0, 0, 0, 0, 2, 2, 0, 0, 0, 0, 0, 0, 0, 0, 0, 0, 0, 0, 0, 0, 0, 0, 0, 0, 0, 0, 0, 0, 0, 0, 2, 0, 6, 6], ot_to := fun _ _ => rfl, oh_to := fun _ _ => rfl }
/-- orchard/orchardlaw01.WireBack -/
def F9 (N : Nat) (l : List (Gorchardlaw01_Part)) : Option (Bool) :=
 ((F16 N).bind fun r1 =>
 ((F13 N).bind fun r2 =>
 (bif (!r2) then
 (some false)
 else
 (iter N (fun (s3 : S9x6) next4 =>
 (bif (decide (s3.t30 < ((l).length : Int))) then
 (bif (ibB s3.t30 ((l).length : Int)) then
 ((F17 N (lget l s3.t30 default) s3.b0 s3.b02).bind fun r5 =>
 (bif (r5.2.1 == 0) then
 (bif (lenB ((s3.there).length + ([(lget l s3.t30 default)]).length) 40) then
 (next4 ⟨(s3.there ++ [(lget l s3.t30 default)]), (IntKind.i64.wrap (s3.t30 + 1)), r5.2.2.1, r5.2.2.2⟩)
 else none)
 else
 (next4 ⟨s3.there, (IntKind.i64.wrap (s3.t30 + 1)), r5.2.2.1, r5.2.2.2⟩)))
 else none)
 else
 ((F20 N s3.b0 s3.b02).bind fun r6 =>
 ((F21 N r6.1).bind fun r7 =>
 (iter N (fun (s8 : S9x16) next9 =>
 (bif (decide (s8.t54 < ((s3.there).length : Int))) then
 (bif (ibB s8.t54 ((s3.there).length : Int)) then
 (bif (((lget s3.there s8.t54 default).Kind) == 0) then
 ((F22 N s8.b4).bind fun r10 =>
 (bif (!((r10.2.1 == 0) && (r10.1 == ((lget s3.there s8.t54 default).N)))) then
 (some false)
 else
 (next9 ⟨(IntKind.i64.wrap (s8.t54 + 1)), r10.2.2⟩)))
 else
 (bif (((lget s3.there s8.t54 default).Kind) == 1) then
 ((F23 N s8.b4).bind fun r11 =>
 ((bif (r11.2.1 == 0) then F19 N r11.1 ((lget s3.there s8.t54 default).B) else some default).bind fun r12 =>
 (bif (!((r11.2.1 == 0) && r12)) then
 (some false)
 else
 (next9 ⟨(IntKind.i64.wrap (s8.t54 + 1)), r11.2.2⟩))))
 else
 (bif (((lget s3.there s8.t54 default).Kind) == 2) then
 ((F27 N s8.b4).bind fun r13 =>
 (bif (!((r13.2.1 == 0) && (r13.1 == (strI ((lget s3.there s8.t54 default).B))))) then
 (some false)
 else
 (next9 ⟨(IntKind.i64.wrap (s8.t54 + 1)), r13.2.2⟩)))
 else
 ((F24 N s8.b4).bind fun r14 =>
 (bif (!((r14.2.1 == 0) && (r14.1 == (decide (0 < ((lget s3.there s8.t54 default).N)))))) then
 (some false)
 else
 (next9 ⟨(IntKind.i64.wrap (s8.t54 + 1)), r14.2.2⟩))))))
 else none)
 else
 ((F30 N s8.b4).bind fun r15 =>
 (bif (r15.1 == 0) then
 ((F29 N r15.2).bind fun r16 =>
 (some ((r15.1 == 0) && (r16.1 == 0))))
 else
 (some false))))) ⟨0, r7⟩))))) ⟨[], 0, r1.1, r1.2⟩))))
def con9 : Con τ := { args := [.ty 29], L := [], ret := .ty 4, L' := [], R := Bool, dflt := default, F := fun N a b => F9 N a.1, of := fun r => (r, ()) }
noncomputable def dat9 : Dat τ := { D := D0, tbl := tblOf [(16, con16), (13, con13), (17, con17), (20, con20), (21, con21), (22, con22), (23, con23), (19, con19), (27, con27), (24, con24), (30, con30), (29, con29)], lp := lpsOf [(6, lp9x6), (16, lp9x16)], k0 := 0, mu := [], un := [] }
theorem ok9 : ConOk E C 9 con9 :=
  con_ok (D := dat9) ⟨d0Ok, eGood, tblOf_ok (l := [(16, con16), (13, con13), (17, con17), (20, con20), (21, con21), (22, con22), (23, con23), (19, con19), (27, con27), (24, con24), (30, con30), (29, con29)]) ⟨ok16, ⟨ok13, ⟨ok17, ⟨ok20, ⟨ok21, ⟨ok22, ⟨ok23, ⟨ok19, ⟨ok27, ⟨ok24, ⟨ok30, ⟨ok29, trivial⟩⟩⟩⟩⟩⟩⟩⟩⟩⟩⟩⟩⟩ con9 (fun a b => a) none (fun _ _ => rfl) rfl (fun _ _ h => nomatch h) 1000000 (fn := Try.f9) Try.func9 rfl (by kernel_rfl) (by kernel_rfl) rfl (by intro N a b; kernel_rfl)

/-- (*orchard/wire.Writer).none -/
def F42i1 (N : Nat)  : Option (Bool) :=
 (some true)
def con42i1 : Con τ := { args := [.nil .ptr], L := [], ret := .ty 4, L' := [], R := Bool, dflt := default, F := fun N a b => F42i1 N , of := fun r => (r, ()) }
noncomputable def dat42i1 : Dat τ := { D := D0, tbl := tblOf [], lp := lpsOf [], k0 := 0, mu := [], un := [] }
theorem ok42i1 : ConOk E C 42 con42i1 :=
  con_ok (D := dat42i1) ⟨d0Ok, eGood, tblOf_ok (l := []) trivial⟩ con42i1 (fun a b => a) none (fun _ _ => rfl) rfl (fun _ _ h => nomatch h) 1000000 (fn := Try.f42) Try.func42 rfl (by kernel_rfl) (by kernel_rfl) rfl (by intro N a b; kernel_rfl)

/-- (*orchard/wire.Writer).put -/
def F48i1 (N : Nat) (l : List (List (Int))) : Option (Int) :=
 (some 2)
def con48i1 : Con τ := { args := [.nil .ptr, .ty 22], L := [], ret := .ty 34, L' := [], R := Int, dflt := default, F := fun N a b => F48i1 N a.2.1, of := fun r => (r, ()) }
noncomputable def dat48i1 : Dat τ := { D := D0, tbl := tblOf [(42, con42i1)], lp := lpsOf [], k0 := 0, mu := [], un := [] }
theorem ok48i1 : ConOk E C 48 con48i1 :=
  con_ok (D := dat48i1) ⟨d0Ok, eGood, tblOf_ok (l := [(42, con42i1)]) ⟨ok42i1, trivial⟩⟩ con48i1 (fun a b => a) none (fun _ _ => rfl) rfl (fun _ _ h => nomatch h) 1000000 (fn := Try.f48) Try.func48 rfl (by kernel_rfl) (by kernel_rfl) rfl (by intro N a b; kernel_rfl)

/-- (*orchard/wire.Writer).Int -/
def F31i1 (N : Nat) (n : Int) : Option (Int) :=
 ((F49 N n).bind fun r1 =>
 (some 2))
def con31i1 : Con τ := { args := [.nil .ptr, .ty 2], L := [], ret := .ty 34, L' := [], R := Int, dflt := default, F := fun N a b => F31i1 N a.2.1, of := fun r => (r, ()) }
noncomputable def dat31i1 : Dat τ := { D := D0, tbl := tblOf [(49, con49), (48, con48i1)], lp := lpsOf [], k0 := 0, mu := [], un := [] }
theorem ok31i1 : ConOk E C 31 con31i1 :=
  con_ok (D := dat31i1) ⟨d0Ok, eGood, tblOf_ok (l := [(49, con49), (48, con48i1)]) ⟨ok49, ⟨ok48i1, trivial⟩⟩⟩ con31i1 (fun a b => a) none (fun _ _ => rfl) rfl (fun _ _ h => nomatch h) 1000000 (fn := Try.f31) Try.func31 rfl (by kernel_rfl) (by kernel_rfl) rfl (by intro N a b; kernel_rfl)

/-- (*orchard/wire.Writer).Bytes -/
def F32i1 (N : Nat) (b : List (Int)) : Option (Int) :=
 ((F49 N ((b).length : Int)).bind fun r1 =>
 (some 2))
def con32i1 : Con τ := { args := [.nil .ptr, .ty 23], L := [], ret := .ty 34, L' := [], R := Int, dflt := default, F := fun N a b => F32i1 N a.2.1, of := fun r => (r, ()) }
noncomputable def dat32i1 : Dat τ := { D := D0, tbl := tblOf [(49, con49), (48, con48i1)], lp := lpsOf [], k0 := 0, mu := [], un := [] }
theorem ok32i1 : ConOk E C 32 con32i1 :=
  con_ok (D := dat32i1) ⟨d0Ok, eGood, tblOf_ok (l := [(49, con49), (48, con48i1)]) ⟨ok49, ⟨ok48i1, trivial⟩⟩⟩ con32i1 (fun a b => a) none (fun _ _ => rfl) rfl (fun _ _ h => nomatch h) 1000000 (fn := Try.f32) Try.func32 rfl (by kernel_rfl) (by kernel_rfl) rfl (by intro N a b; kernel_rfl)

/-- (*orchard/wire.Writer).Text -/
def F37i1 (N : Nat) (s : List UInt8) : Option (Int) :=
 ((F32i1 N (bytesI s)).bind fun r1 =>
 (some r1))
def con37i1 : Con τ := { args := [.nil .ptr, .ty 9], L := [], ret := .ty 34, L' := [], R := Int, dflt := default, F := fun N a b => F37i1 N a.2.1, of := fun r => (r, ()) }
noncomputable def dat37i1 : Dat τ := { D := D0, tbl := tblOf [(32, con32i1)], lp := lpsOf [], k0 := 0, mu := [], un := [] }
theorem ok37i1 : ConOk E C 37 con37i1 :=
  con_ok (D := dat37i1) ⟨d0Ok, eGood, tblOf_ok (l := [(32, con32i1)]) ⟨ok32i1, trivial⟩⟩ con37i1 (fun a b => a) none (fun _ _ => rfl) rfl (fun _ _ h => nomatch h) 1000000 (fn := Try.f37) Try.func37 rfl (by kernel_rfl) (by kernel_rfl) rfl (by intro N a b; kernel_rfl)

/-- (*orchard/wire.Writer).Flag -/
def F33i1 (N : Nat) (yes : Bool) : Option (Int) :=
 (bif yes then
 ((F31i1 N 1).bind fun r1 =>
 (some r1))
 else
 ((F31i1 N 0).bind fun r2 =>
 (some r2)))
def con33i1 : Con τ := { args := [.nil .ptr, .ty 4], L := [], ret := .ty 34, L' := [], R := Int, dflt := default, F := fun N a b => F33i1 N a.2.1, of := fun r => (r, ()) }
noncomputable def dat33i1 : Dat τ := { D := D0, tbl := tblOf [(31, con31i1)], lp := lpsOf [], k0 := 0, mu := [], un := [] }
theorem ok33i1 : ConOk E C 33 con33i1 :=
  con_ok (D := dat33i1) ⟨d0Ok, eGood, tblOf_ok (l := [(31, con31i1)]) ⟨ok31i1, trivial⟩⟩ con33i1 (fun a b => a) none (fun _ _ => rfl) rfl (fun _ _ h => nomatch h) 1000000 (fn := Try.f33) Try.func33 rfl (by kernel_rfl) (by kernel_rfl) rfl (by intro N a b; kernel_rfl)

/-- (*orchard/wire.Writer).Len -/
def F18i1 (N : Nat)  : Option (Int) :=
 (some 0)
def con18i1 : Con τ := { args := [.nil .ptr], L := [], ret := .ty 3, L' := [], R := Int, dflt := default, F := fun N a b => F18i1 N , of := fun r => (r, ()) }
noncomputable def dat18i1 : Dat τ := { D := D0, tbl := tblOf [(42, con42i1)], lp := lpsOf [], k0 := 0, mu := [], un := [] }
theorem ok18i1 : ConOk E C 18 con18i1 :=
  con_ok (D := dat18i1) ⟨d0Ok, eGood, tblOf_ok (l := [(42, con42i1)]) ⟨ok42i1, trivial⟩⟩ con18i1 (fun a b => a) none (fun _ _ => rfl) rfl (fun _ _ h => nomatch h) 1000000 (fn := Try.f18) Try.func18 rfl (by kernel_rfl) (by kernel_rfl) rfl (by intro N a b; kernel_rfl)

/-- (*orchard/wire.Writer).Out -/
def F20i1 (N : Nat)  : Option ((List (Int))) :=
 (some [])
def con20i1 : Con τ := { args := [.nil .ptr], L := [], ret := .ty 23, L' := [], R := (List (Int)), dflt := default, F := fun N a b => F20i1 N , of := fun r => (r, ()) }
noncomputable def dat20i1 : Dat τ := { D := D0, tbl := tblOf [(42, con42i1)], lp := lpsOf [], k0 := 0, mu := [], un := [] }
theorem ok20i1 : ConOk E C 20 con20i1 :=
  con_ok (D := dat20i1) ⟨d0Ok, eGood, tblOf_ok (l := [(42, con42i1)]) ⟨ok42i1, trivial⟩⟩ con20i1 (fun a b => a) none (fun _ _ => rfl) rfl (fun _ _ h => nomatch h) 1000000 (fn := Try.f20) Try.func20 rfl (by kernel_rfl) (by kernel_rfl) rfl (by intro N a b; kernel_rfl)

/-- (*orchard/wire.Writer).none -/
def F42i2 (N : Nat) (b0 : Bool) : Option (Bool × Bool) :=
 (some ((!b0), b0))
def con42i2 : Con τ := { args := [.ptr 0 []], L := [.box (.agg [.ty 4, .nil .slice])], ret := .ty 4, L' := [.box (.agg [.ty 4, .nil .slice])], R := Bool × Bool, dflt := (default, default), F := fun N a b => F42i2 N b.1.1, of := fun r => (r.1, ((r.2, (), ()), ())) }
noncomputable def dat42i2 : Dat τ := { D := D0, tbl := tblOf [], lp := lpsOf [], k0 := 1, mu := [], un := [] }
theorem ok42i2 : ConOk E C 42 con42i2 :=
  con_ok (D := dat42i2) ⟨d0Ok, eGood, tblOf_ok (l := []) trivial⟩ con42i2 (fun a b => (a, b.1.1)) none (fun _ _ => rfl) rfl (fun _ _ h => nomatch h) 1000000 (fn := Try.f42) Try.func42 rfl (by kernel_rfl) (by kernel_rfl) rfl (by intro N a b; kernel_rfl)

structure S48i2x5 where
  n : Int
  t19 : Int
def ts48i2x5 : List Sl := [.keep, .keep, .keep, .keep, .junk, .sh (.ty 2), .keep, .junk, .keep, .keep, .keep, .keep, .keep, .keep, .keep, .keep, .keep, .keep, .keep, .sh (.ty 2), .junk, .junk, .junk, .junk, .junk, .junk, .junk, .junk, .junk, .junk, .junk, .junk, .junk, .keep, .keep, .keep, .keep, .keep, .keep, .keep, .keep, .keep, .keep, .keep, .keep, .keep, .keep, .keep, .keep]
def hs48i2x5 : List ESh := [.keep]
def to48i2x5 (a : Sl.Ts τ ts48i2x5) (b : ESh.Ts τ hs48i2x5) : S48i2x5 := ⟨a.2.2.2.2.2.1, a.2.2.2.2.2.2.2.2.2.2.2.2.2.2.2.2.2.2.2.1⟩
def ot48i2x5 (s : S48i2x5) : Sl.Ts τ ts48i2x5 := ((), (), (), (), (), s.n, (), (), (), (), (), (), (), (), (), (), (), (), (), s.t19, (), (), (), (), (), (), (), (), (), (), (), (), (), (), (), (), (), (), (), (), (), (), (), (), (), (), (), (), (), ())
def oh48i2x5 (s : S48i2x5) : ESh.Ts τ hs48i2x5 := ((), ())
def lp48i2x5 : Lp τ := { ts := ts48i2x5, hs := hs48i2x5, S := S48i2x5, to := to48i2x5, ot := ot48i2x5, oh := oh48i2x5, hk := [2], tk := [2, 0, 0, 0, 0, 0, 0, 0, 0, 0, 2, 0, 2, 2, 2], ot_to := fun _ _ => rfl, oh_to := fun _ _ => rfl }
structure S48i2x12 where
  t35 : Int
  b0 : Bool
  b02 : List (Int)
def ts48i2x12 : List Sl := [.keep, .keep, .keep, .keep, .keep, .keep, .keep, .keep, .keep, .junk, .keep, .keep, .keep, .keep, .keep, .keep, .keep, .keep, .keep, .keep, .keep, .keep, .keep, .keep, .keep, .keep, .keep, .keep, .keep, .keep, .keep, .keep, .keep, .keep, .keep, .sh (.ty 2), .junk, .junk, .junk, .junk, .junk, .junk, .junk, .junk, .junk, .junk, .junk, .junk, .junk]
def hs48i2x12 : List ESh := [.box (.agg [.ty 4, .own 5 1]), .tail]
def to48i2x12 (a : Sl.Ts τ ts48i2x12) (b : ESh.Ts τ hs48i2x12) : S48i2x12 := ⟨a.2.2.2.2.2.2.2.2.2.2.2.2.2.2.2.2.2.2.2.2.2.2.2.2.2.2.2.2.2.2.2.2.2.2.2.1, b.1.1, b.1.2.1⟩
def ot48i2x12 (s : S48i2x12) : Sl.Ts τ ts48i2x12 := ((), (), (), (), (), (), (), (), (), (), (), (), (), (), (), (), (), (), (), (), (), (), (), (), (), (), (), (), (), (), (), (), (), (), (), s.t35, (), (), (), (), (), (), (), (), (), (), (), (), (), ())
def oh48i2x12 (s : S48i2x12) : ESh.Ts τ hs48i2x12 := ((s.b0, s.b02, ()), (), ())
def lp48i2x12 : Lp τ := { ts := ts48i2x12, hs := hs48i2x12, S := S48i2x12, to := to48i2x12, ot := ot48i2x12, oh := oh48i2x12, hk := [2], tk := [2, 0, 0, 0, 0, 0, 0, 0, 0, 0, 2, 0, 2, 2, 2], ot_to := fun _ _ => rfl, oh_to := fun _ _ => rfl }
/-- (*orchard/wire.Writer).put -/
def F48i2 (N : Nat) (l : List (List (Int))) (b0 : Bool) : Option (Int × Bool × (List (Int))) :=
 ((F42i2 N b0).bind fun r1 =>
 (bif r1.1 then
 (some (2, r1.2, []))
 else
 (iter N (fun (s2 : S48i2x5) next3 =>
 (bif (decide (s2.t19 < ((l).length : Int))) then
 (bif (ibB s2.t19 ((l).length : Int)) then
 (bif (decide ((IntKind.i64.wrap (1048576 - s2.n)) < (((lget l s2.t19 default)).length : Int))) then
 (some (3, r1.2, []))
 else
 (next3 ⟨(IntKind.i64.wrap (s2.n + (((lget l s2.t19 default)).length : Int))), (IntKind.i64.wrap (s2.t19 + 1))⟩))
 else none)
 else
 (iter N (fun (s4 : S48i2x12) next5 =>
 (bif (decide (s4.t35 < ((l).length : Int))) then
 (bif (ibB s4.t35 ((l).length : Int)) then
 (bif (lenB ((s4.b02).length + ((lget l s4.t35 default)).length) 1) then
 (next5 ⟨(IntKind.i64.wrap (s4.t35 + 1)), s4.b0, (s4.b02 ++ (lget l s4.t35 default))⟩)
 else none)
 else none)
 else
 (some (0, s4.b0, s4.b02)))) ⟨0, r1.2, []⟩))) ⟨0, 0⟩)))
def con48i2 : Con τ := { args := [.ptr 0 [], .ty 22], L := [.box (.agg [.ty 4, .nil .slice])], ret := .ty 34, L' := [.box (.agg [.ty 4, .own 5 1]), .tail], R := Int × Bool × (List (Int)), dflt := (default, default, default), F := fun N a b => F48i2 N a.2.1 b.1.1, of := fun r => (r.1, ((r.2.1, r.2.2, ()), (), ())) }
noncomputable def dat48i2 : Dat τ := { D := D0, tbl := tblOf [(42, con42i2)], lp := lpsOf [(5, lp48i2x5), (12, lp48i2x12)], k0 := 1, mu := [], un := [] }
theorem ok48i2 : ConOk E C 48 con48i2 :=
  con_ok (D := dat48i2) ⟨d0Ok, eGood, tblOf_ok (l := [(42, con42i2)]) ⟨ok42i2, trivial⟩⟩ con48i2 (fun a b => (a, b.1.1, b.1.2.1)) none (fun _ _ => rfl) rfl (fun _ _ h => nomatch h) 1000000 (fn := Try.f48) Try.func48 rfl (by kernel_rfl) (by kernel_rfl) rfl (by intro N a b; kernel_rfl)

/-- (*orchard/wire.Writer).Int -/
def F31i2 (N : Nat) (n : Int) (b0 : Bool) : Option (Int × Bool × (List (Int))) :=
 ((F49 N n).bind fun r1 =>
 ((F48i2 N [r1] b0).bind fun r2 =>
 (some (r2.1, r2.2.1, r2.2.2))))
def con31i2 : Con τ := { args := [.ptr 0 [], .ty 2], L := [.box (.agg [.ty 4, .nil .slice])], ret := .ty 34, L' := [.box (.agg [.ty 4, .own 5 1]), .tail], R := Int × Bool × (List (Int)), dflt := (default, default, default), F := fun N a b => F31i2 N a.2.1 b.1.1, of := fun r => (r.1, ((r.2.1, r.2.2, ()), (), ())) }
noncomputable def dat31i2 : Dat τ := { D := D0, tbl := tblOf [(49, con49), (48, con48i2)], lp := lpsOf [], k0 := 1, mu := [], un := [] }
theorem ok31i2 : ConOk E C 31 con31i2 :=
  con_ok (D := dat31i2) ⟨d0Ok, eGood, tblOf_ok (l := [(49, con49), (48, con48i2)]) ⟨ok49, ⟨ok48i2, trivial⟩⟩⟩ con31i2 (fun a b => (a, b.1.1, b.1.2.1)) none (fun _ _ => rfl) rfl (fun _ _ h => nomatch h) 1000000 (fn := Try.f31) Try.func31 rfl (by kernel_rfl) (by kernel_rfl) rfl (by intro N a b; kernel_rfl)

/-- (*orchard/wire.Reader).none -/
def F44i1 (N : Nat)  : Option (Bool) :=
 (some true)
def con44i1 : Con τ := { args := [.nil .ptr], L := [], ret := .ty 4, L' := [], R := Bool, dflt := default, F := fun N a b => F44i1 N , of := fun r => (r, ()) }
noncomputable def dat44i1 : Dat τ := { D := D0, tbl := tblOf [], lp := lpsOf [], k0 := 0, mu := [], un := [] }
theorem ok44i1 : ConOk E C 44 con44i1 :=
  con_ok (D := dat44i1) ⟨d0Ok, eGood, tblOf_ok (l := []) trivial⟩ con44i1 (fun a b => a) none (fun _ _ => rfl) rfl (fun _ _ h => nomatch h) 1000000 (fn := Try.f44) Try.func44 rfl (by kernel_rfl) (by kernel_rfl) rfl (by intro N a b; kernel_rfl)

/-- (*orchard/wire.Reader).Int -/
def F22i1 (N : Nat)  : Option (Int × Int) :=
 (some (0, 2))
def con22i1 : Con τ := { args := [.nil .ptr], L := [], ret := .tup [.ty 2, .ty 34], L' := [], R := Int × Int, dflt := (default, default), F := fun N a b => F22i1 N , of := fun r => ((r.1, r.2, ()), ()) }
noncomputable def dat22i1 : Dat τ := { D := D0, tbl := tblOf [(44, con44i1)], lp := lpsOf [], k0 := 0, mu := [], un := [] }
theorem ok22i1 : ConOk E C 22 con22i1 :=
  con_ok (D := dat22i1) ⟨d0Ok, eGood, tblOf_ok (l := [(44, con44i1)]) ⟨ok44i1, trivial⟩⟩ con22i1 (fun a b => (a.1, a.2.1)) none (fun _ _ => rfl) rfl (fun _ _ h => nomatch h) 1000000 (fn := Try.f22) Try.func22 rfl (by kernel_rfl) (by kernel_rfl) rfl (by intro N a b; kernel_rfl)

/-- (*orchard/wire.Reader).Bytes -/
def F23i1 (N : Nat)  : Option ((List (Int)) × Int) :=
 (some ([], 2))
def con23i1 : Con τ := { args := [.nil .ptr], L := [], ret := .tup [.ty 23, .ty 34], L' := [], R := (List (Int)) × Int, dflt := (default, default), F := fun N a b => F23i1 N , of := fun r => ((r.1, r.2, ()), ()) }
noncomputable def dat23i1 : Dat τ := { D := D0, tbl := tblOf [(44, con44i1)], lp := lpsOf [], k0 := 0, mu := [], un := [] }
theorem ok23i1 : ConOk E C 23 con23i1 :=
  con_ok (D := dat23i1) ⟨d0Ok, eGood, tblOf_ok (l := [(44, con44i1)]) ⟨ok44i1, trivial⟩⟩ con23i1 (fun a b => (a.1, a.2.1)) none (fun _ _ => rfl) rfl (fun _ _ h => nomatch h) 1000000 (fn := Try.f23) Try.func23 rfl (by kernel_rfl) (by kernel_rfl) rfl (by intro N a b; kernel_rfl)

/-- (*orchard/wire.Reader).Text -/
def F27i1 (N : Nat)  : Option ((List UInt8) × Int) :=
 ((F23i1 N).bind fun r1 =>
 (some ((strI r1.1), r1.2)))
def con27i1 : Con τ := { args := [.nil .ptr], L := [], ret := .tup [.ty 9, .ty 34], L' := [], R := (List UInt8) × Int, dflt := (default, default), F := fun N a b => F27i1 N , of := fun r => ((r.1, r.2, ()), ()) }
noncomputable def dat27i1 : Dat τ := { D := D0, tbl := tblOf [(23, con23i1)], lp := lpsOf [], k0 := 0, mu := [], un := [] }
theorem ok27i1 : ConOk E C 27 con27i1 :=
  con_ok (D := dat27i1) ⟨d0Ok, eGood, tblOf_ok (l := [(23, con23i1)]) ⟨ok23i1, trivial⟩⟩ con27i1 (fun a b => (a.1, a.2.1)) none (fun _ _ => rfl) rfl (fun _ _ h => nomatch h) 1000000 (fn := Try.f27) Try.func27 rfl (by kernel_rfl) (by kernel_rfl) rfl (by intro N a b; kernel_rfl)

/-- (*orchard/wire.Reader).Flag -/
def F24i1 (N : Nat)  : Option (Bool × Int) :=
 (some (false, 2))
def con24i1 : Con τ := { args := [.nil .ptr], L := [], ret := .tup [.ty 4, .ty 34], L' := [], R := Bool × Int, dflt := (default, default), F := fun N a b => F24i1 N , of := fun r => ((r.1, r.2, ()), ()) }
noncomputable def dat24i1 : Dat τ := { D := D0, tbl := tblOf [(44, con44i1)], lp := lpsOf [], k0 := 0, mu := [], un := [] }
theorem ok24i1 : ConOk E C 24 con24i1 :=
  con_ok (D := dat24i1) ⟨d0Ok, eGood, tblOf_ok (l := [(44, con44i1)]) ⟨ok44i1, trivial⟩⟩ con24i1 (fun a b => (a.1, a.2.1)) none (fun _ _ => rfl) rfl (fun _ _ h => nomatch h) 1000000 (fn := Try.f24) Try.func24 rfl (by kernel_rfl) (by kernel_rfl) rfl (by intro N a b; kernel_rfl)

/-- (*orchard/wire.Reader).Left -/
def F29i1 (N : Nat)  : Option (Int) :=
 (some 0)
def con29i1 : Con τ := { args := [.nil .ptr], L := [], ret := .ty 3, L' := [], R := Int, dflt := default, F := fun N a b => F29i1 N , of := fun r => (r, ()) }
noncomputable def dat29i1 : Dat τ := { D := D0, tbl := tblOf [(44, con44i1)], lp := lpsOf [], k0 := 0, mu := [], un := [] }
theorem ok29i1 : ConOk E C 29 con29i1 :=
  con_ok (D := dat29i1) ⟨d0Ok, eGood, tblOf_ok (l := [(44, con44i1)]) ⟨ok44i1, trivial⟩⟩ con29i1 (fun a b => a) none (fun _ _ => rfl) rfl (fun _ _ h => nomatch h) 1000000 (fn := Try.f29) Try.func29 rfl (by kernel_rfl) (by kernel_rfl) rfl (by intro N a b; kernel_rfl)

/-- (*orchard/wire.Reader).End -/
def F30i1 (N : Nat)  : Option (Int) :=
 (some 2)
def con30i1 : Con τ := { args := [.nil .ptr], L := [], ret := .ty 34, L' := [], R := Int, dflt := default, F := fun N a b => F30i1 N , of := fun r => (r, ()) }
noncomputable def dat30i1 : Dat τ := { D := D0, tbl := tblOf [(44, con44i1)], lp := lpsOf [], k0 := 0, mu := [], un := [] }
theorem ok30i1 : ConOk E C 30 con30i1 :=
  con_ok (D := dat30i1) ⟨d0Ok, eGood, tblOf_ok (l := [(44, con44i1)]) ⟨ok44i1, trivial⟩⟩ con30i1 (fun a b => a) none (fun _ _ => rfl) rfl (fun _ _ h => nomatch h) 1000000 (fn := Try.f30) Try.func30 rfl (by kernel_rfl) (by kernel_rfl) rfl (by intro N a b; kernel_rfl)

/-- orchard/orchardlaw01.WireNone -/
def F10 (N : Nat) (n : Int) (b : List (Int)) : Option (Bool) :=
 ((F31i1 N n).bind fun r1 =>
 ((bif (!(!(r1 == 2))) then F32i1 N b else some default).bind fun r2 =>
 ((bif (!((!(r1 == 2)) || (!(r2 == 2)))) then F37i1 N [97] else some default).bind fun r3 =>
 ((bif (!(((!(r1 == 2)) || (!(r2 == 2))) || (!(r3 == 2)))) then F33i1 N true else some default).bind fun r4 =>
 ((bif (!((((!(r1 == 2)) || (!(r2 == 2))) || (!(r3 == 2))) || (!(r4 == 2)))) then F18i1 N else some default).bind fun r5 =>
 ((bif (!(((((!(r1 == 2)) || (!(r2 == 2))) || (!(r3 == 2))) || (!(r4 == 2))) || (!(r5 == 0)))) then F20i1 N else some default).bind fun r6 =>
 (bif ((((((!(r1 == 2)) || (!(r2 == 2))) || (!(r3 == 2))) || (!(r4 == 2))) || (!(r5 == 0))) || (!(((r6).length : Int) == 0))) then
 (some false)
 else
 ((F31i2 N n false).bind fun r7 =>
 (bif (!(!(r7.1 == 2))) then
 ((F32 N b r7.2.1 r7.2.2).bind fun r8 =>
 (bif (!((!(r7.1 == 2)) || (!(r8.1 == 2)))) then
 ((F37 N [97] r8.2.1 r8.2.2).bind fun r9 =>
 (bif (!(((!(r7.1 == 2)) || (!(r8.1 == 2))) || (!(r9.1 == 2)))) then
 ((F33 N true r9.2.1 r9.2.2).bind fun r10 =>
 (bif (!((((!(r7.1 == 2)) || (!(r8.1 == 2))) || (!(r9.1 == 2))) || (!(r10.1 == 2)))) then
 ((F18 N r10.2.1 r10.2.2).bind fun r11 =>
 (bif (!(((((!(r7.1 == 2)) || (!(r8.1 == 2))) || (!(r9.1 == 2))) || (!(r10.1 == 2))) || (!(r11.1 == 0)))) then
 ((F20 N r11.2.1 r11.2.2).bind fun r12 =>
 (bif ((((((!(r7.1 == 2)) || (!(r8.1 == 2))) || (!(r9.1 == 2))) || (!(r10.1 == 2))) || (!(r11.1 == 0))) || (!(((r12.1).length : Int) == 0))) then
 (some false)
 else
 ((F23i1 N).bind fun r13 =>
 ((F27i1 N).bind fun r14 =>
 ((bif (!(((((((!(((r13.1).length : Int) == 0)) || (!(r14.1 == []))) && true) && true) || (!(r13.2 == 2))) || (!(r14.2 == 2))) && true)) then F29i1 N else some default).bind fun r15 =>
 ((bif (!((((((((!(((r13.1).length : Int) == 0)) || (!(r14.1 == []))) && true) && true) || (!(r13.2 == 2))) || (!(r14.2 == 2))) && true) || (!(r15 == 0)))) then F30i1 N else some default).bind fun r16 =>
 (bif (((((((((!(((r13.1).length : Int) == 0)) || (!(r14.1 == []))) && true) && true) || (!(r13.2 == 2))) || (!(r14.2 == 2))) && true) || (!(r15 == 0))) || (!(r16 == 2))) then
 (some false)
 else
 ((F22 N (⟨false, []⟩ : Gwire_Writer)).bind fun r17 =>
 ((F23 N r17.2.2).bind fun r18 =>
 ((F27 N r18.2.2).bind fun r19 =>
 ((F24 N r19.2.2).bind fun r20 =>
 (bif (!((((((((!(r17.1 == 0)) || (!(((r18.1).length : Int) == 0))) || (!(r19.1 == []))) || r20.1) || (!(r17.2.1 == 2))) || (!(r18.2.1 == 2))) || (!(r19.2.1 == 2))) || (!(r20.2.1 == 2)))) then
 ((F29 N r20.2.2).bind fun r21 =>
 (bif (!(((((((((!(r17.1 == 0)) || (!(((r18.1).length : Int) == 0))) || (!(r19.1 == []))) || r20.1) || (!(r17.2.1 == 2))) || (!(r18.2.1 == 2))) || (!(r19.2.1 == 2))) || (!(r20.2.1 == 2))) || (!(r21.1 == 0)))) then
 ((F30 N r21.2).bind fun r22 =>
 (bif ((((((((((!(r17.1 == 0)) || (!(((r18.1).length : Int) == 0))) || (!(r19.1 == []))) || r20.1) || (!(r17.2.1 == 2))) || (!(r18.2.1 == 2))) || (!(r19.2.1 == 2))) || (!(r20.2.1 == 2))) || (!(r21.1 == 0))) || (!(r22.1 == 2))) then
 (some false)
 else
 ((F13 N).bind fun r23 =>
 (some r23))))
 else
 (some false)))
 else
 (some false)))))))))))))
 else
 (some false)))
 else
 (some false)))
 else
 (some false)))
 else
 (some false)))
 else
 (some false))))))))))
def con10 : Con τ := { args := [.ty 2, .ty 23], L := [], ret := .ty 4, L' := [], R := Bool, dflt := default, F := fun N a b => F10 N a.1 a.2.1, of := fun r => (r, ()) }
noncomputable def dat10 : Dat τ := { D := D0, tbl := tblOf [(31, con31i1), (32, con32i1), (37, con37i1), (33, con33i1), (18, con18i1), (20, con20i1), (31, con31i2), (32, con32), (37, con37), (33, con33), (18, con18), (20, con20), (22, con22i1), (23, con23i1), (27, con27i1), (24, con24i1), (29, con29i1), (30, con30i1), (22, con22), (23, con23), (27, con27), (24, con24), (29, con29), (30, con30), (13, con13)], lp := lpsOf [], k0 := 0, mu := [], un := [(2, 4), (8, 4)] }
theorem ok10 : ConOk E C 10 con10 :=
  con_ok (D := dat10) ⟨d0Ok, eGood, tblOf_ok (l := [(31, con31i1), (32, con32i1), (37, con37i1), (33, con33i1), (18, con18i1), (20, con20i1), (31, con31i2), (32, con32), (37, con37), (33, con33), (18, con18), (20, con20), (22, con22i1), (23, con23i1), (27, con27i1), (24, con24i1), (29, con29i1), (30, con30i1), (22, con22), (23, con23), (27, con27), (24, con24), (29, con29), (30, con30), (13, con13)]) ⟨ok31i1, ⟨ok32i1, ⟨ok37i1, ⟨ok33i1, ⟨ok18i1, ⟨ok20i1, ⟨ok31i2, ⟨ok32, ⟨ok37, ⟨ok33, ⟨ok18, ⟨ok20, ⟨ok22i1, ⟨ok23i1, ⟨ok27i1, ⟨ok24i1, ⟨ok29i1, ⟨ok30i1, ⟨ok22, ⟨ok23, ⟨ok27, ⟨ok24, ⟨ok29, ⟨ok30, ⟨ok13, trivial⟩⟩⟩⟩⟩⟩⟩⟩⟩⟩⟩⟩⟩⟩⟩⟩⟩⟩⟩⟩⟩⟩⟩⟩⟩⟩ con10 (fun a b => a) none (fun _ _ => rfl) rfl (fun _ _ h => nomatch h) 1000000 (fn := Try.f10) Try.func10 rfl (by kernel_rfl) (by kernel_rfl) rfl (by intro N a b; kernel_rfl)

/-- orchard/wire.four -/
def F51 (N : Nat) (sum : Int) : Option ((List (Int))) :=
 (some [(IntKind.u8.wrap sum), (IntKind.u8.wrap (shr .u32 sum 8)), (IntKind.u8.wrap (shr .u32 sum 16)), (IntKind.u8.wrap (shr .u32 sum 24))])
def con51 : Con τ := { args := [.ty 25], L := [], ret := .ty 23, L' := [], R := (List (Int)), dflt := default, F := fun N a b => F51 N a.1, of := fun r => (r, ()) }
noncomputable def dat51 : Dat τ := { D := D0, tbl := tblOf [], lp := lpsOf [], k0 := 0, mu := [], un := [] }
theorem ok51 : ConOk E C 51 con51 :=
  con_ok (D := dat51) ⟨d0Ok, eGood, tblOf_ok (l := []) trivial⟩ con51 (fun a b => a) none (fun _ _ => rfl) rfl (fun _ _ h => nomatch h) 1000000 (fn := Try.f51) Try.func51 rfl (by kernel_rfl) (by kernel_rfl) rfl (by intro N a b; kernel_rfl)

/-- slices.Grow[[]byte,byte] -/
def F53 (N : Nat) (n : Int) : Option (Nat × (List (Int))) :=
 (bif (decide (n < 0)) then
 none
 else
 (bif (decide (0 < (IntKind.i64.wrap (n - 0)))) then
 (bif (mkB (IntKind.i64.wrap (n - 0)) 1) then
 (bif (cutB 0 0 ((((IntKind.i64.wrap (n - 0))).toNat : Nat) : Int)) then
 (some (0, (List.replicate (((IntKind.i64.wrap (n - 0))).toNat) 0)))
 else none)
 else none)
 else
 (some (0, []))))
def con53 : Con τ := { args := [.nil .slice, .ty 3], L := [], ret := .msl 5 0, L' := [.gbx 5], R := Nat × (List (Int)), dflt := (default, default), F := fun N a b => F53 N a.2.1, of := fun r => (r.1, (r.2, ())) }
noncomputable def dat53 : Dat τ := { D := D0, tbl := tblOf [], lp := lpsOf [], k0 := 0, mu := [22], un := [] }
theorem ok53 : ConOk E C 53 con53 :=
  con_ok (D := dat53) ⟨d0Ok, eGood, tblOf_ok (l := []) trivial⟩ con53 (fun a b => (a, b.1)) none (fun _ _ => rfl) rfl (fun _ _ h => nomatch h) 1000000 (fn := Try.f53) Try.func53 rfl (by kernel_rfl) (by kernel_rfl) rfl (by intro N a b; kernel_rfl)

structure S50x3 where
  size : Int
  t11 : Int
def ts50x3 : List Sl := [.keep, .keep, .keep, .sh (.ty 2), .keep, .junk, .keep, .keep, .keep, .keep, .keep, .sh (.ty 2), .junk, .junk, .junk, .junk, .junk, .junk, .junk, .junk, .junk, .junk, .junk, .keep, .keep, .keep, .keep, .keep, .keep, .keep, .keep, .keep, .keep, .keep, .keep, .keep]
def hs50x3 : List ESh := []
def to50x3 (a : Sl.Ts τ ts50x3) (b : ESh.Ts τ hs50x3) : S50x3 := ⟨a.2.2.2.1, a.2.2.2.2.2.2.2.2.2.2.2.1⟩
def ot50x3 (s : S50x3) : Sl.Ts τ ts50x3 := ((), (), (), s.size, (), (), (), (), (), (), (), s.t11, (), (), (), (), (), (), (), (), (), (), (), (), (), (), (), (), (), (), (), (), (), (), (), (), ())
def oh50x3 (s : S50x3) : ESh.Ts τ hs50x3 := ()
def lp50x3 : Lp τ := { ts := ts50x3, hs := hs50x3, S := S50x3, to := to50x3, ot := ot50x3, oh := oh50x3, hk := [], tk := [], ot_to := fun _ _ => rfl, oh_to := fun _ _ => rfl }
structure S50x11 where
  newslice : Nat
  t27 : Int
  g1 : List (Int)
def ts50x11 : List Sl := [.keep, .keep, .keep, .keep, .keep, .keep, .sh (.msl 5 1), .keep, .junk, .keep, .keep, .keep, .keep, .keep, .keep, .keep, .keep, .keep, .keep, .keep, .keep, .keep, .keep, .keep, .keep, .keep, .keep, .sh (.ty 2), .junk, .junk, .junk, .junk, .junk, .junk, .junk, .keep]
def hs50x11 : List ESh := [.dead, .gbx 5]
def to50x11 (a : Sl.Ts τ ts50x11) (b : ESh.Ts τ hs50x11) : S50x11 := ⟨a.2.2.2.2.2.2.1, a.2.2.2.2.2.2.2.2.2.2.2.2.2.2.2.2.2.2.2.2.2.2.2.2.2.2.2.1, b.2.1⟩
def ot50x11 (s : S50x11) : Sl.Ts τ ts50x11 := ((), (), (), (), (), (), s.newslice, (), (), (), (), (), (), (), (), (), (), (), (), (), (), (), (), (), (), (), (), s.t27, (), (), (), (), (), (), (), (), ())
def oh50x11 (s : S50x11) : ESh.Ts τ hs50x11 := ((), s.g1, ())
def lp50x11 : Lp τ := { ts := ts50x11, hs := hs50x11, S := S50x11, to := to50x11, ot := ot50x11, oh := oh50x11, hk := [4], tk := [], ot_to := fun _ _ => rfl, oh_to := fun _ _ => rfl }
/-- slices.Concat[[]byte,byte] -/
def F50 (N : Nat) (slices : List (List (Int))) : Option (Nat × (List (Int))) :=
 (iter N (fun (s1 : S50x3) next2 =>
 (bif (decide (s1.t11 < ((slices).length : Int))) then
 (bif (ibB s1.t11 ((slices).length : Int)) then
 (bif (decide ((IntKind.i64.wrap (s1.size + (((lget slices s1.t11 default)).length : Int))) < 0)) then
 none
 else
 (next2 ⟨(IntKind.i64.wrap (s1.size + (((lget slices s1.t11 default)).length : Int))), (IntKind.i64.wrap (s1.t11 + 1))⟩))
 else none)
 else
 ((F53 N s1.size).bind fun r3 =>
 (iter N (fun (s4 : S50x11) next5 =>
 (bif (decide (s4.t27 < ((slices).length : Int))) then
 (bif (ibB s4.t27 ((slices).length : Int)) then
 (bif ((lenB (s4.newslice + ((lget slices s4.t27 default)).length) 1) && (Nat.ble s4.newslice (s4.g1).length)) then
 (next5 ⟨(s4.newslice + ((lget slices s4.t27 default)).length), (IntKind.i64.wrap (s4.t27 + 1)), (s4.g1.take s4.newslice ++ (lget slices s4.t27 default))⟩)
 else none)
 else none)
 else
 (some (s4.newslice, s4.g1)))) ⟨r3.1, 0, r3.2⟩)))) ⟨0, 0⟩)
def con50 : Con τ := { args := [.ty 22], L := [], ret := .msl 5 0, L' := [.gbx 5], R := Nat × (List (Int)), dflt := (default, default), F := fun N a b => F50 N a.1, of := fun r => (r.1, (r.2, ())) }
noncomputable def dat50 : Dat τ := { D := D0, tbl := tblOf [(53, con53)], lp := lpsOf [(3, lp50x3), (11, lp50x11)], k0 := 0, mu := [33], un := [] }
theorem ok50 : ConOk E C 50 con50 :=
  con_ok (D := dat50) ⟨d0Ok, eGood, tblOf_ok (l := [(53, con53)]) ⟨ok53, trivial⟩⟩ con50 (fun a b => (a, b.1)) none (fun _ _ => rfl) rfl (fun _ _ h => nomatch h) 1000000 (fn := Try.f50) Try.func50 rfl (by kernel_rfl) (by kernel_rfl) rfl (by intro N a b; kernel_rfl)

/-- slices.Concat[[]byte,byte]: what it answers is fixed -/
def F50z (N : Nat) (slices : List (List (Int))) : Option ((List (Int))) := (F50 N slices).bind fun r => bif Nat.ble r.1 (r.2).length then some ((r.2).take r.1) else none
def con50z : Con τ := { args := [.ty 22], L := [], ret := .ty 23, L' := [.dead], R := (List (Int)), dflt := default, F := fun N a b => F50z N a.1, of := fun r => (r, ((), ())) }
theorem ok50z : ConOk E C 50 con50z := by
  intro N a b r h
  have h : (con50.F N a b).bind (fun r => bif Nat.ble r.1 (r.2).length then some ((r.2).take r.1) else none) = some r := h
  obtain ⟨q, h0, h1⟩ := Option.bind_eq_some_iff.1 h
  cases hb : Nat.ble q.1 (q.2).length with
  | false => rw [hb] at h1; cases h1
  | true =>
    rw [hb] at h1
    have h2 : (q.2).take q.1 = r := Option.some.inj h1
    subst h2
    exact FnSpec.msl (ents := [.gbx 5 q.2]) (id := 0) cOk (ok50 N a b q h0) rfl (Nat.le_of_ble_eq_true hb)

/-- orchard/wire.Frame -/
def F35 (N : Nat) (b : List (Int)) : Option ((List (Int)) × Int) :=
 (bif (decide (1048576 < ((b).length : Int))) then
 (some ([], 3))
 else
 ((F49 N ((b).length : Int)).bind fun r1 =>
 ((F14 N [b]).bind fun r2 =>
 ((F51 N r2).bind fun r3 =>
 ((F50z N [r1, b, r3]).bind fun r4 =>
 (some (r4, 0)))))))
def con35 : Con τ := { args := [.ty 23], L := [], ret := .tup [.ty 23, .ty 34], L' := [], R := (List (Int)) × Int, dflt := (default, default), F := fun N a b => F35 N a.1, of := fun r => ((r.1, r.2, ()), ()) }
noncomputable def dat35 : Dat τ := { D := D0, tbl := tblOf [(49, con49), (14, con14), (51, con51), (50, con50z)], lp := lpsOf [], k0 := 0, mu := [], un := [] }
theorem ok35 : ConOk E C 35 con35 :=
  con_ok (D := dat35) ⟨d0Ok, eGood, tblOf_ok (l := [(49, con49), (14, con14), (51, con51), (50, con50z)]) ⟨ok49, ⟨ok14, ⟨ok51, ⟨ok50z, trivial⟩⟩⟩⟩⟩ con35 (fun a b => (a.1, a.2.1)) none (fun _ _ => rfl) rfl (fun _ _ h => nomatch h) 1000000 (fn := Try.f35) Try.func35 rfl (by kernel_rfl) (by kernel_rfl) rfl (by intro N a b; kernel_rfl)

/-- orchard/orchardref01.Frame -/
def F38 (N : Nat) (b : List (Int)) : Option ((List (Int)) × Int) :=
 (bif (decide (1048576 < ((b).length : Int))) then
 (some ([], 3))
 else
 ((F15 N b).bind fun r1 =>
 ((F36 N b).bind fun r2 =>
 (bif (lenB ((r2).length + ([(IntKind.u8.wrap r1), (IntKind.u8.wrap (shr .u32 r1 8)), (IntKind.u8.wrap (shr .u32 r1 16)), (IntKind.u8.wrap (shr .u32 r1 24))]).length) 1) then
 (some ((r2 ++ [(IntKind.u8.wrap r1), (IntKind.u8.wrap (shr .u32 r1 8)), (IntKind.u8.wrap (shr .u32 r1 16)), (IntKind.u8.wrap (shr .u32 r1 24))]), 0))
 else none))))
def con38 : Con τ := { args := [.ty 23], L := [], ret := .tup [.ty 23, .ty 34], L' := [], R := (List (Int)) × Int, dflt := (default, default), F := fun N a b => F38 N a.1, of := fun r => ((r.1, r.2, ()), ()) }
noncomputable def dat38 : Dat τ := { D := D0, tbl := tblOf [(15, con15), (36, con36)], lp := lpsOf [], k0 := 0, mu := [], un := [] }
theorem ok38 : ConOk E C 38 con38 :=
  con_ok (D := dat38) ⟨d0Ok, eGood, tblOf_ok (l := [(15, con15), (36, con36)]) ⟨ok15, ⟨ok36, trivial⟩⟩⟩ con38 (fun a b => (a.1, a.2.1)) none (fun _ _ => rfl) rfl (fun _ _ h => nomatch h) 1000000 (fn := Try.f38) Try.func38 rfl (by kernel_rfl) (by kernel_rfl) rfl (by intro N a b; kernel_rfl)

structure S52x4 where
  t13 : Int
def ts52x4 : List Sl := [.keep, .keep, .keep, .keep, .junk, .junk, .keep, .keep, .keep, .keep, .keep, .keep, .keep, .sh (.ty 2), .junk, .junk, .junk, .junk, .junk, .junk, .junk, .junk, .junk, .junk, .junk, .junk]
def hs52x4 : List ESh := []
def to52x4 (a : Sl.Ts τ ts52x4) (b : ESh.Ts τ hs52x4) : S52x4 := ⟨a.2.2.2.2.2.2.2.2.2.2.2.2.2.1⟩
def ot52x4 (s : S52x4) : Sl.Ts τ ts52x4 := ((), (), (), (), (), (), (), (), (), (), (), (), (), s.t13, (), (), (), (), (), (), (), (), (), (), (), (), ())
def oh52x4 (s : S52x4) : ESh.Ts τ hs52x4 := ()
def lp52x4 : Lp τ := { ts := ts52x4, hs := hs52x4, S := S52x4, to := to52x4, ot := ot52x4, oh := oh52x4, hk := [], tk := [], ot_to := fun _ _ => rfl, oh_to := fun _ _ => rfl }
/-- slices.Equal[[]byte,byte] -/
def F52 (N : Nat) (s1_ : List (Int)) (s2_ : List (Int)) : Option (Bool) :=
 (bif (!(((s1_).length : Int) == ((s2_).length : Int))) then
 (some false)
 else
 (iter N (fun (s1 : S52x4) next2 =>
 (bif (decide (s1.t13 < ((s1_).length : Int))) then
 (bif (ibB s1.t13 ((s1_).length : Int)) then
 (bif (ibB s1.t13 ((s2_).length : Int)) then
 (bif (!((lget s1_ s1.t13 default) == (lget s2_ s1.t13 default))) then
 (some false)
 else
 (next2 ⟨(IntKind.i64.wrap (s1.t13 + 1))⟩))
 else none)
 else none)
 else
 (some true))) ⟨0⟩))
def con52 : Con τ := { args := [.ty 23, .ty 23], L := [], ret := .ty 4, L' := [], R := Bool, dflt := default, F := fun N a b => F52 N a.1 a.2.1, of := fun r => (r, ()) }
noncomputable def dat52 : Dat τ := { D := D0, tbl := tblOf [], lp := lpsOf [(4, lp52x4)], k0 := 0, mu := [], un := [] }
theorem ok52 : ConOk E C 52 con52 :=
  con_ok (D := dat52) ⟨d0Ok, eGood, tblOf_ok (l := []) trivial⟩ con52 (fun a b => a) none (fun _ _ => rfl) rfl (fun _ _ h => nomatch h) 1000000 (fn := Try.f52) Try.func52 rfl (by kernel_rfl) (by kernel_rfl) rfl (by intro N a b; kernel_rfl)

/-- orchard/wire.Unframe -/
def F39 (N : Nat) (b : List (Int)) : Option ((List (Int)) × Int × Int) :=
 ((F45 N b).bind fun r1 =>
 (bif (!(r1.2.2 == 0)) then
 (some ([], 0, r1.2.2))
 else
 (bif (decide (r1.1 < 0)) then
 (some ([], 0, 11))
 else
 (bif (decide (1048576 < r1.1)) then
 (some ([], 0, 3))
 else
 (bif (decide ((IntKind.i64.wrap (((b).length : Int) - r1.2.1)) < (IntKind.i64.wrap (r1.1 + 4)))) then
 (some ([], 0, 10))
 else
 (bif (cutB (IntKind.i64.wrap (r1.2.1 + r1.1)) (IntKind.i64.wrap ((IntKind.i64.wrap (r1.2.1 + r1.1)) + 4)) ((b).length : Int)) then
 (bif (cutB r1.2.1 (IntKind.i64.wrap (r1.2.1 + r1.1)) ((b).length : Int)) then
 ((F14 N [(cut b r1.2.1 (IntKind.i64.wrap (r1.2.1 + r1.1)))]).bind fun r2 =>
 ((F51 N r2).bind fun r3 =>
 ((F52 N (cut b (IntKind.i64.wrap (r1.2.1 + r1.1)) (IntKind.i64.wrap ((IntKind.i64.wrap (r1.2.1 + r1.1)) + 4))) r3).bind fun r4 =>
 (bif (!r4) then
 (some ([], 0, 12))
 else
 (bif (cutB r1.2.1 (IntKind.i64.wrap (r1.2.1 + r1.1)) ((b).length : Int)) then
 ((F43 N (cut b r1.2.1 (IntKind.i64.wrap (r1.2.1 + r1.1)))).bind fun r5 =>
 (some (r5, (IntKind.i64.wrap ((IntKind.i64.wrap (r1.2.1 + r1.1)) + 4)), 0)))
 else none)))))
 else none)
 else none))))))
def con39 : Con τ := { args := [.ty 23], L := [], ret := .tup [.ty 23, .ty 3, .ty 34], L' := [], R := (List (Int)) × Int × Int, dflt := (default, default, default), F := fun N a b => F39 N a.1, of := fun r => ((r.1, r.2.1, r.2.2, ()), ()) }
noncomputable def dat39 : Dat τ := { D := D0, tbl := tblOf [(45, con45), (14, con14), (51, con51), (52, con52), (43, con43)], lp := lpsOf [], k0 := 0, mu := [], un := [] }
theorem ok39 : ConOk E C 39 con39 :=
  con_ok (D := dat39) ⟨d0Ok, eGood, tblOf_ok (l := [(45, con45), (14, con14), (51, con51), (52, con52), (43, con43)]) ⟨ok45, ⟨ok14, ⟨ok51, ⟨ok52, ⟨ok43, trivial⟩⟩⟩⟩⟩⟩ con39 (fun a b => (a.1, a.2.1, a.2.2.1)) none (fun _ _ => rfl) rfl (fun _ _ h => nomatch h) 1000000 (fn := Try.f39) Try.func39 rfl (by kernel_rfl) (by kernel_rfl) rfl (by intro N a b; kernel_rfl)

/-- orchard/orchardref01.Unframe -/
def F40 (N : Nat) (b : List (Int)) : Option ((List (Int)) × Int × Int) :=
 ((F46 N b).bind fun r1 =>
 (bif (!(r1.2.2 == 0)) then
 (some ([], 0, r1.2.2))
 else
 (bif (decide (r1.1 < 0)) then
 (some ([], 0, 11))
 else
 (bif (decide (1048576 < r1.1)) then
 (some ([], 0, 3))
 else
 (bif (decide ((IntKind.i64.wrap (((b).length : Int) - r1.2.1)) < (IntKind.i64.wrap (r1.1 + 4)))) then
 (some ([], 0, 10))
 else
 (bif (cutB r1.2.1 (IntKind.i64.wrap ((IntKind.i64.wrap ((IntKind.i64.wrap (r1.2.1 + r1.1)) + 4)) - 4)) ((b).length : Int)) then
 (bif (lenB (((cut b r1.2.1 (IntKind.i64.wrap ((IntKind.i64.wrap ((IntKind.i64.wrap (r1.2.1 + r1.1)) + 4)) - 4)))).length) 1) then
 ((F15 N (cut b r1.2.1 (IntKind.i64.wrap ((IntKind.i64.wrap ((IntKind.i64.wrap (r1.2.1 + r1.1)) + 4)) - 4)))).bind fun r2 =>
 (bif (ibB (IntKind.i64.wrap ((IntKind.i64.wrap ((IntKind.i64.wrap (r1.2.1 + r1.1)) + 4)) - 4)) ((b).length : Int)) then
 (bif (!(!(!((lget b (IntKind.i64.wrap ((IntKind.i64.wrap ((IntKind.i64.wrap (r1.2.1 + r1.1)) + 4)) - 4)) default) == (IntKind.u8.wrap r2)))) || (ibB (IntKind.i64.wrap ((IntKind.i64.wrap ((IntKind.i64.wrap (r1.2.1 + r1.1)) + 4)) - 3)) ((b).length : Int))) then
 (bif (!(!(!((lget b (IntKind.i64.wrap ((IntKind.i64.wrap ((IntKind.i64.wrap (r1.2.1 + r1.1)) + 4)) - 4)) default) == (IntKind.u8.wrap r2)))) || true) then
 (bif (!(!((!((lget b (IntKind.i64.wrap ((IntKind.i64.wrap ((IntKind.i64.wrap (r1.2.1 + r1.1)) + 4)) - 4)) default) == (IntKind.u8.wrap r2))) || (!((lget b (IntKind.i64.wrap ((IntKind.i64.wrap ((IntKind.i64.wrap (r1.2.1 + r1.1)) + 4)) - 3)) default) == (IntKind.u8.wrap (shr .u32 r2 8)))))) || (ibB (IntKind.i64.wrap ((IntKind.i64.wrap ((IntKind.i64.wrap (r1.2.1 + r1.1)) + 4)) - 2)) ((b).length : Int))) then
 (bif (!(!((!((lget b (IntKind.i64.wrap ((IntKind.i64.wrap ((IntKind.i64.wrap (r1.2.1 + r1.1)) + 4)) - 4)) default) == (IntKind.u8.wrap r2))) || (!((lget b (IntKind.i64.wrap ((IntKind.i64.wrap ((IntKind.i64.wrap (r1.2.1 + r1.1)) + 4)) - 3)) default) == (IntKind.u8.wrap (shr .u32 r2 8)))))) || true) then
 (bif (!(!(((!((lget b (IntKind.i64.wrap ((IntKind.i64.wrap ((IntKind.i64.wrap (r1.2.1 + r1.1)) + 4)) - 4)) default) == (IntKind.u8.wrap r2))) || (!((lget b (IntKind.i64.wrap ((IntKind.i64.wrap ((IntKind.i64.wrap (r1.2.1 + r1.1)) + 4)) - 3)) default) == (IntKind.u8.wrap (shr .u32 r2 8))))) || (!((lget b (IntKind.i64.wrap ((IntKind.i64.wrap ((IntKind.i64.wrap (r1.2.1 + r1.1)) + 4)) - 2)) default) == (IntKind.u8.wrap (shr .u32 r2 16)))))) || (ibB (IntKind.i64.wrap ((IntKind.i64.wrap ((IntKind.i64.wrap (r1.2.1 + r1.1)) + 4)) - 1)) ((b).length : Int))) then
 (bif (!(!(((!((lget b (IntKind.i64.wrap ((IntKind.i64.wrap ((IntKind.i64.wrap (r1.2.1 + r1.1)) + 4)) - 4)) default) == (IntKind.u8.wrap r2))) || (!((lget b (IntKind.i64.wrap ((IntKind.i64.wrap ((IntKind.i64.wrap (r1.2.1 + r1.1)) + 4)) - 3)) default) == (IntKind.u8.wrap (shr .u32 r2 8))))) || (!((lget b (IntKind.i64.wrap ((IntKind.i64.wrap ((IntKind.i64.wrap (r1.2.1 + r1.1)) + 4)) - 2)) default) == (IntKind.u8.wrap (shr .u32 r2 16)))))) || true) then
 (bif ((((!((lget b (IntKind.i64.wrap ((IntKind.i64.wrap ((IntKind.i64.wrap (r1.2.1 + r1.1)) + 4)) - 4)) default) == (IntKind.u8.wrap r2))) || (!((lget b (IntKind.i64.wrap ((IntKind.i64.wrap ((IntKind.i64.wrap (r1.2.1 + r1.1)) + 4)) - 3)) default) == (IntKind.u8.wrap (shr .u32 r2 8))))) || (!((lget b (IntKind.i64.wrap ((IntKind.i64.wrap ((IntKind.i64.wrap (r1.2.1 + r1.1)) + 4)) - 2)) default) == (IntKind.u8.wrap (shr .u32 r2 16))))) || (!((lget b (IntKind.i64.wrap ((IntKind.i64.wrap ((IntKind.i64.wrap (r1.2.1 + r1.1)) + 4)) - 1)) default) == (IntKind.u8.wrap (shr .u32 r2 24))))) then
 (some ([], 0, 12))
 else
 (some ((cut b r1.2.1 (IntKind.i64.wrap ((IntKind.i64.wrap ((IntKind.i64.wrap (r1.2.1 + r1.1)) + 4)) - 4))), (IntKind.i64.wrap ((IntKind.i64.wrap (r1.2.1 + r1.1)) + 4)), 0)))
 else none)
 else none)
 else none)
 else none)
 else none)
 else none)
 else none))
 else none)
 else none))))))
def con40 : Con τ := { args := [.ty 23], L := [], ret := .tup [.ty 23, .ty 3, .ty 34], L' := [], R := (List (Int)) × Int × Int, dflt := (default, default, default), F := fun N a b => F40 N a.1, of := fun r => ((r.1, r.2.1, r.2.2, ()), ()) }
noncomputable def dat40 : Dat τ := { D := D0, tbl := tblOf [(46, con46), (15, con15)], lp := lpsOf [], k0 := 0, mu := [], un := [] }
theorem ok40 : ConOk E C 40 con40 :=
  con_ok (D := dat40) ⟨d0Ok, eGood, tblOf_ok (l := [(46, con46), (15, con15)]) ⟨ok46, ⟨ok15, trivial⟩⟩⟩ con40 (fun a b => (a.1, a.2.1, a.2.2.1)) none (fun _ _ => rfl) rfl (fun _ _ h => nomatch h) 1000000 (fn := Try.f40) Try.func40 rfl (by kernel_rfl) (by kernel_rfl) rfl (by intro N a b; kernel_rfl)

/-- orchard/orchardlaw01.WireFrames -/
def F11 (N : Nat) (b : List (Int)) : Option (Bool) :=
 ((F35 N b).bind fun r1 =>
 ((F38 N b).bind fun r2 =>
 ((F39 N b).bind fun r3 =>
 ((F40 N b).bind fun r4 =>
 ((F13 N).bind fun r5 =>
 ((bif r5 then F19 N r1.1 r2.1 else some default).bind fun r6 =>
 ((bif ((r5 && r6) && (r1.2 == r2.2)) then F19 N r3.1 r4.1 else some default).bind fun r7 =>
 (some (((((r5 && r6) && (r1.2 == r2.2)) && r7) && (r3.2.1 == r4.2.1)) && (r3.2.2 == r4.2.2))))))))))
def con11 : Con τ := { args := [.ty 23], L := [], ret := .ty 4, L' := [], R := Bool, dflt := default, F := fun N a b => F11 N a.1, of := fun r => (r, ()) }
noncomputable def dat11 : Dat τ := { D := D0, tbl := tblOf [(35, con35), (38, con38), (39, con39), (40, con40), (13, con13), (19, con19)], lp := lpsOf [], k0 := 0, mu := [], un := [] }
theorem ok11 : ConOk E C 11 con11 :=
  con_ok (D := dat11) ⟨d0Ok, eGood, tblOf_ok (l := [(35, con35), (38, con38), (39, con39), (40, con40), (13, con13), (19, con19)]) ⟨ok35, ⟨ok38, ⟨ok39, ⟨ok40, ⟨ok13, ⟨ok19, trivial⟩⟩⟩⟩⟩⟩⟩ con11 (fun a b => a) none (fun _ _ => rfl) rfl (fun _ _ h => nomatch h) 1000000 (fn := Try.f11) Try.func11 rfl (by kernel_rfl) (by kernel_rfl) rfl (by intro N a b; kernel_rfl)

end Go.Proofs.Yticlnhhaaidmaaa
