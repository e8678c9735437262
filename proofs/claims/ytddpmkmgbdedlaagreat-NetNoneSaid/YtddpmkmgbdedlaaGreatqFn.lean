/-
The functions of this seat, as plain functions over typed data, each with its contract. Printed by wip/tools/fngen.py.
-/
import Derived.Test.YtddpmkmgbdedlaaGreatqFna
import Derived.Test.YtddpmkmgbdedlaaGreatqTvX
import Derived.KernelRfl
set_option linter.unusedVariables false
set_option maxRecDepth 100000
namespace Go.Proofs.YtddpmkmgbdedlaaGreat
open Go Go.Ev
def zbt (N : Nat) (b0 : Int) (b1 : zv) (b2 : z4) : Option (Int × zv × z4) :=
 ((zf N b0 b2).bind fun r1 =>
 (some (r1.2.1, (⟨r1.1, b1.Ballot, b1.Entry⟩ : zv), r1.2.2)))
def z65 : Con τ := { args := [.ptr 0 [], .ls 1 [.ptr 1 [.fld 0 0]]], L := [.box (.agg [.ptr 2 [], .ty 48]), .box (.ty 155), .box (.ty 186)], ret := .tup [], L' := [.box (.agg [.ptr 2 [], .ty 48]), .box (.ty 155), .box (.ty 186)], R := Int × zv × z4, dflt := (default, default, default), F := fun N a b => zbt N b.1.2.1 b.2.1 b.2.2.1, of := fun r => ((), (((), r.1, ()), r.2.1, r.2.2, ())) }
noncomputable def zjh : Dat τ := { D := D0, tbl := tblOf [(172, zb)], lp := lpsOf [], k0 := 3, mu := [], un := [(1, 3)] }
theorem zkw : ConOk E C 148 z65 :=
  z9 (D := zjh) ⟨d0Ok, eGood, z7 ⟨zi, trivial⟩, fun _ => rfl⟩ z65 (fun a b => (b.1.2.1, b.2.1, b.2.2.1)) none (fun _ _ => rfl) rfl (fun _ _ h => nomatch h) 1000000 (fn := Tryz.f148) Tryz.func148 rfl (by kernel_rfl) (by kernel_rfl) rfl (by intro N a b; kernel_rfl)
def za3 (N : Nat) (b0 : Int) (b1 : zd) (b2 : z4) : Option (Int × zd × z4) :=
 ((zc N b0 b2).bind fun r1 =>
 (some (r1.2.1, (⟨r1.1, b1.Session, b1.Request, b1.Op, b1.Origin, b1.Seq, b1.Ops, b1.Epoch, b1.From, b1.Vector_, b1.Clock, b1.Part, b1.Site, b1.Sponsor, b1.Length⟩ : zd), r1.2.2)))
def z4t : Con τ := { args := [.ptr 0 [], .ls 1 [.ptr 1 [.fld 0 0]]], L := [.box (.agg [.ptr 2 [], .ty 48]), .box (.ty 41), .box (.ty 186)], ret := .tup [], L' := [.box (.agg [.ptr 2 [], .ty 48]), .box (.ty 41), .box (.ty 186)], R := Int × zd × z4, dflt := (default, default, default), F := fun N a b => za3 N b.1.2.1 b.2.1 b.2.2.1, of := fun r => ((), (((), r.1, ()), r.2.1, r.2.2, ())) }
noncomputable def zfs : Dat τ := { D := D0, tbl := tblOf [(146, zm)], lp := lpsOf [], k0 := 3, mu := [], un := [(1, 3)] }
theorem zhk : ConOk E C 121 z4t :=
  z9 (D := zfs) ⟨d0Ok, eGood, z7 ⟨zr, trivial⟩, fun _ => rfl⟩ z4t (fun a b => (b.1.2.1, b.2.1, b.2.2.1)) none (fun _ _ => rfl) rfl (fun _ _ h => nomatch h) 1000000 (fn := Tryz.f121) Tryz.func121 rfl (by kernel_rfl) (by kernel_rfl) rfl (by intro N a b; kernel_rfl)
def zbu (N : Nat) (b0 : Int) (b1 : zd) (b2 : z4) : Option (Int × zd × z4) :=
 ((zf N b0 b2).bind fun r1 =>
 ((zf N r1.2.1 r1.2.2).bind fun r2 =>
 (some (r2.2.1, (⟨b1.Kind, r1.1, r2.1, b1.Op, b1.Origin, b1.Seq, b1.Ops, b1.Epoch, b1.From, b1.Vector_, b1.Clock, b1.Part, b1.Site, b1.Sponsor, b1.Length⟩ : zd), r2.2.2))))
def z66 : Con τ := { args := [.ptr 0 [], .ls 1 [.ptr 1 [.fld 1 1], .ptr 1 [.fld 2 2]]], L := [.box (.agg [.ptr 2 [], .ty 48]), .box (.ty 41), .box (.ty 186)], ret := .tup [], L' := [.box (.agg [.ptr 2 [], .ty 48]), .box (.ty 41), .box (.ty 186)], R := Int × zd × z4, dflt := (default, default, default), F := fun N a b => zbu N b.1.2.1 b.2.1 b.2.2.1, of := fun r => ((), (((), r.1, ()), r.2.1, r.2.2, ())) }
noncomputable def zji : Dat τ := { D := D0, tbl := tblOf [(172, zb)], lp := lpsOf [], k0 := 3, mu := [], un := [(1, 4)] }
theorem zkx : ConOk E C 148 z66 :=
  z9 (D := zji) ⟨d0Ok, eGood, z7 ⟨zi, trivial⟩, fun _ => rfl⟩ z66 (fun a b => (b.1.2.1, b.2.1, b.2.2.1)) none (fun _ _ => rfl) rfl (fun _ _ h => nomatch h) 1000000 (fn := Tryz.f148) Tryz.func148 rfl (by kernel_rfl) (by kernel_rfl) rfl (by intro N a b; kernel_rfl)
def zbv (N : Nat) (b0 : Int) (b1 : GOp) (b2 : z4) : Option (Int × GOp × z4) :=
 ((zf N b0 b2).bind fun r1 =>
 (some (r1.2.1, (⟨(⟨r1.1, b1.Stamp.Site⟩ : zx), b1.Kind, b1.Node, b1.Parent, b1.Name, b1.Key, b1.Value⟩ : GOp), r1.2.2)))
def z67 : Con τ := { args := [.ptr 0 [], .ls 1 [.ptr 1 [.fld 0 0, .fld 0 0]]], L := [.box (.agg [.ptr 2 [], .ty 48]), .box (.ty 30), .box (.ty 186)], ret := .tup [], L' := [.box (.agg [.ptr 2 [], .ty 48]), .box (.ty 30), .box (.ty 186)], R := Int × GOp × z4, dflt := (default, default, default), F := fun N a b => zbv N b.1.2.1 b.2.1 b.2.2.1, of := fun r => ((), (((), r.1, ()), r.2.1, r.2.2, ())) }
noncomputable def zjj : Dat τ := { D := D0, tbl := tblOf [(172, zb)], lp := lpsOf [], k0 := 3, mu := [], un := [(1, 3)] }
theorem zky : ConOk E C 148 z67 :=
  z9 (D := zjj) ⟨d0Ok, eGood, z7 ⟨zi, trivial⟩, fun _ => rfl⟩ z67 (fun a b => (b.1.2.1, b.2.1, b.2.2.1)) none (fun _ _ => rfl) rfl (fun _ _ h => nomatch h) 1000000 (fn := Tryz.f148) Tryz.func148 rfl (by kernel_rfl) (by kernel_rfl) rfl (by intro N a b; kernel_rfl)
def za4 (N : Nat) (b0 : Int) (b1 : GOp) (b2 : z4) : Option (Int × GOp × z4) :=
 ((zc N b0 b2).bind fun r1 =>
 ((zc N r1.2.1 r1.2.2).bind fun r2 =>
 (some (r2.2.1, (⟨(⟨b1.Stamp.Time, r1.1⟩ : zx), r2.1, b1.Node, b1.Parent, b1.Name, b1.Key, b1.Value⟩ : GOp), r2.2.2))))
def z4u : Con τ := { args := [.ptr 0 [], .ls 1 [.ptr 1 [.fld 0 0, .fld 1 1], .ptr 1 [.fld 1 2]]], L := [.box (.agg [.ptr 2 [], .ty 48]), .box (.ty 30), .box (.ty 186)], ret := .tup [], L' := [.box (.agg [.ptr 2 [], .ty 48]), .box (.ty 30), .box (.ty 186)], R := Int × GOp × z4, dflt := (default, default, default), F := fun N a b => za4 N b.1.2.1 b.2.1 b.2.2.1, of := fun r => ((), (((), r.1, ()), r.2.1, r.2.2, ())) }
noncomputable def zft : Dat τ := { D := D0, tbl := tblOf [(146, zm)], lp := lpsOf [], k0 := 3, mu := [], un := [(1, 4)] }
theorem zhl : ConOk E C 121 z4u :=
  z9 (D := zft) ⟨d0Ok, eGood, z7 ⟨zr, trivial⟩, fun _ => rfl⟩ z4u (fun a b => (b.1.2.1, b.2.1, b.2.2.1)) none (fun _ _ => rfl) rfl (fun _ _ h => nomatch h) 1000000 (fn := Tryz.f121) Tryz.func121 rfl (by kernel_rfl) (by kernel_rfl) rfl (by intro N a b; kernel_rfl)
def zbw (N : Nat) (b0 : Int) (b1 : GOp) (b2 : z4) : Option (Int × GOp × z4) :=
 ((zf N b0 b2).bind fun r1 =>
 ((zf N r1.2.1 r1.2.2).bind fun r2 =>
 (some (r2.2.1, (⟨b1.Stamp, b1.Kind, r1.1, r2.1, b1.Name, b1.Key, b1.Value⟩ : GOp), r2.2.2))))
def z68 : Con τ := { args := [.ptr 0 [], .ls 1 [.ptr 1 [.fld 2 3], .ptr 1 [.fld 3 4]]], L := [.box (.agg [.ptr 2 [], .ty 48]), .box (.ty 30), .box (.ty 186)], ret := .tup [], L' := [.box (.agg [.ptr 2 [], .ty 48]), .box (.ty 30), .box (.ty 186)], R := Int × GOp × z4, dflt := (default, default, default), F := fun N a b => zbw N b.1.2.1 b.2.1 b.2.2.1, of := fun r => ((), (((), r.1, ()), r.2.1, r.2.2, ())) }
noncomputable def zjk : Dat τ := { D := D0, tbl := tblOf [(172, zb)], lp := lpsOf [], k0 := 3, mu := [], un := [(1, 4)] }
theorem zkz : ConOk E C 148 z68 :=
  z9 (D := zjk) ⟨d0Ok, eGood, z7 ⟨zi, trivial⟩, fun _ => rfl⟩ z68 (fun a b => (b.1.2.1, b.2.1, b.2.2.1)) none (fun _ _ => rfl) rfl (fun _ _ h => nomatch h) 1000000 (fn := Tryz.f148) Tryz.func148 rfl (by kernel_rfl) (by kernel_rfl) rfl (by intro N a b; kernel_rfl)
def z7x (N : Nat) (b0 : z4) : Option ((List (Int)) × Int × z4) :=
 ((z64 N b0).bind fun r1 =>
 (bif r1.1 then
 (some ([], 2, r1.2))
 else
 ((zne N r1.2.b).bind fun r2 =>
 (bif (!(r2.2.2 == 0)) then
 (some ([], r2.2.2, r1.2))
 else
 (bif (decide (r2.1 < 0)) then
 (some ([], 11, r1.2))
 else
 (bif (decide ((IntKind.i64.wrap (((r1.2.b).length : Int) - r2.2.1)) < r2.1)) then
 (some ([], 10, r1.2))
 else
 (bif (cutB r2.2.1 (IntKind.i64.wrap (r2.2.1 + r2.1)) ((r1.2.b).length : Int)) then
 ((z26 N (cut r1.2.b r2.2.1 (IntKind.i64.wrap (r2.2.1 + r2.1)))).bind fun r3 =>
 (bif (cutB (IntKind.i64.wrap (r2.2.1 + r2.1)) ((r1.2.b).length : Int) ((r1.2.b).length : Int)) then
 (some (r3, 0, (⟨r1.2.made, (cut r1.2.b (IntKind.i64.wrap (r2.2.1 + r2.1)) ((r1.2.b).length : Int))⟩ : z4)))
 else none))
 else none)))))))
def z3o : Con τ := { args := [.ptr 0 []], L := [.box (.ty 186)], ret := .tup [.ty 37, .ty 48], L' := [.box (.ty 186)], R := (List (Int)) × Int × z4, dflt := (default, default, default), F := fun N a b => z7x N b.1, of := fun r => ((r.1, r.2.1, ()), (r.2.2, ())) }
noncomputable def zl0 : Dat τ := { D := D0, tbl := tblOf [(123, z2x), (119, zcm), (40, z1f)], lp := lpsOf [], k0 := 1, mu := [], un := [] }
theorem zbx : ConOk E C 182 z3o :=
  z9 (D := zl0) ⟨d0Ok, eGood, z7 ⟨z82, ⟨zpj, ⟨z2c, trivial⟩⟩⟩, fun _ => rfl⟩ z3o (fun a b => (a.1, a.2.1, b.1)) none (fun _ _ => rfl) rfl (fun _ _ h => nomatch h) 1000000 (fn := Tryz.f182) Tryz.func182 rfl (by kernel_rfl) (by kernel_rfl) rfl (by intro N a b; kernel_rfl)
def zdp (N : Nat) (b0 : z4) : Option ((List UInt8) × Int × z4) :=
 ((z7x N b0).bind fun r1 =>
 (some ((strI r1.1), r1.2.1, r1.2.2)))
def z7b : Con τ := { args := [.ptr 0 []], L := [.box (.ty 186)], ret := .tup [.ty 9, .ty 48], L' := [.box (.ty 186)], R := (List UInt8) × Int × z4, dflt := (default, default, default), F := fun N a b => zdp N b.1, of := fun r => ((r.1, r.2.1, ()), (r.2.2, ())) }
noncomputable def zmk : Dat τ := { D := D0, tbl := tblOf [(182, z3o)], lp := lpsOf [], k0 := 1, mu := [], un := [] }
theorem zo1 : ConOk E C 185 z7b :=
  z9 (D := zmk) ⟨d0Ok, eGood, z7 ⟨zbx, trivial⟩, fun _ => rfl⟩ z7b (fun a b => (a.1, a.2.1, b.1)) none (fun _ _ => rfl) rfl (fun _ _ h => nomatch h) 1000000 (fn := Tryz.f185) Tryz.func185 rfl (by kernel_rfl) (by kernel_rfl) rfl (by intro N a b; kernel_rfl)
def z46 (N : Nat) (b0 : Int) (b1 : z4) : Option ((List UInt8) × Int × z4) :=
 (bif (!(b0 == 0)) then
 (some ([], b0, b1))
 else
 ((zdp N b1).bind fun r1 =>
 ((z2y N r1.2.1 b0 r1.2.2).bind fun r2 =>
 (some (r1.1, r2.1, r2.2)))))
def z69 : Con τ := { args := [.ptr 0 []], L := [.box (.agg [.ptr 1 [], .ty 48]), .box (.ty 186)], ret := .ty 9, L' := [.box (.agg [.ptr 1 [], .ty 48]), .box (.ty 186)], R := (List UInt8) × Int × z4, dflt := (default, default, default), F := fun N a b => z46 N b.1.2.1 b.2.1, of := fun r => (r.1, (((), r.2.1, ()), r.2.2, ())) }
noncomputable def zjl : Dat τ := { D := D0, tbl := tblOf [(185, z7b), (80, z1q)], lp := lpsOf [], k0 := 2, mu := [], un := [] }
theorem zl1 : ConOk E C 181 z69 :=
  z9 (D := zjl) ⟨d0Ok, eGood, z7 ⟨zo1, ⟨z3t, trivial⟩⟩, fun _ => rfl⟩ z69 (fun a b => (a, b.1.2.1, b.2.1)) none (fun _ _ => rfl) rfl (fun _ _ h => nomatch h) 1000000 (fn := Tryz.f181) Tryz.func181 rfl (by kernel_rfl) (by kernel_rfl) rfl (by intro N a b; kernel_rfl)
def z8g (N : Nat) (b0 : Int) (b1 : z4) : Option (GOp × Int × z4) :=
 ((zbv N b0 (⟨(⟨0, 0⟩ : zx), 0, 0, 0, [], [], []⟩ : GOp) b1).bind fun r1 =>
 ((za4 N r1.1 r1.2.1 r1.2.2).bind fun r2 =>
 ((zbw N r2.1 r2.2.1 r2.2.2).bind fun r3 =>
 ((z46 N r3.1 r3.2.2).bind fun r4 =>
 ((z46 N r4.2.1 r4.2.2).bind fun r5 =>
 ((z46 N r5.2.1 r5.2.2).bind fun r6 =>
 (some ((⟨r3.2.1.Stamp, r3.2.1.Kind, r3.2.1.Node, r3.2.1.Parent, r4.1, r5.1, r6.1⟩ : GOp), r6.2.1, r6.2.2))))))))
def z47 : Con τ := { args := [.ptr 0 []], L := [.box (.agg [.ptr 1 [], .ty 48]), .box (.ty 186)], ret := .ty 30, L' := [.box (.agg [.ptr 1 [], .ty 48]), .box (.ty 186)], R := GOp × Int × z4, dflt := (default, default, default), F := fun N a b => z8g N b.1.2.1 b.2.1, of := fun r => (r.1, (((), r.2.1, ()), r.2.2, ())) }
noncomputable def zml : Dat τ := { D := D0, tbl := tblOf [(148, z67), (121, z4u), (148, z68), (181, z69)], lp := lpsOf [], k0 := 2, mu := [], un := [] }
theorem zcy : ConOk E C 174 z47 :=
  z9 (D := zml) ⟨d0Ok, eGood, z7 ⟨zky, ⟨zhl, ⟨zkz, ⟨zl1, trivial⟩⟩⟩⟩, fun _ => rfl⟩ z47 (fun a b => (a, b.1.2.1, b.2.1)) none (fun _ _ => rfl) rfl (fun _ _ h => nomatch h) 1000000 (fn := Tryz.f174) Tryz.func174 rfl (by kernel_rfl) (by kernel_rfl) rfl (by intro N a b; kernel_rfl)
def za5 (N : Nat) (b0 : Int) (b1 : zd) (b2 : z4) : Option (Int × zd × z4) :=
 ((zc N b0 b2).bind fun r1 =>
 (some (r1.2.1, (⟨b1.Kind, b1.Session, b1.Request, b1.Op, r1.1, b1.Seq, b1.Ops, b1.Epoch, b1.From, b1.Vector_, b1.Clock, b1.Part, b1.Site, b1.Sponsor, b1.Length⟩ : zd), r1.2.2)))
def z4v : Con τ := { args := [.ptr 0 [], .ls 1 [.ptr 1 [.fld 4 11]]], L := [.box (.agg [.ptr 2 [], .ty 48]), .box (.ty 41), .box (.ty 186)], ret := .tup [], L' := [.box (.agg [.ptr 2 [], .ty 48]), .box (.ty 41), .box (.ty 186)], R := Int × zd × z4, dflt := (default, default, default), F := fun N a b => za5 N b.1.2.1 b.2.1 b.2.2.1, of := fun r => ((), (((), r.1, ()), r.2.1, r.2.2, ())) }
noncomputable def zfu : Dat τ := { D := D0, tbl := tblOf [(146, zm)], lp := lpsOf [], k0 := 3, mu := [], un := [(1, 3)] }
theorem zhm : ConOk E C 121 z4v :=
  z9 (D := zfu) ⟨d0Ok, eGood, z7 ⟨zr, trivial⟩, fun _ => rfl⟩ z4v (fun a b => (b.1.2.1, b.2.1, b.2.2.1)) none (fun _ _ => rfl) rfl (fun _ _ h => nomatch h) 1000000 (fn := Tryz.f121) Tryz.func121 rfl (by kernel_rfl) (by kernel_rfl) rfl (by intro N a b; kernel_rfl)
def z7c (N : Nat) (b0 : Int) (b1 : zd) (b2 : z4) : Option (Int × zd × z4) :=
 ((zf N b0 b2).bind fun r1 =>
 (some (r1.2.1, (⟨b1.Kind, b1.Session, b1.Request, b1.Op, b1.Origin, r1.1, b1.Ops, b1.Epoch, b1.From, b1.Vector_, b1.Clock, b1.Part, b1.Site, b1.Sponsor, b1.Length⟩ : zd), r1.2.2)))
def z6a : Con τ := { args := [.ptr 0 [], .ls 1 [.ptr 1 [.fld 5 12]]], L := [.box (.agg [.ptr 2 [], .ty 48]), .box (.ty 41), .box (.ty 186)], ret := .tup [], L' := [.box (.agg [.ptr 2 [], .ty 48]), .box (.ty 41), .box (.ty 186)], R := Int × zd × z4, dflt := (default, default, default), F := fun N a b => z7c N b.1.2.1 b.2.1 b.2.2.1, of := fun r => ((), (((), r.1, ()), r.2.1, r.2.2, ())) }
noncomputable def zjm : Dat τ := { D := D0, tbl := tblOf [(172, zb)], lp := lpsOf [], k0 := 3, mu := [], un := [(1, 3)] }
theorem zl2 : ConOk E C 148 z6a :=
  z9 (D := zjm) ⟨d0Ok, eGood, z7 ⟨zi, trivial⟩, fun _ => rfl⟩ z6a (fun a b => (b.1.2.1, b.2.1, b.2.2.1)) none (fun _ _ => rfl) rfl (fun _ _ h => nomatch h) 1000000 (fn := Tryz.f148) Tryz.func148 rfl (by kernel_rfl) (by kernel_rfl) rfl (by intro N a b; kernel_rfl)
structure z2f where
  l : List (GOp)
  t6 : Int
  b0 : Int
  b1 : z4
def z6b : List Sl := [.k, .k, .j, .sh (.own 30 2), .k, .k, .sh (.ty 2), .j, .j, .j, .j, .j, .j, .j, .j, .j, .j, .j, .j, .k]
def z6c : List ESh := [.box (.agg [.ptr 1 [], .ty 2]), .box (.ty 165), .tail]
def zjn (a : Sl.Ts τ z6b) (b : ESh.Ts τ z6c) : z2f := ⟨a.2.2.2.1, a.2.2.2.2.2.2.1, b.1.2.1, b.2.1⟩
def zjo (s : z2f) : Sl.Ts τ z6b := ((), (), (), s.l, (), (), s.t6, (), (), (), (), (), (), (), (), (), (), (), (), (), ())
def zjp (s : z2f) : ESh.Ts τ z6c := (((), s.b0, ()), s.b1, (), ())
def zjq : Lp τ := { ts := z6b, hs := z6c, S := z2f, to := zjn, ot := zjo, oh := zjp, hk := [2, 2], tk := [2, 0, 0, 0, 2], ot_to := fun _ _ => rfl, oh_to := fun _ _ => rfl }
def z39 (N : Nat) (b0 : Int) (b1 : z4) : Option ((List (GOp)) × Int × z4) :=
 ((z7p N b0 b1).bind fun r1 =>
 (iter N (fun (s2 : z2f) next3 =>
 (bif (decide (s2.t6 < r1.1)) then
 (bif (!(s2.b0 == 0)) then
 (some ([], s2.b0, s2.b1))
 else
 ((z8g N s2.b0 s2.b1).bind fun r4 =>
 (bif (lenB ((s2.l).length + ([r4.1]).length) 88) then
 (next3 ⟨(s2.l ++ [r4.1]), (IntKind.i64.wrap (s2.t6 + 1)), r4.2.1, r4.2.2⟩)
 else none)))
 else
 (some (s2.l, s2.b0, s2.b1)))) ⟨[], 0, r1.2.1, r1.2.2⟩))
def z3p : Con τ := { args := [.ptr 0 []], L := [.box (.agg [.ptr 1 [], .ty 48]), .box (.ty 186)], ret := .ty 31, L' := [.box (.agg [.ptr 1 [], .ty 48]), .box (.ty 186)], R := (List (GOp)) × Int × z4, dflt := (default, default, default), F := fun N a b => z39 N b.1.2.1 b.2.1, of := fun r => (r.1, (((), r.2.1, ()), r.2.2, ())) }
noncomputable def zl3 : Dat τ := { D := D0, tbl := tblOf [(173, z3i), (174, z47)], lp := lpsOf [(3, zjq)], k0 := 2, mu := [], un := [] }
theorem zby : ConOk E C 152 z3p :=
  z9 (D := zl3) ⟨d0Ok, eGood, z7 ⟨zbn, ⟨zcy, trivial⟩⟩, fun _ => rfl⟩ z3p (fun a b => (a, b.1.2.1, b.2.1)) none (fun _ _ => rfl) rfl (fun _ _ h => nomatch h) 1000000 (fn := Tryz.f152) Tryz.func152 rfl (by kernel_rfl) (by kernel_rfl) rfl (by intro N a b; kernel_rfl)
def zbz (N : Nat) (b0 : Int) (b1 : za) (b2 : z4) : Option (Int × za × z4) :=
 ((zf N b0 b2).bind fun r1 =>
 (some (r1.2.1, (⟨r1.1, b1.States, b1.Seals, b1.Sponsor⟩ : za), r1.2.2)))
def z6d : Con τ := { args := [.ptr 0 [], .ls 1 [.ptr 1 [.fld 0 0]]], L := [.box (.agg [.ptr 2 [], .ty 48]), .box (.ty 36), .box (.ty 186)], ret := .tup [], L' := [.box (.agg [.ptr 2 [], .ty 48]), .box (.ty 36), .box (.ty 186)], R := Int × za × z4, dflt := (default, default, default), F := fun N a b => zbz N b.1.2.1 b.2.1 b.2.2.1, of := fun r => ((), (((), r.1, ()), r.2.1, r.2.2, ())) }
noncomputable def zjr : Dat τ := { D := D0, tbl := tblOf [(172, zb)], lp := lpsOf [], k0 := 3, mu := [], un := [(1, 3)] }
theorem zl4 : ConOk E C 148 z6d :=
  z9 (D := zjr) ⟨d0Ok, eGood, z7 ⟨zi, trivial⟩, fun _ => rfl⟩ z6d (fun a b => (b.1.2.1, b.2.1, b.2.2.1)) none (fun _ _ => rfl) rfl (fun _ _ h => nomatch h) 1000000 (fn := Tryz.f148) Tryz.func148 rfl (by kernel_rfl) (by kernel_rfl) rfl (by intro N a b; kernel_rfl)
structure z1u where
  t5 : Int
  b0 : Int
  b1 : za
  b2 : z4
def z48 : List Sl := [.k, .k, .k, .k, .j, .sh (.ty 2), .j, .j, .j, .j, .j, .j, .j, .j, .j]
def z49 : List ESh := [.box (.agg [.ptr 2 [], .ty 2]), .box (.ty 35), .box (.ty 165)]
def zf3 (a : Sl.Ts τ z48) (b : ESh.Ts τ z49) : z1u := ⟨a.2.2.2.2.2.1, b.1.2.1, b.2.1, b.2.2.1⟩
def zf4 (s : z1u) : Sl.Ts τ z48 := ((), (), (), (), (), s.t5, (), (), (), (), (), (), (), (), (), ())
def zf5 (s : z1u) : ESh.Ts τ z49 := (((), s.b0, ()), s.b1, s.b2, ())
def zf6 : Lp τ := { ts := z48, hs := z49, S := z1u, to := zf3, ot := zf4, oh := zf5, hk := [2, 2, 2], tk := [2, 3], ot_to := fun _ _ => rfl, oh_to := fun _ _ => rfl }
def za6 (N : Nat) (b0 : Int) (b1 : za) (b2 : z4) : Option (Int × za × z4) :=
 (iter N (fun (s1 : z1u) next2 =>
 (bif (decide (s1.t5 < 8)) then
 ((zf N s1.b0 s1.b2).bind fun r3 =>
 (bif (ibB s1.t5 8) then
 (next2 ⟨(IntKind.i64.wrap (s1.t5 + 1)), r3.2.1, (⟨s1.b1.Number, s1.b1.States, (vset s1.b1.Seals ((s1.t5).toNat) r3.1), s1.b1.Sponsor⟩ : za), r3.2.2⟩)
 else none))
 else
 (some (s1.b0, s1.b1, s1.b2)))) ⟨0, b0, b1, b2⟩)
def z4w : Con τ := { args := [.ptr 0 [], .ptr 1 [.fld 2 9]], L := [.box (.agg [.ptr 2 [], .ty 48]), .box (.ty 36), .box (.ty 186)], ret := .tup [], L' := [.box (.agg [.ptr 2 [], .ty 48]), .box (.ty 36), .box (.ty 186)], R := Int × za × z4, dflt := (default, default, default), F := fun N a b => za6 N b.1.2.1 b.2.1 b.2.2.1, of := fun r => ((), (((), r.1, ()), r.2.1, r.2.2, ())) }
noncomputable def zfv : Dat τ := { D := D0, tbl := tblOf [(172, zb)], lp := lpsOf [(1, zf6)], k0 := 3, mu := [], un := [] }
theorem zhn : ConOk E C 151 z4w :=
  z9 (D := zfv) ⟨d0Ok, eGood, z7 ⟨zi, trivial⟩, fun _ => rfl⟩ z4w (fun a b => (b.1.2.1, b.2.1, b.2.2.1)) none (fun _ _ => rfl) rfl (fun _ _ h => nomatch h) 1000000 (fn := Tryz.f151) Tryz.func151 rfl (by kernel_rfl) (by kernel_rfl) rfl (by intro N a b; kernel_rfl)
structure z1z where
  t10 : Int
  b0 : Int
  b1 : z4
  b3 : za
def z4x : List Sl := [.k, .k, .k, .k, .j, .k, .k, .k, .k, .k, .sh (.ty 2), .j, .j, .j, .j, .j, .j, .j, .j, .k, .k, .k, .k, .k, .k, .k, .k, .k, .k, .k, .k, .k]
def z4y : List ESh := [.box (.agg [.ptr 1 [], .ty 2]), .box (.ty 165), .keep, .box (.ty 35)]
def zfw (a : Sl.Ts τ z4x) (b : ESh.Ts τ z4y) : z1z := ⟨a.2.2.2.2.2.2.2.2.2.2.1, b.1.2.1, b.2.1, b.2.2.2.1⟩
def zfx (s : z1z) : Sl.Ts τ z4x := ((), (), (), (), (), (), (), (), (), (), s.t10, (), (), (), (), (), (), (), (), (), (), (), (), (), (), (), (), (), (), (), (), (), ())
def zfy (s : z1z) : ESh.Ts τ z4y := (((), s.b0, ()), s.b1, (), s.b3, ())
def zfz : Lp τ := { ts := z4x, hs := z4y, S := z1z, to := zfw, ot := zfx, oh := zfy, hk := [2, 2, 2, 2], tk := [2, 0, 4, 5, 0, 0, 2, 5], ot_to := fun _ _ => rfl, oh_to := fun _ _ => rfl }
structure z1v where
  t22 : Int
  b0 : Int
  b1 : z4
  b3 : za
def z4a : List Sl := [.k, .k, .k, .k, .k, .j, .k, .k, .k, .k, .k, .k, .k, .k, .k, .k, .k, .k, .k, .k, .k, .k, .sh (.ty 2), .j, .j, .j, .j, .j, .j, .j, .j, .k]
def z4b : List ESh := [.box (.agg [.ptr 1 [], .ty 2]), .box (.ty 165), .keep, .box (.ty 35)]
def zf7 (a : Sl.Ts τ z4a) (b : ESh.Ts τ z4b) : z1v := ⟨a.2.2.2.2.2.2.2.2.2.2.2.2.2.2.2.2.2.2.2.2.2.2.1, b.1.2.1, b.2.1, b.2.2.2.1⟩
def zf8 (s : z1v) : Sl.Ts τ z4a := ((), (), (), (), (), (), (), (), (), (), (), (), (), (), (), (), (), (), (), (), (), (), s.t22, (), (), (), (), (), (), (), (), (), ())
def zf9 (s : z1v) : ESh.Ts τ z4b := (((), s.b0, ()), s.b1, (), s.b3, ())
def zfa : Lp τ := { ts := z4a, hs := z4b, S := z1v, to := zf7, ot := zf8, oh := zf9, hk := [2, 2, 2, 2], tk := [2, 0, 4, 5, 0, 0, 2, 5, 0, 0, 0, 0, 0, 0, 0, 0, 0, 0, 0, 2, 5], ot_to := fun _ _ => rfl, oh_to := fun _ _ => rfl }
def z2g (N : Nat) (b0 : Int) (b1 : z4) : Option (za × Int × z4) :=
 ((zbz N b0 (⟨0, (Vector.replicate 8 (default : Int)), (Vector.replicate 8 (default : Int)), (Vector.replicate 8 (default : Int))⟩ : za) b1).bind fun r1 =>
 (iter N (fun (s2 : z1z) next3 =>
 (bif (decide (s2.t10 < 8)) then
 ((zc N s2.b0 s2.b1).bind fun r4 =>
 (bif (ibB s2.t10 8) then
 (next3 ⟨(IntKind.i64.wrap (s2.t10 + 1)), r4.2.1, r4.2.2, (⟨s2.b3.Number, (vset s2.b3.States ((s2.t10).toNat) r4.1), s2.b3.Seals, s2.b3.Sponsor⟩ : za)⟩)
 else none))
 else
 ((za6 N s2.b0 s2.b3 s2.b1).bind fun r5 =>
 (iter N (fun (s6 : z1v) next7 =>
 (bif (decide (s6.t22 < 8)) then
 ((zc N s6.b0 s6.b1).bind fun r8 =>
 (bif (ibB s6.t22 8) then
 (next7 ⟨(IntKind.i64.wrap (s6.t22 + 1)), r8.2.1, r8.2.2, (⟨s6.b3.Number, s6.b3.States, s6.b3.Seals, (vset s6.b3.Sponsor ((s6.t22).toNat) r8.1)⟩ : za)⟩)
 else none))
 else
 (some (s6.b3, s6.b0, s6.b1)))) ⟨0, r5.1, r5.2.2, r5.2.1⟩)))) ⟨0, r1.1, r1.2.2, r1.2.1⟩))
def z35 : Con τ := { args := [.ptr 0 []], L := [.box (.agg [.ptr 1 [], .ty 48]), .box (.ty 186)], ret := .ty 36, L' := [.box (.agg [.ptr 1 [], .ty 48]), .box (.ty 186)], R := za × Int × z4, dflt := (default, default, default), F := fun N a b => z2g N b.1.2.1 b.2.1, of := fun r => (r.1, (((), r.2.1, ()), r.2.2, ())) }
noncomputable def zho : Dat τ := { D := D0, tbl := tblOf [(148, z6d), (146, zm), (151, z4w)], lp := lpsOf [(4, zfz), (10, zfa)], k0 := 2, mu := [], un := [] }
theorem za7 : ConOk E C 153 z35 :=
  z9 (D := zho) ⟨d0Ok, eGood, z7 ⟨zl4, ⟨zr, ⟨zhn, trivial⟩⟩⟩, fun _ => rfl⟩ z35 (fun a b => (a, b.1.2.1, b.2.1)) none (fun _ _ => rfl) rfl (fun _ _ h => nomatch h) 1000000 (fn := Tryz.f153) Tryz.func153 rfl (by kernel_rfl) (by kernel_rfl) rfl (by intro N a b; kernel_rfl)
def za8 (N : Nat) (b0 : Int) (b1 : zd) (b2 : z4) : Option (Int × zd × z4) :=
 ((zc N b0 b2).bind fun r1 =>
 (some (r1.2.1, (⟨b1.Kind, b1.Session, b1.Request, b1.Op, b1.Origin, b1.Seq, b1.Ops, b1.Epoch, r1.1, b1.Vector_, b1.Clock, b1.Part, b1.Site, b1.Sponsor, b1.Length⟩ : zd), r1.2.2)))
def z4z : Con τ := { args := [.ptr 0 [], .ls 1 [.ptr 1 [.fld 8 39]]], L := [.box (.agg [.ptr 2 [], .ty 48]), .box (.ty 41), .box (.ty 186)], ret := .tup [], L' := [.box (.agg [.ptr 2 [], .ty 48]), .box (.ty 41), .box (.ty 186)], R := Int × zd × z4, dflt := (default, default, default), F := fun N a b => za8 N b.1.2.1 b.2.1 b.2.2.1, of := fun r => ((), (((), r.1, ()), r.2.1, r.2.2, ())) }
noncomputable def zg0 : Dat τ := { D := D0, tbl := tblOf [(146, zm)], lp := lpsOf [], k0 := 3, mu := [], un := [(1, 3)] }
theorem zhp : ConOk E C 121 z4z :=
  z9 (D := zg0) ⟨d0Ok, eGood, z7 ⟨zr, trivial⟩, fun _ => rfl⟩ z4z (fun a b => (b.1.2.1, b.2.1, b.2.2.1)) none (fun _ _ => rfl) rfl (fun _ _ h => nomatch h) 1000000 (fn := Tryz.f121) Tryz.func121 rfl (by kernel_rfl) (by kernel_rfl) rfl (by intro N a b; kernel_rfl)
structure z1w where
  t5 : Int
  b0 : Int
  b1 : zd
  b2 : z4
def z4c : List Sl := [.k, .k, .k, .k, .j, .sh (.ty 2), .j, .j, .j, .j, .j, .j, .j, .j, .j]
def z4d : List ESh := [.box (.agg [.ptr 2 [], .ty 2]), .box (.ty 40), .box (.ty 165)]
def zfb (a : Sl.Ts τ z4c) (b : ESh.Ts τ z4d) : z1w := ⟨a.2.2.2.2.2.1, b.1.2.1, b.2.1, b.2.2.1⟩
def zfc (s : z1w) : Sl.Ts τ z4c := ((), (), (), (), (), s.t5, (), (), (), (), (), (), (), (), (), ())
def zfd (s : z1w) : ESh.Ts τ z4d := (((), s.b0, ()), s.b1, s.b2, ())
def zfe : Lp τ := { ts := z4c, hs := z4d, S := z1w, to := zfb, ot := zfc, oh := zfd, hk := [2, 2, 2], tk := [2, 3], ot_to := fun _ _ => rfl, oh_to := fun _ _ => rfl }
def za9 (N : Nat) (b0 : Int) (b1 : zd) (b2 : z4) : Option (Int × zd × z4) :=
 (iter N (fun (s1 : z1w) next2 =>
 (bif (decide (s1.t5 < 8)) then
 ((zf N s1.b0 s1.b2).bind fun r3 =>
 (bif (ibB s1.t5 8) then
 (next2 ⟨(IntKind.i64.wrap (s1.t5 + 1)), r3.2.1, (⟨s1.b1.Kind, s1.b1.Session, s1.b1.Request, s1.b1.Op, s1.b1.Origin, s1.b1.Seq, s1.b1.Ops, s1.b1.Epoch, s1.b1.From, (vset s1.b1.Vector_ ((s1.t5).toNat) r3.1), s1.b1.Clock, s1.b1.Part, s1.b1.Site, s1.b1.Sponsor, s1.b1.Length⟩ : zd), r3.2.2⟩)
 else none))
 else
 (some (s1.b0, s1.b1, s1.b2)))) ⟨0, b0, b1, b2⟩)
def z50 : Con τ := { args := [.ptr 0 [], .ptr 1 [.fld 9 40]], L := [.box (.agg [.ptr 2 [], .ty 48]), .box (.ty 41), .box (.ty 186)], ret := .tup [], L' := [.box (.agg [.ptr 2 [], .ty 48]), .box (.ty 41), .box (.ty 186)], R := Int × zd × z4, dflt := (default, default, default), F := fun N a b => za9 N b.1.2.1 b.2.1 b.2.2.1, of := fun r => ((), (((), r.1, ()), r.2.1, r.2.2, ())) }
noncomputable def zg1 : Dat τ := { D := D0, tbl := tblOf [(172, zb)], lp := lpsOf [(1, zfe)], k0 := 3, mu := [], un := [] }
theorem zhq : ConOk E C 151 z50 :=
  z9 (D := zg1) ⟨d0Ok, eGood, z7 ⟨zi, trivial⟩, fun _ => rfl⟩ z50 (fun a b => (b.1.2.1, b.2.1, b.2.2.1)) none (fun _ _ => rfl) rfl (fun _ _ h => nomatch h) 1000000 (fn := Tryz.f151) Tryz.func151 rfl (by kernel_rfl) (by kernel_rfl) rfl (by intro N a b; kernel_rfl)
def zc0 (N : Nat) (b0 : Int) (b1 : zd) (b2 : z4) : Option (Int × zd × z4) :=
 ((zf N b0 b2).bind fun r1 =>
 (some (r1.2.1, (⟨b1.Kind, b1.Session, b1.Request, b1.Op, b1.Origin, b1.Seq, b1.Ops, b1.Epoch, b1.From, b1.Vector_, r1.1, b1.Part, b1.Site, b1.Sponsor, b1.Length⟩ : zd), r1.2.2)))
def z6e : Con τ := { args := [.ptr 0 [], .ls 1 [.ptr 1 [.fld 10 48]]], L := [.box (.agg [.ptr 2 [], .ty 48]), .box (.ty 41), .box (.ty 186)], ret := .tup [], L' := [.box (.agg [.ptr 2 [], .ty 48]), .box (.ty 41), .box (.ty 186)], R := Int × zd × z4, dflt := (default, default, default), F := fun N a b => zc0 N b.1.2.1 b.2.1 b.2.2.1, of := fun r => ((), (((), r.1, ()), r.2.1, r.2.2, ())) }
noncomputable def zjs : Dat τ := { D := D0, tbl := tblOf [(172, zb)], lp := lpsOf [], k0 := 3, mu := [], un := [(1, 3)] }
theorem zl5 : ConOk E C 148 z6e :=
  z9 (D := zjs) ⟨d0Ok, eGood, z7 ⟨zi, trivial⟩, fun _ => rfl⟩ z6e (fun a b => (b.1.2.1, b.2.1, b.2.2.1)) none (fun _ _ => rfl) rfl (fun _ _ h => nomatch h) 1000000 (fn := Tryz.f148) Tryz.func148 rfl (by kernel_rfl) (by kernel_rfl) rfl (by intro N a b; kernel_rfl)
def zc1 (N : Nat) (b0 : Int) (b1 : GPart) (b2 : z4) : Option (Int × GPart × z4) :=
 ((zf N b0 b2).bind fun r1 =>
 (some (r1.2.1, (⟨r1.1, b1.Index, b1.Many, b1.Data⟩ : GPart), r1.2.2)))
def z6f : Con τ := { args := [.ptr 0 [], .ls 1 [.ptr 1 [.fld 0 0]]], L := [.box (.agg [.ptr 2 [], .ty 48]), .box (.ty 39), .box (.ty 186)], ret := .tup [], L' := [.box (.agg [.ptr 2 [], .ty 48]), .box (.ty 39), .box (.ty 186)], R := Int × GPart × z4, dflt := (default, default, default), F := fun N a b => zc1 N b.1.2.1 b.2.1 b.2.2.1, of := fun r => ((), (((), r.1, ()), r.2.1, r.2.2, ())) }
noncomputable def zjt : Dat τ := { D := D0, tbl := tblOf [(172, zb)], lp := lpsOf [], k0 := 3, mu := [], un := [(1, 3)] }
theorem zl6 : ConOk E C 148 z6f :=
  z9 (D := zjt) ⟨d0Ok, eGood, z7 ⟨zi, trivial⟩, fun _ => rfl⟩ z6f (fun a b => (b.1.2.1, b.2.1, b.2.2.1)) none (fun _ _ => rfl) rfl (fun _ _ h => nomatch h) 1000000 (fn := Tryz.f148) Tryz.func148 rfl (by kernel_rfl) (by kernel_rfl) rfl (by intro N a b; kernel_rfl)
def zaa (N : Nat) (b0 : Int) (b1 : GPart) (b2 : z4) : Option (Int × GPart × z4) :=
 ((zc N b0 b2).bind fun r1 =>
 ((zc N r1.2.1 r1.2.2).bind fun r2 =>
 (some (r2.2.1, (⟨b1.Snap, r1.1, r2.1, b1.Data⟩ : GPart), r2.2.2))))
def z51 : Con τ := { args := [.ptr 0 [], .ls 1 [.ptr 1 [.fld 1 1], .ptr 1 [.fld 2 2]]], L := [.box (.agg [.ptr 2 [], .ty 48]), .box (.ty 39), .box (.ty 186)], ret := .tup [], L' := [.box (.agg [.ptr 2 [], .ty 48]), .box (.ty 39), .box (.ty 186)], R := Int × GPart × z4, dflt := (default, default, default), F := fun N a b => zaa N b.1.2.1 b.2.1 b.2.2.1, of := fun r => ((), (((), r.1, ()), r.2.1, r.2.2, ())) }
noncomputable def zg2 : Dat τ := { D := D0, tbl := tblOf [(146, zm)], lp := lpsOf [], k0 := 3, mu := [], un := [(1, 4)] }
theorem zhr : ConOk E C 121 z51 :=
  z9 (D := zg2) ⟨d0Ok, eGood, z7 ⟨zr, trivial⟩, fun _ => rfl⟩ z51 (fun a b => (b.1.2.1, b.2.1, b.2.2.1)) none (fun _ _ => rfl) rfl (fun _ _ h => nomatch h) 1000000 (fn := Tryz.f121) Tryz.func121 rfl (by kernel_rfl) (by kernel_rfl) rfl (by intro N a b; kernel_rfl)
def zbd (N : Nat) (b0 : Int) (b1 : z4) : Option ((List (Int)) × Int × z4) :=
 (bif (!(b0 == 0)) then
 (some ([], b0, b1))
 else
 ((z7x N b1).bind fun r1 =>
 ((z2y N r1.2.1 b0 r1.2.2).bind fun r2 =>
 (some (r1.1, r2.1, r2.2)))))
def z5q : Con τ := { args := [.ptr 0 []], L := [.box (.agg [.ptr 1 [], .ty 48]), .box (.ty 186)], ret := .ty 37, L' := [.box (.agg [.ptr 1 [], .ty 48]), .box (.ty 186)], R := (List (Int)) × Int × z4, dflt := (default, default, default), F := fun N a b => zbd N b.1.2.1 b.2.1, of := fun r => (r.1, (((), r.2.1, ()), r.2.2, ())) }
noncomputable def zhs : Dat τ := { D := D0, tbl := tblOf [(182, z3o), (80, z1q)], lp := lpsOf [], k0 := 2, mu := [], un := [] }
theorem zju : ConOk E C 175 z5q :=
  z9 (D := zhs) ⟨d0Ok, eGood, z7 ⟨zbx, ⟨z3t, trivial⟩⟩, fun _ => rfl⟩ z5q (fun a b => (a, b.1.2.1, b.2.1)) none (fun _ _ => rfl) rfl (fun _ _ h => nomatch h) 1000000 (fn := Tryz.f175) Tryz.func175 rfl (by kernel_rfl) (by kernel_rfl) rfl (by intro N a b; kernel_rfl)
def z1a (N : Nat) (b0 : Int) (b1 : z4) : Option (GPart × Int × z4) :=
 ((zc1 N b0 (⟨0, 0, 0, []⟩ : GPart) b1).bind fun r1 =>
 ((zaa N r1.1 r1.2.1 r1.2.2).bind fun r2 =>
 ((zbd N r2.1 r2.2.2).bind fun r3 =>
 (some ((⟨r2.2.1.Snap, r2.2.1.Index, r2.2.1.Many, r3.1⟩ : GPart), r3.2.1, r3.2.2)))))
def z3e : Con τ := { args := [.ptr 0 []], L := [.box (.agg [.ptr 1 [], .ty 48]), .box (.ty 186)], ret := .ty 39, L' := [.box (.agg [.ptr 1 [], .ty 48]), .box (.ty 186)], R := GPart × Int × z4, dflt := (default, default, default), F := fun N a b => z1a N b.1.2.1 b.2.1, of := fun r => (r.1, (((), r.2.1, ()), r.2.2, ())) }
noncomputable def zjv : Dat τ := { D := D0, tbl := tblOf [(148, z6f), (121, z51), (175, z5q)], lp := lpsOf [], k0 := 2, mu := [], un := [] }
theorem zbe : ConOk E C 154 z3e :=
  z9 (D := zjv) ⟨d0Ok, eGood, z7 ⟨zl6, ⟨zhr, ⟨zju, trivial⟩⟩⟩, fun _ => rfl⟩ z3e (fun a b => (a, b.1.2.1, b.2.1)) none (fun _ _ => rfl) rfl (fun _ _ h => nomatch h) 1000000 (fn := Tryz.f154) Tryz.func154 rfl (by kernel_rfl) (by kernel_rfl) rfl (by intro N a b; kernel_rfl)
def zab (N : Nat) (b0 : Int) (b1 : zd) (b2 : z4) : Option (Int × zd × z4) :=
 ((zc N b0 b2).bind fun r1 =>
 ((zc N r1.2.1 r1.2.2).bind fun r2 =>
 (some (r2.2.1, (⟨b1.Kind, b1.Session, b1.Request, b1.Op, b1.Origin, b1.Seq, b1.Ops, b1.Epoch, b1.From, b1.Vector_, b1.Clock, b1.Part, r1.1, r2.1, b1.Length⟩ : zd), r2.2.2))))
def z52 : Con τ := { args := [.ptr 0 [], .ls 1 [.ptr 1 [.fld 12 53], .ptr 1 [.fld 13 54]]], L := [.box (.agg [.ptr 2 [], .ty 48]), .box (.ty 41), .box (.ty 186)], ret := .tup [], L' := [.box (.agg [.ptr 2 [], .ty 48]), .box (.ty 41), .box (.ty 186)], R := Int × zd × z4, dflt := (default, default, default), F := fun N a b => zab N b.1.2.1 b.2.1 b.2.2.1, of := fun r => ((), (((), r.1, ()), r.2.1, r.2.2, ())) }
noncomputable def zg3 : Dat τ := { D := D0, tbl := tblOf [(146, zm)], lp := lpsOf [], k0 := 3, mu := [], un := [(1, 4)] }
theorem zht : ConOk E C 121 z52 :=
  z9 (D := zg3) ⟨d0Ok, eGood, z7 ⟨zr, trivial⟩, fun _ => rfl⟩ z52 (fun a b => (b.1.2.1, b.2.1, b.2.2.1)) none (fun _ _ => rfl) rfl (fun _ _ h => nomatch h) 1000000 (fn := Tryz.f121) Tryz.func121 rfl (by kernel_rfl) (by kernel_rfl) rfl (by intro N a b; kernel_rfl)
def z6g (N : Nat) (b0 : Int) (b1 : zd) (b2 : z4) : Option (Int × zd × z4) :=
 ((zc N b0 b2).bind fun r1 =>
 (some (r1.2.1, (⟨b1.Kind, b1.Session, b1.Request, b1.Op, b1.Origin, b1.Seq, b1.Ops, b1.Epoch, b1.From, b1.Vector_, b1.Clock, b1.Part, r1.1, b1.Sponsor, b1.Length⟩ : zd), r1.2.2)))
def z53 : Con τ := { args := [.ptr 0 [], .ls 1 [.ptr 1 [.fld 12 53]]], L := [.box (.agg [.ptr 2 [], .ty 48]), .box (.ty 41), .box (.ty 186)], ret := .tup [], L' := [.box (.agg [.ptr 2 [], .ty 48]), .box (.ty 41), .box (.ty 186)], R := Int × zd × z4, dflt := (default, default, default), F := fun N a b => z6g N b.1.2.1 b.2.1 b.2.2.1, of := fun r => ((), (((), r.1, ()), r.2.1, r.2.2, ())) }
noncomputable def zg4 : Dat τ := { D := D0, tbl := tblOf [(146, zm)], lp := lpsOf [], k0 := 3, mu := [], un := [(1, 3)] }
theorem zhu : ConOk E C 121 z53 :=
  z9 (D := zg4) ⟨d0Ok, eGood, z7 ⟨zr, trivial⟩, fun _ => rfl⟩ z53 (fun a b => (b.1.2.1, b.2.1, b.2.2.1)) none (fun _ _ => rfl) rfl (fun _ _ h => nomatch h) 1000000 (fn := Tryz.f121) Tryz.func121 rfl (by kernel_rfl) (by kernel_rfl) rfl (by intro N a b; kernel_rfl)
def zc2 (N : Nat) (b0 : Int) (b1 : zd) (b2 : z4) : Option (Int × zd × z4) :=
 ((zf N b0 b2).bind fun r1 =>
 (some (r1.2.1, (⟨b1.Kind, b1.Session, b1.Request, b1.Op, b1.Origin, b1.Seq, b1.Ops, b1.Epoch, b1.From, b1.Vector_, b1.Clock, b1.Part, b1.Site, b1.Sponsor, r1.1⟩ : zd), r1.2.2)))
def z6h : Con τ := { args := [.ptr 0 [], .ls 1 [.ptr 1 [.fld 14 55]]], L := [.box (.agg [.ptr 2 [], .ty 48]), .box (.ty 41), .box (.ty 186)], ret := .tup [], L' := [.box (.agg [.ptr 2 [], .ty 48]), .box (.ty 41), .box (.ty 186)], R := Int × zd × z4, dflt := (default, default, default), F := fun N a b => zc2 N b.1.2.1 b.2.1 b.2.2.1, of := fun r => ((), (((), r.1, ()), r.2.1, r.2.2, ())) }
noncomputable def zjw : Dat τ := { D := D0, tbl := tblOf [(172, zb)], lp := lpsOf [], k0 := 3, mu := [], un := [(1, 3)] }
theorem zl7 : ConOk E C 148 z6h :=
  z9 (D := zjw) ⟨d0Ok, eGood, z7 ⟨zi, trivial⟩, fun _ => rfl⟩ z6h (fun a b => (b.1.2.1, b.2.1, b.2.2.1)) none (fun _ _ => rfl) rfl (fun _ _ h => nomatch h) 1000000 (fn := Tryz.f148) Tryz.func148 rfl (by kernel_rfl) (by kernel_rfl) rfl (by intro N a b; kernel_rfl)
def z2h (N : Nat) (b0 : Int) (b1 : z4) : Option (zd × Int × z4) :=
 ((za3 N b0 (⟨0, 0, 0, (⟨(⟨0, 0⟩ : zx), 0, 0, 0, [], [], []⟩ : GOp), 0, 0, [], (⟨0, (Vector.replicate 8 (default : Int)), (Vector.replicate 8 (default : Int)), (Vector.replicate 8 (default : Int))⟩ : za), 0, (Vector.replicate 8 (default : Int)), 0, (⟨0, 0, 0, []⟩ : GPart), 0, 0, 0⟩ : zd) b1).bind fun r1 =>
 (bif (!(r1.1 == 0)) then
 (some (r1.2.1, r1.1, r1.2.2))
 else
 (bif (r1.2.1.Kind == 0) then
 (some (r1.2.1, r1.1, r1.2.2))
 else
 (bif (r1.2.1.Kind == 1) then
 ((zbu N r1.1 r1.2.1 r1.2.2).bind fun r2 =>
 ((z8g N r2.1 r2.2.2).bind fun r3 =>
 (some ((⟨r2.2.1.Kind, r2.2.1.Session, r2.2.1.Request, r3.1, r2.2.1.Origin, r2.2.1.Seq, r2.2.1.Ops, r2.2.1.Epoch, r2.2.1.From, r2.2.1.Vector_, r2.2.1.Clock, r2.2.1.Part, r2.2.1.Site, r2.2.1.Sponsor, r2.2.1.Length⟩ : zd), r3.2.1, r3.2.2))))
 else
 (bif (r1.2.1.Kind == 2) then
 ((za5 N r1.1 r1.2.1 r1.2.2).bind fun r4 =>
 ((z7c N r4.1 r4.2.1 r4.2.2).bind fun r5 =>
 ((z39 N r5.1 r5.2.2).bind fun r6 =>
 (some ((⟨r5.2.1.Kind, r5.2.1.Session, r5.2.1.Request, r5.2.1.Op, r5.2.1.Origin, r5.2.1.Seq, r6.1, r5.2.1.Epoch, r5.2.1.From, r5.2.1.Vector_, r5.2.1.Clock, r5.2.1.Part, r5.2.1.Site, r5.2.1.Sponsor, r5.2.1.Length⟩ : zd), r6.2.1, r6.2.2)))))
 else
 (bif (r1.2.1.Kind == 3) then
 ((z2g N r1.1 r1.2.2).bind fun r7 =>
 (some ((⟨r1.2.1.Kind, r1.2.1.Session, r1.2.1.Request, r1.2.1.Op, r1.2.1.Origin, r1.2.1.Seq, r1.2.1.Ops, r7.1, r1.2.1.From, r1.2.1.Vector_, r1.2.1.Clock, r1.2.1.Part, r1.2.1.Site, r1.2.1.Sponsor, r1.2.1.Length⟩ : zd), r7.2.1, r7.2.2)))
 else
 (bif (r1.2.1.Kind == 4) then
 ((z7c N r1.1 r1.2.1 r1.2.2).bind fun r8 =>
 ((za8 N r8.1 r8.2.1 r8.2.2).bind fun r9 =>
 ((za9 N r9.1 r9.2.1 r9.2.2).bind fun r10 =>
 ((zc0 N r10.1 r10.2.1 r10.2.2).bind fun r11 =>
 (some (r11.2.1, r11.1, r11.2.2))))))
 else
 (bif (r1.2.1.Kind == 5) then
 ((z1a N r1.1 r1.2.2).bind fun r12 =>
 (some ((⟨r1.2.1.Kind, r1.2.1.Session, r1.2.1.Request, r1.2.1.Op, r1.2.1.Origin, r1.2.1.Seq, r1.2.1.Ops, r1.2.1.Epoch, r1.2.1.From, r1.2.1.Vector_, r1.2.1.Clock, r12.1, r1.2.1.Site, r1.2.1.Sponsor, r1.2.1.Length⟩ : zd), r12.2.1, r12.2.2)))
 else
 (bif (r1.2.1.Kind == 6) then
 ((zab N r1.1 r1.2.1 r1.2.2).bind fun r13 =>
 (some (r13.2.1, r13.1, r13.2.2)))
 else
 (bif (r1.2.1.Kind == 7) then
 ((z6g N r1.1 r1.2.1 r1.2.2).bind fun r14 =>
 (some (r14.2.1, r14.1, r14.2.2)))
 else
 (bif (r1.2.1.Kind == 8) then
 ((z6g N r1.1 r1.2.1 r1.2.2).bind fun r15 =>
 ((zc2 N r15.1 r15.2.1 r15.2.2).bind fun r16 =>
 (some (r16.2.1, r16.1, r16.2.2))))
 else
 (some (r1.2.1, 40, r1.2.2)))))))))))))
def z36 : Con τ := { args := [.ptr 0 []], L := [.box (.agg [.ptr 1 [], .ty 48]), .box (.ty 186)], ret := .ty 41, L' := [.box (.agg [.ptr 1 [], .ty 48]), .box (.ty 186)], R := zd × Int × z4, dflt := (default, default, default), F := fun N a b => z2h N b.1.2.1 b.2.1, of := fun r => (r.1, (((), r.2.1, ()), r.2.2, ())) }
noncomputable def zhv : Dat τ := { D := D0, tbl := tblOf [(121, z4t), (148, z66), (174, z47), (121, z4v), (148, z6a), (152, z3p), (153, z35), (121, z4z), (151, z50), (148, z6e), (154, z3e), (121, z52), (121, z53), (148, z6h)], lp := lpsOf [], k0 := 2, mu := [], un := [] }
theorem zac : ConOk E C 150 z36 :=
  z9 (D := zhv) ⟨d0Ok, eGood, z7 ⟨zhk, ⟨zkx, ⟨zcy, ⟨zhm, ⟨zl2, ⟨zby, ⟨za7, ⟨zhp, ⟨zhq, ⟨zl5, ⟨zbe, ⟨zht, ⟨zhu, ⟨zl7, trivial⟩⟩⟩⟩⟩⟩⟩⟩⟩⟩⟩⟩⟩⟩, fun _ => rfl⟩ z36 (fun a b => (a, b.1.2.1, b.2.1)) none (fun _ _ => rfl) rfl (fun _ _ h => nomatch h) 1000000 (fn := Tryz.f150) Tryz.func150 rfl (by kernel_rfl) (by kernel_rfl) rfl (by intro N a b; kernel_rfl)
structure z27 where
  l : List (zv)
  t7 : Int
  b0 : Int
  b1 : z4
def z5r : List Sl := [.k, .k, .j, .sh (.own 155 2), .j, .k, .k, .sh (.ty 2), .j, .j, .j, .j, .j, .j, .j, .j, .j, .j, .j, .j, .j, .j, .j, .j, .j, .j, .j, .j, .j, .k]
def z5s : List ESh := [.box (.agg [.ptr 1 [], .ty 2]), .box (.ty 165), .tail]
def zhw (a : Sl.Ts τ z5r) (b : ESh.Ts τ z5s) : z27 := ⟨a.2.2.2.1, a.2.2.2.2.2.2.2.1, b.1.2.1, b.2.1⟩
def zhx (s : z27) : Sl.Ts τ z5r := ((), (), (), s.l, (), (), (), s.t7, (), (), (), (), (), (), (), (), (), (), (), (), (), (), (), (), (), (), (), (), (), (), ())
def zhy (s : z27) : ESh.Ts τ z5s := (((), s.b0, ()), s.b1, (), ())
def zhz : Lp τ := { ts := z5r, hs := z5s, S := z27, to := zhw, ot := zhx, oh := zhy, hk := [2, 2], tk := [2, 0, 0, 0, 0, 2], ot_to := fun _ _ => rfl, oh_to := fun _ _ => rfl }
def z11 (N : Nat) (b0 : Int) (b1 : z4) : Option ((List (zv)) × Int × z4) :=
 ((z7p N b0 b1).bind fun r1 =>
 (iter N (fun (s2 : z27) next3 =>
 (bif (decide (s2.t7 < r1.1)) then
 (bif (!(s2.b0 == 0)) then
 (some ([], s2.b0, s2.b1))
 else
 ((zbt N s2.b0 (⟨0, (⟨0, 0⟩ : zq), (⟨0, 0, 0, (⟨(⟨0, 0⟩ : zx), 0, 0, 0, [], [], []⟩ : GOp), 0, 0, [], (⟨0, (Vector.replicate 8 (default : Int)), (Vector.replicate 8 (default : Int)), (Vector.replicate 8 (default : Int))⟩ : za), 0, (Vector.replicate 8 (default : Int)), 0, (⟨0, 0, 0, []⟩ : GPart), 0, 0, 0⟩ : zd)⟩ : zv) s2.b1).bind fun r4 =>
 ((zp N r4.1 r4.2.2).bind fun r5 =>
 ((z2h N r5.2.1 r5.2.2).bind fun r6 =>
 (bif (lenB ((s2.l).length + ([(⟨r4.2.1.Slot, r5.1, r6.1⟩ : zv)]).length) 528) then
 (next3 ⟨(s2.l ++ [(⟨r4.2.1.Slot, r5.1, r6.1⟩ : zv)]), (IntKind.i64.wrap (s2.t7 + 1)), r6.2.1, r6.2.2⟩)
 else none)))))
 else
 (some (s2.l, s2.b0, s2.b1)))) ⟨[], 0, r1.2.1, r1.2.2⟩))
def z6i : Con τ := { args := [.ptr 0 []], L := [.box (.agg [.ptr 1 [], .ty 48]), .box (.ty 186)], ret := .ty 26, L' := [.box (.agg [.ptr 1 [], .ty 48]), .box (.ty 186)], R := (List (zv)) × Int × z4, dflt := (default, default, default), F := fun N a b => z11 N b.1.2.1 b.2.1, of := fun r => (r.1, (((), r.2.1, ()), r.2.2, ())) }
noncomputable def zjx : Dat τ := { D := D0, tbl := tblOf [(173, z3i), (148, z65), (147, z2z), (150, z36)], lp := lpsOf [(3, zhz)], k0 := 2, mu := [], un := [] }
theorem zl8 : ConOk E C 149 z6i :=
  z9 (D := zjx) ⟨d0Ok, eGood, z7 ⟨zbn, ⟨zkw, ⟨z9e, ⟨zac, trivial⟩⟩⟩⟩, fun _ => rfl⟩ z6i (fun a b => (a, b.1.2.1, b.2.1)) none (fun _ _ => rfl) rfl (fun _ _ h => nomatch h) 1000000 (fn := Tryz.f149) Tryz.func149 rfl (by kernel_rfl) (by kernel_rfl) rfl (by intro N a b; kernel_rfl)
def z12 (N : Nat) (b0 : Int) (b1 : GMsg) (b2 : z4) : Option (Int × GMsg × z4) :=
 ((zf N b0 b2).bind fun r1 =>
 (some (r1.2.1, (⟨b1.Kind, b1.From, b1.To, b1.Ballot, b1.Slot, b1.List_, b1.Entry, r1.1, b1.Vector_, b1.Clock, b1.Origin, b1.Ops, b1.Epoch, b1.Part⟩ : GMsg), r1.2.2)))
def z6j : Con τ := { args := [.ptr 0 [], .ls 1 [.ptr 1 [.fld 7 65]]], L := [.box (.agg [.ptr 2 [], .ty 48]), .box (.ty 43), .box (.ty 186)], ret := .tup [], L' := [.box (.agg [.ptr 2 [], .ty 48]), .box (.ty 43), .box (.ty 186)], R := Int × GMsg × z4, dflt := (default, default, default), F := fun N a b => z12 N b.1.2.1 b.2.1 b.2.2.1, of := fun r => ((), (((), r.1, ()), r.2.1, r.2.2, ())) }
noncomputable def zjy : Dat τ := { D := D0, tbl := tblOf [(172, zb)], lp := lpsOf [], k0 := 3, mu := [], un := [(1, 3)] }
theorem zl9 : ConOk E C 148 z6j :=
  z9 (D := zjy) ⟨d0Ok, eGood, z7 ⟨zi, trivial⟩, fun _ => rfl⟩ z6j (fun a b => (b.1.2.1, b.2.1, b.2.2.1)) none (fun _ _ => rfl) rfl (fun _ _ h => nomatch h) 1000000 (fn := Tryz.f148) Tryz.func148 rfl (by kernel_rfl) (by kernel_rfl) rfl (by intro N a b; kernel_rfl)
structure z1x where
  t5 : Int
  b0 : Int
  b1 : GMsg
  b2 : z4
def z4e : List Sl := [.k, .k, .k, .k, .j, .sh (.ty 2), .j, .j, .j, .j, .j, .j, .j, .j, .j]
def z4f : List ESh := [.box (.agg [.ptr 2 [], .ty 2]), .box (.ty 42), .box (.ty 165)]
def zff (a : Sl.Ts τ z4e) (b : ESh.Ts τ z4f) : z1x := ⟨a.2.2.2.2.2.1, b.1.2.1, b.2.1, b.2.2.1⟩
def zfg (s : z1x) : Sl.Ts τ z4e := ((), (), (), (), (), s.t5, (), (), (), (), (), (), (), (), (), ())
def zfh (s : z1x) : ESh.Ts τ z4f := (((), s.b0, ()), s.b1, s.b2, ())
def zfi : Lp τ := { ts := z4e, hs := z4f, S := z1x, to := zff, ot := zfg, oh := zfh, hk := [2, 2, 2], tk := [2, 3], ot_to := fun _ _ => rfl, oh_to := fun _ _ => rfl }
def z1d (N : Nat) (b0 : Int) (b1 : GMsg) (b2 : z4) : Option (Int × GMsg × z4) :=
 (iter N (fun (s1 : z1x) next2 =>
 (bif (decide (s1.t5 < 8)) then
 ((zf N s1.b0 s1.b2).bind fun r3 =>
 (bif (ibB s1.t5 8) then
 (next2 ⟨(IntKind.i64.wrap (s1.t5 + 1)), r3.2.1, (⟨s1.b1.Kind, s1.b1.From, s1.b1.To, s1.b1.Ballot, s1.b1.Slot, s1.b1.List_, s1.b1.Entry, s1.b1.Number, (vset s1.b1.Vector_ ((s1.t5).toNat) r3.1), s1.b1.Clock, s1.b1.Origin, s1.b1.Ops, s1.b1.Epoch, s1.b1.Part⟩ : GMsg), r3.2.2⟩)
 else none))
 else
 (some (s1.b0, s1.b1, s1.b2)))) ⟨0, b0, b1, b2⟩)
def z54 : Con τ := { args := [.ptr 0 [], .ptr 1 [.fld 8 66]], L := [.box (.agg [.ptr 2 [], .ty 48]), .box (.ty 43), .box (.ty 186)], ret := .tup [], L' := [.box (.agg [.ptr 2 [], .ty 48]), .box (.ty 43), .box (.ty 186)], R := Int × GMsg × z4, dflt := (default, default, default), F := fun N a b => z1d N b.1.2.1 b.2.1 b.2.2.1, of := fun r => ((), (((), r.1, ()), r.2.1, r.2.2, ())) }
noncomputable def zg5 : Dat τ := { D := D0, tbl := tblOf [(172, zb)], lp := lpsOf [(1, zfi)], k0 := 3, mu := [], un := [] }
theorem zi0 : ConOk E C 151 z54 :=
  z9 (D := zg5) ⟨d0Ok, eGood, z7 ⟨zi, trivial⟩, fun _ => rfl⟩ z54 (fun a b => (b.1.2.1, b.2.1, b.2.2.1)) none (fun _ _ => rfl) rfl (fun _ _ h => nomatch h) 1000000 (fn := Tryz.f151) Tryz.func151 rfl (by kernel_rfl) (by kernel_rfl) rfl (by intro N a b; kernel_rfl)
def z4g (N : Nat) (b0 : Int) (b1 : GMsg) (b2 : z4) : Option (Int × GMsg × z4) :=
 ((zf N b0 b2).bind fun r1 =>
 (some (r1.2.1, (⟨b1.Kind, b1.From, b1.To, b1.Ballot, b1.Slot, b1.List_, b1.Entry, b1.Number, b1.Vector_, r1.1, b1.Origin, b1.Ops, b1.Epoch, b1.Part⟩ : GMsg), r1.2.2)))
def z6k : Con τ := { args := [.ptr 0 [], .ls 1 [.ptr 1 [.fld 9 74]]], L := [.box (.agg [.ptr 2 [], .ty 48]), .box (.ty 43), .box (.ty 186)], ret := .tup [], L' := [.box (.agg [.ptr 2 [], .ty 48]), .box (.ty 43), .box (.ty 186)], R := Int × GMsg × z4, dflt := (default, default, default), F := fun N a b => z4g N b.1.2.1 b.2.1 b.2.2.1, of := fun r => ((), (((), r.1, ()), r.2.1, r.2.2, ())) }
noncomputable def zjz : Dat τ := { D := D0, tbl := tblOf [(172, zb)], lp := lpsOf [], k0 := 3, mu := [], un := [(1, 3)] }
theorem zla : ConOk E C 148 z6k :=
  z9 (D := zjz) ⟨d0Ok, eGood, z7 ⟨zi, trivial⟩, fun _ => rfl⟩ z6k (fun a b => (b.1.2.1, b.2.1, b.2.2.1)) none (fun _ _ => rfl) rfl (fun _ _ h => nomatch h) 1000000 (fn := Tryz.f148) Tryz.func148 rfl (by kernel_rfl) (by kernel_rfl) rfl (by intro N a b; kernel_rfl)
def z3f (N : Nat) (b0 : Int) (b1 : GMsg) (b2 : z4) : Option (Int × GMsg × z4) :=
 ((zc N b0 b2).bind fun r1 =>
 (some (r1.2.1, (⟨b1.Kind, b1.From, b1.To, b1.Ballot, b1.Slot, b1.List_, b1.Entry, b1.Number, b1.Vector_, b1.Clock, r1.1, b1.Ops, b1.Epoch, b1.Part⟩ : GMsg), r1.2.2)))
def z55 : Con τ := { args := [.ptr 0 [], .ls 1 [.ptr 1 [.fld 10 75]]], L := [.box (.agg [.ptr 2 [], .ty 48]), .box (.ty 43), .box (.ty 186)], ret := .tup [], L' := [.box (.agg [.ptr 2 [], .ty 48]), .box (.ty 43), .box (.ty 186)], R := Int × GMsg × z4, dflt := (default, default, default), F := fun N a b => z3f N b.1.2.1 b.2.1 b.2.2.1, of := fun r => ((), (((), r.1, ()), r.2.1, r.2.2, ())) }
noncomputable def zg6 : Dat τ := { D := D0, tbl := tblOf [(146, zm)], lp := lpsOf [], k0 := 3, mu := [], un := [(1, 3)] }
theorem zi1 : ConOk E C 121 z55 :=
  z9 (D := zg6) ⟨d0Ok, eGood, z7 ⟨zr, trivial⟩, fun _ => rfl⟩ z55 (fun a b => (b.1.2.1, b.2.1, b.2.2.1)) none (fun _ _ => rfl) rfl (fun _ _ h => nomatch h) 1000000 (fn := Tryz.f121) Tryz.func121 rfl (by kernel_rfl) (by kernel_rfl) rfl (by intro N a b; kernel_rfl)
def z7d (N : Nat) (b0 : Int) (b1 : GMsg) (b2 : z4) : Option (Int × GMsg × z4) :=
 (bif (b1.Kind == 1) then
 (bif (b1.Kind == 1) then
 ((zp N b0 b2).bind fun r1 =>
 ((zn N r1.2.1 (⟨b1.Kind, b1.From, b1.To, r1.1, b1.Slot, b1.List_, b1.Entry, b1.Number, b1.Vector_, b1.Clock, b1.Origin, b1.Ops, b1.Epoch, b1.Part⟩ : GMsg) r1.2.2).bind fun r2 =>
 (some (r2.1, r2.2.1, r2.2.2))))
 else
 (bif (b1.Kind == 2) then
 ((zp N b0 b2).bind fun r3 =>
 ((zn N r3.2.1 (⟨b1.Kind, b1.From, b1.To, r3.1, b1.Slot, b1.List_, b1.Entry, b1.Number, b1.Vector_, b1.Clock, b1.Origin, b1.Ops, b1.Epoch, b1.Part⟩ : GMsg) r3.2.2).bind fun r4 =>
 ((z11 N r4.1 r4.2.2).bind fun r5 =>
 (some (r5.2.1, (⟨r4.2.1.Kind, r4.2.1.From, r4.2.1.To, r4.2.1.Ballot, r4.2.1.Slot, r5.1, r4.2.1.Entry, r4.2.1.Number, r4.2.1.Vector_, r4.2.1.Clock, r4.2.1.Origin, r4.2.1.Ops, r4.2.1.Epoch, r4.2.1.Part⟩ : GMsg), r5.2.2)))))
 else
 (bif (b1.Kind == 3) then
 ((zp N b0 b2).bind fun r6 =>
 ((z11 N r6.2.1 r6.2.2).bind fun r7 =>
 (some (r7.2.1, (⟨b1.Kind, b1.From, b1.To, r6.1, b1.Slot, r7.1, b1.Entry, b1.Number, b1.Vector_, b1.Clock, b1.Origin, b1.Ops, b1.Epoch, b1.Part⟩ : GMsg), r7.2.2))))
 else
 (bif (b1.Kind == 5) then
 ((zp N b0 b2).bind fun r8 =>
 (some (r8.2.1, (⟨b1.Kind, b1.From, b1.To, r8.1, b1.Slot, b1.List_, b1.Entry, b1.Number, b1.Vector_, b1.Clock, b1.Origin, b1.Ops, b1.Epoch, b1.Part⟩ : GMsg), r8.2.2)))
 else
 (bif (b1.Kind == 6) then
 ((z11 N b0 b2).bind fun r9 =>
 (some (r9.2.1, (⟨b1.Kind, b1.From, b1.To, b1.Ballot, b1.Slot, r9.1, b1.Entry, b1.Number, b1.Vector_, b1.Clock, b1.Origin, b1.Ops, b1.Epoch, b1.Part⟩ : GMsg), r9.2.2)))
 else
 (bif (b1.Kind == 8) then
 ((zn N b0 b1 b2).bind fun r10 =>
 (some (r10.1, r10.2.1, r10.2.2)))
 else
 (bif (b1.Kind == 9) then
 ((z2h N b0 b2).bind fun r11 =>
 (some (r11.2.1, (⟨b1.Kind, b1.From, b1.To, b1.Ballot, b1.Slot, b1.List_, r11.1, b1.Number, b1.Vector_, b1.Clock, b1.Origin, b1.Ops, b1.Epoch, b1.Part⟩ : GMsg), r11.2.2)))
 else
 (bif (b1.Kind == 10) then
 ((z12 N b0 b1 b2).bind fun r12 =>
 ((z1d N r12.1 r12.2.1 r12.2.2).bind fun r13 =>
 ((z4g N r13.1 r13.2.1 r13.2.2).bind fun r14 =>
 (some (r14.1, r14.2.1, r14.2.2)))))
 else
 (bif (b1.Kind == 11) then
 ((z12 N b0 b1 b2).bind fun r15 =>
 ((z3f N r15.1 r15.2.1 r15.2.2).bind fun r16 =>
 ((zn N r16.1 r16.2.1 r16.2.2).bind fun r17 =>
 ((z39 N r17.1 r17.2.2).bind fun r18 =>
 (some (r18.2.1, (⟨r17.2.1.Kind, r17.2.1.From, r17.2.1.To, r17.2.1.Ballot, r17.2.1.Slot, r17.2.1.List_, r17.2.1.Entry, r17.2.1.Number, r17.2.1.Vector_, r17.2.1.Clock, r17.2.1.Origin, r18.1, r17.2.1.Epoch, r17.2.1.Part⟩ : GMsg), r18.2.2))))))
 else
 (bif (b1.Kind == 12) then
 ((z2g N b0 b2).bind fun r19 =>
 (some (r19.2.1, (⟨b1.Kind, b1.From, b1.To, b1.Ballot, b1.Slot, b1.List_, b1.Entry, b1.Number, b1.Vector_, b1.Clock, b1.Origin, b1.Ops, r19.1, b1.Part⟩ : GMsg), r19.2.2)))
 else
 (bif (b1.Kind == 13) then
 ((z1a N b0 b2).bind fun r20 =>
 (some (r20.2.1, (⟨b1.Kind, b1.From, b1.To, b1.Ballot, b1.Slot, b1.List_, b1.Entry, b1.Number, b1.Vector_, b1.Clock, b1.Origin, b1.Ops, b1.Epoch, r20.1⟩ : GMsg), r20.2.2)))
 else
 (bif (b1.Kind == 14) then
 ((z12 N b0 b1 b2).bind fun r21 =>
 ((z1d N r21.1 r21.2.1 r21.2.2).bind fun r22 =>
 (some (r22.1, r22.2.1, r22.2.2))))
 else
 (bif (b1.Kind == 15) then
 ((zn N b0 b1 b2).bind fun r23 =>
 ((z1a N r23.1 r23.2.2).bind fun r24 =>
 (some (r24.2.1, (⟨r23.2.1.Kind, r23.2.1.From, r23.2.1.To, r23.2.1.Ballot, r23.2.1.Slot, r23.2.1.List_, r23.2.1.Entry, r23.2.1.Number, r23.2.1.Vector_, r23.2.1.Clock, r23.2.1.Origin, r23.2.1.Ops, r23.2.1.Epoch, r24.1⟩ : GMsg), r24.2.2))))
 else
 (some (b0, b1, b2)))))))))))))))
 else
 (bif (b1.Kind == 4) then
 (bif (b1.Kind == 4) then
 ((zp N b0 b2).bind fun r25 =>
 ((zn N r25.2.1 (⟨b1.Kind, b1.From, b1.To, r25.1, b1.Slot, b1.List_, b1.Entry, b1.Number, b1.Vector_, b1.Clock, b1.Origin, b1.Ops, b1.Epoch, b1.Part⟩ : GMsg) r25.2.2).bind fun r26 =>
 (some (r26.1, r26.2.1, r26.2.2))))
 else
 (bif (b1.Kind == 2) then
 ((zp N b0 b2).bind fun r27 =>
 ((zn N r27.2.1 (⟨b1.Kind, b1.From, b1.To, r27.1, b1.Slot, b1.List_, b1.Entry, b1.Number, b1.Vector_, b1.Clock, b1.Origin, b1.Ops, b1.Epoch, b1.Part⟩ : GMsg) r27.2.2).bind fun r28 =>
 ((z11 N r28.1 r28.2.2).bind fun r29 =>
 (some (r29.2.1, (⟨r28.2.1.Kind, r28.2.1.From, r28.2.1.To, r28.2.1.Ballot, r28.2.1.Slot, r29.1, r28.2.1.Entry, r28.2.1.Number, r28.2.1.Vector_, r28.2.1.Clock, r28.2.1.Origin, r28.2.1.Ops, r28.2.1.Epoch, r28.2.1.Part⟩ : GMsg), r29.2.2)))))
 else
 (bif (b1.Kind == 3) then
 ((zp N b0 b2).bind fun r30 =>
 ((z11 N r30.2.1 r30.2.2).bind fun r31 =>
 (some (r31.2.1, (⟨b1.Kind, b1.From, b1.To, r30.1, b1.Slot, r31.1, b1.Entry, b1.Number, b1.Vector_, b1.Clock, b1.Origin, b1.Ops, b1.Epoch, b1.Part⟩ : GMsg), r31.2.2))))
 else
 (bif (b1.Kind == 5) then
 ((zp N b0 b2).bind fun r32 =>
 (some (r32.2.1, (⟨b1.Kind, b1.From, b1.To, r32.1, b1.Slot, b1.List_, b1.Entry, b1.Number, b1.Vector_, b1.Clock, b1.Origin, b1.Ops, b1.Epoch, b1.Part⟩ : GMsg), r32.2.2)))
 else
 (bif (b1.Kind == 6) then
 ((z11 N b0 b2).bind fun r33 =>
 (some (r33.2.1, (⟨b1.Kind, b1.From, b1.To, b1.Ballot, b1.Slot, r33.1, b1.Entry, b1.Number, b1.Vector_, b1.Clock, b1.Origin, b1.Ops, b1.Epoch, b1.Part⟩ : GMsg), r33.2.2)))
 else
 (bif (b1.Kind == 8) then
 ((zn N b0 b1 b2).bind fun r34 =>
 (some (r34.1, r34.2.1, r34.2.2)))
 else
 (bif (b1.Kind == 9) then
 ((z2h N b0 b2).bind fun r35 =>
 (some (r35.2.1, (⟨b1.Kind, b1.From, b1.To, b1.Ballot, b1.Slot, b1.List_, r35.1, b1.Number, b1.Vector_, b1.Clock, b1.Origin, b1.Ops, b1.Epoch, b1.Part⟩ : GMsg), r35.2.2)))
 else
 (bif (b1.Kind == 10) then
 ((z12 N b0 b1 b2).bind fun r36 =>
 ((z1d N r36.1 r36.2.1 r36.2.2).bind fun r37 =>
 ((z4g N r37.1 r37.2.1 r37.2.2).bind fun r38 =>
 (some (r38.1, r38.2.1, r38.2.2)))))
 else
 (bif (b1.Kind == 11) then
 ((z12 N b0 b1 b2).bind fun r39 =>
 ((z3f N r39.1 r39.2.1 r39.2.2).bind fun r40 =>
 ((zn N r40.1 r40.2.1 r40.2.2).bind fun r41 =>
 ((z39 N r41.1 r41.2.2).bind fun r42 =>
 (some (r42.2.1, (⟨r41.2.1.Kind, r41.2.1.From, r41.2.1.To, r41.2.1.Ballot, r41.2.1.Slot, r41.2.1.List_, r41.2.1.Entry, r41.2.1.Number, r41.2.1.Vector_, r41.2.1.Clock, r41.2.1.Origin, r42.1, r41.2.1.Epoch, r41.2.1.Part⟩ : GMsg), r42.2.2))))))
 else
 (bif (b1.Kind == 12) then
 ((z2g N b0 b2).bind fun r43 =>
 (some (r43.2.1, (⟨b1.Kind, b1.From, b1.To, b1.Ballot, b1.Slot, b1.List_, b1.Entry, b1.Number, b1.Vector_, b1.Clock, b1.Origin, b1.Ops, r43.1, b1.Part⟩ : GMsg), r43.2.2)))
 else
 (bif (b1.Kind == 13) then
 ((z1a N b0 b2).bind fun r44 =>
 (some (r44.2.1, (⟨b1.Kind, b1.From, b1.To, b1.Ballot, b1.Slot, b1.List_, b1.Entry, b1.Number, b1.Vector_, b1.Clock, b1.Origin, b1.Ops, b1.Epoch, r44.1⟩ : GMsg), r44.2.2)))
 else
 (bif (b1.Kind == 14) then
 ((z12 N b0 b1 b2).bind fun r45 =>
 ((z1d N r45.1 r45.2.1 r45.2.2).bind fun r46 =>
 (some (r46.1, r46.2.1, r46.2.2))))
 else
 (bif (b1.Kind == 15) then
 ((zn N b0 b1 b2).bind fun r47 =>
 ((z1a N r47.1 r47.2.2).bind fun r48 =>
 (some (r48.2.1, (⟨r47.2.1.Kind, r47.2.1.From, r47.2.1.To, r47.2.1.Ballot, r47.2.1.Slot, r47.2.1.List_, r47.2.1.Entry, r47.2.1.Number, r47.2.1.Vector_, r47.2.1.Clock, r47.2.1.Origin, r47.2.1.Ops, r47.2.1.Epoch, r48.1⟩ : GMsg), r48.2.2))))
 else
 (some (b0, b1, b2)))))))))))))))
 else
 (bif (b1.Kind == 7) then
 ((zp N b0 b2).bind fun r49 =>
 ((zn N r49.2.1 (⟨b1.Kind, b1.From, b1.To, r49.1, b1.Slot, b1.List_, b1.Entry, b1.Number, b1.Vector_, b1.Clock, b1.Origin, b1.Ops, b1.Epoch, b1.Part⟩ : GMsg) r49.2.2).bind fun r50 =>
 (some (r50.1, r50.2.1, r50.2.2))))
 else
 (bif (b1.Kind == 2) then
 ((zp N b0 b2).bind fun r51 =>
 ((zn N r51.2.1 (⟨b1.Kind, b1.From, b1.To, r51.1, b1.Slot, b1.List_, b1.Entry, b1.Number, b1.Vector_, b1.Clock, b1.Origin, b1.Ops, b1.Epoch, b1.Part⟩ : GMsg) r51.2.2).bind fun r52 =>
 ((z11 N r52.1 r52.2.2).bind fun r53 =>
 (some (r53.2.1, (⟨r52.2.1.Kind, r52.2.1.From, r52.2.1.To, r52.2.1.Ballot, r52.2.1.Slot, r53.1, r52.2.1.Entry, r52.2.1.Number, r52.2.1.Vector_, r52.2.1.Clock, r52.2.1.Origin, r52.2.1.Ops, r52.2.1.Epoch, r52.2.1.Part⟩ : GMsg), r53.2.2)))))
 else
 (bif (b1.Kind == 3) then
 ((zp N b0 b2).bind fun r54 =>
 ((z11 N r54.2.1 r54.2.2).bind fun r55 =>
 (some (r55.2.1, (⟨b1.Kind, b1.From, b1.To, r54.1, b1.Slot, r55.1, b1.Entry, b1.Number, b1.Vector_, b1.Clock, b1.Origin, b1.Ops, b1.Epoch, b1.Part⟩ : GMsg), r55.2.2))))
 else
 (bif (b1.Kind == 5) then
 ((zp N b0 b2).bind fun r56 =>
 (some (r56.2.1, (⟨b1.Kind, b1.From, b1.To, r56.1, b1.Slot, b1.List_, b1.Entry, b1.Number, b1.Vector_, b1.Clock, b1.Origin, b1.Ops, b1.Epoch, b1.Part⟩ : GMsg), r56.2.2)))
 else
 (bif (b1.Kind == 6) then
 ((z11 N b0 b2).bind fun r57 =>
 (some (r57.2.1, (⟨b1.Kind, b1.From, b1.To, b1.Ballot, b1.Slot, r57.1, b1.Entry, b1.Number, b1.Vector_, b1.Clock, b1.Origin, b1.Ops, b1.Epoch, b1.Part⟩ : GMsg), r57.2.2)))
 else
 (bif (b1.Kind == 8) then
 ((zn N b0 b1 b2).bind fun r58 =>
 (some (r58.1, r58.2.1, r58.2.2)))
 else
 (bif (b1.Kind == 9) then
 ((z2h N b0 b2).bind fun r59 =>
 (some (r59.2.1, (⟨b1.Kind, b1.From, b1.To, b1.Ballot, b1.Slot, b1.List_, r59.1, b1.Number, b1.Vector_, b1.Clock, b1.Origin, b1.Ops, b1.Epoch, b1.Part⟩ : GMsg), r59.2.2)))
 else
 (bif (b1.Kind == 10) then
 ((z12 N b0 b1 b2).bind fun r60 =>
 ((z1d N r60.1 r60.2.1 r60.2.2).bind fun r61 =>
 ((z4g N r61.1 r61.2.1 r61.2.2).bind fun r62 =>
 (some (r62.1, r62.2.1, r62.2.2)))))
 else
 (bif (b1.Kind == 11) then
 ((z12 N b0 b1 b2).bind fun r63 =>
 ((z3f N r63.1 r63.2.1 r63.2.2).bind fun r64 =>
 ((zn N r64.1 r64.2.1 r64.2.2).bind fun r65 =>
 ((z39 N r65.1 r65.2.2).bind fun r66 =>
 (some (r66.2.1, (⟨r65.2.1.Kind, r65.2.1.From, r65.2.1.To, r65.2.1.Ballot, r65.2.1.Slot, r65.2.1.List_, r65.2.1.Entry, r65.2.1.Number, r65.2.1.Vector_, r65.2.1.Clock, r65.2.1.Origin, r66.1, r65.2.1.Epoch, r65.2.1.Part⟩ : GMsg), r66.2.2))))))
 else
 (bif (b1.Kind == 12) then
 ((z2g N b0 b2).bind fun r67 =>
 (some (r67.2.1, (⟨b1.Kind, b1.From, b1.To, b1.Ballot, b1.Slot, b1.List_, b1.Entry, b1.Number, b1.Vector_, b1.Clock, b1.Origin, b1.Ops, r67.1, b1.Part⟩ : GMsg), r67.2.2)))
 else
 (bif (b1.Kind == 13) then
 ((z1a N b0 b2).bind fun r68 =>
 (some (r68.2.1, (⟨b1.Kind, b1.From, b1.To, b1.Ballot, b1.Slot, b1.List_, b1.Entry, b1.Number, b1.Vector_, b1.Clock, b1.Origin, b1.Ops, b1.Epoch, r68.1⟩ : GMsg), r68.2.2)))
 else
 (bif (b1.Kind == 14) then
 ((z12 N b0 b1 b2).bind fun r69 =>
 ((z1d N r69.1 r69.2.1 r69.2.2).bind fun r70 =>
 (some (r70.1, r70.2.1, r70.2.2))))
 else
 (bif (b1.Kind == 15) then
 ((zn N b0 b1 b2).bind fun r71 =>
 ((z1a N r71.1 r71.2.2).bind fun r72 =>
 (some (r72.2.1, (⟨r71.2.1.Kind, r71.2.1.From, r71.2.1.To, r71.2.1.Ballot, r71.2.1.Slot, r71.2.1.List_, r71.2.1.Entry, r71.2.1.Number, r71.2.1.Vector_, r71.2.1.Clock, r71.2.1.Origin, r71.2.1.Ops, r71.2.1.Epoch, r72.1⟩ : GMsg), r72.2.2))))
 else
 (some (b0, b1, b2)))))))))))))))))
def z6l : Con τ := { args := [.ptr 0 [], .ptr 1 []], L := [.box (.agg [.ptr 2 [], .ty 48]), .box (.ty 43), .box (.ty 186)], ret := .tup [], L' := [.box (.agg [.ptr 2 [], .ty 48]), .box (.ty 43), .box (.ty 186)], R := Int × GMsg × z4, dflt := (default, default, default), F := fun N a b => z7d N b.1.2.1 b.2.1 b.2.2.1, of := fun r => ((), (((), r.1, ()), r.2.1, r.2.2, ())) }
noncomputable def zk0 : Dat τ := { D := D0, tbl := tblOf [(147, z2z), (148, z6u), (149, z6i), (150, z36), (148, z6j), (151, z54), (148, z6k), (121, z55), (152, z3p), (153, z35), (154, z3e)], lp := lpsOf [], k0 := 3, mu := [], un := [] }
theorem zlb : ConOk E C 122 z6l :=
  z9 (D := zk0) ⟨d0Ok, eGood, z7 ⟨z9e, ⟨zm9, ⟨zl8, ⟨zac, ⟨zl9, ⟨zi0, ⟨zla, ⟨zi1, ⟨zby, ⟨za7, ⟨zbe, trivial⟩⟩⟩⟩⟩⟩⟩⟩⟩⟩⟩, fun _ => rfl⟩ z6l (fun a b => (b.1.2.1, b.2.1, b.2.2.1)) none (fun _ _ => rfl) rfl (fun _ _ h => nomatch h) 1000000 (fn := Tryz.f122) Tryz.func122 rfl (by kernel_rfl) (by kernel_rfl) rfl (by intro N a b; kernel_rfl)
def z99 (N : Nat) (b0 : Int) (b1 : z4) : Option (GMsg × Int × z4) :=
 ((zal N b0 (⟨0, (⟨0, 0⟩ : GAddr), (⟨0, 0⟩ : GAddr), (⟨0, 0⟩ : zq), 0, [], (⟨0, 0, 0, (⟨(⟨0, 0⟩ : zx), 0, 0, 0, [], [], []⟩ : GOp), 0, 0, [], (⟨0, (Vector.replicate 8 (default : Int)), (Vector.replicate 8 (default : Int)), (Vector.replicate 8 (default : Int))⟩ : za), 0, (Vector.replicate 8 (default : Int)), 0, (⟨0, 0, 0, []⟩ : GPart), 0, 0, 0⟩ : zd), 0, (Vector.replicate 8 (default : Int)), 0, 0, [], (⟨0, (Vector.replicate 8 (default : Int)), (Vector.replicate 8 (default : Int)), (Vector.replicate 8 (default : Int))⟩ : za), (⟨0, 0, 0, []⟩ : GPart)⟩ : GMsg) b1).bind fun r1 =>
 (bif ((r1.1 == 0) && ((decide (r1.2.1.Kind < 1)) || (decide (15 < r1.2.1.Kind)))) then
 ((z6s N 40 r1.2.1 r1.2.2).bind fun r2 =>
 ((z7d N r2.1 r2.2.1 r2.2.2).bind fun r3 =>
 (some (r3.2.1, r3.1, r3.2.2))))
 else
 ((z6s N r1.1 r1.2.1 r1.2.2).bind fun r4 =>
 ((z7d N r4.1 r4.2.1 r4.2.2).bind fun r5 =>
 (some (r5.2.1, r5.1, r5.2.2))))))
def z4h : Con τ := { args := [.ptr 0 []], L := [.box (.agg [.ptr 1 [], .ty 48]), .box (.ty 186)], ret := .ty 43, L' := [.box (.agg [.ptr 1 [], .ty 48]), .box (.ty 186)], R := GMsg × Int × z4, dflt := (default, default, default), F := fun N a b => z99 N b.1.2.1 b.2.1, of := fun r => (r.1, (((), r.2.1, ()), r.2.2, ())) }
noncomputable def zfj : Dat τ := { D := D0, tbl := tblOf [(121, z5i), (121, z5j), (122, z6l)], lp := lpsOf [], k0 := 2, mu := [], un := [] }
theorem zg7 : ConOk E C 79 z4h :=
  z9 (D := zfj) ⟨d0Ok, eGood, z7 ⟨zik, ⟨zil, ⟨zlb, trivial⟩⟩⟩, fun _ => rfl⟩ z4h (fun a b => (a, b.1.2.1, b.2.1)) none (fun _ _ => rfl) rfl (fun _ _ h => nomatch h) 1000000 (fn := Tryz.f79) Tryz.func79 rfl (by kernel_rfl) (by kernel_rfl) rfl (by intro N a b; kernel_rfl)
def zet (N : Nat) (b0 : z4) : Option (Int × z4) :=
 ((z64 N b0).bind fun r1 =>
 (bif r1.1 then
 (some (2, r1.2))
 else
 (bif (decide (0 < ((r1.2.b).length : Int))) then
 (some (13, r1.2))
 else
 (some (0, r1.2)))))
def z7y : Con τ := { args := [.ptr 0 []], L := [.box (.ty 186)], ret := .ty 48, L' := [.box (.ty 186)], R := Int × z4, dflt := (default, default), F := fun N a b => zet N b.1, of := fun r => (r.1, (r.2, ())) }
noncomputable def zo2 : Dat τ := { D := D0, tbl := tblOf [(123, z2x)], lp := lpsOf [], k0 := 1, mu := [], un := [] }
theorem zop : ConOk E C 81 z7y :=
  z9 (D := zo2) ⟨d0Ok, eGood, z7 ⟨z82, trivial⟩, fun _ => rfl⟩ z7y (fun a b => (a, b.1)) none (fun _ _ => rfl) rfl (fun _ _ h => nomatch h) 1000000 (fn := Tryz.f81) Tryz.func81 rfl (by kernel_rfl) (by kernel_rfl) rfl (by intro N a b; kernel_rfl)
def zlc (N : Nat) (b : List (Int)) : Option (GMsg × Int) :=
 ((ztx N b).bind fun r1 =>
 (bif (!(r1.2.2 == 0)) then
 (some ((⟨0, (⟨0, 0⟩ : GAddr), (⟨0, 0⟩ : GAddr), (⟨0, 0⟩ : zq), 0, [], (⟨0, 0, 0, (⟨(⟨0, 0⟩ : zx), 0, 0, 0, [], [], []⟩ : GOp), 0, 0, [], (⟨0, (Vector.replicate 8 (default : Int)), (Vector.replicate 8 (default : Int)), (Vector.replicate 8 (default : Int))⟩ : za), 0, (Vector.replicate 8 (default : Int)), 0, (⟨0, 0, 0, []⟩ : GPart), 0, 0, 0⟩ : zd), 0, (Vector.replicate 8 (default : Int)), 0, 0, [], (⟨0, (Vector.replicate 8 (default : Int)), (Vector.replicate 8 (default : Int)), (Vector.replicate 8 (default : Int))⟩ : za), (⟨0, 0, 0, []⟩ : GPart)⟩ : GMsg), r1.2.2))
 else
 (bif (decide (r1.2.1 < ((b).length : Int))) then
 (some ((⟨0, (⟨0, 0⟩ : GAddr), (⟨0, 0⟩ : GAddr), (⟨0, 0⟩ : zq), 0, [], (⟨0, 0, 0, (⟨(⟨0, 0⟩ : zx), 0, 0, 0, [], [], []⟩ : GOp), 0, 0, [], (⟨0, (Vector.replicate 8 (default : Int)), (Vector.replicate 8 (default : Int)), (Vector.replicate 8 (default : Int))⟩ : za), 0, (Vector.replicate 8 (default : Int)), 0, (⟨0, 0, 0, []⟩ : GPart), 0, 0, 0⟩ : zd), 0, (Vector.replicate 8 (default : Int)), 0, 0, [], (⟨0, (Vector.replicate 8 (default : Int)), (Vector.replicate 8 (default : Int)), (Vector.replicate 8 (default : Int))⟩ : za), (⟨0, 0, 0, []⟩ : GPart)⟩ : GMsg), 13))
 else
 ((zpo N r1.1).bind fun r2 =>
 ((z99 N 0 r2).bind fun r3 =>
 ((zet N r3.2.2).bind fun r4 =>
 ((z2y N r4.1 r3.2.1 r4.2).bind fun r5 =>
 (bif (r5.1 == 0) then
 ((zem N r3.1).bind fun r6 =>
 (bif (!(r6 == 0)) then
 (some ((⟨0, (⟨0, 0⟩ : GAddr), (⟨0, 0⟩ : GAddr), (⟨0, 0⟩ : zq), 0, [], (⟨0, 0, 0, (⟨(⟨0, 0⟩ : zx), 0, 0, 0, [], [], []⟩ : GOp), 0, 0, [], (⟨0, (Vector.replicate 8 (default : Int)), (Vector.replicate 8 (default : Int)), (Vector.replicate 8 (default : Int))⟩ : za), 0, (Vector.replicate 8 (default : Int)), 0, (⟨0, 0, 0, []⟩ : GPart), 0, 0, 0⟩ : zd), 0, (Vector.replicate 8 (default : Int)), 0, 0, [], (⟨0, (Vector.replicate 8 (default : Int)), (Vector.replicate 8 (default : Int)), (Vector.replicate 8 (default : Int))⟩ : za), (⟨0, 0, 0, []⟩ : GPart)⟩ : GMsg), r6))
 else
 (some (r3.1, 0))))
 else
 (bif (!(r5.1 == 0)) then
 (some ((⟨0, (⟨0, 0⟩ : GAddr), (⟨0, 0⟩ : GAddr), (⟨0, 0⟩ : zq), 0, [], (⟨0, 0, 0, (⟨(⟨0, 0⟩ : zx), 0, 0, 0, [], [], []⟩ : GOp), 0, 0, [], (⟨0, (Vector.replicate 8 (default : Int)), (Vector.replicate 8 (default : Int)), (Vector.replicate 8 (default : Int))⟩ : za), 0, (Vector.replicate 8 (default : Int)), 0, (⟨0, 0, 0, []⟩ : GPart), 0, 0, 0⟩ : zd), 0, (Vector.replicate 8 (default : Int)), 0, 0, [], (⟨0, (Vector.replicate 8 (default : Int)), (Vector.replicate 8 (default : Int)), (Vector.replicate 8 (default : Int))⟩ : za), (⟨0, 0, 0, []⟩ : GPart)⟩ : GMsg), r5.1))
 else
 (some (r3.1, 0)))))))))))
def zau : Con τ := { args := [.ty 37], L := [], ret := .tup [.ty 43, .ty 48], L' := [], R := GMsg × Int, dflt := (default, default), F := fun N a b => zlc N a.1, of := fun r => ((r.1, r.2, ()), ()) }
noncomputable def zri : Dat τ := { D := D0, tbl := tblOf [(77, zhe), (78, zdm), (79, z4h), (81, z7y), (80, z1q), (51, z8b)], lp := lpsOf [], k0 := 0, mu := [], un := [] }
theorem zt3 : ConOk E C 33 zau :=
  z9 (D := zri) ⟨d0Ok, eGood, z7 ⟨zz5, ⟨zwj, ⟨zg7, ⟨zop, ⟨z3t, ⟨zlt, trivial⟩⟩⟩⟩⟩⟩, fun _ => rfl⟩ zau (fun a b => (a.1, a.2.1)) none (fun _ _ => rfl) rfl (fun _ _ h => nomatch h) 1000000 (fn := Tryz.f33) Tryz.func33 rfl (by kernel_rfl) (by kernel_rfl) rfl (by intro N a b; kernel_rfl)
def zdc (N : Nat) (number : Int) (b0 : Nat) (b02 : Int) (b03 : Bool) (g1 : List (GSent)) : Option (GMsg × Int × Nat × Int × Bool × (List (GSent))) :=
 ((z90 N number b0 b02 b03 g1).bind fun r1 =>
 (bif (!(r1.2.1 == 0)) then
 (some ((⟨0, (⟨0, 0⟩ : GAddr), (⟨0, 0⟩ : GAddr), (⟨0, 0⟩ : zq), 0, [], (⟨0, 0, 0, (⟨(⟨0, 0⟩ : zx), 0, 0, 0, [], [], []⟩ : GOp), 0, 0, [], (⟨0, (Vector.replicate 8 (default : Int)), (Vector.replicate 8 (default : Int)), (Vector.replicate 8 (default : Int))⟩ : za), 0, (Vector.replicate 8 (default : Int)), 0, (⟨0, 0, 0, []⟩ : GPart), 0, 0, 0⟩ : zd), 0, (Vector.replicate 8 (default : Int)), 0, 0, [], (⟨0, (Vector.replicate 8 (default : Int)), (Vector.replicate 8 (default : Int)), (Vector.replicate 8 (default : Int))⟩ : za), (⟨0, 0, 0, []⟩ : GPart)⟩ : GMsg), r1.2.1, r1.2.2.1, r1.2.2.2.1, r1.2.2.2.2.1, r1.2.2.2.2.2))
 else
 (bif (ibB r1.1 ((r1.2.2.1 : Nat) : Int)) then
 (bif (decide ((r1.1).toNat < (r1.2.2.2.2.2).length)) then
 ((z7o N r1.2.2.1 r1.1 (IntKind.i64.wrap (r1.1 + 1)) r1.2.2.2.2.2).bind fun r2 =>
 ((zlc N ((r1.2.2.2.2.2.getD ((r1.1).toNat) default).Data)).bind fun r3 =>
 (some (r3.1, r3.2, r2.1, r1.2.2.2.1, r1.2.2.2.2.1, r2.2))))
 else none)
 else none)))
def z7e : Con τ := { args := [.ptr 0 [], .ty 2], L := [.box (.agg [.agg [.msl 65 1, .ty 2], .ty 4]), .gbx 65], ret := .tup [.ty 43, .ty 48], L' := [.box (.agg [.agg [.msl 65 2, .ty 2], .ty 4]), .dead, .gbx 65], R := GMsg × Int × Nat × Int × Bool × (List (GSent)), dflt := (default, default, default, default, default, default), F := fun N a b => zdc N a.2.1 b.1.1.1 b.1.1.2.1 b.1.2.1 b.2.1, of := fun r => ((r.1, r.2.1, ()), (((r.2.2.1, r.2.2.2.1, ()), r.2.2.2.2.1, ()), (), r.2.2.2.2.2, ())) }
noncomputable def zrj : Dat τ := { D := D0, tbl := tblOf [(31, z4q), (32, z3h), (33, zau)], lp := lpsOf [], k0 := 2, mu := [], un := [] }
theorem zis : ConOk E C 13 z7e :=
  z9 (D := zrj) ⟨d0Ok, eGood, z7 ⟨zaq, ⟨zbm, ⟨zt3, trivial⟩⟩⟩, fun _ => rfl⟩ z7e (fun a b => (a.1, a.2.1, b.1.1.1, b.1.1.2.1, b.1.2.1, b.2.2.1)) none (fun _ _ => rfl) rfl (fun _ _ h => nomatch h) 1000000 (fn := Tryz.f13) Tryz.func13 rfl (by kernel_rfl) (by kernel_rfl) rfl (by intro N a b; kernel_rfl)
def zc3 (N : Nat) (b0 : Nat) (b02 : Int) (b03 : Bool) (g1 : List (GSent)) : Option (Int × Bool × Nat × Int × Bool × (List (GSent))) :=
 ((z2i N b0 b02 b03 g1).bind fun r1 =>
 (bif (r1.1 || (((r1.2.1 : Nat) : Int) == 0)) then
 (some (0, false, r1.2.1, r1.2.2.1, r1.2.2.2.1, r1.2.2.2.2))
 else
 (bif (ibB 0 ((r1.2.1 : Nat) : Int)) then
 (bif (decide (0 < (r1.2.2.2.2).length)) then
 (some ((r1.2.2.2.2.getD 0 default).Number, true, r1.2.1, r1.2.2.1, r1.2.2.2.1, r1.2.2.2.2))
 else none)
 else none)))
def z6w : Con τ := { args := [.ptr 0 []], L := [.box (.agg [.agg [.msl 65 1, .ty 2], .ty 4]), .gbx 65], ret := .tup [.ty 2, .ty 4], L' := [.box (.agg [.agg [.msl 65 1, .ty 2], .ty 4]), .gbx 65], R := Int × Bool × Nat × Int × Bool × (List (GSent)), dflt := (default, default, default, default, default, default), F := fun N a b => zc3 N b.1.1.1 b.1.1.2.1 b.1.2.1 b.2.1, of := fun r => ((r.1, r.2.1, ()), (((r.2.2.1, r.2.2.2.1, ()), r.2.2.2.2.1, ()), r.2.2.2.2.2, ())) }
noncomputable def zq8 : Dat τ := { D := D0, tbl := tblOf [(25, z1l)], lp := lpsOf [], k0 := 2, mu := [], un := [] }
theorem zg8 : ConOk E C 19 z6w :=
  z9 (D := zq8) ⟨d0Ok, eGood, z7 ⟨z2s, trivial⟩, fun _ => rfl⟩ z6w (fun a b => (a.1, a.2.1, b.1.1.1, b.1.1.2.1, b.1.2.1, b.2.1)) none (fun _ _ => rfl) rfl (fun _ _ h => nomatch h) 1000000 (fn := Tryz.f19) Tryz.func19 rfl (by kernel_rfl) (by kernel_rfl) rfl (by intro N a b; kernel_rfl)
def ze4 (N : Nat) (b0 : Nat) (b02 : Int) (b03 : Bool) (g1 : List (GSent)) : Option (Int × Nat × Int × Bool × (List (GSent))) :=
 ((z2i N b0 b02 b03 g1).bind fun r1 =>
 (bif r1.1 then
 (some (0, r1.2.1, r1.2.2.1, r1.2.2.2.1, r1.2.2.2.2))
 else
 (some (((r1.2.1 : Nat) : Int), r1.2.1, r1.2.2.1, r1.2.2.2.1, r1.2.2.2.2))))
def z85 : Con τ := { args := [.ptr 0 []], L := [.box (.agg [.agg [.msl 65 1, .ty 2], .ty 4]), .gbx 65], ret := .ty 3, L' := [.box (.agg [.agg [.msl 65 1, .ty 2], .ty 4]), .gbx 65], R := Int × Nat × Int × Bool × (List (GSent)), dflt := (default, default, default, default, default), F := fun N a b => ze4 N b.1.1.1 b.1.1.2.1 b.1.2.1 b.2.1, of := fun r => (r.1, (((r.2.1, r.2.2.1, ()), r.2.2.2.1, ()), r.2.2.2.2, ())) }
noncomputable def zt4 : Dat τ := { D := D0, tbl := tblOf [(25, z1l)], lp := lpsOf [], k0 := 2, mu := [], un := [] }
theorem zld : ConOk E C 15 z85 :=
  z9 (D := zt4) ⟨d0Ok, eGood, z7 ⟨z2s, trivial⟩, fun _ => rfl⟩ z85 (fun a b => (a, b.1.1.1, b.1.1.2.1, b.1.2.1, b.2.1)) none (fun _ _ => rfl) rfl (fun _ _ h => nomatch h) 1000000 (fn := Tryz.f15) Tryz.func15 rfl (by kernel_rfl) (by kernel_rfl) rfl (by intro N a b; kernel_rfl)
def zxa (N : Nat)  : Option (Bool) :=
 ((z13b N).bind fun r1 =>
 ((zs3 N 5).bind fun r2 =>
 ((zs3 N 6).bind fun r3 =>
 ((zm6 N [r2, r3] r1.1 r1.2.1 r1.2.2.1 r1.2.2.2).bind fun r4 =>
 ((zdc N 2 r4.2.2.1 r4.2.2.2.1 r4.2.2.2.2.1 r4.2.2.2.2.2).bind fun r5 =>
 ((zc3 N r5.2.2.1 r5.2.2.2.1 r5.2.2.2.2.1 r5.2.2.2.2.2).bind fun r6 =>
 (bif ((((r4.1 == 2) && (r4.2.1 == 0)) && (r5.2.1 == 0)) && (r5.1.Slot == 6)) then
 ((ze4 N r6.2.2.1 r6.2.2.2.1 r6.2.2.2.2.1 r6.2.2.2.2.2).bind fun r7 =>
 (some (((((((r4.1 == 2) && (r4.2.1 == 0)) && (r5.2.1 == 0)) && (r5.1.Slot == 6)) && (r7.1 == 1)) && r6.2.1) && (r6.1 == 1))))
 else
 (some false))))))))
def zmm : Con τ := { args := [], L := [], ret := .ty 4, L' := [], R := Bool, dflt := default, F := fun N a b => zxa N , of := fun r => (r, ()) }
noncomputable def z10e : Dat τ := { D := D0, tbl := tblOf [(8, zut), (24, zmu), (10, zba), (13, z7e), (19, z6w), (15, z85)], lp := lpsOf [], k0 := 0, mu := [], un := [] }
theorem z11g : ConOk E C 9 zmm :=
  z9 (D := z10e) ⟨d0Ok, eGood, z7 ⟨oknet_New, ⟨z11h, ⟨ztw, ⟨zis, ⟨zg8, ⟨zld, trivial⟩⟩⟩⟩⟩⟩, fun _ => rfl⟩ zmm (fun a b => a) none (fun _ _ => rfl) rfl (fun _ _ h => nomatch h) 1000000 (fn := Tryz.f9) Tryz.func9 rfl (by kernel_rfl) (by kernel_rfl) rfl (by intro N a b; kernel_rfl)
def zuh (N : Nat)  : Option (Bool) :=
 (some true)
def z1k : Con τ := { args := [.nil .ptr], L := [], ret := .ty 4, L' := [], R := Bool, dflt := default, F := fun N a b => zuh N , of := fun r => (r, ()) }
noncomputable def zrk : Dat τ := { D := D0, tbl := tblOf [], lp := lpsOf [], k0 := 0, mu := [], un := [] }
theorem z2r : ConOk E C 25 z1k :=
  z9 (D := zrk) ⟨d0Ok, eGood, z7 trivial, fun _ => rfl⟩ z1k (fun a b => a) none (fun _ _ => rfl) rfl (fun _ _ h => nomatch h) 1000000 (fn := Tryz.f25) Tryz.func25 rfl (by kernel_rfl) (by kernel_rfl) rfl (by intro N a b; kernel_rfl)
def zui (N : Nat) (l : List (GMsg)) : Option (Int × Int) :=
 (some (0, 2))
def zav : Con τ := { args := [.nil .ptr, .ty 59], L := [], ret := .tup [.ty 3, .ty 48], L' := [], R := Int × Int, dflt := (default, default), F := fun N a b => zui N a.2.1, of := fun r => ((r.1, r.2, ()), ()) }
noncomputable def zrl : Dat τ := { D := D0, tbl := tblOf [(25, z1k)], lp := lpsOf [], k0 := 0, mu := [], un := [] }
theorem zt5 : ConOk E C 10 zav :=
  z9 (D := zrl) ⟨d0Ok, eGood, z7 ⟨z2r, trivial⟩, fun _ => rfl⟩ zav (fun a b => (a.1, a.2.1)) none (fun _ _ => rfl) rfl (fun _ _ h => nomatch h) 1000000 (fn := Tryz.f10) Tryz.func10 rfl (by kernel_rfl) (by kernel_rfl) rfl (by intro N a b; kernel_rfl)
def zxb (N : Nat) (number : Int) : Option (Int × Int) :=
 (some (0, 2))
def z4p : Con τ := { args := [.nil .ptr, .ty 2], L := [], ret := .tup [.ty 3, .ty 48], L' := [], R := Int × Int, dflt := (default, default), F := fun N a b => zxb N a.2.1, of := fun r => ((r.1, r.2, ()), ()) }
noncomputable def zuj : Dat τ := { D := D0, tbl := tblOf [(25, z1k)], lp := lpsOf [], k0 := 0, mu := [], un := [] }
theorem zan : ConOk E C 31 z4p :=
  z9 (D := zuj) ⟨d0Ok, eGood, z7 ⟨z2r, trivial⟩, fun _ => rfl⟩ z4p (fun a b => (a.1, a.2.1)) none (fun _ _ => rfl) rfl (fun _ _ h => nomatch h) 1000000 (fn := Tryz.f31) Tryz.func31 rfl (by kernel_rfl) (by kernel_rfl) rfl (by intro N a b; kernel_rfl)
def zle (N : Nat) (number : Int) : Option (GMsg × Int) :=
 (some ((⟨0, (⟨0, 0⟩ : GAddr), (⟨0, 0⟩ : GAddr), (⟨0, 0⟩ : zq), 0, [], (⟨0, 0, 0, (⟨(⟨0, 0⟩ : zx), 0, 0, 0, [], [], []⟩ : GOp), 0, 0, [], (⟨0, (Vector.replicate 8 (default : Int)), (Vector.replicate 8 (default : Int)), (Vector.replicate 8 (default : Int))⟩ : za), 0, (Vector.replicate 8 (default : Int)), 0, (⟨0, 0, 0, []⟩ : GPart), 0, 0, 0⟩ : zd), 0, (Vector.replicate 8 (default : Int)), 0, 0, [], (⟨0, (Vector.replicate 8 (default : Int)), (Vector.replicate 8 (default : Int)), (Vector.replicate 8 (default : Int))⟩ : za), (⟨0, 0, 0, []⟩ : GPart)⟩ : GMsg), 2))
def zaw : Con τ := { args := [.nil .ptr, .ty 2], L := [], ret := .tup [.ty 43, .ty 48], L' := [], R := GMsg × Int, dflt := (default, default), F := fun N a b => zle N a.2.1, of := fun r => ((r.1, r.2, ()), ()) }
noncomputable def zrm : Dat τ := { D := D0, tbl := tblOf [(31, z4p)], lp := lpsOf [], k0 := 0, mu := [], un := [] }
theorem zt6 : ConOk E C 13 zaw :=
  z9 (D := zrm) ⟨d0Ok, eGood, z7 ⟨zan, trivial⟩, fun _ => rfl⟩ zaw (fun a b => (a.1, a.2.1)) none (fun _ _ => rfl) rfl (fun _ _ h => nomatch h) 1000000 (fn := Tryz.f13) Tryz.func13 rfl (by kernel_rfl) (by kernel_rfl) rfl (by intro N a b; kernel_rfl)
def zrn (N : Nat) (number : Int) : Option (Int × Int) :=
 (some (0, 2))
def z8h : Con τ := { args := [.nil .ptr, .ty 2], L := [], ret := .tup [.ty 2, .ty 48], L' := [], R := Int × Int, dflt := (default, default), F := fun N a b => zrn N a.2.1, of := fun r => ((r.1, r.2, ()), ()) }
noncomputable def zoq : Dat τ := { D := D0, tbl := tblOf [(31, z4p)], lp := lpsOf [], k0 := 0, mu := [], un := [] }
theorem zq9 : ConOk E C 17 z8h :=
  z9 (D := zoq) ⟨d0Ok, eGood, z7 ⟨zan, trivial⟩, fun _ => rfl⟩ z8h (fun a b => (a.1, a.2.1)) none (fun _ _ => rfl) rfl (fun _ _ h => nomatch h) 1000000 (fn := Tryz.f17) Tryz.func17 rfl (by kernel_rfl) (by kernel_rfl) rfl (by intro N a b; kernel_rfl)
def zt7 (N : Nat)  : Option (Int × Bool) :=
 (some (0, false))
def z9h : Con τ := { args := [.nil .ptr], L := [], ret := .tup [.ty 2, .ty 4], L' := [], R := Int × Bool, dflt := (default, default), F := fun N a b => zt7 N , of := fun r => ((r.1, r.2, ()), ()) }
noncomputable def zqa : Dat τ := { D := D0, tbl := tblOf [(25, z1k)], lp := lpsOf [], k0 := 0, mu := [], un := [] }
theorem zro : ConOk E C 19 z9h :=
  z9 (D := zqa) ⟨d0Ok, eGood, z7 ⟨z2r, trivial⟩, fun _ => rfl⟩ z9h (fun a b => (a.1, a.2.1)) none (fun _ _ => rfl) rfl (fun _ _ h => nomatch h) 1000000 (fn := Tryz.f19) Tryz.func19 rfl (by kernel_rfl) (by kernel_rfl) rfl (by intro N a b; kernel_rfl)
structure z7r where
  i : Int
def zdd : List Sl := [.k, .k, .k, .k, .j, .sh (.ty 2), .k, .k, .k, .k, .k, .j, .j, .j, .j, .j, .j, .j, .j, .j, .j, .j, .j, .j, .j, .j]
def zde : List ESh := []
def zuk (a : Sl.Ts τ zdd) (b : ESh.Ts τ zde) : z7r := ⟨a.2.2.2.2.2.1⟩
def zul (s : z7r) : Sl.Ts τ zdd := ((), (), (), (), (), s.i, (), (), (), (), (), (), (), (), (), (), (), (), (), (), (), (), (), (), (), (), ())
def zum (s : z7r) : ESh.Ts τ zde := ()
def zun : Lp τ := { ts := zdd, hs := zde, S := z7r, to := zuk, ot := zul, oh := zum, hk := [], tk := [], ot_to := fun _ _ => rfl, oh_to := fun _ _ => rfl }
def zk1 (N : Nat) (a : List (GOp)) (b : List (GOp)) : Option (Bool) :=
 (bif (!(((a).length : Int) == ((b).length : Int))) then
 (some false)
 else
 (iter N (fun (s1 : z7r) next2 =>
 (bif (decide (s1.i < ((a).length : Int))) then
 (bif (ibB s1.i ((a).length : Int)) then
 (bif (ibB s1.i ((b).length : Int)) then
 (bif (!((((((lget a s1.i default).Stamp).Time) == (((lget b s1.i default).Stamp).Time)) && ((((lget a s1.i default).Stamp).Site) == (((lget b s1.i default).Stamp).Site))) && ((((lget a s1.i default).Kind) == ((lget b s1.i default).Kind)) && ((((lget a s1.i default).Node) == ((lget b s1.i default).Node)) && ((((lget a s1.i default).Parent) == ((lget b s1.i default).Parent)) && ((((lget a s1.i default).Name) == ((lget b s1.i default).Name)) && ((((lget a s1.i default).Key) == ((lget b s1.i default).Key)) && (((lget a s1.i default).Value) == ((lget b s1.i default).Value))))))))) then
 (some false)
 else
 (next2 ⟨(IntKind.i64.wrap (s1.i + 1))⟩))
 else none)
 else none)
 else
 (some true))) ⟨0⟩))
def zao : Con τ := { args := [.ty 31, .ty 31], L := [], ret := .ty 4, L' := [], R := Bool, dflt := default, F := fun N a b => zk1 N a.1 a.2.1, of := fun r => (r, ()) }
noncomputable def zvz : Dat τ := { D := D0, tbl := tblOf [], lp := lpsOf [(4, zun)], k0 := 0, mu := [], un := [] }
theorem zor : ConOk E C 36 zao :=
  z9 (D := zvz) ⟨d0Ok, eGood, z7 trivial, fun _ => rfl⟩ zao (fun a b => a) none (fun _ _ => rfl) rfl (fun _ _ h => nomatch h) 1000000 (fn := Tryz.f36) Tryz.func36 rfl (by kernel_rfl) (by kernel_rfl) rfl (by intro N a b; kernel_rfl)
def zg9 (N : Nat) (a : GPart) (b : GPart) : Option (Bool) :=
 (some ((((a.Snap == b.Snap) && (a.Index == b.Index)) && (a.Many == b.Many)) && ((strI a.Data) == (strI b.Data))))
def z95 : Con τ := { args := [.ty 39, .ty 39], L := [], ret := .ty 4, L' := [], R := Bool, dflt := default, F := fun N a b => zg9 N a.1 a.2.1, of := fun r => (r, ()) }
noncomputable def zuo : Dat τ := { D := D0, tbl := tblOf [], lp := lpsOf [], k0 := 0, mu := [], un := [] }
theorem znp : ConOk E C 37 z95 :=
  z9 (D := zuo) ⟨d0Ok, eGood, z7 trivial, fun _ => rfl⟩ z95 (fun a b => a) none (fun _ _ => rfl) rfl (fun _ _ h => nomatch h) 1000000 (fn := Tryz.f37) Tryz.func37 rfl (by kernel_rfl) (by kernel_rfl) rfl (by intro N a b; kernel_rfl)
def ze5 (N : Nat) (a : zd) (b : zd) : Option (Bool) :=
 ((bif ((((((a.Kind == b.Kind) && (a.Session == b.Session)) && (a.Request == b.Request)) && (((a.Op.Stamp.Time == b.Op.Stamp.Time) && (a.Op.Stamp.Site == b.Op.Stamp.Site)) && ((a.Op.Kind == b.Op.Kind) && ((a.Op.Node == b.Op.Node) && ((a.Op.Parent == b.Op.Parent) && ((a.Op.Name == b.Op.Name) && ((a.Op.Key == b.Op.Key) && (a.Op.Value == b.Op.Value)))))))) && (a.Origin == b.Origin)) && (a.Seq == b.Seq)) then zk1 N a.Ops b.Ops else some default).bind fun r1 =>
 ((bif (((((((((((a.Kind == b.Kind) && (a.Session == b.Session)) && (a.Request == b.Request)) && (((a.Op.Stamp.Time == b.Op.Stamp.Time) && (a.Op.Stamp.Site == b.Op.Stamp.Site)) && ((a.Op.Kind == b.Op.Kind) && ((a.Op.Node == b.Op.Node) && ((a.Op.Parent == b.Op.Parent) && ((a.Op.Name == b.Op.Name) && ((a.Op.Key == b.Op.Key) && (a.Op.Value == b.Op.Value)))))))) && (a.Origin == b.Origin)) && (a.Seq == b.Seq)) && r1) && ((a.Epoch.Number == b.Epoch.Number) && ((vbeq beq3 a.Epoch.States b.Epoch.States) && ((vbeq beq2 a.Epoch.Seals b.Epoch.Seals) && (vbeq beq3 a.Epoch.Sponsor b.Epoch.Sponsor))))) && (a.From == b.From)) && (vbeq beq2 a.Vector_ b.Vector_)) && (a.Clock == b.Clock)) then zg9 N a.Part b.Part else some default).bind fun r2 =>
 (some (((((((((((((((a.Kind == b.Kind) && (a.Session == b.Session)) && (a.Request == b.Request)) && (((a.Op.Stamp.Time == b.Op.Stamp.Time) && (a.Op.Stamp.Site == b.Op.Stamp.Site)) && ((a.Op.Kind == b.Op.Kind) && ((a.Op.Node == b.Op.Node) && ((a.Op.Parent == b.Op.Parent) && ((a.Op.Name == b.Op.Name) && ((a.Op.Key == b.Op.Key) && (a.Op.Value == b.Op.Value)))))))) && (a.Origin == b.Origin)) && (a.Seq == b.Seq)) && r1) && ((a.Epoch.Number == b.Epoch.Number) && ((vbeq beq3 a.Epoch.States b.Epoch.States) && ((vbeq beq2 a.Epoch.Seals b.Epoch.Seals) && (vbeq beq3 a.Epoch.Sponsor b.Epoch.Sponsor))))) && (a.From == b.From)) && (vbeq beq2 a.Vector_ b.Vector_)) && (a.Clock == b.Clock)) && r2) && (a.Site == b.Site)) && (a.Sponsor == b.Sponsor)) && (a.Length == b.Length)))))
def z86 : Con τ := { args := [.ty 41, .ty 41], L := [], ret := .ty 4, L' := [], R := Bool, dflt := default, F := fun N a b => ze5 N a.1 a.2.1, of := fun r => (r, ()) }
noncomputable def zt8 : Dat τ := { D := D0, tbl := tblOf [(36, zao), (37, z95)], lp := lpsOf [], k0 := 0, mu := [], un := [] }
theorem zlf : ConOk E C 35 z86 :=
  z9 (D := zt8) ⟨d0Ok, eGood, z7 ⟨zor, ⟨znp, trivial⟩⟩, fun _ => rfl⟩ z86 (fun a b => a) none (fun _ _ => rfl) rfl (fun _ _ h => nomatch h) 1000000 (fn := Tryz.f35) Tryz.func35 rfl (by kernel_rfl) (by kernel_rfl) rfl (by intro N a b; kernel_rfl)
def zit (N : Nat) (a : zv) (b : zv) : Option (Bool) :=
 ((bif ((a.Slot == b.Slot) && ((a.Ballot.Round == b.Ballot.Round) && (a.Ballot.Replica == b.Ballot.Replica))) then ze5 N a.Entry b.Entry else some default).bind fun r1 =>
 (some (((a.Slot == b.Slot) && ((a.Ballot.Round == b.Ballot.Round) && (a.Ballot.Replica == b.Ballot.Replica))) && r1)))
def z9i : Con τ := { args := [.ty 155, .ty 155], L := [], ret := .ty 4, L' := [], R := Bool, dflt := default, F := fun N a b => zit N a.1 a.2.1, of := fun r => (r, ()) }
noncomputable def zqb : Dat τ := { D := D0, tbl := tblOf [(35, z86)], lp := lpsOf [], k0 := 0, mu := [], un := [] }
theorem zrp : ConOk E C 82 z9i :=
  z9 (D := zqb) ⟨d0Ok, eGood, z7 ⟨zlf, trivial⟩, fun _ => rfl⟩ z9i (fun a b => a) none (fun _ _ => rfl) rfl (fun _ _ h => nomatch h) 1000000 (fn := Tryz.f82) Tryz.func82 rfl (by kernel_rfl) (by kernel_rfl) rfl (by intro N a b; kernel_rfl)
structure z6z where
  i : Int
def zc4 : List Sl := [.k, .k, .k, .k, .j, .sh (.ty 2), .k, .k, .k, .k, .k, .j, .j, .j, .j, .j, .j, .j, .j, .j, .j, .j, .j, .j, .j, .j, .j]
def zc5 : List ESh := []
def zt9 (a : Sl.Ts τ zc4) (b : ESh.Ts τ zc5) : z6z := ⟨a.2.2.2.2.2.1⟩
def zta (s : z6z) : Sl.Ts τ zc4 := ((), (), (), (), (), s.i, (), (), (), (), (), (), (), (), (), (), (), (), (), (), (), (), (), (), (), (), (), ())
def ztb (s : z6z) : ESh.Ts τ zc5 := ()
def ztc : Lp τ := { ts := zc4, hs := zc5, S := z6z, to := zt9, ot := zta, oh := ztb, hk := [], tk := [], ot_to := fun _ _ => rfl, oh_to := fun _ _ => rfl }
def zos (N : Nat) (a : List (zv)) (b : List (zv)) : Option (Bool) :=
 (bif (!(((a).length : Int) == ((b).length : Int))) then
 (some false)
 else
 (iter N (fun (s1 : z6z) next2 =>
 (bif (decide (s1.i < ((a).length : Int))) then
 (bif (ibB s1.i ((a).length : Int)) then
 (bif (ibB s1.i ((b).length : Int)) then
 ((zit N (⟨(lget a s1.i default).Slot, ((lget a s1.i default).Ballot), (⟨((lget a s1.i default).Entry).Kind, ((lget a s1.i default).Entry).Session, ((lget a s1.i default).Entry).Request, (⟨((((lget a s1.i default).Entry).Op).Stamp), (((lget a s1.i default).Entry).Op).Kind, (((lget a s1.i default).Entry).Op).Node, (((lget a s1.i default).Entry).Op).Parent, (((lget a s1.i default).Entry).Op).Name, (((lget a s1.i default).Entry).Op).Key, (((lget a s1.i default).Entry).Op).Value⟩ : GOp), ((lget a s1.i default).Entry).Origin, ((lget a s1.i default).Entry).Seq, ((lget a s1.i default).Entry).Ops, (((lget a s1.i default).Entry).Epoch), ((lget a s1.i default).Entry).From, ((lget a s1.i default).Entry).Vector_, ((lget a s1.i default).Entry).Clock, (((lget a s1.i default).Entry).Part), ((lget a s1.i default).Entry).Site, ((lget a s1.i default).Entry).Sponsor, ((lget a s1.i default).Entry).Length⟩ : zd)⟩ : zv) (⟨(lget b s1.i default).Slot, ((lget b s1.i default).Ballot), (⟨((lget b s1.i default).Entry).Kind, ((lget b s1.i default).Entry).Session, ((lget b s1.i default).Entry).Request, (⟨((((lget b s1.i default).Entry).Op).Stamp), (((lget b s1.i default).Entry).Op).Kind, (((lget b s1.i default).Entry).Op).Node, (((lget b s1.i default).Entry).Op).Parent, (((lget b s1.i default).Entry).Op).Name, (((lget b s1.i default).Entry).Op).Key, (((lget b s1.i default).Entry).Op).Value⟩ : GOp), ((lget b s1.i default).Entry).Origin, ((lget b s1.i default).Entry).Seq, ((lget b s1.i default).Entry).Ops, (((lget b s1.i default).Entry).Epoch), ((lget b s1.i default).Entry).From, ((lget b s1.i default).Entry).Vector_, ((lget b s1.i default).Entry).Clock, (((lget b s1.i default).Entry).Part), ((lget b s1.i default).Entry).Site, ((lget b s1.i default).Entry).Sponsor, ((lget b s1.i default).Entry).Length⟩ : zd)⟩ : zv)).bind fun r3 =>
 (bif (!r3) then
 (some false)
 else
 (next2 ⟨(IntKind.i64.wrap (s1.i + 1))⟩)))
 else none)
 else none)
 else
 (some true))) ⟨0⟩))
def zdf : Con τ := { args := [.ty 26, .ty 26], L := [], ret := .ty 4, L' := [], R := Bool, dflt := default, F := fun N a b => zos N a.1 a.2.1, of := fun r => (r, ()) }
noncomputable def zup : Dat τ := { D := D0, tbl := tblOf [(82, z9i)], lp := lpsOf [(4, ztc)], k0 := 0, mu := [], un := [] }
theorem zw0 : ConOk E C 34 zdf :=
  z9 (D := zup) ⟨d0Ok, eGood, z7 ⟨zrp, trivial⟩, fun _ => rfl⟩ zdf (fun a b => a) none (fun _ _ => rfl) rfl (fun _ _ h => nomatch h) 1000000 (fn := Tryz.f34) Tryz.func34 rfl (by kernel_rfl) (by kernel_rfl) rfl (by intro N a b; kernel_rfl)
def zk2 (N : Nat) (a : GMsg) (b : GMsg) : Option (Bool) :=
 ((bif (((((a.Kind == b.Kind) && ((a.From.Group == b.From.Group) && (a.From.Replica == b.From.Replica))) && ((a.To.Group == b.To.Group) && (a.To.Replica == b.To.Replica))) && ((a.Ballot.Round == b.Ballot.Round) && (a.Ballot.Replica == b.Ballot.Replica))) && (a.Slot == b.Slot)) then zos N a.List_ b.List_ else some default).bind fun r1 =>
 ((bif ((((((a.Kind == b.Kind) && ((a.From.Group == b.From.Group) && (a.From.Replica == b.From.Replica))) && ((a.To.Group == b.To.Group) && (a.To.Replica == b.To.Replica))) && ((a.Ballot.Round == b.Ballot.Round) && (a.Ballot.Replica == b.Ballot.Replica))) && (a.Slot == b.Slot)) && r1) then ze5 N a.Entry b.Entry else some default).bind fun r2 =>
 ((bif (((((((((((a.Kind == b.Kind) && ((a.From.Group == b.From.Group) && (a.From.Replica == b.From.Replica))) && ((a.To.Group == b.To.Group) && (a.To.Replica == b.To.Replica))) && ((a.Ballot.Round == b.Ballot.Round) && (a.Ballot.Replica == b.Ballot.Replica))) && (a.Slot == b.Slot)) && r1) && r2) && (a.Number == b.Number)) && (vbeq beq2 a.Vector_ b.Vector_)) && (a.Clock == b.Clock)) && (a.Origin == b.Origin)) then zk1 N a.Ops b.Ops else some default).bind fun r3 =>
 ((bif (((((((((((((a.Kind == b.Kind) && ((a.From.Group == b.From.Group) && (a.From.Replica == b.From.Replica))) && ((a.To.Group == b.To.Group) && (a.To.Replica == b.To.Replica))) && ((a.Ballot.Round == b.Ballot.Round) && (a.Ballot.Replica == b.Ballot.Replica))) && (a.Slot == b.Slot)) && r1) && r2) && (a.Number == b.Number)) && (vbeq beq2 a.Vector_ b.Vector_)) && (a.Clock == b.Clock)) && (a.Origin == b.Origin)) && r3) && ((a.Epoch.Number == b.Epoch.Number) && ((vbeq beq3 a.Epoch.States b.Epoch.States) && ((vbeq beq2 a.Epoch.Seals b.Epoch.Seals) && (vbeq beq3 a.Epoch.Sponsor b.Epoch.Sponsor))))) then zg9 N a.Part b.Part else some default).bind fun r4 =>
 (some ((((((((((((((a.Kind == b.Kind) && ((a.From.Group == b.From.Group) && (a.From.Replica == b.From.Replica))) && ((a.To.Group == b.To.Group) && (a.To.Replica == b.To.Replica))) && ((a.Ballot.Round == b.Ballot.Round) && (a.Ballot.Replica == b.Ballot.Replica))) && (a.Slot == b.Slot)) && r1) && r2) && (a.Number == b.Number)) && (vbeq beq2 a.Vector_ b.Vector_)) && (a.Clock == b.Clock)) && (a.Origin == b.Origin)) && r3) && ((a.Epoch.Number == b.Epoch.Number) && ((vbeq beq3 a.Epoch.States b.Epoch.States) && ((vbeq beq2 a.Epoch.Seals b.Epoch.Seals) && (vbeq beq3 a.Epoch.Sponsor b.Epoch.Sponsor))))) && r4))))))
def ze6 : Con τ := { args := [.ty 43, .ty 43], L := [], ret := .ty 4, L' := [], R := Bool, dflt := default, F := fun N a b => zk2 N a.1 a.2.1, of := fun r => (r, ()) }
noncomputable def zw1 : Dat τ := { D := D0, tbl := tblOf [(34, zdf), (35, z86), (36, zao), (37, z95)], lp := lpsOf [], k0 := 0, mu := [], un := [] }
theorem zxc : ConOk E C 14 ze6 :=
  z9 (D := zw1) ⟨d0Ok, eGood, z7 ⟨zw0, ⟨zlf, ⟨zor, ⟨znp, trivial⟩⟩⟩⟩, fun _ => rfl⟩ ze6 (fun a b => a) none (fun _ _ => rfl) rfl (fun _ _ h => nomatch h) 1000000 (fn := Tryz.f14) Tryz.func14 rfl (by kernel_rfl) (by kernel_rfl) rfl (by intro N a b; kernel_rfl)
def zlg (N : Nat) (number : Int) : Option (Int) :=
 (some 2)
def zax : Con τ := { args := [.nil .ptr, .ty 2], L := [], ret := .ty 48, L' := [], R := Int, dflt := default, F := fun N a b => zlg N a.2.1, of := fun r => (r, ()) }
noncomputable def zrq : Dat τ := { D := D0, tbl := tblOf [(31, z4p)], lp := lpsOf [], k0 := 0, mu := [], un := [] }
theorem ztd : ConOk E C 20 zax :=
  z9 (D := zrq) ⟨d0Ok, eGood, z7 ⟨zan, trivial⟩, fun _ => rfl⟩ zax (fun a b => a) none (fun _ _ => rfl) rfl (fun _ _ h => nomatch h) 1000000 (fn := Tryz.f20) Tryz.func20 rfl (by kernel_rfl) (by kernel_rfl) rfl (by intro N a b; kernel_rfl)
def ziu (N : Nat) (number : Int) (at_ : Int) (with_ : Int) : Option (Int) :=
 (some 2)
def z9j : Con τ := { args := [.nil .ptr, .ty 2, .ty 3, .ty 5], L := [], ret := .ty 48, L' := [], R := Int, dflt := default, F := fun N a b => ziu N a.2.1 a.2.2.1 a.2.2.2.1, of := fun r => (r, ()) }
noncomputable def zqc : Dat τ := { D := D0, tbl := tblOf [(31, z4p)], lp := lpsOf [], k0 := 0, mu := [], un := [] }
theorem zrr : ConOk E C 12 z9j :=
  z9 (D := zqc) ⟨d0Ok, eGood, z7 ⟨zan, trivial⟩, fun _ => rfl⟩ z9j (fun a b => a) none (fun _ _ => rfl) rfl (fun _ _ h => nomatch h) 1000000 (fn := Tryz.f12) Tryz.func12 rfl (by kernel_rfl) (by kernel_rfl) rfl (by intro N a b; kernel_rfl)
def znq (N : Nat)  : Option (Int) :=
 (some 0)
def zc6 : Con τ := { args := [.nil .ptr], L := [], ret := .ty 3, L' := [], R := Int, dflt := default, F := fun N a b => znq N , of := fun r => (r, ()) }
noncomputable def zte : Dat τ := { D := D0, tbl := tblOf [(25, z1k)], lp := lpsOf [], k0 := 0, mu := [], un := [] }
theorem zuq : ConOk E C 15 zc6 :=
  z9 (D := zte) ⟨d0Ok, eGood, z7 ⟨z2r, trivial⟩, fun _ => rfl⟩ zc6 (fun a b => a) none (fun _ _ => rfl) rfl (fun _ _ h => nomatch h) 1000000 (fn := Tryz.f15) Tryz.func15 rfl (by kernel_rfl) (by kernel_rfl) rfl (by intro N a b; kernel_rfl)
def zlh (N : Nat) (l : List (GAddr)) : Option (Int) :=
 (some 0)
def zay : Con τ := { args := [.nil .ptr, .ty 70], L := [], ret := .ty 3, L' := [], R := Int, dflt := default, F := fun N a b => zlh N a.2.1, of := fun r => (r, ()) }
noncomputable def zrs : Dat τ := { D := D0, tbl := tblOf [(25, z1k)], lp := lpsOf [], k0 := 0, mu := [], un := [] }
theorem ztf : ConOk E C 21 zay :=
  z9 (D := zrs) ⟨d0Ok, eGood, z7 ⟨z2r, trivial⟩, fun _ => rfl⟩ zay (fun a b => a) none (fun _ _ => rfl) rfl (fun _ _ h => nomatch h) 1000000 (fn := Tryz.f21) Tryz.func21 rfl (by kernel_rfl) (by kernel_rfl) rfl (by intro N a b; kernel_rfl)
def ziv (N : Nat)  : Option (Unit) :=
 (some ())
def z9k : Con τ := { args := [.nil .ptr], L := [], ret := .nil .ptr, L' := [], R := Unit, dflt := (), F := fun N a b => ziv N , of := fun r => ((), ()) }
noncomputable def zqd : Dat τ := { D := D0, tbl := tblOf [(25, z1k)], lp := lpsOf [], k0 := 0, mu := [], un := [] }
theorem zrt : ConOk E C 22 z9k :=
  z9 (D := zqd) ⟨d0Ok, eGood, z7 ⟨z2r, trivial⟩, fun _ => rfl⟩ z9k (fun a b => ()) none (fun _ _ => rfl) rfl (fun _ _ h => nomatch h) 1000000 (fn := Tryz.f22) Tryz.func22 rfl (by kernel_rfl) (by kernel_rfl) rfl (by intro N a b; kernel_rfl)
def znr (N : Nat)  : Option ((List (GSent))) :=
 (some [])
def zc7 : Con τ := { args := [.nil .ptr], L := [], ret := .fn 39 [.ptr 0 []], L' := [.box (.ty 75)], R := (List (GSent)), dflt := default, F := fun N a b => znr N , of := fun r => (((), ()), (r, ())) }
noncomputable def ztg : Dat τ := { D := D0, tbl := tblOf [(25, z1k)], lp := lpsOf [], k0 := 0, mu := [], un := [] }
theorem zur : ConOk E C 16 zc7 :=
  z9 (D := ztg) ⟨d0Ok, eGood, z7 ⟨z2r, trivial⟩, fun _ => rfl⟩ zc7 (fun a b => b.1) none (fun _ _ => rfl) rfl (fun _ _ h => nomatch h) 1000000 (fn := Tryz.f16) Tryz.func16 rfl (by kernel_rfl) (by kernel_rfl) rfl (by intro N a b; kernel_rfl)
def zcz (N : Nat) (s : List (GSent)) : Option (Nat × (List (GSent))) :=
 (bif (lenB ((s).length) 64) then
 (some ((s).length, s))
 else none)
def zbf : Con τ := { args := [.nn 65], L := [], ret := .msl 65 0, L' := [.gbx 65], R := Nat × (List (GSent)), dflt := (default, default), F := fun N a b => zcz N a.1, of := fun r => (r.1, (r.2, ())) }
noncomputable def zli : Dat τ := { D := D0, tbl := tblOf [], lp := lpsOf [], k0 := 0, mu := [7], un := [] }
theorem zmn : ConOk E C 83 zbf :=
  z9 (D := zli) ⟨d0Ok, eGood, z7 trivial, fun _ => rfl⟩ zbf (fun a b => (a, b.1)) none (fun _ _ => rfl) rfl (fun _ _ h => nomatch h) 1000000 (fn := Tryz.f83) Tryz.func83 rfl (by kernel_rfl) (by kernel_rfl) rfl (by intro N a b; kernel_rfl)
def zo3 (N : Nat)  : Option (Nat × (List (GSent))) :=
 (some (0, []))
def z70 : Con τ := { args := [.nil .slice], L := [], ret := .msl 65 0, L' := [.gbx 65], R := Nat × (List (GSent)), dflt := (default, default), F := fun N a b => zo3 N , of := fun r => (r.1, (r.2, ())) }
noncomputable def zlj : Dat τ := { D := D0, tbl := tblOf [], lp := lpsOf [], k0 := 0, mu := [7], un := [] }
theorem zmo : ConOk E C 83 z70 :=
  z9 (D := zlj) ⟨d0Ok, eGood, z7 trivial, fun _ => rfl⟩ z70 (fun a b => (a, b.1)) none (fun _ _ => rfl) rfl (fun _ _ h => nomatch h) 1000000 (fn := Tryz.f83) Tryz.func83 rfl (by kernel_rfl) (by kernel_rfl) rfl (by intro N a b; kernel_rfl)
def zd0 (N : Nat) (s : List (GSent)) : Option (Nat × (List (GSent))) := zcz N s
def z71 : Con τ := { args := [.ty 75], L := [], ret := .msl 65 0, L' := [.gbx 65], R := Nat × (List (GSent)), dflt := (default, default), F := fun N a b => zd0 N a.1, of := fun r => (r.1, (r.2, ())) }
theorem zmp : ConOk E C 83 z71 := by
  intro N a b r h
  obtain ⟨x0, u⟩ := a
  refine FnSpec.split (pre := []) (post := []) (fun h0 => ?_) (zmn N (x0, u) b r h)
  have h0 : x0 = [] := List.map_eq_nil_iff.1 h0
  subst h0
  exact zmo N ((), u) b r ((show z70.F N ((), u) b = z71.F N ([], u) b from by kernel_rfl).trans h)
structure z8i where
  t8 : Int
  g0 : List (GSent)
def ze7 : List Sl := [.k, .k, .k, .j, .k, .k, .k, .k, .sh (.ty 2), .j, .j, .j, .j, .j, .j, .j, .j, .j, .j, .j, .j, .j, .k]
def ze8 : List ESh := [.gbx 65]
def zw2 (a : Sl.Ts τ ze7) (b : ESh.Ts τ ze8) : z8i := ⟨a.2.2.2.2.2.2.2.2.1, b.1⟩
def zw3 (s : z8i) : Sl.Ts τ ze7 := ((), (), (), (), (), (), (), (), s.t8, (), (), (), (), (), (), (), (), (), (), (), (), (), (), ())
def zw4 (s : z8i) : ESh.Ts τ ze8 := (s.g0, ())
def zw5 : Lp τ := { ts := ze7, hs := ze8, S := z8i, to := zw2, ot := zw3, oh := zw4, hk := [4], tk := [], ot_to := fun _ _ => rfl, oh_to := fun _ _ => rfl }
def zth (N : Nat) (l : List (GSent)) : Option (Nat × (List (GSent))) :=
 ((zd0 N l).bind fun r1 =>
 (iter N (fun (s2 : z8i) next3 =>
 (bif (decide (s2.t8 < ((r1.1 : Nat) : Int))) then
 (bif (ibB s2.t8 ((r1.1 : Nat) : Int)) then
 (bif (decide ((s2.t8).toNat < (s2.g0).length)) then
 ((z26 N ((s2.g0.getD ((s2.t8).toNat) default).Data)).bind fun r4 =>
 (bif (ibB s2.t8 ((r1.1 : Nat) : Int)) then
 (bif (decide ((s2.t8).toNat < (s2.g0).length)) then
 (next3 ⟨(IntKind.i64.wrap (s2.t8 + 1)), (s2.g0.set ((s2.t8).toNat) (⟨(s2.g0.getD ((s2.t8).toNat) default).Number, ((s2.g0.getD ((s2.t8).toNat) default).From), ((s2.g0.getD ((s2.t8).toNat) default).To), r4⟩ : GSent))⟩)
 else none)
 else none))
 else none)
 else none)
 else
 (some (r1.1, s2.g0)))) ⟨0, r1.2⟩))
def zga : Con τ := { args := [.ty 75], L := [], ret := .msl 65 0, L' := [.gbx 65], R := Nat × (List (GSent)), dflt := (default, default), F := fun N a b => zth N a.1, of := fun r => (r.1, (r.2, ())) }
noncomputable def zxd : Dat τ := { D := D0, tbl := tblOf [(83, z71), (40, z1f)], lp := lpsOf [(3, zw5)], k0 := 0, mu := [], un := [] }
theorem zyw : ConOk E C 38 zga :=
  z9 (D := zxd) ⟨d0Ok, eGood, z7 ⟨zmp, ⟨z2c, trivial⟩⟩, fun _ => rfl⟩ zga (fun a b => (a, b.1)) none (fun _ _ => rfl) rfl (fun _ _ h => nomatch h) 1000000 (fn := Tryz.f38) Tryz.func38 rfl (by kernel_rfl) (by kernel_rfl) rfl (by intro N a b; kernel_rfl)
def zc8 (N : Nat) (x : GSent) (m : GMsg) (x2 : z1o) (x3 : GMsg) (x4 : GMsg) (b1 : Bool) : Option (Bool × GMsg × z1o × GMsg × GMsg × Bool × Nat × Bool) :=
 (some (true, default, default, default, default, default, 0, false))
def zgb : List ESh := [.rcd 6 13 [.ty 42, .junk, .junk, .junk, .ptr 1 [], .junk, .junk, .junk, .junk, .junk, .junk, .junk, .junk, .junk, .junk, .junk, .junk, .ty 81, .junk, .junk, .junk, .junk, .junk, .junk, .junk, .junk, .junk, .ty 42, .junk, .junk, .junk, .junk, .junk, .junk, .junk, .junk, .ty 42, .junk, .junk, .junk, .junk, .junk, .junk, .junk, .junk, .junk, .junk, .junk, .junk, .junk, .junk, .junk, .junk, .junk, .junk, .junk, .junk, .junk, .junk, .junk, .junk, .junk, .junk, .junk, .junk, .junk, .junk, .junk, .junk, .junk, .junk, .junk, .junk, .junk, .junk, .junk, .junk, .junk, .junk, .junk, .junk, .junk, .junk, .junk, .junk, .junk, .junk, .junk, .junk, .junk, .junk, .junk, .junk, .junk, .junk, .junk, .junk, .junk, .junk, .junk, .junk, .junk, .junk, .junk, .junk, .junk, .junk, .junk, .junk, .junk, .junk, .junk, .junk, .junk], .box (.ty 4)]
def zeu : Alt τ (Bool × GMsg × z1o × GMsg × GMsg × Bool × Nat × Bool) := { ret := .bo false, L' := [.rdn, .box (.ty 4)], of := fun r => ((), (r.2.2.2.2.2.2.1, r.2.2.2.2.2.2.2, ())) }
def z9l : Con τ := { args := [.yld 0, .ty 64], L := zgb, ret := .bo true, L' := zgb, R := Bool × GMsg × z1o × GMsg × GMsg × Bool × Nat × Bool, dflt := (default, default, default, default, default, default, default, default), F := fun N a b => zc8 N a.2.1 b.1.1 b.1.2.2.2.2.2.2.2.2.2.2.2.2.2.2.2.2.2.1 b.1.2.2.2.2.2.2.2.2.2.2.2.2.2.2.2.2.2.2.2.2.2.2.2.2.2.2.2.1 b.1.2.2.2.2.2.2.2.2.2.2.2.2.2.2.2.2.2.2.2.2.2.2.2.2.2.2.2.2.2.2.2.2.2.2.2.2.1 b.2.1, of := fun r => ((), ((r.2.1, (), (), (), (), (), (), (), (), (), (), (), (), (), (), (), (), r.2.2.1, (), (), (), (), (), (), (), (), (), r.2.2.2.1, (), (), (), (), (), (), (), (), r.2.2.2.2.1, (), (), (), (), (), (), (), (), (), (), (), (), (), (), (), (), (), (), (), (), (), (), (), (), (), (), (), (), (), (), (), (), (), (), (), (), (), (), (), (), (), (), (), (), (), (), (), (), (), (), (), (), (), (), (), (), (), (), (), (), (), (), (), (), (), (), (), (), (), (), (), (), (), (), (), (), (), ()), r.2.2.2.2.2.1, ())), alt := some zeu, sel := fun r => r.1 }
noncomputable def zqe : Dat τ := { D := D0, tbl := tblOf [], lp := lpsOf [], k0 := 2, mu := [], un := [], fid := 6 }
theorem zgc : ConOk E C zf2 z9l :=
  con_round (D := zqe) ⟨d0Ok, eGood, z7 trivial, fun _ => rfl⟩ (f := 6) (k := 13) (ps := [112]) (by kernel_rfl) rfl (fun a b => (false, b.1.1, b.1.2.2.2.2.2.2.2.2.2.2.2.2.2.2.2.2.2.1, b.1.2.2.2.2.2.2.2.2.2.2.2.2.2.2.2.2.2.2.2.2.2.2.2.2.2.2.2.1, b.1.2.2.2.2.2.2.2.2.2.2.2.2.2.2.2.2.2.2.2.2.2.2.2.2.2.2.2.2.2.2.2.2.2.2.2.2.1, b.2.1, default, default)) (some ⟨zeu, fun a b => (true, default, default, default, default, default, b.1, b.2.1)⟩) (fun _ _ => rfl) rfl (fun A t h => by cases h; exact ⟨fun _ _ => rfl, fun _ _ => rfl, fun _ _ => rfl⟩) 1000000 (by kernel_rfl) (by kernel_rfl) (by kernel_rfl) (by kernel_rfl) rfl (by intro l N a b; kernel_rfl)
structure z41 where
  t8 : Int
  z0 : GMsg
  z02 : z1o
  z03 : GMsg
  z04 : GMsg
  b2 : Bool
def z8j : List Sl := [.k, .k, .k, .k, .j, .k, .k, .k, .sh (.ty 2), .j, .j, .j, .j, .j, .j, .j, .j]
def z8k : List ESh := [.rcd 6 13 [.ty 42, .junk, .junk, .junk, .ptr 2 [], .junk, .junk, .junk, .junk, .junk, .junk, .junk, .junk, .junk, .junk, .junk, .junk, .ty 81, .junk, .junk, .junk, .junk, .junk, .junk, .junk, .junk, .junk, .ty 42, .junk, .junk, .junk, .junk, .junk, .junk, .junk, .junk, .ty 42, .junk, .junk, .junk, .junk, .junk, .junk, .junk, .junk, .junk, .junk, .junk, .junk, .junk, .junk, .junk, .junk, .junk, .junk, .junk, .junk, .junk, .junk, .junk, .junk, .junk, .junk, .junk, .junk, .junk, .junk, .junk, .junk, .junk, .junk, .junk, .junk, .junk, .junk, .junk, .junk, .junk, .junk, .junk, .junk, .junk, .junk, .junk, .junk, .junk, .junk, .junk, .junk, .junk, .junk, .junk, .junk, .junk, .junk, .junk, .junk, .junk, .junk, .junk, .junk, .junk, .junk, .junk, .junk, .junk, .junk, .junk, .junk, .junk, .junk, .junk, .junk, .junk], .keep, .box (.ty 4), .keep]
def zot (a : Sl.Ts τ z8j) (b : ESh.Ts τ z8k) : z41 := ⟨a.2.2.2.2.2.2.2.2.1, b.1.1, b.1.2.2.2.2.2.2.2.2.2.2.2.2.2.2.2.2.2.1, b.1.2.2.2.2.2.2.2.2.2.2.2.2.2.2.2.2.2.2.2.2.2.2.2.2.2.2.2.1, b.1.2.2.2.2.2.2.2.2.2.2.2.2.2.2.2.2.2.2.2.2.2.2.2.2.2.2.2.2.2.2.2.2.2.2.2.2.1, b.2.2.1⟩
def zou (s : z41) : Sl.Ts τ z8j := ((), (), (), (), (), (), (), (), s.t8, (), (), (), (), (), (), (), (), ())
def zov (s : z41) : ESh.Ts τ z8k := ((s.z0, (), (), (), (), (), (), (), (), (), (), (), (), (), (), (), (), s.z02, (), (), (), (), (), (), (), (), (), s.z03, (), (), (), (), (), (), (), (), s.z04, (), (), (), (), (), (), (), (), (), (), (), (), (), (), (), (), (), (), (), (), (), (), (), (), (), (), (), (), (), (), (), (), (), (), (), (), (), (), (), (), (), (), (), (), (), (), (), (), (), (), (), (), (), (), (), (), (), (), (), (), (), (), (), (), (), (), (), (), (), (), (), (), (), (), (), (), (), ()), (), s.b2, (), ())
def zow : Lp τ := { ts := z8j, hs := z8k, S := z41, to := zot, ot := zou, oh := zov, hk := [6, 2, 2, 4], tk := [0, 3], ot_to := fun _ _ => rfl, oh_to := fun _ _ => rfl }
def ziw (N : Nat) (z0 : GMsg) (z02 : z1o) (z03 : GMsg) (z04 : GMsg) (b1 : List (GSent)) (b2 : Bool) : Option (Bool × GMsg × z1o × GMsg × GMsg × (List (GSent)) × Bool × Nat × (List (GSent)) × Bool) :=
 ((zth N b1).bind fun r1 =>
 (iter N (fun (s2 : z41) next3 =>
 (bif (decide (s2.t8 < ((r1.1 : Nat) : Int))) then
 (bif (ibB s2.t8 ((r1.1 : Nat) : Int)) then
 (bif (decide ((s2.t8).toNat < (r1.2).length)) then
 ((zc8 N (⟨(r1.2.getD ((s2.t8).toNat) default).Number, ((r1.2.getD ((s2.t8).toNat) default).From), ((r1.2.getD ((s2.t8).toNat) default).To), (r1.2.getD ((s2.t8).toNat) default).Data⟩ : GSent) s2.z0 s2.z02 s2.z03 s2.z04 s2.b2).bind fun r4 =>
 (bif r4.1 then
 (some (true, default, default, default, default, default, default, r4.2.2.2.2.2.2.1, b1, r4.2.2.2.2.2.2.2))
 else
 (next3 ⟨(IntKind.i64.wrap (s2.t8 + 1)), r4.2.1, r4.2.2.1, r4.2.2.2.1, r4.2.2.2.2.1, r4.2.2.2.2.2.1⟩)))
 else none)
 else none)
 else
 (some (false, s2.z0, s2.z02, s2.z03, s2.z04, b1, s2.b2, default, default, default)))) ⟨0, z0, z02, z03, z04, b2⟩))
def zgd : List ESh := [.rcd 6 13 [.ty 42, .junk, .junk, .junk, .ptr 2 [], .junk, .junk, .junk, .junk, .junk, .junk, .junk, .junk, .junk, .junk, .junk, .junk, .ty 81, .junk, .junk, .junk, .junk, .junk, .junk, .junk, .junk, .junk, .ty 42, .junk, .junk, .junk, .junk, .junk, .junk, .junk, .junk, .ty 42, .junk, .junk, .junk, .junk, .junk, .junk, .junk, .junk, .junk, .junk, .junk, .junk, .junk, .junk, .junk, .junk, .junk, .junk, .junk, .junk, .junk, .junk, .junk, .junk, .junk, .junk, .junk, .junk, .junk, .junk, .junk, .junk, .junk, .junk, .junk, .junk, .junk, .junk, .junk, .junk, .junk, .junk, .junk, .junk, .junk, .junk, .junk, .junk, .junk, .junk, .junk, .junk, .junk, .junk, .junk, .junk, .junk, .junk, .junk, .junk, .junk, .junk, .junk, .junk, .junk, .junk, .junk, .junk, .junk, .junk, .junk, .junk, .junk, .junk, .junk, .junk, .junk], .box (.ty 75), .box (.ty 4)]
def zev : Alt τ (Bool × GMsg × z1o × GMsg × GMsg × (List (GSent)) × Bool × Nat × (List (GSent)) × Bool) := { ret := .tup [], L' := [.rdn, .box (.ty 75), .box (.ty 4)], of := fun r => ((), (r.2.2.2.2.2.2.2.1, r.2.2.2.2.2.2.2.2.1, r.2.2.2.2.2.2.2.2.2, ())) }
def z9m : Con τ := { args := [.yld 0, .ptr 1 []], L := zgd, ret := .tup [], L' := zgd, R := Bool × GMsg × z1o × GMsg × GMsg × (List (GSent)) × Bool × Nat × (List (GSent)) × Bool, dflt := (default, default, default, default, default, default, default, default, default, default), F := fun N a b => ziw N b.1.1 b.1.2.2.2.2.2.2.2.2.2.2.2.2.2.2.2.2.2.1 b.1.2.2.2.2.2.2.2.2.2.2.2.2.2.2.2.2.2.2.2.2.2.2.2.2.2.2.2.1 b.1.2.2.2.2.2.2.2.2.2.2.2.2.2.2.2.2.2.2.2.2.2.2.2.2.2.2.2.2.2.2.2.2.2.2.2.2.1 b.2.1 b.2.2.1, of := fun r => ((), ((r.2.1, (), (), (), (), (), (), (), (), (), (), (), (), (), (), (), (), r.2.2.1, (), (), (), (), (), (), (), (), (), r.2.2.2.1, (), (), (), (), (), (), (), (), r.2.2.2.2.1, (), (), (), (), (), (), (), (), (), (), (), (), (), (), (), (), (), (), (), (), (), (), (), (), (), (), (), (), (), (), (), (), (), (), (), (), (), (), (), (), (), (), (), (), (), (), (), (), (), (), (), (), (), (), (), (), (), (), (), (), (), (), (), (), (), (), (), (), (), (), (), (), (), (), (), (), (), ()), r.2.2.2.2.2.1, r.2.2.2.2.2.2.1, ())), alt := some zev, sel := fun r => r.1 }
noncomputable def zqf : Dat τ := { D := D0, tbl := tblOf [(38, zga), (1000000, z9l)], lp := lpsOf [(1, zow)], k0 := 3, mu := [], un := [] }
theorem zru : ConOk E C 39 z9m :=
  z9 (D := zqf) ⟨d0Ok, eGood, z7 ⟨zyw, ⟨zgc, trivial⟩⟩, fun _ => rfl⟩ z9m (fun a b => (false, b.1.1, b.1.2.2.2.2.2.2.2.2.2.2.2.2.2.2.2.2.2.1, b.1.2.2.2.2.2.2.2.2.2.2.2.2.2.2.2.2.2.2.2.2.2.2.2.2.2.2.2.1, b.1.2.2.2.2.2.2.2.2.2.2.2.2.2.2.2.2.2.2.2.2.2.2.2.2.2.2.2.2.2.2.2.2.2.2.2.2.1, b.2.1, b.2.2.1, default, default, default)) (some ⟨zev, fun a b => (true, default, default, default, default, default, default, b.1, b.2.1, b.2.2.1)⟩) (fun _ _ => rfl) rfl (fun A t h => by cases h; exact ⟨fun _ _ => rfl, fun _ _ => rfl, fun _ _ => rfl⟩) 1000000 (fn := Tryz.f39) Tryz.func39 rfl (by kernel_rfl) (by kernel_rfl) rfl (by intro N a b; kernel_rfl)
def zlk (N : Nat) (b0 : Int) (b02 : Bool) : Option (Bool × Int × Bool) :=
 (some ((!b02), b0, b02))
def zaz : Con τ := { args := [.ptr 0 []], L := [.box (.agg [.agg [.nil .slice, .ty 2], .ty 4])], ret := .ty 4, L' := [.box (.agg [.agg [.nil .slice, .ty 2], .ty 4])], R := Bool × Int × Bool, dflt := (default, default, default), F := fun N a b => zlk N b.1.1.2.1 b.1.2.1, of := fun r => (r.1, ((((), r.2.1, ()), r.2.2, ()), ())) }
noncomputable def zrv : Dat τ := { D := D0, tbl := tblOf [], lp := lpsOf [], k0 := 1, mu := [], un := [] }
theorem zti : ConOk E C 25 zaz :=
  z9 (D := zrv) ⟨d0Ok, eGood, z7 trivial, fun _ => rfl⟩ zaz (fun a b => (a, b.1.1.2.1, b.1.2.1)) none (fun _ _ => rfl) rfl (fun _ _ h => nomatch h) 1000000 (fn := Tryz.f25) Tryz.func25 rfl (by kernel_rfl) (by kernel_rfl) rfl (by intro N a b; kernel_rfl)
structure z56 where
  many : Int
  t15 : Int
  b0 : Nat
  b02 : Int
  b03 : Bool
  g1 : List (GSent)
def z9n : List Sl := [.k, .k, .k, .k, .k, .k, .sh (.ty 2), .k, .j, .j, .j, .k, .k, .k, .k, .sh (.ty 2), .j, .j, .j, .j, .j, .j, .j, .j, .j, .j, .j, .j, .j, .j, .j, .j, .j, .j, .j, .j, .j, .j, .j, .j, .j, .j, .j, .j, .j, .j, .j, .k]
def z9o : List ESh := [.box (.agg [.agg [.msl 65 1, .ty 2], .ty 4]), .gbx 65]
def zqg (a : Sl.Ts τ z9n) (b : ESh.Ts τ z9o) : z56 := ⟨a.2.2.2.2.2.2.1, a.2.2.2.2.2.2.2.2.2.2.2.2.2.2.2.1, b.1.1.1, b.1.1.2.1, b.1.2.1, b.2.1⟩
def zqh (s : z56) : Sl.Ts τ z9n := ((), (), (), (), (), (), s.many, (), (), (), (), (), (), (), (), s.t15, (), (), (), (), (), (), (), (), (), (), (), (), (), (), (), (), (), (), (), (), (), (), (), (), (), (), (), (), (), (), (), (), ())
def zqi (s : z56) : ESh.Ts τ z9o := (((s.b0, s.b02, ()), s.b03, ()), s.g1, ())
def zqj : Lp τ := { ts := z9n, hs := z9o, S := z56, to := zqg, ot := zqh, oh := zqi, hk := [2], tk := [2, 0, 0, 0, 0, 0, 0, 0, 0, 0, 0, 2], ot_to := fun _ _ => rfl, oh_to := fun _ _ => rfl }
def zll (N : Nat) (l : List (GMsg)) (b0 : Int) (b02 : Bool) : Option (Int × Int × Nat × Int × Bool × (List (GSent))) :=
 ((zlk N b0 b02).bind fun r1 =>
 (bif r1.1 then
 (some (0, 2, 0, r1.2.1, r1.2.2, []))
 else
 (iter N (fun (s2 : z56) next3 =>
 (bif (decide (s2.t15 < ((l).length : Int))) then
 (bif (ibB s2.t15 ((l).length : Int)) then
 ((zhb N (⟨(lget l s2.t15 default).Kind, ((lget l s2.t15 default).From), ((lget l s2.t15 default).To), ((lget l s2.t15 default).Ballot), (lget l s2.t15 default).Slot, (lget l s2.t15 default).List_, (⟨((lget l s2.t15 default).Entry).Kind, ((lget l s2.t15 default).Entry).Session, ((lget l s2.t15 default).Entry).Request, (⟨((((lget l s2.t15 default).Entry).Op).Stamp), (((lget l s2.t15 default).Entry).Op).Kind, (((lget l s2.t15 default).Entry).Op).Node, (((lget l s2.t15 default).Entry).Op).Parent, (((lget l s2.t15 default).Entry).Op).Name, (((lget l s2.t15 default).Entry).Op).Key, (((lget l s2.t15 default).Entry).Op).Value⟩ : GOp), ((lget l s2.t15 default).Entry).Origin, ((lget l s2.t15 default).Entry).Seq, ((lget l s2.t15 default).Entry).Ops, (((lget l s2.t15 default).Entry).Epoch), ((lget l s2.t15 default).Entry).From, ((lget l s2.t15 default).Entry).Vector_, ((lget l s2.t15 default).Entry).Clock, (((lget l s2.t15 default).Entry).Part), ((lget l s2.t15 default).Entry).Site, ((lget l s2.t15 default).Entry).Sponsor, ((lget l s2.t15 default).Entry).Length⟩ : zd), (lget l s2.t15 default).Number, (lget l s2.t15 default).Vector_, (lget l s2.t15 default).Clock, (lget l s2.t15 default).Origin, (lget l s2.t15 default).Ops, ((lget l s2.t15 default).Epoch), ((lget l s2.t15 default).Part)⟩ : GMsg)).bind fun r4 =>
 (bif ((!(r4.2 == 0)) || (decide (16384 ≤ ((s2.b0 : Nat) : Int)))) then
 (next3 ⟨s2.many, (IntKind.i64.wrap (s2.t15 + 1)), s2.b0, s2.b02, s2.b03, s2.g1⟩)
 else
 ((z7m N ((lget l s2.t15 default).From) ((lget l s2.t15 default).To) r4.1 s2.b0 s2.b02 s2.b03 s2.g1).bind fun r5 =>
 (next3 ⟨(IntKind.i64.wrap (s2.many + 1)), (IntKind.i64.wrap (s2.t15 + 1)), r5.2.1, r5.2.2.1, r5.2.2.2.1, r5.2.2.2.2⟩))))
 else none)
 else
 (some (s2.many, 0, s2.b0, s2.b02, s2.b03, s2.g1)))) ⟨0, 0, 0, r1.2.1, r1.2.2, []⟩)))
def zb0 : Con τ := { args := [.ptr 0 [], .ty 59], L := [.box (.agg [.agg [.nil .slice, .ty 2], .ty 4])], ret := .tup [.ty 3, .ty 48], L' := [.box (.agg [.agg [.msl 65 1, .ty 2], .ty 4]), .gbx 65], R := Int × Int × Nat × Int × Bool × (List (GSent)), dflt := (default, default, default, default, default, default), F := fun N a b => zll N a.2.1 b.1.1.2.1 b.1.2.1, of := fun r => ((r.1, r.2.1, ()), (((r.2.2.1, r.2.2.2.1, ()), r.2.2.2.2.1, ()), r.2.2.2.2.2, ())) }
noncomputable def zrw : Dat τ := { D := D0, tbl := tblOf [(25, zaz), (26, z98), (27, z3m)], lp := lpsOf [(5, zqj)], k0 := 1, mu := [], un := [] }
theorem ztj : ConOk E C 10 zb0 :=
  z9 (D := zrw) ⟨d0Ok, eGood, z7 ⟨zti, ⟨zny, ⟨z9y, trivial⟩⟩⟩, fun _ => rfl⟩ zb0 (fun a b => (a.1, a.2.1, b.1.1.1, b.1.1.2.1, b.1.2.1, b.2.1)) none (fun _ _ => rfl) rfl (fun _ _ h => nomatch h) 1000000 (fn := Tryz.f10) Tryz.func10 rfl (by kernel_rfl) (by kernel_rfl) rfl (by intro N a b; kernel_rfl)
def zge (N : Nat) (number : Int) (b0 : Nat) (b02 : Int) (b03 : Bool) (g1 : List (GSent)) : Option (Int × Int × Nat × Int × Bool × (List (GSent))) :=
 ((z90 N number b0 b02 b03 g1).bind fun r1 =>
 (bif (!(r1.2.1 == 0)) then
 (some (0, r1.2.1, r1.2.2.1, r1.2.2.2.1, r1.2.2.2.2.1, r1.2.2.2.2.2))
 else
 (bif (decide (16384 ≤ ((r1.2.2.1 : Nat) : Int))) then
 (some (0, 6, r1.2.2.1, r1.2.2.2.1, r1.2.2.2.2.1, r1.2.2.2.2.2))
 else
 (bif (ibB r1.1 ((r1.2.2.1 : Nat) : Int)) then
 (bif (decide ((r1.1).toNat < (r1.2.2.2.2.2).length)) then
 ((z26 N ((r1.2.2.2.2.2.getD ((r1.1).toNat) default).Data)).bind fun r2 =>
 ((z7m N ((r1.2.2.2.2.2.getD ((r1.1).toNat) default).From) ((r1.2.2.2.2.2.getD ((r1.1).toNat) default).To) r2 r1.2.2.1 r1.2.2.2.1 r1.2.2.2.2.1 r1.2.2.2.2.2).bind fun r3 =>
 (some (r3.1, 0, r3.2.1, r3.2.2.1, r3.2.2.2.1, r3.2.2.2.2))))
 else none)
 else none))))
def z8l : Con τ := { args := [.ptr 0 [], .ty 2], L := [.box (.agg [.agg [.msl 65 1, .ty 2], .ty 4]), .gbx 65], ret := .tup [.ty 2, .ty 48], L' := [.box (.agg [.agg [.msl 65 2, .ty 2], .ty 4]), .dead, .gbx 65], R := Int × Int × Nat × Int × Bool × (List (GSent)), dflt := (default, default, default, default, default, default), F := fun N a b => zge N a.2.1 b.1.1.1 b.1.1.2.1 b.1.2.1 b.2.1, of := fun r => ((r.1, r.2.1, ()), (((r.2.2.1, r.2.2.2.1, ()), r.2.2.2.2.1, ()), (), r.2.2.2.2.2, ())) }
noncomputable def zox : Dat τ := { D := D0, tbl := tblOf [(31, z4q), (40, z1f), (27, z3m)], lp := lpsOf [], k0 := 2, mu := [], un := [] }
theorem zqk : ConOk E C 17 z8l :=
  z9 (D := zox) ⟨d0Ok, eGood, z7 ⟨zaq, ⟨z2c, ⟨z9y, trivial⟩⟩⟩, fun _ => rfl⟩ z8l (fun a b => (a.1, a.2.1, b.1.1.1, b.1.1.2.1, b.1.2.1, b.2.2.1)) none (fun _ _ => rfl) rfl (fun _ _ h => nomatch h) 1000000 (fn := Tryz.f17) Tryz.func17 rfl (by kernel_rfl) (by kernel_rfl) rfl (by intro N a b; kernel_rfl)
def zlm (N : Nat) (number : Int) (b0 : Nat) (b02 : Int) (b03 : Bool) (g1 : List (GSent)) : Option (Int × Nat × Int × Bool × (List (GSent))) :=
 ((z90 N number b0 b02 b03 g1).bind fun r1 =>
 (bif (!(r1.2.1 == 0)) then
 (some (r1.2.1, r1.2.2.1, r1.2.2.2.1, r1.2.2.2.2.1, r1.2.2.2.2.2))
 else
 ((z7o N r1.2.2.1 r1.1 (IntKind.i64.wrap (r1.1 + 1)) r1.2.2.2.2.2).bind fun r2 =>
 (some (0, r2.1, r1.2.2.2.1, r1.2.2.2.2.1, r2.2)))))
def zb1 : Con τ := { args := [.ptr 0 [], .ty 2], L := [.box (.agg [.agg [.msl 65 1, .ty 2], .ty 4]), .gbx 65], ret := .ty 48, L' := [.box (.agg [.agg [.msl 65 2, .ty 2], .ty 4]), .dead, .gbx 65], R := Int × Nat × Int × Bool × (List (GSent)), dflt := (default, default, default, default, default), F := fun N a b => zlm N a.2.1 b.1.1.1 b.1.1.2.1 b.1.2.1 b.2.1, of := fun r => (r.1, (((r.2.1, r.2.2.1, ()), r.2.2.2.1, ()), (), r.2.2.2.2, ())) }
noncomputable def zrx : Dat τ := { D := D0, tbl := tblOf [(31, z4q), (32, z3h)], lp := lpsOf [], k0 := 2, mu := [], un := [] }
theorem ztk : ConOk E C 20 zb1 :=
  z9 (D := zrx) ⟨d0Ok, eGood, z7 ⟨zaq, ⟨zbm, trivial⟩⟩, fun _ => rfl⟩ zb1 (fun a b => (a, b.1.1.1, b.1.1.2.1, b.1.2.1, b.2.2.1)) none (fun _ _ => rfl) rfl (fun _ _ h => nomatch h) 1000000 (fn := Tryz.f20) Tryz.func20 rfl (by kernel_rfl) (by kernel_rfl) rfl (by intro N a b; kernel_rfl)
def zix (N : Nat) (number : Int) (at_ : Int) (with_ : Int) (b0 : Nat) (b02 : Int) (b03 : Bool) (g1 : List (GSent)) : Option (Int × Nat × Int × Bool × (List (GSent))) :=
 ((z90 N number b0 b02 b03 g1).bind fun r1 =>
 (bif (!(r1.2.1 == 0)) then
 (some (r1.2.1, r1.2.2.1, r1.2.2.2.1, r1.2.2.2.2.1, r1.2.2.2.2.2))
 else
 (bif (!(!(decide (at_ < 0))) || (ibB r1.1 ((r1.2.2.1 : Nat) : Int))) then
 (bif (!(!(decide (at_ < 0))) || (decide ((r1.1).toNat < (r1.2.2.2.2.2).length))) then
 (bif ((decide (at_ < 0)) || (decide ((((r1.2.2.2.2.2.getD ((r1.1).toNat) default).Data).length : Int) ≤ at_))) then
 (some (1, r1.2.2.1, r1.2.2.2.1, r1.2.2.2.2.1, r1.2.2.2.2.2))
 else
 (bif (ibB r1.1 ((r1.2.2.1 : Nat) : Int)) then
 (bif (decide ((r1.1).toNat < (r1.2.2.2.2.2).length)) then
 (bif (ibB at_ (((r1.2.2.2.2.2.getD ((r1.1).toNat) default).Data).length : Int)) then
 (bif (ibB at_ (((r1.2.2.2.2.2.getD ((r1.1).toNat) default).Data).length : Int)) then
 none
 else none)
 else none)
 else none)
 else none))
 else none)
 else none)))
def z9p : Con τ := { args := [.ptr 0 [], .ty 2, .ty 3, .ty 5], L := [.box (.agg [.agg [.msl 65 1, .ty 2], .ty 4]), .gbx 65], ret := .ty 48, L' := [.box (.agg [.agg [.msl 65 1, .ty 2], .ty 4]), .gbx 65], R := Int × Nat × Int × Bool × (List (GSent)), dflt := (default, default, default, default, default), F := fun N a b => zix N a.2.1 a.2.2.1 a.2.2.2.1 b.1.1.1 b.1.1.2.1 b.1.2.1 b.2.1, of := fun r => (r.1, (((r.2.1, r.2.2.1, ()), r.2.2.2.1, ()), r.2.2.2.2, ())) }
noncomputable def zql : Dat τ := { D := D0, tbl := tblOf [(31, z4q)], lp := lpsOf [], k0 := 2, mu := [], un := [] }
theorem zry : ConOk E C 12 z9p :=
  z9 (D := zql) ⟨d0Ok, eGood, z7 ⟨zaq, trivial⟩, fun _ => rfl⟩ z9p (fun a b => (a, b.1.1.1, b.1.1.2.1, b.1.2.1, b.2.1)) none (fun _ _ => rfl) rfl (fun _ _ h => nomatch h) 1000000 (fn := Tryz.f12) Tryz.func12 rfl (by kernel_rfl) (by kernel_rfl) rfl (by intro N a b; kernel_rfl)
structure z42 where
  t8 : Int
def z8m : List Sl := [.k, .k, .k, .k, .j, .j, .k, .k, .sh (.ty 2), .j, .j, .j, .j, .j, .j, .j, .j, .j, .j]
def z8n : List ESh := [.keep]
def zoy (a : Sl.Ts τ z8m) (b : ESh.Ts τ z8n) : z42 := ⟨a.2.2.2.2.2.2.2.2.1⟩
def zoz (s : z42) : Sl.Ts τ z8m := ((), (), (), (), (), (), (), (), s.t8, (), (), (), (), (), (), (), (), (), (), ())
def zp0 (s : z42) : ESh.Ts τ z8n := ((), ())
def zp1 : Lp τ := { ts := z8m, hs := z8n, S := z42, to := zoy, ot := zoz, oh := zp0, hk := [2], tk := [0, 0, 0, 2], ot_to := fun _ _ => rfl, oh_to := fun _ _ => rfl }
def ziy (N : Nat) (s : List (GAddr)) (v : GAddr) : Option (Int) :=
 (iter N (fun (s1 : z42) next2 =>
 (bif (decide (s1.t8 < ((s).length : Int))) then
 (bif (ibB s1.t8 ((s).length : Int)) then
 (bif ((v.Group == ((lget s s1.t8 default).Group)) && (v.Replica == ((lget s s1.t8 default).Replica))) then
 (some s1.t8)
 else
 (next2 ⟨(IntKind.i64.wrap (s1.t8 + 1))⟩))
 else none)
 else
 (some (-1)))) ⟨0⟩)
def z9q : Con τ := { args := [.ty 70, .ty 23], L := [], ret := .ty 3, L' := [], R := Int, dflt := default, F := fun N a b => ziy N a.1 a.2.1, of := fun r => (r, ()) }
noncomputable def zqm : Dat τ := { D := D0, tbl := tblOf [], lp := lpsOf [(2, zp1)], k0 := 0, mu := [], un := [] }
theorem zrz : ConOk E C 88 z9q :=
  z9 (D := zqm) ⟨d0Ok, eGood, z7 trivial, fun _ => rfl⟩ z9q (fun a b => a) none (fun _ _ => rfl) rfl (fun _ _ h => nomatch h) 1000000 (fn := Tryz.f88) Tryz.func88 rfl (by kernel_rfl) (by kernel_rfl) rfl (by intro N a b; kernel_rfl)
def z8o (N : Nat) (s : List (GAddr)) (v : GAddr) : Option (Bool) :=
 ((ziy N s v).bind fun r1 =>
 (some (decide (0 ≤ r1))))
def z7f : Con τ := { args := [.ty 70, .ty 23], L := [], ret := .ty 4, L' := [], R := Bool, dflt := default, F := fun N a b => z8o N a.1 a.2.1, of := fun r => (r, ()) }
noncomputable def zmq : Dat τ := { D := D0, tbl := tblOf [(88, z9q)], lp := lpsOf [], k0 := 0, mu := [], un := [] }
theorem zo4 : ConOk E C 49 z7f :=
  z9 (D := zmq) ⟨d0Ok, eGood, z7 ⟨zrz, trivial⟩, fun _ => rfl⟩ z7f (fun a b => a) none (fun _ _ => rfl) rfl (fun _ _ h => nomatch h) 1000000 (fn := Tryz.f49) Tryz.func49 rfl (by kernel_rfl) (by kernel_rfl) rfl (by intro N a b; kernel_rfl)
def zb2 (N : Nat) (s : GSent) (b0 : List (GAddr)) : Option (Bool × (List (GAddr))) :=
 ((z8o N b0 s.From).bind fun r1 =>
 ((bif (!r1) then z8o N b0 s.To else some default).bind fun r2 =>
 (some ((r1 || r2), b0))))
def z61 : Con τ := { args := [.ty 65, .ptr 0 []], L := [.box (.ty 70)], ret := .ty 4, L' := [.box (.ty 70)], R := Bool × (List (GAddr)), dflt := (default, default), F := fun N a b => zb2 N a.1 b.1, of := fun r => (r.1, (r.2, ())) }
noncomputable def zp2 : Dat τ := { D := D0, tbl := tblOf [(49, z7f)], lp := lpsOf [], k0 := 1, mu := [], un := [] }
theorem zew : ConOk E C 48 z61 :=
  z9 (D := zp2) ⟨d0Ok, eGood, z7 ⟨zo4, trivial⟩, fun _ => rfl⟩ z61 (fun a b => (a, b.1)) none (fun _ _ => rfl) rfl (fun _ _ h => nomatch h) 1000000 (fn := Tryz.f48) Tryz.func48 rfl (by kernel_rfl) (by kernel_rfl) rfl (by intro N a b; kernel_rfl)
structure z1r where
  t8 : Int
  b1 : List (GAddr)
def z3u : List Sl := [.k, .k, .k, .k, .j, .j, .k, .k, .sh (.ty 2), .j, .j, .j, .j, .j, .j, .j, .j, .j, .j]
def z3v : List ESh := [.keep, .box (.ty 70)]
def ze9 (a : Sl.Ts τ z3u) (b : ESh.Ts τ z3v) : z1r := ⟨a.2.2.2.2.2.2.2.2.1, b.2.1⟩
def zea (s : z1r) : Sl.Ts τ z3u := ((), (), (), (), (), (), (), (), s.t8, (), (), (), (), (), (), (), (), (), (), ())
def zeb (s : z1r) : ESh.Ts τ z3v := ((), s.b1, ())
def zec : Lp τ := { ts := z3u, hs := z3v, S := z1r, to := ze9, ot := zea, oh := zeb, hk := [4, 2], tk := [], ot_to := fun _ _ => rfl, oh_to := fun _ _ => rfl }
def z9a (N : Nat) (s : Nat) (g0 : List (GSent)) (b1 : List (GAddr)) : Option (Int × (List (GSent)) × (List (GAddr))) :=
 (iter N (fun (s1 : z1r) next2 =>
 (bif (decide (s1.t8 < ((s : Nat) : Int))) then
 (bif (ibB s1.t8 ((s : Nat) : Int)) then
 (bif (decide ((s1.t8).toNat < (g0).length)) then
 ((zb2 N (⟨(g0.getD ((s1.t8).toNat) default).Number, ((g0.getD ((s1.t8).toNat) default).From), ((g0.getD ((s1.t8).toNat) default).To), (g0.getD ((s1.t8).toNat) default).Data⟩ : GSent) s1.b1).bind fun r3 =>
 (bif r3.1 then
 (some (s1.t8, g0, r3.2))
 else
 (next2 ⟨(IntKind.i64.wrap (s1.t8 + 1)), r3.2⟩)))
 else none)
 else none)
 else
 (some ((-1), g0, s1.b1)))) ⟨0, b1⟩)
def z4i : Con τ := { args := [.msl 65 0, .fn 48 [.ptr 1 []]], L := [.gbx 65, .box (.ty 70)], ret := .ty 3, L' := [.gbx 65, .box (.ty 70)], R := Int × (List (GSent)) × (List (GAddr)), dflt := (default, default, default), F := fun N a b => z9a N a.1 b.1 b.2.1, of := fun r => (r.1, (r.2.1, r.2.2, ())) }
noncomputable def zfk : Dat τ := { D := D0, tbl := tblOf [(48, z61)], lp := lpsOf [(2, zec)], k0 := 2, mu := [], un := [] }
theorem zgf : ConOk E C 87 z4i :=
  z9 (D := zfk) ⟨d0Ok, eGood, z7 ⟨zew, trivial⟩, fun _ => rfl⟩ z4i (fun a b => (a, b.1, b.2.1)) none (fun _ _ => rfl) rfl (fun _ _ h => nomatch h) 1000000 (fn := Tryz.f87) Tryz.func87 rfl (by kernel_rfl) (by kernel_rfl) rfl (by intro N a b; kernel_rfl)
structure z1n where
  i : Int
  j : Int
  g0 : List (GSent)
  b1 : List (GAddr)
def z3j : List Sl := [.k, .k, .k, .k, .k, .sh (.ty 2), .sh (.ty 2), .j, .k, .k, .k, .k, .k, .k, .k, .k, .j, .j, .j, .j, .j, .j, .j, .j, .j, .j, .j, .j, .j, .j, .j, .j, .j, .j, .j, .j, .k, .k, .k, .k, .k, .k]
def z3k : List ESh := [.gbx 65, .box (.ty 70)]
def zdq (a : Sl.Ts τ z3j) (b : ESh.Ts τ z3k) : z1n := ⟨a.2.2.2.2.2.1, a.2.2.2.2.2.2.1, b.1, b.2.1⟩
def zdr (s : z1n) : Sl.Ts τ z3j := ((), (), (), (), (), s.i, s.j, (), (), (), (), (), (), (), (), (), (), (), (), (), (), (), (), (), (), (), (), (), (), (), (), (), (), (), (), (), (), (), (), (), (), (), ())
def zds (s : z1n) : ESh.Ts τ z3k := (s.g0, s.b1, ())
def zdt : Lp τ := { ts := z3j, hs := z3k, S := z1n, to := zdq, ot := zdr, oh := zds, hk := [4, 2], tk := [], ot_to := fun _ _ => rfl, oh_to := fun _ _ => rfl }
def z8p (N : Nat) (s : Nat) (g0 : List (GSent)) (b1 : List (GAddr)) : Option (Nat × (List (GSent)) × (List (GAddr))) :=
 ((z9a N s g0 b1).bind fun r1 =>
 (bif (r1.1 == (-1)) then
 (some (s, r1.2.1, r1.2.2))
 else
 (iter N (fun (s2 : z1n) next3 =>
 (bif (decide (s2.j < ((s : Nat) : Int))) then
 (bif (ibB s2.j ((s : Nat) : Int)) then
 (bif (decide ((s2.j).toNat < (s2.g0).length)) then
 ((zb2 N (⟨(s2.g0.getD ((s2.j).toNat) default).Number, ((s2.g0.getD ((s2.j).toNat) default).From), ((s2.g0.getD ((s2.j).toNat) default).To), (s2.g0.getD ((s2.j).toNat) default).Data⟩ : GSent) s2.b1).bind fun r4 =>
 (bif (!r4.1) then
 (bif (ibB s2.i ((s : Nat) : Int)) then
 (bif (decide ((s2.i).toNat < (s2.g0).length)) then
 (next3 ⟨(IntKind.i64.wrap (s2.i + 1)), (IntKind.i64.wrap (s2.j + 1)), (s2.g0.set ((s2.i).toNat) (⟨(s2.g0.getD ((s2.j).toNat) default).Number, ((s2.g0.getD ((s2.j).toNat) default).From), ((s2.g0.getD ((s2.j).toNat) default).To), (s2.g0.getD ((s2.j).toNat) default).Data⟩ : GSent)), r4.2⟩)
 else none)
 else none)
 else
 (next3 ⟨s2.i, (IntKind.i64.wrap (s2.j + 1)), s2.g0, r4.2⟩)))
 else none)
 else none)
 else
 (bif (cutW s2.i ((s : Nat) : Int) ((s : Nat) : Int) ((s : Nat) : Int)) then
 (bif (cutB 0 s2.i ((s : Nat) : Int)) then
 (some ((s2.i).toNat, (zy9 s2.g0 (0 + (s2.i).toNat) (s - (s2.i).toNat) (⟨0, (⟨0, 0⟩ : GAddr), (⟨0, 0⟩ : GAddr), []⟩ : GSent)), s2.b1))
 else none)
 else none))) ⟨r1.1, (IntKind.i64.wrap (r1.1 + 1)), r1.2.1, r1.2.2⟩)))
def z3w : Con τ := { args := [.msl 65 0, .fn 48 [.ptr 1 []]], L := [.gbx 65, .box (.ty 70)], ret := .msl 65 0, L' := [.gbx 65, .box (.ty 70)], R := Nat × (List (GSent)) × (List (GAddr)), dflt := (default, default, default), F := fun N a b => z8p N a.1 b.1 b.2.1, of := fun r => (r.1, (r.2.1, r.2.2, ())) }
noncomputable def zed : Dat τ := { D := D0, tbl := tblOf [(87, z4i), (48, z61)], lp := lpsOf [(5, zdt)], k0 := 2, mu := [], un := [] }
theorem zfl : ConOk E C 47 z3w :=
  z9 (D := zed) ⟨d0Ok, eGood, z7 ⟨zgf, ⟨zew, trivial⟩⟩, fun _ => rfl⟩ z3w (fun a b => (a, b.1, b.2.1)) none (fun _ _ => rfl) rfl (fun _ _ h => nomatch h) 1000000 (fn := Tryz.f47) Tryz.func47 rfl (by kernel_rfl) (by kernel_rfl) rfl (by intro N a b; kernel_rfl)
def zln (N : Nat) (l : List (GAddr)) (b0 : Nat) (b02 : Int) (b03 : Bool) (g1 : List (GSent)) : Option (Int × Nat × Int × Bool × (List (GSent))) :=
 ((z2i N b0 b02 b03 g1).bind fun r1 =>
 (bif r1.1 then
 (some (0, r1.2.1, r1.2.2.1, r1.2.2.2.1, r1.2.2.2.2))
 else
 ((z8p N r1.2.1 r1.2.2.2.2 l).bind fun r2 =>
 (some ((IntKind.i64.wrap (((r1.2.1 : Nat) : Int) - ((r2.1 : Nat) : Int))), r2.1, r1.2.2.1, r1.2.2.2.1, r2.2.1)))))
def zb3 : Con τ := { args := [.ptr 0 [], .ty 70], L := [.box (.agg [.agg [.msl 65 1, .ty 2], .ty 4]), .gbx 65], ret := .ty 3, L' := [.box (.agg [.agg [.msl 65 1, .ty 2], .ty 4]), .gbx 65], R := Int × Nat × Int × Bool × (List (GSent)), dflt := (default, default, default, default, default), F := fun N a b => zln N a.2.1 b.1.1.1 b.1.1.2.1 b.1.2.1 b.2.1, of := fun r => (r.1, (((r.2.1, r.2.2.1, ()), r.2.2.2.1, ()), r.2.2.2.2, ())) }
noncomputable def zs0 : Dat τ := { D := D0, tbl := tblOf [(25, z1l), (47, z3w)], lp := lpsOf [], k0 := 2, mu := [], un := [] }
theorem ztl : ConOk E C 21 zb3 :=
  z9 (D := zs0) ⟨d0Ok, eGood, z7 ⟨z2s, ⟨zfl, trivial⟩⟩, fun _ => rfl⟩ zb3 (fun a b => (a, b.1.1.1, b.1.1.2.1, b.1.2.1, b.2.1)) none (fun _ _ => rfl) rfl (fun _ _ h => nomatch h) 1000000 (fn := Tryz.f21) Tryz.func21 rfl (by kernel_rfl) (by kernel_rfl) rfl (by intro N a b; kernel_rfl)
def zd1 (N : Nat) (s : Nat) (s2 : Nat) (s3 : Nat) (s4 : Bool) (g0 : List (GSent)) : Option (Nat × (List (GSent)) × (List (GSent))) :=
 (bif (s4 || (Nat.blt 0 s2)) then
 (bif ((lenB ((((g0.drop s).take s2)).length) 64) && (Nat.ble (s + s2) (g0).length)) then
 (some ((((g0.drop s).take s2)).length, g0, ((g0.drop s).take s2)))
 else none)
 else none)
def zbg : Con τ := { args := [.wsl 65 0], L := [.gbx 65], ret := .msl 65 1, L' := [.gbx 65, .gbx 65], R := Nat × (List (GSent)) × (List (GSent)), dflt := (default, default, default), F := fun N a b => zd1 N a.1.1 a.1.2.1 a.1.2.2.1 a.1.2.2.2 b.1, of := fun r => (r.1, (r.2.1, r.2.2, ())) }
noncomputable def zlo : Dat τ := { D := D0, tbl := tblOf [], lp := lpsOf [], k0 := 1, mu := [7], un := [] }
theorem zmr : ConOk E C 83 zbg :=
  z9 (D := zlo) ⟨d0Ok, eGood, z7 trivial, fun _ => rfl⟩ zbg (fun a b => (a, b.1, b.2.1)) none (fun _ _ => rfl) rfl (fun _ _ h => nomatch h) 1000000 (fn := Tryz.f83) Tryz.func83 rfl (by kernel_rfl) (by kernel_rfl) rfl (by intro N a b; kernel_rfl)
def zo5 (N : Nat) (g0 : List (GSent)) : Option (Nat × (List (GSent)) × (List (GSent))) :=
 (some (0, g0, []))
def z72 : Con τ := { args := [.nil .slice], L := [.gbx 65], ret := .msl 65 1, L' := [.gbx 65, .gbx 65], R := Nat × (List (GSent)) × (List (GSent)), dflt := (default, default, default), F := fun N a b => zo5 N b.1, of := fun r => (r.1, (r.2.1, r.2.2, ())) }
noncomputable def zlp : Dat τ := { D := D0, tbl := tblOf [], lp := lpsOf [], k0 := 1, mu := [7], un := [] }
theorem zms : ConOk E C 83 z72 :=
  z9 (D := zlp) ⟨d0Ok, eGood, z7 trivial, fun _ => rfl⟩ z72 (fun a b => (a, b.1, b.2.1)) none (fun _ _ => rfl) rfl (fun _ _ h => nomatch h) 1000000 (fn := Tryz.f83) Tryz.func83 rfl (by kernel_rfl) (by kernel_rfl) rfl (by intro N a b; kernel_rfl)
def zd2 (N : Nat) (s : Nat) (g0 : List (GSent)) : Option (Nat × (List (GSent)) × (List (GSent))) := zd1 N 0 s s true g0
def z73 : Con τ := { args := [.msl 65 0], L := [.gbx 65], ret := .msl 65 1, L' := [.gbx 65, .gbx 65], R := Nat × (List (GSent)) × (List (GSent)), dflt := (default, default, default), F := fun N a b => zd2 N a.1 b.1, of := fun r => (r.1, (r.2.1, r.2.2, ())) }
theorem zmt : ConOk E C 83 z73 := by
  intro N a b r h
  obtain ⟨x0, u⟩ := a
  refine FnSpec.splitM (pre := []) (post := []) (fun h0 => ?_) (zmr N ((0, x0, x0, true), u) b r h)
  have h0 : x0 = (0 : Nat) := h0
  subst h0
  have e : z72.F N ((), u) b = z73.F N ((0 : Nat), u) b := by
    obtain ⟨b0, v⟩ := b
    cases b0 <;> kernel_rfl
  exact zms N ((), u) b r (e.trans h)
structure z8q where
  t8 : Int
  g1 : List (GSent)
def zee : List Sl := [.k, .k, .k, .j, .k, .k, .k, .k, .sh (.ty 2), .j, .j, .j, .j, .j, .j, .j, .j, .j, .j, .j, .j, .j, .k]
def zef : List ESh := [.keep, .gbx 65]
def zw6 (a : Sl.Ts τ zee) (b : ESh.Ts τ zef) : z8q := ⟨a.2.2.2.2.2.2.2.2.1, b.2.1⟩
def zw7 (s : z8q) : Sl.Ts τ zee := ((), (), (), (), (), (), (), (), s.t8, (), (), (), (), (), (), (), (), (), (), (), (), (), (), ())
def zw8 (s : z8q) : ESh.Ts τ zef := ((), s.g1, ())
def zw9 : Lp τ := { ts := zee, hs := zef, S := z8q, to := zw6, ot := zw7, oh := zw8, hk := [4, 4], tk := [], ot_to := fun _ _ => rfl, oh_to := fun _ _ => rfl }
def zfm (N : Nat) (l : Nat) (g0 : List (GSent)) : Option (Nat × (List (GSent)) × (List (GSent))) :=
 ((zd2 N l g0).bind fun r1 =>
 (iter N (fun (s2 : z8q) next3 =>
 (bif (decide (s2.t8 < ((r1.1 : Nat) : Int))) then
 (bif (ibB s2.t8 ((r1.1 : Nat) : Int)) then
 (bif (decide ((s2.t8).toNat < (s2.g1).length)) then
 ((z26 N ((s2.g1.getD ((s2.t8).toNat) default).Data)).bind fun r4 =>
 (bif (ibB s2.t8 ((r1.1 : Nat) : Int)) then
 (bif (decide ((s2.t8).toNat < (s2.g1).length)) then
 (next3 ⟨(IntKind.i64.wrap (s2.t8 + 1)), (s2.g1.set ((s2.t8).toNat) (⟨(s2.g1.getD ((s2.t8).toNat) default).Number, ((s2.g1.getD ((s2.t8).toNat) default).From), ((s2.g1.getD ((s2.t8).toNat) default).To), r4⟩ : GSent))⟩)
 else none)
 else none))
 else none)
 else none)
 else
 (some (r1.1, r1.2.1, s2.g1)))) ⟨0, r1.2.2⟩))
def z8r : Con τ := { args := [.msl 65 0], L := [.gbx 65], ret := .msl 65 1, L' := [.gbx 65, .gbx 65], R := Nat × (List (GSent)) × (List (GSent)), dflt := (default, default, default), F := fun N a b => zfm N a.1 b.1, of := fun r => (r.1, (r.2.1, r.2.2, ())) }
noncomputable def zxe : Dat τ := { D := D0, tbl := tblOf [(83, z73), (40, z1f)], lp := lpsOf [(3, zw9)], k0 := 1, mu := [], un := [] }
theorem zk3 : ConOk E C 38 z8r :=
  z9 (D := zxe) ⟨d0Ok, eGood, z7 ⟨zmt, ⟨z2c, trivial⟩⟩, fun _ => rfl⟩ z8r (fun a b => (a, b.1, b.2.1)) none (fun _ _ => rfl) rfl (fun _ _ h => nomatch h) 1000000 (fn := Tryz.f38) Tryz.func38 rfl (by kernel_rfl) (by kernel_rfl) rfl (by intro N a b; kernel_rfl)
def ziz (N : Nat) (b0 : Nat) (b02 : Int) (b03 : Bool) (g1 : List (GSent)) : Option (Bool × Nat × Int × Bool × (List (GSent)) × Nat × Int × Bool × (List (GSent)) × Nat × Int × Bool × (List (GSent))) :=
 ((z2i N b0 b02 b03 g1).bind fun r1 =>
 (bif r1.1 then
 (some (true, default, default, default, default, default, default, default, default, r1.2.1, r1.2.2.1, r1.2.2.2.1, r1.2.2.2.2))
 else
 ((zfm N r1.2.1 r1.2.2.2.2).bind fun r2 =>
 (some (false, r1.2.1, r1.2.2.1, r1.2.2.2.1, r2.2.1, r2.1, r1.2.2.1, true, r2.2.2, default, default, default, default)))))
def zex : Alt τ (Bool × Nat × Int × Bool × (List (GSent)) × Nat × Int × Bool × (List (GSent)) × Nat × Int × Bool × (List (GSent))) := { ret := .nil .ptr, L' := [.box (.agg [.agg [.msl 65 1, .ty 2], .ty 4]), .gbx 65], of := fun r => ((), (((r.2.2.2.2.2.2.2.2.2.1, r.2.2.2.2.2.2.2.2.2.2.1, ()), r.2.2.2.2.2.2.2.2.2.2.2.1, ()), r.2.2.2.2.2.2.2.2.2.2.2.2, ())) }
def z9r : Con τ := { args := [.ptr 0 []], L := [.box (.agg [.agg [.msl 65 1, .ty 2], .ty 4]), .gbx 65], ret := .ptr 2 [], L' := [.box (.agg [.agg [.msl 65 1, .ty 2], .ty 4]), .gbx 65, .box (.agg [.agg [.msl 65 3, .ty 2], .ty 4]), .gbx 65], R := Bool × Nat × Int × Bool × (List (GSent)) × Nat × Int × Bool × (List (GSent)) × Nat × Int × Bool × (List (GSent)), dflt := (default, default, default, default, default, default, default, default, default, default, default, default, default), F := fun N a b => ziz N b.1.1.1 b.1.1.2.1 b.1.2.1 b.2.1, of := fun r => ((), (((r.2.1, r.2.2.1, ()), r.2.2.2.1, ()), r.2.2.2.2.1, ((r.2.2.2.2.2.1, r.2.2.2.2.2.2.1, ()), r.2.2.2.2.2.2.2.1, ()), r.2.2.2.2.2.2.2.2.1, ())), alt := some zex, sel := fun r => r.1 }
noncomputable def zqn : Dat τ := { D := D0, tbl := tblOf [(25, z1l), (38, z8r)], lp := lpsOf [], k0 := 2, mu := [], un := [] }
theorem zs1 : ConOk E C 22 z9r :=
  z9 (D := zqn) ⟨d0Ok, eGood, z7 ⟨z2s, ⟨zk3, trivial⟩⟩, fun _ => rfl⟩ z9r (fun a b => (false, b.1.1.1, b.1.1.2.1, b.1.2.1, b.2.1, b.2.2.1.1.1, b.2.2.1.1.2.1, b.2.2.1.2.1, b.2.2.2.1, default, default, default, default)) (some ⟨zex, fun a b => (true, default, default, default, default, default, default, default, default, b.1.1.1, b.1.1.2.1, b.1.2.1, b.2.1)⟩) (fun _ _ => rfl) rfl (fun A t h => by cases h; exact ⟨fun _ _ => rfl, fun _ _ => rfl, fun _ _ => rfl⟩) 1000000 (fn := Tryz.f22) Tryz.func22 rfl (by kernel_rfl) (by kernel_rfl) rfl (by intro N a b; kernel_rfl)
def zeg (N : Nat) (b0 : Nat) (b02 : Int) (b03 : Bool) (g1 : List (GSent)) : Option (Nat × Int × Bool × (List (GSent)) × Nat × (List (GSent))) :=
 ((z2i N b0 b02 b03 g1).bind fun r1 =>
 (bif (!r1.1) then
 ((zfm N r1.2.1 r1.2.2.2.2).bind fun r2 =>
 (some (r1.2.1, r1.2.2.1, r1.2.2.2.1, r2.2.1, r2.1, r2.2.2)))
 else
 (some (r1.2.1, r1.2.2.1, r1.2.2.2.1, r1.2.2.2.2, 0, []))))
def zc9 : Con τ := { args := [.ptr 0 []], L := [.box (.agg [.agg [.msl 65 1, .ty 2], .ty 4]), .gbx 65], ret := .fn 39 [.ptr 2 []], L' := [.box (.agg [.agg [.msl 65 1, .ty 2], .ty 4]), .gbx 65, .box (.msl 65 3), .gbx 65], R := Nat × Int × Bool × (List (GSent)) × Nat × (List (GSent)), dflt := (default, default, default, default, default, default), F := fun N a b => zeg N b.1.1.1 b.1.1.2.1 b.1.2.1 b.2.1, of := fun r => (((), ()), (((r.1, r.2.1, ()), r.2.2.1, ()), r.2.2.2.1, r.2.2.2.2.1, r.2.2.2.2.2, ())) }
noncomputable def ztm : Dat τ := { D := D0, tbl := tblOf [(25, z1l), (38, z8r)], lp := lpsOf [], k0 := 2, mu := [], un := [] }
theorem zus : ConOk E C 16 zc9 :=
  z9 (D := ztm) ⟨d0Ok, eGood, z7 ⟨z2s, ⟨zk3, trivial⟩⟩, fun _ => rfl⟩ zc9 (fun a b => (b.1.1.1, b.1.1.2.1, b.1.2.1, b.2.1, b.2.2.1, b.2.2.2.1)) none (fun _ _ => rfl) rfl (fun _ _ h => nomatch h) 1000000 (fn := Tryz.f16) Tryz.func16 rfl (by kernel_rfl) (by kernel_rfl) rfl (by intro N a b; kernel_rfl)
structure z43 where
  t8 : Int
  z0 : GMsg
  z02 : z1o
  z03 : GMsg
  z04 : GMsg
  b2 : Bool
def z8s : List Sl := [.k, .k, .k, .k, .j, .k, .k, .k, .sh (.ty 2), .j, .j, .j, .j, .j, .j, .j, .j]
def z8t : List ESh := [.rcd 6 13 [.ty 42, .junk, .junk, .junk, .ptr 2 [], .junk, .junk, .junk, .junk, .junk, .junk, .junk, .junk, .junk, .junk, .junk, .junk, .ty 81, .junk, .junk, .junk, .junk, .junk, .junk, .junk, .junk, .junk, .ty 42, .junk, .junk, .junk, .junk, .junk, .junk, .junk, .junk, .ty 42, .junk, .junk, .junk, .junk, .junk, .junk, .junk, .junk, .junk, .junk, .junk, .junk, .junk, .junk, .junk, .junk, .junk, .junk, .junk, .junk, .junk, .junk, .junk, .junk, .junk, .junk, .junk, .junk, .junk, .junk, .junk, .junk, .junk, .junk, .junk, .junk, .junk, .junk, .junk, .junk, .junk, .junk, .junk, .junk, .junk, .junk, .junk, .junk, .junk, .junk, .junk, .junk, .junk, .junk, .junk, .junk, .junk, .junk, .junk, .junk, .junk, .junk, .junk, .junk, .junk, .junk, .junk, .junk, .junk, .junk, .junk, .junk, .junk, .junk, .junk, .junk, .junk], .keep, .box (.ty 4), .keep, .keep]
def zp3 (a : Sl.Ts τ z8s) (b : ESh.Ts τ z8t) : z43 := ⟨a.2.2.2.2.2.2.2.2.1, b.1.1, b.1.2.2.2.2.2.2.2.2.2.2.2.2.2.2.2.2.2.1, b.1.2.2.2.2.2.2.2.2.2.2.2.2.2.2.2.2.2.2.2.2.2.2.2.2.2.2.2.1, b.1.2.2.2.2.2.2.2.2.2.2.2.2.2.2.2.2.2.2.2.2.2.2.2.2.2.2.2.2.2.2.2.2.2.2.2.2.1, b.2.2.1⟩
def zp4 (s : z43) : Sl.Ts τ z8s := ((), (), (), (), (), (), (), (), s.t8, (), (), (), (), (), (), (), (), ())
def zp5 (s : z43) : ESh.Ts τ z8t := ((s.z0, (), (), (), (), (), (), (), (), (), (), (), (), (), (), (), (), s.z02, (), (), (), (), (), (), (), (), (), s.z03, (), (), (), (), (), (), (), (), s.z04, (), (), (), (), (), (), (), (), (), (), (), (), (), (), (), (), (), (), (), (), (), (), (), (), (), (), (), (), (), (), (), (), (), (), (), (), (), (), (), (), (), (), (), (), (), (), (), (), (), (), (), (), (), (), (), (), (), (), (), (), (), (), (), (), (), (), (), (), (), (), (), (), (), (), (), (), (), ()), (), s.b2, (), (), ())
def zp6 : Lp τ := { ts := z8s, hs := z8t, S := z43, to := zp3, ot := zp4, oh := zp5, hk := [6, 2, 2, 4, 4], tk := [0, 3], ot_to := fun _ _ => rfl, oh_to := fun _ _ => rfl }
def zca (N : Nat) (z0 : GMsg) (z02 : z1o) (z03 : GMsg) (z04 : GMsg) (b1 : Nat) (b2 : Bool) (g3 : List (GSent)) : Option (Bool × GMsg × z1o × GMsg × GMsg × Nat × Bool × (List (GSent)) × Nat × Nat × Bool × (List (GSent))) :=
 ((zfm N b1 g3).bind fun r1 =>
 (iter N (fun (s2 : z43) next3 =>
 (bif (decide (s2.t8 < ((r1.1 : Nat) : Int))) then
 (bif (ibB s2.t8 ((r1.1 : Nat) : Int)) then
 (bif (decide ((s2.t8).toNat < (r1.2.2).length)) then
 ((zc8 N (⟨(r1.2.2.getD ((s2.t8).toNat) default).Number, ((r1.2.2.getD ((s2.t8).toNat) default).From), ((r1.2.2.getD ((s2.t8).toNat) default).To), (r1.2.2.getD ((s2.t8).toNat) default).Data⟩ : GSent) s2.z0 s2.z02 s2.z03 s2.z04 s2.b2).bind fun r4 =>
 (bif r4.1 then
 (some (true, default, default, default, default, default, default, default, r4.2.2.2.2.2.2.1, b1, r4.2.2.2.2.2.2.2, r1.2.1))
 else
 (next3 ⟨(IntKind.i64.wrap (s2.t8 + 1)), r4.2.1, r4.2.2.1, r4.2.2.2.1, r4.2.2.2.2.1, r4.2.2.2.2.2.1⟩)))
 else none)
 else none)
 else
 (some (false, s2.z0, s2.z02, s2.z03, s2.z04, b1, s2.b2, r1.2.1, default, default, default, default)))) ⟨0, z0, z02, z03, z04, b2⟩))
def zgg : List ESh := [.rcd 6 13 [.ty 42, .junk, .junk, .junk, .ptr 2 [], .junk, .junk, .junk, .junk, .junk, .junk, .junk, .junk, .junk, .junk, .junk, .junk, .ty 81, .junk, .junk, .junk, .junk, .junk, .junk, .junk, .junk, .junk, .ty 42, .junk, .junk, .junk, .junk, .junk, .junk, .junk, .junk, .ty 42, .junk, .junk, .junk, .junk, .junk, .junk, .junk, .junk, .junk, .junk, .junk, .junk, .junk, .junk, .junk, .junk, .junk, .junk, .junk, .junk, .junk, .junk, .junk, .junk, .junk, .junk, .junk, .junk, .junk, .junk, .junk, .junk, .junk, .junk, .junk, .junk, .junk, .junk, .junk, .junk, .junk, .junk, .junk, .junk, .junk, .junk, .junk, .junk, .junk, .junk, .junk, .junk, .junk, .junk, .junk, .junk, .junk, .junk, .junk, .junk, .junk, .junk, .junk, .junk, .junk, .junk, .junk, .junk, .junk, .junk, .junk, .junk, .junk, .junk, .junk, .junk, .junk], .box (.msl 65 3), .box (.ty 4), .gbx 65]
def zey : Alt τ (Bool × GMsg × z1o × GMsg × GMsg × Nat × Bool × (List (GSent)) × Nat × Nat × Bool × (List (GSent))) := { ret := .tup [], L' := [.rdn, .box (.msl 65 3), .box (.ty 4), .gbx 65], of := fun r => ((), (r.2.2.2.2.2.2.2.2.1, r.2.2.2.2.2.2.2.2.2.1, r.2.2.2.2.2.2.2.2.2.2.1, r.2.2.2.2.2.2.2.2.2.2.2, ())) }
def z9s : Con τ := { args := [.yld 0, .ptr 1 []], L := zgg, ret := .tup [], L' := zgg, R := Bool × GMsg × z1o × GMsg × GMsg × Nat × Bool × (List (GSent)) × Nat × Nat × Bool × (List (GSent)), dflt := (default, default, default, default, default, default, default, default, default, default, default, default), F := fun N a b => zca N b.1.1 b.1.2.2.2.2.2.2.2.2.2.2.2.2.2.2.2.2.2.1 b.1.2.2.2.2.2.2.2.2.2.2.2.2.2.2.2.2.2.2.2.2.2.2.2.2.2.2.2.1 b.1.2.2.2.2.2.2.2.2.2.2.2.2.2.2.2.2.2.2.2.2.2.2.2.2.2.2.2.2.2.2.2.2.2.2.2.2.1 b.2.1 b.2.2.1 b.2.2.2.1, of := fun r => ((), ((r.2.1, (), (), (), (), (), (), (), (), (), (), (), (), (), (), (), (), r.2.2.1, (), (), (), (), (), (), (), (), (), r.2.2.2.1, (), (), (), (), (), (), (), (), r.2.2.2.2.1, (), (), (), (), (), (), (), (), (), (), (), (), (), (), (), (), (), (), (), (), (), (), (), (), (), (), (), (), (), (), (), (), (), (), (), (), (), (), (), (), (), (), (), (), (), (), (), (), (), (), (), (), (), (), (), (), (), (), (), (), (), (), (), (), (), (), (), (), (), (), (), (), (), (), (), (), (), ()), r.2.2.2.2.2.1, r.2.2.2.2.2.2.1, r.2.2.2.2.2.2.2.1, ())), alt := some zey, sel := fun r => r.1 }
noncomputable def zqo : Dat τ := { D := D0, tbl := tblOf [(38, z8r), (1000000, z9l)], lp := lpsOf [(1, zp6)], k0 := 4, mu := [], un := [] }
theorem zs2 : ConOk E C 39 z9s :=
  z9 (D := zqo) ⟨d0Ok, eGood, z7 ⟨zk3, ⟨zgc, trivial⟩⟩, fun _ => rfl⟩ z9s (fun a b => (false, b.1.1, b.1.2.2.2.2.2.2.2.2.2.2.2.2.2.2.2.2.2.1, b.1.2.2.2.2.2.2.2.2.2.2.2.2.2.2.2.2.2.2.2.2.2.2.2.2.2.2.2.1, b.1.2.2.2.2.2.2.2.2.2.2.2.2.2.2.2.2.2.2.2.2.2.2.2.2.2.2.2.2.2.2.2.2.2.2.2.2.1, b.2.1, b.2.2.1, b.2.2.2.1, default, default, default, default)) (some ⟨zey, fun a b => (true, default, default, default, default, default, default, default, b.1, b.2.1, b.2.2.1, b.2.2.2.1)⟩) (fun _ _ => rfl) rfl (fun A t h => by cases h; exact ⟨fun _ _ => rfl, fun _ _ => rfl, fun _ _ => rfl⟩) 1000000 (fn := Tryz.f39) Tryz.func39 rfl (by kernel_rfl) (by kernel_rfl) rfl (by intro N a b; kernel_rfl)
def zk4 (N : Nat) (m : GMsg) (number : Int) : Option (Bool) :=
 ((zxa N).bind fun r1 =>
 (bif (!r1) then
 (some false)
 else
 ((zle N number).bind fun r2 =>
 ((zk2 N r2.1 (⟨0, (⟨0, 0⟩ : GAddr), (⟨0, 0⟩ : GAddr), (⟨0, 0⟩ : zq), 0, [], (⟨0, 0, 0, (⟨(⟨0, 0⟩ : zx), 0, 0, 0, [], [], []⟩ : GOp), 0, 0, [], (⟨0, (Vector.replicate 8 (default : Int)), (Vector.replicate 8 (default : Int)), (Vector.replicate 8 (default : Int))⟩ : za), 0, (Vector.replicate 8 (default : Int)), 0, (⟨0, 0, 0, []⟩ : GPart), 0, 0, 0⟩ : zd), 0, (Vector.replicate 8 (default : Int)), 0, 0, [], (⟨0, (Vector.replicate 8 (default : Int)), (Vector.replicate 8 (default : Int)), (Vector.replicate 8 (default : Int))⟩ : za), (⟨0, 0, 0, []⟩ : GPart)⟩ : GMsg)).bind fun r3 =>
 ((bif (!((((!r3) || (!(r2.2 == 2))) && true) && true)) then zlg N number else some default).bind fun r4 =>
 ((bif (!(((((!r3) || (!(r2.2 == 2))) && true) && true) || (!(r4 == 2)))) then ziu N number 0 1 else some default).bind fun r5 =>
 ((bif (!((((((((!r3) || (!(r2.2 == 2))) && true) && true) || (!(r4 == 2))) || (!(r5 == 2))) && true) && true)) then znq N else some default).bind fun r6 =>
 ((bif (!(((((((((!r3) || (!(r2.2 == 2))) && true) && true) || (!(r4 == 2))) || (!(r5 == 2))) && true) && true) || (!(r6 == 0)))) then zlh N [m.From] else some default).bind fun r7 =>
 ((bif (!((((((((((!r3) || (!(r2.2 == 2))) && true) && true) || (!(r4 == 2))) || (!(r5 == 2))) && true) && true) || (!(r6 == 0))) || (!(r7 == 0)))) then ziv N else some ()).bind fun r8 =>
 (bif (((((((((((!r3) || (!(r2.2 == 2))) && true) && true) || (!(r4 == 2))) || (!(r5 == 2))) && true) && true) || (!(r6 == 0))) || (!(r7 == 0))) && true) then
 (some false)
 else
 ((znr N).bind fun r9 =>
 ((ziw N m (⟨(⟨[], 0⟩ : z2e), false⟩ : z1o) m r2.1 r9 false).bind fun r10 =>
 (bif r10.1 then
 (bif (Nat.beq r10.2.2.2.2.2.2.2.1 0) then
 (some r10.2.2.2.2.2.2.2.2.2)
 else
 none)
 else
 ((zll N [m] 0 false).bind fun r11 =>
 ((zdc N number r11.2.2.1 r11.2.2.2.1 r11.2.2.2.2.1 r11.2.2.2.2.2).bind fun r12 =>
 ((zge N number r12.2.2.1 r12.2.2.2.1 r12.2.2.2.2.1 r12.2.2.2.2.2).bind fun r13 =>
 ((zc3 N r13.2.2.1 r13.2.2.2.1 r13.2.2.2.2.1 r13.2.2.2.2.2).bind fun r14 =>
 ((bif (!((!(r11.1 == 0)) || (!(r11.2.1 == 2)))) then zk2 N r12.1 (⟨0, (⟨0, 0⟩ : GAddr), (⟨0, 0⟩ : GAddr), (⟨0, 0⟩ : zq), 0, [], (⟨0, 0, 0, (⟨(⟨0, 0⟩ : zx), 0, 0, 0, [], [], []⟩ : GOp), 0, 0, [], (⟨0, (Vector.replicate 8 (default : Int)), (Vector.replicate 8 (default : Int)), (Vector.replicate 8 (default : Int))⟩ : za), 0, (Vector.replicate 8 (default : Int)), 0, (⟨0, 0, 0, []⟩ : GPart), 0, 0, 0⟩ : zd), 0, (Vector.replicate 8 (default : Int)), 0, 0, [], (⟨0, (Vector.replicate 8 (default : Int)), (Vector.replicate 8 (default : Int)), (Vector.replicate 8 (default : Int))⟩ : za), (⟨0, 0, 0, []⟩ : GPart)⟩ : GMsg) else some default).bind fun r15 =>
 (bif (!((((((!(r11.1 == 0)) || (!(r11.2.1 == 2))) || (!r15)) || (!(r12.2.1 == 2))) || (!(r13.1 == 0))) || (!(r13.2.1 == 2)))) then
 ((zlm N number r14.2.2.1 r14.2.2.2.1 r14.2.2.2.2.1 r14.2.2.2.2.2).bind fun r16 =>
 (bif (!(((((((!(r11.1 == 0)) || (!(r11.2.1 == 2))) || (!r15)) || (!(r12.2.1 == 2))) || (!(r13.1 == 0))) || (!(r13.2.1 == 2))) || (!(r16.1 == 2)))) then
 ((zix N number 0 1 r16.2.1 r16.2.2.1 r16.2.2.2.1 r16.2.2.2.2).bind fun r17 =>
 (bif (!((((((((((!(r11.1 == 0)) || (!(r11.2.1 == 2))) || (!r15)) || (!(r12.2.1 == 2))) || (!(r13.1 == 0))) || (!(r13.2.1 == 2))) || (!(r16.1 == 2))) || (!(r17.1 == 2))) || (!(r14.1 == 0))) || r14.2.1)) then
 ((ze4 N r17.2.1 r17.2.2.1 r17.2.2.2.1 r17.2.2.2.2).bind fun r18 =>
 (bif (!(((((((((((!(r11.1 == 0)) || (!(r11.2.1 == 2))) || (!r15)) || (!(r12.2.1 == 2))) || (!(r13.1 == 0))) || (!(r13.2.1 == 2))) || (!(r16.1 == 2))) || (!(r17.1 == 2))) || (!(r14.1 == 0))) || r14.2.1) || (!(r18.1 == 0)))) then
 ((zln N [m.From] r18.2.1 r18.2.2.1 r18.2.2.2.1 r18.2.2.2.2).bind fun r19 =>
 (bif (!((((((((((((!(r11.1 == 0)) || (!(r11.2.1 == 2))) || (!r15)) || (!(r12.2.1 == 2))) || (!(r13.1 == 0))) || (!(r13.2.1 == 2))) || (!(r16.1 == 2))) || (!(r17.1 == 2))) || (!(r14.1 == 0))) || r14.2.1) || (!(r18.1 == 0))) || (!(r19.1 == 0)))) then
 ((ziz N r19.2.1 r19.2.2.1 r19.2.2.2.1 r19.2.2.2.2).bind fun r20 =>
 (bif r20.1 then
 (bif (((((((((((((!(r11.1 == 0)) || (!(r11.2.1 == 2))) || (!r15)) || (!(r12.2.1 == 2))) || (!(r13.1 == 0))) || (!(r13.2.1 == 2))) || (!(r16.1 == 2))) || (!(r17.1 == 2))) || (!(r14.1 == 0))) || r14.2.1) || (!(r18.1 == 0))) || (!(r19.1 == 0))) && true) then
 (some false)
 else
 ((zeg N r20.2.2.2.2.2.2.2.2.2.1 r20.2.2.2.2.2.2.2.2.2.2.1 r20.2.2.2.2.2.2.2.2.2.2.2.1 r20.2.2.2.2.2.2.2.2.2.2.2.2).bind fun r21 =>
 ((zca N m (⟨(⟨[], 0⟩ : z2e), false⟩ : z1o) m r12.1 r21.2.2.2.2.1 r10.2.2.2.2.2.2.1 r21.2.2.2.2.2).bind fun r22 =>
 (bif r22.1 then
 (bif (Nat.beq r22.2.2.2.2.2.2.2.2.1 0) then
 (some r22.2.2.2.2.2.2.2.2.2.2.1)
 else
 none)
 else
 (some true)))))
 else
 (bif (((((((((((((!(r11.1 == 0)) || (!(r11.2.1 == 2))) || (!r15)) || (!(r12.2.1 == 2))) || (!(r13.1 == 0))) || (!(r13.2.1 == 2))) || (!(r16.1 == 2))) || (!(r17.1 == 2))) || (!(r14.1 == 0))) || r14.2.1) || (!(r18.1 == 0))) || (!(r19.1 == 0))) || true) then
 (some false)
 else
 ((zeg N r20.2.1 r20.2.2.1 r20.2.2.2.1 r20.2.2.2.2.1).bind fun r23 =>
 ((zca N m (⟨(⟨[], 0⟩ : z2e), false⟩ : z1o) m r12.1 r23.2.2.2.2.1 r10.2.2.2.2.2.2.1 r23.2.2.2.2.2).bind fun r24 =>
 (bif r24.1 then
 (bif (Nat.beq r24.2.2.2.2.2.2.2.2.1 0) then
 (some r24.2.2.2.2.2.2.2.2.2.2.1)
 else
 none)
 else
 (some true)))))))
 else
 (some false)))
 else
 (some false)))
 else
 (some false)))
 else
 (some false)))
 else
 (some false))))))))))))))))))))
def zns : Con τ := { args := [.ty 43, .ty 2], L := [], ret := .ty 4, L' := [], R := Bool, dflt := default, F := fun N a b => zk4 N a.1 a.2.1, of := fun r => (r, ()) }
noncomputable def zwa : Dat τ := { D := D0, tbl := tblOf [(9, zmm), (10, zav), (13, zaw), (17, z8h), (19, z9h), (14, ze6), (20, zax), (12, z9j), (15, zc6), (21, zay), (22, z9k), (16, zc7), (39, z9m), (10, zb0), (13, z7e), (17, z8l), (19, z6w), (20, zb1), (12, z9p), (15, z85), (21, zb3), (22, z9r), (16, zc9), (39, z9s)], lp := lpsOf [], k0 := 0, mu := [], un := [(4, 4)], fid := 6, ex := [0] }
theorem zxf : ConOk E C 6 zns :=
  z9 (D := zwa) ⟨d0Ok, eGood, z7 ⟨z11g, ⟨zt5, ⟨zt6, ⟨zq9, ⟨zro, ⟨zxc, ⟨ztd, ⟨zrr, ⟨zuq, ⟨ztf, ⟨zrt, ⟨zur, ⟨zru, ⟨ztj, ⟨zis, ⟨zqk, ⟨zg8, ⟨ztk, ⟨zry, ⟨zld, ⟨ztl, ⟨zs1, ⟨zus, ⟨zs2, trivial⟩⟩⟩⟩⟩⟩⟩⟩⟩⟩⟩⟩⟩⟩⟩⟩⟩⟩⟩⟩⟩⟩⟩⟩, fun _ => rfl⟩ zns (fun a b => a) none (fun _ _ => rfl) rfl (fun _ _ h => nomatch h) 1000000 (fn := Tryz.f6) Tryz.func6 rfl (by kernel_rfl) (by kernel_rfl) rfl (by intro N a b; kernel_rfl) (hsub := ⟨z2b (by kernel_rfl), ⟨z2b (by kernel_rfl), ⟨⟨z2b (by kernel_rfl), ⟨z2b (by kernel_rfl), ⟨z2b (by kernel_rfl), ⟨⟨z2b (by kernel_rfl), ⟨z2b (by kernel_rfl), ⟨z2b (by kernel_rfl), ⟨z2b (by kernel_rfl), ⟨z2b (by kernel_rfl), ⟨z2b (by kernel_rfl), ⟨z2b (by kernel_rfl), (by show SiteP _ _ _ _; unfold SiteP; kernel_rfl)⟩⟩⟩⟩⟩⟩⟩, z2b (by kernel_rfl)⟩⟩⟩⟩, z2b (by kernel_rfl)⟩⟩⟩)
end Go.Proofs.YtddpmkmgbdedlaaGreat
