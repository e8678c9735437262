/-
The functions of this seat, as plain functions over typed data, each with its contract. Printed by wip/tools/fngen.py.
-/
import Derived.Test.YteinehkdjkobnaaGreatqFwa
import Derived.Test.YteinehkdjkobnaaGreatqTvX
import Derived.KernelRfl
set_option linter.unusedVariables false
set_option maxRecDepth 100000
namespace Go.Proofs.YteinehkdjkobnaaGreat
open Go Go.Ev
structure zce where
  sum : Int
  t11 : Int
def zlr : List Sl := [.k, .k, .k, .sh (.ty 167), .k, .j, .k, .j, .j, .k, .k, .sh (.ty 2), .j, .j, .j, .j, .j, .j, .j, .j, .j, .j, .j, .j, .j, .j, .j, .j, .j, .j, .j, .j, .j, .j, .j, .j, .j, .j, .k, .k]
def zls : List ESh := []
def zzx (a : Sl.Ts τ zlr) (b : ESh.Ts τ zls) : zce := ⟨a.2.2.2.1, a.2.2.2.2.2.2.2.2.2.2.2.1⟩
def zzy (s : zce) : Sl.Ts τ zlr := ((), (), (), s.sum, (), (), (), (), (), (), (), s.t11, (), (), (), (), (), (), (), (), (), (), (), (), (), (), (), (), (), (), (), (), (), (), (), (), (), (), (), (), ())
def zzz (s : zce) : ESh.Ts τ zls := ()
def z100 : Lp τ := { ts := zlr, hs := zls, S := zce, to := zzx, ot := zzy, oh := zzz, hk := [], tk := [], ot_to := fun _ _ => rfl, oh_to := fun _ _ => rfl }
structure z9x where
  sum : Int
  t17 : Int
def zlt : List Sl := [.k, .k, .k, .sh (.ty 167), .k, .k, .k, .j, .j, .k, .k, .k, .k, .k, .k, .k, .k, .sh (.ty 2), .j, .j, .j, .j, .j, .j, .j, .j, .j, .j, .j, .j, .j, .j, .j, .j, .j, .j, .j, .k, .k, .k]
def zlu : List ESh := []
def z101 (a : Sl.Ts τ zlt) (b : ESh.Ts τ zlu) : z9x := ⟨a.2.2.2.1, a.2.2.2.2.2.2.2.2.2.2.2.2.2.2.2.2.2.1⟩
def z102 (s : z9x) : Sl.Ts τ zlt := ((), (), (), s.sum, (), (), (), (), (), (), (), (), (), (), (), (), (), s.t17, (), (), (), (), (), (), (), (), (), (), (), (), (), (), (), (), (), (), (), (), (), (), ())
def z103 (s : z9x) : ESh.Ts τ zlu := ()
def z104 : Lp τ := { ts := zlt, hs := zlu, S := z9x, to := z101, ot := z102, oh := z103, hk := [], tk := [], ot_to := fun _ _ => rfl, oh_to := fun _ _ => rfl }
structure z7d where
  sum : Int
  t25 : Int
def zjs : List Sl := [.k, .k, .k, .sh (.ty 167), .k, .k, .k, .k, .j, .k, .k, .k, .k, .k, .k, .k, .k, .k, .k, .k, .k, .k, .k, .k, .k, .sh (.ty 2), .j, .j, .j, .j, .j, .j, .j, .j, .j, .j, .k, .k, .k, .k]
def zjt : List ESh := []
def zy1 (a : Sl.Ts τ zjs) (b : ESh.Ts τ zjt) : z7d := ⟨a.2.2.2.1, a.2.2.2.2.2.2.2.2.2.2.2.2.2.2.2.2.2.2.2.2.2.2.2.2.2.1⟩
def zy2 (s : z7d) : Sl.Ts τ zjs := ((), (), (), s.sum, (), (), (), (), (), (), (), (), (), (), (), (), (), (), (), (), (), (), (), (), (), s.t25, (), (), (), (), (), (), (), (), (), (), (), (), (), (), ())
def zy3 (s : z7d) : ESh.Ts τ zjt := ()
def zy4 : Lp τ := { ts := zjs, hs := zjt, S := z7d, to := zy1, ot := zy2, oh := zy3, hk := [], tk := [], ot_to := fun _ _ => rfl, oh_to := fun _ _ => rfl }
def zpg (N : Nat) (l : List (List (Int))) : Option (Int) :=
 (iter N (fun (s1 : zce) next2 =>
 (bif (decide (s1.t11 < ((l).length : Int))) then
 (bif (ibB s1.t11 ((l).length : Int)) then
 (iter N (fun (s3 : z9x) next4 =>
 (bif (decide (s3.t17 < (((lget l s1.t11 default)).length : Int))) then
 (bif (ibB s3.t17 (((lget l s1.t11 default)).length : Int)) then
 (iter N (fun (s5 : z7d) next6 =>
 (bif (decide (s5.t25 < 8)) then
 (bif ((bits .and .u32 s5.sum 1) == 1) then
 (next6 ⟨(bits .xor .u32 (shr .u32 s5.sum 1) 3988292384), (IntKind.i64.wrap (s5.t25 + 1))⟩)
 else
 (next6 ⟨(shr .u32 s5.sum 1), (IntKind.i64.wrap (s5.t25 + 1))⟩))
 else
 (next4 ⟨s5.sum, (IntKind.i64.wrap (s3.t17 + 1))⟩))) ⟨(bits .xor .u32 s3.sum (IntKind.u32.wrap (lget (lget l s1.t11 default) s3.t17 default))), 0⟩)
 else none)
 else
 (next2 ⟨s3.sum, (IntKind.i64.wrap (s1.t11 + 1))⟩))) ⟨s1.sum, 0⟩)
 else none)
 else
 (some (bits .xor .u32 IntKind.u32.max s1.sum)))) ⟨4294967295, 0⟩)
def znu : Con τ := { args := [.ty 194], L := [], ret := .ty 167, L' := [], R := Int, dflt := default, F := fun N a b => zpg N a.1, of := fun r => (r, ()) }
noncomputable def z11f : Dat τ := { D := D0, tbl := tblOf [], lp := lpsOf [(3, z100), (6, z104), (10, zy4)], k0 := 0, mu := [], un := [] }
theorem z139 : ConOk E C 125 znu :=
  zf (D := z11f) ⟨d0Ok, eGood, za trivial, fun _ => rfl⟩ znu (fun a b => a) none (fun _ _ => rfl) rfl (fun _ _ h => nomatch h) 1000000 (fn := Tryz.f125) Tryz.func125 rfl (by kernel_rfl) (by kernel_rfl) rfl (by intro N a b; kernel_rfl)
def zqw (N : Nat) (sum : Int) : Option ((List (Int))) :=
 (some [(IntKind.u8.wrap sum), (IntKind.u8.wrap (shr .u32 sum 8)), (IntKind.u8.wrap (shr .u32 sum 16)), (IntKind.u8.wrap (shr .u32 sum 24))])
def zlv : Con τ := { args := [.ty 167], L := [], ret := .ty 31, L' := [], R := (List (Int)), dflt := default, F := fun N a b => zqw N a.1, of := fun r => (r, ()) }
noncomputable def z105 : Dat τ := { D := D0, tbl := tblOf [], lp := lpsOf [], k0 := 0, mu := [], un := [] }
theorem z11g : ConOk E C 124 zlv :=
  zf (D := z105) ⟨d0Ok, eGood, za trivial, fun _ => rfl⟩ zlv (fun a b => a) none (fun _ _ => rfl) rfl (fun _ _ h => nomatch h) 1000000 (fn := Tryz.f124) Tryz.func124 rfl (by kernel_rfl) (by kernel_rfl) rfl (by intro N a b; kernel_rfl)
def z64 (N : Nat) (n : Int) : Option (Nat × (List (Int))) :=
 (bif (decide (n < 0)) then
 none
 else
 (bif (decide (0 < (IntKind.i64.wrap (n - 0)))) then
 (bif (mkB (IntKind.i64.wrap (n - 0)) 1) then
 (bif (cutB 0 0 ((((IntKind.i64.wrap (n - 0))).toNat : Nat) : Int)) then
 (some (0, (List.replicate (((IntKind.i64.wrap (n - 0))).toNat) 0)))
 else none)
 else none)
 else
 (some (0, []))))
def z7i : Con τ := { args := [.nil .slice, .ty 3], L := [], ret := .msl 5 0, L' := [.gbx 5], R := Nat × (List (Int)), dflt := (default, default), F := fun N a b => z64 N a.2.1, of := fun r => (r.1, (r.2, ())) }
noncomputable def zju : Dat τ := { D := D0, tbl := tblOf [], lp := lpsOf [], k0 := 0, mu := [22], un := [] }
theorem zl7 : ConOk E C 151 z7i :=
  zf (D := zju) ⟨d0Ok, eGood, za trivial, fun _ => rfl⟩ z7i (fun a b => (a, b.1)) none (fun _ _ => rfl) rfl (fun _ _ h => nomatch h) 1000000 (fn := Tryz.f151) Tryz.func151 rfl (by kernel_rfl) (by kernel_rfl) rfl (by intro N a b; kernel_rfl)
structure z22 where
  size : Int
  t11 : Int
def z5q : List Sl := [.k, .k, .k, .sh (.ty 2), .k, .j, .k, .k, .k, .k, .k, .sh (.ty 2), .j, .j, .j, .j, .j, .j, .j, .j, .j, .j, .j, .k, .k, .k, .k, .k, .k, .k, .k, .k, .k, .k, .k, .k]
def z5r : List ESh := []
def zfq (a : Sl.Ts τ z5q) (b : ESh.Ts τ z5r) : z22 := ⟨a.2.2.2.1, a.2.2.2.2.2.2.2.2.2.2.2.1⟩
def zfr (s : z22) : Sl.Ts τ z5q := ((), (), (), s.size, (), (), (), (), (), (), (), s.t11, (), (), (), (), (), (), (), (), (), (), (), (), (), (), (), (), (), (), (), (), (), (), (), (), ())
def zfs (s : z22) : ESh.Ts τ z5r := ()
def zft : Lp τ := { ts := z5q, hs := z5r, S := z22, to := zfq, ot := zfr, oh := zfs, hk := [], tk := [], ot_to := fun _ _ => rfl, oh_to := fun _ _ => rfl }
structure z1t where
  newslice : Nat
  t27 : Int
  g1 : List (Int)
def z4y : List Sl := [.k, .k, .k, .k, .k, .k, .sh (.msl 5 1), .k, .j, .k, .k, .k, .k, .k, .k, .k, .k, .k, .k, .k, .k, .k, .k, .k, .k, .k, .k, .sh (.ty 2), .j, .j, .j, .j, .j, .j, .j, .k]
def z4z : List ESh := [.dead, .gbx 5]
def zeh (a : Sl.Ts τ z4y) (b : ESh.Ts τ z4z) : z1t := ⟨a.2.2.2.2.2.2.1, a.2.2.2.2.2.2.2.2.2.2.2.2.2.2.2.2.2.2.2.2.2.2.2.2.2.2.2.1, b.2.1⟩
def zei (s : z1t) : Sl.Ts τ z4y := ((), (), (), (), (), (), s.newslice, (), (), (), (), (), (), (), (), (), (), (), (), (), (), (), (), (), (), (), (), s.t27, (), (), (), (), (), (), (), (), ())
def zej (s : z1t) : ESh.Ts τ z4z := ((), s.g1, ())
def zek : Lp τ := { ts := z4y, hs := z4z, S := z1t, to := zeh, ot := zei, oh := zej, hk := [4], tk := [], ot_to := fun _ _ => rfl, oh_to := fun _ _ => rfl }
def z4f (N : Nat) (slices : List (List (Int))) : Option (Nat × (List (Int))) :=
 (iter N (fun (s1 : z22) next2 =>
 (bif (decide (s1.t11 < ((slices).length : Int))) then
 (bif (ibB s1.t11 ((slices).length : Int)) then
 (bif (decide ((IntKind.i64.wrap (s1.size + (((lget slices s1.t11 default)).length : Int))) < 0)) then
 none
 else
 (next2 ⟨(IntKind.i64.wrap (s1.size + (((lget slices s1.t11 default)).length : Int))), (IntKind.i64.wrap (s1.t11 + 1))⟩))
 else none)
 else
 ((z64 N s1.size).bind fun r3 =>
 (iter N (fun (s4 : z1t) next5 =>
 (bif (decide (s4.t27 < ((slices).length : Int))) then
 (bif (ibB s4.t27 ((slices).length : Int)) then
 (bif ((lenB (s4.newslice + ((lget slices s4.t27 default)).length) 1) && (Nat.ble s4.newslice (s4.g1).length)) then
 (next5 ⟨(s4.newslice + ((lget slices s4.t27 default)).length), (IntKind.i64.wrap (s4.t27 + 1)), (s4.g1.take s4.newslice ++ (lget slices s4.t27 default))⟩)
 else none)
 else none)
 else
 (some (s4.newslice, s4.g1)))) ⟨r3.1, 0, r3.2⟩)))) ⟨0, 0⟩)
def z6e : Con τ := { args := [.ty 194], L := [], ret := .msl 5 0, L' := [.gbx 5], R := Nat × (List (Int)), dflt := (default, default), F := fun N a b => z4f N a.1, of := fun r => (r.1, (r.2, ())) }
noncomputable def zh5 : Dat τ := { D := D0, tbl := tblOf [(151, z7i)], lp := lpsOf [(3, zft), (11, zek)], k0 := 0, mu := [33], un := [] }
theorem zih : ConOk E C 122 z6e :=
  zf (D := zh5) ⟨d0Ok, eGood, za ⟨zl7, trivial⟩, fun _ => rfl⟩ z6e (fun a b => (a, b.1)) none (fun _ _ => rfl) rfl (fun _ _ h => nomatch h) 1000000 (fn := Tryz.f122) Tryz.func122 rfl (by kernel_rfl) (by kernel_rfl) rfl (by intro N a b; kernel_rfl)
def z3r (N : Nat) (slices : List (List (Int))) : Option ((List (Int))) := (z4f N slices).bind fun r => bif Nat.ble r.1 (r.2).length then some ((r.2).take r.1) else none
def z8y : Con τ := { args := [.ty 194], L := [], ret := .ty 31, L' := [.dead], R := (List (Int)), dflt := default, F := fun N a b => z3r N a.1, of := fun r => (r, ((), ())) }
theorem zh6 : ConOk E C 122 z8y := by
  intro N a b r h
  have h : (z6e.F N a b).bind (fun r => bif Nat.ble r.1 (r.2).length then some ((r.2).take r.1) else none) = some r := h
  obtain ⟨q, h0, h1⟩ := Option.bind_eq_some_iff.1 h
  cases hb : Nat.ble q.1 (q.2).length with
  | false => rw [hb] at h1; cases h1
  | true =>
    rw [hb] at h1
    have h2 : (q.2).take q.1 = r := Option.some.inj h1
    subst h2
    exact FnSpec.msl (ents := [.gbx 5 q.2]) (id := 0) cOk (zih N a b q h0) rfl (Nat.le_of_ble_eq_true hb)
def zel (N : Nat) (b : List (Int)) : Option ((List (Int)) × Int) :=
 (bif (decide (1048576 < ((b).length : Int))) then
 (some ([], 3))
 else
 ((zai N ((b).length : Int)).bind fun r1 =>
 ((zpg N [b]).bind fun r2 =>
 ((zqw N r2).bind fun r3 =>
 ((z3r N [r1, b, r3]).bind fun r4 =>
 (some (r4, 0)))))))
def zjv : Con τ := { args := [.ty 31], L := [], ret := .tup [.ty 31, .ty 35], L' := [], R := (List (Int)) × Int, dflt := (default, default), F := fun N a b => zel N a.1, of := fun r => ((r.1, r.2, ()), ()) }
noncomputable def zy5 : Dat τ := { D := D0, tbl := tblOf [(123, z9k), (125, znu), (124, zlv), (122, z8y)], lp := lpsOf [], k0 := 0, mu := [], un := [] }
theorem z106 : ConOk E C 69 zjv :=
  zf (D := zy5) ⟨d0Ok, eGood, za ⟨zk6, ⟨z139, ⟨z11g, ⟨zh6, trivial⟩⟩⟩⟩, fun _ => rfl⟩ zjv (fun a b => (a.1, a.2.1)) none (fun _ _ => rfl) rfl (fun _ _ h => nomatch h) 1000000 (fn := Tryz.f69) Tryz.func69 rfl (by kernel_rfl) (by kernel_rfl) rfl (by intro N a b; kernel_rfl)
def z3o (N : Nat) (m : GMsg) : Option ((List (Int)) × Int) :=
 ((z9u N m).bind fun r1 =>
 (bif (!(r1 == 0)) then
 (some ([], r1))
 else
 ((z8g N).bind fun r2 =>
 ((z5p N m 0 r2.1 r2.2).bind fun r3 =>
 (bif (!(r3.1 == 0)) then
 (some ([], r3.1))
 else
 ((z4c N r3.2.1 r3.2.2).bind fun r4 =>
 ((zel N r4.1).bind fun r5 =>
 (some (r5.1, r5.2)))))))))
def zcf : Con τ := { args := [.ty 71], L := [], ret := .tup [.ty 31, .ty 35], L' := [], R := (List (Int)) × Int, dflt := (default, default), F := fun N a b => z3o N a.1, of := fun r => ((r.1, r.2, ()), ()) }
noncomputable def zqx : Dat τ := { D := D0, tbl := tblOf [(67, zbs), (7, z8t), (68, z7b), (16, z5o), (69, zjv)], lp := lpsOf [], k0 := 0, mu := [], un := [] }
theorem zsu : ConOk E C 28 zcf :=
  zf (D := zqx) ⟨d0Ok, eGood, za ⟨zrt, ⟨zl1, ⟨zko, ⟨zdf, ⟨z106, trivial⟩⟩⟩⟩⟩, fun _ => rfl⟩ zcf (fun a b => (a.1, a.2.1)) none (fun _ _ => rfl) rfl (fun _ _ h => nomatch h) 1000000 (fn := Tryz.f28) Tryz.func28 rfl (by kernel_rfl) (by kernel_rfl) rfl (by intro N a b; kernel_rfl)
def zda (N : Nat) (m : GMsg) : Option (GMsg × Bool) :=
 (bif (m.Kind == 1) then
 (bif (m.Kind == 1) then
 (some ((⟨m.Kind, m.From, m.To, m.Ballot, m.Slot, [], (⟨0, 0, 0, (⟨(⟨0, 0⟩ : zi), 0, 0, 0, [], [], []⟩ : GOp), 0, 0, [], (⟨0, (Vector.replicate 8 (default : Int)), (Vector.replicate 8 (default : Int)), (Vector.replicate 8 (default : Int))⟩ : z7), 0, (Vector.replicate 8 (default : Int)), 0, (⟨0, 0, 0, []⟩ : GPart), 0, 0, 0⟩ : z6), 0, (Vector.replicate 8 (default : Int)), 0, 0, [], (⟨0, (Vector.replicate 8 (default : Int)), (Vector.replicate 8 (default : Int)), (Vector.replicate 8 (default : Int))⟩ : z7), (⟨0, 0, 0, []⟩ : GPart)⟩ : GMsg), true))
 else
 (bif (m.Kind == 2) then
 (some ((⟨m.Kind, m.From, m.To, m.Ballot, m.Slot, m.List_, (⟨0, 0, 0, (⟨(⟨0, 0⟩ : zi), 0, 0, 0, [], [], []⟩ : GOp), 0, 0, [], (⟨0, (Vector.replicate 8 (default : Int)), (Vector.replicate 8 (default : Int)), (Vector.replicate 8 (default : Int))⟩ : z7), 0, (Vector.replicate 8 (default : Int)), 0, (⟨0, 0, 0, []⟩ : GPart), 0, 0, 0⟩ : z6), 0, (Vector.replicate 8 (default : Int)), 0, 0, [], (⟨0, (Vector.replicate 8 (default : Int)), (Vector.replicate 8 (default : Int)), (Vector.replicate 8 (default : Int))⟩ : z7), (⟨0, 0, 0, []⟩ : GPart)⟩ : GMsg), true))
 else
 (bif (m.Kind == 3) then
 (some ((⟨m.Kind, m.From, m.To, m.Ballot, 0, m.List_, (⟨0, 0, 0, (⟨(⟨0, 0⟩ : zi), 0, 0, 0, [], [], []⟩ : GOp), 0, 0, [], (⟨0, (Vector.replicate 8 (default : Int)), (Vector.replicate 8 (default : Int)), (Vector.replicate 8 (default : Int))⟩ : z7), 0, (Vector.replicate 8 (default : Int)), 0, (⟨0, 0, 0, []⟩ : GPart), 0, 0, 0⟩ : z6), 0, (Vector.replicate 8 (default : Int)), 0, 0, [], (⟨0, (Vector.replicate 8 (default : Int)), (Vector.replicate 8 (default : Int)), (Vector.replicate 8 (default : Int))⟩ : z7), (⟨0, 0, 0, []⟩ : GPart)⟩ : GMsg), true))
 else
 (bif (m.Kind == 5) then
 (some ((⟨m.Kind, m.From, m.To, m.Ballot, 0, [], (⟨0, 0, 0, (⟨(⟨0, 0⟩ : zi), 0, 0, 0, [], [], []⟩ : GOp), 0, 0, [], (⟨0, (Vector.replicate 8 (default : Int)), (Vector.replicate 8 (default : Int)), (Vector.replicate 8 (default : Int))⟩ : z7), 0, (Vector.replicate 8 (default : Int)), 0, (⟨0, 0, 0, []⟩ : GPart), 0, 0, 0⟩ : z6), 0, (Vector.replicate 8 (default : Int)), 0, 0, [], (⟨0, (Vector.replicate 8 (default : Int)), (Vector.replicate 8 (default : Int)), (Vector.replicate 8 (default : Int))⟩ : z7), (⟨0, 0, 0, []⟩ : GPart)⟩ : GMsg), true))
 else
 (bif (m.Kind == 6) then
 (some ((⟨m.Kind, m.From, m.To, (⟨0, 0⟩ : zh), 0, m.List_, (⟨0, 0, 0, (⟨(⟨0, 0⟩ : zi), 0, 0, 0, [], [], []⟩ : GOp), 0, 0, [], (⟨0, (Vector.replicate 8 (default : Int)), (Vector.replicate 8 (default : Int)), (Vector.replicate 8 (default : Int))⟩ : z7), 0, (Vector.replicate 8 (default : Int)), 0, (⟨0, 0, 0, []⟩ : GPart), 0, 0, 0⟩ : z6), 0, (Vector.replicate 8 (default : Int)), 0, 0, [], (⟨0, (Vector.replicate 8 (default : Int)), (Vector.replicate 8 (default : Int)), (Vector.replicate 8 (default : Int))⟩ : z7), (⟨0, 0, 0, []⟩ : GPart)⟩ : GMsg), true))
 else
 (bif (m.Kind == 8) then
 (some ((⟨m.Kind, m.From, m.To, (⟨0, 0⟩ : zh), m.Slot, [], (⟨0, 0, 0, (⟨(⟨0, 0⟩ : zi), 0, 0, 0, [], [], []⟩ : GOp), 0, 0, [], (⟨0, (Vector.replicate 8 (default : Int)), (Vector.replicate 8 (default : Int)), (Vector.replicate 8 (default : Int))⟩ : z7), 0, (Vector.replicate 8 (default : Int)), 0, (⟨0, 0, 0, []⟩ : GPart), 0, 0, 0⟩ : z6), 0, (Vector.replicate 8 (default : Int)), 0, 0, [], (⟨0, (Vector.replicate 8 (default : Int)), (Vector.replicate 8 (default : Int)), (Vector.replicate 8 (default : Int))⟩ : z7), (⟨0, 0, 0, []⟩ : GPart)⟩ : GMsg), true))
 else
 (bif (m.Kind == 9) then
 (some ((⟨m.Kind, m.From, m.To, (⟨0, 0⟩ : zh), 0, [], m.Entry, 0, (Vector.replicate 8 (default : Int)), 0, 0, [], (⟨0, (Vector.replicate 8 (default : Int)), (Vector.replicate 8 (default : Int)), (Vector.replicate 8 (default : Int))⟩ : z7), (⟨0, 0, 0, []⟩ : GPart)⟩ : GMsg), true))
 else
 (bif (m.Kind == 10) then
 (some ((⟨m.Kind, m.From, m.To, (⟨0, 0⟩ : zh), 0, [], (⟨0, 0, 0, (⟨(⟨0, 0⟩ : zi), 0, 0, 0, [], [], []⟩ : GOp), 0, 0, [], (⟨0, (Vector.replicate 8 (default : Int)), (Vector.replicate 8 (default : Int)), (Vector.replicate 8 (default : Int))⟩ : z7), 0, (Vector.replicate 8 (default : Int)), 0, (⟨0, 0, 0, []⟩ : GPart), 0, 0, 0⟩ : z6), m.Number, m.Vector_, m.Clock, 0, [], (⟨0, (Vector.replicate 8 (default : Int)), (Vector.replicate 8 (default : Int)), (Vector.replicate 8 (default : Int))⟩ : z7), (⟨0, 0, 0, []⟩ : GPart)⟩ : GMsg), true))
 else
 (bif (m.Kind == 11) then
 (some ((⟨m.Kind, m.From, m.To, (⟨0, 0⟩ : zh), m.Slot, [], (⟨0, 0, 0, (⟨(⟨0, 0⟩ : zi), 0, 0, 0, [], [], []⟩ : GOp), 0, 0, [], (⟨0, (Vector.replicate 8 (default : Int)), (Vector.replicate 8 (default : Int)), (Vector.replicate 8 (default : Int))⟩ : z7), 0, (Vector.replicate 8 (default : Int)), 0, (⟨0, 0, 0, []⟩ : GPart), 0, 0, 0⟩ : z6), m.Number, (Vector.replicate 8 (default : Int)), 0, m.Origin, m.Ops, (⟨0, (Vector.replicate 8 (default : Int)), (Vector.replicate 8 (default : Int)), (Vector.replicate 8 (default : Int))⟩ : z7), (⟨0, 0, 0, []⟩ : GPart)⟩ : GMsg), true))
 else
 (bif (m.Kind == 12) then
 (some ((⟨m.Kind, m.From, m.To, (⟨0, 0⟩ : zh), 0, [], (⟨0, 0, 0, (⟨(⟨0, 0⟩ : zi), 0, 0, 0, [], [], []⟩ : GOp), 0, 0, [], (⟨0, (Vector.replicate 8 (default : Int)), (Vector.replicate 8 (default : Int)), (Vector.replicate 8 (default : Int))⟩ : z7), 0, (Vector.replicate 8 (default : Int)), 0, (⟨0, 0, 0, []⟩ : GPart), 0, 0, 0⟩ : z6), 0, (Vector.replicate 8 (default : Int)), 0, 0, [], m.Epoch, (⟨0, 0, 0, []⟩ : GPart)⟩ : GMsg), true))
 else
 (bif (m.Kind == 13) then
 (some ((⟨m.Kind, m.From, m.To, (⟨0, 0⟩ : zh), 0, [], (⟨0, 0, 0, (⟨(⟨0, 0⟩ : zi), 0, 0, 0, [], [], []⟩ : GOp), 0, 0, [], (⟨0, (Vector.replicate 8 (default : Int)), (Vector.replicate 8 (default : Int)), (Vector.replicate 8 (default : Int))⟩ : z7), 0, (Vector.replicate 8 (default : Int)), 0, (⟨0, 0, 0, []⟩ : GPart), 0, 0, 0⟩ : z6), 0, (Vector.replicate 8 (default : Int)), 0, 0, [], (⟨0, (Vector.replicate 8 (default : Int)), (Vector.replicate 8 (default : Int)), (Vector.replicate 8 (default : Int))⟩ : z7), m.Part⟩ : GMsg), true))
 else
 (bif (m.Kind == 14) then
 (some ((⟨m.Kind, m.From, m.To, (⟨0, 0⟩ : zh), 0, [], (⟨0, 0, 0, (⟨(⟨0, 0⟩ : zi), 0, 0, 0, [], [], []⟩ : GOp), 0, 0, [], (⟨0, (Vector.replicate 8 (default : Int)), (Vector.replicate 8 (default : Int)), (Vector.replicate 8 (default : Int))⟩ : z7), 0, (Vector.replicate 8 (default : Int)), 0, (⟨0, 0, 0, []⟩ : GPart), 0, 0, 0⟩ : z6), m.Number, m.Vector_, 0, 0, [], (⟨0, (Vector.replicate 8 (default : Int)), (Vector.replicate 8 (default : Int)), (Vector.replicate 8 (default : Int))⟩ : z7), (⟨0, 0, 0, []⟩ : GPart)⟩ : GMsg), true))
 else
 (bif (m.Kind == 15) then
 (some ((⟨m.Kind, m.From, m.To, (⟨0, 0⟩ : zh), m.Slot, [], (⟨0, 0, 0, (⟨(⟨0, 0⟩ : zi), 0, 0, 0, [], [], []⟩ : GOp), 0, 0, [], (⟨0, (Vector.replicate 8 (default : Int)), (Vector.replicate 8 (default : Int)), (Vector.replicate 8 (default : Int))⟩ : z7), 0, (Vector.replicate 8 (default : Int)), 0, (⟨0, 0, 0, []⟩ : GPart), 0, 0, 0⟩ : z6), 0, (Vector.replicate 8 (default : Int)), 0, 0, [], (⟨0, (Vector.replicate 8 (default : Int)), (Vector.replicate 8 (default : Int)), (Vector.replicate 8 (default : Int))⟩ : z7), m.Part⟩ : GMsg), true))
 else
 (some ((⟨m.Kind, m.From, m.To, (⟨0, 0⟩ : zh), 0, [], (⟨0, 0, 0, (⟨(⟨0, 0⟩ : zi), 0, 0, 0, [], [], []⟩ : GOp), 0, 0, [], (⟨0, (Vector.replicate 8 (default : Int)), (Vector.replicate 8 (default : Int)), (Vector.replicate 8 (default : Int))⟩ : z7), 0, (Vector.replicate 8 (default : Int)), 0, (⟨0, 0, 0, []⟩ : GPart), 0, 0, 0⟩ : z6), 0, (Vector.replicate 8 (default : Int)), 0, 0, [], (⟨0, (Vector.replicate 8 (default : Int)), (Vector.replicate 8 (default : Int)), (Vector.replicate 8 (default : Int))⟩ : z7), (⟨0, 0, 0, []⟩ : GPart)⟩ : GMsg), false)))))))))))))))
 else
 (bif (m.Kind == 4) then
 (bif (m.Kind == 4) then
 (some ((⟨m.Kind, m.From, m.To, m.Ballot, m.Slot, [], (⟨0, 0, 0, (⟨(⟨0, 0⟩ : zi), 0, 0, 0, [], [], []⟩ : GOp), 0, 0, [], (⟨0, (Vector.replicate 8 (default : Int)), (Vector.replicate 8 (default : Int)), (Vector.replicate 8 (default : Int))⟩ : z7), 0, (Vector.replicate 8 (default : Int)), 0, (⟨0, 0, 0, []⟩ : GPart), 0, 0, 0⟩ : z6), 0, (Vector.replicate 8 (default : Int)), 0, 0, [], (⟨0, (Vector.replicate 8 (default : Int)), (Vector.replicate 8 (default : Int)), (Vector.replicate 8 (default : Int))⟩ : z7), (⟨0, 0, 0, []⟩ : GPart)⟩ : GMsg), true))
 else
 (bif (m.Kind == 2) then
 (some ((⟨m.Kind, m.From, m.To, m.Ballot, m.Slot, m.List_, (⟨0, 0, 0, (⟨(⟨0, 0⟩ : zi), 0, 0, 0, [], [], []⟩ : GOp), 0, 0, [], (⟨0, (Vector.replicate 8 (default : Int)), (Vector.replicate 8 (default : Int)), (Vector.replicate 8 (default : Int))⟩ : z7), 0, (Vector.replicate 8 (default : Int)), 0, (⟨0, 0, 0, []⟩ : GPart), 0, 0, 0⟩ : z6), 0, (Vector.replicate 8 (default : Int)), 0, 0, [], (⟨0, (Vector.replicate 8 (default : Int)), (Vector.replicate 8 (default : Int)), (Vector.replicate 8 (default : Int))⟩ : z7), (⟨0, 0, 0, []⟩ : GPart)⟩ : GMsg), true))
 else
 (bif (m.Kind == 3) then
 (some ((⟨m.Kind, m.From, m.To, m.Ballot, 0, m.List_, (⟨0, 0, 0, (⟨(⟨0, 0⟩ : zi), 0, 0, 0, [], [], []⟩ : GOp), 0, 0, [], (⟨0, (Vector.replicate 8 (default : Int)), (Vector.replicate 8 (default : Int)), (Vector.replicate 8 (default : Int))⟩ : z7), 0, (Vector.replicate 8 (default : Int)), 0, (⟨0, 0, 0, []⟩ : GPart), 0, 0, 0⟩ : z6), 0, (Vector.replicate 8 (default : Int)), 0, 0, [], (⟨0, (Vector.replicate 8 (default : Int)), (Vector.replicate 8 (default : Int)), (Vector.replicate 8 (default : Int))⟩ : z7), (⟨0, 0, 0, []⟩ : GPart)⟩ : GMsg), true))
 else
 (bif (m.Kind == 5) then
 (some ((⟨m.Kind, m.From, m.To, m.Ballot, 0, [], (⟨0, 0, 0, (⟨(⟨0, 0⟩ : zi), 0, 0, 0, [], [], []⟩ : GOp), 0, 0, [], (⟨0, (Vector.replicate 8 (default : Int)), (Vector.replicate 8 (default : Int)), (Vector.replicate 8 (default : Int))⟩ : z7), 0, (Vector.replicate 8 (default : Int)), 0, (⟨0, 0, 0, []⟩ : GPart), 0, 0, 0⟩ : z6), 0, (Vector.replicate 8 (default : Int)), 0, 0, [], (⟨0, (Vector.replicate 8 (default : Int)), (Vector.replicate 8 (default : Int)), (Vector.replicate 8 (default : Int))⟩ : z7), (⟨0, 0, 0, []⟩ : GPart)⟩ : GMsg), true))
 else
 (bif (m.Kind == 6) then
 (some ((⟨m.Kind, m.From, m.To, (⟨0, 0⟩ : zh), 0, m.List_, (⟨0, 0, 0, (⟨(⟨0, 0⟩ : zi), 0, 0, 0, [], [], []⟩ : GOp), 0, 0, [], (⟨0, (Vector.replicate 8 (default : Int)), (Vector.replicate 8 (default : Int)), (Vector.replicate 8 (default : Int))⟩ : z7), 0, (Vector.replicate 8 (default : Int)), 0, (⟨0, 0, 0, []⟩ : GPart), 0, 0, 0⟩ : z6), 0, (Vector.replicate 8 (default : Int)), 0, 0, [], (⟨0, (Vector.replicate 8 (default : Int)), (Vector.replicate 8 (default : Int)), (Vector.replicate 8 (default : Int))⟩ : z7), (⟨0, 0, 0, []⟩ : GPart)⟩ : GMsg), true))
 else
 (bif (m.Kind == 8) then
 (some ((⟨m.Kind, m.From, m.To, (⟨0, 0⟩ : zh), m.Slot, [], (⟨0, 0, 0, (⟨(⟨0, 0⟩ : zi), 0, 0, 0, [], [], []⟩ : GOp), 0, 0, [], (⟨0, (Vector.replicate 8 (default : Int)), (Vector.replicate 8 (default : Int)), (Vector.replicate 8 (default : Int))⟩ : z7), 0, (Vector.replicate 8 (default : Int)), 0, (⟨0, 0, 0, []⟩ : GPart), 0, 0, 0⟩ : z6), 0, (Vector.replicate 8 (default : Int)), 0, 0, [], (⟨0, (Vector.replicate 8 (default : Int)), (Vector.replicate 8 (default : Int)), (Vector.replicate 8 (default : Int))⟩ : z7), (⟨0, 0, 0, []⟩ : GPart)⟩ : GMsg), true))
 else
 (bif (m.Kind == 9) then
 (some ((⟨m.Kind, m.From, m.To, (⟨0, 0⟩ : zh), 0, [], m.Entry, 0, (Vector.replicate 8 (default : Int)), 0, 0, [], (⟨0, (Vector.replicate 8 (default : Int)), (Vector.replicate 8 (default : Int)), (Vector.replicate 8 (default : Int))⟩ : z7), (⟨0, 0, 0, []⟩ : GPart)⟩ : GMsg), true))
 else
 (bif (m.Kind == 10) then
 (some ((⟨m.Kind, m.From, m.To, (⟨0, 0⟩ : zh), 0, [], (⟨0, 0, 0, (⟨(⟨0, 0⟩ : zi), 0, 0, 0, [], [], []⟩ : GOp), 0, 0, [], (⟨0, (Vector.replicate 8 (default : Int)), (Vector.replicate 8 (default : Int)), (Vector.replicate 8 (default : Int))⟩ : z7), 0, (Vector.replicate 8 (default : Int)), 0, (⟨0, 0, 0, []⟩ : GPart), 0, 0, 0⟩ : z6), m.Number, m.Vector_, m.Clock, 0, [], (⟨0, (Vector.replicate 8 (default : Int)), (Vector.replicate 8 (default : Int)), (Vector.replicate 8 (default : Int))⟩ : z7), (⟨0, 0, 0, []⟩ : GPart)⟩ : GMsg), true))
 else
 (bif (m.Kind == 11) then
 (some ((⟨m.Kind, m.From, m.To, (⟨0, 0⟩ : zh), m.Slot, [], (⟨0, 0, 0, (⟨(⟨0, 0⟩ : zi), 0, 0, 0, [], [], []⟩ : GOp), 0, 0, [], (⟨0, (Vector.replicate 8 (default : Int)), (Vector.replicate 8 (default : Int)), (Vector.replicate 8 (default : Int))⟩ : z7), 0, (Vector.replicate 8 (default : Int)), 0, (⟨0, 0, 0, []⟩ : GPart), 0, 0, 0⟩ : z6), m.Number, (Vector.replicate 8 (default : Int)), 0, m.Origin, m.Ops, (⟨0, (Vector.replicate 8 (default : Int)), (Vector.replicate 8 (default : Int)), (Vector.replicate 8 (default : Int))⟩ : z7), (⟨0, 0, 0, []⟩ : GPart)⟩ : GMsg), true))
 else
 (bif (m.Kind == 12) then
 (some ((⟨m.Kind, m.From, m.To, (⟨0, 0⟩ : zh), 0, [], (⟨0, 0, 0, (⟨(⟨0, 0⟩ : zi), 0, 0, 0, [], [], []⟩ : GOp), 0, 0, [], (⟨0, (Vector.replicate 8 (default : Int)), (Vector.replicate 8 (default : Int)), (Vector.replicate 8 (default : Int))⟩ : z7), 0, (Vector.replicate 8 (default : Int)), 0, (⟨0, 0, 0, []⟩ : GPart), 0, 0, 0⟩ : z6), 0, (Vector.replicate 8 (default : Int)), 0, 0, [], m.Epoch, (⟨0, 0, 0, []⟩ : GPart)⟩ : GMsg), true))
 else
 (bif (m.Kind == 13) then
 (some ((⟨m.Kind, m.From, m.To, (⟨0, 0⟩ : zh), 0, [], (⟨0, 0, 0, (⟨(⟨0, 0⟩ : zi), 0, 0, 0, [], [], []⟩ : GOp), 0, 0, [], (⟨0, (Vector.replicate 8 (default : Int)), (Vector.replicate 8 (default : Int)), (Vector.replicate 8 (default : Int))⟩ : z7), 0, (Vector.replicate 8 (default : Int)), 0, (⟨0, 0, 0, []⟩ : GPart), 0, 0, 0⟩ : z6), 0, (Vector.replicate 8 (default : Int)), 0, 0, [], (⟨0, (Vector.replicate 8 (default : Int)), (Vector.replicate 8 (default : Int)), (Vector.replicate 8 (default : Int))⟩ : z7), m.Part⟩ : GMsg), true))
 else
 (bif (m.Kind == 14) then
 (some ((⟨m.Kind, m.From, m.To, (⟨0, 0⟩ : zh), 0, [], (⟨0, 0, 0, (⟨(⟨0, 0⟩ : zi), 0, 0, 0, [], [], []⟩ : GOp), 0, 0, [], (⟨0, (Vector.replicate 8 (default : Int)), (Vector.replicate 8 (default : Int)), (Vector.replicate 8 (default : Int))⟩ : z7), 0, (Vector.replicate 8 (default : Int)), 0, (⟨0, 0, 0, []⟩ : GPart), 0, 0, 0⟩ : z6), m.Number, m.Vector_, 0, 0, [], (⟨0, (Vector.replicate 8 (default : Int)), (Vector.replicate 8 (default : Int)), (Vector.replicate 8 (default : Int))⟩ : z7), (⟨0, 0, 0, []⟩ : GPart)⟩ : GMsg), true))
 else
 (bif (m.Kind == 15) then
 (some ((⟨m.Kind, m.From, m.To, (⟨0, 0⟩ : zh), m.Slot, [], (⟨0, 0, 0, (⟨(⟨0, 0⟩ : zi), 0, 0, 0, [], [], []⟩ : GOp), 0, 0, [], (⟨0, (Vector.replicate 8 (default : Int)), (Vector.replicate 8 (default : Int)), (Vector.replicate 8 (default : Int))⟩ : z7), 0, (Vector.replicate 8 (default : Int)), 0, (⟨0, 0, 0, []⟩ : GPart), 0, 0, 0⟩ : z6), 0, (Vector.replicate 8 (default : Int)), 0, 0, [], (⟨0, (Vector.replicate 8 (default : Int)), (Vector.replicate 8 (default : Int)), (Vector.replicate 8 (default : Int))⟩ : z7), m.Part⟩ : GMsg), true))
 else
 (some ((⟨m.Kind, m.From, m.To, (⟨0, 0⟩ : zh), 0, [], (⟨0, 0, 0, (⟨(⟨0, 0⟩ : zi), 0, 0, 0, [], [], []⟩ : GOp), 0, 0, [], (⟨0, (Vector.replicate 8 (default : Int)), (Vector.replicate 8 (default : Int)), (Vector.replicate 8 (default : Int))⟩ : z7), 0, (Vector.replicate 8 (default : Int)), 0, (⟨0, 0, 0, []⟩ : GPart), 0, 0, 0⟩ : z6), 0, (Vector.replicate 8 (default : Int)), 0, 0, [], (⟨0, (Vector.replicate 8 (default : Int)), (Vector.replicate 8 (default : Int)), (Vector.replicate 8 (default : Int))⟩ : z7), (⟨0, 0, 0, []⟩ : GPart)⟩ : GMsg), false)))))))))))))))
 else
 (bif (m.Kind == 7) then
 (some ((⟨m.Kind, m.From, m.To, m.Ballot, m.Slot, [], (⟨0, 0, 0, (⟨(⟨0, 0⟩ : zi), 0, 0, 0, [], [], []⟩ : GOp), 0, 0, [], (⟨0, (Vector.replicate 8 (default : Int)), (Vector.replicate 8 (default : Int)), (Vector.replicate 8 (default : Int))⟩ : z7), 0, (Vector.replicate 8 (default : Int)), 0, (⟨0, 0, 0, []⟩ : GPart), 0, 0, 0⟩ : z6), 0, (Vector.replicate 8 (default : Int)), 0, 0, [], (⟨0, (Vector.replicate 8 (default : Int)), (Vector.replicate 8 (default : Int)), (Vector.replicate 8 (default : Int))⟩ : z7), (⟨0, 0, 0, []⟩ : GPart)⟩ : GMsg), true))
 else
 (bif (m.Kind == 2) then
 (some ((⟨m.Kind, m.From, m.To, m.Ballot, m.Slot, m.List_, (⟨0, 0, 0, (⟨(⟨0, 0⟩ : zi), 0, 0, 0, [], [], []⟩ : GOp), 0, 0, [], (⟨0, (Vector.replicate 8 (default : Int)), (Vector.replicate 8 (default : Int)), (Vector.replicate 8 (default : Int))⟩ : z7), 0, (Vector.replicate 8 (default : Int)), 0, (⟨0, 0, 0, []⟩ : GPart), 0, 0, 0⟩ : z6), 0, (Vector.replicate 8 (default : Int)), 0, 0, [], (⟨0, (Vector.replicate 8 (default : Int)), (Vector.replicate 8 (default : Int)), (Vector.replicate 8 (default : Int))⟩ : z7), (⟨0, 0, 0, []⟩ : GPart)⟩ : GMsg), true))
 else
 (bif (m.Kind == 3) then
 (some ((⟨m.Kind, m.From, m.To, m.Ballot, 0, m.List_, (⟨0, 0, 0, (⟨(⟨0, 0⟩ : zi), 0, 0, 0, [], [], []⟩ : GOp), 0, 0, [], (⟨0, (Vector.replicate 8 (default : Int)), (Vector.replicate 8 (default : Int)), (Vector.replicate 8 (default : Int))⟩ : z7), 0, (Vector.replicate 8 (default : Int)), 0, (⟨0, 0, 0, []⟩ : GPart), 0, 0, 0⟩ : z6), 0, (Vector.replicate 8 (default : Int)), 0, 0, [], (⟨0, (Vector.replicate 8 (default : Int)), (Vector.replicate 8 (default : Int)), (Vector.replicate 8 (default : Int))⟩ : z7), (⟨0, 0, 0, []⟩ : GPart)⟩ : GMsg), true))
 else
 (bif (m.Kind == 5) then
 (some ((⟨m.Kind, m.From, m.To, m.Ballot, 0, [], (⟨0, 0, 0, (⟨(⟨0, 0⟩ : zi), 0, 0, 0, [], [], []⟩ : GOp), 0, 0, [], (⟨0, (Vector.replicate 8 (default : Int)), (Vector.replicate 8 (default : Int)), (Vector.replicate 8 (default : Int))⟩ : z7), 0, (Vector.replicate 8 (default : Int)), 0, (⟨0, 0, 0, []⟩ : GPart), 0, 0, 0⟩ : z6), 0, (Vector.replicate 8 (default : Int)), 0, 0, [], (⟨0, (Vector.replicate 8 (default : Int)), (Vector.replicate 8 (default : Int)), (Vector.replicate 8 (default : Int))⟩ : z7), (⟨0, 0, 0, []⟩ : GPart)⟩ : GMsg), true))
 else
 (bif (m.Kind == 6) then
 (some ((⟨m.Kind, m.From, m.To, (⟨0, 0⟩ : zh), 0, m.List_, (⟨0, 0, 0, (⟨(⟨0, 0⟩ : zi), 0, 0, 0, [], [], []⟩ : GOp), 0, 0, [], (⟨0, (Vector.replicate 8 (default : Int)), (Vector.replicate 8 (default : Int)), (Vector.replicate 8 (default : Int))⟩ : z7), 0, (Vector.replicate 8 (default : Int)), 0, (⟨0, 0, 0, []⟩ : GPart), 0, 0, 0⟩ : z6), 0, (Vector.replicate 8 (default : Int)), 0, 0, [], (⟨0, (Vector.replicate 8 (default : Int)), (Vector.replicate 8 (default : Int)), (Vector.replicate 8 (default : Int))⟩ : z7), (⟨0, 0, 0, []⟩ : GPart)⟩ : GMsg), true))
 else
 (bif (m.Kind == 8) then
 (some ((⟨m.Kind, m.From, m.To, (⟨0, 0⟩ : zh), m.Slot, [], (⟨0, 0, 0, (⟨(⟨0, 0⟩ : zi), 0, 0, 0, [], [], []⟩ : GOp), 0, 0, [], (⟨0, (Vector.replicate 8 (default : Int)), (Vector.replicate 8 (default : Int)), (Vector.replicate 8 (default : Int))⟩ : z7), 0, (Vector.replicate 8 (default : Int)), 0, (⟨0, 0, 0, []⟩ : GPart), 0, 0, 0⟩ : z6), 0, (Vector.replicate 8 (default : Int)), 0, 0, [], (⟨0, (Vector.replicate 8 (default : Int)), (Vector.replicate 8 (default : Int)), (Vector.replicate 8 (default : Int))⟩ : z7), (⟨0, 0, 0, []⟩ : GPart)⟩ : GMsg), true))
 else
 (bif (m.Kind == 9) then
 (some ((⟨m.Kind, m.From, m.To, (⟨0, 0⟩ : zh), 0, [], m.Entry, 0, (Vector.replicate 8 (default : Int)), 0, 0, [], (⟨0, (Vector.replicate 8 (default : Int)), (Vector.replicate 8 (default : Int)), (Vector.replicate 8 (default : Int))⟩ : z7), (⟨0, 0, 0, []⟩ : GPart)⟩ : GMsg), true))
 else
 (bif (m.Kind == 10) then
 (some ((⟨m.Kind, m.From, m.To, (⟨0, 0⟩ : zh), 0, [], (⟨0, 0, 0, (⟨(⟨0, 0⟩ : zi), 0, 0, 0, [], [], []⟩ : GOp), 0, 0, [], (⟨0, (Vector.replicate 8 (default : Int)), (Vector.replicate 8 (default : Int)), (Vector.replicate 8 (default : Int))⟩ : z7), 0, (Vector.replicate 8 (default : Int)), 0, (⟨0, 0, 0, []⟩ : GPart), 0, 0, 0⟩ : z6), m.Number, m.Vector_, m.Clock, 0, [], (⟨0, (Vector.replicate 8 (default : Int)), (Vector.replicate 8 (default : Int)), (Vector.replicate 8 (default : Int))⟩ : z7), (⟨0, 0, 0, []⟩ : GPart)⟩ : GMsg), true))
 else
 (bif (m.Kind == 11) then
 (some ((⟨m.Kind, m.From, m.To, (⟨0, 0⟩ : zh), m.Slot, [], (⟨0, 0, 0, (⟨(⟨0, 0⟩ : zi), 0, 0, 0, [], [], []⟩ : GOp), 0, 0, [], (⟨0, (Vector.replicate 8 (default : Int)), (Vector.replicate 8 (default : Int)), (Vector.replicate 8 (default : Int))⟩ : z7), 0, (Vector.replicate 8 (default : Int)), 0, (⟨0, 0, 0, []⟩ : GPart), 0, 0, 0⟩ : z6), m.Number, (Vector.replicate 8 (default : Int)), 0, m.Origin, m.Ops, (⟨0, (Vector.replicate 8 (default : Int)), (Vector.replicate 8 (default : Int)), (Vector.replicate 8 (default : Int))⟩ : z7), (⟨0, 0, 0, []⟩ : GPart)⟩ : GMsg), true))
 else
 (bif (m.Kind == 12) then
 (some ((⟨m.Kind, m.From, m.To, (⟨0, 0⟩ : zh), 0, [], (⟨0, 0, 0, (⟨(⟨0, 0⟩ : zi), 0, 0, 0, [], [], []⟩ : GOp), 0, 0, [], (⟨0, (Vector.replicate 8 (default : Int)), (Vector.replicate 8 (default : Int)), (Vector.replicate 8 (default : Int))⟩ : z7), 0, (Vector.replicate 8 (default : Int)), 0, (⟨0, 0, 0, []⟩ : GPart), 0, 0, 0⟩ : z6), 0, (Vector.replicate 8 (default : Int)), 0, 0, [], m.Epoch, (⟨0, 0, 0, []⟩ : GPart)⟩ : GMsg), true))
 else
 (bif (m.Kind == 13) then
 (some ((⟨m.Kind, m.From, m.To, (⟨0, 0⟩ : zh), 0, [], (⟨0, 0, 0, (⟨(⟨0, 0⟩ : zi), 0, 0, 0, [], [], []⟩ : GOp), 0, 0, [], (⟨0, (Vector.replicate 8 (default : Int)), (Vector.replicate 8 (default : Int)), (Vector.replicate 8 (default : Int))⟩ : z7), 0, (Vector.replicate 8 (default : Int)), 0, (⟨0, 0, 0, []⟩ : GPart), 0, 0, 0⟩ : z6), 0, (Vector.replicate 8 (default : Int)), 0, 0, [], (⟨0, (Vector.replicate 8 (default : Int)), (Vector.replicate 8 (default : Int)), (Vector.replicate 8 (default : Int))⟩ : z7), m.Part⟩ : GMsg), true))
 else
 (bif (m.Kind == 14) then
 (some ((⟨m.Kind, m.From, m.To, (⟨0, 0⟩ : zh), 0, [], (⟨0, 0, 0, (⟨(⟨0, 0⟩ : zi), 0, 0, 0, [], [], []⟩ : GOp), 0, 0, [], (⟨0, (Vector.replicate 8 (default : Int)), (Vector.replicate 8 (default : Int)), (Vector.replicate 8 (default : Int))⟩ : z7), 0, (Vector.replicate 8 (default : Int)), 0, (⟨0, 0, 0, []⟩ : GPart), 0, 0, 0⟩ : z6), m.Number, m.Vector_, 0, 0, [], (⟨0, (Vector.replicate 8 (default : Int)), (Vector.replicate 8 (default : Int)), (Vector.replicate 8 (default : Int))⟩ : z7), (⟨0, 0, 0, []⟩ : GPart)⟩ : GMsg), true))
 else
 (bif (m.Kind == 15) then
 (some ((⟨m.Kind, m.From, m.To, (⟨0, 0⟩ : zh), m.Slot, [], (⟨0, 0, 0, (⟨(⟨0, 0⟩ : zi), 0, 0, 0, [], [], []⟩ : GOp), 0, 0, [], (⟨0, (Vector.replicate 8 (default : Int)), (Vector.replicate 8 (default : Int)), (Vector.replicate 8 (default : Int))⟩ : z7), 0, (Vector.replicate 8 (default : Int)), 0, (⟨0, 0, 0, []⟩ : GPart), 0, 0, 0⟩ : z6), 0, (Vector.replicate 8 (default : Int)), 0, 0, [], (⟨0, (Vector.replicate 8 (default : Int)), (Vector.replicate 8 (default : Int)), (Vector.replicate 8 (default : Int))⟩ : z7), m.Part⟩ : GMsg), true))
 else
 (some ((⟨m.Kind, m.From, m.To, (⟨0, 0⟩ : zh), 0, [], (⟨0, 0, 0, (⟨(⟨0, 0⟩ : zi), 0, 0, 0, [], [], []⟩ : GOp), 0, 0, [], (⟨0, (Vector.replicate 8 (default : Int)), (Vector.replicate 8 (default : Int)), (Vector.replicate 8 (default : Int))⟩ : z7), 0, (Vector.replicate 8 (default : Int)), 0, (⟨0, 0, 0, []⟩ : GPart), 0, 0, 0⟩ : z6), 0, (Vector.replicate 8 (default : Int)), 0, 0, [], (⟨0, (Vector.replicate 8 (default : Int)), (Vector.replicate 8 (default : Int)), (Vector.replicate 8 (default : Int))⟩ : z7), (⟨0, 0, 0, []⟩ : GPart)⟩ : GMsg), false)))))))))))))))))
def zh7 : Con τ := { args := [.ty 71], L := [], ret := .tup [.ty 71, .ty 4], L' := [], R := GMsg × Bool, dflt := (default, default), F := fun N a b => zda N a.1, of := fun r => ((r.1, r.2, ()), ()) }
noncomputable def zw4 : Dat τ := { D := D0, tbl := tblOf [], lp := lpsOf [], k0 := 0, mu := [], un := [] }
theorem zy6 : ConOk E C 84 zh7 :=
  zf (D := zw4) ⟨d0Ok, eGood, za trivial, fun _ => rfl⟩ zh7 (fun a b => (a.1, a.2.1)) none (fun _ _ => rfl) rfl (fun _ _ h => nomatch h) 1000000 (fn := Tryz.f84) Tryz.func84 rfl (by kernel_rfl) (by kernel_rfl) rfl (by intro N a b; kernel_rfl)
def z65 (N : Nat) (a : zd) (b : zd) : Option (Bool) :=
 ((bif ((a.Slot == b.Slot) && ((a.Ballot.Round == b.Ballot.Round) && (a.Ballot.Replica == b.Ballot.Replica))) then z16 N a.Entry b.Entry else some default).bind fun r1 =>
 (some (((a.Slot == b.Slot) && ((a.Ballot.Round == b.Ballot.Round) && (a.Ballot.Replica == b.Ballot.Replica))) && r1)))
def z92 : Con τ := { args := [.ty 178, .ty 178], L := [], ret := .ty 4, L' := [], R := Bool, dflt := default, F := fun N a b => z65 N a.1 a.2.1, of := fun r => (r, ()) }
noncomputable def zmt : Dat τ := { D := D0, tbl := tblOf [(31, z68)], lp := lpsOf [], k0 := 0, mu := [], un := [] }
theorem znv : ConOk E C 133 z92 :=
  zf (D := zmt) ⟨d0Ok, eGood, za ⟨zcm, trivial⟩, fun _ => rfl⟩ z92 (fun a b => a) none (fun _ _ => rfl) rfl (fun _ _ h => nomatch h) 1000000 (fn := Tryz.f133) Tryz.func133 rfl (by kernel_rfl) (by kernel_rfl) rfl (by intro N a b; kernel_rfl)
structure z4u where
  i : Int
def zav : List Sl := [.k, .k, .k, .k, .j, .sh (.ty 2), .k, .k, .k, .k, .k, .j, .j, .j, .j, .j, .j, .j, .j, .j, .j, .j, .j, .j, .j, .j, .j]
def zaw : List ESh := []
def zph (a : Sl.Ts τ zav) (b : ESh.Ts τ zaw) : z4u := ⟨a.2.2.2.2.2.1⟩
def zpi (s : z4u) : Sl.Ts τ zav := ((), (), (), (), (), s.i, (), (), (), (), (), (), (), (), (), (), (), (), (), (), (), (), (), (), (), (), (), ())
def zpj (s : z4u) : ESh.Ts τ zaw := ()
def zpk : Lp τ := { ts := zav, hs := zaw, S := z4u, to := zph, ot := zpi, oh := zpj, hk := [], tk := [], ot_to := fun _ _ => rfl, oh_to := fun _ _ => rfl }
def zax (N : Nat) (a : List (zd)) (b : List (zd)) : Option (Bool) :=
 (bif (!(((a).length : Int) == ((b).length : Int))) then
 (some false)
 else
 (iter N (fun (s1 : z4u) next2 =>
 (bif (decide (s1.i < ((a).length : Int))) then
 (bif (ibB s1.i ((a).length : Int)) then
 (bif (ibB s1.i ((b).length : Int)) then
 ((z65 N (⟨(lget a s1.i default).Slot, ((lget a s1.i default).Ballot), (⟨((lget a s1.i default).Entry).Kind, ((lget a s1.i default).Entry).Session, ((lget a s1.i default).Entry).Request, (⟨((((lget a s1.i default).Entry).Op).Stamp), (((lget a s1.i default).Entry).Op).Kind, (((lget a s1.i default).Entry).Op).Node, (((lget a s1.i default).Entry).Op).Parent, (((lget a s1.i default).Entry).Op).Name, (((lget a s1.i default).Entry).Op).Key, (((lget a s1.i default).Entry).Op).Value⟩ : GOp), ((lget a s1.i default).Entry).Origin, ((lget a s1.i default).Entry).Seq, ((lget a s1.i default).Entry).Ops, (((lget a s1.i default).Entry).Epoch), ((lget a s1.i default).Entry).From, ((lget a s1.i default).Entry).Vector_, ((lget a s1.i default).Entry).Clock, (((lget a s1.i default).Entry).Part), ((lget a s1.i default).Entry).Site, ((lget a s1.i default).Entry).Sponsor, ((lget a s1.i default).Entry).Length⟩ : z6)⟩ : zd) (⟨(lget b s1.i default).Slot, ((lget b s1.i default).Ballot), (⟨((lget b s1.i default).Entry).Kind, ((lget b s1.i default).Entry).Session, ((lget b s1.i default).Entry).Request, (⟨((((lget b s1.i default).Entry).Op).Stamp), (((lget b s1.i default).Entry).Op).Kind, (((lget b s1.i default).Entry).Op).Node, (((lget b s1.i default).Entry).Op).Parent, (((lget b s1.i default).Entry).Op).Name, (((lget b s1.i default).Entry).Op).Key, (((lget b s1.i default).Entry).Op).Value⟩ : GOp), ((lget b s1.i default).Entry).Origin, ((lget b s1.i default).Entry).Seq, ((lget b s1.i default).Entry).Ops, (((lget b s1.i default).Entry).Epoch), ((lget b s1.i default).Entry).From, ((lget b s1.i default).Entry).Vector_, ((lget b s1.i default).Entry).Clock, (((lget b s1.i default).Entry).Part), ((lget b s1.i default).Entry).Site, ((lget b s1.i default).Entry).Sponsor, ((lget b s1.i default).Entry).Length⟩ : z6)⟩ : zd)).bind fun r3 =>
 (bif (!r3) then
 (some false)
 else
 (next2 ⟨(IntKind.i64.wrap (s1.i + 1))⟩)))
 else none)
 else none)
 else
 (some true))) ⟨0⟩))
def zcg : Con τ := { args := [.ty 69, .ty 69], L := [], ret := .ty 4, L' := [], R := Bool, dflt := default, F := fun N a b => zax N a.1 a.2.1, of := fun r => (r, ()) }
noncomputable def zqy : Dat τ := { D := D0, tbl := tblOf [(133, z92)], lp := lpsOf [(4, zpk)], k0 := 0, mu := [], un := [] }
theorem zsv : ConOk E C 83 zcg :=
  zf (D := zqy) ⟨d0Ok, eGood, za ⟨znv, trivial⟩, fun _ => rfl⟩ zcg (fun a b => a) none (fun _ _ => rfl) rfl (fun _ _ h => nomatch h) 1000000 (fn := Tryz.f83) Tryz.func83 rfl (by kernel_rfl) (by kernel_rfl) rfl (by intro N a b; kernel_rfl)
def zd4 (N : Nat) (a : GMsg) (b : GMsg) : Option (Bool) :=
 ((bif (((((a.Kind == b.Kind) && ((a.From.Group == b.From.Group) && (a.From.Replica == b.From.Replica))) && ((a.To.Group == b.To.Group) && (a.To.Replica == b.To.Replica))) && ((a.Ballot.Round == b.Ballot.Round) && (a.Ballot.Replica == b.Ballot.Replica))) && (a.Slot == b.Slot)) then zax N a.List_ b.List_ else some default).bind fun r1 =>
 ((bif ((((((a.Kind == b.Kind) && ((a.From.Group == b.From.Group) && (a.From.Replica == b.From.Replica))) && ((a.To.Group == b.To.Group) && (a.To.Replica == b.To.Replica))) && ((a.Ballot.Round == b.Ballot.Round) && (a.Ballot.Replica == b.Ballot.Replica))) && (a.Slot == b.Slot)) && r1) then z16 N a.Entry b.Entry else some default).bind fun r2 =>
 ((bif (((((((((((a.Kind == b.Kind) && ((a.From.Group == b.From.Group) && (a.From.Replica == b.From.Replica))) && ((a.To.Group == b.To.Group) && (a.To.Replica == b.To.Replica))) && ((a.Ballot.Round == b.Ballot.Round) && (a.Ballot.Replica == b.Ballot.Replica))) && (a.Slot == b.Slot)) && r1) && r2) && (a.Number == b.Number)) && (vbeq beq2 a.Vector_ b.Vector_)) && (a.Clock == b.Clock)) && (a.Origin == b.Origin)) then z9m N a.Ops b.Ops else some default).bind fun r3 =>
 ((bif (((((((((((((a.Kind == b.Kind) && ((a.From.Group == b.From.Group) && (a.From.Replica == b.From.Replica))) && ((a.To.Group == b.To.Group) && (a.To.Replica == b.To.Replica))) && ((a.Ballot.Round == b.Ballot.Round) && (a.Ballot.Replica == b.Ballot.Replica))) && (a.Slot == b.Slot)) && r1) && r2) && (a.Number == b.Number)) && (vbeq beq2 a.Vector_ b.Vector_)) && (a.Clock == b.Clock)) && (a.Origin == b.Origin)) && r3) && ((a.Epoch.Number == b.Epoch.Number) && ((vbeq beq3 a.Epoch.States b.Epoch.States) && ((vbeq beq2 a.Epoch.Seals b.Epoch.Seals) && (vbeq beq3 a.Epoch.Sponsor b.Epoch.Sponsor))))) then z8h N a.Part b.Part else some default).bind fun r4 =>
 (some ((((((((((((((a.Kind == b.Kind) && ((a.From.Group == b.From.Group) && (a.From.Replica == b.From.Replica))) && ((a.To.Group == b.To.Group) && (a.To.Replica == b.To.Replica))) && ((a.Ballot.Round == b.Ballot.Round) && (a.Ballot.Replica == b.Ballot.Replica))) && (a.Slot == b.Slot)) && r1) && r2) && (a.Number == b.Number)) && (vbeq beq2 a.Vector_ b.Vector_)) && (a.Clock == b.Clock)) && (a.Origin == b.Origin)) && r3) && ((a.Epoch.Number == b.Epoch.Number) && ((vbeq beq3 a.Epoch.States b.Epoch.States) && ((vbeq beq2 a.Epoch.Seals b.Epoch.Seals) && (vbeq beq3 a.Epoch.Sponsor b.Epoch.Sponsor))))) && r4))))))
def zdm : Con τ := { args := [.ty 71, .ty 71], L := [], ret := .ty 4, L' := [], R := Bool, dflt := default, F := fun N a b => zd4 N a.1 a.2.1, of := fun r => (r, ()) }
noncomputable def zsw : Dat τ := { D := D0, tbl := tblOf [(83, zcg), (31, z68), (75, z9r), (76, z8u)], lp := lpsOf [], k0 := 0, mu := [], un := [] }
theorem zu8 : ConOk E C 34 zdm :=
  zf (D := zsw) ⟨d0Ok, eGood, za ⟨zsv, ⟨zcm, ⟨zm3, ⟨zl2, trivial⟩⟩⟩⟩, fun _ => rfl⟩ zdm (fun a b => a) none (fun _ _ => rfl) rfl (fun _ _ h => nomatch h) 1000000 (fn := Tryz.f34) Tryz.func34 rfl (by kernel_rfl) (by kernel_rfl) rfl (by intro N a b; kernel_rfl)
def z98 (N : Nat) (a : GAddr) : Option (Bool) :=
 (some ((((decide (0 ≤ a.Group)) && (decide (a.Group < 9))) && (decide (0 ≤ a.Replica))) && (decide (a.Replica < 5))))
def zdn : Con τ := { args := [.ty 66], L := [], ret := .ty 4, L' := [], R := Bool, dflt := default, F := fun N a b => z98 N a.1, of := fun r => (r, ()) }
noncomputable def zsx : Dat τ := { D := D0, tbl := tblOf [], lp := lpsOf [], k0 := 0, mu := [], un := [] }
theorem zu9 : ConOk E C 85 zdn :=
  zf (D := zsx) ⟨d0Ok, eGood, za trivial, fun _ => rfl⟩ zdn (fun a b => a) none (fun _ _ => rfl) rfl (fun _ _ h => nomatch h) 1000000 (fn := Tryz.f85) Tryz.func85 rfl (by kernel_rfl) (by kernel_rfl) rfl (by intro N a b; kernel_rfl)
def zay (N : Nat) (b : zh) : Option (Bool) :=
 ((zk N b.Round).bind fun r1 =>
 (some ((r1 && (decide (0 ≤ b.Replica))) && (decide (b.Replica < 5)))))
def zaz : Con τ := { args := [.ty 68], L := [], ret := .ty 4, L' := [], R := Bool, dflt := default, F := fun N a b => zay N a.1, of := fun r => (r, ()) }
noncomputable def zua : Dat τ := { D := D0, tbl := tblOf [(61, z2z)], lp := lpsOf [], k0 := 0, mu := [], un := [] }
theorem zna : ConOk E C 86 zaz :=
  zf (D := zua) ⟨d0Ok, eGood, za ⟨z69, trivial⟩, fun _ => rfl⟩ zaz (fun a b => a) none (fun _ _ => rfl) rfl (fun _ _ h => nomatch h) 1000000 (fn := Tryz.f86) Tryz.func86 rfl (by kernel_rfl) (by kernel_rfl) rfl (by intro N a b; kernel_rfl)
structure z8p where
  i : Int
def zh8 : List Sl := [.k, .k, .k, .k, .k, .k, .j, .sh (.ty 2), .j, .j, .j, .j, .j, .j, .j, .j, .j, .j, .j, .j, .j, .j, .j, .j, .j, .j, .j, .j, .j, .j, .j, .j, .j, .j, .j, .j, .j, .j, .j, .k, .k, .k, .k, .k, .k, .k, .k, .k, .k]
def zh9 : List ESh := []
def zw5 (a : Sl.Ts τ zh8) (b : ESh.Ts τ zh9) : z8p := ⟨a.2.2.2.2.2.2.2.1⟩
def zw6 (s : z8p) : Sl.Ts τ zh8 := ((), (), (), (), (), (), (), s.i, (), (), (), (), (), (), (), (), (), (), (), (), (), (), (), (), (), (), (), (), (), (), (), (), (), (), (), (), (), (), (), (), (), (), (), (), (), (), (), (), (), ())
def zw7 (s : z8p) : ESh.Ts τ zh9 := ()
def zw8 : Lp τ := { ts := zh8, hs := zh9, S := z8p, to := zw5, ot := zw6, oh := zw7, hk := [], tk := [], ot_to := fun _ _ => rfl, oh_to := fun _ _ => rfl }
def zch (N : Nat) (l : List (zd)) (least : Int) (most : Int) : Option (Bool) :=
 (iter N (fun (s1 : z8p) next2 =>
 (bif (decide (s1.i < ((l).length : Int))) then
 (bif (ibB s1.i ((l).length : Int)) then
 ((zk N ((lget l s1.i default).Slot)).bind fun r3 =>
 (bif (!(!(!r3)) || (ibB s1.i ((l).length : Int))) then
 ((bif (!(!r3)) then zay N ((lget l s1.i default).Ballot) else some default).bind fun r4 =>
 (bif (!(!((!r3) || (!r4))) || (ibB s1.i ((l).length : Int))) then
 ((bif (!((!r3) || (!r4))) then z1a N (⟨((lget l s1.i default).Entry).Kind, ((lget l s1.i default).Entry).Session, ((lget l s1.i default).Entry).Request, (⟨((((lget l s1.i default).Entry).Op).Stamp), (((lget l s1.i default).Entry).Op).Kind, (((lget l s1.i default).Entry).Op).Node, (((lget l s1.i default).Entry).Op).Parent, (((lget l s1.i default).Entry).Op).Name, (((lget l s1.i default).Entry).Op).Key, (((lget l s1.i default).Entry).Op).Value⟩ : GOp), ((lget l s1.i default).Entry).Origin, ((lget l s1.i default).Entry).Seq, ((lget l s1.i default).Entry).Ops, (((lget l s1.i default).Entry).Epoch), ((lget l s1.i default).Entry).From, ((lget l s1.i default).Entry).Vector_, ((lget l s1.i default).Entry).Clock, (((lget l s1.i default).Entry).Part), ((lget l s1.i default).Entry).Site, ((lget l s1.i default).Entry).Sponsor, ((lget l s1.i default).Entry).Length⟩ : z6) else some default).bind fun r5 =>
 (bif (((!r3) || (!r4)) || (!r5)) then
 (some false)
 else
 (next2 ⟨(IntKind.i64.wrap (s1.i + 1))⟩)))
 else none))
 else none))
 else none)
 else
 (some ((decide (least ≤ ((l).length : Int))) && (decide (((l).length : Int) ≤ most)))))) ⟨0⟩)
def zjw : Con τ := { args := [.ty 69, .ty 3, .ty 3], L := [], ret := .ty 4, L' := [], R := Bool, dflt := default, F := fun N a b => zch N a.1 a.2.1 a.2.2.1, of := fun r => (r, ()) }
noncomputable def zy7 : Dat τ := { D := D0, tbl := tblOf [(61, z2z), (86, zaz), (32, z77)], lp := lpsOf [(2, zw8)], k0 := 0, mu := [], un := [] }
theorem z107 : ConOk E C 87 zjw :=
  zf (D := zy7) ⟨d0Ok, eGood, za ⟨z69, ⟨zna, ⟨zdt, trivial⟩⟩⟩, fun _ => rfl⟩ zjw (fun a b => a) none (fun _ _ => rfl) rfl (fun _ _ h => nomatch h) 1000000 (fn := Tryz.f87) Tryz.func87 rfl (by kernel_rfl) (by kernel_rfl) rfl (by intro N a b; kernel_rfl)
def zb0 (N : Nat) (m : GMsg) : Option (Bool) :=
 ((zda N m).bind fun r1 =>
 ((bif (!(!r1.2)) then zd4 N m r1.1 else some default).bind fun r2 =>
 ((bif (!((!r1.2) || (!r2))) then z98 N m.From else some default).bind fun r3 =>
 ((bif (!(((!r1.2) || (!r2)) || (!r3))) then z98 N m.To else some default).bind fun r4 =>
 (bif ((((!r1.2) || (!r2)) || (!r3)) || (!r4)) then
 (some false)
 else
 ((zay N m.Ballot).bind fun r5 =>
 ((bif (!(!r5)) then zk N m.Slot else some default).bind fun r6 =>
 ((bif (!((!r5) || (!r6))) then zk N m.Number else some default).bind fun r7 =>
 ((bif (!(((!r5) || (!r6)) || (!r7))) then z3a N m.Vector_ else some default).bind fun r8 =>
 ((bif (!((((!r5) || (!r6)) || (!r7)) || (!r8))) then zk N m.Clock else some default).bind fun r9 =>
 (bif (((((!r5) || (!r6)) || (!r7)) || (!r8)) || (!r9)) then
 (some false)
 else
 (bif (m.Kind == 2) then
 ((zch N m.List_ 0 4096).bind fun r10 =>
 (some r10))
 else
 (bif (m.Kind == 3) then
 ((zch N m.List_ 1 1).bind fun r11 =>
 (some r11))
 else
 (bif (m.Kind == 6) then
 ((zch N m.List_ 1 4096).bind fun r12 =>
 (some r12))
 else
 (bif (m.Kind == 9) then
 ((z1a N m.Entry).bind fun r13 =>
 (some r13))
 else
 (bif (m.Kind == 11) then
 ((z11 N m.Origin).bind fun r14 =>
 ((bif r14 then zco N m.Ops else some default).bind fun r15 =>
 (some (r14 && r15))))
 else
 (bif (m.Kind == 12) then
 ((z5i N m.Epoch).bind fun r16 =>
 (some r16))
 else
 (bif (m.Kind == 13) then
 (bif (m.Kind == 13) then
 ((z4t N m.Part).bind fun r17 =>
 (some r17))
 else
 (some true))
 else
 (bif (m.Kind == 15) then
 ((z4t N m.Part).bind fun r18 =>
 (some r18))
 else
 (some true))))))))))))))))))))
def zem : Con τ := { args := [.ty 71], L := [], ret := .ty 4, L' := [], R := Bool, dflt := default, F := fun N a b => zb0 N a.1, of := fun r => (r, ()) }
noncomputable def zub : Dat τ := { D := D0, tbl := tblOf [(84, zh7), (34, zdm), (85, zdn), (86, zaz), (61, z2z), (62, z6a), (87, zjw), (32, z77), (78, zbk), (79, zgr), (24, z8v), (80, z9s)], lp := lpsOf [], k0 := 0, mu := [], un := [] }
theorem zw9 : ConOk E C 35 zem :=
  zf (D := zub) ⟨d0Ok, eGood, za ⟨zy6, ⟨zu8, ⟨zu9, ⟨zna, ⟨z69, ⟨zcp, ⟨z107, ⟨zdt, ⟨zm4, ⟨zux, ⟨zl3, ⟨zm5, trivial⟩⟩⟩⟩⟩⟩⟩⟩⟩⟩⟩⟩, fun _ => rfl⟩ zem (fun a b => a) none (fun _ _ => rfl) rfl (fun _ _ h => nomatch h) 1000000 (fn := Tryz.f35) Tryz.func35 rfl (by kernel_rfl) (by kernel_rfl) rfl (by intro N a b; kernel_rfl)
structure z4v where
  b : List (Int)
  i : Int
def zb1 : List Sl := [.k, .k, .k, .sh (.own 5 1), .sh (.ty 2), .k, .k, .k, .k, .j, .j, .j, .j, .j, .j, .j, .j, .j, .j, .j, .j, .j, .j, .j, .j, .j, .j, .j, .j, .j, .j, .j, .j, .j, .j, .j, .j, .j, .j, .j, .j, .j, .j, .k]
def zb2 : List ESh := [.dead, .tail]
def zpl (a : Sl.Ts τ zb1) (b : ESh.Ts τ zb2) : z4v := ⟨a.2.2.2.1, a.2.2.2.2.1⟩
def zpm (s : z4v) : Sl.Ts τ zb1 := ((), (), (), s.b, s.i, (), (), (), (), (), (), (), (), (), (), (), (), (), (), (), (), (), (), (), (), (), (), (), (), (), (), (), (), (), (), (), (), (), (), (), (), (), (), (), ())
def zpn (s : z4v) : ESh.Ts τ zb2 := ((), (), ())
def zpo : Lp τ := { ts := zb1, hs := zb2, S := z4v, to := zpl, ot := zpm, oh := zpn, hk := [5], tk := [], ot_to := fun _ _ => rfl, oh_to := fun _ _ => rfl }
def z21 (N : Nat) (l : List (zd)) : Option ((List (Int))) :=
 ((z1r N [((l).length : Int)]).bind fun r1 =>
 (iter N (fun (s2 : z4v) next3 =>
 (bif (decide (s2.i < ((l).length : Int))) then
 (bif (ibB s2.i ((l).length : Int)) then
 (bif (ibB s2.i ((l).length : Int)) then
 (bif (ibB s2.i ((l).length : Int)) then
 ((zc N s2.b [(lget l s2.i default).Slot, ((lget l s2.i default).Ballot).Round, ((lget l s2.i default).Ballot).Replica]).bind fun r4 =>
 (bif (ibB s2.i ((l).length : Int)) then
 ((z2o N (⟨((lget l s2.i default).Entry).Kind, ((lget l s2.i default).Entry).Session, ((lget l s2.i default).Entry).Request, (⟨((((lget l s2.i default).Entry).Op).Stamp), (((lget l s2.i default).Entry).Op).Kind, (((lget l s2.i default).Entry).Op).Node, (((lget l s2.i default).Entry).Op).Parent, (((lget l s2.i default).Entry).Op).Name, (((lget l s2.i default).Entry).Op).Key, (((lget l s2.i default).Entry).Op).Value⟩ : GOp), ((lget l s2.i default).Entry).Origin, ((lget l s2.i default).Entry).Seq, ((lget l s2.i default).Entry).Ops, (((lget l s2.i default).Entry).Epoch), ((lget l s2.i default).Entry).From, ((lget l s2.i default).Entry).Vector_, ((lget l s2.i default).Entry).Clock, (((lget l s2.i default).Entry).Part), ((lget l s2.i default).Entry).Site, ((lget l s2.i default).Entry).Sponsor, ((lget l s2.i default).Entry).Length⟩ : z6)).bind fun r5 =>
 (bif (lenB ((r4).length + (r5).length) 1) then
 (next3 ⟨(r4 ++ r5), (IntKind.i64.wrap (s2.i + 1))⟩)
 else none))
 else none))
 else none)
 else none)
 else none)
 else
 (some s2.b))) ⟨r1, 0⟩))
def zci : Con τ := { args := [.ty 69], L := [], ret := .ty 31, L' := [], R := (List (Int)), dflt := default, F := fun N a b => z21 N a.1, of := fun r => (r, ()) }
noncomputable def zqz : Dat τ := { D := D0, tbl := tblOf [(42, z2n), (42, z46), (66, z6b)], lp := lpsOf [(3, zpo)], k0 := 0, mu := [], un := [] }
theorem zsy : ConOk E C 126 zci :=
  zf (D := zqz) ⟨d0Ok, eGood, za ⟨z5j, ⟨z8j, ⟨zcy, trivial⟩⟩⟩, fun _ => rfl⟩ zci (fun a b => a) none (fun _ _ => rfl) rfl (fun _ _ h => nomatch h) 1000000 (fn := Tryz.f126) Tryz.func126 rfl (by kernel_rfl) (by kernel_rfl) rfl (by intro N a b; kernel_rfl)
def zd5 (N : Nat) (m : GMsg) : Option ((List (Int))) :=
 ((z1r N [m.Kind, m.From.Group, m.From.Replica, m.To.Group, m.To.Replica]).bind fun r1 =>
 ((z1r N [m.Ballot.Round, m.Ballot.Replica]).bind fun r2 =>
 (bif (m.Kind == 1) then
 (bif (m.Kind == 1) then
 (bif (lenB ((r1).length + (r2).length) 1) then
 ((zc N (r1 ++ r2) [m.Slot]).bind fun r3 =>
 (some r3))
 else none)
 else
 (bif (m.Kind == 2) then
 (bif (lenB ((r1).length + (r2).length) 1) then
 ((zc N (r1 ++ r2) [m.Slot]).bind fun r4 =>
 ((z21 N m.List_).bind fun r5 =>
 (bif (lenB ((r4).length + (r5).length) 1) then
 (some (r4 ++ r5))
 else none)))
 else none)
 else
 (bif (m.Kind == 3) then
 (bif (lenB ((r1).length + (r2).length) 1) then
 ((z21 N m.List_).bind fun r6 =>
 (bif (lenB (((r1 ++ r2)).length + (r6).length) 1) then
 (some ((r1 ++ r2) ++ r6))
 else none))
 else none)
 else
 (bif (m.Kind == 5) then
 (bif (lenB ((r1).length + (r2).length) 1) then
 (some (r1 ++ r2))
 else none)
 else
 (bif (m.Kind == 6) then
 ((z21 N m.List_).bind fun r7 =>
 (bif (lenB ((r1).length + (r7).length) 1) then
 (some (r1 ++ r7))
 else none))
 else
 (bif (m.Kind == 8) then
 ((zc N r1 [m.Slot]).bind fun r8 =>
 (some r8))
 else
 (bif (m.Kind == 9) then
 ((z2o N m.Entry).bind fun r9 =>
 (bif (lenB ((r1).length + (r9).length) 1) then
 (some (r1 ++ r9))
 else none))
 else
 (bif (m.Kind == 10) then
 ((zc N r1 [m.Number]).bind fun r10 =>
 ((z1j N m.Vector_).bind fun r11 =>
 (bif (lenB ((r10).length + (r11).length) 1) then
 ((zc N (r10 ++ r11) [m.Clock]).bind fun r12 =>
 (some r12))
 else none)))
 else
 (bif (m.Kind == 11) then
 ((zc N r1 [m.Number, m.Origin, m.Slot]).bind fun r13 =>
 ((z6x N m.Ops).bind fun r14 =>
 (bif (lenB ((r13).length + (r14).length) 1) then
 (some (r13 ++ r14))
 else none)))
 else
 (bif (m.Kind == 12) then
 ((z47 N m.Epoch).bind fun r15 =>
 (bif (lenB ((r1).length + (r15).length) 1) then
 (some (r1 ++ r15))
 else none))
 else
 (bif (m.Kind == 13) then
 ((z2k N m.Part).bind fun r16 =>
 (bif (lenB ((r1).length + (r16).length) 1) then
 (some (r1 ++ r16))
 else none))
 else
 (bif (m.Kind == 14) then
 ((zc N r1 [m.Number]).bind fun r17 =>
 ((z1j N m.Vector_).bind fun r18 =>
 (bif (lenB ((r17).length + (r18).length) 1) then
 (some (r17 ++ r18))
 else none)))
 else
 ((zc N r1 [m.Slot]).bind fun r19 =>
 ((z2k N m.Part).bind fun r20 =>
 (bif (lenB ((r19).length + (r20).length) 1) then
 (some (r19 ++ r20))
 else none)))))))))))))))
 else
 (bif (m.Kind == 4) then
 (bif (m.Kind == 4) then
 (bif (lenB ((r1).length + (r2).length) 1) then
 ((zc N (r1 ++ r2) [m.Slot]).bind fun r21 =>
 (some r21))
 else none)
 else
 (bif (m.Kind == 2) then
 (bif (lenB ((r1).length + (r2).length) 1) then
 ((zc N (r1 ++ r2) [m.Slot]).bind fun r22 =>
 ((z21 N m.List_).bind fun r23 =>
 (bif (lenB ((r22).length + (r23).length) 1) then
 (some (r22 ++ r23))
 else none)))
 else none)
 else
 (bif (m.Kind == 3) then
 (bif (lenB ((r1).length + (r2).length) 1) then
 ((z21 N m.List_).bind fun r24 =>
 (bif (lenB (((r1 ++ r2)).length + (r24).length) 1) then
 (some ((r1 ++ r2) ++ r24))
 else none))
 else none)
 else
 (bif (m.Kind == 5) then
 (bif (lenB ((r1).length + (r2).length) 1) then
 (some (r1 ++ r2))
 else none)
 else
 (bif (m.Kind == 6) then
 ((z21 N m.List_).bind fun r25 =>
 (bif (lenB ((r1).length + (r25).length) 1) then
 (some (r1 ++ r25))
 else none))
 else
 (bif (m.Kind == 8) then
 ((zc N r1 [m.Slot]).bind fun r26 =>
 (some r26))
 else
 (bif (m.Kind == 9) then
 ((z2o N m.Entry).bind fun r27 =>
 (bif (lenB ((r1).length + (r27).length) 1) then
 (some (r1 ++ r27))
 else none))
 else
 (bif (m.Kind == 10) then
 ((zc N r1 [m.Number]).bind fun r28 =>
 ((z1j N m.Vector_).bind fun r29 =>
 (bif (lenB ((r28).length + (r29).length) 1) then
 ((zc N (r28 ++ r29) [m.Clock]).bind fun r30 =>
 (some r30))
 else none)))
 else
 (bif (m.Kind == 11) then
 ((zc N r1 [m.Number, m.Origin, m.Slot]).bind fun r31 =>
 ((z6x N m.Ops).bind fun r32 =>
 (bif (lenB ((r31).length + (r32).length) 1) then
 (some (r31 ++ r32))
 else none)))
 else
 (bif (m.Kind == 12) then
 ((z47 N m.Epoch).bind fun r33 =>
 (bif (lenB ((r1).length + (r33).length) 1) then
 (some (r1 ++ r33))
 else none))
 else
 (bif (m.Kind == 13) then
 ((z2k N m.Part).bind fun r34 =>
 (bif (lenB ((r1).length + (r34).length) 1) then
 (some (r1 ++ r34))
 else none))
 else
 (bif (m.Kind == 14) then
 ((zc N r1 [m.Number]).bind fun r35 =>
 ((z1j N m.Vector_).bind fun r36 =>
 (bif (lenB ((r35).length + (r36).length) 1) then
 (some (r35 ++ r36))
 else none)))
 else
 ((zc N r1 [m.Slot]).bind fun r37 =>
 ((z2k N m.Part).bind fun r38 =>
 (bif (lenB ((r37).length + (r38).length) 1) then
 (some (r37 ++ r38))
 else none)))))))))))))))
 else
 (bif (m.Kind == 7) then
 (bif (lenB ((r1).length + (r2).length) 1) then
 ((zc N (r1 ++ r2) [m.Slot]).bind fun r39 =>
 (some r39))
 else none)
 else
 (bif (m.Kind == 2) then
 (bif (lenB ((r1).length + (r2).length) 1) then
 ((zc N (r1 ++ r2) [m.Slot]).bind fun r40 =>
 ((z21 N m.List_).bind fun r41 =>
 (bif (lenB ((r40).length + (r41).length) 1) then
 (some (r40 ++ r41))
 else none)))
 else none)
 else
 (bif (m.Kind == 3) then
 (bif (lenB ((r1).length + (r2).length) 1) then
 ((z21 N m.List_).bind fun r42 =>
 (bif (lenB (((r1 ++ r2)).length + (r42).length) 1) then
 (some ((r1 ++ r2) ++ r42))
 else none))
 else none)
 else
 (bif (m.Kind == 5) then
 (bif (lenB ((r1).length + (r2).length) 1) then
 (some (r1 ++ r2))
 else none)
 else
 (bif (m.Kind == 6) then
 ((z21 N m.List_).bind fun r43 =>
 (bif (lenB ((r1).length + (r43).length) 1) then
 (some (r1 ++ r43))
 else none))
 else
 (bif (m.Kind == 8) then
 ((zc N r1 [m.Slot]).bind fun r44 =>
 (some r44))
 else
 (bif (m.Kind == 9) then
 ((z2o N m.Entry).bind fun r45 =>
 (bif (lenB ((r1).length + (r45).length) 1) then
 (some (r1 ++ r45))
 else none))
 else
 (bif (m.Kind == 10) then
 ((zc N r1 [m.Number]).bind fun r46 =>
 ((z1j N m.Vector_).bind fun r47 =>
 (bif (lenB ((r46).length + (r47).length) 1) then
 ((zc N (r46 ++ r47) [m.Clock]).bind fun r48 =>
 (some r48))
 else none)))
 else
 (bif (m.Kind == 11) then
 ((zc N r1 [m.Number, m.Origin, m.Slot]).bind fun r49 =>
 ((z6x N m.Ops).bind fun r50 =>
 (bif (lenB ((r49).length + (r50).length) 1) then
 (some (r49 ++ r50))
 else none)))
 else
 (bif (m.Kind == 12) then
 ((z47 N m.Epoch).bind fun r51 =>
 (bif (lenB ((r1).length + (r51).length) 1) then
 (some (r1 ++ r51))
 else none))
 else
 (bif (m.Kind == 13) then
 ((z2k N m.Part).bind fun r52 =>
 (bif (lenB ((r1).length + (r52).length) 1) then
 (some (r1 ++ r52))
 else none))
 else
 (bif (m.Kind == 14) then
 ((zc N r1 [m.Number]).bind fun r53 =>
 ((z1j N m.Vector_).bind fun r54 =>
 (bif (lenB ((r53).length + (r54).length) 1) then
 (some (r53 ++ r54))
 else none)))
 else
 ((zc N r1 [m.Slot]).bind fun r55 =>
 ((z2k N m.Part).bind fun r56 =>
 (bif (lenB ((r55).length + (r56).length) 1) then
 (some (r55 ++ r56))
 else none)))))))))))))))))))
def zdo : Con τ := { args := [.ty 71], L := [], ret := .ty 31, L' := [], R := (List (Int)), dflt := default, F := fun N a b => zd5 N a.1, of := fun r => (r, ()) }
noncomputable def zsz : Dat τ := { D := D0, tbl := tblOf [(42, z2n), (42, z46), (126, zci), (66, z6b), (47, z5k), (113, z9t), (14, z89), (114, z8x)], lp := lpsOf [], k0 := 0, mu := [], un := [] }
theorem zuc : ConOk E C 70 zdo :=
  zf (D := zsz) ⟨d0Ok, eGood, za ⟨z5j, ⟨z8j, ⟨zsy, ⟨zcy, ⟨zbo, ⟨zm6, ⟨zj9, ⟨zl4, trivial⟩⟩⟩⟩⟩⟩⟩⟩, fun _ => rfl⟩ zdo (fun a b => a) none (fun _ _ => rfl) rfl (fun _ _ h => nomatch h) 1000000 (fn := Tryz.f70) Tryz.func70 rfl (by kernel_rfl) (by kernel_rfl) rfl (by intro N a b; kernel_rfl)
structure zae where
  sum : Int
  i : Int
def zjx : List Sl := [.k, .k, .k, .sh (.ty 167), .sh (.ty 2), .j, .j, .j, .j, .j, .j, .j, .j, .j, .j, .j, .j, .j, .j, .j, .j, .j, .j, .j, .j, .j, .j, .j, .j, .j, .j, .k, .k]
def zjy : List ESh := []
def zy8 (a : Sl.Ts τ zjx) (b : ESh.Ts τ zjy) : zae := ⟨a.2.2.2.1, a.2.2.2.2.1⟩
def zy9 (s : zae) : Sl.Ts τ zjx := ((), (), (), s.sum, s.i, (), (), (), (), (), (), (), (), (), (), (), (), (), (), (), (), (), (), (), (), (), (), (), (), (), (), (), (), ())
def zya (s : zae) : ESh.Ts τ zjy := ()
def zyb : Lp τ := { ts := zjx, hs := zjy, S := zae, to := zy8, ot := zy9, oh := zya, hk := [], tk := [], ot_to := fun _ _ => rfl, oh_to := fun _ _ => rfl }
structure z8d where
  sum : Int
  k : Int
def zjz : List Sl := [.k, .k, .k, .sh (.ty 167), .k, .sh (.ty 2), .k, .k, .k, .k, .k, .k, .k, .k, .k, .k, .k, .k, .k, .j, .j, .j, .j, .j, .j, .j, .j, .j, .j, .j, .j, .k, .k]
def zk0 : List ESh := []
def zyc (a : Sl.Ts τ zjz) (b : ESh.Ts τ zk0) : z8d := ⟨a.2.2.2.1, a.2.2.2.2.2.1⟩
def zyd (s : z8d) : Sl.Ts τ zjz := ((), (), (), s.sum, (), s.k, (), (), (), (), (), (), (), (), (), (), (), (), (), (), (), (), (), (), (), (), (), (), (), (), (), (), (), ())
def zye (s : z8d) : ESh.Ts τ zk0 := ()
def zyf : Lp τ := { ts := zjz, hs := zk0, S := z8d, to := zyc, ot := zyd, oh := zye, hk := [], tk := [], ot_to := fun _ _ => rfl, oh_to := fun _ _ => rfl }
def zmp (N : Nat) (b : List (Int)) : Option (Int) :=
 (iter N (fun (s1 : zae) next2 =>
 (bif (decide (s1.i < ((b).length : Int))) then
 (bif (ibB s1.i ((b).length : Int)) then
 (iter N (fun (s3 : z8d) next4 =>
 (bif (decide (s3.k < 8)) then
 (bif ((Int.tmod s3.sum 2) == 1) then
 (next4 ⟨(bits .xor .u32 (IntKind.u32.wrap (Int.tdiv s3.sum 2)) 3988292384), (IntKind.i64.wrap (s3.k + 1))⟩)
 else
 (next4 ⟨(IntKind.u32.wrap (Int.tdiv s3.sum 2)), (IntKind.i64.wrap (s3.k + 1))⟩))
 else
 (next2 ⟨s3.sum, (IntKind.i64.wrap (s1.i + 1))⟩))) ⟨(bits .xor .u32 s1.sum (IntKind.u32.wrap (lget b s1.i default))), 0⟩)
 else none)
 else
 (some (bits .xor .u32 IntKind.u32.max s1.sum)))) ⟨4294967295, 0⟩)
def zlw : Con τ := { args := [.ty 31], L := [], ret := .ty 167, L' := [], R := Int, dflt := default, F := fun N a b => zmp N a.1, of := fun r => (r, ()) }
noncomputable def z108 : Dat τ := { D := D0, tbl := tblOf [], lp := lpsOf [(3, zyb), (7, zyf)], k0 := 0, mu := [], un := [] }
theorem z11h : ConOk E C 127 zlw :=
  zf (D := z108) ⟨d0Ok, eGood, za trivial, fun _ => rfl⟩ zlw (fun a b => a) none (fun _ _ => rfl) rfl (fun _ _ h => nomatch h) 1000000 (fn := Tryz.f127) Tryz.func127 rfl (by kernel_rfl) (by kernel_rfl) rfl (by intro N a b; kernel_rfl)
def zgo (N : Nat) (b : List (Int)) : Option ((List (Int)) × Int) :=
 (bif (decide (1048576 < ((b).length : Int))) then
 (some ([], 3))
 else
 ((zmp N b).bind fun r1 =>
 ((z7f N b).bind fun r2 =>
 (bif (lenB ((r2).length + ([(IntKind.u8.wrap r1), (IntKind.u8.wrap (shr .u32 r1 8)), (IntKind.u8.wrap (shr .u32 r1 16)), (IntKind.u8.wrap (shr .u32 r1 24))]).length) 1) then
 (some ((r2 ++ [(IntKind.u8.wrap r1), (IntKind.u8.wrap (shr .u32 r1 8)), (IntKind.u8.wrap (shr .u32 r1 16)), (IntKind.u8.wrap (shr .u32 r1 24))]), 0))
 else none))))
def zha : Con τ := { args := [.ty 31], L := [], ret := .tup [.ty 31, .ty 35], L' := [], R := (List (Int)) × Int, dflt := (default, default), F := fun N a b => zgo N a.1, of := fun r => ((r.1, r.2, ()), ()) }
noncomputable def zwa : Dat τ := { D := D0, tbl := tblOf [(127, zlw), (96, z9n)], lp := lpsOf [], k0 := 0, mu := [], un := [] }
theorem zyg : ConOk E C 71 zha :=
  zf (D := zwa) ⟨d0Ok, eGood, za ⟨z11h, ⟨zkn, trivial⟩⟩, fun _ => rfl⟩ zha (fun a b => (a.1, a.2.1)) none (fun _ _ => rfl) rfl (fun _ _ h => nomatch h) 1000000 (fn := Tryz.f71) Tryz.func71 rfl (by kernel_rfl) (by kernel_rfl) rfl (by intro N a b; kernel_rfl)
def zd6 (N : Nat) (m : GMsg) : Option ((List (Int)) × Int) :=
 ((zb0 N m).bind fun r1 =>
 (bif (!r1) then
 (some ([], 40))
 else
 ((zd5 N m).bind fun r2 =>
 (bif (decide (1048576 < ((r2).length : Int))) then
 (some ([], 3))
 else
 ((zgo N r2).bind fun r3 =>
 (some (r3.1, r3.2)))))))
def zdp : Con τ := { args := [.ty 71], L := [], ret := .tup [.ty 31, .ty 35], L' := [], R := (List (Int)) × Int, dflt := (default, default), F := fun N a b => zd6 N a.1, of := fun r => ((r.1, r.2, ()), ()) }
noncomputable def zt0 : Dat τ := { D := D0, tbl := tblOf [(35, zem), (70, zdo), (71, zha)], lp := lpsOf [], k0 := 0, mu := [], un := [] }
theorem zud : ConOk E C 29 zdp :=
  zf (D := zt0) ⟨d0Ok, eGood, za ⟨zw9, ⟨zuc, ⟨zyg, trivial⟩⟩⟩, fun _ => rfl⟩ zdp (fun a b => (a.1, a.2.1)) none (fun _ _ => rfl) rfl (fun _ _ h => nomatch h) 1000000 (fn := Tryz.f29) Tryz.func29 rfl (by kernel_rfl) (by kernel_rfl) rfl (by intro N a b; kernel_rfl)
def zlx (N : Nat) (b : List (Int)) : Option (z4) :=
 ((z41 N b).bind fun r1 =>
 (some (⟨true, r1⟩ : z4)))
def zcj : Con τ := { args := [.ty 31], L := [], ret := .ptr 0 [], L' := [.box (.ty 99)], R := z4, dflt := default, F := fun N a b => zlx N a.1, of := fun r => ((), (r, ())) }
noncomputable def zr0 : Dat τ := { D := D0, tbl := tblOf [(49, z4b)], lp := lpsOf [], k0 := 0, mu := [], un := [] }
theorem zt1 : ConOk E C 17 zcj :=
  zf (D := zr0) ⟨d0Ok, eGood, za ⟨za3, trivial⟩, fun _ => rfl⟩ zcj (fun a b => b.1) none (fun _ _ => rfl) rfl (fun _ _ h => nomatch h) 1000000 (fn := Tryz.f17) Tryz.func17 rfl (by kernel_rfl) (by kernel_rfl) rfl (by intro N a b; kernel_rfl)
def z66 (N : Nat) (b0 : z4) : Option (Bool × z4) :=
 (some ((!b0.made), b0))
def z31 : Con τ := { args := [.ptr 0 []], L := [.box (.ty 99)], ret := .ty 4, L' := [.box (.ty 99)], R := Bool × z4, dflt := (default, default), F := fun N a b => z66 N b.1, of := fun r => (r.1, (r.2, ())) }
noncomputable def zk1 : Dat τ := { D := D0, tbl := tblOf [], lp := lpsOf [], k0 := 1, mu := [], un := [] }
theorem z80 : ConOk E C 63 z31 :=
  zf (D := zk1) ⟨d0Ok, eGood, za trivial, fun _ => rfl⟩ z31 (fun a b => (a, b.1)) none (fun _ _ => rfl) rfl (fun _ _ h => nomatch h) 1000000 (fn := Tryz.f63) Tryz.func63 rfl (by kernel_rfl) (by kernel_rfl) rfl (by intro N a b; kernel_rfl)
structure zb3 where
  u : Int
  t8 : Int
def zhb : List Sl := [.k, .k, .j, .j, .j, .sh (.ty 12), .j, .j, .sh (.ty 2), .j, .j, .j, .j, .j, .j, .j, .j, .j, .j, .j, .j, .j, .j, .j, .j, .j, .j, .j, .j, .j, .j, .j, .j, .j, .j, .j, .j, .j, .j, .j, .j, .j, .j, .j, .j, .j, .j, .j, .j, .j, .j, .j, .j, .j, .j, .j, .j, .j]
def zhc : List ESh := []
def zwb (a : Sl.Ts τ zhb) (b : ESh.Ts τ zhc) : zb3 := ⟨a.2.2.2.2.2.1, a.2.2.2.2.2.2.2.2.1⟩
def zwc (s : zb3) : Sl.Ts τ zhb := ((), (), (), (), (), s.u, (), (), s.t8, (), (), (), (), (), (), (), (), (), (), (), (), (), (), (), (), (), (), (), (), (), (), (), (), (), (), (), (), (), (), (), (), (), (), (), (), (), (), (), (), (), (), (), (), (), (), (), (), (), ())
def zwd (s : zb3) : ESh.Ts τ zhc := ()
def zwe : Lp τ := { ts := zhb, hs := zhc, S := zb3, to := zwb, ot := zwc, oh := zwd, hk := [], tk := [], ot_to := fun _ _ => rfl, oh_to := fun _ _ => rfl }
def znw (N : Nat) (b : List (Int)) : Option (Int × Int × Int) :=
 (iter N (fun (s1 : zb3) next2 =>
 (bif (decide (s1.t8 < 10)) then
 (bif (decide (((b).length : Int) ≤ s1.t8)) then
 (some (0, 0, 10))
 else
 (bif (ibB s1.t8 ((b).length : Int)) then
 (bif (((s1.t8 == 9) && (decide (1 < (lget b s1.t8 default)))) || (((lget b s1.t8 default) == 0) && (decide (0 < s1.t8)))) then
 (some (0, 0, 11))
 else
 (bif (decide (0 ≤ (IntKind.i64.wrap (7 * s1.t8)))) then
 (bif (decide ((lget b s1.t8 default) < 128)) then
 (bif ((bits .and .u64 (bits .or .u64 s1.u (shl .u64 (IntKind.u64.wrap (bits .and .u8 (lget b s1.t8 default) 127)) (IntKind.i64.wrap (7 * s1.t8)))) 1) == 1) then
 (some ((IntKind.i64.wrap (bits .xor .u64 IntKind.u64.max (shr .u64 (bits .or .u64 s1.u (shl .u64 (IntKind.u64.wrap (bits .and .u8 (lget b s1.t8 default) 127)) (IntKind.i64.wrap (7 * s1.t8)))) 1))), (IntKind.i64.wrap (s1.t8 + 1)), 0))
 else
 (some ((IntKind.i64.wrap (shr .u64 (bits .or .u64 s1.u (shl .u64 (IntKind.u64.wrap (bits .and .u8 (lget b s1.t8 default) 127)) (IntKind.i64.wrap (7 * s1.t8)))) 1)), (IntKind.i64.wrap (s1.t8 + 1)), 0)))
 else
 (next2 ⟨(bits .or .u64 s1.u (shl .u64 (IntKind.u64.wrap (bits .and .u8 (lget b s1.t8 default) 127)) (IntKind.i64.wrap (7 * s1.t8)))), (IntKind.i64.wrap (s1.t8 + 1))⟩))
 else none))
 else none))
 else
 (some (0, 0, 11)))) ⟨0, 0⟩)
def zdz : Con τ := { args := [.ty 31], L := [], ret := .tup [.ty 2, .ty 3, .ty 35], L' := [], R := Int × Int × Int, dflt := (default, default, default), F := fun N a b => znw N a.1, of := fun r => ((r.1, r.2.1, r.2.2, ()), ()) }
noncomputable def zyh : Dat τ := { D := D0, tbl := tblOf [], lp := lpsOf [(3, zwe)], k0 := 0, mu := [], un := [] }
theorem zsg : ConOk E C 130 zdz :=
  zf (D := zyh) ⟨d0Ok, eGood, za trivial, fun _ => rfl⟩ zdz (fun a b => (a.1, a.2.1, a.2.2.1)) none (fun _ _ => rfl) rfl (fun _ _ h => nomatch h) 1000000 (fn := Tryz.f130) Tryz.func130 rfl (by kernel_rfl) (by kernel_rfl) rfl (by intro N a b; kernel_rfl)
def zdx (N : Nat) (b0 : z4) : Option (Int × Int × z4) :=
 ((z66 N b0).bind fun r1 =>
 (bif r1.1 then
 (some (0, 2, r1.2))
 else
 ((znw N r1.2.b).bind fun r2 =>
 (bif (cutB r2.2.1 ((r1.2.b).length : Int) ((r1.2.b).length : Int)) then
 (some (r2.1, r2.2.2, (⟨r1.2.made, (cut r1.2.b r2.2.1 ((r1.2.b).length : Int))⟩ : z4)))
 else none))))
def z81 : Con τ := { args := [.ptr 0 []], L := [.box (.ty 99)], ret := .tup [.ty 2, .ty 35], L' := [.box (.ty 99)], R := Int × Int × z4, dflt := (default, default, default), F := fun N a b => zdx N b.1, of := fun r => ((r.1, r.2.1, ()), (r.2.2, ())) }
noncomputable def zl8 : Dat τ := { D := D0, tbl := tblOf [(63, z31), (130, zdz)], lp := lpsOf [], k0 := 1, mu := [], un := [] }
theorem zly : ConOk E C 156 z81 :=
  zf (D := zl8) ⟨d0Ok, eGood, za ⟨z80, ⟨zsg, trivial⟩⟩, fun _ => rfl⟩ z81 (fun a b => (a.1, a.2.1, b.1)) none (fun _ _ => rfl) rfl (fun _ _ h => nomatch h) 1000000 (fn := Tryz.f156) Tryz.func156 rfl (by kernel_rfl) (by kernel_rfl) rfl (by intro N a b; kernel_rfl)
def z32 (N : Nat) (e : Int) (b0 : Int) (b1 : z4) : Option (Int × z4) :=
 (bif (b0 == 0) then
 (some (e, b1))
 else
 (some (b0, b1)))
def z23 : Con τ := { args := [.ptr 0 [], .ty 35], L := [.box (.agg [.ptr 1 [], .ty 35]), .box (.ty 99)], ret := .tup [], L' := [.box (.agg [.ptr 1 [], .ty 35]), .box (.ty 99)], R := Int × z4, dflt := (default, default), F := fun N a b => z32 N a.2.1 b.1.2.1 b.2.1, of := fun r => ((), (((), r.1, ()), r.2, ())) }
noncomputable def zhd : Dat τ := { D := D0, tbl := tblOf [], lp := lpsOf [], k0 := 2, mu := [], un := [] }
theorem z3s : ConOk E C 73 z23 :=
  zf (D := zhd) ⟨d0Ok, eGood, za trivial, fun _ => rfl⟩ z23 (fun a b => (b.1.2.1, b.2.1)) none (fun _ _ => rfl) rfl (fun _ _ h => nomatch h) 1000000 (fn := Tryz.f73) Tryz.func73 rfl (by kernel_rfl) (by kernel_rfl) rfl (by intro N a b; kernel_rfl)
def zr (N : Nat) (b0 : Int) (b1 : z4) : Option (Int × Int × z4) :=
 (bif (!(b0 == 0)) then
 (some (0, b0, b1))
 else
 ((zdx N b1).bind fun r1 =>
 ((z32 N r1.2.1 b0 r1.2.2).bind fun r2 =>
 (some (r1.1, r2.1, r2.2)))))
def zq : Con τ := { args := [.ptr 0 []], L := [.box (.agg [.ptr 1 [], .ty 35]), .box (.ty 99)], ret := .ty 2, L' := [.box (.agg [.ptr 1 [], .ty 35]), .box (.ty 99)], R := Int × Int × z4, dflt := (default, default, default), F := fun N a b => zr N b.1.2.1 b.2.1, of := fun r => (r.1, (((), r.2.1, ()), r.2.2, ())) }
noncomputable def zii : Dat τ := { D := D0, tbl := tblOf [(156, z81), (73, z23)], lp := lpsOf [], k0 := 2, mu := [], un := [] }
theorem zx : ConOk E C 139 zq :=
  zf (D := zii) ⟨d0Ok, eGood, za ⟨zly, ⟨z3s, trivial⟩⟩, fun _ => rfl⟩ zq (fun a b => (a, b.1.2.1, b.2.1)) none (fun _ _ => rfl) rfl (fun _ _ h => nomatch h) 1000000 (fn := Tryz.f139) Tryz.func139 rfl (by kernel_rfl) (by kernel_rfl) rfl (by intro N a b; kernel_rfl)
def zt (N : Nat) (b0 : Int) (b1 : z4) : Option (Int × Int × z4) :=
 ((zr N b0 b1).bind fun r1 =>
 (bif (!(r1.1 == (IntKind.i64.wrap (IntKind.i32.wrap r1.1)))) then
 (some ((-2), r1.2.1, r1.2.2))
 else
 (some (r1.1, r1.2.1, r1.2.2))))
def z10 : Con τ := { args := [.ptr 0 []], L := [.box (.agg [.ptr 1 [], .ty 35]), .box (.ty 99)], ret := .ty 3, L' := [.box (.agg [.ptr 1 [], .ty 35]), .box (.ty 99)], R := Int × Int × z4, dflt := (default, default, default), F := fun N a b => zt N b.1.2.1 b.2.1, of := fun r => (r.1, (((), r.2.1, ()), r.2.2, ())) }
noncomputable def zfu : Dat τ := { D := D0, tbl := tblOf [(139, zq)], lp := lpsOf [], k0 := 2, mu := [], un := [] }
theorem z1d : ConOk E C 104 z10 :=
  zf (D := zfu) ⟨d0Ok, eGood, za ⟨zx, trivial⟩, fun _ => rfl⟩ z10 (fun a b => (a, b.1.2.1, b.2.1)) none (fun _ _ => rfl) rfl (fun _ _ h => nomatch h) 1000000 (fn := Tryz.f104) Tryz.func104 rfl (by kernel_rfl) (by kernel_rfl) rfl (by intro N a b; kernel_rfl)
def z99 (N : Nat) (b0 : Int) (b1 : z6) (b2 : z4) : Option (Int × z6 × z4) :=
 ((zt N b0 b2).bind fun r1 =>
 (some (r1.2.1, (⟨r1.1, b1.Session, b1.Request, b1.Op, b1.Origin, b1.Seq, b1.Ops, b1.Epoch, b1.From, b1.Vector_, b1.Clock, b1.Part, b1.Site, b1.Sponsor, b1.Length⟩ : z6), r1.2.2)))
def z50 : Con τ := { args := [.ptr 0 [], .ls 1 [.ptr 1 [.fld 0 0]]], L := [.box (.agg [.ptr 2 [], .ty 35]), .box (.ty 64), .box (.ty 99)], ret := .tup [], L' := [.box (.agg [.ptr 2 [], .ty 35]), .box (.ty 64), .box (.ty 99)], R := Int × z6 × z4, dflt := (default, default, default), F := fun N a b => z99 N b.1.2.1 b.2.1 b.2.2.1, of := fun r => ((), (((), r.1, ()), r.2.1, r.2.2, ())) }
noncomputable def zen : Dat τ := { D := D0, tbl := tblOf [(104, z10)], lp := lpsOf [], k0 := 3, mu := [], un := [(1, 3)] }
theorem zfv : ConOk E C 99 z50 :=
  zf (D := zen) ⟨d0Ok, eGood, za ⟨z1d, trivial⟩, fun _ => rfl⟩ z50 (fun a b => (b.1.2.1, b.2.1, b.2.2.1)) none (fun _ _ => rfl) rfl (fun _ _ h => nomatch h) 1000000 (fn := Tryz.f99) Tryz.func99 rfl (by kernel_rfl) (by kernel_rfl) rfl (by intro N a b; kernel_rfl)
def zb4 (N : Nat) (b0 : Int) (b1 : z6) (b2 : z4) : Option (Int × z6 × z4) :=
 ((zr N b0 b2).bind fun r1 =>
 ((zr N r1.2.1 r1.2.2).bind fun r2 =>
 (some (r2.2.1, (⟨b1.Kind, r1.1, r2.1, b1.Op, b1.Origin, b1.Seq, b1.Ops, b1.Epoch, b1.From, b1.Vector_, b1.Clock, b1.Part, b1.Site, b1.Sponsor, b1.Length⟩ : z6), r2.2.2))))
def z6f : Con τ := { args := [.ptr 0 [], .ls 1 [.ptr 1 [.fld 1 1], .ptr 1 [.fld 2 2]]], L := [.box (.agg [.ptr 2 [], .ty 35]), .box (.ty 64), .box (.ty 99)], ret := .tup [], L' := [.box (.agg [.ptr 2 [], .ty 35]), .box (.ty 64), .box (.ty 99)], R := Int × z6 × z4, dflt := (default, default, default), F := fun N a b => zb4 N b.1.2.1 b.2.1 b.2.2.1, of := fun r => ((), (((), r.1, ()), r.2.1, r.2.2, ())) }
noncomputable def zhe : Dat τ := { D := D0, tbl := tblOf [(139, zq)], lp := lpsOf [], k0 := 3, mu := [], un := [(1, 4)] }
theorem zij : ConOk E C 98 z6f :=
  zf (D := zhe) ⟨d0Ok, eGood, za ⟨zx, trivial⟩, fun _ => rfl⟩ z6f (fun a b => (b.1.2.1, b.2.1, b.2.2.1)) none (fun _ _ => rfl) rfl (fun _ _ h => nomatch h) 1000000 (fn := Tryz.f98) Tryz.func98 rfl (by kernel_rfl) (by kernel_rfl) rfl (by intro N a b; kernel_rfl)
def zb5 (N : Nat) (b0 : Int) (b1 : GOp) (b2 : z4) : Option (Int × GOp × z4) :=
 ((zr N b0 b2).bind fun r1 =>
 (some (r1.2.1, (⟨(⟨r1.1, b1.Stamp.Site⟩ : zi), b1.Kind, b1.Node, b1.Parent, b1.Name, b1.Key, b1.Value⟩ : GOp), r1.2.2)))
def z6g : Con τ := { args := [.ptr 0 [], .ls 1 [.ptr 1 [.fld 0 0, .fld 0 0]]], L := [.box (.agg [.ptr 2 [], .ty 35]), .box (.ty 25), .box (.ty 99)], ret := .tup [], L' := [.box (.agg [.ptr 2 [], .ty 35]), .box (.ty 25), .box (.ty 99)], R := Int × GOp × z4, dflt := (default, default, default), F := fun N a b => zb5 N b.1.2.1 b.2.1 b.2.2.1, of := fun r => ((), (((), r.1, ()), r.2.1, r.2.2, ())) }
noncomputable def zhf : Dat τ := { D := D0, tbl := tblOf [(139, zq)], lp := lpsOf [], k0 := 3, mu := [], un := [(1, 3)] }
theorem zik : ConOk E C 98 z6g :=
  zf (D := zhf) ⟨d0Ok, eGood, za ⟨zx, trivial⟩, fun _ => rfl⟩ z6g (fun a b => (b.1.2.1, b.2.1, b.2.2.1)) none (fun _ _ => rfl) rfl (fun _ _ h => nomatch h) 1000000 (fn := Tryz.f98) Tryz.func98 rfl (by kernel_rfl) (by kernel_rfl) rfl (by intro N a b; kernel_rfl)
def z9a (N : Nat) (b0 : Int) (b1 : GOp) (b2 : z4) : Option (Int × GOp × z4) :=
 ((zt N b0 b2).bind fun r1 =>
 ((zt N r1.2.1 r1.2.2).bind fun r2 =>
 (some (r2.2.1, (⟨(⟨b1.Stamp.Time, r1.1⟩ : zi), r2.1, b1.Node, b1.Parent, b1.Name, b1.Key, b1.Value⟩ : GOp), r2.2.2))))
def z51 : Con τ := { args := [.ptr 0 [], .ls 1 [.ptr 1 [.fld 0 0, .fld 1 1], .ptr 1 [.fld 1 2]]], L := [.box (.agg [.ptr 2 [], .ty 35]), .box (.ty 25), .box (.ty 99)], ret := .tup [], L' := [.box (.agg [.ptr 2 [], .ty 35]), .box (.ty 25), .box (.ty 99)], R := Int × GOp × z4, dflt := (default, default, default), F := fun N a b => z9a N b.1.2.1 b.2.1 b.2.2.1, of := fun r => ((), (((), r.1, ()), r.2.1, r.2.2, ())) }
noncomputable def zeo : Dat τ := { D := D0, tbl := tblOf [(104, z10)], lp := lpsOf [], k0 := 3, mu := [], un := [(1, 4)] }
theorem zfw : ConOk E C 99 z51 :=
  zf (D := zeo) ⟨d0Ok, eGood, za ⟨z1d, trivial⟩, fun _ => rfl⟩ z51 (fun a b => (b.1.2.1, b.2.1, b.2.2.1)) none (fun _ _ => rfl) rfl (fun _ _ h => nomatch h) 1000000 (fn := Tryz.f99) Tryz.func99 rfl (by kernel_rfl) (by kernel_rfl) rfl (by intro N a b; kernel_rfl)
def zb6 (N : Nat) (b0 : Int) (b1 : GOp) (b2 : z4) : Option (Int × GOp × z4) :=
 ((zr N b0 b2).bind fun r1 =>
 ((zr N r1.2.1 r1.2.2).bind fun r2 =>
 (some (r2.2.1, (⟨b1.Stamp, b1.Kind, r1.1, r2.1, b1.Name, b1.Key, b1.Value⟩ : GOp), r2.2.2))))
def z6h : Con τ := { args := [.ptr 0 [], .ls 1 [.ptr 1 [.fld 2 3], .ptr 1 [.fld 3 4]]], L := [.box (.agg [.ptr 2 [], .ty 35]), .box (.ty 25), .box (.ty 99)], ret := .tup [], L' := [.box (.agg [.ptr 2 [], .ty 35]), .box (.ty 25), .box (.ty 99)], R := Int × GOp × z4, dflt := (default, default, default), F := fun N a b => zb6 N b.1.2.1 b.2.1 b.2.2.1, of := fun r => ((), (((), r.1, ()), r.2.1, r.2.2, ())) }
noncomputable def zhg : Dat τ := { D := D0, tbl := tblOf [(139, zq)], lp := lpsOf [], k0 := 3, mu := [], un := [(1, 4)] }
theorem zil : ConOk E C 98 z6h :=
  zf (D := zhg) ⟨d0Ok, eGood, za ⟨zx, trivial⟩, fun _ => rfl⟩ z6h (fun a b => (b.1.2.1, b.2.1, b.2.2.1)) none (fun _ _ => rfl) rfl (fun _ _ h => nomatch h) 1000000 (fn := Tryz.f98) Tryz.func98 rfl (by kernel_rfl) (by kernel_rfl) rfl (by intro N a b; kernel_rfl)
def z82 (N : Nat) (b0 : z4) : Option ((List (Int)) × Int × z4) :=
 ((z66 N b0).bind fun r1 =>
 (bif r1.1 then
 (some ([], 2, r1.2))
 else
 ((znw N r1.2.b).bind fun r2 =>
 (bif (!(r2.2.2 == 0)) then
 (some ([], r2.2.2, r1.2))
 else
 (bif (decide (r2.1 < 0)) then
 (some ([], 11, r1.2))
 else
 (bif (decide ((IntKind.i64.wrap (((r1.2.b).length : Int) - r2.2.1)) < r2.1)) then
 (some ([], 10, r1.2))
 else
 (bif (cutB r2.2.1 (IntKind.i64.wrap (r2.2.1 + r2.1)) ((r1.2.b).length : Int)) then
 ((z41 N (cut r1.2.b r2.2.1 (IntKind.i64.wrap (r2.2.1 + r2.1)))).bind fun r3 =>
 (bif (cutB (IntKind.i64.wrap (r2.2.1 + r2.1)) ((r1.2.b).length : Int) ((r1.2.b).length : Int)) then
 (some (r3, 0, (⟨r1.2.made, (cut r1.2.b (IntKind.i64.wrap (r2.2.1 + r2.1)) ((r1.2.b).length : Int))⟩ : z4)))
 else none))
 else none)))))))
def z3t : Con τ := { args := [.ptr 0 []], L := [.box (.ty 99)], ret := .tup [.ty 31, .ty 35], L' := [.box (.ty 99)], R := (List (Int)) × Int × z4, dflt := (default, default, default), F := fun N a b => z82 N b.1, of := fun r => ((r.1, r.2.1, ()), (r.2.2, ())) }
noncomputable def zim : Dat τ := { D := D0, tbl := tblOf [(63, z31), (130, zdz), (49, z4b)], lp := lpsOf [], k0 := 1, mu := [], un := [] }
theorem zb7 : ConOk E C 157 z3t :=
  zf (D := zim) ⟨d0Ok, eGood, za ⟨z80, ⟨zsg, ⟨za3, trivial⟩⟩⟩, fun _ => rfl⟩ z3t (fun a b => (a.1, a.2.1, b.1)) none (fun _ _ => rfl) rfl (fun _ _ h => nomatch h) 1000000 (fn := Tryz.f157) Tryz.func157 rfl (by kernel_rfl) (by kernel_rfl) rfl (by intro N a b; kernel_rfl)
def zdb (N : Nat) (b0 : z4) : Option ((List UInt8) × Int × z4) :=
 ((z82 N b0).bind fun r1 =>
 (some ((strI r1.1), r1.2.1, r1.2.2)))
def z7j : Con τ := { args := [.ptr 0 []], L := [.box (.ty 99)], ret := .tup [.ty 9, .ty 35], L' := [.box (.ty 99)], R := (List UInt8) × Int × z4, dflt := (default, default, default), F := fun N a b => zdb N b.1, of := fun r => ((r.1, r.2.1, ()), (r.2.2, ())) }
noncomputable def zk2 : Dat τ := { D := D0, tbl := tblOf [(157, z3t)], lp := lpsOf [], k0 := 1, mu := [], un := [] }
theorem zl9 : ConOk E C 140 z7j :=
  zf (D := zk2) ⟨d0Ok, eGood, za ⟨zb7, trivial⟩, fun _ => rfl⟩ z7j (fun a b => (a.1, a.2.1, b.1)) none (fun _ _ => rfl) rfl (fun _ _ h => nomatch h) 1000000 (fn := Tryz.f140) Tryz.func140 rfl (by kernel_rfl) (by kernel_rfl) rfl (by intro N a b; kernel_rfl)
def z4g (N : Nat) (b0 : Int) (b1 : z4) : Option ((List UInt8) × Int × z4) :=
 (bif (!(b0 == 0)) then
 (some ([], b0, b1))
 else
 ((zdb N b1).bind fun r1 =>
 ((z32 N r1.2.1 b0 r1.2.2).bind fun r2 =>
 (some (r1.1, r2.1, r2.2)))))
def z6i : Con τ := { args := [.ptr 0 []], L := [.box (.agg [.ptr 1 [], .ty 35]), .box (.ty 99)], ret := .ty 9, L' := [.box (.agg [.ptr 1 [], .ty 35]), .box (.ty 99)], R := (List UInt8) × Int × z4, dflt := (default, default, default), F := fun N a b => z4g N b.1.2.1 b.2.1, of := fun r => (r.1, (((), r.2.1, ()), r.2.2, ())) }
noncomputable def zhh : Dat τ := { D := D0, tbl := tblOf [(140, z7j), (73, z23)], lp := lpsOf [], k0 := 2, mu := [], un := [] }
theorem zin : ConOk E C 100 z6i :=
  zf (D := zhh) ⟨d0Ok, eGood, za ⟨zl9, ⟨z3s, trivial⟩⟩, fun _ => rfl⟩ z6i (fun a b => (a, b.1.2.1, b.2.1)) none (fun _ _ => rfl) rfl (fun _ _ h => nomatch h) 1000000 (fn := Tryz.f100) Tryz.func100 rfl (by kernel_rfl) (by kernel_rfl) rfl (by intro N a b; kernel_rfl)
def z8e (N : Nat) (b0 : Int) (b1 : z4) : Option (GOp × Int × z4) :=
 ((zb5 N b0 (⟨(⟨0, 0⟩ : zi), 0, 0, 0, [], [], []⟩ : GOp) b1).bind fun r1 =>
 ((z9a N r1.1 r1.2.1 r1.2.2).bind fun r2 =>
 ((zb6 N r2.1 r2.2.1 r2.2.2).bind fun r3 =>
 ((z4g N r3.1 r3.2.2).bind fun r4 =>
 ((z4g N r4.2.1 r4.2.2).bind fun r5 =>
 ((z4g N r5.2.1 r5.2.2).bind fun r6 =>
 (some ((⟨r3.2.1.Stamp, r3.2.1.Kind, r3.2.1.Node, r3.2.1.Parent, r4.1, r5.1, r6.1⟩ : GOp), r6.2.1, r6.2.2))))))))
def z4h : Con τ := { args := [.ptr 0 []], L := [.box (.agg [.ptr 1 [], .ty 35]), .box (.ty 99)], ret := .ty 25, L' := [.box (.agg [.ptr 1 [], .ty 35]), .box (.ty 99)], R := GOp × Int × z4, dflt := (default, default, default), F := fun N a b => z8e N b.1.2.1 b.2.1, of := fun r => (r.1, (((), r.2.1, ()), r.2.2, ())) }
noncomputable def zk3 : Dat τ := { D := D0, tbl := tblOf [(98, z6g), (99, z51), (98, z6h), (100, z6i)], lp := lpsOf [], k0 := 2, mu := [], un := [] }
theorem zc5 : ConOk E C 52 z4h :=
  zf (D := zk3) ⟨d0Ok, eGood, za ⟨zik, ⟨zfw, ⟨zil, ⟨zin, trivial⟩⟩⟩⟩, fun _ => rfl⟩ z4h (fun a b => (a, b.1.2.1, b.2.1)) none (fun _ _ => rfl) rfl (fun _ _ h => nomatch h) 1000000 (fn := Tryz.f52) Tryz.func52 rfl (by kernel_rfl) (by kernel_rfl) rfl (by intro N a b; kernel_rfl)
def z9b (N : Nat) (b0 : Int) (b1 : z6) (b2 : z4) : Option (Int × z6 × z4) :=
 ((zt N b0 b2).bind fun r1 =>
 (some (r1.2.1, (⟨b1.Kind, b1.Session, b1.Request, b1.Op, r1.1, b1.Seq, b1.Ops, b1.Epoch, b1.From, b1.Vector_, b1.Clock, b1.Part, b1.Site, b1.Sponsor, b1.Length⟩ : z6), r1.2.2)))
def z52 : Con τ := { args := [.ptr 0 [], .ls 1 [.ptr 1 [.fld 4 11]]], L := [.box (.agg [.ptr 2 [], .ty 35]), .box (.ty 64), .box (.ty 99)], ret := .tup [], L' := [.box (.agg [.ptr 2 [], .ty 35]), .box (.ty 64), .box (.ty 99)], R := Int × z6 × z4, dflt := (default, default, default), F := fun N a b => z9b N b.1.2.1 b.2.1 b.2.2.1, of := fun r => ((), (((), r.1, ()), r.2.1, r.2.2, ())) }
noncomputable def zep : Dat τ := { D := D0, tbl := tblOf [(104, z10)], lp := lpsOf [], k0 := 3, mu := [], un := [(1, 3)] }
theorem zfx : ConOk E C 99 z52 :=
  zf (D := zep) ⟨d0Ok, eGood, za ⟨z1d, trivial⟩, fun _ => rfl⟩ z52 (fun a b => (b.1.2.1, b.2.1, b.2.2.1)) none (fun _ _ => rfl) rfl (fun _ _ h => nomatch h) 1000000 (fn := Tryz.f99) Tryz.func99 rfl (by kernel_rfl) (by kernel_rfl) rfl (by intro N a b; kernel_rfl)
def z7k (N : Nat) (b0 : Int) (b1 : z6) (b2 : z4) : Option (Int × z6 × z4) :=
 ((zr N b0 b2).bind fun r1 =>
 (some (r1.2.1, (⟨b1.Kind, b1.Session, b1.Request, b1.Op, b1.Origin, r1.1, b1.Ops, b1.Epoch, b1.From, b1.Vector_, b1.Clock, b1.Part, b1.Site, b1.Sponsor, b1.Length⟩ : z6), r1.2.2)))
def z6j : Con τ := { args := [.ptr 0 [], .ls 1 [.ptr 1 [.fld 5 12]]], L := [.box (.agg [.ptr 2 [], .ty 35]), .box (.ty 64), .box (.ty 99)], ret := .tup [], L' := [.box (.agg [.ptr 2 [], .ty 35]), .box (.ty 64), .box (.ty 99)], R := Int × z6 × z4, dflt := (default, default, default), F := fun N a b => z7k N b.1.2.1 b.2.1 b.2.2.1, of := fun r => ((), (((), r.1, ()), r.2.1, r.2.2, ())) }
noncomputable def zhi : Dat τ := { D := D0, tbl := tblOf [(139, zq)], lp := lpsOf [], k0 := 3, mu := [], un := [(1, 3)] }
theorem zio : ConOk E C 98 z6j :=
  zf (D := zhi) ⟨d0Ok, eGood, za ⟨zx, trivial⟩, fun _ => rfl⟩ z6j (fun a b => (b.1.2.1, b.2.1, b.2.2.1)) none (fun _ _ => rfl) rfl (fun _ _ h => nomatch h) 1000000 (fn := Tryz.f98) Tryz.func98 rfl (by kernel_rfl) (by kernel_rfl) rfl (by intro N a b; kernel_rfl)
def zb8 (N : Nat) (b0 : Int) (b1 : z4) : Option (Int × Int × z4) :=
 ((zr N b0 b1).bind fun r1 =>
 (bif ((r1.2.1 == 0) && ((decide (r1.1 < 0)) || (decide (4096 < r1.1)))) then
 (some (0, 40, r1.2.2))
 else
 (bif (!(r1.2.1 == 0)) then
 (some (0, r1.2.1, r1.2.2))
 else
 (some (r1.1, r1.2.1, r1.2.2)))))
def z6k : Con τ := { args := [.ptr 0 []], L := [.box (.agg [.ptr 1 [], .ty 35]), .box (.ty 99)], ret := .ty 3, L' := [.box (.agg [.ptr 1 [], .ty 35]), .box (.ty 99)], R := Int × Int × z4, dflt := (default, default, default), F := fun N a b => zb8 N b.1.2.1 b.2.1, of := fun r => (r.1, (((), r.2.1, ()), r.2.2, ())) }
noncomputable def zhj : Dat τ := { D := D0, tbl := tblOf [(139, zq)], lp := lpsOf [], k0 := 2, mu := [], un := [] }
theorem ziq : ConOk E C 152 z6k :=
  zf (D := zhj) ⟨d0Ok, eGood, za ⟨zx, trivial⟩, fun _ => rfl⟩ z6k (fun a b => (a, b.1.2.1, b.2.1)) none (fun _ _ => rfl) rfl (fun _ _ h => nomatch h) 1000000 (fn := Tryz.f152) Tryz.func152 rfl (by kernel_rfl) (by kernel_rfl) rfl (by intro N a b; kernel_rfl)
structure z2s where
  l : List (GOp)
  t6 : Int
  b0 : Int
  b1 : z4
def z6l : List Sl := [.k, .k, .j, .sh (.own 25 2), .k, .k, .sh (.ty 2), .j, .j, .j, .j, .j, .j, .j, .j, .j, .j, .j, .j, .k]
def z6m : List ESh := [.box (.agg [.ptr 1 [], .ty 2]), .box (.ty 86), .tail]
def zhk (a : Sl.Ts τ z6l) (b : ESh.Ts τ z6m) : z2s := ⟨a.2.2.2.1, a.2.2.2.2.2.2.1, b.1.2.1, b.2.1⟩
def zhl (s : z2s) : Sl.Ts τ z6l := ((), (), (), s.l, (), (), s.t6, (), (), (), (), (), (), (), (), (), (), (), (), (), ())
def zhm (s : z2s) : ESh.Ts τ z6m := (((), s.b0, ()), s.b1, (), ())
def zhn : Lp τ := { ts := z6l, hs := z6m, S := z2s, to := zhk, ot := zhl, oh := zhm, hk := [2, 2], tk := [2, 0, 0, 0, 2], ot_to := fun _ _ => rfl, oh_to := fun _ _ => rfl }
def zc6 (N : Nat) (b0 : Int) (b1 : z4) : Option ((List (GOp)) × Int × z4) :=
 ((zb8 N b0 b1).bind fun r1 =>
 (iter N (fun (s2 : z2s) next3 =>
 (bif (decide (s2.t6 < r1.1)) then
 (bif (!(s2.b0 == 0)) then
 (some ([], s2.b0, s2.b1))
 else
 ((z8e N s2.b0 s2.b1).bind fun r4 =>
 (bif (lenB ((s2.l).length + ([r4.1]).length) 88) then
 (next3 ⟨(s2.l ++ [r4.1]), (IntKind.i64.wrap (s2.t6 + 1)), r4.2.1, r4.2.2⟩)
 else none)))
 else
 (some (s2.l, s2.b0, s2.b1)))) ⟨[], 0, r1.2.1, r1.2.2⟩))
def z72 : Con τ := { args := [.ptr 0 []], L := [.box (.agg [.ptr 1 [], .ty 35]), .box (.ty 99)], ret := .ty 60, L' := [.box (.agg [.ptr 1 [], .ty 35]), .box (.ty 99)], R := (List (GOp)) × Int × z4, dflt := (default, default, default), F := fun N a b => zc6 N b.1.2.1 b.2.1, of := fun r => (r.1, (((), r.2.1, ()), r.2.2, ())) }
noncomputable def zir : Dat τ := { D := D0, tbl := tblOf [(152, z6k), (52, z4h)], lp := lpsOf [(3, zhn)], k0 := 2, mu := [], un := [] }
theorem zk4 : ConOk E C 128 z72 :=
  zf (D := zir) ⟨d0Ok, eGood, za ⟨ziq, ⟨zc5, trivial⟩⟩, fun _ => rfl⟩ z72 (fun a b => (a, b.1.2.1, b.2.1)) none (fun _ _ => rfl) rfl (fun _ _ h => nomatch h) 1000000 (fn := Tryz.f128) Tryz.func128 rfl (by kernel_rfl) (by kernel_rfl) rfl (by intro N a b; kernel_rfl)
def zb9 (N : Nat) (b0 : Int) (b1 : z7) (b2 : z4) : Option (Int × z7 × z4) :=
 ((zr N b0 b2).bind fun r1 =>
 (some (r1.2.1, (⟨r1.1, b1.States, b1.Seals, b1.Sponsor⟩ : z7), r1.2.2)))
def z6n : Con τ := { args := [.ptr 0 [], .ls 1 [.ptr 1 [.fld 0 0]]], L := [.box (.agg [.ptr 2 [], .ty 35]), .box (.ty 30), .box (.ty 99)], ret := .tup [], L' := [.box (.agg [.ptr 2 [], .ty 35]), .box (.ty 30), .box (.ty 99)], R := Int × z7 × z4, dflt := (default, default, default), F := fun N a b => zb9 N b.1.2.1 b.2.1 b.2.2.1, of := fun r => ((), (((), r.1, ()), r.2.1, r.2.2, ())) }
noncomputable def zho : Dat τ := { D := D0, tbl := tblOf [(139, zq)], lp := lpsOf [], k0 := 3, mu := [], un := [(1, 3)] }
theorem zis : ConOk E C 98 z6n :=
  zf (D := zho) ⟨d0Ok, eGood, za ⟨zx, trivial⟩, fun _ => rfl⟩ z6n (fun a b => (b.1.2.1, b.2.1, b.2.2.1)) none (fun _ _ => rfl) rfl (fun _ _ h => nomatch h) 1000000 (fn := Tryz.f98) Tryz.func98 rfl (by kernel_rfl) (by kernel_rfl) rfl (by intro N a b; kernel_rfl)
structure z2b where
  t5 : Int
  b0 : Int
  b1 : z7
  b2 : z4
def z4i : List Sl := [.k, .k, .k, .k, .j, .sh (.ty 2), .j, .j, .j, .j, .j, .j, .j, .j, .j]
def z4j : List ESh := [.box (.agg [.ptr 2 [], .ty 2]), .box (.ty 29), .box (.ty 86)]
def ze0 (a : Sl.Ts τ z4i) (b : ESh.Ts τ z4j) : z2b := ⟨a.2.2.2.2.2.1, b.1.2.1, b.2.1, b.2.2.1⟩
def ze1 (s : z2b) : Sl.Ts τ z4i := ((), (), (), (), (), s.t5, (), (), (), (), (), (), (), (), (), ())
def ze2 (s : z2b) : ESh.Ts τ z4j := (((), s.b0, ()), s.b1, s.b2, ())
def ze3 : Lp τ := { ts := z4i, hs := z4j, S := z2b, to := ze0, ot := ze1, oh := ze2, hk := [2, 2, 2], tk := [2, 3], ot_to := fun _ _ => rfl, oh_to := fun _ _ => rfl }
def z9c (N : Nat) (b0 : Int) (b1 : z7) (b2 : z4) : Option (Int × z7 × z4) :=
 (iter N (fun (s1 : z2b) next2 =>
 (bif (decide (s1.t5 < 8)) then
 ((zr N s1.b0 s1.b2).bind fun r3 =>
 (bif (ibB s1.t5 8) then
 (next2 ⟨(IntKind.i64.wrap (s1.t5 + 1)), r3.2.1, (⟨s1.b1.Number, s1.b1.States, (vset s1.b1.Seals ((s1.t5).toNat) r3.1), s1.b1.Sponsor⟩ : z7), r3.2.2⟩)
 else none))
 else
 (some (s1.b0, s1.b1, s1.b2)))) ⟨0, b0, b1, b2⟩)
def z53 : Con τ := { args := [.ptr 0 [], .ptr 1 [.fld 2 9]], L := [.box (.agg [.ptr 2 [], .ty 35]), .box (.ty 30), .box (.ty 99)], ret := .tup [], L' := [.box (.agg [.ptr 2 [], .ty 35]), .box (.ty 30), .box (.ty 99)], R := Int × z7 × z4, dflt := (default, default, default), F := fun N a b => z9c N b.1.2.1 b.2.1 b.2.2.1, of := fun r => ((), (((), r.1, ()), r.2.1, r.2.2, ())) }
noncomputable def zeq : Dat τ := { D := D0, tbl := tblOf [(139, zq)], lp := lpsOf [(1, ze3)], k0 := 3, mu := [], un := [] }
theorem zfy : ConOk E C 105 z53 :=
  zf (D := zeq) ⟨d0Ok, eGood, za ⟨zx, trivial⟩, fun _ => rfl⟩ z53 (fun a b => (b.1.2.1, b.2.1, b.2.2.1)) none (fun _ _ => rfl) rfl (fun _ _ h => nomatch h) 1000000 (fn := Tryz.f105) Tryz.func105 rfl (by kernel_rfl) (by kernel_rfl) rfl (by intro N a b; kernel_rfl)
structure z2f where
  t10 : Int
  b0 : Int
  b1 : z4
  b3 : z7
def z54 : List Sl := [.k, .k, .k, .k, .j, .k, .k, .k, .k, .k, .sh (.ty 2), .j, .j, .j, .j, .j, .j, .j, .j, .k, .k, .k, .k, .k, .k, .k, .k, .k, .k, .k, .k, .k]
def z55 : List ESh := [.box (.agg [.ptr 1 [], .ty 2]), .box (.ty 86), .keep, .box (.ty 29)]
def zer (a : Sl.Ts τ z54) (b : ESh.Ts τ z55) : z2f := ⟨a.2.2.2.2.2.2.2.2.2.2.1, b.1.2.1, b.2.1, b.2.2.2.1⟩
def zes (s : z2f) : Sl.Ts τ z54 := ((), (), (), (), (), (), (), (), (), (), s.t10, (), (), (), (), (), (), (), (), (), (), (), (), (), (), (), (), (), (), (), (), (), ())
def zet (s : z2f) : ESh.Ts τ z55 := (((), s.b0, ()), s.b1, (), s.b3, ())
def zeu : Lp τ := { ts := z54, hs := z55, S := z2f, to := zer, ot := zes, oh := zet, hk := [2, 2, 2, 2], tk := [2, 0, 4, 5, 0, 0, 2, 5], ot_to := fun _ _ => rfl, oh_to := fun _ _ => rfl }
structure z2c where
  t22 : Int
  b0 : Int
  b1 : z4
  b3 : z7
def z4k : List Sl := [.k, .k, .k, .k, .k, .j, .k, .k, .k, .k, .k, .k, .k, .k, .k, .k, .k, .k, .k, .k, .k, .k, .sh (.ty 2), .j, .j, .j, .j, .j, .j, .j, .j, .k]
def z4l : List ESh := [.box (.agg [.ptr 1 [], .ty 2]), .box (.ty 86), .keep, .box (.ty 29)]
def ze4 (a : Sl.Ts τ z4k) (b : ESh.Ts τ z4l) : z2c := ⟨a.2.2.2.2.2.2.2.2.2.2.2.2.2.2.2.2.2.2.2.2.2.2.1, b.1.2.1, b.2.1, b.2.2.2.1⟩
def ze5 (s : z2c) : Sl.Ts τ z4k := ((), (), (), (), (), (), (), (), (), (), (), (), (), (), (), (), (), (), (), (), (), (), s.t22, (), (), (), (), (), (), (), (), (), ())
def ze6 (s : z2c) : ESh.Ts τ z4l := (((), s.b0, ()), s.b1, (), s.b3, ())
def ze7 : Lp τ := { ts := z4k, hs := z4l, S := z2c, to := ze4, ot := ze5, oh := ze6, hk := [2, 2, 2, 2], tk := [2, 0, 4, 5, 0, 0, 2, 5, 0, 0, 0, 0, 0, 0, 0, 0, 0, 0, 0, 2, 5], ot_to := fun _ _ => rfl, oh_to := fun _ _ => rfl }
def zaf (N : Nat) (b0 : Int) (b1 : z4) : Option (z7 × Int × z4) :=
 ((zb9 N b0 (⟨0, (Vector.replicate 8 (default : Int)), (Vector.replicate 8 (default : Int)), (Vector.replicate 8 (default : Int))⟩ : z7) b1).bind fun r1 =>
 (iter N (fun (s2 : z2f) next3 =>
 (bif (decide (s2.t10 < 8)) then
 ((zt N s2.b0 s2.b1).bind fun r4 =>
 (bif (ibB s2.t10 8) then
 (next3 ⟨(IntKind.i64.wrap (s2.t10 + 1)), r4.2.1, r4.2.2, (⟨s2.b3.Number, (vset s2.b3.States ((s2.t10).toNat) r4.1), s2.b3.Seals, s2.b3.Sponsor⟩ : z7)⟩)
 else none))
 else
 ((z9c N s2.b0 s2.b3 s2.b1).bind fun r5 =>
 (iter N (fun (s6 : z2c) next7 =>
 (bif (decide (s6.t22 < 8)) then
 ((zt N s6.b0 s6.b1).bind fun r8 =>
 (bif (ibB s6.t22 8) then
 (next7 ⟨(IntKind.i64.wrap (s6.t22 + 1)), r8.2.1, r8.2.2, (⟨s6.b3.Number, s6.b3.States, s6.b3.Seals, (vset s6.b3.Sponsor ((s6.t22).toNat) r8.1)⟩ : z7)⟩)
 else none))
 else
 (some (s6.b3, s6.b0, s6.b1)))) ⟨0, r5.1, r5.2.2, r5.2.1⟩)))) ⟨0, r1.1, r1.2.2, r1.2.1⟩))
def z5s : Con τ := { args := [.ptr 0 []], L := [.box (.agg [.ptr 1 [], .ty 35]), .box (.ty 99)], ret := .ty 30, L' := [.box (.agg [.ptr 1 [], .ty 35]), .box (.ty 99)], R := z7 × Int × z4, dflt := (default, default, default), F := fun N a b => zaf N b.1.2.1 b.2.1, of := fun r => (r.1, (((), r.2.1, ()), r.2.2, ())) }
noncomputable def zfz : Dat τ := { D := D0, tbl := tblOf [(98, z6n), (104, z10), (105, z53)], lp := lpsOf [(4, zeu), (10, ze7)], k0 := 2, mu := [], un := [] }
theorem zhp : ConOk E C 59 z5s :=
  zf (D := zfz) ⟨d0Ok, eGood, za ⟨zis, ⟨z1d, ⟨zfy, trivial⟩⟩⟩, fun _ => rfl⟩ z5s (fun a b => (a, b.1.2.1, b.2.1)) none (fun _ _ => rfl) rfl (fun _ _ h => nomatch h) 1000000 (fn := Tryz.f59) Tryz.func59 rfl (by kernel_rfl) (by kernel_rfl) rfl (by intro N a b; kernel_rfl)
def z9d (N : Nat) (b0 : Int) (b1 : z6) (b2 : z4) : Option (Int × z6 × z4) :=
 ((zt N b0 b2).bind fun r1 =>
 (some (r1.2.1, (⟨b1.Kind, b1.Session, b1.Request, b1.Op, b1.Origin, b1.Seq, b1.Ops, b1.Epoch, r1.1, b1.Vector_, b1.Clock, b1.Part, b1.Site, b1.Sponsor, b1.Length⟩ : z6), r1.2.2)))
def z56 : Con τ := { args := [.ptr 0 [], .ls 1 [.ptr 1 [.fld 8 39]]], L := [.box (.agg [.ptr 2 [], .ty 35]), .box (.ty 64), .box (.ty 99)], ret := .tup [], L' := [.box (.agg [.ptr 2 [], .ty 35]), .box (.ty 64), .box (.ty 99)], R := Int × z6 × z4, dflt := (default, default, default), F := fun N a b => z9d N b.1.2.1 b.2.1 b.2.2.1, of := fun r => ((), (((), r.1, ()), r.2.1, r.2.2, ())) }
noncomputable def zev : Dat τ := { D := D0, tbl := tblOf [(104, z10)], lp := lpsOf [], k0 := 3, mu := [], un := [(1, 3)] }
theorem zg0 : ConOk E C 99 z56 :=
  zf (D := zev) ⟨d0Ok, eGood, za ⟨z1d, trivial⟩, fun _ => rfl⟩ z56 (fun a b => (b.1.2.1, b.2.1, b.2.2.1)) none (fun _ _ => rfl) rfl (fun _ _ h => nomatch h) 1000000 (fn := Tryz.f99) Tryz.func99 rfl (by kernel_rfl) (by kernel_rfl) rfl (by intro N a b; kernel_rfl)
structure z2d where
  t5 : Int
  b0 : Int
  b1 : z6
  b2 : z4
def z4m : List Sl := [.k, .k, .k, .k, .j, .sh (.ty 2), .j, .j, .j, .j, .j, .j, .j, .j, .j]
def z4n : List ESh := [.box (.agg [.ptr 2 [], .ty 2]), .box (.ty 63), .box (.ty 86)]
def ze8 (a : Sl.Ts τ z4m) (b : ESh.Ts τ z4n) : z2d := ⟨a.2.2.2.2.2.1, b.1.2.1, b.2.1, b.2.2.1⟩
def ze9 (s : z2d) : Sl.Ts τ z4m := ((), (), (), (), (), s.t5, (), (), (), (), (), (), (), (), (), ())
def zea (s : z2d) : ESh.Ts τ z4n := (((), s.b0, ()), s.b1, s.b2, ())
def zeb : Lp τ := { ts := z4m, hs := z4n, S := z2d, to := ze8, ot := ze9, oh := zea, hk := [2, 2, 2], tk := [2, 3], ot_to := fun _ _ => rfl, oh_to := fun _ _ => rfl }
def z9e (N : Nat) (b0 : Int) (b1 : z6) (b2 : z4) : Option (Int × z6 × z4) :=
 (iter N (fun (s1 : z2d) next2 =>
 (bif (decide (s1.t5 < 8)) then
 ((zr N s1.b0 s1.b2).bind fun r3 =>
 (bif (ibB s1.t5 8) then
 (next2 ⟨(IntKind.i64.wrap (s1.t5 + 1)), r3.2.1, (⟨s1.b1.Kind, s1.b1.Session, s1.b1.Request, s1.b1.Op, s1.b1.Origin, s1.b1.Seq, s1.b1.Ops, s1.b1.Epoch, s1.b1.From, (vset s1.b1.Vector_ ((s1.t5).toNat) r3.1), s1.b1.Clock, s1.b1.Part, s1.b1.Site, s1.b1.Sponsor, s1.b1.Length⟩ : z6), r3.2.2⟩)
 else none))
 else
 (some (s1.b0, s1.b1, s1.b2)))) ⟨0, b0, b1, b2⟩)
def z57 : Con τ := { args := [.ptr 0 [], .ptr 1 [.fld 9 40]], L := [.box (.agg [.ptr 2 [], .ty 35]), .box (.ty 64), .box (.ty 99)], ret := .tup [], L' := [.box (.agg [.ptr 2 [], .ty 35]), .box (.ty 64), .box (.ty 99)], R := Int × z6 × z4, dflt := (default, default, default), F := fun N a b => z9e N b.1.2.1 b.2.1 b.2.2.1, of := fun r => ((), (((), r.1, ()), r.2.1, r.2.2, ())) }
noncomputable def zew : Dat τ := { D := D0, tbl := tblOf [(139, zq)], lp := lpsOf [(1, zeb)], k0 := 3, mu := [], un := [] }
theorem zg1 : ConOk E C 105 z57 :=
  zf (D := zew) ⟨d0Ok, eGood, za ⟨zx, trivial⟩, fun _ => rfl⟩ z57 (fun a b => (b.1.2.1, b.2.1, b.2.2.1)) none (fun _ _ => rfl) rfl (fun _ _ h => nomatch h) 1000000 (fn := Tryz.f105) Tryz.func105 rfl (by kernel_rfl) (by kernel_rfl) rfl (by intro N a b; kernel_rfl)
def zba (N : Nat) (b0 : Int) (b1 : z6) (b2 : z4) : Option (Int × z6 × z4) :=
 ((zr N b0 b2).bind fun r1 =>
 (some (r1.2.1, (⟨b1.Kind, b1.Session, b1.Request, b1.Op, b1.Origin, b1.Seq, b1.Ops, b1.Epoch, b1.From, b1.Vector_, r1.1, b1.Part, b1.Site, b1.Sponsor, b1.Length⟩ : z6), r1.2.2)))
def z6o : Con τ := { args := [.ptr 0 [], .ls 1 [.ptr 1 [.fld 10 48]]], L := [.box (.agg [.ptr 2 [], .ty 35]), .box (.ty 64), .box (.ty 99)], ret := .tup [], L' := [.box (.agg [.ptr 2 [], .ty 35]), .box (.ty 64), .box (.ty 99)], R := Int × z6 × z4, dflt := (default, default, default), F := fun N a b => zba N b.1.2.1 b.2.1 b.2.2.1, of := fun r => ((), (((), r.1, ()), r.2.1, r.2.2, ())) }
noncomputable def zhq : Dat τ := { D := D0, tbl := tblOf [(139, zq)], lp := lpsOf [], k0 := 3, mu := [], un := [(1, 3)] }
theorem zit : ConOk E C 98 z6o :=
  zf (D := zhq) ⟨d0Ok, eGood, za ⟨zx, trivial⟩, fun _ => rfl⟩ z6o (fun a b => (b.1.2.1, b.2.1, b.2.2.1)) none (fun _ _ => rfl) rfl (fun _ _ h => nomatch h) 1000000 (fn := Tryz.f98) Tryz.func98 rfl (by kernel_rfl) (by kernel_rfl) rfl (by intro N a b; kernel_rfl)
def zbb (N : Nat) (b0 : Int) (b1 : GPart) (b2 : z4) : Option (Int × GPart × z4) :=
 ((zr N b0 b2).bind fun r1 =>
 (some (r1.2.1, (⟨r1.1, b1.Index, b1.Many, b1.Data⟩ : GPart), r1.2.2)))
def z6p : Con τ := { args := [.ptr 0 [], .ls 1 [.ptr 1 [.fld 0 0]]], L := [.box (.agg [.ptr 2 [], .ty 35]), .box (.ty 62), .box (.ty 99)], ret := .tup [], L' := [.box (.agg [.ptr 2 [], .ty 35]), .box (.ty 62), .box (.ty 99)], R := Int × GPart × z4, dflt := (default, default, default), F := fun N a b => zbb N b.1.2.1 b.2.1 b.2.2.1, of := fun r => ((), (((), r.1, ()), r.2.1, r.2.2, ())) }
noncomputable def zhr : Dat τ := { D := D0, tbl := tblOf [(139, zq)], lp := lpsOf [], k0 := 3, mu := [], un := [(1, 3)] }
theorem ziu : ConOk E C 98 z6p :=
  zf (D := zhr) ⟨d0Ok, eGood, za ⟨zx, trivial⟩, fun _ => rfl⟩ z6p (fun a b => (b.1.2.1, b.2.1, b.2.2.1)) none (fun _ _ => rfl) rfl (fun _ _ h => nomatch h) 1000000 (fn := Tryz.f98) Tryz.func98 rfl (by kernel_rfl) (by kernel_rfl) rfl (by intro N a b; kernel_rfl)
def z9f (N : Nat) (b0 : Int) (b1 : GPart) (b2 : z4) : Option (Int × GPart × z4) :=
 ((zt N b0 b2).bind fun r1 =>
 ((zt N r1.2.1 r1.2.2).bind fun r2 =>
 (some (r2.2.1, (⟨b1.Snap, r1.1, r2.1, b1.Data⟩ : GPart), r2.2.2))))
def z58 : Con τ := { args := [.ptr 0 [], .ls 1 [.ptr 1 [.fld 1 1], .ptr 1 [.fld 2 2]]], L := [.box (.agg [.ptr 2 [], .ty 35]), .box (.ty 62), .box (.ty 99)], ret := .tup [], L' := [.box (.agg [.ptr 2 [], .ty 35]), .box (.ty 62), .box (.ty 99)], R := Int × GPart × z4, dflt := (default, default, default), F := fun N a b => z9f N b.1.2.1 b.2.1 b.2.2.1, of := fun r => ((), (((), r.1, ()), r.2.1, r.2.2, ())) }
noncomputable def zex : Dat τ := { D := D0, tbl := tblOf [(104, z10)], lp := lpsOf [], k0 := 3, mu := [], un := [(1, 4)] }
theorem zg2 : ConOk E C 99 z58 :=
  zf (D := zex) ⟨d0Ok, eGood, za ⟨z1d, trivial⟩, fun _ => rfl⟩ z58 (fun a b => (b.1.2.1, b.2.1, b.2.2.1)) none (fun _ _ => rfl) rfl (fun _ _ h => nomatch h) 1000000 (fn := Tryz.f99) Tryz.func99 rfl (by kernel_rfl) (by kernel_rfl) rfl (by intro N a b; kernel_rfl)
def zag (N : Nat) (b0 : Int) (b1 : z4) : Option ((List (Int)) × Int × z4) :=
 (bif (!(b0 == 0)) then
 (some ([], b0, b1))
 else
 ((z82 N b1).bind fun r1 =>
 ((z32 N r1.2.1 b0 r1.2.2).bind fun r2 =>
 (some (r1.1, r2.1, r2.2)))))
def z5t : Con τ := { args := [.ptr 0 []], L := [.box (.agg [.ptr 1 [], .ty 35]), .box (.ty 99)], ret := .ty 31, L' := [.box (.agg [.ptr 1 [], .ty 35]), .box (.ty 99)], R := (List (Int)) × Int × z4, dflt := (default, default, default), F := fun N a b => zag N b.1.2.1 b.2.1, of := fun r => (r.1, (((), r.2.1, ()), r.2.2, ())) }
noncomputable def zg3 : Dat τ := { D := D0, tbl := tblOf [(157, z3t), (73, z23)], lp := lpsOf [], k0 := 2, mu := [], un := [] }
theorem zhs : ConOk E C 153 z5t :=
  zf (D := zg3) ⟨d0Ok, eGood, za ⟨zb7, ⟨z3s, trivial⟩⟩, fun _ => rfl⟩ z5t (fun a b => (a, b.1.2.1, b.2.1)) none (fun _ _ => rfl) rfl (fun _ _ h => nomatch h) 1000000 (fn := Tryz.f153) Tryz.func153 rfl (by kernel_rfl) (by kernel_rfl) rfl (by intro N a b; kernel_rfl)
def zbc (N : Nat) (b0 : Int) (b1 : z4) : Option (GPart × Int × z4) :=
 ((zbb N b0 (⟨0, 0, 0, []⟩ : GPart) b1).bind fun r1 =>
 ((z9f N r1.1 r1.2.1 r1.2.2).bind fun r2 =>
 ((zag N r2.1 r2.2.2).bind fun r3 =>
 (some ((⟨r2.2.1.Snap, r2.2.1.Index, r2.2.1.Many, r3.1⟩ : GPart), r3.2.1, r3.2.2)))))
def z6q : Con τ := { args := [.ptr 0 []], L := [.box (.agg [.ptr 1 [], .ty 35]), .box (.ty 99)], ret := .ty 62, L' := [.box (.agg [.ptr 1 [], .ty 35]), .box (.ty 99)], R := GPart × Int × z4, dflt := (default, default, default), F := fun N a b => zbc N b.1.2.1 b.2.1, of := fun r => (r.1, (((), r.2.1, ()), r.2.2, ())) }
noncomputable def zht : Dat τ := { D := D0, tbl := tblOf [(98, z6p), (99, z58), (153, z5t)], lp := lpsOf [], k0 := 2, mu := [], un := [] }
theorem ziv : ConOk E C 129 z6q :=
  zf (D := zht) ⟨d0Ok, eGood, za ⟨ziu, ⟨zg2, ⟨zhs, trivial⟩⟩⟩, fun _ => rfl⟩ z6q (fun a b => (a, b.1.2.1, b.2.1)) none (fun _ _ => rfl) rfl (fun _ _ h => nomatch h) 1000000 (fn := Tryz.f129) Tryz.func129 rfl (by kernel_rfl) (by kernel_rfl) rfl (by intro N a b; kernel_rfl)
def z9g (N : Nat) (b0 : Int) (b1 : z6) (b2 : z4) : Option (Int × z6 × z4) :=
 ((zt N b0 b2).bind fun r1 =>
 ((zt N r1.2.1 r1.2.2).bind fun r2 =>
 (some (r2.2.1, (⟨b1.Kind, b1.Session, b1.Request, b1.Op, b1.Origin, b1.Seq, b1.Ops, b1.Epoch, b1.From, b1.Vector_, b1.Clock, b1.Part, r1.1, r2.1, b1.Length⟩ : z6), r2.2.2))))
def z59 : Con τ := { args := [.ptr 0 [], .ls 1 [.ptr 1 [.fld 12 53], .ptr 1 [.fld 13 54]]], L := [.box (.agg [.ptr 2 [], .ty 35]), .box (.ty 64), .box (.ty 99)], ret := .tup [], L' := [.box (.agg [.ptr 2 [], .ty 35]), .box (.ty 64), .box (.ty 99)], R := Int × z6 × z4, dflt := (default, default, default), F := fun N a b => z9g N b.1.2.1 b.2.1 b.2.2.1, of := fun r => ((), (((), r.1, ()), r.2.1, r.2.2, ())) }
noncomputable def zey : Dat τ := { D := D0, tbl := tblOf [(104, z10)], lp := lpsOf [], k0 := 3, mu := [], un := [(1, 4)] }
theorem zg4 : ConOk E C 99 z59 :=
  zf (D := zey) ⟨d0Ok, eGood, za ⟨z1d, trivial⟩, fun _ => rfl⟩ z59 (fun a b => (b.1.2.1, b.2.1, b.2.2.1)) none (fun _ _ => rfl) rfl (fun _ _ h => nomatch h) 1000000 (fn := Tryz.f99) Tryz.func99 rfl (by kernel_rfl) (by kernel_rfl) rfl (by intro N a b; kernel_rfl)
def z6r (N : Nat) (b0 : Int) (b1 : z6) (b2 : z4) : Option (Int × z6 × z4) :=
 ((zt N b0 b2).bind fun r1 =>
 (some (r1.2.1, (⟨b1.Kind, b1.Session, b1.Request, b1.Op, b1.Origin, b1.Seq, b1.Ops, b1.Epoch, b1.From, b1.Vector_, b1.Clock, b1.Part, r1.1, b1.Sponsor, b1.Length⟩ : z6), r1.2.2)))
def z5a : Con τ := { args := [.ptr 0 [], .ls 1 [.ptr 1 [.fld 12 53]]], L := [.box (.agg [.ptr 2 [], .ty 35]), .box (.ty 64), .box (.ty 99)], ret := .tup [], L' := [.box (.agg [.ptr 2 [], .ty 35]), .box (.ty 64), .box (.ty 99)], R := Int × z6 × z4, dflt := (default, default, default), F := fun N a b => z6r N b.1.2.1 b.2.1 b.2.2.1, of := fun r => ((), (((), r.1, ()), r.2.1, r.2.2, ())) }
noncomputable def zez : Dat τ := { D := D0, tbl := tblOf [(104, z10)], lp := lpsOf [], k0 := 3, mu := [], un := [(1, 3)] }
theorem zg5 : ConOk E C 99 z5a :=
  zf (D := zez) ⟨d0Ok, eGood, za ⟨z1d, trivial⟩, fun _ => rfl⟩ z5a (fun a b => (b.1.2.1, b.2.1, b.2.2.1)) none (fun _ _ => rfl) rfl (fun _ _ h => nomatch h) 1000000 (fn := Tryz.f99) Tryz.func99 rfl (by kernel_rfl) (by kernel_rfl) rfl (by intro N a b; kernel_rfl)
def zbd (N : Nat) (b0 : Int) (b1 : z6) (b2 : z4) : Option (Int × z6 × z4) :=
 ((zr N b0 b2).bind fun r1 =>
 (some (r1.2.1, (⟨b1.Kind, b1.Session, b1.Request, b1.Op, b1.Origin, b1.Seq, b1.Ops, b1.Epoch, b1.From, b1.Vector_, b1.Clock, b1.Part, b1.Site, b1.Sponsor, r1.1⟩ : z6), r1.2.2)))
def z6s : Con τ := { args := [.ptr 0 [], .ls 1 [.ptr 1 [.fld 14 55]]], L := [.box (.agg [.ptr 2 [], .ty 35]), .box (.ty 64), .box (.ty 99)], ret := .tup [], L' := [.box (.agg [.ptr 2 [], .ty 35]), .box (.ty 64), .box (.ty 99)], R := Int × z6 × z4, dflt := (default, default, default), F := fun N a b => zbd N b.1.2.1 b.2.1 b.2.2.1, of := fun r => ((), (((), r.1, ()), r.2.1, r.2.2, ())) }
noncomputable def zhu : Dat τ := { D := D0, tbl := tblOf [(139, zq)], lp := lpsOf [], k0 := 3, mu := [], un := [(1, 3)] }
theorem ziw : ConOk E C 98 z6s :=
  zf (D := zhu) ⟨d0Ok, eGood, za ⟨zx, trivial⟩, fun _ => rfl⟩ z6s (fun a b => (b.1.2.1, b.2.1, b.2.2.1)) none (fun _ _ => rfl) rfl (fun _ _ h => nomatch h) 1000000 (fn := Tryz.f98) Tryz.func98 rfl (by kernel_rfl) (by kernel_rfl) rfl (by intro N a b; kernel_rfl)
def zah (N : Nat) (b0 : Int) (b1 : z4) : Option (z6 × Int × z4) :=
 ((z99 N b0 (⟨0, 0, 0, (⟨(⟨0, 0⟩ : zi), 0, 0, 0, [], [], []⟩ : GOp), 0, 0, [], (⟨0, (Vector.replicate 8 (default : Int)), (Vector.replicate 8 (default : Int)), (Vector.replicate 8 (default : Int))⟩ : z7), 0, (Vector.replicate 8 (default : Int)), 0, (⟨0, 0, 0, []⟩ : GPart), 0, 0, 0⟩ : z6) b1).bind fun r1 =>
 (bif (!(r1.1 == 0)) then
 (some (r1.2.1, r1.1, r1.2.2))
 else
 (bif (r1.2.1.Kind == 0) then
 (some (r1.2.1, r1.1, r1.2.2))
 else
 (bif (r1.2.1.Kind == 1) then
 ((zb4 N r1.1 r1.2.1 r1.2.2).bind fun r2 =>
 ((z8e N r2.1 r2.2.2).bind fun r3 =>
 (some ((⟨r2.2.1.Kind, r2.2.1.Session, r2.2.1.Request, r3.1, r2.2.1.Origin, r2.2.1.Seq, r2.2.1.Ops, r2.2.1.Epoch, r2.2.1.From, r2.2.1.Vector_, r2.2.1.Clock, r2.2.1.Part, r2.2.1.Site, r2.2.1.Sponsor, r2.2.1.Length⟩ : z6), r3.2.1, r3.2.2))))
 else
 (bif (r1.2.1.Kind == 2) then
 ((z9b N r1.1 r1.2.1 r1.2.2).bind fun r4 =>
 ((z7k N r4.1 r4.2.1 r4.2.2).bind fun r5 =>
 ((zc6 N r5.1 r5.2.2).bind fun r6 =>
 (some ((⟨r5.2.1.Kind, r5.2.1.Session, r5.2.1.Request, r5.2.1.Op, r5.2.1.Origin, r5.2.1.Seq, r6.1, r5.2.1.Epoch, r5.2.1.From, r5.2.1.Vector_, r5.2.1.Clock, r5.2.1.Part, r5.2.1.Site, r5.2.1.Sponsor, r5.2.1.Length⟩ : z6), r6.2.1, r6.2.2)))))
 else
 (bif (r1.2.1.Kind == 3) then
 ((zaf N r1.1 r1.2.2).bind fun r7 =>
 (some ((⟨r1.2.1.Kind, r1.2.1.Session, r1.2.1.Request, r1.2.1.Op, r1.2.1.Origin, r1.2.1.Seq, r1.2.1.Ops, r7.1, r1.2.1.From, r1.2.1.Vector_, r1.2.1.Clock, r1.2.1.Part, r1.2.1.Site, r1.2.1.Sponsor, r1.2.1.Length⟩ : z6), r7.2.1, r7.2.2)))
 else
 (bif (r1.2.1.Kind == 4) then
 ((z7k N r1.1 r1.2.1 r1.2.2).bind fun r8 =>
 ((z9d N r8.1 r8.2.1 r8.2.2).bind fun r9 =>
 ((z9e N r9.1 r9.2.1 r9.2.2).bind fun r10 =>
 ((zba N r10.1 r10.2.1 r10.2.2).bind fun r11 =>
 (some (r11.2.1, r11.1, r11.2.2))))))
 else
 (bif (r1.2.1.Kind == 5) then
 ((zbc N r1.1 r1.2.2).bind fun r12 =>
 (some ((⟨r1.2.1.Kind, r1.2.1.Session, r1.2.1.Request, r1.2.1.Op, r1.2.1.Origin, r1.2.1.Seq, r1.2.1.Ops, r1.2.1.Epoch, r1.2.1.From, r1.2.1.Vector_, r1.2.1.Clock, r12.1, r1.2.1.Site, r1.2.1.Sponsor, r1.2.1.Length⟩ : z6), r12.2.1, r12.2.2)))
 else
 (bif (r1.2.1.Kind == 6) then
 ((z9g N r1.1 r1.2.1 r1.2.2).bind fun r13 =>
 (some (r13.2.1, r13.1, r13.2.2)))
 else
 (bif (r1.2.1.Kind == 7) then
 ((z6r N r1.1 r1.2.1 r1.2.2).bind fun r14 =>
 (some (r14.2.1, r14.1, r14.2.2)))
 else
 (bif (r1.2.1.Kind == 8) then
 ((z6r N r1.1 r1.2.1 r1.2.2).bind fun r15 =>
 ((zbd N r15.1 r15.2.1 r15.2.2).bind fun r16 =>
 (some (r16.2.1, r16.1, r16.2.2))))
 else
 (some (r1.2.1, 40, r1.2.2)))))))))))))
def z5u : Con τ := { args := [.ptr 0 []], L := [.box (.agg [.ptr 1 [], .ty 35]), .box (.ty 99)], ret := .ty 64, L' := [.box (.agg [.ptr 1 [], .ty 35]), .box (.ty 99)], R := z6 × Int × z4, dflt := (default, default, default), F := fun N a b => zah N b.1.2.1 b.2.1, of := fun r => (r.1, (((), r.2.1, ()), r.2.2, ())) }
noncomputable def zg6 : Dat τ := { D := D0, tbl := tblOf [(99, z50), (98, z6f), (52, z4h), (99, z52), (98, z6j), (128, z72), (59, z5s), (99, z56), (105, z57), (98, z6o), (129, z6q), (99, z59), (99, z5a), (98, z6s)], lp := lpsOf [], k0 := 2, mu := [], un := [] }
theorem zhv : ConOk E C 72 z5u :=
  zf (D := zg6) ⟨d0Ok, eGood, za ⟨zfv, ⟨zij, ⟨zc5, ⟨zfx, ⟨zio, ⟨zk4, ⟨zhp, ⟨zg0, ⟨zg1, ⟨zit, ⟨ziv, ⟨zg4, ⟨zg5, ⟨ziw, trivial⟩⟩⟩⟩⟩⟩⟩⟩⟩⟩⟩⟩⟩⟩, fun _ => rfl⟩ z5u (fun a b => (a, b.1.2.1, b.2.1)) none (fun _ _ => rfl) rfl (fun _ _ h => nomatch h) 1000000 (fn := Tryz.f72) Tryz.func72 rfl (by kernel_rfl) (by kernel_rfl) rfl (by intro N a b; kernel_rfl)
def zdy (N : Nat) (b0 : z4) : Option (Int × z4) :=
 ((z66 N b0).bind fun r1 =>
 (bif r1.1 then
 (some (2, r1.2))
 else
 (bif (decide (0 < ((r1.2.b).length : Int))) then
 (some (13, r1.2))
 else
 (some (0, r1.2)))))
def z83 : Con τ := { args := [.ptr 0 []], L := [.box (.ty 99)], ret := .ty 35, L' := [.box (.ty 99)], R := Int × z4, dflt := (default, default), F := fun N a b => zdy N b.1, of := fun r => (r.1, (r.2, ())) }
noncomputable def zla : Dat τ := { D := D0, tbl := tblOf [(63, z31)], lp := lpsOf [], k0 := 1, mu := [], un := [] }
theorem zlz : ConOk E C 74 z83 :=
  zf (D := zla) ⟨d0Ok, eGood, za ⟨z80, trivial⟩, fun _ => rfl⟩ z83 (fun a b => (a, b.1)) none (fun _ _ => rfl) rfl (fun _ _ h => nomatch h) 1000000 (fn := Tryz.f74) Tryz.func74 rfl (by kernel_rfl) (by kernel_rfl) rfl (by intro N a b; kernel_rfl)
def zix (N : Nat) (b : List (Int)) : Option (z6 × Int) :=
 ((zlx N b).bind fun r1 =>
 ((zah N 0 r1).bind fun r2 =>
 ((zdy N r2.2.2).bind fun r3 =>
 ((z32 N r3.1 r2.2.1 r3.2).bind fun r4 =>
 (bif (r4.1 == 0) then
 ((zu N r2.1).bind fun r5 =>
 (bif (!(r5 == 0)) then
 (some ((⟨0, 0, 0, (⟨(⟨0, 0⟩ : zi), 0, 0, 0, [], [], []⟩ : GOp), 0, 0, [], (⟨0, (Vector.replicate 8 (default : Int)), (Vector.replicate 8 (default : Int)), (Vector.replicate 8 (default : Int))⟩ : z7), 0, (Vector.replicate 8 (default : Int)), 0, (⟨0, 0, 0, []⟩ : GPart), 0, 0, 0⟩ : z6), r5))
 else
 (some (r2.1, 0))))
 else
 (bif (!(r4.1 == 0)) then
 (some ((⟨0, 0, 0, (⟨(⟨0, 0⟩ : zi), 0, 0, 0, [], [], []⟩ : GOp), 0, 0, [], (⟨0, (Vector.replicate 8 (default : Int)), (Vector.replicate 8 (default : Int)), (Vector.replicate 8 (default : Int))⟩ : z7), 0, (Vector.replicate 8 (default : Int)), 0, (⟨0, 0, 0, []⟩ : GPart), 0, 0, 0⟩ : z6), r4.1))
 else
 (some (r2.1, 0))))))))
def z9y : Con τ := { args := [.ty 31], L := [], ret := .tup [.ty 64, .ty 35], L' := [], R := z6 × Int, dflt := (default, default), F := fun N a b => zix N a.1, of := fun r => ((r.1, r.2, ()), ()) }
noncomputable def znx : Dat τ := { D := D0, tbl := tblOf [(17, zcj), (72, z5u), (74, z83), (73, z23), (64, z39)], lp := lpsOf [], k0 := 0, mu := [], un := [] }
theorem zpp : ConOk E C 30 z9y :=
  zf (D := znx) ⟨d0Ok, eGood, za ⟨zt1, ⟨zhv, ⟨zlz, ⟨z3s, ⟨z7m, trivial⟩⟩⟩⟩⟩, fun _ => rfl⟩ z9y (fun a b => (a.1, a.2.1)) none (fun _ _ => rfl) rfl (fun _ _ h => nomatch h) 1000000 (fn := Tryz.f30) Tryz.func30 rfl (by kernel_rfl) (by kernel_rfl) rfl (by intro N a b; kernel_rfl)
def z8f (N : Nat) (a : List (Int)) (b : List (Int)) : Option (Bool) :=
 (some ((strI a) == (strI b)))
def zd7 : Con τ := { args := [.ty 31, .ty 31], L := [], ret := .ty 4, L' := [], R := Bool, dflt := default, F := fun N a b => z8f N a.1 a.2.1, of := fun r => (r, ()) }
noncomputable def zwf : Dat τ := { D := D0, tbl := tblOf [], lp := lpsOf [], k0 := 0, mu := [], un := [] }
theorem zpq : ConOk E C 15 zd7 :=
  zf (D := zwf) ⟨d0Ok, eGood, za trivial, fun _ => rfl⟩ zd7 (fun a b => a) none (fun _ _ => rfl) rfl (fun _ _ h => nomatch h) 1000000 (fn := Tryz.f15) Tryz.func15 rfl (by kernel_rfl) (by kernel_rfl) rfl (by intro N a b; kernel_rfl)
def zm0 (N : Nat)  : Option (Bool) :=
 ((z4q N (⟨7, 0, 0, (⟨(⟨0, 0⟩ : zi), 0, 0, 0, [], [], []⟩ : GOp), 0, 0, [], (⟨0, (Vector.replicate 8 (default : Int)), (Vector.replicate 8 (default : Int)), (Vector.replicate 8 (default : Int))⟩ : z7), 0, (Vector.replicate 8 (default : Int)), 0, (⟨0, 0, 0, []⟩ : GPart), 3, 0, 0⟩ : z6)).bind fun r1 =>
 ((zix N [14, 6]).bind fun r2 =>
 ((z8f N r1.1 [14, 6]).bind fun r3 =>
 (some ((((r3 && (r1.2 == 0)) && (r2.2 == 0)) && (r2.1.Kind == 7)) && (r2.1.Site == 3))))))
def zhw : Con τ := { args := [], L := [], ret := .ty 4, L' := [], R := Bool, dflt := default, F := fun N a b => zm0 N , of := fun r => (r, ()) }
noncomputable def zwg : Dat τ := { D := D0, tbl := tblOf [(26, zbj), (30, z9y), (15, zd7)], lp := lpsOf [], k0 := 0, mu := [], un := [] }
theorem zyi : ConOk E C 8 zhw :=
  zf (D := zwg) ⟨d0Ok, eGood, za ⟨znc, ⟨zpp, ⟨zpq, trivial⟩⟩⟩, fun _ => rfl⟩ zhw (fun a b => a) none (fun _ _ => rfl) rfl (fun _ _ h => nomatch h) 1000000 (fn := Tryz.f8) Tryz.func8 rfl (by kernel_rfl) (by kernel_rfl) rfl (by intro N a b; kernel_rfl)
def z7l (N : Nat) (x : z6) (m : GMsg) : Option (Bool) :=
 ((z4q N x).bind fun r1 =>
 ((zgs N x).bind fun r2 =>
 ((z3o N m).bind fun r3 =>
 ((zd6 N m).bind fun r4 =>
 ((zm0 N).bind fun r5 =>
 ((bif r5 then z8f N r1.1 r2.1 else some default).bind fun r6 =>
 ((bif ((r5 && r6) && (r1.2 == r2.2)) then z8f N r3.1 r4.1 else some default).bind fun r7 =>
 (some ((((r5 && r6) && (r1.2 == r2.2)) && r7) && (r3.2 == r4.2))))))))))
def zdc : Con τ := { args := [.ty 64, .ty 71], L := [], ret := .ty 4, L' := [], R := Bool, dflt := default, F := fun N a b => z7l N a.1 a.2.1, of := fun r => (r, ()) }
noncomputable def zm1 : Dat τ := { D := D0, tbl := tblOf [(26, zbj), (27, zi8), (28, zcf), (29, zdp), (8, zhw), (15, zd7)], lp := lpsOf [], k0 := 0, mu := [], un := [] }
theorem zmu : ConOk E C 4 zdc :=
  zf (D := zm1) ⟨d0Ok, eGood, za ⟨znc, ⟨zyw, ⟨zsu, ⟨zud, ⟨zyi, ⟨zpq, trivial⟩⟩⟩⟩⟩⟩, fun _ => rfl⟩ zdc (fun a b => a) none (fun _ _ => rfl) rfl (fun _ _ h => nomatch h) 1000000 (fn := Tryz.f4) Tryz.func4 rfl (by kernel_rfl) (by kernel_rfl) rfl (by intro N a b; kernel_rfl)
end Go.Proofs.YteinehkdjkobnaaGreat
