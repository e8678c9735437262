/-
The functions of this seat, as plain functions over typed data, each with its contract. Printed by wip/tools/fngen.py.
-/
import Derived.Test.YtddpmkmgbdedlaaGreatqCod
import Derived.Test.YtddpmkmgbdedlaaGreatqTvX
import Derived.KernelRfl
set_option linter.unusedVariables false
set_option maxRecDepth 100000
namespace Go.Proofs.YtddpmkmgbdedlaaGreat
open Go Go.Ev
def z13b (N : Nat)  : Option (Nat × Int × Bool × (List (GSent))) :=
 (some (0, 0, true, []))
def zut : Con τ := { args := [], L := [], ret := .ptr 0 [], L' := [.box (.agg [.agg [.msl 65 1, .ty 2], .ty 4]), .gbx 65], R := Nat × Int × Bool × (List (GSent)), dflt := (default, default, default, default), F := fun N a b => z13b N , of := fun r => ((), (((r.1, r.2.1, ()), r.2.2.1, ()), r.2.2.2, ())) }
noncomputable def z140 : Dat τ := { D := D0, tbl := tblOf [], lp := lpsOf [], k0 := 0, mu := [], un := [] }
theorem oknet_New : ConOk E C 8 zut :=
  z9 (D := z140) ⟨d0Ok, eGood, z7 trivial, fun _ => rfl⟩ zut (fun a b => (b.1.1.1, b.1.1.2.1, b.1.2.1, b.2.1)) none (fun _ _ => rfl) rfl (fun _ _ h => nomatch h) 1000000 (fn := Tryz.f8) Tryz.func8 rfl (by kernel_rfl) (by kernel_rfl) rfl (by intro N a b; kernel_rfl)
def zs3 (N : Nat) (slot : Int) : Option (GMsg) :=
 (some (⟨7, (⟨1, 0⟩ : GAddr), (⟨1, 1⟩ : GAddr), (⟨1, 0⟩ : zq), slot, [], (⟨0, 0, 0, (⟨(⟨0, 0⟩ : zx), 0, 0, 0, [], [], []⟩ : GOp), 0, 0, [], (⟨0, (Vector.replicate 8 (default : Int)), (Vector.replicate 8 (default : Int)), (Vector.replicate 8 (default : Int))⟩ : za), 0, (Vector.replicate 8 (default : Int)), 0, (⟨0, 0, 0, []⟩ : GPart), 0, 0, 0⟩ : zd), 0, (Vector.replicate 8 (default : Int)), 0, 0, [], (⟨0, (Vector.replicate 8 (default : Int)), (Vector.replicate 8 (default : Int)), (Vector.replicate 8 (default : Int))⟩ : za), (⟨0, 0, 0, []⟩ : GPart)⟩ : GMsg))
def zmu : Con τ := { args := [.ty 2], L := [], ret := .ty 43, L' := [], R := GMsg, dflt := default, F := fun N a b => zs3 N a.1, of := fun r => (r, ()) }
noncomputable def z10f : Dat τ := { D := D0, tbl := tblOf [], lp := lpsOf [], k0 := 0, mu := [], un := [] }
theorem z11h : ConOk E C 24 zmu :=
  z9 (D := z10f) ⟨d0Ok, eGood, z7 trivial, fun _ => rfl⟩ zmu (fun a b => a) none (fun _ _ => rfl) rfl (fun _ _ h => nomatch h) 1000000 (fn := Tryz.f24) Tryz.func24 rfl (by kernel_rfl) (by kernel_rfl) rfl (by intro N a b; kernel_rfl)
def z2i (N : Nat) (b0 : Nat) (b02 : Int) (b03 : Bool) (g1 : List (GSent)) : Option (Bool × Nat × Int × Bool × (List (GSent))) :=
 (some ((!b03), b0, b02, b03, g1))
def z1l : Con τ := { args := [.ptr 0 []], L := [.box (.agg [.agg [.msl 65 1, .ty 2], .ty 4]), .gbx 65], ret := .ty 4, L' := [.box (.agg [.agg [.msl 65 1, .ty 2], .ty 4]), .gbx 65], R := Bool × Nat × Int × Bool × (List (GSent)), dflt := (default, default, default, default, default), F := fun N a b => z2i N b.1.1.1 b.1.1.2.1 b.1.2.1 b.2.1, of := fun r => (r.1, (((r.2.1, r.2.2.1, ()), r.2.2.2.1, ()), r.2.2.2.2, ())) }
noncomputable def zs4 : Dat τ := { D := D0, tbl := tblOf [], lp := lpsOf [], k0 := 2, mu := [], un := [] }
theorem z2s : ConOk E C 25 z1l :=
  z9 (D := zs4) ⟨d0Ok, eGood, z7 trivial, fun _ => rfl⟩ z1l (fun a b => (a, b.1.1.1, b.1.1.2.1, b.1.2.1, b.2.1)) none (fun _ _ => rfl) rfl (fun _ _ h => nomatch h) 1000000 (fn := Tryz.f25) Tryz.func25 rfl (by kernel_rfl) (by kernel_rfl) rfl (by intro N a b; kernel_rfl)
structure z74 where
  t7 : Int
def zcb : List Sl := [.k, .k, .j, .k, .j, .k, .k, .sh (.ty 2), .j, .j, .j, .j, .j, .j, .j, .j, .j, .j, .j, .j, .j, .j, .j, .j, .j, .j, .j, .j, .j, .j]
def zcc : List ESh := []
def ztn (a : Sl.Ts τ zcb) (b : ESh.Ts τ zcc) : z74 := ⟨a.2.2.2.2.2.2.2.1⟩
def zto (s : z74) : Sl.Ts τ zcb := ((), (), (), (), (), (), (), s.t7, (), (), (), (), (), (), (), (), (), (), (), (), (), (), (), (), (), (), (), (), (), (), ())
def ztp (s : z74) : ESh.Ts τ zcc := ()
def ztq : Lp τ := { ts := zcb, hs := zcc, S := z74, to := ztn, ot := zto, oh := ztp, hk := [], tk := [], ot_to := fun _ _ => rfl, oh_to := fun _ _ => rfl }
def zp7 (N : Nat) (l : List (GAddr)) : Option (Bool) :=
 (iter N (fun (s1 : z74) next2 =>
 (bif (decide (s1.t7 < ((l).length : Int))) then
 (bif (ibB s1.t7 ((l).length : Int)) then
 (bif ((((decide (((lget l s1.t7 default).Group) < 0)) || (decide (9 ≤ ((lget l s1.t7 default).Group)))) || (decide (((lget l s1.t7 default).Replica) < 0))) || (decide (5 ≤ ((lget l s1.t7 default).Replica)))) then
 (some false)
 else
 (next2 ⟨(IntKind.i64.wrap (s1.t7 + 1))⟩))
 else none)
 else
 (some true))) ⟨0⟩)
def zdg : Con τ := { args := [.ty 70], L := [], ret := .ty 4, L' := [], R := Bool, dflt := default, F := fun N a b => zp7 N a.1, of := fun r => (r, ()) }
noncomputable def zuu : Dat τ := { D := D0, tbl := tblOf [], lp := lpsOf [(2, ztq)], k0 := 0, mu := [], un := [] }
theorem zwb : ConOk E C 89 zdg :=
  z9 (D := zuu) ⟨d0Ok, eGood, z7 trivial, fun _ => rfl⟩ zdg (fun a b => a) none (fun _ _ => rfl) rfl (fun _ _ h => nomatch h) 1000000 (fn := Tryz.f89) Tryz.func89 rfl (by kernel_rfl) (by kernel_rfl) rfl (by intro N a b; kernel_rfl)
structure z8u where
  t7 : Int
def zeh : List Sl := [.k, .k, .j, .k, .j, .k, .k, .sh (.ty 2), .j, .j, .j, .j, .j, .j, .j, .j, .j, .j]
def zei : List ESh := []
def zwc (a : Sl.Ts τ zeh) (b : ESh.Ts τ zei) : z8u := ⟨a.2.2.2.2.2.2.2.1⟩
def zwd (s : z8u) : Sl.Ts τ zeh := ((), (), (), (), (), (), (), s.t7, (), (), (), (), (), (), (), (), (), (), ())
def zwe (s : z8u) : ESh.Ts τ zei := ()
def zwf : Lp τ := { ts := zeh, hs := zei, S := z8u, to := zwc, ot := zwd, oh := zwe, hk := [], tk := [], ot_to := fun _ _ => rfl, oh_to := fun _ _ => rfl }
def z1s (N : Nat) (l : List (Int)) : Option (Bool) :=
 (iter N (fun (s1 : z8u) next2 =>
 (bif (decide (s1.t7 < ((l).length : Int))) then
 (bif (ibB s1.t7 ((l).length : Int)) then
 (bif ((decide ((lget l s1.t7 default) < 0)) || (decide (1099511627776 < (lget l s1.t7 default)))) then
 (some false)
 else
 (next2 ⟨(IntKind.i64.wrap (s1.t7 + 1))⟩))
 else none)
 else
 (some true))) ⟨0⟩)
def z2t : Con τ := { args := [.ty 60], L := [], ret := .ty 4, L' := [], R := Bool, dflt := default, F := fun N a b => z1s N a.1, of := fun r => (r, ()) }
noncomputable def zxg : Dat τ := { D := D0, tbl := tblOf [], lp := lpsOf [(2, zwf)], k0 := 0, mu := [], un := [] }
theorem z6m : ConOk E C 95 z2t :=
  z9 (D := zxg) ⟨d0Ok, eGood, z7 trivial, fun _ => rfl⟩ z2t (fun a b => a) none (fun _ _ => rfl) rfl (fun _ _ h => nomatch h) 1000000 (fn := Tryz.f95) Tryz.func95 rfl (by kernel_rfl) (by kernel_rfl) rfl (by intro N a b; kernel_rfl)
def zdh (N : Nat) (b : zq) : Option (Bool) :=
 ((z1s N [b.Round]).bind fun r1 =>
 (some ((r1 && (decide (0 ≤ b.Replica))) && (decide (b.Replica < 5)))))
def z7g : Con τ := { args := [.ty 25], L := [], ret := .ty 4, L' := [], R := Bool, dflt := default, F := fun N a b => zdh N a.1, of := fun r => (r, ()) }
noncomputable def zs5 : Dat τ := { D := D0, tbl := tblOf [(95, z2t)], lp := lpsOf [], k0 := 0, mu := [], un := [] }
theorem zj0 : ConOk E C 94 z7g :=
  z9 (D := zs5) ⟨d0Ok, eGood, z7 ⟨z6m, trivial⟩, fun _ => rfl⟩ z7g (fun a b => a) none (fun _ _ => rfl) rfl (fun _ _ h => nomatch h) 1000000 (fn := Tryz.f94) Tryz.func94 rfl (by kernel_rfl) (by kernel_rfl) rfl (by intro N a b; kernel_rfl)
structure z62 where
  t13 : Int
def zb4 : List Sl := [.k, .k, .k, .k, .j, .j, .k, .k, .k, .k, .k, .k, .k, .sh (.ty 2), .j, .j, .j, .j, .j, .j, .j, .j, .j, .j, .j, .j]
def zb5 : List ESh := []
def zs6 (a : Sl.Ts τ zb4) (b : ESh.Ts τ zb5) : z62 := ⟨a.2.2.2.2.2.2.2.2.2.2.2.2.2.1⟩
def zs7 (s : z62) : Sl.Ts τ zb4 := ((), (), (), (), (), (), (), (), (), (), (), (), (), s.t13, (), (), (), (), (), (), (), (), (), (), (), (), ())
def zs8 (s : z62) : ESh.Ts τ zb5 := ()
def zs9 : Lp τ := { ts := zb4, hs := zb5, S := z62, to := zs6, ot := zs7, oh := zs8, hk := [], tk := [], ot_to := fun _ _ => rfl, oh_to := fun _ _ => rfl }
def zej (N : Nat) (s1_ : List (GOp)) (s2_ : List (GOp)) : Option (Bool) :=
 (bif (!(((s1_).length : Int) == ((s2_).length : Int))) then
 (some false)
 else
 (iter N (fun (s1 : z62) next2 =>
 (bif (decide (s1.t13 < ((s1_).length : Int))) then
 (bif (ibB s1.t13 ((s1_).length : Int)) then
 (bif (ibB s1.t13 ((s2_).length : Int)) then
 (bif (!((((((lget s1_ s1.t13 default).Stamp).Time) == (((lget s2_ s1.t13 default).Stamp).Time)) && ((((lget s1_ s1.t13 default).Stamp).Site) == (((lget s2_ s1.t13 default).Stamp).Site))) && ((((lget s1_ s1.t13 default).Kind) == ((lget s2_ s1.t13 default).Kind)) && ((((lget s1_ s1.t13 default).Node) == ((lget s2_ s1.t13 default).Node)) && ((((lget s1_ s1.t13 default).Parent) == ((lget s2_ s1.t13 default).Parent)) && ((((lget s1_ s1.t13 default).Name) == ((lget s2_ s1.t13 default).Name)) && ((((lget s1_ s1.t13 default).Key) == ((lget s2_ s1.t13 default).Key)) && (((lget s1_ s1.t13 default).Value) == ((lget s2_ s1.t13 default).Value))))))))) then
 (some false)
 else
 (next2 ⟨(IntKind.i64.wrap (s1.t13 + 1))⟩))
 else none)
 else none)
 else
 (some true))) ⟨0⟩))
def z87 : Con τ := { args := [.ty 31, .ty 31], L := [], ret := .ty 4, L' := [], R := Bool, dflt := default, F := fun N a b => zej N a.1 a.2.1, of := fun r => (r, ()) }
noncomputable def ztr : Dat τ := { D := D0, tbl := tblOf [], lp := lpsOf [(4, zs9)], k0 := 0, mu := [], un := [] }
theorem zlq : ConOk E C 136 z87 :=
  z9 (D := ztr) ⟨d0Ok, eGood, z7 trivial, fun _ => rfl⟩ z87 (fun a b => a) none (fun _ _ => rfl) rfl (fun _ _ h => nomatch h) 1000000 (fn := Tryz.f136) Tryz.func136 rfl (by kernel_rfl) (by kernel_rfl) rfl (by intro N a b; kernel_rfl)
def zek (N : Nat) (a : GPart) (b : GPart) : Option (Bool) :=
 (some ((((a.Snap == b.Snap) && (a.Index == b.Index)) && (a.Many == b.Many)) && ((strI a.Data) == (strI b.Data))))
def z88 : Con τ := { args := [.ty 39, .ty 39], L := [], ret := .ty 4, L' := [], R := Bool, dflt := default, F := fun N a b => zek N a.1 a.2.1, of := fun r => (r, ()) }
noncomputable def zts : Dat τ := { D := D0, tbl := tblOf [], lp := lpsOf [], k0 := 0, mu := [], un := [] }
theorem zlr : ConOk E C 137 z88 :=
  z9 (D := zts) ⟨d0Ok, eGood, z7 trivial, fun _ => rfl⟩ z88 (fun a b => a) none (fun _ _ => rfl) rfl (fun _ _ h => nomatch h) 1000000 (fn := Tryz.f137) Tryz.func137 rfl (by kernel_rfl) (by kernel_rfl) rfl (by intro N a b; kernel_rfl)
def z17 (N : Nat) (a : zd) (b : zd) : Option (Bool) :=
 ((bif ((((((a.Kind == b.Kind) && (a.Session == b.Session)) && (a.Request == b.Request)) && (((a.Op.Stamp.Time == b.Op.Stamp.Time) && (a.Op.Stamp.Site == b.Op.Stamp.Site)) && ((a.Op.Kind == b.Op.Kind) && ((a.Op.Node == b.Op.Node) && ((a.Op.Parent == b.Op.Parent) && ((a.Op.Name == b.Op.Name) && ((a.Op.Key == b.Op.Key) && (a.Op.Value == b.Op.Value)))))))) && (a.Origin == b.Origin)) && (a.Seq == b.Seq)) then zej N a.Ops b.Ops else some default).bind fun r1 =>
 ((bif (((((((((((a.Kind == b.Kind) && (a.Session == b.Session)) && (a.Request == b.Request)) && (((a.Op.Stamp.Time == b.Op.Stamp.Time) && (a.Op.Stamp.Site == b.Op.Stamp.Site)) && ((a.Op.Kind == b.Op.Kind) && ((a.Op.Node == b.Op.Node) && ((a.Op.Parent == b.Op.Parent) && ((a.Op.Name == b.Op.Name) && ((a.Op.Key == b.Op.Key) && (a.Op.Value == b.Op.Value)))))))) && (a.Origin == b.Origin)) && (a.Seq == b.Seq)) && r1) && ((a.Epoch.Number == b.Epoch.Number) && ((vbeq beq3 a.Epoch.States b.Epoch.States) && ((vbeq beq2 a.Epoch.Seals b.Epoch.Seals) && (vbeq beq3 a.Epoch.Sponsor b.Epoch.Sponsor))))) && (a.From == b.From)) && (vbeq beq2 a.Vector_ b.Vector_)) && (a.Clock == b.Clock)) then zek N a.Part b.Part else some default).bind fun r2 =>
 (some (((((((((((((((a.Kind == b.Kind) && (a.Session == b.Session)) && (a.Request == b.Request)) && (((a.Op.Stamp.Time == b.Op.Stamp.Time) && (a.Op.Stamp.Site == b.Op.Stamp.Site)) && ((a.Op.Kind == b.Op.Kind) && ((a.Op.Node == b.Op.Node) && ((a.Op.Parent == b.Op.Parent) && ((a.Op.Name == b.Op.Name) && ((a.Op.Key == b.Op.Key) && (a.Op.Value == b.Op.Value)))))))) && (a.Origin == b.Origin)) && (a.Seq == b.Seq)) && r1) && ((a.Epoch.Number == b.Epoch.Number) && ((vbeq beq3 a.Epoch.States b.Epoch.States) && ((vbeq beq2 a.Epoch.Seals b.Epoch.Seals) && (vbeq beq3 a.Epoch.Sponsor b.Epoch.Sponsor))))) && (a.From == b.From)) && (vbeq beq2 a.Vector_ b.Vector_)) && (a.Clock == b.Clock)) && r2) && (a.Site == b.Site)) && (a.Sponsor == b.Sponsor)) && (a.Length == b.Length)))))
def z57 : Con τ := { args := [.ty 41, .ty 41], L := [], ret := .ty 4, L' := [], R := Bool, dflt := default, F := fun N a b => z17 N a.1 a.2.1, of := fun r => (r, ()) }
noncomputable def zsa : Dat τ := { D := D0, tbl := tblOf [(136, z87), (137, z88)], lp := lpsOf [], k0 := 0, mu := [], un := [] }
theorem zcd : ConOk E C 133 z57 :=
  z9 (D := zsa) ⟨d0Ok, eGood, z7 ⟨zlq, ⟨zlr, trivial⟩⟩, fun _ => rfl⟩ z57 (fun a b => a) none (fun _ _ => rfl) rfl (fun _ _ h => nomatch h) 1000000 (fn := Tryz.f133) Tryz.func133 rfl (by kernel_rfl) (by kernel_rfl) rfl (by intro N a b; kernel_rfl)
def z1b (N : Nat) (ok : Bool) : Option (Int) :=
 (bif ok then
 (some 0)
 else
 (some 40))
def z96 : Con τ := { args := [.ty 4], L := [], ret := .ty 48, L' := [], R := Int, dflt := default, F := fun N a b => z1b N a.1, of := fun r => (r, ()) }
noncomputable def zuv : Dat τ := { D := D0, tbl := tblOf [], lp := lpsOf [], k0 := 0, mu := [], un := [] }
theorem znt : ConOk E C 98 z96 :=
  z9 (D := zuv) ⟨d0Ok, eGood, z7 trivial, fun _ => rfl⟩ z96 (fun a b => a) none (fun _ _ => rfl) rfl (fun _ _ h => nomatch h) 1000000 (fn := Tryz.f98) Tryz.func98 rfl (by kernel_rfl) (by kernel_rfl) rfl (by intro N a b; kernel_rfl)
structure zad where
  t7 : Int
def zgh : List Sl := [.k, .k, .j, .k, .j, .k, .k, .sh (.ty 2), .j, .j, .j, .j, .j, .j, .j, .j, .j, .j]
def zgi : List ESh := []
def zxh (a : Sl.Ts τ zgh) (b : ESh.Ts τ zgi) : zad := ⟨a.2.2.2.2.2.2.2.1⟩
def zxi (s : zad) : Sl.Ts τ zgh := ((), (), (), (), (), (), (), s.t7, (), (), (), (), (), (), (), (), (), (), ())
def zxj (s : zad) : ESh.Ts τ zgi := ()
def zxk : Lp τ := { ts := zgh, hs := zgi, S := zad, to := zxh, ot := zxi, oh := zxj, hk := [], tk := [], ot_to := fun _ _ => rfl, oh_to := fun _ _ => rfl }
def z4n (N : Nat) (l : List (Int)) : Option (Bool) :=
 (iter N (fun (s1 : zad) next2 =>
 (bif (decide (s1.t7 < ((l).length : Int))) then
 (bif (ibB s1.t7 ((l).length : Int)) then
 (bif ((decide ((lget l s1.t7 default) < 0)) || (decide (8 ≤ (lget l s1.t7 default)))) then
 (some false)
 else
 (next2 ⟨(IntKind.i64.wrap (s1.t7 + 1))⟩))
 else none)
 else
 (some true))) ⟨0⟩)
def zae : Con τ := { args := [.ty 194], L := [], ret := .ty 4, L' := [], R := Bool, dflt := default, F := fun N a b => z4n N a.1, of := fun r => (r, ()) }
noncomputable def zyx : Dat τ := { D := D0, tbl := tblOf [], lp := lpsOf [(2, zxk)], k0 := 0, mu := [], un := [] }
theorem zmv : ConOk E C 90 zae :=
  z9 (D := zyx) ⟨d0Ok, eGood, z7 trivial, fun _ => rfl⟩ zae (fun a b => a) none (fun _ _ => rfl) rfl (fun _ _ h => nomatch h) 1000000 (fn := Tryz.f90) Tryz.func90 rfl (by kernel_rfl) (by kernel_rfl) rfl (by intro N a b; kernel_rfl)
structure zaf where
  t7 : Int
def zgj : List Sl := [.k, .k, .j, .k, .j, .k, .k, .sh (.ty 2), .j, .j, .j, .j, .j, .j, .j, .j, .j, .j]
def zgk : List ESh := []
def zxl (a : Sl.Ts τ zgj) (b : ESh.Ts τ zgk) : zaf := ⟨a.2.2.2.2.2.2.2.1⟩
def zxm (s : zaf) : Sl.Ts τ zgj := ((), (), (), (), (), (), (), s.t7, (), (), (), (), (), (), (), (), (), (), ())
def zxn (s : zaf) : ESh.Ts τ zgk := ()
def zxo : Lp τ := { ts := zgj, hs := zgk, S := zaf, to := zxl, ot := zxm, oh := zxn, hk := [], tk := [], ot_to := fun _ _ => rfl, oh_to := fun _ _ => rfl }
def zvo (N : Nat) (l : List (Int)) : Option (Bool) :=
 (iter N (fun (s1 : zaf) next2 =>
 (bif (decide (s1.t7 < ((l).length : Int))) then
 (bif (ibB s1.t7 ((l).length : Int)) then
 (bif ((decide ((lget l s1.t7 default) < 0)) || (decide (1125899906842624 < (lget l s1.t7 default)))) then
 (some false)
 else
 (next2 ⟨(IntKind.i64.wrap (s1.t7 + 1))⟩))
 else none)
 else
 (some true))) ⟨0⟩)
def zk5 : Con τ := { args := [.ty 60], L := [], ret := .ty 4, L' := [], R := Bool, dflt := default, F := fun N a b => zvo N a.1, of := fun r => (r, ()) }
noncomputable def zyy : Dat τ := { D := D0, tbl := tblOf [], lp := lpsOf [(2, zxo)], k0 := 0, mu := [], un := [] }
theorem z10g : ConOk E C 167 zk5 :=
  z9 (D := zyy) ⟨d0Ok, eGood, z7 trivial, fun _ => rfl⟩ zk5 (fun a b => a) none (fun _ _ => rfl) rfl (fun _ _ h => nomatch h) 1000000 (fn := Tryz.f167) Tryz.func167 rfl (by kernel_rfl) (by kernel_rfl) rfl (by intro N a b; kernel_rfl)
structure zag where
  t7 : Int
def zgl : List Sl := [.k, .k, .j, .k, .j, .k, .k, .sh (.ty 2), .j, .j, .j, .j, .j, .j, .j]
def zgm : List ESh := []
def zxp (a : Sl.Ts τ zgl) (b : ESh.Ts τ zgm) : zag := ⟨a.2.2.2.2.2.2.2.1⟩
def zxq (s : zag) : Sl.Ts τ zgl := ((), (), (), (), (), (), (), s.t7, (), (), (), (), (), (), (), ())
def zxr (s : zag) : ESh.Ts τ zgm := ()
def zxs : Lp τ := { ts := zgl, hs := zgm, S := zag, to := zxp, ot := zxq, oh := zxr, hk := [], tk := [], ot_to := fun _ _ => rfl, oh_to := fun _ _ => rfl }
def zvp (N : Nat) (l : List (List UInt8)) : Option (Bool) :=
 (iter N (fun (s1 : zag) next2 =>
 (bif (decide (s1.t7 < ((l).length : Int))) then
 (bif (ibB s1.t7 ((l).length : Int)) then
 (bif (decide (255 < (((lget l s1.t7 default)).length : Int))) then
 (some false)
 else
 (next2 ⟨(IntKind.i64.wrap (s1.t7 + 1))⟩))
 else none)
 else
 (some true))) ⟨0⟩)
def zk6 : Con τ := { args := [.ty 229], L := [], ret := .ty 4, L' := [], R := Bool, dflt := default, F := fun N a b => zvp N a.1, of := fun r => (r, ()) }
noncomputable def zyz : Dat τ := { D := D0, tbl := tblOf [], lp := lpsOf [(2, zxs)], k0 := 0, mu := [], un := [] }
theorem z10h : ConOk E C 168 zk6 :=
  z9 (D := zyz) ⟨d0Ok, eGood, z7 trivial, fun _ => rfl⟩ zk6 (fun a b => a) none (fun _ _ => rfl) rfl (fun _ _ h => nomatch h) 1000000 (fn := Tryz.f168) Tryz.func168 rfl (by kernel_rfl) (by kernel_rfl) rfl (by intro N a b; kernel_rfl)
def zmw (N : Nat) (op : GOp) : Option (Bool) :=
 ((z1s N [op.Stamp.Time]).bind fun r1 =>
 ((bif r1 then z4n N [op.Stamp.Site] else some default).bind fun r2 =>
 ((bif (((r1 && r2) && (decide (1 ≤ op.Kind))) && (decide (op.Kind ≤ 3))) then zvo N [op.Node, op.Parent] else some default).bind fun r3 =>
 ((bif ((((r1 && r2) && (decide (1 ≤ op.Kind))) && (decide (op.Kind ≤ 3))) && r3) then zvp N [op.Name, op.Key, op.Value] else some default).bind fun r4 =>
 (some (((((r1 && r2) && (decide (1 ≤ op.Kind))) && (decide (op.Kind ≤ 3))) && r3) && r4))))))
def zce : Con τ := { args := [.ty 30], L := [], ret := .ty 4, L' := [], R := Bool, dflt := default, F := fun N a b => zmw N a.1, of := fun r => (r, ()) }
noncomputable def zxt : Dat τ := { D := D0, tbl := tblOf [(95, z2t), (90, zae), (167, zk5), (168, zk6)], lp := lpsOf [], k0 := 0, mu := [], un := [] }
theorem zr8 : ConOk E C 130 zce :=
  z9 (D := zxt) ⟨d0Ok, eGood, z7 ⟨z6m, ⟨zmv, ⟨z10g, ⟨z10h, trivial⟩⟩⟩⟩, fun _ => rfl⟩ zce (fun a b => a) none (fun _ _ => rfl) rfl (fun _ _ h => nomatch h) 1000000 (fn := Tryz.f130) Tryz.func130 rfl (by kernel_rfl) (by kernel_rfl) rfl (by intro N a b; kernel_rfl)
def znu (N : Nat) (op : GOp) : Option (Bool) :=
 ((zmw N op).bind fun r1 =>
 (some (!r1)))
def zcf : Con τ := { args := [.ty 30], L := [], ret := .ty 4, L' := [], R := Bool, dflt := default, F := fun N a b => znu N a.1, of := fun r => (r, ()) }
noncomputable def ztt : Dat τ := { D := D0, tbl := tblOf [(130, zce)], lp := lpsOf [], k0 := 0, mu := [], un := [] }
theorem zuw : ConOk E C 129 zcf :=
  z9 (D := ztt) ⟨d0Ok, eGood, z7 ⟨zr8, trivial⟩, fun _ => rfl⟩ zcf (fun a b => a) none (fun _ _ => rfl) rfl (fun _ _ h => nomatch h) 1000000 (fn := Tryz.f129) Tryz.func129 rfl (by kernel_rfl) (by kernel_rfl) rfl (by intro N a b; kernel_rfl)
structure z20 where
  t8 : Int
def z58 : List Sl := [.k, .k, .k, .k, .j, .j, .k, .k, .sh (.ty 2), .j, .j, .j, .j, .j, .j, .j, .j, .j, .j]
def z59 : List ESh := []
def zgn (a : Sl.Ts τ z58) (b : ESh.Ts τ z59) : z20 := ⟨a.2.2.2.2.2.2.2.2.1⟩
def zgo (s : z20) : Sl.Ts τ z58 := ((), (), (), (), (), (), (), (), s.t8, (), (), (), (), (), (), (), (), (), (), ())
def zgp (s : z20) : ESh.Ts τ z59 := ()
def zgq : Lp τ := { ts := z58, hs := z59, S := z20, to := zgn, ot := zgo, oh := zgp, hk := [], tk := [], ot_to := fun _ _ => rfl, oh_to := fun _ _ => rfl }
def zbh (N : Nat) (s : List (GOp)) : Option (Int) :=
 (iter N (fun (s1 : z20) next2 =>
 (bif (decide (s1.t8 < ((s).length : Int))) then
 (bif (ibB s1.t8 ((s).length : Int)) then
 ((znu N (⟨((lget s s1.t8 default).Stamp), (lget s s1.t8 default).Kind, (lget s s1.t8 default).Node, (lget s s1.t8 default).Parent, (lget s s1.t8 default).Name, (lget s s1.t8 default).Key, (lget s s1.t8 default).Value⟩ : GOp)).bind fun r3 =>
 (bif r3 then
 (some s1.t8)
 else
 (next2 ⟨(IntKind.i64.wrap (s1.t8 + 1))⟩)))
 else none)
 else
 (some (-1)))) ⟨0⟩)
def z5t : Con τ := { args := [.ty 31, .fn 129 []], L := [], ret := .ty 3, L' := [], R := Int, dflt := default, F := fun N a b => zbh N a.1, of := fun r => (r, ()) }
noncomputable def zi2 : Dat τ := { D := D0, tbl := tblOf [(129, zcf)], lp := lpsOf [(2, zgq)], k0 := 0, mu := [], un := [] }
theorem zk7 : ConOk E C 166 z5t :=
  z9 (D := zi2) ⟨d0Ok, eGood, z7 ⟨zuw, trivial⟩, fun _ => rfl⟩ z5t (fun a b => a) none (fun _ _ => rfl) rfl (fun _ _ h => nomatch h) 1000000 (fn := Tryz.f166) Tryz.func166 rfl (by kernel_rfl) (by kernel_rfl) rfl (by intro N a b; kernel_rfl)
def z8v (N : Nat) (s : List (GOp)) : Option (Bool) :=
 ((zbh N s).bind fun r1 =>
 (some (decide (0 ≤ r1))))
def z3x : Con τ := { args := [.ty 31, .fn 129 []], L := [], ret := .ty 4, L' := [], R := Bool, dflt := default, F := fun N a b => z8v N a.1, of := fun r => (r, ()) }
noncomputable def zel : Dat τ := { D := D0, tbl := tblOf [(166, z5t)], lp := lpsOf [], k0 := 0, mu := [], un := [] }
theorem zfn : ConOk E C 128 z3x :=
  z9 (D := zel) ⟨d0Ok, eGood, z7 ⟨zk7, trivial⟩, fun _ => rfl⟩ z3x (fun a b => a) none (fun _ _ => rfl) rfl (fun _ _ h => nomatch h) 1000000 (fn := Tryz.f128) Tryz.func128 rfl (by kernel_rfl) (by kernel_rfl) rfl (by intro N a b; kernel_rfl)
def zah (N : Nat) (l : List (GOp)) (least : Int) : Option (Bool) :=
 ((bif ((decide (least ≤ ((l).length : Int))) && (decide (((l).length : Int) ≤ 4096))) then z8v N l else some default).bind fun r1 =>
 (some (((decide (least ≤ ((l).length : Int))) && (decide (((l).length : Int) ≤ 4096))) && (!r1))))
def zap : Con τ := { args := [.ty 31, .ty 3], L := [], ret := .ty 4, L' := [], R := Bool, dflt := default, F := fun N a b => zah N a.1 a.2.1, of := fun r => (r, ()) }
noncomputable def zwg : Dat τ := { D := D0, tbl := tblOf [(128, z3x)], lp := lpsOf [], k0 := 0, mu := [], un := [] }
theorem zp8 : ConOk E C 91 zap :=
  z9 (D := zwg) ⟨d0Ok, eGood, z7 ⟨zfn, trivial⟩, fun _ => rfl⟩ zap (fun a b => a) none (fun _ _ => rfl) rfl (fun _ _ h => nomatch h) 1000000 (fn := Tryz.f91) Tryz.func91 rfl (by kernel_rfl) (by kernel_rfl) rfl (by intro N a b; kernel_rfl)
structure z63 where
  ok : Bool
  t14 : Int
def zb6 : List Sl := [.k, .k, .k, .sh (.ty 4), .j, .k, .k, .k, .k, .k, .j, .k, .j, .k, .sh (.ty 2), .j, .j, .j, .j, .j, .j, .j, .j, .j, .j, .j, .j, .j, .j, .j, .j, .j, .j, .j, .j, .j, .j, .j, .j, .j, .j, .j, .j, .j, .j, .j, .j, .k]
def zb7 : List ESh := [.keep]
def zsb (a : Sl.Ts τ zb6) (b : ESh.Ts τ zb7) : z63 := ⟨a.2.2.2.1, a.2.2.2.2.2.2.2.2.2.2.2.2.2.2.1⟩
def zsc (s : z63) : Sl.Ts τ zb6 := ((), (), (), s.ok, (), (), (), (), (), (), (), (), (), (), s.t14, (), (), (), (), (), (), (), (), (), (), (), (), (), (), (), (), (), (), (), (), (), (), (), (), (), (), (), (), (), (), (), (), (), ())
def zsd (s : z63) : ESh.Ts τ zb7 := ((), ())
def zse : Lp τ := { ts := zb6, hs := zb7, S := z63, to := zsb, ot := zsc, oh := zsd, hk := [3], tk := [0, 2, 0, 0, 0, 2], ot_to := fun _ _ => rfl, oh_to := fun _ _ => rfl }
structure z5a where
  ok : Bool
  t14 : Int
def z9t : List Sl := [.k, .k, .k, .sh (.ty 4), .j, .k, .k, .k, .k, .k, .j, .k, .k, .k, .sh (.ty 2), .j, .j, .j, .j, .j, .j, .j, .j, .j, .j, .j, .j, .j, .j, .j, .j, .j, .j, .j, .j, .j, .j, .j, .j, .j, .j, .j, .j, .j, .j, .j, .j, .k]
def z9u : List ESh := [.keep]
def zqp (a : Sl.Ts τ z9t) (b : ESh.Ts τ z9u) : z5a := ⟨a.2.2.2.1, a.2.2.2.2.2.2.2.2.2.2.2.2.2.2.1⟩
def zqq (s : z5a) : Sl.Ts τ z9t := ((), (), (), s.ok, (), (), (), (), (), (), (), (), (), (), s.t14, (), (), (), (), (), (), (), (), (), (), (), (), (), (), (), (), (), (), (), (), (), (), (), (), (), (), (), (), (), (), (), (), (), ())
def zqr (s : z5a) : ESh.Ts τ z9u := ((), ())
def zqs : Lp τ := { ts := z9t, hs := z9u, S := z5a, to := zqp, ot := zqq, oh := zqr, hk := [2], tk := [0, 2, 0, 0, 0, 2], ot_to := fun _ _ => rfl, oh_to := fun _ _ => rfl }
def z7s (N : Nat) (e : za) : Option (Bool) :=
 ((z1s N [e.Number]).bind fun r1 =>
 (bif r1 then
 ((bif r1 then z1s N (e.Seals.toList) else some default).bind fun r2 =>
 (iter N (fun (s3 : z63) next4 =>
 (bif (decide (s3.t14 < 8)) then
 (bif (!s3.ok || (ibB s3.t14 8)) then
 (bif (!(s3.ok && (decide (0 ≤ (vget e.States ((s3.t14).toNat) default)))) || (ibB s3.t14 8)) then
 (bif (!((s3.ok && (decide (0 ≤ (vget e.States ((s3.t14).toNat) default)))) && (decide ((vget e.States ((s3.t14).toNat) default) ≤ 3))) || (ibB s3.t14 8)) then
 (bif (!(((s3.ok && (decide (0 ≤ (vget e.States ((s3.t14).toNat) default)))) && (decide ((vget e.States ((s3.t14).toNat) default) ≤ 3))) && (decide ((-1) ≤ (vget e.Sponsor ((s3.t14).toNat) default)))) || (ibB s3.t14 8)) then
 (next4 ⟨((((s3.ok && (decide (0 ≤ (vget e.States ((s3.t14).toNat) default)))) && (decide ((vget e.States ((s3.t14).toNat) default) ≤ 3))) && (decide ((-1) ≤ (vget e.Sponsor ((s3.t14).toNat) default)))) && (decide ((vget e.Sponsor ((s3.t14).toNat) default) < 8))), (IntKind.i64.wrap (s3.t14 + 1))⟩)
 else none)
 else none)
 else none)
 else none)
 else
 (some s3.ok))) ⟨(r1 && r2), 0⟩))
 else
 (iter N (fun (s5 : z5a) next6 =>
 (bif (decide (s5.t14 < 8)) then
 (bif (!s5.ok || (ibB s5.t14 8)) then
 (bif (!(s5.ok && (decide (0 ≤ (vget e.States ((s5.t14).toNat) default)))) || (ibB s5.t14 8)) then
 (bif (!((s5.ok && (decide (0 ≤ (vget e.States ((s5.t14).toNat) default)))) && (decide ((vget e.States ((s5.t14).toNat) default) ≤ 3))) || (ibB s5.t14 8)) then
 (bif (!(((s5.ok && (decide (0 ≤ (vget e.States ((s5.t14).toNat) default)))) && (decide ((vget e.States ((s5.t14).toNat) default) ≤ 3))) && (decide ((-1) ≤ (vget e.Sponsor ((s5.t14).toNat) default)))) || (ibB s5.t14 8)) then
 (next6 ⟨((((s5.ok && (decide (0 ≤ (vget e.States ((s5.t14).toNat) default)))) && (decide ((vget e.States ((s5.t14).toNat) default) ≤ 3))) && (decide ((-1) ≤ (vget e.Sponsor ((s5.t14).toNat) default)))) && (decide ((vget e.Sponsor ((s5.t14).toNat) default) < 8))), (IntKind.i64.wrap (s5.t14 + 1))⟩)
 else none)
 else none)
 else none)
 else none)
 else
 (some s5.ok))) ⟨false, 0⟩)))
def z89 : Con τ := { args := [.ty 36], L := [], ret := .ty 4, L' := [], R := Bool, dflt := default, F := fun N a b => z7s N a.1, of := fun r => (r, ()) }
noncomputable def ztu : Dat τ := { D := D0, tbl := tblOf [(95, z2t)], lp := lpsOf [(3, zse), (3, zqs)], k0 := 0, mu := [], un := [] }
theorem zls : ConOk E C 92 z89 :=
  z9 (D := ztu) ⟨d0Ok, eGood, z7 ⟨z6m, trivial⟩, fun _ => rfl⟩ z89 (fun a b => a) none (fun _ _ => rfl) rfl (fun _ _ h => nomatch h) 1000000 (fn := Tryz.f92) Tryz.func92 rfl (by kernel_rfl) (by kernel_rfl) rfl (by intro N a b; kernel_rfl)
def z3l (N : Nat) (p : GPart) : Option (Bool) :=
 ((z1s N [p.Snap]).bind fun r1 =>
 (some (((((r1 && (decide (1 ≤ p.Many))) && (decide (p.Many ≤ 4096))) && (decide (0 ≤ p.Index))) && (decide (p.Index < p.Many))) && (decide (((p.Data).length : Int) ≤ 16384)))))
def z97 : Con τ := { args := [.ty 39], L := [], ret := .ty 4, L' := [], R := Bool, dflt := default, F := fun N a b => z3l N a.1, of := fun r => (r, ()) }
noncomputable def zux : Dat τ := { D := D0, tbl := tblOf [(95, z2t)], lp := lpsOf [], k0 := 0, mu := [], un := [] }
theorem znv : ConOk E C 93 z97 :=
  z9 (D := zux) ⟨d0Ok, eGood, z7 ⟨z6m, trivial⟩, fun _ => rfl⟩ z97 (fun a b => a) none (fun _ _ => rfl) rfl (fun _ _ h => nomatch h) 1000000 (fn := Tryz.f93) Tryz.func93 rfl (by kernel_rfl) (by kernel_rfl) rfl (by intro N a b; kernel_rfl)
def z8a (N : Nat) (e : zd) : Option (Int) :=
 (bif (e.Kind == 0) then
 ((z17 N (⟨e.Kind, 0, 0, (⟨(⟨0, 0⟩ : zx), 0, 0, 0, [], [], []⟩ : GOp), 0, 0, [], (⟨0, (Vector.replicate 8 (default : Int)), (Vector.replicate 8 (default : Int)), (Vector.replicate 8 (default : Int))⟩ : za), 0, (Vector.replicate 8 (default : Int)), 0, (⟨0, 0, 0, []⟩ : GPart), 0, 0, 0⟩ : zd) e).bind fun r1 =>
 ((z1b N r1).bind fun r2 =>
 (some r2)))
 else
 (bif (e.Kind == 1) then
 ((z1s N [e.Session, e.Request]).bind fun r3 =>
 ((bif ((r3 && (decide (0 < e.Session))) && (decide (0 < e.Request))) then zmw N e.Op else some default).bind fun r4 =>
 ((bif (((r3 && (decide (0 < e.Session))) && (decide (0 < e.Request))) && r4) then z17 N (⟨e.Kind, e.Session, e.Request, e.Op, 0, 0, [], (⟨0, (Vector.replicate 8 (default : Int)), (Vector.replicate 8 (default : Int)), (Vector.replicate 8 (default : Int))⟩ : za), 0, (Vector.replicate 8 (default : Int)), 0, (⟨0, 0, 0, []⟩ : GPart), 0, 0, 0⟩ : zd) e else some default).bind fun r5 =>
 ((z1b N ((((r3 && (decide (0 < e.Session))) && (decide (0 < e.Request))) && r4) && r5)).bind fun r6 =>
 (some r6)))))
 else
 (bif (e.Kind == 2) then
 ((z4n N [e.Origin]).bind fun r7 =>
 ((bif r7 then z1s N [e.Seq] else some default).bind fun r8 =>
 ((bif (r7 && r8) then zah N e.Ops 1 else some default).bind fun r9 =>
 ((bif ((r7 && r8) && r9) then z17 N (⟨e.Kind, 0, 0, (⟨(⟨0, 0⟩ : zx), 0, 0, 0, [], [], []⟩ : GOp), e.Origin, e.Seq, e.Ops, (⟨0, (Vector.replicate 8 (default : Int)), (Vector.replicate 8 (default : Int)), (Vector.replicate 8 (default : Int))⟩ : za), 0, (Vector.replicate 8 (default : Int)), 0, (⟨0, 0, 0, []⟩ : GPart), 0, 0, 0⟩ : zd) e else some default).bind fun r10 =>
 ((z1b N (((r7 && r8) && r9) && r10)).bind fun r11 =>
 (some r11))))))
 else
 (bif (e.Kind == 3) then
 ((z7s N e.Epoch).bind fun r12 =>
 ((bif r12 then z17 N (⟨e.Kind, 0, 0, (⟨(⟨0, 0⟩ : zx), 0, 0, 0, [], [], []⟩ : GOp), 0, 0, [], e.Epoch, 0, (Vector.replicate 8 (default : Int)), 0, (⟨0, 0, 0, []⟩ : GPart), 0, 0, 0⟩ : zd) e else some default).bind fun r13 =>
 ((z1b N (r12 && r13)).bind fun r14 =>
 (some r14))))
 else
 (bif (e.Kind == 4) then
 ((z1s N [e.Seq, e.Clock]).bind fun r15 =>
 ((bif r15 then z4n N [e.From] else some default).bind fun r16 =>
 (bif (r15 && r16) then
 ((bif (r15 && r16) then z1s N (e.Vector_.toList) else some default).bind fun r17 =>
 ((bif ((r15 && r16) && r17) then z17 N (⟨e.Kind, 0, 0, (⟨(⟨0, 0⟩ : zx), 0, 0, 0, [], [], []⟩ : GOp), 0, e.Seq, [], (⟨0, (Vector.replicate 8 (default : Int)), (Vector.replicate 8 (default : Int)), (Vector.replicate 8 (default : Int))⟩ : za), e.From, e.Vector_, e.Clock, (⟨0, 0, 0, []⟩ : GPart), 0, 0, 0⟩ : zd) e else some default).bind fun r18 =>
 ((z1b N (((r15 && r16) && r17) && r18)).bind fun r19 =>
 (some r19))))
 else
 ((bif false then z17 N (⟨e.Kind, 0, 0, (⟨(⟨0, 0⟩ : zx), 0, 0, 0, [], [], []⟩ : GOp), 0, e.Seq, [], (⟨0, (Vector.replicate 8 (default : Int)), (Vector.replicate 8 (default : Int)), (Vector.replicate 8 (default : Int))⟩ : za), e.From, e.Vector_, e.Clock, (⟨0, 0, 0, []⟩ : GPart), 0, 0, 0⟩ : zd) e else some default).bind fun r20 =>
 ((z1b N false).bind fun r21 =>
 (some r21))))))
 else
 (bif (e.Kind == 5) then
 ((z3l N e.Part).bind fun r22 =>
 ((bif r22 then z17 N (⟨e.Kind, 0, 0, (⟨(⟨0, 0⟩ : zx), 0, 0, 0, [], [], []⟩ : GOp), 0, 0, [], (⟨0, (Vector.replicate 8 (default : Int)), (Vector.replicate 8 (default : Int)), (Vector.replicate 8 (default : Int))⟩ : za), 0, (Vector.replicate 8 (default : Int)), 0, e.Part, 0, 0, 0⟩ : zd) e else some default).bind fun r23 =>
 ((z1b N (r22 && r23)).bind fun r24 =>
 (some r24))))
 else
 (bif (e.Kind == 6) then
 ((z4n N [e.Site, e.Sponsor]).bind fun r25 =>
 ((bif r25 then z17 N (⟨e.Kind, 0, 0, (⟨(⟨0, 0⟩ : zx), 0, 0, 0, [], [], []⟩ : GOp), 0, 0, [], (⟨0, (Vector.replicate 8 (default : Int)), (Vector.replicate 8 (default : Int)), (Vector.replicate 8 (default : Int))⟩ : za), 0, (Vector.replicate 8 (default : Int)), 0, (⟨0, 0, 0, []⟩ : GPart), e.Site, e.Sponsor, 0⟩ : zd) e else some default).bind fun r26 =>
 ((z1b N (r25 && r26)).bind fun r27 =>
 (some r27))))
 else
 (bif (e.Kind == 7) then
 ((z4n N [e.Site]).bind fun r28 =>
 ((bif r28 then z17 N (⟨e.Kind, 0, 0, (⟨(⟨0, 0⟩ : zx), 0, 0, 0, [], [], []⟩ : GOp), 0, 0, [], (⟨0, (Vector.replicate 8 (default : Int)), (Vector.replicate 8 (default : Int)), (Vector.replicate 8 (default : Int))⟩ : za), 0, (Vector.replicate 8 (default : Int)), 0, (⟨0, 0, 0, []⟩ : GPart), e.Site, 0, 0⟩ : zd) e else some default).bind fun r29 =>
 ((z1b N (r28 && r29)).bind fun r30 =>
 (some r30))))
 else
 (bif (e.Kind == 8) then
 ((z4n N [e.Site]).bind fun r31 =>
 ((bif r31 then z1s N [e.Length] else some default).bind fun r32 =>
 ((bif (r31 && r32) then z17 N (⟨e.Kind, 0, 0, (⟨(⟨0, 0⟩ : zx), 0, 0, 0, [], [], []⟩ : GOp), 0, 0, [], (⟨0, (Vector.replicate 8 (default : Int)), (Vector.replicate 8 (default : Int)), (Vector.replicate 8 (default : Int))⟩ : za), 0, (Vector.replicate 8 (default : Int)), 0, (⟨0, 0, 0, []⟩ : GPart), e.Site, 0, e.Length⟩ : zd) e else some default).bind fun r33 =>
 ((z1b N ((r31 && r32) && r33)).bind fun r34 =>
 (some r34)))))
 else
 ((bif false then z17 N (⟨e.Kind, 0, 0, (⟨(⟨0, 0⟩ : zx), 0, 0, 0, [], [], []⟩ : GOp), 0, 0, [], (⟨0, (Vector.replicate 8 (default : Int)), (Vector.replicate 8 (default : Int)), (Vector.replicate 8 (default : Int))⟩ : za), 0, (Vector.replicate 8 (default : Int)), 0, (⟨0, 0, 0, []⟩ : GPart), 0, 0, 0⟩ : zd) e else some default).bind fun r35 =>
 ((z1b N false).bind fun r36 =>
 (some r36))))))))))))
def z6x : Con τ := { args := [.ty 41], L := [], ret := .ty 48, L' := [], R := Int, dflt := default, F := fun N a b => z8a N a.1, of := fun r => (r, ()) }
noncomputable def zqt : Dat τ := { D := D0, tbl := tblOf [(133, z57), (98, z96), (95, z2t), (130, zce), (90, zae), (91, zap), (92, z89), (93, z97)], lp := lpsOf [], k0 := 0, mu := [], un := [] }
theorem zgr : ConOk E C 97 z6x :=
  z9 (D := zqt) ⟨d0Ok, eGood, z7 ⟨zcd, ⟨znt, ⟨z6m, ⟨zr8, ⟨zmv, ⟨zp8, ⟨zls, ⟨znv, trivial⟩⟩⟩⟩⟩⟩⟩⟩, fun _ => rfl⟩ z6x (fun a b => a) none (fun _ _ => rfl) rfl (fun _ _ h => nomatch h) 1000000 (fn := Tryz.f97) Tryz.func97 rfl (by kernel_rfl) (by kernel_rfl) rfl (by intro N a b; kernel_rfl)
def zez (N : Nat) (x : zv) : Option (Bool) :=
 ((z1s N [x.Slot]).bind fun r1 =>
 ((bif (!(!r1)) then zdh N x.Ballot else some default).bind fun r2 =>
 ((bif (!((!r1) || (!r2))) then z8a N x.Entry else some default).bind fun r3 =>
 (some (((!r1) || (!r2)) || (!(r3 == 0)))))))
def z7z : Con τ := { args := [.ty 155], L := [], ret := .ty 4, L' := [], R := Bool, dflt := default, F := fun N a b => zez N a.1, of := fun r => (r, ()) }
noncomputable def zo6 : Dat τ := { D := D0, tbl := tblOf [(95, z2t), (94, z7g), (97, z6x)], lp := lpsOf [], k0 := 0, mu := [], un := [] }
theorem zp9 : ConOk E C 132 z7z :=
  z9 (D := zo6) ⟨d0Ok, eGood, z7 ⟨z6m, ⟨zj0, ⟨zgr, trivial⟩⟩⟩, fun _ => rfl⟩ z7z (fun a b => a) none (fun _ _ => rfl) rfl (fun _ _ h => nomatch h) 1000000 (fn := Tryz.f132) Tryz.func132 rfl (by kernel_rfl) (by kernel_rfl) rfl (by intro N a b; kernel_rfl)
structure z1g where
  t8 : Int
def z31 : List Sl := [.k, .k, .k, .k, .j, .j, .k, .k, .sh (.ty 2), .j, .j, .j, .j, .j, .j, .j, .j, .j, .j]
def z32 : List ESh := []
def zcq (a : Sl.Ts τ z31) (b : ESh.Ts τ z32) : z1g := ⟨a.2.2.2.2.2.2.2.2.1⟩
def zcr (s : z1g) : Sl.Ts τ z31 := ((), (), (), (), (), (), (), (), s.t8, (), (), (), (), (), (), (), (), (), (), ())
def zcs (s : z1g) : ESh.Ts τ z32 := ()
def zct : Lp τ := { ts := z31, hs := z32, S := z1g, to := zcq, ot := zcr, oh := zcs, hk := [], tk := [], ot_to := fun _ _ => rfl, oh_to := fun _ _ => rfl }
def z7t (N : Nat) (s : List (zv)) : Option (Int) :=
 (iter N (fun (s1 : z1g) next2 =>
 (bif (decide (s1.t8 < ((s).length : Int))) then
 (bif (ibB s1.t8 ((s).length : Int)) then
 ((zez N (⟨(lget s s1.t8 default).Slot, ((lget s s1.t8 default).Ballot), (⟨((lget s s1.t8 default).Entry).Kind, ((lget s s1.t8 default).Entry).Session, ((lget s s1.t8 default).Entry).Request, (⟨((((lget s s1.t8 default).Entry).Op).Stamp), (((lget s s1.t8 default).Entry).Op).Kind, (((lget s s1.t8 default).Entry).Op).Node, (((lget s s1.t8 default).Entry).Op).Parent, (((lget s s1.t8 default).Entry).Op).Name, (((lget s s1.t8 default).Entry).Op).Key, (((lget s s1.t8 default).Entry).Op).Value⟩ : GOp), ((lget s s1.t8 default).Entry).Origin, ((lget s s1.t8 default).Entry).Seq, ((lget s s1.t8 default).Entry).Ops, (((lget s s1.t8 default).Entry).Epoch), ((lget s s1.t8 default).Entry).From, ((lget s s1.t8 default).Entry).Vector_, ((lget s s1.t8 default).Entry).Clock, (((lget s s1.t8 default).Entry).Part), ((lget s s1.t8 default).Entry).Site, ((lget s s1.t8 default).Entry).Sponsor, ((lget s s1.t8 default).Entry).Length⟩ : zd)⟩ : zv)).bind fun r3 =>
 (bif r3 then
 (some s1.t8)
 else
 (next2 ⟨(IntKind.i64.wrap (s1.t8 + 1))⟩)))
 else none)
 else
 (some (-1)))) ⟨0⟩)
def z3c : Con τ := { args := [.ty 26, .fn 132 []], L := [], ret := .ty 3, L' := [], R := Int, dflt := default, F := fun N a b => z7t N a.1, of := fun r => (r, ()) }
noncomputable def zdi : Dat τ := { D := D0, tbl := tblOf [(132, z7z)], lp := lpsOf [(2, zct)], k0 := 0, mu := [], un := [] }
theorem zdu : ConOk E C 169 z3c :=
  z9 (D := zdi) ⟨d0Ok, eGood, z7 ⟨zp9, trivial⟩, fun _ => rfl⟩ z3c (fun a b => a) none (fun _ _ => rfl) rfl (fun _ _ h => nomatch h) 1000000 (fn := Tryz.f169) Tryz.func169 rfl (by kernel_rfl) (by kernel_rfl) rfl (by intro N a b; kernel_rfl)
def z6v (N : Nat) (s : List (zv)) : Option (Bool) :=
 ((z7t N s).bind fun r1 =>
 (some (decide (0 ≤ r1))))
def z2n : Con τ := { args := [.ty 26, .fn 132 []], L := [], ret := .ty 4, L' := [], R := Bool, dflt := default, F := fun N a b => z6v N a.1, of := fun r => (r, ()) }
noncomputable def zbo : Dat τ := { D := D0, tbl := tblOf [(169, z3c)], lp := lpsOf [], k0 := 0, mu := [], un := [] }
theorem zcg : ConOk E C 131 z2n :=
  z9 (D := zbo) ⟨d0Ok, eGood, z7 ⟨zdu, trivial⟩, fun _ => rfl⟩ z2n (fun a b => a) none (fun _ _ => rfl) rfl (fun _ _ h => nomatch h) 1000000 (fn := Tryz.f131) Tryz.func131 rfl (by kernel_rfl) (by kernel_rfl) rfl (by intro N a b; kernel_rfl)
def zch (N : Nat) (l : List (zv)) (least : Int) (most : Int) : Option (Bool) :=
 ((bif ((decide (least ≤ ((l).length : Int))) && (decide (((l).length : Int) ≤ most))) then z6v N l else some default).bind fun r1 =>
 (some (((decide (least ≤ ((l).length : Int))) && (decide (((l).length : Int) ≤ most))) && (!r1))))
def z9v : Con τ := { args := [.ty 26, .ty 3, .ty 3], L := [], ret := .ty 4, L' := [], R := Bool, dflt := default, F := fun N a b => zch N a.1 a.2.1 a.2.2.1, of := fun r => (r, ()) }
noncomputable def zqu : Dat τ := { D := D0, tbl := tblOf [(131, z2n)], lp := lpsOf [], k0 := 0, mu := [], un := [] }
theorem zsf : ConOk E C 96 z9v :=
  z9 (D := zqu) ⟨d0Ok, eGood, z7 ⟨zcg, trivial⟩, fun _ => rfl⟩ z9v (fun a b => a) none (fun _ _ => rfl) rfl (fun _ _ h => nomatch h) 1000000 (fn := Tryz.f96) Tryz.func96 rfl (by kernel_rfl) (by kernel_rfl) rfl (by intro N a b; kernel_rfl)
def zgs (N : Nat) (a : zv) (b : zv) : Option (Bool) :=
 ((bif ((a.Slot == b.Slot) && ((a.Ballot.Round == b.Ballot.Round) && (a.Ballot.Replica == b.Ballot.Replica))) then z17 N a.Entry b.Entry else some default).bind fun r1 =>
 (some (((a.Slot == b.Slot) && ((a.Ballot.Round == b.Ballot.Round) && (a.Ballot.Replica == b.Ballot.Replica))) && r1)))
def z8w : Con τ := { args := [.ty 155, .ty 155], L := [], ret := .ty 4, L' := [], R := Bool, dflt := default, F := fun N a b => zgs N a.1 a.2.1, of := fun r => (r, ()) }
noncomputable def zpa : Dat τ := { D := D0, tbl := tblOf [(133, z57)], lp := lpsOf [], k0 := 0, mu := [], un := [] }
theorem zqv : ConOk E C 135 z8w :=
  z9 (D := zpa) ⟨d0Ok, eGood, z7 ⟨zcd, trivial⟩, fun _ => rfl⟩ z8w (fun a b => a) none (fun _ _ => rfl) rfl (fun _ _ h => nomatch h) 1000000 (fn := Tryz.f135) Tryz.func135 rfl (by kernel_rfl) (by kernel_rfl) rfl (by intro N a b; kernel_rfl)
structure z1h where
  t17 : Int
def z33 : List Sl := [.k, .k, .k, .k, .k, .k, .j, .j, .j, .j, .k, .k, .k, .k, .k, .k, .k, .sh (.ty 2), .j, .j, .j, .j, .j, .j, .j, .j, .j, .j, .j, .j, .j, .j]
def z34 : List ESh := []
def zcu (a : Sl.Ts τ z33) (b : ESh.Ts τ z34) : z1h := ⟨a.2.2.2.2.2.2.2.2.2.2.2.2.2.2.2.2.2.1⟩
def zcv (s : z1h) : Sl.Ts τ z33 := ((), (), (), (), (), (), (), (), (), (), (), (), (), (), (), (), (), s.t17, (), (), (), (), (), (), (), (), (), (), (), (), (), (), ())
def zcw (s : z1h) : ESh.Ts τ z34 := ()
def zcx : Lp τ := { ts := z33, hs := z34, S := z1h, to := zcu, ot := zcv, oh := zcw, hk := [], tk := [], ot_to := fun _ _ => rfl, oh_to := fun _ _ => rfl }
def z7u (N : Nat) (s1_ : List (zv)) (s2_ : List (zv)) : Option (Bool) :=
 (bif (!(((s1_).length : Int) == ((s2_).length : Int))) then
 (some false)
 else
 (iter N (fun (s1 : z1h) next2 =>
 (bif (decide (s1.t17 < ((s1_).length : Int))) then
 (bif (ibB s1.t17 ((s1_).length : Int)) then
 (bif (ibB s1.t17 ((s2_).length : Int)) then
 ((zgs N (⟨(lget s1_ s1.t17 default).Slot, ((lget s1_ s1.t17 default).Ballot), (⟨((lget s1_ s1.t17 default).Entry).Kind, ((lget s1_ s1.t17 default).Entry).Session, ((lget s1_ s1.t17 default).Entry).Request, (⟨((((lget s1_ s1.t17 default).Entry).Op).Stamp), (((lget s1_ s1.t17 default).Entry).Op).Kind, (((lget s1_ s1.t17 default).Entry).Op).Node, (((lget s1_ s1.t17 default).Entry).Op).Parent, (((lget s1_ s1.t17 default).Entry).Op).Name, (((lget s1_ s1.t17 default).Entry).Op).Key, (((lget s1_ s1.t17 default).Entry).Op).Value⟩ : GOp), ((lget s1_ s1.t17 default).Entry).Origin, ((lget s1_ s1.t17 default).Entry).Seq, ((lget s1_ s1.t17 default).Entry).Ops, (((lget s1_ s1.t17 default).Entry).Epoch), ((lget s1_ s1.t17 default).Entry).From, ((lget s1_ s1.t17 default).Entry).Vector_, ((lget s1_ s1.t17 default).Entry).Clock, (((lget s1_ s1.t17 default).Entry).Part), ((lget s1_ s1.t17 default).Entry).Site, ((lget s1_ s1.t17 default).Entry).Sponsor, ((lget s1_ s1.t17 default).Entry).Length⟩ : zd)⟩ : zv) (⟨(lget s2_ s1.t17 default).Slot, ((lget s2_ s1.t17 default).Ballot), (⟨((lget s2_ s1.t17 default).Entry).Kind, ((lget s2_ s1.t17 default).Entry).Session, ((lget s2_ s1.t17 default).Entry).Request, (⟨((((lget s2_ s1.t17 default).Entry).Op).Stamp), (((lget s2_ s1.t17 default).Entry).Op).Kind, (((lget s2_ s1.t17 default).Entry).Op).Node, (((lget s2_ s1.t17 default).Entry).Op).Parent, (((lget s2_ s1.t17 default).Entry).Op).Name, (((lget s2_ s1.t17 default).Entry).Op).Key, (((lget s2_ s1.t17 default).Entry).Op).Value⟩ : GOp), ((lget s2_ s1.t17 default).Entry).Origin, ((lget s2_ s1.t17 default).Entry).Seq, ((lget s2_ s1.t17 default).Entry).Ops, (((lget s2_ s1.t17 default).Entry).Epoch), ((lget s2_ s1.t17 default).Entry).From, ((lget s2_ s1.t17 default).Entry).Vector_, ((lget s2_ s1.t17 default).Entry).Clock, (((lget s2_ s1.t17 default).Entry).Part), ((lget s2_ s1.t17 default).Entry).Site, ((lget s2_ s1.t17 default).Entry).Sponsor, ((lget s2_ s1.t17 default).Entry).Length⟩ : zd)⟩ : zv)).bind fun r3 =>
 (bif (!r3) then
 (some false)
 else
 (next2 ⟨(IntKind.i64.wrap (s1.t17 + 1))⟩)))
 else none)
 else none)
 else
 (some true))) ⟨0⟩))
def z3d : Con τ := { args := [.ty 26, .ty 26, .fn 135 []], L := [], ret := .ty 4, L' := [], R := Bool, dflt := default, F := fun N a b => z7u N a.1 a.2.1, of := fun r => (r, ()) }
noncomputable def zdj : Dat τ := { D := D0, tbl := tblOf [(135, z8w)], lp := lpsOf [(4, zcx)], k0 := 0, mu := [], un := [] }
theorem zdv : ConOk E C 134 z3d :=
  z9 (D := zdj) ⟨d0Ok, eGood, z7 ⟨zqv, trivial⟩, fun _ => rfl⟩ z3d (fun a b => a) none (fun _ _ => rfl) rfl (fun _ _ h => nomatch h) 1000000 (fn := Tryz.f134) Tryz.func134 rfl (by kernel_rfl) (by kernel_rfl) rfl (by intro N a b; kernel_rfl)
def zgt (N : Nat) (a : GMsg) (b : GMsg) : Option (Bool) :=
 ((bif (((((a.Kind == b.Kind) && ((a.From.Group == b.From.Group) && (a.From.Replica == b.From.Replica))) && ((a.To.Group == b.To.Group) && (a.To.Replica == b.To.Replica))) && ((a.Ballot.Round == b.Ballot.Round) && (a.Ballot.Replica == b.Ballot.Replica))) && (a.Slot == b.Slot)) then z7u N a.List_ b.List_ else some default).bind fun r1 =>
 ((bif ((((((a.Kind == b.Kind) && ((a.From.Group == b.From.Group) && (a.From.Replica == b.From.Replica))) && ((a.To.Group == b.To.Group) && (a.To.Replica == b.To.Replica))) && ((a.Ballot.Round == b.Ballot.Round) && (a.Ballot.Replica == b.Ballot.Replica))) && (a.Slot == b.Slot)) && r1) then z17 N a.Entry b.Entry else some default).bind fun r2 =>
 ((bif (((((((((((a.Kind == b.Kind) && ((a.From.Group == b.From.Group) && (a.From.Replica == b.From.Replica))) && ((a.To.Group == b.To.Group) && (a.To.Replica == b.To.Replica))) && ((a.Ballot.Round == b.Ballot.Round) && (a.Ballot.Replica == b.Ballot.Replica))) && (a.Slot == b.Slot)) && r1) && r2) && (a.Number == b.Number)) && (vbeq beq2 a.Vector_ b.Vector_)) && (a.Clock == b.Clock)) && (a.Origin == b.Origin)) then zej N a.Ops b.Ops else some default).bind fun r3 =>
 ((bif (((((((((((((a.Kind == b.Kind) && ((a.From.Group == b.From.Group) && (a.From.Replica == b.From.Replica))) && ((a.To.Group == b.To.Group) && (a.To.Replica == b.To.Replica))) && ((a.Ballot.Round == b.Ballot.Round) && (a.Ballot.Replica == b.Ballot.Replica))) && (a.Slot == b.Slot)) && r1) && r2) && (a.Number == b.Number)) && (vbeq beq2 a.Vector_ b.Vector_)) && (a.Clock == b.Clock)) && (a.Origin == b.Origin)) && r3) && ((a.Epoch.Number == b.Epoch.Number) && ((vbeq beq3 a.Epoch.States b.Epoch.States) && ((vbeq beq2 a.Epoch.Seals b.Epoch.Seals) && (vbeq beq3 a.Epoch.Sponsor b.Epoch.Sponsor))))) then zek N a.Part b.Part else some default).bind fun r4 =>
 (some ((((((((((((((a.Kind == b.Kind) && ((a.From.Group == b.From.Group) && (a.From.Replica == b.From.Replica))) && ((a.To.Group == b.To.Group) && (a.To.Replica == b.To.Replica))) && ((a.Ballot.Round == b.Ballot.Round) && (a.Ballot.Replica == b.Ballot.Replica))) && (a.Slot == b.Slot)) && r1) && r2) && (a.Number == b.Number)) && (vbeq beq2 a.Vector_ b.Vector_)) && (a.Clock == b.Clock)) && (a.Origin == b.Origin)) && r3) && ((a.Epoch.Number == b.Epoch.Number) && ((vbeq beq3 a.Epoch.States b.Epoch.States) && ((vbeq beq2 a.Epoch.Seals b.Epoch.Seals) && (vbeq beq3 a.Epoch.Sponsor b.Epoch.Sponsor))))) && r4))))))
def zdk : Con τ := { args := [.ty 43, .ty 43], L := [], ret := .ty 4, L' := [], R := Bool, dflt := default, F := fun N a b => zgt N a.1 a.2.1, of := fun r => (r, ()) }
noncomputable def zuy : Dat τ := { D := D0, tbl := tblOf [(134, z3d), (133, z57), (136, z87), (137, z88)], lp := lpsOf [], k0 := 0, mu := [], un := [] }
theorem zwh : ConOk E C 99 zdk :=
  z9 (D := zuy) ⟨d0Ok, eGood, z7 ⟨zdv, ⟨zcd, ⟨zlq, ⟨zlr, trivial⟩⟩⟩⟩, fun _ => rfl⟩ zdk (fun a b => a) none (fun _ _ => rfl) rfl (fun _ _ h => nomatch h) 1000000 (fn := Tryz.f99) Tryz.func99 rfl (by kernel_rfl) (by kernel_rfl) rfl (by intro N a b; kernel_rfl)
structure z8 where
  ok : Bool
  b0 : GMsg
  b1 : GMsg
def zb8 : List Sl := [.k, .sh (.ptr 0 []), .j, .sh (.ptr 1 []), .sh (.ty 4), .j, .j, .j, .j, .j, .j, .j, .j, .j, .j, .j, .j, .j, .j, .j, .j, .j, .j, .j, .j, .j, .j, .j, .j, .j, .j, .j, .j, .j, .j, .j, .j, .j, .j, .j, .j, .j, .j, .j, .j, .j, .j, .j, .j, .j, .j, .j, .j, .j, .j, .j, .j, .j, .j, .j, .j, .j, .j, .j, .j, .j, .j, .j, .j, .j, .j, .j, .j, .j, .j, .j, .j, .j, .j, .j, .j, .j, .j, .j, .j, .j, .j, .j, .j, .j, .j, .j, .j, .j, .j, .j, .j, .j, .j, .j, .j, .j, .j, .j, .j, .j, .j, .j, .j, .j, .j, .j, .j, .j, .j, .j, .j, .j, .j, .j, .j, .j, .j, .j, .j, .j, .j, .j, .j, .j, .j, .j, .j, .j, .j, .j, .j, .j, .j, .j, .j, .j, .j, .j, .j, .j, .j, .j, .j, .j, .j, .j, .j, .j, .j, .j, .j, .j, .j, .j, .j, .j, .j, .j, .k, .k, .k, .k, .k, .k, .k, .k, .k, .k, .k, .k, .k, .k, .k, .k, .k, .k, .k, .k, .k, .k, .k, .k, .k, .k, .k, .k, .k, .k, .k, .k, .k, .k, .k, .k, .k, .k, .k]
def zb9 : List ESh := [.box (.ty 42), .box (.ty 42)]
def zsg (a : Sl.Ts τ zb8) (b : ESh.Ts τ zb9) : z8 := ⟨a.2.2.2.2.1, b.1, b.2.1⟩
def zsh (s : z8) : Sl.Ts τ zb8 := ((), (), (), (), s.ok, (), (), (), (), (), (), (), (), (), (), (), (), (), (), (), (), (), (), (), (), (), (), (), (), (), (), (), (), (), (), (), (), (), (), (), (), (), (), (), (), (), (), (), (), (), (), (), (), (), (), (), (), (), (), (), (), (), (), (), (), (), (), (), (), (), (), (), (), (), (), (), (), (), (), (), (), (), (), (), (), (), (), (), (), (), (), (), (), (), (), (), (), (), (), (), (), (), (), (), (), (), (), (), (), (), (), (), (), (), (), (), (), (), (), (), (), (), (), (), (), (), (), (), (), (), (), (), (), (), (), (), (), (), (), (), (), (), (), (), (), (), (), (), (), (), (), (), (), (), (), (), (), (), (), (), (), (), (), (), (), (), (), (), (), (), (), (), (), (), (), (), (), (), (), (), (), (), (), (), (), (), (), (), (), (), (), (), (), (), (), (), (), (), (), (), (), (), (), ())
def zsi (s : z8) : ESh.Ts τ zb9 := (s.b0, s.b1, ())
def zsj : Lp τ := { ts := zb8, hs := zb9, S := z8, to := zsg, ot := zsh, oh := zsi, hk := [], tk := [], ot_to := fun _ _ => rfl, oh_to := fun _ _ => rfl }
def znw (N : Nat) (m : GMsg) : Option (z8 ⊕ (Int)) :=
 ((zp7 N [m.From, m.To]).bind fun r1 =>
 (bif (m.Kind == 1) then
 (bif (m.Kind == 1) then
 (some (.inl (⟨r1, m, (⟨m.Kind, m.From, m.To, m.Ballot, m.Slot, [], (⟨0, 0, 0, (⟨(⟨0, 0⟩ : zx), 0, 0, 0, [], [], []⟩ : GOp), 0, 0, [], (⟨0, (Vector.replicate 8 (default : Int)), (Vector.replicate 8 (default : Int)), (Vector.replicate 8 (default : Int))⟩ : za), 0, (Vector.replicate 8 (default : Int)), 0, (⟨0, 0, 0, []⟩ : GPart), 0, 0, 0⟩ : zd), 0, (Vector.replicate 8 (default : Int)), 0, 0, [], (⟨0, (Vector.replicate 8 (default : Int)), (Vector.replicate 8 (default : Int)), (Vector.replicate 8 (default : Int))⟩ : za), (⟨0, 0, 0, []⟩ : GPart)⟩ : GMsg)⟩ : z8)))
 else
 (bif (m.Kind == 2) then
 (some (.inl (⟨r1, m, (⟨m.Kind, m.From, m.To, m.Ballot, m.Slot, m.List_, (⟨0, 0, 0, (⟨(⟨0, 0⟩ : zx), 0, 0, 0, [], [], []⟩ : GOp), 0, 0, [], (⟨0, (Vector.replicate 8 (default : Int)), (Vector.replicate 8 (default : Int)), (Vector.replicate 8 (default : Int))⟩ : za), 0, (Vector.replicate 8 (default : Int)), 0, (⟨0, 0, 0, []⟩ : GPart), 0, 0, 0⟩ : zd), 0, (Vector.replicate 8 (default : Int)), 0, 0, [], (⟨0, (Vector.replicate 8 (default : Int)), (Vector.replicate 8 (default : Int)), (Vector.replicate 8 (default : Int))⟩ : za), (⟨0, 0, 0, []⟩ : GPart)⟩ : GMsg)⟩ : z8)))
 else
 (bif (m.Kind == 3) then
 (some (.inl (⟨(r1 && (((m.List_).length : Int) == 1)), m, (⟨m.Kind, m.From, m.To, m.Ballot, 0, m.List_, (⟨0, 0, 0, (⟨(⟨0, 0⟩ : zx), 0, 0, 0, [], [], []⟩ : GOp), 0, 0, [], (⟨0, (Vector.replicate 8 (default : Int)), (Vector.replicate 8 (default : Int)), (Vector.replicate 8 (default : Int))⟩ : za), 0, (Vector.replicate 8 (default : Int)), 0, (⟨0, 0, 0, []⟩ : GPart), 0, 0, 0⟩ : zd), 0, (Vector.replicate 8 (default : Int)), 0, 0, [], (⟨0, (Vector.replicate 8 (default : Int)), (Vector.replicate 8 (default : Int)), (Vector.replicate 8 (default : Int))⟩ : za), (⟨0, 0, 0, []⟩ : GPart)⟩ : GMsg)⟩ : z8)))
 else
 (bif (m.Kind == 5) then
 (some (.inl (⟨r1, m, (⟨m.Kind, m.From, m.To, m.Ballot, 0, [], (⟨0, 0, 0, (⟨(⟨0, 0⟩ : zx), 0, 0, 0, [], [], []⟩ : GOp), 0, 0, [], (⟨0, (Vector.replicate 8 (default : Int)), (Vector.replicate 8 (default : Int)), (Vector.replicate 8 (default : Int))⟩ : za), 0, (Vector.replicate 8 (default : Int)), 0, (⟨0, 0, 0, []⟩ : GPart), 0, 0, 0⟩ : zd), 0, (Vector.replicate 8 (default : Int)), 0, 0, [], (⟨0, (Vector.replicate 8 (default : Int)), (Vector.replicate 8 (default : Int)), (Vector.replicate 8 (default : Int))⟩ : za), (⟨0, 0, 0, []⟩ : GPart)⟩ : GMsg)⟩ : z8)))
 else
 (bif (m.Kind == 6) then
 (some (.inl (⟨(r1 && (decide (1 ≤ ((m.List_).length : Int)))), m, (⟨m.Kind, m.From, m.To, (⟨0, 0⟩ : zq), 0, m.List_, (⟨0, 0, 0, (⟨(⟨0, 0⟩ : zx), 0, 0, 0, [], [], []⟩ : GOp), 0, 0, [], (⟨0, (Vector.replicate 8 (default : Int)), (Vector.replicate 8 (default : Int)), (Vector.replicate 8 (default : Int))⟩ : za), 0, (Vector.replicate 8 (default : Int)), 0, (⟨0, 0, 0, []⟩ : GPart), 0, 0, 0⟩ : zd), 0, (Vector.replicate 8 (default : Int)), 0, 0, [], (⟨0, (Vector.replicate 8 (default : Int)), (Vector.replicate 8 (default : Int)), (Vector.replicate 8 (default : Int))⟩ : za), (⟨0, 0, 0, []⟩ : GPart)⟩ : GMsg)⟩ : z8)))
 else
 (bif (m.Kind == 8) then
 (some (.inl (⟨r1, m, (⟨m.Kind, m.From, m.To, (⟨0, 0⟩ : zq), m.Slot, [], (⟨0, 0, 0, (⟨(⟨0, 0⟩ : zx), 0, 0, 0, [], [], []⟩ : GOp), 0, 0, [], (⟨0, (Vector.replicate 8 (default : Int)), (Vector.replicate 8 (default : Int)), (Vector.replicate 8 (default : Int))⟩ : za), 0, (Vector.replicate 8 (default : Int)), 0, (⟨0, 0, 0, []⟩ : GPart), 0, 0, 0⟩ : zd), 0, (Vector.replicate 8 (default : Int)), 0, 0, [], (⟨0, (Vector.replicate 8 (default : Int)), (Vector.replicate 8 (default : Int)), (Vector.replicate 8 (default : Int))⟩ : za), (⟨0, 0, 0, []⟩ : GPart)⟩ : GMsg)⟩ : z8)))
 else
 (bif (m.Kind == 9) then
 (some (.inl (⟨r1, m, (⟨m.Kind, m.From, m.To, (⟨0, 0⟩ : zq), 0, [], m.Entry, 0, (Vector.replicate 8 (default : Int)), 0, 0, [], (⟨0, (Vector.replicate 8 (default : Int)), (Vector.replicate 8 (default : Int)), (Vector.replicate 8 (default : Int))⟩ : za), (⟨0, 0, 0, []⟩ : GPart)⟩ : GMsg)⟩ : z8)))
 else
 (bif (m.Kind == 10) then
 (some (.inl (⟨r1, m, (⟨m.Kind, m.From, m.To, (⟨0, 0⟩ : zq), 0, [], (⟨0, 0, 0, (⟨(⟨0, 0⟩ : zx), 0, 0, 0, [], [], []⟩ : GOp), 0, 0, [], (⟨0, (Vector.replicate 8 (default : Int)), (Vector.replicate 8 (default : Int)), (Vector.replicate 8 (default : Int))⟩ : za), 0, (Vector.replicate 8 (default : Int)), 0, (⟨0, 0, 0, []⟩ : GPart), 0, 0, 0⟩ : zd), m.Number, m.Vector_, m.Clock, 0, [], (⟨0, (Vector.replicate 8 (default : Int)), (Vector.replicate 8 (default : Int)), (Vector.replicate 8 (default : Int))⟩ : za), (⟨0, 0, 0, []⟩ : GPart)⟩ : GMsg)⟩ : z8)))
 else
 (bif (m.Kind == 11) then
 ((bif r1 then z4n N [m.Origin] else some default).bind fun r2 =>
 ((bif (r1 && r2) then zah N m.Ops 1 else some default).bind fun r3 =>
 (some (.inl (⟨((r1 && r2) && r3), m, (⟨m.Kind, m.From, m.To, (⟨0, 0⟩ : zq), m.Slot, [], (⟨0, 0, 0, (⟨(⟨0, 0⟩ : zx), 0, 0, 0, [], [], []⟩ : GOp), 0, 0, [], (⟨0, (Vector.replicate 8 (default : Int)), (Vector.replicate 8 (default : Int)), (Vector.replicate 8 (default : Int))⟩ : za), 0, (Vector.replicate 8 (default : Int)), 0, (⟨0, 0, 0, []⟩ : GPart), 0, 0, 0⟩ : zd), m.Number, (Vector.replicate 8 (default : Int)), 0, m.Origin, m.Ops, (⟨0, (Vector.replicate 8 (default : Int)), (Vector.replicate 8 (default : Int)), (Vector.replicate 8 (default : Int))⟩ : za), (⟨0, 0, 0, []⟩ : GPart)⟩ : GMsg)⟩ : z8)))))
 else
 (bif (m.Kind == 12) then
 ((bif r1 then z7s N m.Epoch else some default).bind fun r4 =>
 (some (.inl (⟨(r1 && r4), m, (⟨m.Kind, m.From, m.To, (⟨0, 0⟩ : zq), 0, [], (⟨0, 0, 0, (⟨(⟨0, 0⟩ : zx), 0, 0, 0, [], [], []⟩ : GOp), 0, 0, [], (⟨0, (Vector.replicate 8 (default : Int)), (Vector.replicate 8 (default : Int)), (Vector.replicate 8 (default : Int))⟩ : za), 0, (Vector.replicate 8 (default : Int)), 0, (⟨0, 0, 0, []⟩ : GPart), 0, 0, 0⟩ : zd), 0, (Vector.replicate 8 (default : Int)), 0, 0, [], m.Epoch, (⟨0, 0, 0, []⟩ : GPart)⟩ : GMsg)⟩ : z8))))
 else
 (bif (m.Kind == 13) then
 ((bif r1 then z3l N m.Part else some default).bind fun r5 =>
 (some (.inl (⟨(r1 && r5), m, (⟨m.Kind, m.From, m.To, (⟨0, 0⟩ : zq), 0, [], (⟨0, 0, 0, (⟨(⟨0, 0⟩ : zx), 0, 0, 0, [], [], []⟩ : GOp), 0, 0, [], (⟨0, (Vector.replicate 8 (default : Int)), (Vector.replicate 8 (default : Int)), (Vector.replicate 8 (default : Int))⟩ : za), 0, (Vector.replicate 8 (default : Int)), 0, (⟨0, 0, 0, []⟩ : GPart), 0, 0, 0⟩ : zd), 0, (Vector.replicate 8 (default : Int)), 0, 0, [], (⟨0, (Vector.replicate 8 (default : Int)), (Vector.replicate 8 (default : Int)), (Vector.replicate 8 (default : Int))⟩ : za), m.Part⟩ : GMsg)⟩ : z8))))
 else
 (bif (m.Kind == 14) then
 (some (.inl (⟨r1, m, (⟨m.Kind, m.From, m.To, (⟨0, 0⟩ : zq), 0, [], (⟨0, 0, 0, (⟨(⟨0, 0⟩ : zx), 0, 0, 0, [], [], []⟩ : GOp), 0, 0, [], (⟨0, (Vector.replicate 8 (default : Int)), (Vector.replicate 8 (default : Int)), (Vector.replicate 8 (default : Int))⟩ : za), 0, (Vector.replicate 8 (default : Int)), 0, (⟨0, 0, 0, []⟩ : GPart), 0, 0, 0⟩ : zd), m.Number, m.Vector_, 0, 0, [], (⟨0, (Vector.replicate 8 (default : Int)), (Vector.replicate 8 (default : Int)), (Vector.replicate 8 (default : Int))⟩ : za), (⟨0, 0, 0, []⟩ : GPart)⟩ : GMsg)⟩ : z8)))
 else
 (bif (m.Kind == 15) then
 ((bif r1 then z3l N m.Part else some default).bind fun r6 =>
 (some (.inl (⟨(r1 && r6), m, (⟨m.Kind, m.From, m.To, (⟨0, 0⟩ : zq), m.Slot, [], (⟨0, 0, 0, (⟨(⟨0, 0⟩ : zx), 0, 0, 0, [], [], []⟩ : GOp), 0, 0, [], (⟨0, (Vector.replicate 8 (default : Int)), (Vector.replicate 8 (default : Int)), (Vector.replicate 8 (default : Int))⟩ : za), 0, (Vector.replicate 8 (default : Int)), 0, (⟨0, 0, 0, []⟩ : GPart), 0, 0, 0⟩ : zd), 0, (Vector.replicate 8 (default : Int)), 0, 0, [], (⟨0, (Vector.replicate 8 (default : Int)), (Vector.replicate 8 (default : Int)), (Vector.replicate 8 (default : Int))⟩ : za), m.Part⟩ : GMsg)⟩ : z8))))
 else
 (some (.inl (⟨false, m, (⟨m.Kind, m.From, m.To, (⟨0, 0⟩ : zq), 0, [], (⟨0, 0, 0, (⟨(⟨0, 0⟩ : zx), 0, 0, 0, [], [], []⟩ : GOp), 0, 0, [], (⟨0, (Vector.replicate 8 (default : Int)), (Vector.replicate 8 (default : Int)), (Vector.replicate 8 (default : Int))⟩ : za), 0, (Vector.replicate 8 (default : Int)), 0, (⟨0, 0, 0, []⟩ : GPart), 0, 0, 0⟩ : zd), 0, (Vector.replicate 8 (default : Int)), 0, 0, [], (⟨0, (Vector.replicate 8 (default : Int)), (Vector.replicate 8 (default : Int)), (Vector.replicate 8 (default : Int))⟩ : za), (⟨0, 0, 0, []⟩ : GPart)⟩ : GMsg)⟩ : z8))))))))))))))))
 else
 (bif (m.Kind == 4) then
 (bif (m.Kind == 4) then
 (some (.inl (⟨r1, m, (⟨m.Kind, m.From, m.To, m.Ballot, m.Slot, [], (⟨0, 0, 0, (⟨(⟨0, 0⟩ : zx), 0, 0, 0, [], [], []⟩ : GOp), 0, 0, [], (⟨0, (Vector.replicate 8 (default : Int)), (Vector.replicate 8 (default : Int)), (Vector.replicate 8 (default : Int))⟩ : za), 0, (Vector.replicate 8 (default : Int)), 0, (⟨0, 0, 0, []⟩ : GPart), 0, 0, 0⟩ : zd), 0, (Vector.replicate 8 (default : Int)), 0, 0, [], (⟨0, (Vector.replicate 8 (default : Int)), (Vector.replicate 8 (default : Int)), (Vector.replicate 8 (default : Int))⟩ : za), (⟨0, 0, 0, []⟩ : GPart)⟩ : GMsg)⟩ : z8)))
 else
 (bif (m.Kind == 2) then
 (some (.inl (⟨r1, m, (⟨m.Kind, m.From, m.To, m.Ballot, m.Slot, m.List_, (⟨0, 0, 0, (⟨(⟨0, 0⟩ : zx), 0, 0, 0, [], [], []⟩ : GOp), 0, 0, [], (⟨0, (Vector.replicate 8 (default : Int)), (Vector.replicate 8 (default : Int)), (Vector.replicate 8 (default : Int))⟩ : za), 0, (Vector.replicate 8 (default : Int)), 0, (⟨0, 0, 0, []⟩ : GPart), 0, 0, 0⟩ : zd), 0, (Vector.replicate 8 (default : Int)), 0, 0, [], (⟨0, (Vector.replicate 8 (default : Int)), (Vector.replicate 8 (default : Int)), (Vector.replicate 8 (default : Int))⟩ : za), (⟨0, 0, 0, []⟩ : GPart)⟩ : GMsg)⟩ : z8)))
 else
 (bif (m.Kind == 3) then
 (some (.inl (⟨(r1 && (((m.List_).length : Int) == 1)), m, (⟨m.Kind, m.From, m.To, m.Ballot, 0, m.List_, (⟨0, 0, 0, (⟨(⟨0, 0⟩ : zx), 0, 0, 0, [], [], []⟩ : GOp), 0, 0, [], (⟨0, (Vector.replicate 8 (default : Int)), (Vector.replicate 8 (default : Int)), (Vector.replicate 8 (default : Int))⟩ : za), 0, (Vector.replicate 8 (default : Int)), 0, (⟨0, 0, 0, []⟩ : GPart), 0, 0, 0⟩ : zd), 0, (Vector.replicate 8 (default : Int)), 0, 0, [], (⟨0, (Vector.replicate 8 (default : Int)), (Vector.replicate 8 (default : Int)), (Vector.replicate 8 (default : Int))⟩ : za), (⟨0, 0, 0, []⟩ : GPart)⟩ : GMsg)⟩ : z8)))
 else
 (bif (m.Kind == 5) then
 (some (.inl (⟨r1, m, (⟨m.Kind, m.From, m.To, m.Ballot, 0, [], (⟨0, 0, 0, (⟨(⟨0, 0⟩ : zx), 0, 0, 0, [], [], []⟩ : GOp), 0, 0, [], (⟨0, (Vector.replicate 8 (default : Int)), (Vector.replicate 8 (default : Int)), (Vector.replicate 8 (default : Int))⟩ : za), 0, (Vector.replicate 8 (default : Int)), 0, (⟨0, 0, 0, []⟩ : GPart), 0, 0, 0⟩ : zd), 0, (Vector.replicate 8 (default : Int)), 0, 0, [], (⟨0, (Vector.replicate 8 (default : Int)), (Vector.replicate 8 (default : Int)), (Vector.replicate 8 (default : Int))⟩ : za), (⟨0, 0, 0, []⟩ : GPart)⟩ : GMsg)⟩ : z8)))
 else
 (bif (m.Kind == 6) then
 (some (.inl (⟨(r1 && (decide (1 ≤ ((m.List_).length : Int)))), m, (⟨m.Kind, m.From, m.To, (⟨0, 0⟩ : zq), 0, m.List_, (⟨0, 0, 0, (⟨(⟨0, 0⟩ : zx), 0, 0, 0, [], [], []⟩ : GOp), 0, 0, [], (⟨0, (Vector.replicate 8 (default : Int)), (Vector.replicate 8 (default : Int)), (Vector.replicate 8 (default : Int))⟩ : za), 0, (Vector.replicate 8 (default : Int)), 0, (⟨0, 0, 0, []⟩ : GPart), 0, 0, 0⟩ : zd), 0, (Vector.replicate 8 (default : Int)), 0, 0, [], (⟨0, (Vector.replicate 8 (default : Int)), (Vector.replicate 8 (default : Int)), (Vector.replicate 8 (default : Int))⟩ : za), (⟨0, 0, 0, []⟩ : GPart)⟩ : GMsg)⟩ : z8)))
 else
 (bif (m.Kind == 8) then
 (some (.inl (⟨r1, m, (⟨m.Kind, m.From, m.To, (⟨0, 0⟩ : zq), m.Slot, [], (⟨0, 0, 0, (⟨(⟨0, 0⟩ : zx), 0, 0, 0, [], [], []⟩ : GOp), 0, 0, [], (⟨0, (Vector.replicate 8 (default : Int)), (Vector.replicate 8 (default : Int)), (Vector.replicate 8 (default : Int))⟩ : za), 0, (Vector.replicate 8 (default : Int)), 0, (⟨0, 0, 0, []⟩ : GPart), 0, 0, 0⟩ : zd), 0, (Vector.replicate 8 (default : Int)), 0, 0, [], (⟨0, (Vector.replicate 8 (default : Int)), (Vector.replicate 8 (default : Int)), (Vector.replicate 8 (default : Int))⟩ : za), (⟨0, 0, 0, []⟩ : GPart)⟩ : GMsg)⟩ : z8)))
 else
 (bif (m.Kind == 9) then
 (some (.inl (⟨r1, m, (⟨m.Kind, m.From, m.To, (⟨0, 0⟩ : zq), 0, [], m.Entry, 0, (Vector.replicate 8 (default : Int)), 0, 0, [], (⟨0, (Vector.replicate 8 (default : Int)), (Vector.replicate 8 (default : Int)), (Vector.replicate 8 (default : Int))⟩ : za), (⟨0, 0, 0, []⟩ : GPart)⟩ : GMsg)⟩ : z8)))
 else
 (bif (m.Kind == 10) then
 (some (.inl (⟨r1, m, (⟨m.Kind, m.From, m.To, (⟨0, 0⟩ : zq), 0, [], (⟨0, 0, 0, (⟨(⟨0, 0⟩ : zx), 0, 0, 0, [], [], []⟩ : GOp), 0, 0, [], (⟨0, (Vector.replicate 8 (default : Int)), (Vector.replicate 8 (default : Int)), (Vector.replicate 8 (default : Int))⟩ : za), 0, (Vector.replicate 8 (default : Int)), 0, (⟨0, 0, 0, []⟩ : GPart), 0, 0, 0⟩ : zd), m.Number, m.Vector_, m.Clock, 0, [], (⟨0, (Vector.replicate 8 (default : Int)), (Vector.replicate 8 (default : Int)), (Vector.replicate 8 (default : Int))⟩ : za), (⟨0, 0, 0, []⟩ : GPart)⟩ : GMsg)⟩ : z8)))
 else
 (bif (m.Kind == 11) then
 ((bif r1 then z4n N [m.Origin] else some default).bind fun r7 =>
 ((bif (r1 && r7) then zah N m.Ops 1 else some default).bind fun r8 =>
 (some (.inl (⟨((r1 && r7) && r8), m, (⟨m.Kind, m.From, m.To, (⟨0, 0⟩ : zq), m.Slot, [], (⟨0, 0, 0, (⟨(⟨0, 0⟩ : zx), 0, 0, 0, [], [], []⟩ : GOp), 0, 0, [], (⟨0, (Vector.replicate 8 (default : Int)), (Vector.replicate 8 (default : Int)), (Vector.replicate 8 (default : Int))⟩ : za), 0, (Vector.replicate 8 (default : Int)), 0, (⟨0, 0, 0, []⟩ : GPart), 0, 0, 0⟩ : zd), m.Number, (Vector.replicate 8 (default : Int)), 0, m.Origin, m.Ops, (⟨0, (Vector.replicate 8 (default : Int)), (Vector.replicate 8 (default : Int)), (Vector.replicate 8 (default : Int))⟩ : za), (⟨0, 0, 0, []⟩ : GPart)⟩ : GMsg)⟩ : z8)))))
 else
 (bif (m.Kind == 12) then
 ((bif r1 then z7s N m.Epoch else some default).bind fun r9 =>
 (some (.inl (⟨(r1 && r9), m, (⟨m.Kind, m.From, m.To, (⟨0, 0⟩ : zq), 0, [], (⟨0, 0, 0, (⟨(⟨0, 0⟩ : zx), 0, 0, 0, [], [], []⟩ : GOp), 0, 0, [], (⟨0, (Vector.replicate 8 (default : Int)), (Vector.replicate 8 (default : Int)), (Vector.replicate 8 (default : Int))⟩ : za), 0, (Vector.replicate 8 (default : Int)), 0, (⟨0, 0, 0, []⟩ : GPart), 0, 0, 0⟩ : zd), 0, (Vector.replicate 8 (default : Int)), 0, 0, [], m.Epoch, (⟨0, 0, 0, []⟩ : GPart)⟩ : GMsg)⟩ : z8))))
 else
 (bif (m.Kind == 13) then
 ((bif r1 then z3l N m.Part else some default).bind fun r10 =>
 (some (.inl (⟨(r1 && r10), m, (⟨m.Kind, m.From, m.To, (⟨0, 0⟩ : zq), 0, [], (⟨0, 0, 0, (⟨(⟨0, 0⟩ : zx), 0, 0, 0, [], [], []⟩ : GOp), 0, 0, [], (⟨0, (Vector.replicate 8 (default : Int)), (Vector.replicate 8 (default : Int)), (Vector.replicate 8 (default : Int))⟩ : za), 0, (Vector.replicate 8 (default : Int)), 0, (⟨0, 0, 0, []⟩ : GPart), 0, 0, 0⟩ : zd), 0, (Vector.replicate 8 (default : Int)), 0, 0, [], (⟨0, (Vector.replicate 8 (default : Int)), (Vector.replicate 8 (default : Int)), (Vector.replicate 8 (default : Int))⟩ : za), m.Part⟩ : GMsg)⟩ : z8))))
 else
 (bif (m.Kind == 14) then
 (some (.inl (⟨r1, m, (⟨m.Kind, m.From, m.To, (⟨0, 0⟩ : zq), 0, [], (⟨0, 0, 0, (⟨(⟨0, 0⟩ : zx), 0, 0, 0, [], [], []⟩ : GOp), 0, 0, [], (⟨0, (Vector.replicate 8 (default : Int)), (Vector.replicate 8 (default : Int)), (Vector.replicate 8 (default : Int))⟩ : za), 0, (Vector.replicate 8 (default : Int)), 0, (⟨0, 0, 0, []⟩ : GPart), 0, 0, 0⟩ : zd), m.Number, m.Vector_, 0, 0, [], (⟨0, (Vector.replicate 8 (default : Int)), (Vector.replicate 8 (default : Int)), (Vector.replicate 8 (default : Int))⟩ : za), (⟨0, 0, 0, []⟩ : GPart)⟩ : GMsg)⟩ : z8)))
 else
 (bif (m.Kind == 15) then
 ((bif r1 then z3l N m.Part else some default).bind fun r11 =>
 (some (.inl (⟨(r1 && r11), m, (⟨m.Kind, m.From, m.To, (⟨0, 0⟩ : zq), m.Slot, [], (⟨0, 0, 0, (⟨(⟨0, 0⟩ : zx), 0, 0, 0, [], [], []⟩ : GOp), 0, 0, [], (⟨0, (Vector.replicate 8 (default : Int)), (Vector.replicate 8 (default : Int)), (Vector.replicate 8 (default : Int))⟩ : za), 0, (Vector.replicate 8 (default : Int)), 0, (⟨0, 0, 0, []⟩ : GPart), 0, 0, 0⟩ : zd), 0, (Vector.replicate 8 (default : Int)), 0, 0, [], (⟨0, (Vector.replicate 8 (default : Int)), (Vector.replicate 8 (default : Int)), (Vector.replicate 8 (default : Int))⟩ : za), m.Part⟩ : GMsg)⟩ : z8))))
 else
 (some (.inl (⟨false, m, (⟨m.Kind, m.From, m.To, (⟨0, 0⟩ : zq), 0, [], (⟨0, 0, 0, (⟨(⟨0, 0⟩ : zx), 0, 0, 0, [], [], []⟩ : GOp), 0, 0, [], (⟨0, (Vector.replicate 8 (default : Int)), (Vector.replicate 8 (default : Int)), (Vector.replicate 8 (default : Int))⟩ : za), 0, (Vector.replicate 8 (default : Int)), 0, (⟨0, 0, 0, []⟩ : GPart), 0, 0, 0⟩ : zd), 0, (Vector.replicate 8 (default : Int)), 0, 0, [], (⟨0, (Vector.replicate 8 (default : Int)), (Vector.replicate 8 (default : Int)), (Vector.replicate 8 (default : Int))⟩ : za), (⟨0, 0, 0, []⟩ : GPart)⟩ : GMsg)⟩ : z8))))))))))))))))
 else
 (bif (m.Kind == 7) then
 (some (.inl (⟨r1, m, (⟨m.Kind, m.From, m.To, m.Ballot, m.Slot, [], (⟨0, 0, 0, (⟨(⟨0, 0⟩ : zx), 0, 0, 0, [], [], []⟩ : GOp), 0, 0, [], (⟨0, (Vector.replicate 8 (default : Int)), (Vector.replicate 8 (default : Int)), (Vector.replicate 8 (default : Int))⟩ : za), 0, (Vector.replicate 8 (default : Int)), 0, (⟨0, 0, 0, []⟩ : GPart), 0, 0, 0⟩ : zd), 0, (Vector.replicate 8 (default : Int)), 0, 0, [], (⟨0, (Vector.replicate 8 (default : Int)), (Vector.replicate 8 (default : Int)), (Vector.replicate 8 (default : Int))⟩ : za), (⟨0, 0, 0, []⟩ : GPart)⟩ : GMsg)⟩ : z8)))
 else
 (bif (m.Kind == 2) then
 (some (.inl (⟨r1, m, (⟨m.Kind, m.From, m.To, m.Ballot, m.Slot, m.List_, (⟨0, 0, 0, (⟨(⟨0, 0⟩ : zx), 0, 0, 0, [], [], []⟩ : GOp), 0, 0, [], (⟨0, (Vector.replicate 8 (default : Int)), (Vector.replicate 8 (default : Int)), (Vector.replicate 8 (default : Int))⟩ : za), 0, (Vector.replicate 8 (default : Int)), 0, (⟨0, 0, 0, []⟩ : GPart), 0, 0, 0⟩ : zd), 0, (Vector.replicate 8 (default : Int)), 0, 0, [], (⟨0, (Vector.replicate 8 (default : Int)), (Vector.replicate 8 (default : Int)), (Vector.replicate 8 (default : Int))⟩ : za), (⟨0, 0, 0, []⟩ : GPart)⟩ : GMsg)⟩ : z8)))
 else
 (bif (m.Kind == 3) then
 (some (.inl (⟨(r1 && (((m.List_).length : Int) == 1)), m, (⟨m.Kind, m.From, m.To, m.Ballot, 0, m.List_, (⟨0, 0, 0, (⟨(⟨0, 0⟩ : zx), 0, 0, 0, [], [], []⟩ : GOp), 0, 0, [], (⟨0, (Vector.replicate 8 (default : Int)), (Vector.replicate 8 (default : Int)), (Vector.replicate 8 (default : Int))⟩ : za), 0, (Vector.replicate 8 (default : Int)), 0, (⟨0, 0, 0, []⟩ : GPart), 0, 0, 0⟩ : zd), 0, (Vector.replicate 8 (default : Int)), 0, 0, [], (⟨0, (Vector.replicate 8 (default : Int)), (Vector.replicate 8 (default : Int)), (Vector.replicate 8 (default : Int))⟩ : za), (⟨0, 0, 0, []⟩ : GPart)⟩ : GMsg)⟩ : z8)))
 else
 (bif (m.Kind == 5) then
 (some (.inl (⟨r1, m, (⟨m.Kind, m.From, m.To, m.Ballot, 0, [], (⟨0, 0, 0, (⟨(⟨0, 0⟩ : zx), 0, 0, 0, [], [], []⟩ : GOp), 0, 0, [], (⟨0, (Vector.replicate 8 (default : Int)), (Vector.replicate 8 (default : Int)), (Vector.replicate 8 (default : Int))⟩ : za), 0, (Vector.replicate 8 (default : Int)), 0, (⟨0, 0, 0, []⟩ : GPart), 0, 0, 0⟩ : zd), 0, (Vector.replicate 8 (default : Int)), 0, 0, [], (⟨0, (Vector.replicate 8 (default : Int)), (Vector.replicate 8 (default : Int)), (Vector.replicate 8 (default : Int))⟩ : za), (⟨0, 0, 0, []⟩ : GPart)⟩ : GMsg)⟩ : z8)))
 else
 (bif (m.Kind == 6) then
 (some (.inl (⟨(r1 && (decide (1 ≤ ((m.List_).length : Int)))), m, (⟨m.Kind, m.From, m.To, (⟨0, 0⟩ : zq), 0, m.List_, (⟨0, 0, 0, (⟨(⟨0, 0⟩ : zx), 0, 0, 0, [], [], []⟩ : GOp), 0, 0, [], (⟨0, (Vector.replicate 8 (default : Int)), (Vector.replicate 8 (default : Int)), (Vector.replicate 8 (default : Int))⟩ : za), 0, (Vector.replicate 8 (default : Int)), 0, (⟨0, 0, 0, []⟩ : GPart), 0, 0, 0⟩ : zd), 0, (Vector.replicate 8 (default : Int)), 0, 0, [], (⟨0, (Vector.replicate 8 (default : Int)), (Vector.replicate 8 (default : Int)), (Vector.replicate 8 (default : Int))⟩ : za), (⟨0, 0, 0, []⟩ : GPart)⟩ : GMsg)⟩ : z8)))
 else
 (bif (m.Kind == 8) then
 (some (.inl (⟨r1, m, (⟨m.Kind, m.From, m.To, (⟨0, 0⟩ : zq), m.Slot, [], (⟨0, 0, 0, (⟨(⟨0, 0⟩ : zx), 0, 0, 0, [], [], []⟩ : GOp), 0, 0, [], (⟨0, (Vector.replicate 8 (default : Int)), (Vector.replicate 8 (default : Int)), (Vector.replicate 8 (default : Int))⟩ : za), 0, (Vector.replicate 8 (default : Int)), 0, (⟨0, 0, 0, []⟩ : GPart), 0, 0, 0⟩ : zd), 0, (Vector.replicate 8 (default : Int)), 0, 0, [], (⟨0, (Vector.replicate 8 (default : Int)), (Vector.replicate 8 (default : Int)), (Vector.replicate 8 (default : Int))⟩ : za), (⟨0, 0, 0, []⟩ : GPart)⟩ : GMsg)⟩ : z8)))
 else
 (bif (m.Kind == 9) then
 (some (.inl (⟨r1, m, (⟨m.Kind, m.From, m.To, (⟨0, 0⟩ : zq), 0, [], m.Entry, 0, (Vector.replicate 8 (default : Int)), 0, 0, [], (⟨0, (Vector.replicate 8 (default : Int)), (Vector.replicate 8 (default : Int)), (Vector.replicate 8 (default : Int))⟩ : za), (⟨0, 0, 0, []⟩ : GPart)⟩ : GMsg)⟩ : z8)))
 else
 (bif (m.Kind == 10) then
 (some (.inl (⟨r1, m, (⟨m.Kind, m.From, m.To, (⟨0, 0⟩ : zq), 0, [], (⟨0, 0, 0, (⟨(⟨0, 0⟩ : zx), 0, 0, 0, [], [], []⟩ : GOp), 0, 0, [], (⟨0, (Vector.replicate 8 (default : Int)), (Vector.replicate 8 (default : Int)), (Vector.replicate 8 (default : Int))⟩ : za), 0, (Vector.replicate 8 (default : Int)), 0, (⟨0, 0, 0, []⟩ : GPart), 0, 0, 0⟩ : zd), m.Number, m.Vector_, m.Clock, 0, [], (⟨0, (Vector.replicate 8 (default : Int)), (Vector.replicate 8 (default : Int)), (Vector.replicate 8 (default : Int))⟩ : za), (⟨0, 0, 0, []⟩ : GPart)⟩ : GMsg)⟩ : z8)))
 else
 (bif (m.Kind == 11) then
 ((bif r1 then z4n N [m.Origin] else some default).bind fun r12 =>
 ((bif (r1 && r12) then zah N m.Ops 1 else some default).bind fun r13 =>
 (some (.inl (⟨((r1 && r12) && r13), m, (⟨m.Kind, m.From, m.To, (⟨0, 0⟩ : zq), m.Slot, [], (⟨0, 0, 0, (⟨(⟨0, 0⟩ : zx), 0, 0, 0, [], [], []⟩ : GOp), 0, 0, [], (⟨0, (Vector.replicate 8 (default : Int)), (Vector.replicate 8 (default : Int)), (Vector.replicate 8 (default : Int))⟩ : za), 0, (Vector.replicate 8 (default : Int)), 0, (⟨0, 0, 0, []⟩ : GPart), 0, 0, 0⟩ : zd), m.Number, (Vector.replicate 8 (default : Int)), 0, m.Origin, m.Ops, (⟨0, (Vector.replicate 8 (default : Int)), (Vector.replicate 8 (default : Int)), (Vector.replicate 8 (default : Int))⟩ : za), (⟨0, 0, 0, []⟩ : GPart)⟩ : GMsg)⟩ : z8)))))
 else
 (bif (m.Kind == 12) then
 ((bif r1 then z7s N m.Epoch else some default).bind fun r14 =>
 (some (.inl (⟨(r1 && r14), m, (⟨m.Kind, m.From, m.To, (⟨0, 0⟩ : zq), 0, [], (⟨0, 0, 0, (⟨(⟨0, 0⟩ : zx), 0, 0, 0, [], [], []⟩ : GOp), 0, 0, [], (⟨0, (Vector.replicate 8 (default : Int)), (Vector.replicate 8 (default : Int)), (Vector.replicate 8 (default : Int))⟩ : za), 0, (Vector.replicate 8 (default : Int)), 0, (⟨0, 0, 0, []⟩ : GPart), 0, 0, 0⟩ : zd), 0, (Vector.replicate 8 (default : Int)), 0, 0, [], m.Epoch, (⟨0, 0, 0, []⟩ : GPart)⟩ : GMsg)⟩ : z8))))
 else
 (bif (m.Kind == 13) then
 ((bif r1 then z3l N m.Part else some default).bind fun r15 =>
 (some (.inl (⟨(r1 && r15), m, (⟨m.Kind, m.From, m.To, (⟨0, 0⟩ : zq), 0, [], (⟨0, 0, 0, (⟨(⟨0, 0⟩ : zx), 0, 0, 0, [], [], []⟩ : GOp), 0, 0, [], (⟨0, (Vector.replicate 8 (default : Int)), (Vector.replicate 8 (default : Int)), (Vector.replicate 8 (default : Int))⟩ : za), 0, (Vector.replicate 8 (default : Int)), 0, (⟨0, 0, 0, []⟩ : GPart), 0, 0, 0⟩ : zd), 0, (Vector.replicate 8 (default : Int)), 0, 0, [], (⟨0, (Vector.replicate 8 (default : Int)), (Vector.replicate 8 (default : Int)), (Vector.replicate 8 (default : Int))⟩ : za), m.Part⟩ : GMsg)⟩ : z8))))
 else
 (bif (m.Kind == 14) then
 (some (.inl (⟨r1, m, (⟨m.Kind, m.From, m.To, (⟨0, 0⟩ : zq), 0, [], (⟨0, 0, 0, (⟨(⟨0, 0⟩ : zx), 0, 0, 0, [], [], []⟩ : GOp), 0, 0, [], (⟨0, (Vector.replicate 8 (default : Int)), (Vector.replicate 8 (default : Int)), (Vector.replicate 8 (default : Int))⟩ : za), 0, (Vector.replicate 8 (default : Int)), 0, (⟨0, 0, 0, []⟩ : GPart), 0, 0, 0⟩ : zd), m.Number, m.Vector_, 0, 0, [], (⟨0, (Vector.replicate 8 (default : Int)), (Vector.replicate 8 (default : Int)), (Vector.replicate 8 (default : Int))⟩ : za), (⟨0, 0, 0, []⟩ : GPart)⟩ : GMsg)⟩ : z8)))
 else
 (bif (m.Kind == 15) then
 ((bif r1 then z3l N m.Part else some default).bind fun r16 =>
 (some (.inl (⟨(r1 && r16), m, (⟨m.Kind, m.From, m.To, (⟨0, 0⟩ : zq), m.Slot, [], (⟨0, 0, 0, (⟨(⟨0, 0⟩ : zx), 0, 0, 0, [], [], []⟩ : GOp), 0, 0, [], (⟨0, (Vector.replicate 8 (default : Int)), (Vector.replicate 8 (default : Int)), (Vector.replicate 8 (default : Int))⟩ : za), 0, (Vector.replicate 8 (default : Int)), 0, (⟨0, 0, 0, []⟩ : GPart), 0, 0, 0⟩ : zd), 0, (Vector.replicate 8 (default : Int)), 0, 0, [], (⟨0, (Vector.replicate 8 (default : Int)), (Vector.replicate 8 (default : Int)), (Vector.replicate 8 (default : Int))⟩ : za), m.Part⟩ : GMsg)⟩ : z8))))
 else
 (some (.inl (⟨false, m, (⟨m.Kind, m.From, m.To, (⟨0, 0⟩ : zq), 0, [], (⟨0, 0, 0, (⟨(⟨0, 0⟩ : zx), 0, 0, 0, [], [], []⟩ : GOp), 0, 0, [], (⟨0, (Vector.replicate 8 (default : Int)), (Vector.replicate 8 (default : Int)), (Vector.replicate 8 (default : Int))⟩ : za), 0, (Vector.replicate 8 (default : Int)), 0, (⟨0, 0, 0, []⟩ : GPart), 0, 0, 0⟩ : zd), 0, (Vector.replicate 8 (default : Int)), 0, 0, [], (⟨0, (Vector.replicate 8 (default : Int)), (Vector.replicate 8 (default : Int)), (Vector.replicate 8 (default : Int))⟩ : za), (⟨0, 0, 0, []⟩ : GPart)⟩ : GMsg)⟩ : z8)))))))))))))))))))
def znx (N : Nat) (m : GMsg) (s : z8) : Option (Int) :=
 ((bif s.ok then zdh N s.b1.Ballot else some default).bind fun r17 =>
 ((bif (s.ok && r17) then z1s N [s.b1.Slot, s.b1.Number, s.b1.Clock] else some default).bind fun r18 =>
 (bif ((s.ok && r17) && r18) then
 ((bif ((s.ok && r17) && r18) then z1s N (s.b1.Vector_.toList) else some default).bind fun r19 =>
 ((bif (((s.ok && r17) && r18) && r19) then zch N s.b1.List_ 0 4096 else some default).bind fun r20 =>
 ((bif ((((s.ok && r17) && r18) && r19) && r20) then z8a N s.b1.Entry else some default).bind fun r21 =>
 ((bif (((((s.ok && r17) && r18) && r19) && r20) && (r21 == 0)) then zgt N s.b1 s.b0 else some default).bind fun r22 =>
 ((z1b N ((((((s.ok && r17) && r18) && r19) && r20) && (r21 == 0)) && r22)).bind fun r23 =>
 (some r23))))))
 else
 ((bif false then zch N s.b1.List_ 0 4096 else some default).bind fun r24 =>
 ((bif false then z8a N s.b1.Entry else some default).bind fun r25 =>
 ((bif false then zgt N s.b1 s.b0 else some default).bind fun r26 =>
 ((z1b N false).bind fun r27 =>
 (some r27))))))))
def zem (N : Nat) (m : GMsg) : Option (Int) :=
 (znw N m).bind fun z => match z with | .inl s => znx N m s | .inr r => some r
def z8b : Con τ := { args := [.ty 43], L := [], ret := .ty 48, L' := [], R := Int, dflt := default, F := fun N a b => zem N a.1, of := fun r => (r, ()) }
noncomputable def ztv : Dat τ := { D := D0, tbl := tblOf [(89, zdg), (90, zae), (91, zap), (92, z89), (93, z97), (94, z7g), (95, z2t), (96, z9v), (97, z6x), (99, zdk), (98, z96)], lp := lpsOf [], k0 := 0, mu := [], un := [] }
theorem zlt : ConOk E C 51 z8b :=
  con_cut (D := ztv) ⟨d0Ok, eGood, z7 ⟨zwb, ⟨zmv, ⟨zp8, ⟨zls, ⟨znv, ⟨zj0, ⟨z6m, ⟨zsf, ⟨zgr, ⟨zwh, ⟨znt, trivial⟩⟩⟩⟩⟩⟩⟩⟩⟩⟩⟩, fun _ => rfl⟩ z8b (fun a b => a) none (fun _ _ => rfl) rfl (fun _ _ h => nomatch h) 1000000 [true, true, true, true, false] zsj (fun N a b => znw N a.1) (fun N a b s => znx N a.1 s) (by intro N a b; kernel_rfl) (fn := Tryz.f51) Tryz.func51 rfl (by kernel_rfl) (by kernel_rfl) rfl (by kernel_rfl) (by intro a b s; kernel_rfl) (by intro N a b; kernel_rfl) (by intro N a b s; kernel_rfl)
def zpb (N : Nat)  : Option (Bool × (List (Int))) :=
 (some (true, []))
def zdl : Con τ := { args := [], L := [], ret := .ptr 0 [], L' := [.box (.agg [.ty 4, .own 5 1]), .tail], R := Bool × (List (Int)), dflt := (default, default), F := fun N a b => zpb N , of := fun r => ((), ((r.1, r.2, ()), (), ())) }
noncomputable def zuz : Dat τ := { D := D0, tbl := tblOf [], lp := lpsOf [], k0 := 0, mu := [], un := [] }
theorem zwi : ConOk E C 52 zdl :=
  z9 (D := zuz) ⟨d0Ok, eGood, z7 trivial, fun _ => rfl⟩ zdl (fun a b => (b.1.1, b.1.2.1)) none (fun _ _ => rfl) rfl (fun _ _ h => nomatch h) 1000000 (fn := Tryz.f52) Tryz.func52 rfl (by kernel_rfl) (by kernel_rfl) rfl (by intro N a b; kernel_rfl)
structure z7w where
  u : Int
  b : List (Int)
def zgu : List Sl := [.k, .k, .k, .sh (.ty 12), .sh (.own 5 0), .k, .k, .k, .k, .k, .k, .k, .j, .j, .j, .j, .j, .j, .j, .j, .j, .j, .k, .k, .k, .k, .k]
def zgv : List ESh := [.tail]
def zxu (a : Sl.Ts τ zgu) (b : ESh.Ts τ zgv) : z7w := ⟨a.2.2.2.1, a.2.2.2.2.1⟩
def zxv (s : z7w) : Sl.Ts τ zgu := ((), (), (), s.u, s.b, (), (), (), (), (), (), (), (), (), (), (), (), (), (), (), (), (), (), (), (), (), (), ())
def zxw (s : z7w) : ESh.Ts τ zgv := ((), ())
def zxx : Lp τ := { ts := zgu, hs := zgv, S := z7w, to := zxu, ot := zxv, oh := zxw, hk := [], tk := [], ot_to := fun _ _ => rfl, oh_to := fun _ _ => rfl }
def zj1 (N : Nat) (n : Int) : Option ((List (Int))) :=
 (bif (decide (n < 0)) then
 (iter N (fun (s1 : z7w) next2 =>
 (bif (decide (128 ≤ s1.u)) then
 (bif (lenB ((s1.b).length + ([(bits .or .u8 (IntKind.u8.wrap s1.u) 128)]).length) 1) then
 (next2 ⟨(shr .u64 s1.u 7), (s1.b ++ [(bits .or .u8 (IntKind.u8.wrap s1.u) 128)])⟩)
 else none)
 else
 (bif (lenB ((s1.b).length + ([(IntKind.u8.wrap s1.u)]).length) 1) then
 (some (s1.b ++ [(IntKind.u8.wrap s1.u)]))
 else none))) ⟨(bits .xor .u64 IntKind.u64.max (shl .u64 (IntKind.u64.wrap n) 1)), []⟩)
 else
 (iter N (fun (s3 : z7w) next4 =>
 (bif (decide (128 ≤ s3.u)) then
 (bif (lenB ((s3.b).length + ([(bits .or .u8 (IntKind.u8.wrap s3.u) 128)]).length) 1) then
 (next4 ⟨(shr .u64 s3.u 7), (s3.b ++ [(bits .or .u8 (IntKind.u8.wrap s3.u) 128)])⟩)
 else none)
 else
 (bif (lenB ((s3.b).length + ([(IntKind.u8.wrap s3.u)]).length) 1) then
 (some (s3.b ++ [(IntKind.u8.wrap s3.u)]))
 else none))) ⟨(shl .u64 (IntKind.u64.wrap n) 1), []⟩))
def zai : Con τ := { args := [.ty 2], L := [], ret := .own 5 0, L' := [.tail], R := (List (Int)), dflt := default, F := fun N a b => zj1 N a.1, of := fun r => (r, ((), ())) }
noncomputable def zz0 : Dat τ := { D := D0, tbl := tblOf [], lp := lpsOf [(5, zxx)], k0 := 0, mu := [], un := [] }
theorem zmx : ConOk E C 110 zai :=
  z9 (D := zz0) ⟨d0Ok, eGood, z7 trivial, fun _ => rfl⟩ zai (fun a b => a) none (fun _ _ => rfl) rfl (fun _ _ h => nomatch h) 1000000 (fn := Tryz.f110) Tryz.func110 rfl (by kernel_rfl) (by kernel_rfl) rfl (by intro N a b; kernel_rfl)
def z8x (N : Nat) (b0 : Bool) (b02 : List (Int)) : Option (Bool × Bool × (List (Int))) :=
 (some ((!b0), b0, b02))
def z4j : Con τ := { args := [.ptr 0 []], L := [.box (.agg [.ty 4, .own 5 1]), .tail], ret := .ty 4, L' := [.box (.agg [.ty 4, .own 5 1]), .tail], R := Bool × Bool × (List (Int)), dflt := (default, default, default), F := fun N a b => z8x N b.1.1 b.1.2.1, of := fun r => (r.1, ((r.2.1, r.2.2, ()), (), ())) }
noncomputable def zmy : Dat τ := { D := D0, tbl := tblOf [], lp := lpsOf [], k0 := 2, mu := [], un := [] }
theorem zd3 : ConOk E C 113 z4j :=
  z9 (D := zmy) ⟨d0Ok, eGood, z7 trivial, fun _ => rfl⟩ z4j (fun a b => (a, b.1.1, b.1.2.1)) none (fun _ _ => rfl) rfl (fun _ _ h => nomatch h) 1000000 (fn := Tryz.f113) Tryz.func113 rfl (by kernel_rfl) (by kernel_rfl) rfl (by intro N a b; kernel_rfl)
structure z3a where
  n : Int
  t19 : Int
def z7h : List Sl := [.k, .k, .k, .k, .j, .sh (.ty 2), .k, .j, .k, .k, .k, .k, .k, .k, .k, .k, .k, .k, .k, .sh (.ty 2), .j, .j, .j, .j, .j, .j, .j, .j, .j, .j, .j, .j, .j, .k, .k, .k, .k, .k, .k, .k, .k, .k, .k, .k, .k, .k, .k, .k, .k]
def z7i : List ESh := [.keep, .keep]
def zmz (a : Sl.Ts τ z7h) (b : ESh.Ts τ z7i) : z3a := ⟨a.2.2.2.2.2.1, a.2.2.2.2.2.2.2.2.2.2.2.2.2.2.2.2.2.2.2.1⟩
def zn0 (s : z3a) : Sl.Ts τ z7h := ((), (), (), (), (), s.n, (), (), (), (), (), (), (), (), (), (), (), (), (), s.t19, (), (), (), (), (), (), (), (), (), (), (), (), (), (), (), (), (), (), (), (), (), (), (), (), (), (), (), (), (), ())
def zn1 (s : z3a) : ESh.Ts τ z7i := ((), (), ())
def zn2 : Lp τ := { ts := z7h, hs := z7i, S := z3a, to := zmz, ot := zn0, oh := zn1, hk := [2, 5], tk := [2, 0, 0, 0, 0, 0, 0, 0, 0, 0, 2, 0, 2, 2, 2], ot_to := fun _ _ => rfl, oh_to := fun _ _ => rfl }
structure z2u where
  t35 : Int
  b0 : Bool
  b02 : List (Int)
def z75 : List Sl := [.k, .k, .k, .k, .k, .k, .k, .k, .k, .j, .k, .k, .k, .k, .k, .k, .k, .k, .k, .k, .k, .k, .k, .k, .k, .k, .k, .k, .k, .k, .k, .k, .k, .k, .k, .sh (.ty 2), .j, .j, .j, .j, .j, .j, .j, .j, .j, .j, .j, .j, .j]
def z76 : List ESh := [.box (.agg [.ty 4, .own 5 2]), .dead, .tail]
def zlu (a : Sl.Ts τ z75) (b : ESh.Ts τ z76) : z2u := ⟨a.2.2.2.2.2.2.2.2.2.2.2.2.2.2.2.2.2.2.2.2.2.2.2.2.2.2.2.2.2.2.2.2.2.2.2.1, b.1.1, b.1.2.1⟩
def zlv (s : z2u) : Sl.Ts τ z75 := ((), (), (), (), (), (), (), (), (), (), (), (), (), (), (), (), (), (), (), (), (), (), (), (), (), (), (), (), (), (), (), (), (), (), (), s.t35, (), (), (), (), (), (), (), (), (), (), (), (), (), ())
def zlw (s : z2u) : ESh.Ts τ z76 := ((s.b0, s.b02, ()), (), (), ())
def zlx : Lp τ := { ts := z75, hs := z76, S := z2u, to := zlu, ot := zlv, oh := zlw, hk := [2, 5], tk := [2, 0, 0, 0, 0, 0, 0, 0, 0, 0, 2, 0, 2, 2, 2], ot_to := fun _ _ => rfl, oh_to := fun _ _ => rfl }
def z9w (N : Nat) (l : List (List (Int))) (b0 : Bool) (b02 : List (Int)) : Option (Int × Bool × (List (Int))) :=
 ((z8x N b0 b02).bind fun r1 =>
 (bif r1.1 then
 (some (2, r1.2.1, r1.2.2))
 else
 (iter N (fun (s2 : z3a) next3 =>
 (bif (decide (s2.t19 < ((l).length : Int))) then
 (bif (ibB s2.t19 ((l).length : Int)) then
 (bif (decide ((IntKind.i64.wrap (1048576 - s2.n)) < (((lget l s2.t19 default)).length : Int))) then
 (some (3, r1.2.1, r1.2.2))
 else
 (next3 ⟨(IntKind.i64.wrap (s2.n + (((lget l s2.t19 default)).length : Int))), (IntKind.i64.wrap (s2.t19 + 1))⟩))
 else none)
 else
 (iter N (fun (s4 : z2u) next5 =>
 (bif (decide (s4.t35 < ((l).length : Int))) then
 (bif (ibB s4.t35 ((l).length : Int)) then
 (bif (lenB ((s4.b02).length + ((lget l s4.t35 default)).length) 1) then
 (next5 ⟨(IntKind.i64.wrap (s4.t35 + 1)), s4.b0, (s4.b02 ++ (lget l s4.t35 default))⟩)
 else none)
 else none)
 else
 (some (0, s4.b0, s4.b02)))) ⟨0, r1.2.1, r1.2.2⟩))) ⟨((r1.2.2).length : Int), 0⟩)))
def z5n : Con τ := { args := [.ptr 0 [], .ty 201], L := [.box (.agg [.ty 4, .own 5 1]), .tail], ret := .ty 48, L' := [.box (.agg [.ty 4, .own 5 2]), .dead, .tail], R := Int × Bool × (List (Int)), dflt := (default, default, default), F := fun N a b => z9w N a.2.1 b.1.1 b.1.2.1, of := fun r => (r.1, ((r.2.1, r.2.2, ()), (), (), ())) }
noncomputable def zo7 : Dat τ := { D := D0, tbl := tblOf [(113, z4j)], lp := lpsOf [(5, zn2), (12, zlx)], k0 := 2, mu := [], un := [] }
theorem zdw : ConOk E C 170 z5n :=
  z9 (D := zo7) ⟨d0Ok, eGood, z7 ⟨zd3, trivial⟩, fun _ => rfl⟩ z5n (fun a b => (a, b.1.1, b.1.2.1)) none (fun _ _ => rfl) rfl (fun _ _ h => nomatch h) 1000000 (fn := Tryz.f170) Tryz.func170 rfl (by kernel_rfl) (by kernel_rfl) rfl (by intro N a b; kernel_rfl)
def z9x (N : Nat) (n : Int) (b0 : Bool) (b02 : List (Int)) : Option (Int × Bool × (List (Int))) :=
 ((zj1 N n).bind fun r1 =>
 ((z9w N [r1] b0 b02).bind fun r2 =>
 (some (r2.1, r2.2.1, r2.2.2))))
def z5o : Con τ := { args := [.ptr 0 [], .ty 2], L := [.box (.agg [.ty 4, .own 5 1]), .tail], ret := .ty 48, L' := [.box (.agg [.ty 4, .own 5 2]), .dead, .tail], R := Int × Bool × (List (Int)), dflt := (default, default, default), F := fun N a b => z9x N a.2.1 b.1.1 b.1.2.1, of := fun r => (r.1, ((r.2.1, r.2.2, ()), (), (), ())) }
noncomputable def zo8 : Dat τ := { D := D0, tbl := tblOf [(110, zai), (170, z5n)], lp := lpsOf [], k0 := 2, mu := [], un := [] }
theorem zdx : ConOk E C 139 z5o :=
  z9 (D := zo8) ⟨d0Ok, eGood, z7 ⟨zmx, ⟨zdw, trivial⟩⟩, fun _ => rfl⟩ z5o (fun a b => (a, b.1.1, b.1.2.1)) none (fun _ _ => rfl) rfl (fun _ _ h => nomatch h) 1000000 (fn := Tryz.f139) Tryz.func139 rfl (by kernel_rfl) (by kernel_rfl) rfl (by intro N a b; kernel_rfl)
def z2v (N : Nat) (e : Int) (b0 : Int) (b1 : Bool) (b12 : List (Int)) : Option (Int × Bool × (List (Int))) :=
 (bif (b0 == 0) then
 (some (e, b1, b12))
 else
 (some (b0, b1, b12)))
def z1p : Con τ := { args := [.ptr 0 [], .ty 48], L := [.box (.agg [.ptr 1 [], .ty 48]), .box (.agg [.ty 4, .own 5 2]), .tail], ret := .tup [], L' := [.box (.agg [.ptr 1 [], .ty 48]), .box (.agg [.ty 4, .own 5 2]), .tail], R := Int × Bool × (List (Int)), dflt := (default, default, default), F := fun N a b => z2v N a.2.1 b.1.2.1 b.2.1.1 b.2.1.2.1, of := fun r => ((), (((), r.1, ()), (r.2.1, r.2.2, ()), (), ())) }
noncomputable def zk8 : Dat τ := { D := D0, tbl := tblOf [], lp := lpsOf [], k0 := 3, mu := [], un := [] }
theorem z3q : ConOk E C 138 z1p :=
  z9 (D := zk8) ⟨d0Ok, eGood, z7 trivial, fun _ => rfl⟩ z1p (fun a b => (b.1.2.1, b.2.1.1, b.2.1.2.1)) none (fun _ _ => rfl) rfl (fun _ _ h => nomatch h) 1000000 (fn := Tryz.f138) Tryz.func138 rfl (by kernel_rfl) (by kernel_rfl) rfl (by intro N a b; kernel_rfl)
structure z21 where
  t8 : Int
  b0 : Int
  b1 : Bool
  b12 : List (Int)
def z5b : List Sl := [.k, .k, .k, .k, .k, .j, .k, .k, .sh (.ty 2), .j, .j, .j, .j, .j, .j, .j, .j, .j, .j, .j, .j]
def z5c : List ESh := [.box (.agg [.ptr 1 [], .ty 2]), .box (.agg [.ty 4, .own 5 3]), .dead, .tail]
def zgw (a : Sl.Ts τ z5b) (b : ESh.Ts τ z5c) : z21 := ⟨a.2.2.2.2.2.2.2.2.1, b.1.2.1, b.2.1.1, b.2.1.2.1⟩
def zgx (s : z21) : Sl.Ts τ z5b := ((), (), (), (), (), (), (), (), s.t8, (), (), (), (), (), (), (), (), (), (), (), (), ())
def zgy (s : z21) : ESh.Ts τ z5c := (((), s.b0, ()), (s.b1, s.b12, ()), (), (), ())
def zgz : Lp τ := { ts := z5b, hs := z5c, S := z21, to := zgw, ot := zgx, oh := zgy, hk := [2, 2, 5], tk := [2], ot_to := fun _ _ => rfl, oh_to := fun _ _ => rfl }
def ze (N : Nat) (l : List (Int)) (b0 : Int) (b1 : Bool) (b12 : List (Int)) : Option (Int × Bool × (List (Int))) :=
 (iter N (fun (s1 : z21) next2 =>
 (bif (decide (s1.t8 < ((l).length : Int))) then
 (bif (ibB s1.t8 ((l).length : Int)) then
 ((z9x N (lget l s1.t8 default) s1.b1 s1.b12).bind fun r3 =>
 ((z2v N r3.1 s1.b0 r3.2.1 r3.2.2).bind fun r4 =>
 (next2 ⟨(IntKind.i64.wrap (s1.t8 + 1)), r4.1, r4.2.1, r4.2.2⟩)))
 else none)
 else
 (some (s1.b0, s1.b1, s1.b12)))) ⟨0, b0, b1, b12⟩)
def zt : Con τ := { args := [.ptr 0 [], .ty 194], L := [.box (.agg [.ptr 1 [], .ty 48]), .box (.agg [.ty 4, .own 5 2]), .tail], ret := .tup [], L' := [.box (.agg [.ptr 1 [], .ty 48]), .box (.agg [.ty 4, .own 5 3]), .dead, .tail], R := Int × Bool × (List (Int)), dflt := (default, default, default), F := fun N a b => ze N a.2.1 b.1.2.1 b.2.1.1 b.2.1.2.1, of := fun r => ((), (((), r.1, ()), (r.2.1, r.2.2, ()), (), (), ())) }
noncomputable def zi3 : Dat τ := { D := D0, tbl := tblOf [(139, z5o), (138, z1p)], lp := lpsOf [(1, zgz)], k0 := 3, mu := [], un := [] }
theorem z13 : ConOk E C 100 zt :=
  z9 (D := zi3) ⟨d0Ok, eGood, z7 ⟨zdx, ⟨z3q, trivial⟩⟩, fun _ => rfl⟩ zt (fun a b => (b.1.2.1, b.2.1.1, b.2.1.2.1)) none (fun _ _ => rfl) rfl (fun _ _ h => nomatch h) 1000000 (fn := Tryz.f100) Tryz.func100 rfl (by kernel_rfl) (by kernel_rfl) rfl (by intro N a b; kernel_rfl)
def z7j (N : Nat) (a : GAddr) (b0 : Int) (b1 : Bool) (b12 : List (Int)) : Option (Int × Bool × (List (Int))) :=
 ((ze N [a.Group, a.Replica] b0 b1 b12).bind fun r1 =>
 (some (r1.1, r1.2.1, r1.2.2)))
def z6n : Con τ := { args := [.ptr 0 [], .ty 23], L := [.box (.agg [.ptr 1 [], .ty 48]), .box (.agg [.ty 4, .own 5 2]), .tail], ret := .tup [], L' := [.box (.agg [.ptr 1 [], .ty 48]), .box (.agg [.ty 4, .own 5 3]), .dead, .tail], R := Int × Bool × (List (Int)), dflt := (default, default, default), F := fun N a b => z7j N a.2.1 b.1.2.1 b.2.1.1 b.2.1.2.1, of := fun r => ((), (((), r.1, ()), (r.2.1, r.2.2, ()), (), (), ())) }
noncomputable def zk9 : Dat τ := { D := D0, tbl := tblOf [(100, zt)], lp := lpsOf [], k0 := 3, mu := [], un := [] }
theorem zly : ConOk E C 101 z6n :=
  z9 (D := zk9) ⟨d0Ok, eGood, z7 ⟨z13, trivial⟩, fun _ => rfl⟩ z6n (fun a b => (b.1.2.1, b.2.1.1, b.2.1.2.1)) none (fun _ _ => rfl) rfl (fun _ _ h => nomatch h) 1000000 (fn := Tryz.f101) Tryz.func101 rfl (by kernel_rfl) (by kernel_rfl) rfl (by intro N a b; kernel_rfl)
structure z28 where
  t8 : Int
  b0 : Int
  b1 : Bool
  b12 : List (Int)
def z5u : List Sl := [.k, .k, .k, .k, .k, .j, .k, .k, .sh (.ty 2), .j, .j, .j, .j, .j, .j, .j, .j, .j, .j, .j, .j]
def z5v : List ESh := [.box (.agg [.ptr 1 [], .ty 2]), .box (.agg [.ty 4, .own 5 3]), .dead, .tail]
def zi4 (a : Sl.Ts τ z5u) (b : ESh.Ts τ z5v) : z28 := ⟨a.2.2.2.2.2.2.2.2.1, b.1.2.1, b.2.1.1, b.2.1.2.1⟩
def zi5 (s : z28) : Sl.Ts τ z5u := ((), (), (), (), (), (), (), (), s.t8, (), (), (), (), (), (), (), (), (), (), (), (), ())
def zi6 (s : z28) : ESh.Ts τ z5v := (((), s.b0, ()), (s.b1, s.b12, ()), (), (), ())
def zi7 : Lp τ := { ts := z5u, hs := z5v, S := z28, to := zi4, ot := zi5, oh := zi6, hk := [2, 2, 5], tk := [2], ot_to := fun _ _ => rfl, oh_to := fun _ _ => rfl }
def z5 (N : Nat) (l : List (Int)) (b0 : Int) (b1 : Bool) (b12 : List (Int)) : Option (Int × Bool × (List (Int))) :=
 (iter N (fun (s1 : z28) next2 =>
 (bif (decide (s1.t8 < ((l).length : Int))) then
 (bif (ibB s1.t8 ((l).length : Int)) then
 ((z9x N (lget l s1.t8 default) s1.b1 s1.b12).bind fun r3 =>
 ((z2v N r3.1 s1.b0 r3.2.1 r3.2.2).bind fun r4 =>
 (next2 ⟨(IntKind.i64.wrap (s1.t8 + 1)), r4.1, r4.2.1, r4.2.2⟩)))
 else none)
 else
 (some (s1.b0, s1.b1, s1.b12)))) ⟨0, b0, b1, b12⟩)
def z14 : Con τ := { args := [.ptr 0 [], .ty 60], L := [.box (.agg [.ptr 1 [], .ty 48]), .box (.agg [.ty 4, .own 5 2]), .tail], ret := .tup [], L' := [.box (.agg [.ptr 1 [], .ty 48]), .box (.agg [.ty 4, .own 5 3]), .dead, .tail], R := Int × Bool × (List (Int)), dflt := (default, default, default), F := fun N a b => z5 N a.2.1 b.1.2.1 b.2.1.1 b.2.1.2.1, of := fun r => ((), (((), r.1, ()), (r.2.1, r.2.2, ()), (), (), ())) }
noncomputable def zka : Dat τ := { D := D0, tbl := tblOf [(139, z5o), (138, z1p)], lp := lpsOf [(1, zi7)], k0 := 3, mu := [], un := [] }
theorem z1i : ConOk E C 103 z14 :=
  z9 (D := zka) ⟨d0Ok, eGood, z7 ⟨zdx, ⟨z3q, trivial⟩⟩, fun _ => rfl⟩ z14 (fun a b => (b.1.2.1, b.2.1.1, b.2.1.2.1)) none (fun _ _ => rfl) rfl (fun _ _ h => nomatch h) 1000000 (fn := Tryz.f103) Tryz.func103 rfl (by kernel_rfl) (by kernel_rfl) rfl (by intro N a b; kernel_rfl)
def zo (N : Nat) (b : zq) (b0 : Int) (b1 : Bool) (b12 : List (Int)) : Option (Int × Bool × (List (Int))) :=
 ((z5 N [b.Round] b0 b1 b12).bind fun r1 =>
 ((ze N [b.Replica] r1.1 r1.2.1 r1.2.2).bind fun r2 =>
 (some (r2.1, r2.2.1, r2.2.2))))
def z2w : Con τ := { args := [.ptr 0 [], .ty 25], L := [.box (.agg [.ptr 1 [], .ty 48]), .box (.agg [.ty 4, .own 5 2]), .tail], ret := .tup [], L' := [.box (.agg [.ptr 1 [], .ty 48]), .box (.agg [.ty 4, .own 5 3]), .dead, .tail], R := Int × Bool × (List (Int)), dflt := (default, default, default), F := fun N a b => zo N a.2.1 b.1.2.1 b.2.1.1 b.2.1.2.1, of := fun r => ((), (((), r.1, ()), (r.2.1, r.2.2, ()), (), (), ())) }
noncomputable def zh0 : Dat τ := { D := D0, tbl := tblOf [(103, z14), (100, zt)], lp := lpsOf [], k0 := 3, mu := [], un := [] }
theorem z9b : ConOk E C 102 z2w :=
  z9 (D := zh0) ⟨d0Ok, eGood, z7 ⟨z1i, ⟨z13, trivial⟩⟩, fun _ => rfl⟩ z2w (fun a b => (b.1.2.1, b.2.1.1, b.2.1.2.1)) none (fun _ _ => rfl) rfl (fun _ _ h => nomatch h) 1000000 (fn := Tryz.f102) Tryz.func102 rfl (by kernel_rfl) (by kernel_rfl) rfl (by intro N a b; kernel_rfl)
def z80 (N : Nat) (b : List (Int)) (b0 : Bool) (b02 : List (Int)) : Option (Int × Bool × (List (Int))) :=
 ((zj1 N ((b).length : Int)).bind fun r1 =>
 ((z9w N [r1, b] b0 b02).bind fun r2 =>
 (some (r2.1, r2.2.1, r2.2.2))))
def z3r : Con τ := { args := [.ptr 0 [], .ty 37], L := [.box (.agg [.ty 4, .own 5 1]), .tail], ret := .ty 48, L' := [.box (.agg [.ty 4, .own 5 2]), .dead, .tail], R := Int × Bool × (List (Int)), dflt := (default, default, default), F := fun N a b => z80 N a.2.1 b.1.1 b.1.2.1, of := fun r => (r.1, ((r.2.1, r.2.2, ()), (), (), ())) }
noncomputable def zlz : Dat τ := { D := D0, tbl := tblOf [(110, zai), (170, z5n)], lp := lpsOf [], k0 := 2, mu := [], un := [] }
theorem zci : ConOk E C 141 z3r :=
  z9 (D := zlz) ⟨d0Ok, eGood, z7 ⟨zmx, ⟨zdw, trivial⟩⟩, fun _ => rfl⟩ z3r (fun a b => (a, b.1.1, b.1.2.1)) none (fun _ _ => rfl) rfl (fun _ _ h => nomatch h) 1000000 (fn := Tryz.f141) Tryz.func141 rfl (by kernel_rfl) (by kernel_rfl) rfl (by intro N a b; kernel_rfl)
def zdy (N : Nat) (s : List UInt8) (b0 : Bool) (b02 : List (Int)) : Option (Int × Bool × (List (Int))) :=
 ((z80 N (bytesI s) b0 b02).bind fun r1 =>
 (some (r1.1, r1.2.1, r1.2.2)))
def z7k : Con τ := { args := [.ptr 0 [], .ty 9], L := [.box (.agg [.ty 4, .own 5 1]), .tail], ret := .ty 48, L' := [.box (.agg [.ty 4, .own 5 2]), .dead, .tail], R := Int × Bool × (List (Int)), dflt := (default, default, default), F := fun N a b => zdy N a.2.1 b.1.1 b.1.2.1, of := fun r => (r.1, ((r.2.1, r.2.2, ()), (), (), ())) }
noncomputable def zn3 : Dat τ := { D := D0, tbl := tblOf [(141, z3r)], lp := lpsOf [], k0 := 2, mu := [], un := [] }
theorem zo9 : ConOk E C 179 z7k :=
  z9 (D := zn3) ⟨d0Ok, eGood, z7 ⟨zci, trivial⟩, fun _ => rfl⟩ z7k (fun a b => (a, b.1.1, b.1.2.1)) none (fun _ _ => rfl) rfl (fun _ _ h => nomatch h) 1000000 (fn := Tryz.f179) Tryz.func179 rfl (by kernel_rfl) (by kernel_rfl) rfl (by intro N a b; kernel_rfl)
structure z22 where
  t8 : Int
  b0 : Int
  b1 : Bool
  b12 : List (Int)
def z5d : List Sl := [.k, .k, .k, .k, .k, .j, .k, .k, .sh (.ty 2), .j, .j, .j, .j, .j, .j, .j, .j, .j, .j, .j, .j]
def z5e : List ESh := [.box (.agg [.ptr 1 [], .ty 2]), .box (.agg [.ty 4, .own 5 3]), .dead, .tail]
def zh1 (a : Sl.Ts τ z5d) (b : ESh.Ts τ z5e) : z22 := ⟨a.2.2.2.2.2.2.2.2.1, b.1.2.1, b.2.1.1, b.2.1.2.1⟩
def zh2 (s : z22) : Sl.Ts τ z5d := ((), (), (), (), (), (), (), (), s.t8, (), (), (), (), (), (), (), (), (), (), (), (), ())
def zh3 (s : z22) : ESh.Ts τ z5e := (((), s.b0, ()), (s.b1, s.b12, ()), (), (), ())
def zh4 : Lp τ := { ts := z5d, hs := z5e, S := z22, to := zh1, ot := zh2, oh := zh3, hk := [2, 2, 5], tk := [2], ot_to := fun _ _ => rfl, oh_to := fun _ _ => rfl }
def zbi (N : Nat) (l : List (List UInt8)) (b0 : Int) (b1 : Bool) (b12 : List (Int)) : Option (Int × Bool × (List (Int))) :=
 (iter N (fun (s1 : z22) next2 =>
 (bif (decide (s1.t8 < ((l).length : Int))) then
 (bif (ibB s1.t8 ((l).length : Int)) then
 ((zdy N (lget l s1.t8 default) s1.b1 s1.b12).bind fun r3 =>
 ((z2v N r3.1 s1.b0 r3.2.1 r3.2.2).bind fun r4 =>
 (next2 ⟨(IntKind.i64.wrap (s1.t8 + 1)), r4.1, r4.2.1, r4.2.2⟩)))
 else none)
 else
 (some (s1.b0, s1.b1, s1.b12)))) ⟨0, b0, b1, b12⟩)
def z5w : Con τ := { args := [.ptr 0 [], .ty 229], L := [.box (.agg [.ptr 1 [], .ty 48]), .box (.agg [.ty 4, .own 5 2]), .tail], ret := .tup [], L' := [.box (.agg [.ptr 1 [], .ty 48]), .box (.agg [.ty 4, .own 5 3]), .dead, .tail], R := Int × Bool × (List (Int)), dflt := (default, default, default), F := fun N a b => zbi N a.2.1 b.1.2.1 b.2.1.1 b.2.1.2.1, of := fun r => ((), (((), r.1, ()), (r.2.1, r.2.2, ()), (), (), ())) }
noncomputable def zi8 : Dat τ := { D := D0, tbl := tblOf [(179, z7k), (138, z1p)], lp := lpsOf [(1, zh4)], k0 := 3, mu := [], un := [] }
theorem zkb : ConOk E C 171 z5w :=
  z9 (D := zi8) ⟨d0Ok, eGood, z7 ⟨zo9, ⟨z3q, trivial⟩⟩, fun _ => rfl⟩ z5w (fun a b => (b.1.2.1, b.2.1.1, b.2.1.2.1)) none (fun _ _ => rfl) rfl (fun _ _ h => nomatch h) 1000000 (fn := Tryz.f171) Tryz.func171 rfl (by kernel_rfl) (by kernel_rfl) rfl (by intro N a b; kernel_rfl)
def z8y (N : Nat) (op : GOp) (b0 : Int) (b1 : Bool) (b12 : List (Int)) : Option (Int × Bool × (List (Int))) :=
 ((z5 N [op.Stamp.Time] b0 b1 b12).bind fun r1 =>
 ((ze N [op.Stamp.Site, op.Kind] r1.1 r1.2.1 r1.2.2).bind fun r2 =>
 ((z5 N [op.Node, op.Parent] r2.1 r2.2.1 r2.2.2).bind fun r3 =>
 ((zbi N [op.Name, op.Key, op.Value] r3.1 r3.2.1 r3.2.2).bind fun r4 =>
 (some (r4.1, r4.2.1, r4.2.2))))))
def z4k : Con τ := { args := [.ptr 0 [], .ty 30], L := [.box (.agg [.ptr 1 [], .ty 48]), .box (.agg [.ty 4, .own 5 2]), .tail], ret := .tup [], L' := [.box (.agg [.ptr 1 [], .ty 48]), .box (.agg [.ty 4, .own 5 3]), .dead, .tail], R := Int × Bool × (List (Int)), dflt := (default, default, default), F := fun N a b => z8y N a.2.1 b.1.2.1 b.2.1.1 b.2.1.2.1, of := fun r => ((), (((), r.1, ()), (r.2.1, r.2.2, ()), (), (), ())) }
noncomputable def zn4 : Dat τ := { D := D0, tbl := tblOf [(103, z14), (100, zt), (171, z5w)], lp := lpsOf [], k0 := 3, mu := [], un := [] }
theorem zd4 : ConOk E C 140 z4k :=
  z9 (D := zn4) ⟨d0Ok, eGood, z7 ⟨z1i, ⟨z13, ⟨zkb, trivial⟩⟩⟩, fun _ => rfl⟩ z4k (fun a b => (b.1.2.1, b.2.1.1, b.2.1.2.1)) none (fun _ _ => rfl) rfl (fun _ _ h => nomatch h) 1000000 (fn := Tryz.f140) Tryz.func140 rfl (by kernel_rfl) (by kernel_rfl) rfl (by intro N a b; kernel_rfl)
structure z2j where
  t13 : Int
  b0 : Int
  b1 : Bool
  b12 : List (Int)
def z6o : List Sl := [.k, .k, .k, .k, .k, .j, .k, .k, .k, .k, .k, .k, .k, .sh (.ty 2), .j, .j, .j, .j, .j, .j, .j]
def z6p : List ESh := [.box (.agg [.ptr 1 [], .ty 2]), .box (.agg [.ty 4, .own 5 4]), .keep, .dead, .tail]
def zkc (a : Sl.Ts τ z6o) (b : ESh.Ts τ z6p) : z2j := ⟨a.2.2.2.2.2.2.2.2.2.2.2.2.2.1, b.1.2.1, b.2.1.1, b.2.1.2.1⟩
def zkd (s : z2j) : Sl.Ts τ z6o := ((), (), (), (), (), (), (), (), (), (), (), (), (), s.t13, (), (), (), (), (), (), (), ())
def zke (s : z2j) : ESh.Ts τ z6p := (((), s.b0, ()), (s.b1, s.b12, ()), (), (), (), ())
def zkf : Lp τ := { ts := z6o, hs := z6p, S := z2j, to := zkc, ot := zkd, oh := zke, hk := [2, 2, 1, 5], tk := [2, 0, 0, 0, 0, 0, 2], ot_to := fun _ _ => rfl, oh_to := fun _ _ => rfl }
def z3b (N : Nat) (l : List (GOp)) (b0 : Int) (b1 : Bool) (b12 : List (Int)) : Option (Int × Bool × (List (Int))) :=
 ((ze N [((l).length : Int)] b0 b1 b12).bind fun r1 =>
 (iter N (fun (s2 : z2j) next3 =>
 (bif (decide (s2.t13 < ((l).length : Int))) then
 (bif (ibB s2.t13 ((l).length : Int)) then
 ((z8y N (⟨((lget l s2.t13 default).Stamp), (lget l s2.t13 default).Kind, (lget l s2.t13 default).Node, (lget l s2.t13 default).Parent, (lget l s2.t13 default).Name, (lget l s2.t13 default).Key, (lget l s2.t13 default).Value⟩ : GOp) s2.b0 s2.b1 s2.b12).bind fun r4 =>
 (next3 ⟨(IntKind.i64.wrap (s2.t13 + 1)), r4.1, r4.2.1, r4.2.2⟩))
 else none)
 else
 (some (s2.b0, s2.b1, s2.b12)))) ⟨0, r1.1, r1.2.1, r1.2.2⟩))
def z3s : Con τ := { args := [.ptr 0 [], .ty 31], L := [.box (.agg [.ptr 1 [], .ty 48]), .box (.agg [.ty 4, .own 5 2]), .tail], ret := .tup [], L' := [.box (.agg [.ptr 1 [], .ty 48]), .box (.agg [.ty 4, .own 5 3]), .dead, .tail], R := Int × Bool × (List (Int)), dflt := (default, default, default), F := fun N a b => z3b N a.2.1 b.1.2.1 b.2.1.1 b.2.1.2.1, of := fun r => ((), (((), r.1, ()), (r.2.1, r.2.2, ()), (), (), ())) }
noncomputable def zm0 : Dat τ := { D := D0, tbl := tblOf [(100, zt), (140, z4k)], lp := lpsOf [(2, zkf)], k0 := 3, mu := [], un := [] }
theorem zcj : ConOk E C 106 z3s :=
  z9 (D := zm0) ⟨d0Ok, eGood, z7 ⟨z13, ⟨zd4, trivial⟩⟩, fun _ => rfl⟩ z3s (fun a b => (b.1.2.1, b.2.1.1, b.2.1.2.1)) none (fun _ _ => rfl) rfl (fun _ _ h => nomatch h) 1000000 (fn := Tryz.f106) Tryz.func106 rfl (by kernel_rfl) (by kernel_rfl) rfl (by intro N a b; kernel_rfl)
def z2k (N : Nat) (e : za) (b0 : Int) (b1 : Bool) (b12 : List (Int)) : Option (Int × Bool × (List (Int))) :=
 ((z5 N [e.Number] b0 b1 b12).bind fun r1 =>
 ((ze N (e.States.toList) r1.1 r1.2.1 r1.2.2).bind fun r2 =>
 ((z5 N (e.Seals.toList) r2.1 r2.2.1 r2.2.2).bind fun r3 =>
 ((ze N (e.Sponsor.toList) r3.1 r3.2.1 r3.2.2).bind fun r4 =>
 (some (r4.1, r4.2.1, r4.2.2))))))
def z37 : Con τ := { args := [.ptr 0 [], .ty 36], L := [.box (.agg [.ptr 1 [], .ty 48]), .box (.agg [.ty 4, .own 5 2]), .tail], ret := .tup [], L' := [.box (.agg [.ptr 1 [], .ty 48]), .box (.agg [.ty 4, .own 5 3]), .dead, .tail], R := Int × Bool × (List (Int)), dflt := (default, default, default), F := fun N a b => z2k N a.2.1 b.1.2.1 b.2.1.1 b.2.1.2.1, of := fun r => ((), (((), r.1, ()), (r.2.1, r.2.2, ()), (), (), ())) }
noncomputable def zi9 : Dat τ := { D := D0, tbl := tblOf [(103, z14), (100, zt)], lp := lpsOf [], k0 := 3, mu := [], un := [] }
theorem zaj : ConOk E C 107 z37 :=
  z9 (D := zi9) ⟨d0Ok, eGood, z7 ⟨z1i, ⟨z13, trivial⟩⟩, fun _ => rfl⟩ z37 (fun a b => (b.1.2.1, b.2.1.1, b.2.1.2.1)) none (fun _ _ => rfl) rfl (fun _ _ h => nomatch h) 1000000 (fn := Tryz.f107) Tryz.func107 rfl (by kernel_rfl) (by kernel_rfl) rfl (by intro N a b; kernel_rfl)
def z1c (N : Nat) (p : GPart) (b0 : Int) (b1 : Bool) (b12 : List (Int)) : Option (Int × Bool × (List (Int))) :=
 ((z5 N [p.Snap] b0 b1 b12).bind fun r1 =>
 ((ze N [p.Index, p.Many] r1.1 r1.2.1 r1.2.2).bind fun r2 =>
 ((z80 N p.Data r2.2.1 r2.2.2).bind fun r3 =>
 ((z2v N r3.1 r2.1 r3.2.1 r3.2.2).bind fun r4 =>
 (some (r4.1, r4.2.1, r4.2.2))))))
def z3g : Con τ := { args := [.ptr 0 [], .ty 39], L := [.box (.agg [.ptr 1 [], .ty 48]), .box (.agg [.ty 4, .own 5 2]), .tail], ret := .tup [], L' := [.box (.agg [.ptr 1 [], .ty 48]), .box (.agg [.ty 4, .own 5 3]), .dead, .tail], R := Int × Bool × (List (Int)), dflt := (default, default, default), F := fun N a b => z1c N a.2.1 b.1.2.1 b.2.1.1 b.2.1.2.1, of := fun r => ((), (((), r.1, ()), (r.2.1, r.2.2, ()), (), (), ())) }
noncomputable def zkg : Dat τ := { D := D0, tbl := tblOf [(103, z14), (100, zt), (141, z3r), (138, z1p)], lp := lpsOf [], k0 := 3, mu := [], un := [] }
theorem zbj : ConOk E C 108 z3g :=
  z9 (D := zkg) ⟨d0Ok, eGood, z7 ⟨z1i, ⟨z13, ⟨zci, ⟨z3q, trivial⟩⟩⟩⟩, fun _ => rfl⟩ z3g (fun a b => (b.1.2.1, b.2.1.1, b.2.1.2.1)) none (fun _ _ => rfl) rfl (fun _ _ h => nomatch h) 1000000 (fn := Tryz.f108) Tryz.func108 rfl (by kernel_rfl) (by kernel_rfl) rfl (by intro N a b; kernel_rfl)
def z2l (N : Nat) (e : zd) (b0 : Int) (b1 : Bool) (b12 : List (Int)) : Option (Int × Bool × (List (Int))) :=
 ((ze N [e.Kind] b0 b1 b12).bind fun r1 =>
 (bif (e.Kind == 1) then
 ((z5 N [e.Session, e.Request] r1.1 r1.2.1 r1.2.2).bind fun r2 =>
 ((z8y N e.Op r2.1 r2.2.1 r2.2.2).bind fun r3 =>
 (some (r3.1, r3.2.1, r3.2.2))))
 else
 (bif (e.Kind == 2) then
 ((ze N [e.Origin] r1.1 r1.2.1 r1.2.2).bind fun r4 =>
 ((z5 N [e.Seq] r4.1 r4.2.1 r4.2.2).bind fun r5 =>
 ((z3b N e.Ops r5.1 r5.2.1 r5.2.2).bind fun r6 =>
 (some (r6.1, r6.2.1, r6.2.2)))))
 else
 (bif (e.Kind == 3) then
 ((z2k N e.Epoch r1.1 r1.2.1 r1.2.2).bind fun r7 =>
 (some (r7.1, r7.2.1, r7.2.2)))
 else
 (bif (e.Kind == 4) then
 ((z5 N [e.Seq] r1.1 r1.2.1 r1.2.2).bind fun r8 =>
 ((ze N [e.From] r8.1 r8.2.1 r8.2.2).bind fun r9 =>
 ((z5 N (e.Vector_.toList) r9.1 r9.2.1 r9.2.2).bind fun r10 =>
 ((z5 N [e.Clock] r10.1 r10.2.1 r10.2.2).bind fun r11 =>
 (some (r11.1, r11.2.1, r11.2.2))))))
 else
 (bif (e.Kind == 5) then
 ((z1c N e.Part r1.1 r1.2.1 r1.2.2).bind fun r12 =>
 (some (r12.1, r12.2.1, r12.2.2)))
 else
 (bif (e.Kind == 6) then
 ((ze N [e.Site, e.Sponsor] r1.1 r1.2.1 r1.2.2).bind fun r13 =>
 (some (r13.1, r13.2.1, r13.2.2)))
 else
 (bif (e.Kind == 7) then
 ((ze N [e.Site] r1.1 r1.2.1 r1.2.2).bind fun r14 =>
 (some (r14.1, r14.2.1, r14.2.2)))
 else
 (bif (e.Kind == 8) then
 ((ze N [e.Site] r1.1 r1.2.1 r1.2.2).bind fun r15 =>
 ((z5 N [e.Length] r15.1 r15.2.1 r15.2.2).bind fun r16 =>
 (some (r16.1, r16.2.1, r16.2.2))))
 else
 (some (r1.1, r1.2.1, r1.2.2)))))))))))
def z38 : Con τ := { args := [.ptr 0 [], .ty 41], L := [.box (.agg [.ptr 1 [], .ty 48]), .box (.agg [.ty 4, .own 5 2]), .tail], ret := .tup [], L' := [.box (.agg [.ptr 1 [], .ty 48]), .box (.agg [.ty 4, .own 5 3]), .dead, .tail], R := Int × Bool × (List (Int)), dflt := (default, default, default), F := fun N a b => z2l N a.2.1 b.1.2.1 b.2.1.1 b.2.1.2.1, of := fun r => ((), (((), r.1, ()), (r.2.1, r.2.2, ()), (), (), ())) }
noncomputable def zia : Dat τ := { D := D0, tbl := tblOf [(100, zt), (103, z14), (140, z4k), (106, z3s), (107, z37), (108, z3g)], lp := lpsOf [], k0 := 3, mu := [], un := [] }
theorem zak : ConOk E C 105 z38 :=
  z9 (D := zia) ⟨d0Ok, eGood, z7 ⟨z13, ⟨z1i, ⟨zd4, ⟨zcj, ⟨zaj, ⟨zbj, trivial⟩⟩⟩⟩⟩⟩, fun _ => rfl⟩ z38 (fun a b => (b.1.2.1, b.2.1.1, b.2.1.2.1)) none (fun _ _ => rfl) rfl (fun _ _ h => nomatch h) 1000000 (fn := Tryz.f105) Tryz.func105 rfl (by kernel_rfl) (by kernel_rfl) rfl (by intro N a b; kernel_rfl)
structure z29 where
  t13 : Int
  b0 : Int
  b1 : Bool
  b12 : List (Int)
def z5x : List Sl := [.k, .k, .k, .k, .k, .j, .k, .k, .k, .k, .k, .k, .k, .sh (.ty 2), .j, .j, .j, .j, .j, .j, .j, .j, .j, .j, .j, .j, .j, .j, .j, .j, .j]
def z5y : List ESh := [.box (.agg [.ptr 1 [], .ty 2]), .box (.agg [.ty 4, .own 5 4]), .keep, .dead, .tail]
def zib (a : Sl.Ts τ z5x) (b : ESh.Ts τ z5y) : z29 := ⟨a.2.2.2.2.2.2.2.2.2.2.2.2.2.1, b.1.2.1, b.2.1.1, b.2.1.2.1⟩
def zic (s : z29) : Sl.Ts τ z5x := ((), (), (), (), (), (), (), (), (), (), (), (), (), s.t13, (), (), (), (), (), (), (), (), (), (), (), (), (), (), (), (), (), ())
def zid (s : z29) : ESh.Ts τ z5y := (((), s.b0, ()), (s.b1, s.b12, ()), (), (), (), ())
def zie : Lp τ := { ts := z5x, hs := z5y, S := z29, to := zib, ot := zic, oh := zid, hk := [2, 2, 1, 5], tk := [2, 0, 0, 0, 0, 0, 2], ot_to := fun _ _ => rfl, oh_to := fun _ _ => rfl }
def z15 (N : Nat) (l : List (zv)) (b0 : Int) (b1 : Bool) (b12 : List (Int)) : Option (Int × Bool × (List (Int))) :=
 ((ze N [((l).length : Int)] b0 b1 b12).bind fun r1 =>
 (iter N (fun (s2 : z29) next3 =>
 (bif (decide (s2.t13 < ((l).length : Int))) then
 (bif (ibB s2.t13 ((l).length : Int)) then
 ((z5 N [(lget l s2.t13 default).Slot] s2.b0 s2.b1 s2.b12).bind fun r4 =>
 ((zo N ((lget l s2.t13 default).Ballot) r4.1 r4.2.1 r4.2.2).bind fun r5 =>
 ((z2l N (⟨((lget l s2.t13 default).Entry).Kind, ((lget l s2.t13 default).Entry).Session, ((lget l s2.t13 default).Entry).Request, (⟨((((lget l s2.t13 default).Entry).Op).Stamp), (((lget l s2.t13 default).Entry).Op).Kind, (((lget l s2.t13 default).Entry).Op).Node, (((lget l s2.t13 default).Entry).Op).Parent, (((lget l s2.t13 default).Entry).Op).Name, (((lget l s2.t13 default).Entry).Op).Key, (((lget l s2.t13 default).Entry).Op).Value⟩ : GOp), ((lget l s2.t13 default).Entry).Origin, ((lget l s2.t13 default).Entry).Seq, ((lget l s2.t13 default).Entry).Ops, (((lget l s2.t13 default).Entry).Epoch), ((lget l s2.t13 default).Entry).From, ((lget l s2.t13 default).Entry).Vector_, ((lget l s2.t13 default).Entry).Clock, (((lget l s2.t13 default).Entry).Part), ((lget l s2.t13 default).Entry).Site, ((lget l s2.t13 default).Entry).Sponsor, ((lget l s2.t13 default).Entry).Length⟩ : zd) r5.1 r5.2.1 r5.2.2).bind fun r6 =>
 (next3 ⟨(IntKind.i64.wrap (s2.t13 + 1)), r6.1, r6.2.1, r6.2.2⟩))))
 else none)
 else
 (some (s2.b0, s2.b1, s2.b12)))) ⟨0, r1.1, r1.2.1, r1.2.2⟩))
def z6q : Con τ := { args := [.ptr 0 [], .ty 26], L := [.box (.agg [.ptr 1 [], .ty 48]), .box (.agg [.ty 4, .own 5 2]), .tail], ret := .tup [], L' := [.box (.agg [.ptr 1 [], .ty 48]), .box (.agg [.ty 4, .own 5 3]), .dead, .tail], R := Int × Bool × (List (Int)), dflt := (default, default, default), F := fun N a b => z15 N a.2.1 b.1.2.1 b.2.1.1 b.2.1.2.1, of := fun r => ((), (((), r.1, ()), (r.2.1, r.2.2, ()), (), (), ())) }
noncomputable def zkh : Dat τ := { D := D0, tbl := tblOf [(100, zt), (103, z14), (102, z2w), (105, z38)], lp := lpsOf [(2, zie)], k0 := 3, mu := [], un := [] }
theorem zm1 : ConOk E C 104 z6q :=
  z9 (D := zkh) ⟨d0Ok, eGood, z7 ⟨z13, ⟨z1i, ⟨z9b, ⟨zak, trivial⟩⟩⟩⟩, fun _ => rfl⟩ z6q (fun a b => (b.1.2.1, b.2.1.1, b.2.1.2.1)) none (fun _ _ => rfl) rfl (fun _ _ h => nomatch h) 1000000 (fn := Tryz.f104) Tryz.func104 rfl (by kernel_rfl) (by kernel_rfl) rfl (by intro N a b; kernel_rfl)
def zd5 (N : Nat) (m : GMsg) (b0 : Int) (b1 : Bool) (b12 : List (Int)) : Option (Int × Bool × (List (Int))) :=
 ((ze N [m.Kind] b0 b1 b12).bind fun r1 =>
 ((z7j N m.From r1.1 r1.2.1 r1.2.2).bind fun r2 =>
 ((z7j N m.To r2.1 r2.2.1 r2.2.2).bind fun r3 =>
 (bif (m.Kind == 1) then
 (bif (m.Kind == 1) then
 ((zo N m.Ballot r3.1 r3.2.1 r3.2.2).bind fun r4 =>
 ((z5 N [m.Slot] r4.1 r4.2.1 r4.2.2).bind fun r5 =>
 (some (r5.1, r5.2.1, r5.2.2))))
 else
 (bif (m.Kind == 2) then
 ((zo N m.Ballot r3.1 r3.2.1 r3.2.2).bind fun r6 =>
 ((z5 N [m.Slot] r6.1 r6.2.1 r6.2.2).bind fun r7 =>
 ((z15 N m.List_ r7.1 r7.2.1 r7.2.2).bind fun r8 =>
 (some (r8.1, r8.2.1, r8.2.2)))))
 else
 (bif (m.Kind == 3) then
 ((zo N m.Ballot r3.1 r3.2.1 r3.2.2).bind fun r9 =>
 ((z15 N m.List_ r9.1 r9.2.1 r9.2.2).bind fun r10 =>
 (some (r10.1, r10.2.1, r10.2.2))))
 else
 (bif (m.Kind == 5) then
 ((zo N m.Ballot r3.1 r3.2.1 r3.2.2).bind fun r11 =>
 (some (r11.1, r11.2.1, r11.2.2)))
 else
 (bif (m.Kind == 6) then
 ((z15 N m.List_ r3.1 r3.2.1 r3.2.2).bind fun r12 =>
 (some (r12.1, r12.2.1, r12.2.2)))
 else
 (bif (m.Kind == 8) then
 ((z5 N [m.Slot] r3.1 r3.2.1 r3.2.2).bind fun r13 =>
 (some (r13.1, r13.2.1, r13.2.2)))
 else
 (bif (m.Kind == 9) then
 ((z2l N m.Entry r3.1 r3.2.1 r3.2.2).bind fun r14 =>
 (some (r14.1, r14.2.1, r14.2.2)))
 else
 (bif (m.Kind == 10) then
 ((z5 N [m.Number] r3.1 r3.2.1 r3.2.2).bind fun r15 =>
 ((z5 N (m.Vector_.toList) r15.1 r15.2.1 r15.2.2).bind fun r16 =>
 ((z5 N [m.Clock] r16.1 r16.2.1 r16.2.2).bind fun r17 =>
 (some (r17.1, r17.2.1, r17.2.2)))))
 else
 (bif (m.Kind == 11) then
 ((z5 N [m.Number] r3.1 r3.2.1 r3.2.2).bind fun r18 =>
 ((ze N [m.Origin] r18.1 r18.2.1 r18.2.2).bind fun r19 =>
 ((z5 N [m.Slot] r19.1 r19.2.1 r19.2.2).bind fun r20 =>
 ((z3b N m.Ops r20.1 r20.2.1 r20.2.2).bind fun r21 =>
 (some (r21.1, r21.2.1, r21.2.2))))))
 else
 (bif (m.Kind == 12) then
 ((z2k N m.Epoch r3.1 r3.2.1 r3.2.2).bind fun r22 =>
 (some (r22.1, r22.2.1, r22.2.2)))
 else
 (bif (m.Kind == 13) then
 ((z1c N m.Part r3.1 r3.2.1 r3.2.2).bind fun r23 =>
 (some (r23.1, r23.2.1, r23.2.2)))
 else
 (bif (m.Kind == 14) then
 ((z5 N [m.Number] r3.1 r3.2.1 r3.2.2).bind fun r24 =>
 ((z5 N (m.Vector_.toList) r24.1 r24.2.1 r24.2.2).bind fun r25 =>
 (some (r25.1, r25.2.1, r25.2.2))))
 else
 (bif (m.Kind == 15) then
 ((z5 N [m.Slot] r3.1 r3.2.1 r3.2.2).bind fun r26 =>
 ((z1c N m.Part r26.1 r26.2.1 r26.2.2).bind fun r27 =>
 (some (r27.1, r27.2.1, r27.2.2))))
 else
 (some (r3.1, r3.2.1, r3.2.2)))))))))))))))
 else
 (bif (m.Kind == 4) then
 (bif (m.Kind == 4) then
 ((zo N m.Ballot r3.1 r3.2.1 r3.2.2).bind fun r28 =>
 ((z5 N [m.Slot] r28.1 r28.2.1 r28.2.2).bind fun r29 =>
 (some (r29.1, r29.2.1, r29.2.2))))
 else
 (bif (m.Kind == 2) then
 ((zo N m.Ballot r3.1 r3.2.1 r3.2.2).bind fun r30 =>
 ((z5 N [m.Slot] r30.1 r30.2.1 r30.2.2).bind fun r31 =>
 ((z15 N m.List_ r31.1 r31.2.1 r31.2.2).bind fun r32 =>
 (some (r32.1, r32.2.1, r32.2.2)))))
 else
 (bif (m.Kind == 3) then
 ((zo N m.Ballot r3.1 r3.2.1 r3.2.2).bind fun r33 =>
 ((z15 N m.List_ r33.1 r33.2.1 r33.2.2).bind fun r34 =>
 (some (r34.1, r34.2.1, r34.2.2))))
 else
 (bif (m.Kind == 5) then
 ((zo N m.Ballot r3.1 r3.2.1 r3.2.2).bind fun r35 =>
 (some (r35.1, r35.2.1, r35.2.2)))
 else
 (bif (m.Kind == 6) then
 ((z15 N m.List_ r3.1 r3.2.1 r3.2.2).bind fun r36 =>
 (some (r36.1, r36.2.1, r36.2.2)))
 else
 (bif (m.Kind == 8) then
 ((z5 N [m.Slot] r3.1 r3.2.1 r3.2.2).bind fun r37 =>
 (some (r37.1, r37.2.1, r37.2.2)))
 else
 (bif (m.Kind == 9) then
 ((z2l N m.Entry r3.1 r3.2.1 r3.2.2).bind fun r38 =>
 (some (r38.1, r38.2.1, r38.2.2)))
 else
 (bif (m.Kind == 10) then
 ((z5 N [m.Number] r3.1 r3.2.1 r3.2.2).bind fun r39 =>
 ((z5 N (m.Vector_.toList) r39.1 r39.2.1 r39.2.2).bind fun r40 =>
 ((z5 N [m.Clock] r40.1 r40.2.1 r40.2.2).bind fun r41 =>
 (some (r41.1, r41.2.1, r41.2.2)))))
 else
 (bif (m.Kind == 11) then
 ((z5 N [m.Number] r3.1 r3.2.1 r3.2.2).bind fun r42 =>
 ((ze N [m.Origin] r42.1 r42.2.1 r42.2.2).bind fun r43 =>
 ((z5 N [m.Slot] r43.1 r43.2.1 r43.2.2).bind fun r44 =>
 ((z3b N m.Ops r44.1 r44.2.1 r44.2.2).bind fun r45 =>
 (some (r45.1, r45.2.1, r45.2.2))))))
 else
 (bif (m.Kind == 12) then
 ((z2k N m.Epoch r3.1 r3.2.1 r3.2.2).bind fun r46 =>
 (some (r46.1, r46.2.1, r46.2.2)))
 else
 (bif (m.Kind == 13) then
 ((z1c N m.Part r3.1 r3.2.1 r3.2.2).bind fun r47 =>
 (some (r47.1, r47.2.1, r47.2.2)))
 else
 (bif (m.Kind == 14) then
 ((z5 N [m.Number] r3.1 r3.2.1 r3.2.2).bind fun r48 =>
 ((z5 N (m.Vector_.toList) r48.1 r48.2.1 r48.2.2).bind fun r49 =>
 (some (r49.1, r49.2.1, r49.2.2))))
 else
 (bif (m.Kind == 15) then
 ((z5 N [m.Slot] r3.1 r3.2.1 r3.2.2).bind fun r50 =>
 ((z1c N m.Part r50.1 r50.2.1 r50.2.2).bind fun r51 =>
 (some (r51.1, r51.2.1, r51.2.2))))
 else
 (some (r3.1, r3.2.1, r3.2.2)))))))))))))))
 else
 (bif (m.Kind == 7) then
 ((zo N m.Ballot r3.1 r3.2.1 r3.2.2).bind fun r52 =>
 ((z5 N [m.Slot] r52.1 r52.2.1 r52.2.2).bind fun r53 =>
 (some (r53.1, r53.2.1, r53.2.2))))
 else
 (bif (m.Kind == 2) then
 ((zo N m.Ballot r3.1 r3.2.1 r3.2.2).bind fun r54 =>
 ((z5 N [m.Slot] r54.1 r54.2.1 r54.2.2).bind fun r55 =>
 ((z15 N m.List_ r55.1 r55.2.1 r55.2.2).bind fun r56 =>
 (some (r56.1, r56.2.1, r56.2.2)))))
 else
 (bif (m.Kind == 3) then
 ((zo N m.Ballot r3.1 r3.2.1 r3.2.2).bind fun r57 =>
 ((z15 N m.List_ r57.1 r57.2.1 r57.2.2).bind fun r58 =>
 (some (r58.1, r58.2.1, r58.2.2))))
 else
 (bif (m.Kind == 5) then
 ((zo N m.Ballot r3.1 r3.2.1 r3.2.2).bind fun r59 =>
 (some (r59.1, r59.2.1, r59.2.2)))
 else
 (bif (m.Kind == 6) then
 ((z15 N m.List_ r3.1 r3.2.1 r3.2.2).bind fun r60 =>
 (some (r60.1, r60.2.1, r60.2.2)))
 else
 (bif (m.Kind == 8) then
 ((z5 N [m.Slot] r3.1 r3.2.1 r3.2.2).bind fun r61 =>
 (some (r61.1, r61.2.1, r61.2.2)))
 else
 (bif (m.Kind == 9) then
 ((z2l N m.Entry r3.1 r3.2.1 r3.2.2).bind fun r62 =>
 (some (r62.1, r62.2.1, r62.2.2)))
 else
 (bif (m.Kind == 10) then
 ((z5 N [m.Number] r3.1 r3.2.1 r3.2.2).bind fun r63 =>
 ((z5 N (m.Vector_.toList) r63.1 r63.2.1 r63.2.2).bind fun r64 =>
 ((z5 N [m.Clock] r64.1 r64.2.1 r64.2.2).bind fun r65 =>
 (some (r65.1, r65.2.1, r65.2.2)))))
 else
 (bif (m.Kind == 11) then
 ((z5 N [m.Number] r3.1 r3.2.1 r3.2.2).bind fun r66 =>
 ((ze N [m.Origin] r66.1 r66.2.1 r66.2.2).bind fun r67 =>
 ((z5 N [m.Slot] r67.1 r67.2.1 r67.2.2).bind fun r68 =>
 ((z3b N m.Ops r68.1 r68.2.1 r68.2.2).bind fun r69 =>
 (some (r69.1, r69.2.1, r69.2.2))))))
 else
 (bif (m.Kind == 12) then
 ((z2k N m.Epoch r3.1 r3.2.1 r3.2.2).bind fun r70 =>
 (some (r70.1, r70.2.1, r70.2.2)))
 else
 (bif (m.Kind == 13) then
 ((z1c N m.Part r3.1 r3.2.1 r3.2.2).bind fun r71 =>
 (some (r71.1, r71.2.1, r71.2.2)))
 else
 (bif (m.Kind == 14) then
 ((z5 N [m.Number] r3.1 r3.2.1 r3.2.2).bind fun r72 =>
 ((z5 N (m.Vector_.toList) r72.1 r72.2.1 r72.2.2).bind fun r73 =>
 (some (r73.1, r73.2.1, r73.2.2))))
 else
 (bif (m.Kind == 15) then
 ((z5 N [m.Slot] r3.1 r3.2.1 r3.2.2).bind fun r74 =>
 ((z1c N m.Part r74.1 r74.2.1 r74.2.2).bind fun r75 =>
 (some (r75.1, r75.2.1, r75.2.2))))
 else
 (some (r3.1, r3.2.1, r3.2.2))))))))))))))))))))
def z77 : Con τ := { args := [.ptr 0 [], .ty 43], L := [.box (.agg [.ptr 1 [], .ty 48]), .box (.agg [.ty 4, .own 5 2]), .tail], ret := .tup [], L' := [.box (.agg [.ptr 1 [], .ty 48]), .box (.agg [.ty 4, .own 5 3]), .dead, .tail], R := Int × Bool × (List (Int)), dflt := (default, default, default), F := fun N a b => zd5 N a.2.1 b.1.2.1 b.2.1.1 b.2.1.2.1, of := fun r => ((), (((), r.1, ()), (r.2.1, r.2.2, ()), (), (), ())) }
noncomputable def zm2 : Dat τ := { D := D0, tbl := tblOf [(100, zt), (101, z6n), (102, z2w), (103, z14), (104, z6q), (105, z38), (106, z3s), (107, z37), (108, z3g)], lp := lpsOf [], k0 := 3, mu := [], un := [] }
theorem zn5 : ConOk E C 53 z77 :=
  z9 (D := zm2) ⟨d0Ok, eGood, z7 ⟨z13, ⟨zly, ⟨z9b, ⟨z1i, ⟨zm1, ⟨zak, ⟨zcj, ⟨zaj, ⟨zbj, trivial⟩⟩⟩⟩⟩⟩⟩⟩⟩, fun _ => rfl⟩ z77 (fun a b => (b.1.2.1, b.2.1.1, b.2.1.2.1)) none (fun _ _ => rfl) rfl (fun _ _ h => nomatch h) 1000000 (fn := Tryz.f53) Tryz.func53 rfl (by kernel_rfl) (by kernel_rfl) rfl (by intro N a b; kernel_rfl)
def zd6 (N : Nat) (s : List (Int)) : Option ((List (Int))) :=
 (bif (lenB (0 + (s).length) 1) then
 (some ([] ++ s))
 else none)
def zbk : Con τ := { args := [.nn 5], L := [], ret := .ty 37, L' := [], R := (List (Int)), dflt := default, F := fun N a b => zd6 N a.1, of := fun r => (r, ()) }
noncomputable def zm3 : Dat τ := { D := D0, tbl := tblOf [], lp := lpsOf [], k0 := 0, mu := [], un := [] }
theorem zn6 : ConOk E C 40 zbk :=
  z9 (D := zm3) ⟨d0Ok, eGood, z7 trivial, fun _ => rfl⟩ zbk (fun a b => a) none (fun _ _ => rfl) rfl (fun _ _ h => nomatch h) 1000000 (fn := Tryz.f40) Tryz.func40 rfl (by kernel_rfl) (by kernel_rfl) rfl (by intro N a b; kernel_rfl)
def zoa (N : Nat)  : Option ((List (Int))) :=
 (some [])
def z78 : Con τ := { args := [.nil .slice], L := [], ret := .ty 37, L' := [], R := (List (Int)), dflt := default, F := fun N a b => zoa N , of := fun r => (r, ()) }
noncomputable def zm4 : Dat τ := { D := D0, tbl := tblOf [], lp := lpsOf [], k0 := 0, mu := [], un := [] }
theorem zn7 : ConOk E C 40 z78 :=
  z9 (D := zm4) ⟨d0Ok, eGood, z7 trivial, fun _ => rfl⟩ z78 (fun a b => a) none (fun _ _ => rfl) rfl (fun _ _ h => nomatch h) 1000000 (fn := Tryz.f40) Tryz.func40 rfl (by kernel_rfl) (by kernel_rfl) rfl (by intro N a b; kernel_rfl)
def z26 (N : Nat) (s : List (Int)) : Option ((List (Int))) := zd6 N s
def z1f : Con τ := { args := [.ty 37], L := [], ret := .ty 37, L' := [], R := (List (Int)), dflt := default, F := fun N a b => z26 N a.1, of := fun r => (r, ()) }
theorem z2c : ConOk E C 40 z1f := by
  intro N a b r h
  obtain ⟨x0, u⟩ := a
  refine FnSpec.split (pre := []) (post := []) (fun h0 => ?_) (zn6 N (x0, u) b r h)
  have h0 : x0 = [] := List.map_eq_nil_iff.1 h0
  subst h0
  exact zn7 N ((), u) b r ((show z78.F N ((), u) b = z1f.F N ([], u) b from by kernel_rfl).trans h)
def zf0 (N : Nat) (b0 : Bool) (b02 : List (Int)) : Option ((List (Int)) × Bool × (List (Int))) :=
 ((z8x N b0 b02).bind fun r1 =>
 (bif r1.1 then
 (some ([], r1.2.1, r1.2.2))
 else
 ((z26 N r1.2.2).bind fun r2 =>
 (some (r2, r1.2.1, r1.2.2)))))
def z81 : Con τ := { args := [.ptr 0 []], L := [.box (.agg [.ty 4, .own 5 1]), .tail], ret := .ty 37, L' := [.box (.agg [.ty 4, .own 5 1]), .tail], R := (List (Int)) × Bool × (List (Int)), dflt := (default, default, default), F := fun N a b => zf0 N b.1.1 b.1.2.1, of := fun r => (r.1, ((r.2.1, r.2.2, ()), (), ())) }
noncomputable def zob : Dat τ := { D := D0, tbl := tblOf [(113, z4j), (40, z1f)], lp := lpsOf [], k0 := 2, mu := [], un := [] }
theorem zpc : ConOk E C 55 z81 :=
  z9 (D := zob) ⟨d0Ok, eGood, z7 ⟨zd3, ⟨z2c, trivial⟩⟩, fun _ => rfl⟩ z81 (fun a b => (a, b.1.1, b.1.2.1)) none (fun _ _ => rfl) rfl (fun _ _ h => nomatch h) 1000000 (fn := Tryz.f55) Tryz.func55 rfl (by kernel_rfl) (by kernel_rfl) rfl (by intro N a b; kernel_rfl)
structure zh5 where
  sum : Int
  t11 : Int
def zpd : List Sl := [.k, .k, .k, .sh (.ty 138), .k, .j, .k, .j, .j, .k, .k, .sh (.ty 2), .j, .j, .j, .j, .j, .j, .j, .j, .j, .j, .j, .j, .j, .j, .j, .j, .j, .j, .j, .j, .j, .j, .j, .j, .j, .j, .k, .k]
def zpe : List ESh := []
def z11i (a : Sl.Ts τ zpd) (b : ESh.Ts τ zpe) : zh5 := ⟨a.2.2.2.1, a.2.2.2.2.2.2.2.2.2.2.2.1⟩
def z11j (s : zh5) : Sl.Ts τ zpd := ((), (), (), s.sum, (), (), (), (), (), (), (), s.t11, (), (), (), (), (), (), (), (), (), (), (), (), (), (), (), (), (), (), (), (), (), (), (), (), (), (), (), (), ())
def z11k (s : zh5) : ESh.Ts τ zpe := ()
def z11l : Lp τ := { ts := zpd, hs := zpe, S := zh5, to := z11i, ot := z11j, oh := z11k, hk := [], tk := [], ot_to := fun _ _ => rfl, oh_to := fun _ _ => rfl }
structure zh6 where
  sum : Int
  t17 : Int
def zpf : List Sl := [.k, .k, .k, .sh (.ty 138), .k, .k, .k, .j, .j, .k, .k, .k, .k, .k, .k, .k, .k, .sh (.ty 2), .j, .j, .j, .j, .j, .j, .j, .j, .j, .j, .j, .j, .j, .j, .j, .j, .j, .j, .j, .k, .k, .k]
def zpg : List ESh := []
def z11m (a : Sl.Ts τ zpf) (b : ESh.Ts τ zpg) : zh6 := ⟨a.2.2.2.1, a.2.2.2.2.2.2.2.2.2.2.2.2.2.2.2.2.2.1⟩
def z11n (s : zh6) : Sl.Ts τ zpf := ((), (), (), s.sum, (), (), (), (), (), (), (), (), (), (), (), (), (), s.t17, (), (), (), (), (), (), (), (), (), (), (), (), (), (), (), (), (), (), (), (), (), (), ())
def z11o (s : zh6) : ESh.Ts τ zpg := ()
def z11p : Lp τ := { ts := zpf, hs := zpg, S := zh6, to := z11m, ot := z11n, oh := z11o, hk := [], tk := [], ot_to := fun _ _ => rfl, oh_to := fun _ _ => rfl }
structure zdz where
  sum : Int
  t25 : Int
def zn8 : List Sl := [.k, .k, .k, .sh (.ty 138), .k, .k, .k, .k, .j, .k, .k, .k, .k, .k, .k, .k, .k, .k, .k, .k, .k, .k, .k, .k, .k, .sh (.ty 2), .j, .j, .j, .j, .j, .j, .j, .j, .j, .j, .k, .k, .k, .k]
def zn9 : List ESh := []
def z10i (a : Sl.Ts τ zn8) (b : ESh.Ts τ zn9) : zdz := ⟨a.2.2.2.1, a.2.2.2.2.2.2.2.2.2.2.2.2.2.2.2.2.2.2.2.2.2.2.2.2.2.1⟩
def z10j (s : zdz) : Sl.Ts τ zn8 := ((), (), (), s.sum, (), (), (), (), (), (), (), (), (), (), (), (), (), (), (), (), (), (), (), (), (), s.t25, (), (), (), (), (), (), (), (), (), (), (), (), (), (), ())
def z10k (s : zdz) : ESh.Ts τ zn9 := ()
def z10l : Lp τ := { ts := zn8, hs := zn9, S := zdz, to := z10i, ot := z10j, oh := z10k, hk := [], tk := [], ot_to := fun _ _ => rfl, oh_to := fun _ _ => rfl }
def zxy (N : Nat) (l : List (List (Int))) : Option (Int) :=
 (iter N (fun (s1 : zh5) next2 =>
 (bif (decide (s1.t11 < ((l).length : Int))) then
 (bif (ibB s1.t11 ((l).length : Int)) then
 (iter N (fun (s3 : zh6) next4 =>
 (bif (decide (s3.t17 < (((lget l s1.t11 default)).length : Int))) then
 (bif (ibB s3.t17 (((lget l s1.t11 default)).length : Int)) then
 (iter N (fun (s5 : zdz) next6 =>
 (bif (decide (s5.t25 < 8)) then
 (bif ((bits .and .u32 s5.sum 1) == 1) then
 (next6 ⟨(bits .xor .u32 (shr .u32 s5.sum 1) 3988292384), (IntKind.i64.wrap (s5.t25 + 1))⟩)
 else
 (next6 ⟨(shr .u32 s5.sum 1), (IntKind.i64.wrap (s5.t25 + 1))⟩))
 else
 (next4 ⟨s5.sum, (IntKind.i64.wrap (s3.t17 + 1))⟩))) ⟨(bits .xor .u32 s3.sum (IntKind.u32.wrap (lget (lget l s1.t11 default) s3.t17 default))), 0⟩)
 else none)
 else
 (next2 ⟨s3.sum, (IntKind.i64.wrap (s1.t11 + 1))⟩))) ⟨s1.sum, 0⟩)
 else none)
 else
 (some (bits .xor .u32 IntKind.u32.max s1.sum)))) ⟨4294967295, 0⟩)
def zna : Con τ := { args := [.ty 201], L := [], ret := .ty 138, L' := [], R := Int, dflt := default, F := fun N a b => zxy N a.1, of := fun r => (r, ()) }
noncomputable def z12r : Dat τ := { D := D0, tbl := tblOf [], lp := lpsOf [(3, z11l), (6, z11p), (10, z10l)], k0 := 0, mu := [], un := [] }
theorem zzp : ConOk E C 112 zna :=
  z9 (D := z12r) ⟨d0Ok, eGood, z7 trivial, fun _ => rfl⟩ zna (fun a b => a) none (fun _ _ => rfl) rfl (fun _ _ h => nomatch h) 1000000 (fn := Tryz.f112) Tryz.func112 rfl (by kernel_rfl) (by kernel_rfl) rfl (by intro N a b; kernel_rfl)
def zv0 (N : Nat) (sum : Int) : Option ((List (Int))) :=
 (some [(IntKind.u8.wrap sum), (IntKind.u8.wrap (shr .u32 sum 8)), (IntKind.u8.wrap (shr .u32 sum 16)), (IntKind.u8.wrap (shr .u32 sum 24))])
def zj2 : Con τ := { args := [.ty 138], L := [], ret := .ty 37, L' := [], R := (List (Int)), dflt := default, F := fun N a b => zv0 N a.1, of := fun r => (r, ()) }
noncomputable def z11q : Dat τ := { D := D0, tbl := tblOf [], lp := lpsOf [], k0 := 0, mu := [], un := [] }
theorem zxz : ConOk E C 111 zj2 :=
  z9 (D := z11q) ⟨d0Ok, eGood, z7 trivial, fun _ => rfl⟩ zj2 (fun a b => a) none (fun _ _ => rfl) rfl (fun _ _ h => nomatch h) 1000000 (fn := Tryz.f111) Tryz.func111 rfl (by kernel_rfl) (by kernel_rfl) rfl (by intro N a b; kernel_rfl)
def ze0 (N : Nat) (n : Int) : Option (Nat × (List (Int))) :=
 (bif (decide (n < 0)) then
 none
 else
 (bif (decide (0 < (IntKind.i64.wrap (n - 0)))) then
 (bif (mkB (IntKind.i64.wrap (n - 0)) 1) then
 (bif (cutB 0 0 ((((IntKind.i64.wrap (n - 0))).toNat : Nat) : Int)) then
 (some (0, (List.replicate (((IntKind.i64.wrap (n - 0))).toNat) 0)))
 else none)
 else none)
 else
 (some (0, []))))
def z7l : Con τ := { args := [.nil .slice, .ty 3], L := [], ret := .msl 5 0, L' := [.gbx 5], R := Nat × (List (Int)), dflt := (default, default), F := fun N a b => ze0 N a.2.1, of := fun r => (r.1, (r.2, ())) }
noncomputable def znb : Dat τ := { D := D0, tbl := tblOf [], lp := lpsOf [], k0 := 0, mu := [22], un := [] }
theorem zoc : ConOk E C 142 z7l :=
  z9 (D := znb) ⟨d0Ok, eGood, z7 trivial, fun _ => rfl⟩ z7l (fun a b => (a, b.1)) none (fun _ _ => rfl) rfl (fun _ _ h => nomatch h) 1000000 (fn := Tryz.f142) Tryz.func142 rfl (by kernel_rfl) (by kernel_rfl) rfl (by intro N a b; kernel_rfl)
structure z2a where
  size : Int
  t11 : Int
def z5z : List Sl := [.k, .k, .k, .sh (.ty 2), .k, .j, .k, .k, .k, .k, .k, .sh (.ty 2), .j, .j, .j, .j, .j, .j, .j, .j, .j, .j, .j, .k, .k, .k, .k, .k, .k, .k, .k, .k, .k, .k, .k, .k]
def z60 : List ESh := []
def zif (a : Sl.Ts τ z5z) (b : ESh.Ts τ z60) : z2a := ⟨a.2.2.2.1, a.2.2.2.2.2.2.2.2.2.2.2.1⟩
def zig (s : z2a) : Sl.Ts τ z5z := ((), (), (), s.size, (), (), (), (), (), (), (), s.t11, (), (), (), (), (), (), (), (), (), (), (), (), (), (), (), (), (), (), (), (), (), (), (), (), ())
def zih (s : z2a) : ESh.Ts τ z60 := ()
def zii : Lp τ := { ts := z5z, hs := z60, S := z2a, to := zif, ot := zig, oh := zih, hk := [], tk := [], ot_to := fun _ _ => rfl, oh_to := fun _ _ => rfl }
structure z23 where
  newslice : Nat
  t27 : Int
  g1 : List (Int)
def z5f : List Sl := [.k, .k, .k, .k, .k, .k, .sh (.msl 5 1), .k, .j, .k, .k, .k, .k, .k, .k, .k, .k, .k, .k, .k, .k, .k, .k, .k, .k, .k, .k, .sh (.ty 2), .j, .j, .j, .j, .j, .j, .j, .k]
def z5g : List ESh := [.dead, .gbx 5]
def zh7 (a : Sl.Ts τ z5f) (b : ESh.Ts τ z5g) : z23 := ⟨a.2.2.2.2.2.2.1, a.2.2.2.2.2.2.2.2.2.2.2.2.2.2.2.2.2.2.2.2.2.2.2.2.2.2.2.1, b.2.1⟩
def zh8 (s : z23) : Sl.Ts τ z5f := ((), (), (), (), (), (), s.newslice, (), (), (), (), (), (), (), (), (), (), (), (), (), (), (), (), (), (), (), (), s.t27, (), (), (), (), (), (), (), (), ())
def zh9 (s : z23) : ESh.Ts τ z5g := ((), s.g1, ())
def zha : Lp τ := { ts := z5f, hs := z5g, S := z23, to := zh7, ot := zh8, oh := zh9, hk := [4], tk := [], ot_to := fun _ _ => rfl, oh_to := fun _ _ => rfl }
def zck (N : Nat) (slices : List (List (Int))) : Option (Nat × (List (Int))) :=
 (iter N (fun (s1 : z2a) next2 =>
 (bif (decide (s1.t11 < ((slices).length : Int))) then
 (bif (ibB s1.t11 ((slices).length : Int)) then
 (bif (decide ((IntKind.i64.wrap (s1.size + (((lget slices s1.t11 default)).length : Int))) < 0)) then
 none
 else
 (next2 ⟨(IntKind.i64.wrap (s1.size + (((lget slices s1.t11 default)).length : Int))), (IntKind.i64.wrap (s1.t11 + 1))⟩))
 else none)
 else
 ((ze0 N s1.size).bind fun r3 =>
 (iter N (fun (s4 : z23) next5 =>
 (bif (decide (s4.t27 < ((slices).length : Int))) then
 (bif (ibB s4.t27 ((slices).length : Int)) then
 (bif ((lenB (s4.newslice + ((lget slices s4.t27 default)).length) 1) && (Nat.ble s4.newslice (s4.g1).length)) then
 (next5 ⟨(s4.newslice + ((lget slices s4.t27 default)).length), (IntKind.i64.wrap (s4.t27 + 1)), (s4.g1.take s4.newslice ++ (lget slices s4.t27 default))⟩)
 else none)
 else none)
 else
 (some (s4.newslice, s4.g1)))) ⟨r3.1, 0, r3.2⟩)))) ⟨0, 0⟩)
def z6r : Con τ := { args := [.ty 201], L := [], ret := .msl 5 0, L' := [.gbx 5], R := Nat × (List (Int)), dflt := (default, default), F := fun N a b => zck N a.1, of := fun r => (r.1, (r.2, ())) }
noncomputable def zki : Dat τ := { D := D0, tbl := tblOf [(142, z7l)], lp := lpsOf [(3, zii), (11, zha)], k0 := 0, mu := [33], un := [] }
theorem zm5 : ConOk E C 109 z6r :=
  z9 (D := zki) ⟨d0Ok, eGood, z7 ⟨zoc, trivial⟩, fun _ => rfl⟩ z6r (fun a b => (a, b.1)) none (fun _ _ => rfl) rfl (fun _ _ h => nomatch h) 1000000 (fn := Tryz.f109) Tryz.func109 rfl (by kernel_rfl) (by kernel_rfl) rfl (by intro N a b; kernel_rfl)
def zbl (N : Nat) (slices : List (List (Int))) : Option ((List (Int))) := (zck N slices).bind fun r => bif Nat.ble r.1 (r.2).length then some ((r.2).take r.1) else none
def z9c : Con τ := { args := [.ty 201], L := [], ret := .ty 37, L' := [.dead], R := (List (Int)), dflt := default, F := fun N a b => zbl N a.1, of := fun r => (r, ((), ())) }
theorem zkj : ConOk E C 109 z9c := by
  intro N a b r h
  have h : (z6r.F N a b).bind (fun r => bif Nat.ble r.1 (r.2).length then some ((r.2).take r.1) else none) = some r := h
  obtain ⟨q, h0, h1⟩ := Option.bind_eq_some_iff.1 h
  cases hb : Nat.ble q.1 (q.2).length with
  | false => rw [hb] at h1; cases h1
  | true =>
    rw [hb] at h1
    have h2 : (q.2).take q.1 = r := Option.some.inj h1
    subst h2
    exact FnSpec.msl (ents := [.gbx 5 q.2]) (id := 0) cOk (zm5 N a b q h0) rfl (Nat.le_of_ble_eq_true hb)
def zy0 (N : Nat) (b : List (Int)) : Option ((List (Int)) × Int) :=
 (bif (decide (1048576 < ((b).length : Int))) then
 (some ([], 3))
 else
 ((zj1 N ((b).length : Int)).bind fun r1 =>
 ((zxy N [b]).bind fun r2 =>
 ((zv0 N r2).bind fun r3 =>
 ((zbl N [r1, b, r3]).bind fun r4 =>
 (some (r4, 0)))))))
def znc : Con τ := { args := [.ty 37], L := [], ret := .tup [.ty 37, .ty 48], L' := [], R := (List (Int)) × Int, dflt := (default, default), F := fun N a b => zy0 N a.1, of := fun r => ((r.1, r.2, ()), ()) }
noncomputable def z10m : Dat τ := { D := D0, tbl := tblOf [(110, zai), (112, zna), (111, zj2), (109, z9c)], lp := lpsOf [], k0 := 0, mu := [], un := [] }
theorem z11r : ConOk E C 54 znc :=
  z9 (D := z10m) ⟨d0Ok, eGood, z7 ⟨zmx, ⟨zzp, ⟨zxz, ⟨zkj, trivial⟩⟩⟩⟩, fun _ => rfl⟩ znc (fun a b => (a.1, a.2.1)) none (fun _ _ => rfl) rfl (fun _ _ h => nomatch h) 1000000 (fn := Tryz.f54) Tryz.func54 rfl (by kernel_rfl) (by kernel_rfl) rfl (by intro N a b; kernel_rfl)
def zhb (N : Nat) (m : GMsg) : Option ((List (Int)) × Int) :=
 ((zem N m).bind fun r1 =>
 (bif (!(r1 == 0)) then
 (some ([], r1))
 else
 ((zpb N).bind fun r2 =>
 ((zd5 N m 0 r2.1 r2.2).bind fun r3 =>
 (bif (!(r3.1 == 0)) then
 (some ([], r3.1))
 else
 ((zf0 N r3.2.1 r3.2.2).bind fun r4 =>
 ((zy0 N r4.1).bind fun r5 =>
 (some (r5.1, r5.2)))))))))
def z98 : Con τ := { args := [.ty 43], L := [], ret := .tup [.ty 37, .ty 48], L' := [], R := (List (Int)) × Int, dflt := (default, default), F := fun N a b => zhb N a.1, of := fun r => ((r.1, r.2, ()), ()) }
noncomputable def zv1 : Dat τ := { D := D0, tbl := tblOf [(51, z8b), (52, zdl), (53, z77), (55, z81), (54, znc)], lp := lpsOf [], k0 := 0, mu := [], un := [] }
theorem zny : ConOk E C 26 z98 :=
  z9 (D := zv1) ⟨d0Ok, eGood, z7 ⟨zlt, ⟨zwi, ⟨zn5, ⟨zpc, ⟨z11r, trivial⟩⟩⟩⟩⟩, fun _ => rfl⟩ z98 (fun a b => (a.1, a.2.1)) none (fun _ _ => rfl) rfl (fun _ _ h => nomatch h) 1000000 (fn := Tryz.f26) Tryz.func26 rfl (by kernel_rfl) (by kernel_rfl) rfl (by intro N a b; kernel_rfl)
def z7m (N : Nat) (from_ : GAddr) (to : GAddr) (data : List (Int)) (b0 : Nat) (b02 : Int) (b03 : Bool) (g1 : List (GSent)) : Option (Int × Nat × Int × Bool × (List (GSent))) :=
 (bif ((lenB (b0 + ([(⟨(IntKind.i64.wrap (b02 + 1)), from_, to, data⟩ : GSent)]).length) 64) && (Nat.ble b0 (g1).length)) then
 (some ((IntKind.i64.wrap (b02 + 1)), (b0 + ([(⟨(IntKind.i64.wrap (b02 + 1)), from_, to, data⟩ : GSent)]).length), (IntKind.i64.wrap (b02 + 1)), b03, (g1.take b0 ++ [(⟨(IntKind.i64.wrap (b02 + 1)), from_, to, data⟩ : GSent)])))
 else none)
def z3m : Con τ := { args := [.ptr 0 [.fld 0 0], .ty 23, .ty 23, .ty 37], L := [.box (.agg [.agg [.msl 65 1, .ty 2], .ty 4]), .gbx 65], ret := .ty 2, L' := [.box (.agg [.agg [.msl 65 2, .ty 2], .ty 4]), .dead, .gbx 65], R := Int × Nat × Int × Bool × (List (GSent)), dflt := (default, default, default, default, default), F := fun N a b => z7m N a.2.1 a.2.2.1 a.2.2.2.1 b.1.1.1 b.1.1.2.1 b.1.2.1 b.2.1, of := fun r => (r.1, (((r.2.1, r.2.2.1, ()), r.2.2.2.1, ()), (), r.2.2.2.2, ())) }
noncomputable def zph : Dat τ := { D := D0, tbl := tblOf [], lp := lpsOf [], k0 := 2, mu := [30], un := [] }
theorem z9y : ConOk E C 27 z3m :=
  z9 (D := zph) ⟨d0Ok, eGood, z7 trivial, fun _ => rfl⟩ z3m (fun a b => (a, b.1.1.1, b.1.1.2.1, b.1.2.1, b.2.2.1)) none (fun _ _ => rfl) rfl (fun _ _ h => nomatch h) 1000000 (fn := Tryz.f27) Tryz.func27 rfl (by kernel_rfl) (by kernel_rfl) rfl (by intro N a b; kernel_rfl)
structure z5h where
  many : Int
  t15 : Int
  b0 : Nat
  b02 : Int
  b03 : Bool
  g2 : List (GSent)
def z9z : List Sl := [.k, .k, .k, .k, .k, .k, .sh (.ty 2), .k, .j, .j, .j, .k, .k, .k, .k, .sh (.ty 2), .j, .j, .j, .j, .j, .j, .j, .j, .j, .j, .j, .j, .j, .j, .j, .j, .j, .j, .j, .j, .j, .j, .j, .j, .j, .j, .j, .j, .j, .j, .j, .k]
def za0 : List ESh := [.box (.agg [.agg [.msl 65 2, .ty 2], .ty 4]), .dead, .gbx 65]
def zqw (a : Sl.Ts τ z9z) (b : ESh.Ts τ za0) : z5h := ⟨a.2.2.2.2.2.2.1, a.2.2.2.2.2.2.2.2.2.2.2.2.2.2.2.1, b.1.1.1, b.1.1.2.1, b.1.2.1, b.2.2.1⟩
def zqx (s : z5h) : Sl.Ts τ z9z := ((), (), (), (), (), (), s.many, (), (), (), (), (), (), (), (), s.t15, (), (), (), (), (), (), (), (), (), (), (), (), (), (), (), (), (), (), (), (), (), (), (), (), (), (), (), (), (), (), (), (), ())
def zqy (s : z5h) : ESh.Ts τ za0 := (((s.b0, s.b02, ()), s.b03, ()), (), s.g2, ())
def zqz : Lp τ := { ts := z9z, hs := za0, S := z5h, to := zqw, ot := zqx, oh := zqy, hk := [2, 4], tk := [2, 0, 0, 0, 0, 0, 0, 0, 0, 0, 0, 2], ot_to := fun _ _ => rfl, oh_to := fun _ _ => rfl }
def zm6 (N : Nat) (l : List (GMsg)) (b0 : Nat) (b02 : Int) (b03 : Bool) (g1 : List (GSent)) : Option (Int × Int × Nat × Int × Bool × (List (GSent))) :=
 ((z2i N b0 b02 b03 g1).bind fun r1 =>
 (bif r1.1 then
 (some (0, 2, r1.2.1, r1.2.2.1, r1.2.2.2.1, r1.2.2.2.2))
 else
 (iter N (fun (s2 : z5h) next3 =>
 (bif (decide (s2.t15 < ((l).length : Int))) then
 (bif (ibB s2.t15 ((l).length : Int)) then
 ((zhb N (⟨(lget l s2.t15 default).Kind, ((lget l s2.t15 default).From), ((lget l s2.t15 default).To), ((lget l s2.t15 default).Ballot), (lget l s2.t15 default).Slot, (lget l s2.t15 default).List_, (⟨((lget l s2.t15 default).Entry).Kind, ((lget l s2.t15 default).Entry).Session, ((lget l s2.t15 default).Entry).Request, (⟨((((lget l s2.t15 default).Entry).Op).Stamp), (((lget l s2.t15 default).Entry).Op).Kind, (((lget l s2.t15 default).Entry).Op).Node, (((lget l s2.t15 default).Entry).Op).Parent, (((lget l s2.t15 default).Entry).Op).Name, (((lget l s2.t15 default).Entry).Op).Key, (((lget l s2.t15 default).Entry).Op).Value⟩ : GOp), ((lget l s2.t15 default).Entry).Origin, ((lget l s2.t15 default).Entry).Seq, ((lget l s2.t15 default).Entry).Ops, (((lget l s2.t15 default).Entry).Epoch), ((lget l s2.t15 default).Entry).From, ((lget l s2.t15 default).Entry).Vector_, ((lget l s2.t15 default).Entry).Clock, (((lget l s2.t15 default).Entry).Part), ((lget l s2.t15 default).Entry).Site, ((lget l s2.t15 default).Entry).Sponsor, ((lget l s2.t15 default).Entry).Length⟩ : zd), (lget l s2.t15 default).Number, (lget l s2.t15 default).Vector_, (lget l s2.t15 default).Clock, (lget l s2.t15 default).Origin, (lget l s2.t15 default).Ops, ((lget l s2.t15 default).Epoch), ((lget l s2.t15 default).Part)⟩ : GMsg)).bind fun r4 =>
 (bif ((!(r4.2 == 0)) || (decide (16384 ≤ ((s2.b0 : Nat) : Int)))) then
 (next3 ⟨s2.many, (IntKind.i64.wrap (s2.t15 + 1)), s2.b0, s2.b02, s2.b03, s2.g2⟩)
 else
 ((z7m N ((lget l s2.t15 default).From) ((lget l s2.t15 default).To) r4.1 s2.b0 s2.b02 s2.b03 s2.g2).bind fun r5 =>
 (next3 ⟨(IntKind.i64.wrap (s2.many + 1)), (IntKind.i64.wrap (s2.t15 + 1)), r5.2.1, r5.2.2.1, r5.2.2.2.1, r5.2.2.2.2⟩))))
 else none)
 else
 (some (s2.many, 0, s2.b0, s2.b02, s2.b03, s2.g2)))) ⟨0, 0, r1.2.1, r1.2.2.1, r1.2.2.2.1, r1.2.2.2.2⟩)))
def zba : Con τ := { args := [.ptr 0 [], .ty 59], L := [.box (.agg [.agg [.msl 65 1, .ty 2], .ty 4]), .gbx 65], ret := .tup [.ty 3, .ty 48], L' := [.box (.agg [.agg [.msl 65 2, .ty 2], .ty 4]), .dead, .gbx 65], R := Int × Int × Nat × Int × Bool × (List (GSent)), dflt := (default, default, default, default, default, default), F := fun N a b => zm6 N a.2.1 b.1.1.1 b.1.1.2.1 b.1.2.1 b.2.1, of := fun r => ((r.1, r.2.1, ()), (((r.2.2.1, r.2.2.2.1, ()), r.2.2.2.2.1, ()), (), r.2.2.2.2.2, ())) }
noncomputable def zsk : Dat τ := { D := D0, tbl := tblOf [(25, z1l), (26, z98), (27, z3m)], lp := lpsOf [(5, zqz)], k0 := 2, mu := [], un := [] }
theorem ztw : ConOk E C 10 zba :=
  z9 (D := zsk) ⟨d0Ok, eGood, z7 ⟨z2s, ⟨zny, ⟨z9y, trivial⟩⟩⟩, fun _ => rfl⟩ zba (fun a b => (a.1, a.2.1, b.1.1.1, b.1.1.2.1, b.1.2.1, b.2.2.1)) none (fun _ _ => rfl) rfl (fun _ _ h => nomatch h) 1000000 (fn := Tryz.f10) Tryz.func10 rfl (by kernel_rfl) (by kernel_rfl) rfl (by intro N a b; kernel_rfl)
def ze1 (N : Nat) (s : GSent) (b0 : Int) : Option (Bool × Int) :=
 (some ((s.Number == b0), b0))
def z7n : Con τ := { args := [.ty 65, .ptr 0 []], L := [.box (.ty 2)], ret := .ty 4, L' := [.box (.ty 2)], R := Bool × Int, dflt := (default, default), F := fun N a b => ze1 N a.1 b.1, of := fun r => (r.1, (r.2, ())) }
noncomputable def znd : Dat τ := { D := D0, tbl := tblOf [], lp := lpsOf [], k0 := 1, mu := [], un := [] }
theorem zod : ConOk E C 118 z7n :=
  z9 (D := znd) ⟨d0Ok, eGood, z7 trivial, fun _ => rfl⟩ z7n (fun a b => (a, b.1)) none (fun _ _ => rfl) rfl (fun _ _ h => nomatch h) 1000000 (fn := Tryz.f118) Tryz.func118 rfl (by kernel_rfl) (by kernel_rfl) rfl (by intro N a b; kernel_rfl)
structure z1t where
  t8 : Int
  b1 : Int
def z3y : List Sl := [.k, .k, .k, .k, .j, .j, .k, .k, .sh (.ty 2), .j, .j, .j, .j, .j, .j, .j, .j, .j, .j]
def z3z : List ESh := [.keep, .box (.ty 2)]
def zen (a : Sl.Ts τ z3y) (b : ESh.Ts τ z3z) : z1t := ⟨a.2.2.2.2.2.2.2.2.1, b.2.1⟩
def zeo (s : z1t) : Sl.Ts τ z3y := ((), (), (), (), (), (), (), (), s.t8, (), (), (), (), (), (), (), (), (), (), ())
def zep (s : z1t) : ESh.Ts τ z3z := ((), s.b1, ())
def zeq : Lp τ := { ts := z3y, hs := z3z, S := z1t, to := zen, ot := zeo, oh := zep, hk := [4, 2], tk := [], ot_to := fun _ _ => rfl, oh_to := fun _ _ => rfl }
def z9d (N : Nat) (s : Nat) (g0 : List (GSent)) (b1 : Int) : Option (Int × (List (GSent)) × Int) :=
 (iter N (fun (s1 : z1t) next2 =>
 (bif (decide (s1.t8 < ((s : Nat) : Int))) then
 (bif (ibB s1.t8 ((s : Nat) : Int)) then
 (bif (decide ((s1.t8).toNat < (g0).length)) then
 ((ze1 N (⟨(g0.getD ((s1.t8).toNat) default).Number, ((g0.getD ((s1.t8).toNat) default).From), ((g0.getD ((s1.t8).toNat) default).To), (g0.getD ((s1.t8).toNat) default).Data⟩ : GSent) s1.b1).bind fun r3 =>
 (bif r3.1 then
 (some (s1.t8, g0, r3.2))
 else
 (next2 ⟨(IntKind.i64.wrap (s1.t8 + 1)), r3.2⟩)))
 else none)
 else none)
 else
 (some ((-1), g0, s1.b1)))) ⟨0, b1⟩)
def z4l : Con τ := { args := [.msl 65 0, .fn 118 [.ptr 1 []]], L := [.gbx 65, .box (.ty 2)], ret := .ty 3, L' := [.gbx 65, .box (.ty 2)], R := Int × (List (GSent)) × Int, dflt := (default, default, default), F := fun N a b => z9d N a.1 b.1 b.2.1, of := fun r => (r.1, (r.2.1, r.2.2, ())) }
noncomputable def zfo : Dat τ := { D := D0, tbl := tblOf [(118, z7n)], lp := lpsOf [(2, zeq)], k0 := 2, mu := [], un := [] }
theorem zhc : ConOk E C 87 z4l :=
  z9 (D := zfo) ⟨d0Ok, eGood, z7 ⟨zod, trivial⟩, fun _ => rfl⟩ z4l (fun a b => (a, b.1, b.2.1)) none (fun _ _ => rfl) rfl (fun _ _ h => nomatch h) 1000000 (fn := Tryz.f87) Tryz.func87 rfl (by kernel_rfl) (by kernel_rfl) rfl (by intro N a b; kernel_rfl)
def zhd (N : Nat) (number : Int) (b0 : Nat) (b02 : Int) (b03 : Bool) (g1 : List (GSent)) : Option (Int × Bool × Nat × Int × Bool × (List (GSent))) :=
 ((z9d N b0 g1 number).bind fun r1 =>
 (some (r1.1, (decide (0 ≤ r1.1)), b0, b02, b03, r1.2.1)))
def z8z : Con τ := { args := [.ptr 0 [.fld 0 0], .ty 2], L := [.box (.agg [.agg [.msl 65 1, .ty 2], .ty 4]), .gbx 65], ret := .tup [.ty 3, .ty 4], L' := [.box (.agg [.agg [.msl 65 1, .ty 2], .ty 4]), .gbx 65], R := Int × Bool × Nat × Int × Bool × (List (GSent)), dflt := (default, default, default, default, default, default), F := fun N a b => zhd N a.2.1 b.1.1.1 b.1.1.2.1 b.1.2.1 b.2.1, of := fun r => ((r.1, r.2.1, ()), (((r.2.2.1, r.2.2.2.1, ()), r.2.2.2.2.1, ()), r.2.2.2.2.2, ())) }
noncomputable def zpi : Dat τ := { D := D0, tbl := tblOf [(87, z4l)], lp := lpsOf [], k0 := 2, mu := [], un := [] }
theorem zr0 : ConOk E C 76 z8z :=
  z9 (D := zpi) ⟨d0Ok, eGood, z7 ⟨zhc, trivial⟩, fun _ => rfl⟩ z8z (fun a b => (a.1, a.2.1, b.1.1.1, b.1.1.2.1, b.1.2.1, b.2.1)) none (fun _ _ => rfl) rfl (fun _ _ h => nomatch h) 1000000 (fn := Tryz.f76) Tryz.func76 rfl (by kernel_rfl) (by kernel_rfl) rfl (by intro N a b; kernel_rfl)
def z90 (N : Nat) (number : Int) (b0 : Nat) (b02 : Int) (b03 : Bool) (g1 : List (GSent)) : Option (Int × Int × Nat × Int × Bool × (List (GSent))) :=
 ((z2i N b0 b02 b03 g1).bind fun r1 =>
 (bif r1.1 then
 (some (0, 2, r1.2.1, r1.2.2.1, r1.2.2.2.1, r1.2.2.2.2))
 else
 ((zhd N number r1.2.1 r1.2.2.1 r1.2.2.2.1 r1.2.2.2.2).bind fun r2 =>
 (bif (!r2.2.1) then
 (some (0, 4, r2.2.2.1, r2.2.2.2.1, r2.2.2.2.2.1, r2.2.2.2.2.2))
 else
 (some (r2.1, 0, r2.2.2.1, r2.2.2.2.1, r2.2.2.2.2.1, r2.2.2.2.2.2))))))
def z4q : Con τ := { args := [.ptr 0 [], .ty 2], L := [.box (.agg [.agg [.msl 65 1, .ty 2], .ty 4]), .gbx 65], ret := .tup [.ty 3, .ty 48], L' := [.box (.agg [.agg [.msl 65 1, .ty 2], .ty 4]), .gbx 65], R := Int × Int × Nat × Int × Bool × (List (GSent)), dflt := (default, default, default, default, default, default), F := fun N a b => z90 N a.2.1 b.1.1.1 b.1.1.2.1 b.1.2.1 b.2.1, of := fun r => ((r.1, r.2.1, ()), (((r.2.2.1, r.2.2.2.1, ()), r.2.2.2.2.1, ()), r.2.2.2.2.2, ())) }
noncomputable def zv2 : Dat τ := { D := D0, tbl := tblOf [(25, z1l), (76, z8z)], lp := lpsOf [], k0 := 2, mu := [], un := [] }
theorem zaq : ConOk E C 31 z4q :=
  z9 (D := zv2) ⟨d0Ok, eGood, z7 ⟨z2s, ⟨zr0, trivial⟩⟩, fun _ => rfl⟩ z4q (fun a b => (a.1, a.2.1, b.1.1.1, b.1.1.2.1, b.1.2.1, b.2.1)) none (fun _ _ => rfl) rfl (fun _ _ h => nomatch h) 1000000 (fn := Tryz.f31) Tryz.func31 rfl (by kernel_rfl) (by kernel_rfl) rfl (by intro N a b; kernel_rfl)
def z7o (N : Nat) (s : Nat) (i : Int) (j : Int) (g0 : List (GSent)) : Option (Nat × (List (GSent))) :=
 (bif (cutW i j ((s : Nat) : Int) ((s : Nat) : Int)) then
 (bif (i == j) then
 (some (s, g0))
 else
 (bif (cutW 0 i ((s : Nat) : Int) ((s : Nat) : Int)) then
 (bif (cutW j ((s : Nat) : Int) ((s : Nat) : Int) ((s : Nat) : Int)) then
 (bif (((lenB ((i).toNat + (((g0.drop (0 + (j).toNat)).take (s - (j).toNat))).length) 64) && (Nat.ble ((i).toNat) (g0).length)) && (Nat.ble ((0 + (j).toNat) + (s - (j).toNat)) (g0).length)) then
 (bif (cutW ((((i).toNat + (((g0.drop (0 + (j).toNat)).take (s - (j).toNat))).length) : Nat) : Int) ((s : Nat) : Int) (((max s ((i).toNat + (((g0.drop (0 + (j).toNat)).take (s - (j).toNat))).length)) : Nat) : Int) (((max s ((i).toNat + (((g0.drop (0 + (j).toNat)).take (s - (j).toNat))).length)) : Nat) : Int)) then
 (some (((i).toNat + (((g0.drop (0 + (j).toNat)).take (s - (j).toNat))).length), (zy9 (g0.take ((i).toNat) ++ ((g0.drop (0 + (j).toNat)).take (s - (j).toNat))) (0 + (((((i).toNat + (((g0.drop (0 + (j).toNat)).take (s - (j).toNat))).length) : Nat) : Int)).toNat) ((((s : Nat) : Int)).toNat - (((((i).toNat + (((g0.drop (0 + (j).toNat)).take (s - (j).toNat))).length) : Nat) : Int)).toNat) (⟨0, (⟨0, 0⟩ : GAddr), (⟨0, 0⟩ : GAddr), []⟩ : GSent))))
 else none)
 else none)
 else none)
 else none))
 else none)
def z3h : Con τ := { args := [.msl 65 0, .ty 3, .ty 3], L := [.gbx 65], ret := .msl 65 1, L' := [.dead, .gbx 65], R := Nat × (List (GSent)), dflt := (default, default), F := fun N a b => z7o N a.1 a.2.1 a.2.2.1 b.1, of := fun r => (r.1, ((), r.2, ())) }
noncomputable def zkk : Dat τ := { D := D0, tbl := tblOf [], lp := lpsOf [], k0 := 1, mu := [13, 22, 25, 26, 31], un := [] }
theorem zbm : ConOk E C 32 z3h :=
  z9 (D := zkk) ⟨d0Ok, eGood, z7 trivial, fun _ => rfl⟩ z3h (fun a b => (a, b.2.1)) none (fun _ _ => rfl) rfl (fun _ _ h => nomatch h) 1000000 (fn := Tryz.f32) Tryz.func32 rfl (by kernel_rfl) (by kernel_rfl) rfl (by intro N a b; kernel_rfl)
structure zcl where
  u : Int
  t8 : Int
def zkl : List Sl := [.k, .k, .j, .j, .j, .sh (.ty 12), .j, .j, .sh (.ty 2), .j, .j, .j, .j, .j, .j, .j, .j, .j, .j, .j, .j, .j, .j, .j, .j, .j, .j, .j, .j, .j, .j, .j, .j, .j, .j, .j, .j, .j, .j, .j, .j, .j, .j, .j, .j, .j, .j, .j, .j, .j, .j, .j, .j, .j, .j, .j, .j, .j]
def zkm : List ESh := []
def zz1 (a : Sl.Ts τ zkl) (b : ESh.Ts τ zkm) : zcl := ⟨a.2.2.2.2.2.1, a.2.2.2.2.2.2.2.2.1⟩
def zz2 (s : zcl) : Sl.Ts τ zkl := ((), (), (), (), (), s.u, (), (), s.t8, (), (), (), (), (), (), (), (), (), (), (), (), (), (), (), (), (), (), (), (), (), (), (), (), (), (), (), (), (), (), (), (), (), (), (), (), (), (), (), (), (), (), (), (), (), (), (), (), (), ())
def zz3 (s : zcl) : ESh.Ts τ zkm := ()
def zz4 : Lp τ := { ts := zkl, hs := zkm, S := zcl, to := zz1, ot := zz2, oh := zz3, hk := [], tk := [], ot_to := fun _ _ => rfl, oh_to := fun _ _ => rfl }
def zne (N : Nat) (b : List (Int)) : Option (Int × Int × Int) :=
 (iter N (fun (s1 : zcl) next2 =>
 (bif (decide (s1.t8 < 10)) then
 (bif (decide (((b).length : Int) ≤ s1.t8)) then
 (some (0, 0, 10))
 else
 (bif (ibB s1.t8 ((b).length : Int)) then
 (bif (((s1.t8 == 9) && (decide (1 < (lget b s1.t8 default)))) || (((lget b s1.t8 default) == 0) && (decide (0 < s1.t8)))) then
 (some (0, 0, 11))
 else
 (bif (decide (0 ≤ (IntKind.i64.wrap (7 * s1.t8)))) then
 (bif (decide ((lget b s1.t8 default) < 128)) then
 (bif ((bits .and .u64 (bits .or .u64 s1.u (shl .u64 (IntKind.u64.wrap (bits .and .u8 (lget b s1.t8 default) 127)) (IntKind.i64.wrap (7 * s1.t8)))) 1) == 1) then
 (some ((IntKind.i64.wrap (bits .xor .u64 IntKind.u64.max (shr .u64 (bits .or .u64 s1.u (shl .u64 (IntKind.u64.wrap (bits .and .u8 (lget b s1.t8 default) 127)) (IntKind.i64.wrap (7 * s1.t8)))) 1))), (IntKind.i64.wrap (s1.t8 + 1)), 0))
 else
 (some ((IntKind.i64.wrap (shr .u64 (bits .or .u64 s1.u (shl .u64 (IntKind.u64.wrap (bits .and .u8 (lget b s1.t8 default) 127)) (IntKind.i64.wrap (7 * s1.t8)))) 1)), (IntKind.i64.wrap (s1.t8 + 1)), 0)))
 else
 (next2 ⟨(bits .or .u64 s1.u (shl .u64 (IntKind.u64.wrap (bits .and .u8 (lget b s1.t8 default) 127)) (IntKind.i64.wrap (7 * s1.t8)))), (IntKind.i64.wrap (s1.t8 + 1))⟩))
 else none))
 else none))
 else
 (some (0, 0, 11)))) ⟨0, 0⟩)
def zcm : Con τ := { args := [.ty 37], L := [], ret := .tup [.ty 2, .ty 3, .ty 48], L' := [], R := Int × Int × Int, dflt := (default, default, default), F := fun N a b => zne N a.1, of := fun r => ((r.1, r.2.1, r.2.2, ()), ()) }
noncomputable def z10n : Dat τ := { D := D0, tbl := tblOf [], lp := lpsOf [(3, zz4)], k0 := 0, mu := [], un := [] }
theorem zpj : ConOk E C 119 zcm :=
  z9 (D := z10n) ⟨d0Ok, eGood, z7 trivial, fun _ => rfl⟩ zcm (fun a b => (a.1, a.2.1, a.2.2.1)) none (fun _ _ => rfl) rfl (fun _ _ h => nomatch h) 1000000 (fn := Tryz.f119) Tryz.func119 rfl (by kernel_rfl) (by kernel_rfl) rfl (by intro N a b; kernel_rfl)
structure z44 where
  t13 : Int
def z91 : List Sl := [.k, .k, .k, .k, .j, .j, .k, .k, .k, .k, .k, .k, .k, .sh (.ty 2), .j, .j, .j, .j, .j, .j, .j, .j, .j, .j, .j, .j]
def z92 : List ESh := []
def zpk (a : Sl.Ts τ z91) (b : ESh.Ts τ z92) : z44 := ⟨a.2.2.2.2.2.2.2.2.2.2.2.2.2.1⟩
def zpl (s : z44) : Sl.Ts τ z91 := ((), (), (), (), (), (), (), (), (), (), (), (), (), s.t13, (), (), (), (), (), (), (), (), (), (), (), (), ())
def zpm (s : z44) : ESh.Ts τ z92 := ()
def zpn : Lp τ := { ts := z91, hs := z92, S := z44, to := zpk, ot := zpl, oh := zpm, hk := [], tk := [], ot_to := fun _ _ => rfl, oh_to := fun _ _ => rfl }
def zj3 (N : Nat) (s1_ : List (Int)) (s2_ : List (Int)) : Option (Bool) :=
 (bif (!(((s1_).length : Int) == ((s2_).length : Int))) then
 (some false)
 else
 (iter N (fun (s1 : z44) next2 =>
 (bif (decide (s1.t13 < ((s1_).length : Int))) then
 (bif (ibB s1.t13 ((s1_).length : Int)) then
 (bif (ibB s1.t13 ((s2_).length : Int)) then
 (bif (!((lget s1_ s1.t13 default) == (lget s2_ s1.t13 default))) then
 (some false)
 else
 (next2 ⟨(IntKind.i64.wrap (s1.t13 + 1))⟩))
 else none)
 else none)
 else
 (some true))) ⟨0⟩))
def za1 : Con τ := { args := [.ty 37, .ty 37], L := [], ret := .ty 4, L' := [], R := Bool, dflt := default, F := fun N a b => zj3 N a.1 a.2.1, of := fun r => (r, ()) }
noncomputable def zr1 : Dat τ := { D := D0, tbl := tblOf [], lp := lpsOf [(4, zpn)], k0 := 0, mu := [], un := [] }
theorem zsl : ConOk E C 120 za1 :=
  z9 (D := zr1) ⟨d0Ok, eGood, z7 trivial, fun _ => rfl⟩ za1 (fun a b => a) none (fun _ _ => rfl) rfl (fun _ _ h => nomatch h) 1000000 (fn := Tryz.f120) Tryz.func120 rfl (by kernel_rfl) (by kernel_rfl) rfl (by intro N a b; kernel_rfl)
def ztx (N : Nat) (b : List (Int)) : Option ((List (Int)) × Int × Int) :=
 ((zne N b).bind fun r1 =>
 (bif (!(r1.2.2 == 0)) then
 (some ([], 0, r1.2.2))
 else
 (bif (decide (r1.1 < 0)) then
 (some ([], 0, 11))
 else
 (bif (decide (1048576 < r1.1)) then
 (some ([], 0, 3))
 else
 (bif (decide ((IntKind.i64.wrap (((b).length : Int) - r1.2.1)) < (IntKind.i64.wrap (r1.1 + 4)))) then
 (some ([], 0, 10))
 else
 (bif (cutB (IntKind.i64.wrap (r1.2.1 + r1.1)) (IntKind.i64.wrap ((IntKind.i64.wrap (r1.2.1 + r1.1)) + 4)) ((b).length : Int)) then
 (bif (cutB r1.2.1 (IntKind.i64.wrap (r1.2.1 + r1.1)) ((b).length : Int)) then
 ((zxy N [(cut b r1.2.1 (IntKind.i64.wrap (r1.2.1 + r1.1)))]).bind fun r2 =>
 ((zv0 N r2).bind fun r3 =>
 ((zj3 N (cut b (IntKind.i64.wrap (r1.2.1 + r1.1)) (IntKind.i64.wrap ((IntKind.i64.wrap (r1.2.1 + r1.1)) + 4))) r3).bind fun r4 =>
 (bif (!r4) then
 (some ([], 0, 12))
 else
 (bif (cutB r1.2.1 (IntKind.i64.wrap (r1.2.1 + r1.1)) ((b).length : Int)) then
 ((z26 N (cut b r1.2.1 (IntKind.i64.wrap (r1.2.1 + r1.1)))).bind fun r5 =>
 (some (r5, (IntKind.i64.wrap ((IntKind.i64.wrap (r1.2.1 + r1.1)) + 4)), 0)))
 else none)))))
 else none)
 else none))))))
def zhe : Con τ := { args := [.ty 37], L := [], ret := .tup [.ty 37, .ty 3, .ty 48], L' := [], R := (List (Int)) × Int × Int, dflt := (default, default, default), F := fun N a b => ztx N a.1, of := fun r => ((r.1, r.2.1, r.2.2, ()), ()) }
noncomputable def zy1 : Dat τ := { D := D0, tbl := tblOf [(119, zcm), (112, zna), (111, zj2), (120, za1), (40, z1f)], lp := lpsOf [], k0 := 0, mu := [], un := [] }
theorem zz5 : ConOk E C 77 zhe :=
  z9 (D := zy1) ⟨d0Ok, eGood, z7 ⟨zpj, ⟨zzp, ⟨zxz, ⟨zsl, ⟨z2c, trivial⟩⟩⟩⟩⟩, fun _ => rfl⟩ zhe (fun a b => (a.1, a.2.1, a.2.2.1)) none (fun _ _ => rfl) rfl (fun _ _ h => nomatch h) 1000000 (fn := Tryz.f77) Tryz.func77 rfl (by kernel_rfl) (by kernel_rfl) rfl (by intro N a b; kernel_rfl)
def zpo (N : Nat) (b : List (Int)) : Option (z4) :=
 ((z26 N b).bind fun r1 =>
 (some (⟨true, r1⟩ : z4)))
def zdm : Con τ := { args := [.ty 37], L := [], ret := .ptr 0 [], L' := [.box (.ty 186)], R := z4, dflt := default, F := fun N a b => zpo N a.1, of := fun r => ((), (r, ())) }
noncomputable def zv3 : Dat τ := { D := D0, tbl := tblOf [(40, z1f)], lp := lpsOf [], k0 := 0, mu := [], un := [] }
theorem zwj : ConOk E C 78 zdm :=
  z9 (D := zv3) ⟨d0Ok, eGood, z7 ⟨z2c, trivial⟩, fun _ => rfl⟩ zdm (fun a b => b.1) none (fun _ _ => rfl) rfl (fun _ _ h => nomatch h) 1000000 (fn := Tryz.f78) Tryz.func78 rfl (by kernel_rfl) (by kernel_rfl) rfl (by intro N a b; kernel_rfl)
def z64 (N : Nat) (b0 : z4) : Option (Bool × z4) :=
 (some ((!b0.made), b0))
def z2x : Con τ := { args := [.ptr 0 []], L := [.box (.ty 186)], ret := .ty 4, L' := [.box (.ty 186)], R := Bool × z4, dflt := (default, default), F := fun N a b => z64 N b.1, of := fun r => (r.1, (r.2, ())) }
noncomputable def znf : Dat τ := { D := D0, tbl := tblOf [], lp := lpsOf [], k0 := 1, mu := [], un := [] }
theorem z82 : ConOk E C 123 z2x :=
  z9 (D := znf) ⟨d0Ok, eGood, z7 trivial, fun _ => rfl⟩ z2x (fun a b => (a, b.1)) none (fun _ _ => rfl) rfl (fun _ _ h => nomatch h) 1000000 (fn := Tryz.f123) Tryz.func123 rfl (by kernel_rfl) (by kernel_rfl) rfl (by intro N a b; kernel_rfl)
def zf1 (N : Nat) (b0 : z4) : Option (Int × Int × z4) :=
 ((z64 N b0).bind fun r1 =>
 (bif r1.1 then
 (some (0, 2, r1.2))
 else
 ((zne N r1.2.b).bind fun r2 =>
 (bif (cutB r2.2.1 ((r1.2.b).length : Int) ((r1.2.b).length : Int)) then
 (some (r2.1, r2.2.2, (⟨r1.2.made, (cut r1.2.b r2.2.1 ((r1.2.b).length : Int))⟩ : z4)))
 else none))))
def z83 : Con τ := { args := [.ptr 0 []], L := [.box (.ty 186)], ret := .tup [.ty 2, .ty 48], L' := [.box (.ty 186)], R := Int × Int × z4, dflt := (default, default, default), F := fun N a b => zf1 N b.1, of := fun r => ((r.1, r.2.1, ()), (r.2.2, ())) }
noncomputable def zoe : Dat τ := { D := D0, tbl := tblOf [(123, z2x), (119, zcm)], lp := lpsOf [], k0 := 1, mu := [], un := [] }
theorem zpp : ConOk E C 180 z83 :=
  z9 (D := zoe) ⟨d0Ok, eGood, z7 ⟨z82, ⟨zpj, trivial⟩⟩, fun _ => rfl⟩ z83 (fun a b => (a.1, a.2.1, b.1)) none (fun _ _ => rfl) rfl (fun _ _ h => nomatch h) 1000000 (fn := Tryz.f180) Tryz.func180 rfl (by kernel_rfl) (by kernel_rfl) rfl (by intro N a b; kernel_rfl)
def z2y (N : Nat) (e : Int) (b0 : Int) (b1 : z4) : Option (Int × z4) :=
 (bif (b0 == 0) then
 (some (e, b1))
 else
 (some (b0, b1)))
def z1q : Con τ := { args := [.ptr 0 [], .ty 48], L := [.box (.agg [.ptr 1 [], .ty 48]), .box (.ty 186)], ret := .tup [], L' := [.box (.agg [.ptr 1 [], .ty 48]), .box (.ty 186)], R := Int × z4, dflt := (default, default), F := fun N a b => z2y N a.2.1 b.1.2.1 b.2.1, of := fun r => ((), (((), r.1, ()), r.2, ())) }
noncomputable def zkn : Dat τ := { D := D0, tbl := tblOf [], lp := lpsOf [], k0 := 2, mu := [], un := [] }
theorem z3t : ConOk E C 80 z1q :=
  z9 (D := zkn) ⟨d0Ok, eGood, z7 trivial, fun _ => rfl⟩ z1q (fun a b => (b.1.2.1, b.2.1)) none (fun _ _ => rfl) rfl (fun _ _ h => nomatch h) 1000000 (fn := Tryz.f80) Tryz.func80 rfl (by kernel_rfl) (by kernel_rfl) rfl (by intro N a b; kernel_rfl)
def zf (N : Nat) (b0 : Int) (b1 : z4) : Option (Int × Int × z4) :=
 (bif (!(b0 == 0)) then
 (some (0, b0, b1))
 else
 ((zf1 N b1).bind fun r1 =>
 ((z2y N r1.2.1 b0 r1.2.2).bind fun r2 =>
 (some (r1.1, r2.1, r2.2)))))
def zb : Con τ := { args := [.ptr 0 []], L := [.box (.agg [.ptr 1 [], .ty 48]), .box (.ty 186)], ret := .ty 2, L' := [.box (.agg [.ptr 1 [], .ty 48]), .box (.ty 186)], R := Int × Int × z4, dflt := (default, default, default), F := fun N a b => zf N b.1.2.1 b.2.1, of := fun r => (r.1, (((), r.2.1, ()), r.2.2, ())) }
noncomputable def zm7 : Dat τ := { D := D0, tbl := tblOf [(180, z83), (80, z1q)], lp := lpsOf [], k0 := 2, mu := [], un := [] }
theorem zi : ConOk E C 172 zb :=
  z9 (D := zm7) ⟨d0Ok, eGood, z7 ⟨zpp, ⟨z3t, trivial⟩⟩, fun _ => rfl⟩ zb (fun a b => (a, b.1.2.1, b.2.1)) none (fun _ _ => rfl) rfl (fun _ _ h => nomatch h) 1000000 (fn := Tryz.f172) Tryz.func172 rfl (by kernel_rfl) (by kernel_rfl) rfl (by intro N a b; kernel_rfl)
def zc (N : Nat) (b0 : Int) (b1 : z4) : Option (Int × Int × z4) :=
 ((zf N b0 b1).bind fun r1 =>
 (bif (!(r1.1 == (IntKind.i64.wrap (IntKind.i32.wrap r1.1)))) then
 (some ((-2), r1.2.1, r1.2.2))
 else
 (some (r1.1, r1.2.1, r1.2.2))))
def zm : Con τ := { args := [.ptr 0 []], L := [.box (.agg [.ptr 1 [], .ty 48]), .box (.ty 186)], ret := .ty 3, L' := [.box (.agg [.ptr 1 [], .ty 48]), .box (.ty 186)], R := Int × Int × z4, dflt := (default, default, default), F := fun N a b => zc N b.1.2.1 b.2.1, of := fun r => (r.1, (((), r.2.1, ()), r.2.2, ())) }
noncomputable def zij : Dat τ := { D := D0, tbl := tblOf [(172, zb)], lp := lpsOf [], k0 := 2, mu := [], un := [] }
theorem zr : ConOk E C 146 zm :=
  z9 (D := zij) ⟨d0Ok, eGood, z7 ⟨zi, trivial⟩, fun _ => rfl⟩ zm (fun a b => (a, b.1.2.1, b.2.1)) none (fun _ _ => rfl) rfl (fun _ _ h => nomatch h) 1000000 (fn := Tryz.f146) Tryz.func146 rfl (by kernel_rfl) (by kernel_rfl) rfl (by intro N a b; kernel_rfl)
def zal (N : Nat) (b0 : Int) (b1 : GMsg) (b2 : z4) : Option (Int × GMsg × z4) :=
 ((zc N b0 b2).bind fun r1 =>
 (some (r1.2.1, (⟨r1.1, b1.From, b1.To, b1.Ballot, b1.Slot, b1.List_, b1.Entry, b1.Number, b1.Vector_, b1.Clock, b1.Origin, b1.Ops, b1.Epoch, b1.Part⟩ : GMsg), r1.2.2)))
def z5i : Con τ := { args := [.ptr 0 [], .ls 1 [.ptr 1 [.fld 0 0]]], L := [.box (.agg [.ptr 2 [], .ty 48]), .box (.ty 43), .box (.ty 186)], ret := .tup [], L' := [.box (.agg [.ptr 2 [], .ty 48]), .box (.ty 43), .box (.ty 186)], R := Int × GMsg × z4, dflt := (default, default, default), F := fun N a b => zal N b.1.2.1 b.2.1 b.2.2.1, of := fun r => ((), (((), r.1, ()), r.2.1, r.2.2, ())) }
noncomputable def zhf : Dat τ := { D := D0, tbl := tblOf [(146, zm)], lp := lpsOf [], k0 := 3, mu := [], un := [(1, 3)] }
theorem zik : ConOk E C 121 z5i :=
  z9 (D := zhf) ⟨d0Ok, eGood, z7 ⟨zr, trivial⟩, fun _ => rfl⟩ z5i (fun a b => (b.1.2.1, b.2.1, b.2.2.1)) none (fun _ _ => rfl) rfl (fun _ _ h => nomatch h) 1000000 (fn := Tryz.f121) Tryz.func121 rfl (by kernel_rfl) (by kernel_rfl) rfl (by intro N a b; kernel_rfl)
def z6s (N : Nat) (b0 : Int) (b1 : GMsg) (b2 : z4) : Option (Int × GMsg × z4) :=
 ((zc N b0 b2).bind fun r1 =>
 ((zc N r1.2.1 r1.2.2).bind fun r2 =>
 ((zc N r2.2.1 r2.2.2).bind fun r3 =>
 ((zc N r3.2.1 r3.2.2).bind fun r4 =>
 (some (r4.2.1, (⟨b1.Kind, (⟨r1.1, r2.1⟩ : GAddr), (⟨r3.1, r4.1⟩ : GAddr), b1.Ballot, b1.Slot, b1.List_, b1.Entry, b1.Number, b1.Vector_, b1.Clock, b1.Origin, b1.Ops, b1.Epoch, b1.Part⟩ : GMsg), r4.2.2))))))
def z5j : Con τ := { args := [.ptr 0 [], .ls 1 [.ptr 1 [.fld 1 1, .fld 0 0], .ptr 1 [.fld 1 1, .fld 1 1], .ptr 1 [.fld 2 3, .fld 0 0], .ptr 1 [.fld 2 3, .fld 1 1]]], L := [.box (.agg [.ptr 2 [], .ty 48]), .box (.ty 43), .box (.ty 186)], ret := .tup [], L' := [.box (.agg [.ptr 2 [], .ty 48]), .box (.ty 43), .box (.ty 186)], R := Int × GMsg × z4, dflt := (default, default, default), F := fun N a b => z6s N b.1.2.1 b.2.1 b.2.2.1, of := fun r => ((), (((), r.1, ()), r.2.1, r.2.2, ())) }
noncomputable def zhg : Dat τ := { D := D0, tbl := tblOf [(146, zm)], lp := lpsOf [], k0 := 3, mu := [], un := [(1, 6)] }
theorem zil : ConOk E C 121 z5j :=
  z9 (D := zhg) ⟨d0Ok, eGood, z7 ⟨zr, trivial⟩, fun _ => rfl⟩ z5j (fun a b => (b.1.2.1, b.2.1, b.2.2.1)) none (fun _ _ => rfl) rfl (fun _ _ h => nomatch h) 1000000 (fn := Tryz.f121) Tryz.func121 rfl (by kernel_rfl) (by kernel_rfl) rfl (by intro N a b; kernel_rfl)
def zcn (N : Nat) (b0 : Int) (b1 : zq) (b2 : z4) : Option (Int × zq × z4) :=
 ((zf N b0 b2).bind fun r1 =>
 (some (r1.2.1, (⟨r1.1, b1.Replica⟩ : zq), r1.2.2)))
def z6t : Con τ := { args := [.ptr 0 [], .ls 1 [.ptr 1 [.fld 0 0]]], L := [.box (.agg [.ptr 2 [], .ty 48]), .box (.ty 25), .box (.ty 186)], ret := .tup [], L' := [.box (.agg [.ptr 2 [], .ty 48]), .box (.ty 25), .box (.ty 186)], R := Int × zq × z4, dflt := (default, default, default), F := fun N a b => zcn N b.1.2.1 b.2.1 b.2.2.1, of := fun r => ((), (((), r.1, ()), r.2.1, r.2.2, ())) }
noncomputable def zko : Dat τ := { D := D0, tbl := tblOf [(172, zb)], lp := lpsOf [], k0 := 3, mu := [], un := [(1, 3)] }
theorem zm8 : ConOk E C 148 z6t :=
  z9 (D := zko) ⟨d0Ok, eGood, z7 ⟨zi, trivial⟩, fun _ => rfl⟩ z6t (fun a b => (b.1.2.1, b.2.1, b.2.2.1)) none (fun _ _ => rfl) rfl (fun _ _ h => nomatch h) 1000000 (fn := Tryz.f148) Tryz.func148 rfl (by kernel_rfl) (by kernel_rfl) rfl (by intro N a b; kernel_rfl)
def zam (N : Nat) (b0 : Int) (b1 : zq) (b2 : z4) : Option (Int × zq × z4) :=
 ((zc N b0 b2).bind fun r1 =>
 (some (r1.2.1, (⟨b1.Round, r1.1⟩ : zq), r1.2.2)))
def z5k : Con τ := { args := [.ptr 0 [], .ls 1 [.ptr 1 [.fld 1 1]]], L := [.box (.agg [.ptr 2 [], .ty 48]), .box (.ty 25), .box (.ty 186)], ret := .tup [], L' := [.box (.agg [.ptr 2 [], .ty 48]), .box (.ty 25), .box (.ty 186)], R := Int × zq × z4, dflt := (default, default, default), F := fun N a b => zam N b.1.2.1 b.2.1 b.2.2.1, of := fun r => ((), (((), r.1, ()), r.2.1, r.2.2, ())) }
noncomputable def zhh : Dat τ := { D := D0, tbl := tblOf [(146, zm)], lp := lpsOf [], k0 := 3, mu := [], un := [(1, 3)] }
theorem zim : ConOk E C 121 z5k :=
  z9 (D := zhh) ⟨d0Ok, eGood, z7 ⟨zr, trivial⟩, fun _ => rfl⟩ z5k (fun a b => (b.1.2.1, b.2.1, b.2.2.1)) none (fun _ _ => rfl) rfl (fun _ _ h => nomatch h) 1000000 (fn := Tryz.f121) Tryz.func121 rfl (by kernel_rfl) (by kernel_rfl) rfl (by intro N a b; kernel_rfl)
def zp (N : Nat) (b0 : Int) (b1 : z4) : Option (zq × Int × z4) :=
 ((zcn N b0 (⟨0, 0⟩ : zq) b1).bind fun r1 =>
 ((zam N r1.1 r1.2.1 r1.2.2).bind fun r2 =>
 (some (r2.2.1, r2.1, r2.2.2))))
def z2z : Con τ := { args := [.ptr 0 []], L := [.box (.agg [.ptr 1 [], .ty 48]), .box (.ty 186)], ret := .ty 25, L' := [.box (.agg [.ptr 1 [], .ty 48]), .box (.ty 186)], R := zq × Int × z4, dflt := (default, default, default), F := fun N a b => zp N b.1.2.1 b.2.1, of := fun r => (r.1, (((), r.2.1, ()), r.2.2, ())) }
noncomputable def zhi : Dat τ := { D := D0, tbl := tblOf [(148, z6t), (121, z5k)], lp := lpsOf [], k0 := 2, mu := [], un := [] }
theorem z9e : ConOk E C 147 z2z :=
  z9 (D := zhi) ⟨d0Ok, eGood, z7 ⟨zm8, ⟨zim, trivial⟩⟩, fun _ => rfl⟩ z2z (fun a b => (a, b.1.2.1, b.2.1)) none (fun _ _ => rfl) rfl (fun _ _ h => nomatch h) 1000000 (fn := Tryz.f147) Tryz.func147 rfl (by kernel_rfl) (by kernel_rfl) rfl (by intro N a b; kernel_rfl)
def zn (N : Nat) (b0 : Int) (b1 : GMsg) (b2 : z4) : Option (Int × GMsg × z4) :=
 ((zf N b0 b2).bind fun r1 =>
 (some (r1.2.1, (⟨b1.Kind, b1.From, b1.To, b1.Ballot, r1.1, b1.List_, b1.Entry, b1.Number, b1.Vector_, b1.Clock, b1.Origin, b1.Ops, b1.Epoch, b1.Part⟩ : GMsg), r1.2.2)))
def z6u : Con τ := { args := [.ptr 0 [], .ls 1 [.ptr 1 [.fld 4 7]]], L := [.box (.agg [.ptr 2 [], .ty 48]), .box (.ty 43), .box (.ty 186)], ret := .tup [], L' := [.box (.agg [.ptr 2 [], .ty 48]), .box (.ty 43), .box (.ty 186)], R := Int × GMsg × z4, dflt := (default, default, default), F := fun N a b => zn N b.1.2.1 b.2.1 b.2.2.1, of := fun r => ((), (((), r.1, ()), r.2.1, r.2.2, ())) }
noncomputable def zkp : Dat τ := { D := D0, tbl := tblOf [(172, zb)], lp := lpsOf [], k0 := 3, mu := [], un := [(1, 3)] }
theorem zm9 : ConOk E C 148 z6u :=
  z9 (D := zkp) ⟨d0Ok, eGood, z7 ⟨zi, trivial⟩, fun _ => rfl⟩ z6u (fun a b => (b.1.2.1, b.2.1, b.2.2.1)) none (fun _ _ => rfl) rfl (fun _ _ h => nomatch h) 1000000 (fn := Tryz.f148) Tryz.func148 rfl (by kernel_rfl) (by kernel_rfl) rfl (by intro N a b; kernel_rfl)
def z7p (N : Nat) (b0 : Int) (b1 : z4) : Option (Int × Int × z4) :=
 ((zf N b0 b1).bind fun r1 =>
 (bif ((r1.2.1 == 0) && ((decide (r1.1 < 0)) || (decide (4096 < r1.1)))) then
 (some (0, 40, r1.2.2))
 else
 (bif (!(r1.2.1 == 0)) then
 (some (0, r1.2.1, r1.2.2))
 else
 (some (r1.1, r1.2.1, r1.2.2)))))
def z3i : Con τ := { args := [.ptr 0 []], L := [.box (.agg [.ptr 1 [], .ty 48]), .box (.ty 186)], ret := .ty 3, L' := [.box (.agg [.ptr 1 [], .ty 48]), .box (.ty 186)], R := Int × Int × z4, dflt := (default, default, default), F := fun N a b => z7p N b.1.2.1 b.2.1, of := fun r => (r.1, (((), r.2.1, ()), r.2.2, ())) }
noncomputable def zkq : Dat τ := { D := D0, tbl := tblOf [(172, zb)], lp := lpsOf [], k0 := 2, mu := [], un := [] }
theorem zbn : ConOk E C 173 z3i :=
  z9 (D := zkq) ⟨d0Ok, eGood, z7 ⟨zi, trivial⟩, fun _ => rfl⟩ z3i (fun a b => (a, b.1.2.1, b.2.1)) none (fun _ _ => rfl) rfl (fun _ _ h => nomatch h) 1000000 (fn := Tryz.f173) Tryz.func173 rfl (by kernel_rfl) (by kernel_rfl) rfl (by intro N a b; kernel_rfl)
end Go.Proofs.YtddpmkmgbdedlaaGreat
