/-
The functions of this seat, as plain functions over typed data, each with its contract. Printed by wip/tools/fngen.py.
-/
import Derived.Test.YteinehkdjkobnaaGreatqCod
import Derived.Test.YteinehkdjkobnaaGreatqTvX
import Derived.KernelRfl
set_option linter.unusedVariables false
set_option maxRecDepth 100000
namespace Go.Proofs.YteinehkdjkobnaaGreat
open Go Go.Ev
structure z3u where
  t13 : Int
def z9z : List Sl := [.k, .k, .k, .k, .j, .j, .k, .k, .k, .k, .k, .k, .k, .sh (.ty 2), .j, .j, .j, .j, .j, .j, .j, .j, .j, .j, .j, .j]
def za0 : List ESh := []
def zny (a : Sl.Ts τ z9z) (b : ESh.Ts τ za0) : z3u := ⟨a.2.2.2.2.2.2.2.2.2.2.2.2.2.1⟩
def znz (s : z3u) : Sl.Ts τ z9z := ((), (), (), (), (), (), (), (), (), (), (), (), (), s.t13, (), (), (), (), (), (), (), (), (), (), (), (), ())
def zo0 (s : z3u) : ESh.Ts τ za0 := ()
def zo1 : Lp τ := { ts := z9z, hs := za0, S := z3u, to := zny, ot := znz, oh := zo0, hk := [], tk := [], ot_to := fun _ _ => rfl, oh_to := fun _ _ => rfl }
def z7s (N : Nat) (s1_ : List (GOp)) (s2_ : List (GOp)) : Option (Bool) :=
 (bif (!(((s1_).length : Int) == ((s2_).length : Int))) then
 (some false)
 else
 (iter N (fun (s1 : z3u) next2 =>
 (bif (decide (s1.t13 < ((s1_).length : Int))) then
 (bif (ibB s1.t13 ((s1_).length : Int)) then
 (bif (ibB s1.t13 ((s2_).length : Int)) then
 (bif (!((((((lget s1_ s1.t13 default).Stamp).Time) == (((lget s2_ s1.t13 default).Stamp).Time)) && ((((lget s1_ s1.t13 default).Stamp).Site) == (((lget s2_ s1.t13 default).Stamp).Site))) && ((((lget s1_ s1.t13 default).Kind) == ((lget s2_ s1.t13 default).Kind)) && ((((lget s1_ s1.t13 default).Node) == ((lget s2_ s1.t13 default).Node)) && ((((lget s1_ s1.t13 default).Parent) == ((lget s2_ s1.t13 default).Parent)) && ((((lget s1_ s1.t13 default).Name) == ((lget s2_ s1.t13 default).Name)) && ((((lget s1_ s1.t13 default).Key) == ((lget s2_ s1.t13 default).Key)) && (((lget s1_ s1.t13 default).Value) == ((lget s2_ s1.t13 default).Value))))))))) then
 (some false)
 else
 (next2 ⟨(IntKind.i64.wrap (s1.t13 + 1))⟩))
 else none)
 else none)
 else
 (some true))) ⟨0⟩))
def z86 : Con τ := { args := [.ty 60, .ty 60], L := [], ret := .ty 4, L' := [], R := Bool, dflt := default, F := fun N a b => z7s N a.1 a.2.1, of := fun r => (r, ()) }
noncomputable def zpr : Dat τ := { D := D0, tbl := tblOf [], lp := lpsOf [(4, zo1)], k0 := 0, mu := [], un := [] }
theorem ziy : ConOk E C 144 z86 :=
  zf (D := zpr) ⟨d0Ok, eGood, za trivial, fun _ => rfl⟩ z86 (fun a b => a) none (fun _ _ => rfl) rfl (fun _ _ h => nomatch h) 1000000 (fn := Tryz.f144) Tryz.func144 rfl (by kernel_rfl) (by kernel_rfl) rfl (by intro N a b; kernel_rfl)
def z7t (N : Nat) (a : GPart) (b : GPart) : Option (Bool) :=
 (some ((((a.Snap == b.Snap) && (a.Index == b.Index)) && (a.Many == b.Many)) && ((strI a.Data) == (strI b.Data))))
def z87 : Con τ := { args := [.ty 62, .ty 62], L := [], ret := .ty 4, L' := [], R := Bool, dflt := default, F := fun N a b => z7t N a.1 a.2.1, of := fun r => (r, ()) }
noncomputable def zps : Dat τ := { D := D0, tbl := tblOf [], lp := lpsOf [], k0 := 0, mu := [], un := [] }
theorem ziz : ConOk E C 145 z87 :=
  zf (D := zps) ⟨d0Ok, eGood, za trivial, fun _ => rfl⟩ z87 (fun a b => a) none (fun _ _ => rfl) rfl (fun _ _ h => nomatch h) 1000000 (fn := Tryz.f145) Tryz.func145 rfl (by kernel_rfl) (by kernel_rfl) rfl (by intro N a b; kernel_rfl)
def zg (N : Nat) (a : z6) (b : z6) : Option (Bool) :=
 ((bif ((((((a.Kind == b.Kind) && (a.Session == b.Session)) && (a.Request == b.Request)) && (((a.Op.Stamp.Time == b.Op.Stamp.Time) && (a.Op.Stamp.Site == b.Op.Stamp.Site)) && ((a.Op.Kind == b.Op.Kind) && ((a.Op.Node == b.Op.Node) && ((a.Op.Parent == b.Op.Parent) && ((a.Op.Name == b.Op.Name) && ((a.Op.Key == b.Op.Key) && (a.Op.Value == b.Op.Value)))))))) && (a.Origin == b.Origin)) && (a.Seq == b.Seq)) then z7s N a.Ops b.Ops else some default).bind fun r1 =>
 ((bif (((((((((((a.Kind == b.Kind) && (a.Session == b.Session)) && (a.Request == b.Request)) && (((a.Op.Stamp.Time == b.Op.Stamp.Time) && (a.Op.Stamp.Site == b.Op.Stamp.Site)) && ((a.Op.Kind == b.Op.Kind) && ((a.Op.Node == b.Op.Node) && ((a.Op.Parent == b.Op.Parent) && ((a.Op.Name == b.Op.Name) && ((a.Op.Key == b.Op.Key) && (a.Op.Value == b.Op.Value)))))))) && (a.Origin == b.Origin)) && (a.Seq == b.Seq)) && r1) && ((a.Epoch.Number == b.Epoch.Number) && ((vbeq beq3 a.Epoch.States b.Epoch.States) && ((vbeq beq2 a.Epoch.Seals b.Epoch.Seals) && (vbeq beq3 a.Epoch.Sponsor b.Epoch.Sponsor))))) && (a.From == b.From)) && (vbeq beq2 a.Vector_ b.Vector_)) && (a.Clock == b.Clock)) then z7t N a.Part b.Part else some default).bind fun r2 =>
 (some (((((((((((((((a.Kind == b.Kind) && (a.Session == b.Session)) && (a.Request == b.Request)) && (((a.Op.Stamp.Time == b.Op.Stamp.Time) && (a.Op.Stamp.Site == b.Op.Stamp.Site)) && ((a.Op.Kind == b.Op.Kind) && ((a.Op.Node == b.Op.Node) && ((a.Op.Parent == b.Op.Parent) && ((a.Op.Name == b.Op.Name) && ((a.Op.Key == b.Op.Key) && (a.Op.Value == b.Op.Value)))))))) && (a.Origin == b.Origin)) && (a.Seq == b.Seq)) && r1) && ((a.Epoch.Number == b.Epoch.Number) && ((vbeq beq3 a.Epoch.States b.Epoch.States) && ((vbeq beq2 a.Epoch.Seals b.Epoch.Seals) && (vbeq beq3 a.Epoch.Sponsor b.Epoch.Sponsor))))) && (a.From == b.From)) && (vbeq beq2 a.Vector_ b.Vector_)) && (a.Clock == b.Clock)) && r2) && (a.Site == b.Site)) && (a.Sponsor == b.Sponsor)) && (a.Length == b.Length)))))
def z5b : Con τ := { args := [.ty 64, .ty 64], L := [], ret := .ty 4, L' := [], R := Bool, dflt := default, F := fun N a b => zg N a.1 a.2.1, of := fun r => (r, ()) }
noncomputable def zo2 : Dat τ := { D := D0, tbl := tblOf [(144, z86), (145, z87)], lp := lpsOf [], k0 := 0, mu := [], un := [] }
theorem zbe : ConOk E C 110 z5b :=
  zf (D := zo2) ⟨d0Ok, eGood, za ⟨ziy, ⟨ziz, trivial⟩⟩, fun _ => rfl⟩ z5b (fun a b => a) none (fun _ _ => rfl) rfl (fun _ _ h => nomatch h) 1000000 (fn := Tryz.f110) Tryz.func110 rfl (by kernel_rfl) (by kernel_rfl) rfl (by intro N a b; kernel_rfl)
def zn (N : Nat) (ok : Bool) : Option (Int) :=
 (bif ok then
 (some 0)
 else
 (some 40))
def z8q : Con τ := { args := [.ty 4], L := [], ret := .ty 35, L' := [], R := Int, dflt := default, F := fun N a b => zn N a.1, of := fun r => (r, ()) }
noncomputable def zr1 : Dat τ := { D := D0, tbl := tblOf [], lp := lpsOf [], k0 := 0, mu := [], un := [] }
theorem zkz : ConOk E C 89 z8q :=
  zf (D := zr1) ⟨d0Ok, eGood, za trivial, fun _ => rfl⟩ z8q (fun a b => a) none (fun _ _ => rfl) rfl (fun _ _ h => nomatch h) 1000000 (fn := Tryz.f89) Tryz.func89 rfl (by kernel_rfl) (by kernel_rfl) rfl (by intro N a b; kernel_rfl)
structure z73 where
  t7 : Int
def zdq : List Sl := [.k, .k, .j, .k, .j, .k, .k, .sh (.ty 2), .j, .j, .j, .j, .j, .j, .j, .j, .j, .j]
def zdr : List ESh := []
def zt2 (a : Sl.Ts τ zdq) (b : ESh.Ts τ zdr) : z73 := ⟨a.2.2.2.2.2.2.2.1⟩
def zt3 (s : z73) : Sl.Ts τ zdq := ((), (), (), (), (), (), (), s.t7, (), (), (), (), (), (), (), (), (), (), ())
def zt4 (s : z73) : ESh.Ts τ zdr := ()
def zt5 : Lp τ := { ts := zdq, hs := zdr, S := z73, to := zt2, ot := zt3, oh := zt4, hk := [], tk := [], ot_to := fun _ _ => rfl, oh_to := fun _ _ => rfl }
def zy (N : Nat) (l : List (Int)) : Option (Bool) :=
 (iter N (fun (s1 : z73) next2 =>
 (bif (decide (s1.t7 < ((l).length : Int))) then
 (bif (ibB s1.t7 ((l).length : Int)) then
 (bif ((decide ((lget l s1.t7 default) < 0)) || (decide (1099511627776 < (lget l s1.t7 default)))) then
 (some false)
 else
 (next2 ⟨(IntKind.i64.wrap (s1.t7 + 1))⟩))
 else none)
 else
 (some true))) ⟨0⟩)
def z33 : Con τ := { args := [.ty 143], L := [], ret := .ty 4, L' := [], R := Bool, dflt := default, F := fun N a b => zy N a.1, of := fun r => (r, ()) }
noncomputable def zue : Dat τ := { D := D0, tbl := tblOf [], lp := lpsOf [(2, zt5)], k0 := 0, mu := [], un := [] }
theorem z6t : ConOk E C 106 z33 :=
  zf (D := zue) ⟨d0Ok, eGood, za trivial, fun _ => rfl⟩ z33 (fun a b => a) none (fun _ _ => rfl) rfl (fun _ _ h => nomatch h) 1000000 (fn := Tryz.f106) Tryz.func106 rfl (by kernel_rfl) (by kernel_rfl) rfl (by intro N a b; kernel_rfl)
structure z7x where
  t7 : Int
def zf0 : List Sl := [.k, .k, .j, .k, .j, .k, .k, .sh (.ty 2), .j, .j, .j, .j, .j, .j, .j, .j, .j, .j]
def zf1 : List ESh := []
def zuf (a : Sl.Ts τ zf0) (b : ESh.Ts τ zf1) : z7x := ⟨a.2.2.2.2.2.2.2.1⟩
def zug (s : z7x) : Sl.Ts τ zf0 := ((), (), (), (), (), (), (), s.t7, (), (), (), (), (), (), (), (), (), (), ())
def zuh (s : z7x) : ESh.Ts τ zf1 := ()
def zui : Lp τ := { ts := zf0, hs := zf1, S := z7x, to := zuf, ot := zug, oh := zuh, hk := [], tk := [], ot_to := fun _ _ => rfl, oh_to := fun _ _ => rfl }
def z1h (N : Nat) (l : List (Int)) : Option (Bool) :=
 (iter N (fun (s1 : z7x) next2 =>
 (bif (decide (s1.t7 < ((l).length : Int))) then
 (bif (ibB s1.t7 ((l).length : Int)) then
 (bif ((decide ((lget l s1.t7 default) < 0)) || (decide (8 ≤ (lget l s1.t7 default)))) then
 (some false)
 else
 (next2 ⟨(IntKind.i64.wrap (s1.t7 + 1))⟩))
 else none)
 else
 (some true))) ⟨0⟩)
def z9h : Con τ := { args := [.ty 145], L := [], ret := .ty 4, L' := [], R := Bool, dflt := default, F := fun N a b => z1h N a.1, of := fun r => (r, ()) }
noncomputable def zwh : Dat τ := { D := D0, tbl := tblOf [], lp := lpsOf [(2, zui)], k0 := 0, mu := [], un := [] }
theorem zk5 : ConOk E C 107 z9h :=
  zf (D := zwh) ⟨d0Ok, eGood, za trivial, fun _ => rfl⟩ z9h (fun a b => a) none (fun _ _ => rfl) rfl (fun _ _ h => nomatch h) 1000000 (fn := Tryz.f107) Tryz.func107 rfl (by kernel_rfl) (by kernel_rfl) rfl (by intro N a b; kernel_rfl)
structure z9i where
  t7 : Int
def zf2 : List Sl := [.k, .k, .j, .k, .j, .k, .k, .sh (.ty 2), .j, .j, .j, .j, .j, .j, .j, .j, .j, .j]
def zf3 : List ESh := []
def zuj (a : Sl.Ts τ zf2) (b : ESh.Ts τ zf3) : z9i := ⟨a.2.2.2.2.2.2.2.1⟩
def zuk (s : z9i) : Sl.Ts τ zf2 := ((), (), (), (), (), (), (), s.t7, (), (), (), (), (), (), (), (), (), (), ())
def zul (s : z9i) : ESh.Ts τ zf3 := ()
def zum : Lp τ := { ts := zf2, hs := zf3, S := z9i, to := zuj, ot := zuk, oh := zul, hk := [], tk := [], ot_to := fun _ _ => rfl, oh_to := fun _ _ => rfl }
def zgp (N : Nat) (l : List (Int)) : Option (Bool) :=
 (iter N (fun (s1 : z9i) next2 =>
 (bif (decide (s1.t7 < ((l).length : Int))) then
 (bif (ibB s1.t7 ((l).length : Int)) then
 (bif ((decide ((lget l s1.t7 default) < 0)) || (decide (1125899906842624 < (lget l s1.t7 default)))) then
 (some false)
 else
 (next2 ⟨(IntKind.i64.wrap (s1.t7 + 1))⟩))
 else none)
 else
 (some true))) ⟨0⟩)
def zhx : Con τ := { args := [.ty 143], L := [], ret := .ty 4, L' := [], R := Bool, dflt := default, F := fun N a b => zgp N a.1, of := fun r => (r, ()) }
noncomputable def zwi : Dat τ := { D := D0, tbl := tblOf [], lp := lpsOf [(2, zum)], k0 := 0, mu := [], un := [] }
theorem zyj : ConOk E C 135 zhx :=
  zf (D := zwi) ⟨d0Ok, eGood, za trivial, fun _ => rfl⟩ zhx (fun a b => a) none (fun _ _ => rfl) rfl (fun _ _ h => nomatch h) 1000000 (fn := Tryz.f135) Tryz.func135 rfl (by kernel_rfl) (by kernel_rfl) rfl (by intro N a b; kernel_rfl)
structure z9j where
  t7 : Int
def zf4 : List Sl := [.k, .k, .j, .k, .j, .k, .k, .sh (.ty 2), .j, .j, .j, .j, .j, .j, .j]
def zf5 : List ESh := []
def zun (a : Sl.Ts τ zf4) (b : ESh.Ts τ zf5) : z9j := ⟨a.2.2.2.2.2.2.2.1⟩
def zuo (s : z9j) : Sl.Ts τ zf4 := ((), (), (), (), (), (), (), s.t7, (), (), (), (), (), (), (), ())
def zup (s : z9j) : ESh.Ts τ zf5 := ()
def zuq : Lp τ := { ts := zf4, hs := zf5, S := z9j, to := zun, ot := zuo, oh := zup, hk := [], tk := [], ot_to := fun _ _ => rfl, oh_to := fun _ _ => rfl }
def zgq (N : Nat) (l : List (List UInt8)) : Option (Bool) :=
 (iter N (fun (s1 : z9j) next2 =>
 (bif (decide (s1.t7 < ((l).length : Int))) then
 (bif (ibB s1.t7 ((l).length : Int)) then
 (bif (decide (255 < (((lget l s1.t7 default)).length : Int))) then
 (some false)
 else
 (next2 ⟨(IntKind.i64.wrap (s1.t7 + 1))⟩))
 else none)
 else
 (some true))) ⟨0⟩)
def zhy : Con τ := { args := [.ty 181], L := [], ret := .ty 4, L' := [], R := Bool, dflt := default, F := fun N a b => zgq N a.1, of := fun r => (r, ()) }
noncomputable def zwj : Dat τ := { D := D0, tbl := tblOf [], lp := lpsOf [(2, zuq)], k0 := 0, mu := [], un := [] }
theorem zyk : ConOk E C 136 zhy :=
  zf (D := zwj) ⟨d0Ok, eGood, za trivial, fun _ => rfl⟩ zhy (fun a b => a) none (fun _ _ => rfl) rfl (fun _ _ h => nomatch h) 1000000 (fn := Tryz.f136) Tryz.func136 rfl (by kernel_rfl) (by kernel_rfl) rfl (by intro N a b; kernel_rfl)
def z8r (N : Nat) (op : GOp) : Option (Bool) :=
 ((zy N [op.Stamp.Time]).bind fun r1 =>
 ((bif r1 then z1h N [op.Stamp.Site] else some default).bind fun r2 =>
 ((bif (((r1 && r2) && (decide (1 ≤ op.Kind))) && (decide (op.Kind ≤ 3))) then zgp N [op.Node, op.Parent] else some default).bind fun r3 =>
 ((bif ((((r1 && r2) && (decide (1 ≤ op.Kind))) && (decide (op.Kind ≤ 3))) && r3) then zgq N [op.Name, op.Key, op.Value] else some default).bind fun r4 =>
 (some (((((r1 && r2) && (decide (1 ≤ op.Kind))) && (decide (op.Kind ≤ 3))) && r3) && r4))))))
def zbf : Con τ := { args := [.ty 25], L := [], ret := .ty 4, L' := [], R := Bool, dflt := default, F := fun N a b => z8r N a.1, of := fun r => (r, ()) }
noncomputable def zur : Dat τ := { D := D0, tbl := tblOf [(106, z33), (107, z9h), (135, zhx), (136, zhy)], lp := lpsOf [], k0 := 0, mu := [], un := [] }
theorem znb : ConOk E C 90 zbf :=
  zf (D := zur) ⟨d0Ok, eGood, za ⟨z6t, ⟨zk5, ⟨zyj, ⟨zyk, trivial⟩⟩⟩⟩, fun _ => rfl⟩ zbf (fun a b => a) none (fun _ _ => rfl) rfl (fun _ _ h => nomatch h) 1000000 (fn := Tryz.f90) Tryz.func90 rfl (by kernel_rfl) (by kernel_rfl) rfl (by intro N a b; kernel_rfl)
def z9p (N : Nat) (op : GOp) : Option (Bool) :=
 ((z8r N op).bind fun r1 =>
 (some (!r1)))
def zbg : Con τ := { args := [.ty 25], L := [], ret := .ty 4, L' := [], R := Bool, dflt := default, F := fun N a b => z9p N a.1, of := fun r => (r, ()) }
noncomputable def zpt : Dat τ := { D := D0, tbl := tblOf [(90, zbf)], lp := lpsOf [], k0 := 0, mu := [], un := [] }
theorem zr2 : ConOk E C 143 zbg :=
  zf (D := zpt) ⟨d0Ok, eGood, za ⟨znb, trivial⟩, fun _ => rfl⟩ zbg (fun a b => a) none (fun _ _ => rfl) rfl (fun _ _ h => nomatch h) 1000000 (fn := Tryz.f143) Tryz.func143 rfl (by kernel_rfl) (by kernel_rfl) rfl (by intro N a b; kernel_rfl)
structure z1u where
  t8 : Int
def z5c : List Sl := [.k, .k, .k, .k, .j, .j, .k, .k, .sh (.ty 2), .j, .j, .j, .j, .j, .j, .j, .j, .j, .j]
def z5d : List ESh := []
def zf6 (a : Sl.Ts τ z5c) (b : ESh.Ts τ z5d) : z1u := ⟨a.2.2.2.2.2.2.2.2.1⟩
def zf7 (s : z1u) : Sl.Ts τ z5c := ((), (), (), (), (), (), (), (), s.t8, (), (), (), (), (), (), (), (), (), (), ())
def zf8 (s : z1u) : ESh.Ts τ z5d := ()
def zf9 : Lp τ := { ts := z5c, hs := z5d, S := z1u, to := zf6, ot := zf7, oh := zf8, hk := [], tk := [], ot_to := fun _ _ => rfl, oh_to := fun _ _ => rfl }
def z3v (N : Nat) (s : List (GOp)) : Option (Int) :=
 (iter N (fun (s1 : z1u) next2 =>
 (bif (decide (s1.t8 < ((s).length : Int))) then
 (bif (ibB s1.t8 ((s).length : Int)) then
 ((z9p N (⟨((lget s s1.t8 default).Stamp), (lget s s1.t8 default).Kind, (lget s s1.t8 default).Node, (lget s s1.t8 default).Parent, (lget s s1.t8 default).Name, (lget s s1.t8 default).Key, (lget s s1.t8 default).Value⟩ : GOp)).bind fun r3 =>
 (bif r3 then
 (some s1.t8)
 else
 (next2 ⟨(IntKind.i64.wrap (s1.t8 + 1))⟩)))
 else none)
 else
 (some (-1)))) ⟨0⟩)
def z5v : Con τ := { args := [.ty 60, .fn 143 []], L := [], ret := .ty 3, L' := [], R := Int, dflt := default, F := fun N a b => z3v N a.1, of := fun r => (r, ()) }
noncomputable def zg7 : Dat τ := { D := D0, tbl := tblOf [(143, zbg)], lp := lpsOf [(2, zf9)], k0 := 0, mu := [], un := [] }
theorem zhz : ConOk E C 158 z5v :=
  zf (D := zg7) ⟨d0Ok, eGood, za ⟨zr2, trivial⟩, fun _ => rfl⟩ z5v (fun a b => a) none (fun _ _ => rfl) rfl (fun _ _ h => nomatch h) 1000000 (fn := Tryz.f158) Tryz.func158 rfl (by kernel_rfl) (by kernel_rfl) rfl (by intro N a b; kernel_rfl)
def z34 (N : Nat) (s : List (GOp)) : Option (Bool) :=
 ((z3v N s).bind fun r1 =>
 (some (decide (0 ≤ r1))))
def z44 : Con τ := { args := [.ty 60, .fn 143 []], L := [], ret := .ty 4, L' := [], R := Bool, dflt := default, F := fun N a b => z34 N a.1, of := fun r => (r, ()) }
noncomputable def zds : Dat τ := { D := D0, tbl := tblOf [(158, z5v)], lp := lpsOf [], k0 := 0, mu := [], un := [] }
theorem zec : ConOk E C 142 z44 :=
  zf (D := zds) ⟨d0Ok, eGood, za ⟨zhz, trivial⟩, fun _ => rfl⟩ z44 (fun a b => a) none (fun _ _ => rfl) rfl (fun _ _ h => nomatch h) 1000000 (fn := Tryz.f142) Tryz.func142 rfl (by kernel_rfl) (by kernel_rfl) rfl (by intro N a b; kernel_rfl)
def z3m (N : Nat) (l : List (GOp)) (least : Int) : Option (Bool) :=
 ((bif ((decide (least ≤ ((l).length : Int))) && (decide (((l).length : Int) ≤ 4096))) then z34 N l else some default).bind fun r1 =>
 (some (((decide (least ≤ ((l).length : Int))) && (decide (((l).length : Int) ≤ 4096))) && (!r1))))
def z9q : Con τ := { args := [.ty 60, .ty 3], L := [], ret := .ty 4, L' := [], R := Bool, dflt := default, F := fun N a b => z3m N a.1 a.2.1, of := fun r => (r, ()) }
noncomputable def zt6 : Dat τ := { D := D0, tbl := tblOf [(142, z44)], lp := lpsOf [], k0 := 0, mu := [], un := [] }
theorem zm2 : ConOk E C 108 z9q :=
  zf (D := zt6) ⟨d0Ok, eGood, za ⟨zec, trivial⟩, fun _ => rfl⟩ z9q (fun a b => a) none (fun _ _ => rfl) rfl (fun _ _ h => nomatch h) 1000000 (fn := Tryz.f108) Tryz.func108 rfl (by kernel_rfl) (by kernel_rfl) rfl (by intro N a b; kernel_rfl)
structure z3w where
  ok : Bool
  t14 : Int
def za1 : List Sl := [.k, .k, .k, .sh (.ty 4), .j, .k, .k, .k, .k, .k, .j, .k, .j, .k, .sh (.ty 2), .j, .j, .j, .j, .j, .j, .j, .j, .j, .j, .j, .j, .j, .j, .j, .j, .j, .j, .j, .j, .j, .j, .j, .j, .j, .j, .j, .j, .j, .j, .j, .j, .k]
def za2 : List ESh := [.keep]
def zo3 (a : Sl.Ts τ za1) (b : ESh.Ts τ za2) : z3w := ⟨a.2.2.2.1, a.2.2.2.2.2.2.2.2.2.2.2.2.2.2.1⟩
def zo4 (s : z3w) : Sl.Ts τ za1 := ((), (), (), s.ok, (), (), (), (), (), (), (), (), (), (), s.t14, (), (), (), (), (), (), (), (), (), (), (), (), (), (), (), (), (), (), (), (), (), (), (), (), (), (), (), (), (), (), (), (), (), ())
def zo5 (s : z3w) : ESh.Ts τ za2 := ((), ())
def zo6 : Lp τ := { ts := za1, hs := za2, S := z3w, to := zo3, ot := zo4, oh := zo5, hk := [3], tk := [0, 2, 0, 0, 0, 2], ot_to := fun _ _ => rfl, oh_to := fun _ _ => rfl }
structure z3h where
  ok : Bool
  t14 : Int
def z93 : List Sl := [.k, .k, .k, .sh (.ty 4), .j, .k, .k, .k, .k, .k, .j, .k, .k, .k, .sh (.ty 2), .j, .j, .j, .j, .j, .j, .j, .j, .j, .j, .j, .j, .j, .j, .j, .j, .j, .j, .j, .j, .j, .j, .j, .j, .j, .j, .j, .j, .j, .j, .j, .j, .k]
def z94 : List ESh := [.keep]
def zmv (a : Sl.Ts τ z93) (b : ESh.Ts τ z94) : z3h := ⟨a.2.2.2.1, a.2.2.2.2.2.2.2.2.2.2.2.2.2.2.1⟩
def zmw (s : z3h) : Sl.Ts τ z93 := ((), (), (), s.ok, (), (), (), (), (), (), (), (), (), (), s.t14, (), (), (), (), (), (), (), (), (), (), (), (), (), (), (), (), (), (), (), (), (), (), (), (), (), (), (), (), (), (), (), (), (), ())
def zmx (s : z3h) : ESh.Ts τ z94 := ((), ())
def zmy : Lp τ := { ts := z93, hs := z94, S := z3h, to := zmv, ot := zmw, oh := zmx, hk := [2], tk := [0, 2, 0, 0, 0, 2], ot_to := fun _ _ => rfl, oh_to := fun _ _ => rfl }
def z2m (N : Nat) (e : z7) : Option (Bool) :=
 ((zy N [e.Number]).bind fun r1 =>
 (bif r1 then
 ((bif r1 then zy N (e.Seals.toList) else some default).bind fun r2 =>
 (iter N (fun (s3 : z3w) next4 =>
 (bif (decide (s3.t14 < 8)) then
 (bif (!s3.ok || (ibB s3.t14 8)) then
 (bif (!(s3.ok && (decide (0 ≤ (vget e.States ((s3.t14).toNat) default)))) || (ibB s3.t14 8)) then
 (bif (!((s3.ok && (decide (0 ≤ (vget e.States ((s3.t14).toNat) default)))) && (decide ((vget e.States ((s3.t14).toNat) default) ≤ 3))) || (ibB s3.t14 8)) then
 (bif (!(((s3.ok && (decide (0 ≤ (vget e.States ((s3.t14).toNat) default)))) && (decide ((vget e.States ((s3.t14).toNat) default) ≤ 3))) && (decide ((-1) ≤ (vget e.Sponsor ((s3.t14).toNat) default)))) || (ibB s3.t14 8)) then
 (next4 ⟨((((s3.ok && (decide (0 ≤ (vget e.States ((s3.t14).toNat) default)))) && (decide ((vget e.States ((s3.t14).toNat) default) ≤ 3))) && (decide ((-1) ≤ (vget e.Sponsor ((s3.t14).toNat) default)))) && (decide ((vget e.Sponsor ((s3.t14).toNat) default) < 8))), (IntKind.i64.wrap (s3.t14 + 1))⟩)
 else none)
 else none)
 else none)
 else none)
 else
 (some s3.ok))) ⟨(r1 && r2), 0⟩))
 else
 (iter N (fun (s5 : z3h) next6 =>
 (bif (decide (s5.t14 < 8)) then
 (bif (!s5.ok || (ibB s5.t14 8)) then
 (bif (!(s5.ok && (decide (0 ≤ (vget e.States ((s5.t14).toNat) default)))) || (ibB s5.t14 8)) then
 (bif (!((s5.ok && (decide (0 ≤ (vget e.States ((s5.t14).toNat) default)))) && (decide ((vget e.States ((s5.t14).toNat) default) ≤ 3))) || (ibB s5.t14 8)) then
 (bif (!(((s5.ok && (decide (0 ≤ (vget e.States ((s5.t14).toNat) default)))) && (decide ((vget e.States ((s5.t14).toNat) default) ≤ 3))) && (decide ((-1) ≤ (vget e.Sponsor ((s5.t14).toNat) default)))) || (ibB s5.t14 8)) then
 (next6 ⟨((((s5.ok && (decide (0 ≤ (vget e.States ((s5.t14).toNat) default)))) && (decide ((vget e.States ((s5.t14).toNat) default) ≤ 3))) && (decide ((-1) ≤ (vget e.Sponsor ((s5.t14).toNat) default)))) && (decide ((vget e.Sponsor ((s5.t14).toNat) default) < 8))), (IntKind.i64.wrap (s5.t14 + 1))⟩)
 else none)
 else none)
 else none)
 else none)
 else
 (some s5.ok))) ⟨false, 0⟩)))
def z88 : Con τ := { args := [.ty 30], L := [], ret := .ty 4, L' := [], R := Bool, dflt := default, F := fun N a b => z2m N a.1, of := fun r => (r, ()) }
noncomputable def zpu : Dat τ := { D := D0, tbl := tblOf [(106, z33)], lp := lpsOf [(3, zo6), (3, zmy)], k0 := 0, mu := [], un := [] }
theorem zj0 : ConOk E C 97 z88 :=
  zf (D := zpu) ⟨d0Ok, eGood, za ⟨z6t, trivial⟩, fun _ => rfl⟩ z88 (fun a b => a) none (fun _ _ => rfl) rfl (fun _ _ h => nomatch h) 1000000 (fn := Tryz.f97) Tryz.func97 rfl (by kernel_rfl) (by kernel_rfl) rfl (by intro N a b; kernel_rfl)
def z1n (N : Nat) (p : GPart) : Option (Bool) :=
 ((zy N [p.Snap]).bind fun r1 =>
 (some (((((r1 && (decide (1 ≤ p.Many))) && (decide (p.Many ≤ 4096))) && (decide (0 ≤ p.Index))) && (decide (p.Index < p.Many))) && (decide (((p.Data).length : Int) ≤ 16384)))))
def z8s : Con τ := { args := [.ty 62], L := [], ret := .ty 4, L' := [], R := Bool, dflt := default, F := fun N a b => z1n N a.1, of := fun r => (r, ()) }
noncomputable def zr3 : Dat τ := { D := D0, tbl := tblOf [(106, z33)], lp := lpsOf [], k0 := 0, mu := [], un := [] }
theorem zl0 : ConOk E C 109 z8s :=
  zf (D := zr3) ⟨d0Ok, eGood, za ⟨z6t, trivial⟩, fun _ => rfl⟩ z8s (fun a b => a) none (fun _ _ => rfl) rfl (fun _ _ h => nomatch h) 1000000 (fn := Tryz.f109) Tryz.func109 rfl (by kernel_rfl) (by kernel_rfl) rfl (by intro N a b; kernel_rfl)
def zu (N : Nat) (e : z6) : Option (Int) :=
 (bif (e.Kind == 0) then
 ((zg N (⟨e.Kind, 0, 0, (⟨(⟨0, 0⟩ : zi), 0, 0, 0, [], [], []⟩ : GOp), 0, 0, [], (⟨0, (Vector.replicate 8 (default : Int)), (Vector.replicate 8 (default : Int)), (Vector.replicate 8 (default : Int))⟩ : z7), 0, (Vector.replicate 8 (default : Int)), 0, (⟨0, 0, 0, []⟩ : GPart), 0, 0, 0⟩ : z6) e).bind fun r1 =>
 ((zn N r1).bind fun r2 =>
 (some r2)))
 else
 (bif (e.Kind == 1) then
 ((zy N [e.Session, e.Request]).bind fun r3 =>
 ((bif ((r3 && (decide (0 < e.Session))) && (decide (0 < e.Request))) then z8r N e.Op else some default).bind fun r4 =>
 ((bif (((r3 && (decide (0 < e.Session))) && (decide (0 < e.Request))) && r4) then zg N (⟨e.Kind, e.Session, e.Request, e.Op, 0, 0, [], (⟨0, (Vector.replicate 8 (default : Int)), (Vector.replicate 8 (default : Int)), (Vector.replicate 8 (default : Int))⟩ : z7), 0, (Vector.replicate 8 (default : Int)), 0, (⟨0, 0, 0, []⟩ : GPart), 0, 0, 0⟩ : z6) e else some default).bind fun r5 =>
 ((zn N ((((r3 && (decide (0 < e.Session))) && (decide (0 < e.Request))) && r4) && r5)).bind fun r6 =>
 (some r6)))))
 else
 (bif (e.Kind == 2) then
 ((z1h N [e.Origin]).bind fun r7 =>
 ((bif r7 then zy N [e.Seq] else some default).bind fun r8 =>
 ((bif (r7 && r8) then z3m N e.Ops 1 else some default).bind fun r9 =>
 ((bif ((r7 && r8) && r9) then zg N (⟨e.Kind, 0, 0, (⟨(⟨0, 0⟩ : zi), 0, 0, 0, [], [], []⟩ : GOp), e.Origin, e.Seq, e.Ops, (⟨0, (Vector.replicate 8 (default : Int)), (Vector.replicate 8 (default : Int)), (Vector.replicate 8 (default : Int))⟩ : z7), 0, (Vector.replicate 8 (default : Int)), 0, (⟨0, 0, 0, []⟩ : GPart), 0, 0, 0⟩ : z6) e else some default).bind fun r10 =>
 ((zn N (((r7 && r8) && r9) && r10)).bind fun r11 =>
 (some r11))))))
 else
 (bif (e.Kind == 3) then
 ((z2m N e.Epoch).bind fun r12 =>
 ((bif r12 then zg N (⟨e.Kind, 0, 0, (⟨(⟨0, 0⟩ : zi), 0, 0, 0, [], [], []⟩ : GOp), 0, 0, [], e.Epoch, 0, (Vector.replicate 8 (default : Int)), 0, (⟨0, 0, 0, []⟩ : GPart), 0, 0, 0⟩ : z6) e else some default).bind fun r13 =>
 ((zn N (r12 && r13)).bind fun r14 =>
 (some r14))))
 else
 (bif (e.Kind == 4) then
 ((zy N [e.Seq, e.Clock]).bind fun r15 =>
 ((bif r15 then z1h N [e.From] else some default).bind fun r16 =>
 (bif (r15 && r16) then
 ((bif (r15 && r16) then zy N (e.Vector_.toList) else some default).bind fun r17 =>
 ((bif ((r15 && r16) && r17) then zg N (⟨e.Kind, 0, 0, (⟨(⟨0, 0⟩ : zi), 0, 0, 0, [], [], []⟩ : GOp), 0, e.Seq, [], (⟨0, (Vector.replicate 8 (default : Int)), (Vector.replicate 8 (default : Int)), (Vector.replicate 8 (default : Int))⟩ : z7), e.From, e.Vector_, e.Clock, (⟨0, 0, 0, []⟩ : GPart), 0, 0, 0⟩ : z6) e else some default).bind fun r18 =>
 ((zn N (((r15 && r16) && r17) && r18)).bind fun r19 =>
 (some r19))))
 else
 ((bif false then zg N (⟨e.Kind, 0, 0, (⟨(⟨0, 0⟩ : zi), 0, 0, 0, [], [], []⟩ : GOp), 0, e.Seq, [], (⟨0, (Vector.replicate 8 (default : Int)), (Vector.replicate 8 (default : Int)), (Vector.replicate 8 (default : Int))⟩ : z7), e.From, e.Vector_, e.Clock, (⟨0, 0, 0, []⟩ : GPart), 0, 0, 0⟩ : z6) e else some default).bind fun r20 =>
 ((zn N false).bind fun r21 =>
 (some r21))))))
 else
 (bif (e.Kind == 5) then
 ((z1n N e.Part).bind fun r22 =>
 ((bif r22 then zg N (⟨e.Kind, 0, 0, (⟨(⟨0, 0⟩ : zi), 0, 0, 0, [], [], []⟩ : GOp), 0, 0, [], (⟨0, (Vector.replicate 8 (default : Int)), (Vector.replicate 8 (default : Int)), (Vector.replicate 8 (default : Int))⟩ : z7), 0, (Vector.replicate 8 (default : Int)), 0, e.Part, 0, 0, 0⟩ : z6) e else some default).bind fun r23 =>
 ((zn N (r22 && r23)).bind fun r24 =>
 (some r24))))
 else
 (bif (e.Kind == 6) then
 ((z1h N [e.Site, e.Sponsor]).bind fun r25 =>
 ((bif r25 then zg N (⟨e.Kind, 0, 0, (⟨(⟨0, 0⟩ : zi), 0, 0, 0, [], [], []⟩ : GOp), 0, 0, [], (⟨0, (Vector.replicate 8 (default : Int)), (Vector.replicate 8 (default : Int)), (Vector.replicate 8 (default : Int))⟩ : z7), 0, (Vector.replicate 8 (default : Int)), 0, (⟨0, 0, 0, []⟩ : GPart), e.Site, e.Sponsor, 0⟩ : z6) e else some default).bind fun r26 =>
 ((zn N (r25 && r26)).bind fun r27 =>
 (some r27))))
 else
 (bif (e.Kind == 7) then
 ((z1h N [e.Site]).bind fun r28 =>
 ((bif r28 then zg N (⟨e.Kind, 0, 0, (⟨(⟨0, 0⟩ : zi), 0, 0, 0, [], [], []⟩ : GOp), 0, 0, [], (⟨0, (Vector.replicate 8 (default : Int)), (Vector.replicate 8 (default : Int)), (Vector.replicate 8 (default : Int))⟩ : z7), 0, (Vector.replicate 8 (default : Int)), 0, (⟨0, 0, 0, []⟩ : GPart), e.Site, 0, 0⟩ : z6) e else some default).bind fun r29 =>
 ((zn N (r28 && r29)).bind fun r30 =>
 (some r30))))
 else
 (bif (e.Kind == 8) then
 ((z1h N [e.Site]).bind fun r31 =>
 ((bif r31 then zy N [e.Length] else some default).bind fun r32 =>
 ((bif (r31 && r32) then zg N (⟨e.Kind, 0, 0, (⟨(⟨0, 0⟩ : zi), 0, 0, 0, [], [], []⟩ : GOp), 0, 0, [], (⟨0, (Vector.replicate 8 (default : Int)), (Vector.replicate 8 (default : Int)), (Vector.replicate 8 (default : Int))⟩ : z7), 0, (Vector.replicate 8 (default : Int)), 0, (⟨0, 0, 0, []⟩ : GPart), e.Site, 0, e.Length⟩ : z6) e else some default).bind fun r33 =>
 ((zn N ((r31 && r32) && r33)).bind fun r34 =>
 (some r34)))))
 else
 ((bif false then zg N (⟨e.Kind, 0, 0, (⟨(⟨0, 0⟩ : zi), 0, 0, 0, [], [], []⟩ : GOp), 0, 0, [], (⟨0, (Vector.replicate 8 (default : Int)), (Vector.replicate 8 (default : Int)), (Vector.replicate 8 (default : Int))⟩ : z7), 0, (Vector.replicate 8 (default : Int)), 0, (⟨0, 0, 0, []⟩ : GPart), 0, 0, 0⟩ : z6) e else some default).bind fun r35 =>
 ((zn N false).bind fun r36 =>
 (some r36))))))))))))
def z39 : Con τ := { args := [.ty 64], L := [], ret := .ty 35, L' := [], R := Int, dflt := default, F := fun N a b => zu N a.1, of := fun r => (r, ()) }
noncomputable def zmz : Dat τ := { D := D0, tbl := tblOf [(110, z5b), (89, z8q), (106, z33), (90, zbf), (107, z9h), (108, z9q), (97, z88), (109, z8s)], lp := lpsOf [], k0 := 0, mu := [], un := [] }
theorem z7m : ConOk E C 64 z39 :=
  zf (D := zmz) ⟨d0Ok, eGood, za ⟨zbe, ⟨zkz, ⟨z6t, ⟨znb, ⟨zk5, ⟨zm2, ⟨zj0, ⟨zl0, trivial⟩⟩⟩⟩⟩⟩⟩⟩, fun _ => rfl⟩ z39 (fun a b => a) none (fun _ _ => rfl) rfl (fun _ _ h => nomatch h) 1000000 (fn := Tryz.f64) Tryz.func64 rfl (by kernel_rfl) (by kernel_rfl) rfl (by intro N a b; kernel_rfl)
def z8g (N : Nat)  : Option (Bool × (List (Int))) :=
 (some (true, []))
def z8t : Con τ := { args := [], L := [], ret := .ptr 0 [], L' := [.box (.agg [.ty 4, .own 5 1]), .tail], R := Bool × (List (Int)), dflt := (default, default), F := fun N a b => z8g N , of := fun r => ((), ((r.1, r.2, ()), (), ())) }
noncomputable def zr4 : Dat τ := { D := D0, tbl := tblOf [], lp := lpsOf [], k0 := 0, mu := [], un := [] }
theorem zl1 : ConOk E C 7 z8t :=
  zf (D := zr4) ⟨d0Ok, eGood, za trivial, fun _ => rfl⟩ z8t (fun a b => (b.1.1, b.1.2.1)) none (fun _ _ => rfl) rfl (fun _ _ h => nomatch h) 1000000 (fn := Tryz.f7) Tryz.func7 rfl (by kernel_rfl) (by kernel_rfl) rfl (by intro N a b; kernel_rfl)
structure z4s where
  u : Int
  b : List (Int)
def zfa : List Sl := [.k, .k, .k, .sh (.ty 12), .sh (.own 5 0), .k, .k, .k, .k, .k, .k, .k, .j, .j, .j, .j, .j, .j, .j, .j, .j, .j, .k, .k, .k, .k, .k]
def zfb : List ESh := [.tail]
def zus (a : Sl.Ts τ zfa) (b : ESh.Ts τ zfb) : z4s := ⟨a.2.2.2.1, a.2.2.2.2.1⟩
def zut (s : z4s) : Sl.Ts τ zfa := ((), (), (), s.u, s.b, (), (), (), (), (), (), (), (), (), (), (), (), (), (), (), (), (), (), (), (), (), (), ())
def zuu (s : z4s) : ESh.Ts τ zfb := ((), ())
def zuv : Lp τ := { ts := zfa, hs := zfb, S := z4s, to := zus, ot := zut, oh := zuu, hk := [], tk := [], ot_to := fun _ _ => rfl, oh_to := fun _ _ => rfl }
def zai (N : Nat) (n : Int) : Option ((List (Int))) :=
 (bif (decide (n < 0)) then
 (iter N (fun (s1 : z4s) next2 =>
 (bif (decide (128 ≤ s1.u)) then
 (bif (lenB ((s1.b).length + ([(bits .or .u8 (IntKind.u8.wrap s1.u) 128)]).length) 1) then
 (next2 ⟨(shr .u64 s1.u 7), (s1.b ++ [(bits .or .u8 (IntKind.u8.wrap s1.u) 128)])⟩)
 else none)
 else
 (bif (lenB ((s1.b).length + ([(IntKind.u8.wrap s1.u)]).length) 1) then
 (some (s1.b ++ [(IntKind.u8.wrap s1.u)]))
 else none))) ⟨(bits .xor .u64 IntKind.u64.max (shl .u64 (IntKind.u64.wrap n) 1)), []⟩)
 else
 (iter N (fun (s3 : z4s) next4 =>
 (bif (decide (128 ≤ s3.u)) then
 (bif (lenB ((s3.b).length + ([(bits .or .u8 (IntKind.u8.wrap s3.u) 128)]).length) 1) then
 (next4 ⟨(shr .u64 s3.u 7), (s3.b ++ [(bits .or .u8 (IntKind.u8.wrap s3.u) 128)])⟩)
 else none)
 else
 (bif (lenB ((s3.b).length + ([(IntKind.u8.wrap s3.u)]).length) 1) then
 (some (s3.b ++ [(IntKind.u8.wrap s3.u)]))
 else none))) ⟨(shl .u64 (IntKind.u64.wrap n) 1), []⟩))
def z9k : Con τ := { args := [.ty 2], L := [], ret := .own 5 0, L' := [.tail], R := (List (Int)), dflt := default, F := fun N a b => zai N a.1, of := fun r => (r, ((), ())) }
noncomputable def zwk : Dat τ := { D := D0, tbl := tblOf [], lp := lpsOf [(5, zuv)], k0 := 0, mu := [], un := [] }
theorem zk6 : ConOk E C 123 z9k :=
  zf (D := zwk) ⟨d0Ok, eGood, za trivial, fun _ => rfl⟩ z9k (fun a b => a) none (fun _ _ => rfl) rfl (fun _ _ h => nomatch h) 1000000 (fn := Tryz.f123) Tryz.func123 rfl (by kernel_rfl) (by kernel_rfl) rfl (by intro N a b; kernel_rfl)
def z3p (N : Nat) (b0 : Bool) (b02 : List (Int)) : Option (Bool × Bool × (List (Int))) :=
 (some ((!b0), b0, b02))
def z4o : Con τ := { args := [.ptr 0 []], L := [.box (.agg [.ty 4, .own 5 1]), .tail], ret := .ty 4, L' := [.box (.agg [.ty 4, .own 5 1]), .tail], R := Bool × Bool × (List (Int)), dflt := (default, default, default), F := fun N a b => z3p N b.1.1 b.1.2.1, of := fun r => (r.1, ((r.2.1, r.2.2, ()), (), ())) }
noncomputable def zk7 : Dat τ := { D := D0, tbl := tblOf [], lp := lpsOf [], k0 := 2, mu := [], un := [] }
theorem zc7 : ConOk E C 48 z4o :=
  zf (D := zk7) ⟨d0Ok, eGood, za trivial, fun _ => rfl⟩ z4o (fun a b => (a, b.1.1, b.1.2.1)) none (fun _ _ => rfl) rfl (fun _ _ h => nomatch h) 1000000 (fn := Tryz.f48) Tryz.func48 rfl (by kernel_rfl) (by kernel_rfl) rfl (by intro N a b; kernel_rfl)
structure z2j where
  n : Int
  t19 : Int
def z7n : List Sl := [.k, .k, .k, .k, .j, .sh (.ty 2), .k, .j, .k, .k, .k, .k, .k, .k, .k, .k, .k, .k, .k, .sh (.ty 2), .j, .j, .j, .j, .j, .j, .j, .j, .j, .j, .j, .j, .j, .k, .k, .k, .k, .k, .k, .k, .k, .k, .k, .k, .k, .k, .k, .k, .k]
def z7o : List ESh := [.keep, .keep]
def zk8 (a : Sl.Ts τ z7n) (b : ESh.Ts τ z7o) : z2j := ⟨a.2.2.2.2.2.1, a.2.2.2.2.2.2.2.2.2.2.2.2.2.2.2.2.2.2.2.1⟩
def zk9 (s : z2j) : Sl.Ts τ z7n := ((), (), (), (), (), s.n, (), (), (), (), (), (), (), (), (), (), (), (), (), s.t19, (), (), (), (), (), (), (), (), (), (), (), (), (), (), (), (), (), (), (), (), (), (), (), (), (), (), (), (), (), ())
def zka (s : z2j) : ESh.Ts τ z7o := ((), (), ())
def zkb : Lp τ := { ts := z7n, hs := z7o, S := z2j, to := zk8, ot := zk9, oh := zka, hk := [2, 5], tk := [2, 0, 0, 0, 0, 0, 0, 0, 0, 0, 2, 0, 2, 2, 2], ot_to := fun _ _ => rfl, oh_to := fun _ _ => rfl }
structure z1y where
  t35 : Int
  b0 : Bool
  b02 : List (Int)
def z74 : List Sl := [.k, .k, .k, .k, .k, .k, .k, .k, .k, .j, .k, .k, .k, .k, .k, .k, .k, .k, .k, .k, .k, .k, .k, .k, .k, .k, .k, .k, .k, .k, .k, .k, .k, .k, .k, .sh (.ty 2), .j, .j, .j, .j, .j, .j, .j, .j, .j, .j, .j, .j, .j]
def z75 : List ESh := [.box (.agg [.ty 4, .own 5 2]), .dead, .tail]
def zj1 (a : Sl.Ts τ z74) (b : ESh.Ts τ z75) : z1y := ⟨a.2.2.2.2.2.2.2.2.2.2.2.2.2.2.2.2.2.2.2.2.2.2.2.2.2.2.2.2.2.2.2.2.2.2.2.1, b.1.1, b.1.2.1⟩
def zj2 (s : z1y) : Sl.Ts τ z74 := ((), (), (), (), (), (), (), (), (), (), (), (), (), (), (), (), (), (), (), (), (), (), (), (), (), (), (), (), (), (), (), (), (), (), (), s.t35, (), (), (), (), (), (), (), (), (), (), (), (), (), ())
def zj3 (s : z1y) : ESh.Ts τ z75 := ((s.b0, s.b02, ()), (), (), ())
def zj4 : Lp τ := { ts := z74, hs := z75, S := z1y, to := zj1, ot := zj2, oh := zj3, hk := [2, 5], tk := [2, 0, 0, 0, 0, 0, 0, 0, 0, 0, 2, 0, 2, 2, 2], ot_to := fun _ _ => rfl, oh_to := fun _ _ => rfl }
def z49 (N : Nat) (l : List (List (Int))) (b0 : Bool) (b02 : List (Int)) : Option (Int × Bool × (List (Int))) :=
 ((z3p N b0 b02).bind fun r1 =>
 (bif r1.1 then
 (some (2, r1.2.1, r1.2.2))
 else
 (iter N (fun (s2 : z2j) next3 =>
 (bif (decide (s2.t19 < ((l).length : Int))) then
 (bif (ibB s2.t19 ((l).length : Int)) then
 (bif (decide ((IntKind.i64.wrap (1048576 - s2.n)) < (((lget l s2.t19 default)).length : Int))) then
 (some (3, r1.2.1, r1.2.2))
 else
 (next3 ⟨(IntKind.i64.wrap (s2.n + (((lget l s2.t19 default)).length : Int))), (IntKind.i64.wrap (s2.t19 + 1))⟩))
 else none)
 else
 (iter N (fun (s4 : z1y) next5 =>
 (bif (decide (s4.t35 < ((l).length : Int))) then
 (bif (ibB s4.t35 ((l).length : Int)) then
 (bif (lenB ((s4.b02).length + ((lget l s4.t35 default)).length) 1) then
 (next5 ⟨(IntKind.i64.wrap (s4.t35 + 1)), s4.b0, (s4.b02 ++ (lget l s4.t35 default))⟩)
 else none)
 else none)
 else
 (some (0, s4.b0, s4.b02)))) ⟨0, r1.2.1, r1.2.2⟩))) ⟨((r1.2.2).length : Int), 0⟩)))
def z5m : Con τ := { args := [.ptr 0 [], .ty 194], L := [.box (.agg [.ty 4, .own 5 1]), .tail], ret := .ty 35, L' := [.box (.agg [.ty 4, .own 5 2]), .dead, .tail], R := Int × Bool × (List (Int)), dflt := (default, default, default), F := fun N a b => z49 N a.2.1 b.1.1 b.1.2.1, of := fun r => (r.1, ((r.2.1, r.2.2, ()), (), (), ())) }
noncomputable def zlb : Dat τ := { D := D0, tbl := tblOf [(48, z4o)], lp := lpsOf [(5, zkb), (12, zj4)], k0 := 2, mu := [], un := [] }
theorem zdd : ConOk E C 134 z5m :=
  zf (D := zlb) ⟨d0Ok, eGood, za ⟨zc7, trivial⟩, fun _ => rfl⟩ z5m (fun a b => (a, b.1.1, b.1.2.1)) none (fun _ _ => rfl) rfl (fun _ _ h => nomatch h) 1000000 (fn := Tryz.f134) Tryz.func134 rfl (by kernel_rfl) (by kernel_rfl) rfl (by intro N a b; kernel_rfl)
def z4a (N : Nat) (n : Int) (b0 : Bool) (b02 : List (Int)) : Option (Int × Bool × (List (Int))) :=
 ((zai N n).bind fun r1 =>
 ((z49 N [r1] b0 b02).bind fun r2 =>
 (some (r2.1, r2.2.1, r2.2.2))))
def z5n : Con τ := { args := [.ptr 0 [], .ty 2], L := [.box (.agg [.ty 4, .own 5 1]), .tail], ret := .ty 35, L' := [.box (.agg [.ty 4, .own 5 2]), .dead, .tail], R := Int × Bool × (List (Int)), dflt := (default, default, default), F := fun N a b => z4a N a.2.1 b.1.1 b.1.2.1, of := fun r => (r.1, ((r.2.1, r.2.2, ()), (), (), ())) }
noncomputable def zlc : Dat τ := { D := D0, tbl := tblOf [(123, z9k), (134, z5m)], lp := lpsOf [], k0 := 2, mu := [], un := [] }
theorem zde : ConOk E C 88 z5n :=
  zf (D := zlc) ⟨d0Ok, eGood, za ⟨zk6, ⟨zdd, trivial⟩⟩, fun _ => rfl⟩ z5n (fun a b => (a, b.1.1, b.1.2.1)) none (fun _ _ => rfl) rfl (fun _ _ h => nomatch h) 1000000 (fn := Tryz.f88) Tryz.func88 rfl (by kernel_rfl) (by kernel_rfl) rfl (by intro N a b; kernel_rfl)
def z1z (N : Nat) (e : Int) (b0 : Int) (b1 : Bool) (b12 : List (Int)) : Option (Int × Bool × (List (Int))) :=
 (bif (b0 == 0) then
 (some (e, b1, b12))
 else
 (some (b0, b1, b12)))
def z24 : Con τ := { args := [.ptr 0 [], .ty 35], L := [.box (.agg [.ptr 1 [], .ty 35]), .box (.agg [.ty 4, .own 5 2]), .tail], ret := .tup [], L' := [.box (.agg [.ptr 1 [], .ty 35]), .box (.agg [.ty 4, .own 5 2]), .tail], R := Int × Bool × (List (Int)), dflt := (default, default, default), F := fun N a b => z1z N a.2.1 b.1.2.1 b.2.1.1 b.2.1.2.1, of := fun r => ((), (((), r.1, ()), (r.2.1, r.2.2, ()), (), ())) }
noncomputable def zi0 : Dat τ := { D := D0, tbl := tblOf [], lp := lpsOf [], k0 := 3, mu := [], un := [] }
theorem z3x : ConOk E C 137 z24 :=
  zf (D := zi0) ⟨d0Ok, eGood, za trivial, fun _ => rfl⟩ z24 (fun a b => (b.1.2.1, b.2.1.1, b.2.1.2.1)) none (fun _ _ => rfl) rfl (fun _ _ h => nomatch h) 1000000 (fn := Tryz.f137) Tryz.func137 rfl (by kernel_rfl) (by kernel_rfl) rfl (by intro N a b; kernel_rfl)
structure z1v where
  t8 : Int
  b0 : Int
  b1 : Bool
  b12 : List (Int)
def z5e : List Sl := [.k, .k, .k, .k, .k, .j, .k, .k, .sh (.ty 2), .j, .j, .j, .j, .j, .j, .j, .j, .j, .j, .j, .j]
def z5f : List ESh := [.box (.agg [.ptr 1 [], .ty 2]), .box (.agg [.ty 4, .own 5 3]), .dead, .tail]
def zfc (a : Sl.Ts τ z5e) (b : ESh.Ts τ z5f) : z1v := ⟨a.2.2.2.2.2.2.2.2.1, b.1.2.1, b.2.1.1, b.2.1.2.1⟩
def zfd (s : z1v) : Sl.Ts τ z5e := ((), (), (), (), (), (), (), (), s.t8, (), (), (), (), (), (), (), (), (), (), (), (), ())
def zfe (s : z1v) : ESh.Ts τ z5f := (((), s.b0, ()), (s.b1, s.b12, ()), (), (), ())
def zff : Lp τ := { ts := z5e, hs := z5f, S := z1v, to := zfc, ot := zfd, oh := zfe, hk := [2, 2, 5], tk := [2], ot_to := fun _ _ => rfl, oh_to := fun _ _ => rfl }
def zb (N : Nat) (l : List (Int)) (b0 : Int) (b1 : Bool) (b12 : List (Int)) : Option (Int × Bool × (List (Int))) :=
 (iter N (fun (s1 : z1v) next2 =>
 (bif (decide (s1.t8 < ((l).length : Int))) then
 (bif (ibB s1.t8 ((l).length : Int)) then
 ((z4a N (lget l s1.t8 default) s1.b1 s1.b12).bind fun r3 =>
 ((z1z N r3.1 s1.b0 r3.2.1 r3.2.2).bind fun r4 =>
 (next2 ⟨(IntKind.i64.wrap (s1.t8 + 1)), r4.1, r4.2.1, r4.2.2⟩)))
 else none)
 else
 (some (s1.b0, s1.b1, s1.b12)))) ⟨0, b0, b1, b12⟩)
def zv : Con τ := { args := [.ptr 0 [], .ty 145], L := [.box (.agg [.ptr 1 [], .ty 35]), .box (.agg [.ty 4, .own 5 2]), .tail], ret := .tup [], L' := [.box (.agg [.ptr 1 [], .ty 35]), .box (.agg [.ty 4, .own 5 3]), .dead, .tail], R := Int × Bool × (List (Int)), dflt := (default, default, default), F := fun N a b => zb N a.2.1 b.1.2.1 b.2.1.1 b.2.1.2.1, of := fun r => ((), (((), r.1, ()), (r.2.1, r.2.2, ()), (), (), ())) }
noncomputable def zg8 : Dat τ := { D := D0, tbl := tblOf [(88, z5n), (137, z24)], lp := lpsOf [(1, zff)], k0 := 3, mu := [], un := [] }
theorem z17 : ConOk E C 93 zv :=
  zf (D := zg8) ⟨d0Ok, eGood, za ⟨zde, ⟨z3x, trivial⟩⟩, fun _ => rfl⟩ zv (fun a b => (b.1.2.1, b.2.1.1, b.2.1.2.1)) none (fun _ _ => rfl) rfl (fun _ _ h => nomatch h) 1000000 (fn := Tryz.f93) Tryz.func93 rfl (by kernel_rfl) (by kernel_rfl) rfl (by intro N a b; kernel_rfl)
structure z25 where
  t8 : Int
  b0 : Int
  b1 : Bool
  b12 : List (Int)
def z5w : List Sl := [.k, .k, .k, .k, .k, .j, .k, .k, .sh (.ty 2), .j, .j, .j, .j, .j, .j, .j, .j, .j, .j, .j, .j]
def z5x : List ESh := [.box (.agg [.ptr 1 [], .ty 2]), .box (.agg [.ty 4, .own 5 3]), .dead, .tail]
def zg9 (a : Sl.Ts τ z5w) (b : ESh.Ts τ z5x) : z25 := ⟨a.2.2.2.2.2.2.2.2.1, b.1.2.1, b.2.1.1, b.2.1.2.1⟩
def zga (s : z25) : Sl.Ts τ z5w := ((), (), (), (), (), (), (), (), s.t8, (), (), (), (), (), (), (), (), (), (), (), (), ())
def zgb (s : z25) : ESh.Ts τ z5x := (((), s.b0, ()), (s.b1, s.b12, ()), (), (), ())
def zgc : Lp τ := { ts := z5w, hs := z5x, S := z25, to := zg9, ot := zga, oh := zgb, hk := [2, 2, 5], tk := [2], ot_to := fun _ _ => rfl, oh_to := fun _ _ => rfl }
def z5 (N : Nat) (l : List (Int)) (b0 : Int) (b1 : Bool) (b12 : List (Int)) : Option (Int × Bool × (List (Int))) :=
 (iter N (fun (s1 : z25) next2 =>
 (bif (decide (s1.t8 < ((l).length : Int))) then
 (bif (ibB s1.t8 ((l).length : Int)) then
 ((z4a N (lget l s1.t8 default) s1.b1 s1.b12).bind fun r3 =>
 ((z1z N r3.1 s1.b0 r3.2.1 r3.2.2).bind fun r4 =>
 (next2 ⟨(IntKind.i64.wrap (s1.t8 + 1)), r4.1, r4.2.1, r4.2.2⟩)))
 else none)
 else
 (some (s1.b0, s1.b1, s1.b12)))) ⟨0, b0, b1, b12⟩)
def z18 : Con τ := { args := [.ptr 0 [], .ty 143], L := [.box (.agg [.ptr 1 [], .ty 35]), .box (.agg [.ty 4, .own 5 2]), .tail], ret := .tup [], L' := [.box (.agg [.ptr 1 [], .ty 35]), .box (.agg [.ty 4, .own 5 3]), .dead, .tail], R := Int × Bool × (List (Int)), dflt := (default, default, default), F := fun N a b => z5 N a.2.1 b.1.2.1 b.2.1.1 b.2.1.2.1, of := fun r => ((), (((), r.1, ()), (r.2.1, r.2.2, ()), (), (), ())) }
noncomputable def zi1 : Dat τ := { D := D0, tbl := tblOf [(88, z5n), (137, z24)], lp := lpsOf [(1, zgc)], k0 := 3, mu := [], un := [] }
theorem z1o : ConOk E C 92 z18 :=
  zf (D := zi1) ⟨d0Ok, eGood, za ⟨zde, ⟨z3x, trivial⟩⟩, fun _ => rfl⟩ z18 (fun a b => (b.1.2.1, b.2.1.1, b.2.1.2.1)) none (fun _ _ => rfl) rfl (fun _ _ h => nomatch h) 1000000 (fn := Tryz.f92) Tryz.func92 rfl (by kernel_rfl) (by kernel_rfl) rfl (by intro N a b; kernel_rfl)
def z3g (N : Nat) (b : List (Int)) (b0 : Bool) (b02 : List (Int)) : Option (Int × Bool × (List (Int))) :=
 ((zai N ((b).length : Int)).bind fun r1 =>
 ((z49 N [r1, b] b0 b02).bind fun r2 =>
 (some (r2.1, r2.2.1, r2.2.2))))
def z3y : Con τ := { args := [.ptr 0 [], .ty 31], L := [.box (.agg [.ty 4, .own 5 1]), .tail], ret := .ty 35, L' := [.box (.agg [.ty 4, .own 5 2]), .dead, .tail], R := Int × Bool × (List (Int)), dflt := (default, default, default), F := fun N a b => z3g N a.2.1 b.1.1 b.1.2.1, of := fun r => (r.1, ((r.2.1, r.2.2, ()), (), (), ())) }
noncomputable def zj5 : Dat τ := { D := D0, tbl := tblOf [(123, z9k), (134, z5m)], lp := lpsOf [], k0 := 2, mu := [], un := [] }
theorem zbh : ConOk E C 146 z3y :=
  zf (D := zj5) ⟨d0Ok, eGood, za ⟨zk6, ⟨zdd, trivial⟩⟩, fun _ => rfl⟩ z3y (fun a b => (a, b.1.1, b.1.2.1)) none (fun _ _ => rfl) rfl (fun _ _ h => nomatch h) 1000000 (fn := Tryz.f146) Tryz.func146 rfl (by kernel_rfl) (by kernel_rfl) rfl (by intro N a b; kernel_rfl)
def z67 (N : Nat) (s : List UInt8) (b0 : Bool) (b02 : List (Int)) : Option (Int × Bool × (List (Int))) :=
 ((z3g N (zjk s) b0 b02).bind fun r1 =>
 (some (r1.1, r1.2.1, r1.2.2)))
def z7p : Con τ := { args := [.ptr 0 [], .ty 9], L := [.box (.agg [.ty 4, .own 5 1]), .tail], ret := .ty 35, L' := [.box (.agg [.ty 4, .own 5 2]), .dead, .tail], R := Int × Bool × (List (Int)), dflt := (default, default, default), F := fun N a b => z67 N a.2.1 b.1.1 b.1.2.1, of := fun r => (r.1, ((r.2.1, r.2.2, ()), (), (), ())) }
noncomputable def zkc : Dat τ := { D := D0, tbl := tblOf [(146, z3y)], lp := lpsOf [], k0 := 2, mu := [], un := [] }
theorem zld : ConOk E C 138 z7p :=
  zf (D := zkc) ⟨d0Ok, eGood, za ⟨zbh, trivial⟩, fun _ => rfl⟩ z7p (fun a b => (a, b.1.1, b.1.2.1)) none (fun _ _ => rfl) rfl (fun _ _ h => nomatch h) 1000000 (fn := Tryz.f138) Tryz.func138 rfl (by kernel_rfl) (by kernel_rfl) rfl (by intro N a b; kernel_rfl)
structure z1w where
  t8 : Int
  b0 : Int
  b1 : Bool
  b12 : List (Int)
def z5g : List Sl := [.k, .k, .k, .k, .k, .j, .k, .k, .sh (.ty 2), .j, .j, .j, .j, .j, .j, .j, .j, .j, .j, .j, .j]
def z5h : List ESh := [.box (.agg [.ptr 1 [], .ty 2]), .box (.agg [.ty 4, .own 5 3]), .dead, .tail]
def zfg (a : Sl.Ts τ z5g) (b : ESh.Ts τ z5h) : z1w := ⟨a.2.2.2.2.2.2.2.2.1, b.1.2.1, b.2.1.1, b.2.1.2.1⟩
def zfh (s : z1w) : Sl.Ts τ z5g := ((), (), (), (), (), (), (), (), s.t8, (), (), (), (), (), (), (), (), (), (), (), (), ())
def zfi (s : z1w) : ESh.Ts τ z5h := (((), s.b0, ()), (s.b1, s.b12, ()), (), (), ())
def zfj : Lp τ := { ts := z5g, hs := z5h, S := z1w, to := zfg, ot := zfh, oh := zfi, hk := [2, 2, 5], tk := [2], ot_to := fun _ _ => rfl, oh_to := fun _ _ => rfl }
def z3z (N : Nat) (l : List (List UInt8)) (b0 : Int) (b1 : Bool) (b12 : List (Int)) : Option (Int × Bool × (List (Int))) :=
 (iter N (fun (s1 : z1w) next2 =>
 (bif (decide (s1.t8 < ((l).length : Int))) then
 (bif (ibB s1.t8 ((l).length : Int)) then
 ((z67 N (lget l s1.t8 default) s1.b1 s1.b12).bind fun r3 =>
 ((z1z N r3.1 s1.b0 r3.2.1 r3.2.2).bind fun r4 =>
 (next2 ⟨(IntKind.i64.wrap (s1.t8 + 1)), r4.1, r4.2.1, r4.2.2⟩)))
 else none)
 else
 (some (s1.b0, s1.b1, s1.b12)))) ⟨0, b0, b1, b12⟩)
def z5y : Con τ := { args := [.ptr 0 [], .ty 181], L := [.box (.agg [.ptr 1 [], .ty 35]), .box (.agg [.ty 4, .own 5 2]), .tail], ret := .tup [], L' := [.box (.agg [.ptr 1 [], .ty 35]), .box (.agg [.ty 4, .own 5 3]), .dead, .tail], R := Int × Bool × (List (Int)), dflt := (default, default, default), F := fun N a b => z3z N a.2.1 b.1.2.1 b.2.1.1 b.2.1.2.1, of := fun r => ((), (((), r.1, ()), (r.2.1, r.2.2, ()), (), (), ())) }
noncomputable def zgd : Dat τ := { D := D0, tbl := tblOf [(138, z7p), (137, z24)], lp := lpsOf [(1, zfj)], k0 := 3, mu := [], un := [] }
theorem zi2 : ConOk E C 94 z5y :=
  zf (D := zgd) ⟨d0Ok, eGood, za ⟨zld, ⟨z3x, trivial⟩⟩, fun _ => rfl⟩ z5y (fun a b => (b.1.2.1, b.2.1.1, b.2.1.2.1)) none (fun _ _ => rfl) rfl (fun _ _ h => nomatch h) 1000000 (fn := Tryz.f94) Tryz.func94 rfl (by kernel_rfl) (by kernel_rfl) rfl (by intro N a b; kernel_rfl)
def z2t (N : Nat) (op : GOp) (b0 : Int) (b1 : Bool) (b12 : List (Int)) : Option (Int × Bool × (List (Int))) :=
 ((z5 N [op.Stamp.Time] b0 b1 b12).bind fun r1 =>
 ((zb N [op.Stamp.Site, op.Kind] r1.1 r1.2.1 r1.2.2).bind fun r2 =>
 ((z5 N [op.Node, op.Parent] r2.1 r2.2.1 r2.2.2).bind fun r3 =>
 ((z3z N [op.Name, op.Key, op.Value] r3.1 r3.2.1 r3.2.2).bind fun r4 =>
 (some (r4.1, r4.2.1, r4.2.2))))))
def z4p : Con τ := { args := [.ptr 0 [], .ty 25], L := [.box (.agg [.ptr 1 [], .ty 35]), .box (.agg [.ty 4, .own 5 2]), .tail], ret := .tup [], L' := [.box (.agg [.ptr 1 [], .ty 35]), .box (.agg [.ty 4, .own 5 3]), .dead, .tail], R := Int × Bool × (List (Int)), dflt := (default, default, default), F := fun N a b => z2t N a.2.1 b.1.2.1 b.2.1.1 b.2.1.2.1, of := fun r => ((), (((), r.1, ()), (r.2.1, r.2.2, ()), (), (), ())) }
noncomputable def zkd : Dat τ := { D := D0, tbl := tblOf [(92, z18), (93, zv), (94, z5y)], lp := lpsOf [], k0 := 3, mu := [], un := [] }
theorem zc8 : ConOk E C 40 z4p :=
  zf (D := zkd) ⟨d0Ok, eGood, za ⟨z1o, ⟨z17, ⟨zi2, trivial⟩⟩⟩, fun _ => rfl⟩ z4p (fun a b => (b.1.2.1, b.2.1.1, b.2.1.2.1)) none (fun _ _ => rfl) rfl (fun _ _ h => nomatch h) 1000000 (fn := Tryz.f40) Tryz.func40 rfl (by kernel_rfl) (by kernel_rfl) rfl (by intro N a b; kernel_rfl)
structure z29 where
  t13 : Int
  b0 : Int
  b1 : Bool
  b12 : List (Int)
def z6u : List Sl := [.k, .k, .k, .k, .k, .j, .k, .k, .k, .k, .k, .k, .k, .sh (.ty 2), .j, .j, .j, .j, .j, .j, .j]
def z6v : List ESh := [.box (.agg [.ptr 1 [], .ty 2]), .box (.agg [.ty 4, .own 5 4]), .keep, .dead, .tail]
def zi3 (a : Sl.Ts τ z6u) (b : ESh.Ts τ z6v) : z29 := ⟨a.2.2.2.2.2.2.2.2.2.2.2.2.2.1, b.1.2.1, b.2.1.1, b.2.1.2.1⟩
def zi4 (s : z29) : Sl.Ts τ z6u := ((), (), (), (), (), (), (), (), (), (), (), (), (), s.t13, (), (), (), (), (), (), (), ())
def zi5 (s : z29) : ESh.Ts τ z6v := (((), s.b0, ()), (s.b1, s.b12, ()), (), (), (), ())
def zi6 : Lp τ := { ts := z6u, hs := z6v, S := z29, to := zi3, ot := zi4, oh := zi5, hk := [2, 2, 1, 5], tk := [2, 0, 0, 0, 0, 0, 2], ot_to := fun _ _ => rfl, oh_to := fun _ _ => rfl }
def z27 (N : Nat) (l : List (GOp)) (b0 : Int) (b1 : Bool) (b12 : List (Int)) : Option (Int × Bool × (List (Int))) :=
 ((zb N [((l).length : Int)] b0 b1 b12).bind fun r1 =>
 (iter N (fun (s2 : z29) next3 =>
 (bif (decide (s2.t13 < ((l).length : Int))) then
 (bif (ibB s2.t13 ((l).length : Int)) then
 ((z2t N (⟨((lget l s2.t13 default).Stamp), (lget l s2.t13 default).Kind, (lget l s2.t13 default).Node, (lget l s2.t13 default).Parent, (lget l s2.t13 default).Name, (lget l s2.t13 default).Key, (lget l s2.t13 default).Value⟩ : GOp) s2.b0 s2.b1 s2.b12).bind fun r4 =>
 (next3 ⟨(IntKind.i64.wrap (s2.t13 + 1)), r4.1, r4.2.1, r4.2.2⟩))
 else none)
 else
 (some (s2.b0, s2.b1, s2.b12)))) ⟨0, r1.1, r1.2.1, r1.2.2⟩))
def z40 : Con τ := { args := [.ptr 0 [], .ty 60], L := [.box (.agg [.ptr 1 [], .ty 35]), .box (.agg [.ty 4, .own 5 2]), .tail], ret := .tup [], L' := [.box (.agg [.ptr 1 [], .ty 35]), .box (.agg [.ty 4, .own 5 3]), .dead, .tail], R := Int × Bool × (List (Int)), dflt := (default, default, default), F := fun N a b => z27 N a.2.1 b.1.2.1 b.2.1.1 b.2.1.2.1, of := fun r => ((), (((), r.1, ()), (r.2.1, r.2.2, ()), (), (), ())) }
noncomputable def zj6 : Dat τ := { D := D0, tbl := tblOf [(93, zv), (40, z4p)], lp := lpsOf [(2, zi6)], k0 := 3, mu := [], un := [] }
theorem zbi : ConOk E C 111 z40 :=
  zf (D := zj6) ⟨d0Ok, eGood, za ⟨z17, ⟨zc8, trivial⟩⟩, fun _ => rfl⟩ z40 (fun a b => (b.1.2.1, b.2.1.1, b.2.1.2.1)) none (fun _ _ => rfl) rfl (fun _ _ h => nomatch h) 1000000 (fn := Tryz.f111) Tryz.func111 rfl (by kernel_rfl) (by kernel_rfl) rfl (by intro N a b; kernel_rfl)
def z1p (N : Nat) (e : z7) (b0 : Int) (b1 : Bool) (b12 : List (Int)) : Option (Int × Bool × (List (Int))) :=
 ((z5 N [e.Number] b0 b1 b12).bind fun r1 =>
 ((zb N (e.States.toList) r1.1 r1.2.1 r1.2.2).bind fun r2 =>
 ((z5 N (e.Seals.toList) r2.1 r2.2.1 r2.2.2).bind fun r3 =>
 ((zb N (e.Sponsor.toList) r3.1 r3.2.1 r3.2.2).bind fun r4 =>
 (some (r4.1, r4.2.1, r4.2.2))))))
def z3f : Con τ := { args := [.ptr 0 [], .ty 30], L := [.box (.agg [.ptr 1 [], .ty 35]), .box (.agg [.ty 4, .own 5 2]), .tail], ret := .tup [], L' := [.box (.agg [.ptr 1 [], .ty 35]), .box (.agg [.ty 4, .own 5 3]), .dead, .tail], R := Int × Bool × (List (Int)), dflt := (default, default, default), F := fun N a b => z1p N a.2.1 b.1.2.1 b.2.1.1 b.2.1.2.1, of := fun r => ((), (((), r.1, ()), (r.2.1, r.2.2, ()), (), (), ())) }
noncomputable def zge : Dat τ := { D := D0, tbl := tblOf [(92, z18), (93, zv)], lp := lpsOf [], k0 := 3, mu := [], un := [] }
theorem z9l : ConOk E C 46 z3f :=
  zf (D := zge) ⟨d0Ok, eGood, za ⟨z1o, ⟨z17, trivial⟩⟩, fun _ => rfl⟩ z3f (fun a b => (b.1.2.1, b.2.1.1, b.2.1.2.1)) none (fun _ _ => rfl) rfl (fun _ _ h => nomatch h) 1000000 (fn := Tryz.f46) Tryz.func46 rfl (by kernel_rfl) (by kernel_rfl) rfl (by intro N a b; kernel_rfl)
def z19 (N : Nat) (p : GPart) (b0 : Int) (b1 : Bool) (b12 : List (Int)) : Option (Int × Bool × (List (Int))) :=
 ((z5 N [p.Snap] b0 b1 b12).bind fun r1 =>
 ((zb N [p.Index, p.Many] r1.1 r1.2.1 r1.2.2).bind fun r2 =>
 ((z3g N p.Data r2.2.1 r2.2.2).bind fun r3 =>
 ((z1z N r3.1 r2.1 r3.2.1 r3.2.2).bind fun r4 =>
 (some (r4.1, r4.2.1, r4.2.2))))))
def z3n : Con τ := { args := [.ptr 0 [], .ty 62], L := [.box (.agg [.ptr 1 [], .ty 35]), .box (.agg [.ty 4, .own 5 2]), .tail], ret := .tup [], L' := [.box (.agg [.ptr 1 [], .ty 35]), .box (.agg [.ty 4, .own 5 3]), .dead, .tail], R := Int × Bool × (List (Int)), dflt := (default, default, default), F := fun N a b => z19 N a.2.1 b.1.2.1 b.2.1.1 b.2.1.2.1, of := fun r => ((), (((), r.1, ()), (r.2.1, r.2.2, ()), (), (), ())) }
noncomputable def zi7 : Dat τ := { D := D0, tbl := tblOf [(92, z18), (93, zv), (146, z3y), (137, z24)], lp := lpsOf [], k0 := 3, mu := [], un := [] }
theorem zaj : ConOk E C 112 z3n :=
  zf (D := zi7) ⟨d0Ok, eGood, za ⟨z1o, ⟨z17, ⟨zbh, ⟨z3x, trivial⟩⟩⟩⟩, fun _ => rfl⟩ z3n (fun a b => (b.1.2.1, b.2.1.1, b.2.1.2.1)) none (fun _ _ => rfl) rfl (fun _ _ h => nomatch h) 1000000 (fn := Tryz.f112) Tryz.func112 rfl (by kernel_rfl) (by kernel_rfl) rfl (by intro N a b; kernel_rfl)
def z1b (N : Nat) (e : z6) (b0 : Int) (b1 : Bool) (b12 : List (Int)) : Option (Int × Bool × (List (Int))) :=
 ((zb N [e.Kind] b0 b1 b12).bind fun r1 =>
 (bif (e.Kind == 1) then
 ((z5 N [e.Session, e.Request] r1.1 r1.2.1 r1.2.2).bind fun r2 =>
 ((z2t N e.Op r2.1 r2.2.1 r2.2.2).bind fun r3 =>
 (some (r3.1, r3.2.1, r3.2.2))))
 else
 (bif (e.Kind == 2) then
 ((zb N [e.Origin] r1.1 r1.2.1 r1.2.2).bind fun r4 =>
 ((z5 N [e.Seq] r4.1 r4.2.1 r4.2.2).bind fun r5 =>
 ((z27 N e.Ops r5.1 r5.2.1 r5.2.2).bind fun r6 =>
 (some (r6.1, r6.2.1, r6.2.2)))))
 else
 (bif (e.Kind == 3) then
 ((z1p N e.Epoch r1.1 r1.2.1 r1.2.2).bind fun r7 =>
 (some (r7.1, r7.2.1, r7.2.2)))
 else
 (bif (e.Kind == 4) then
 ((z5 N [e.Seq] r1.1 r1.2.1 r1.2.2).bind fun r8 =>
 ((zb N [e.From] r8.1 r8.2.1 r8.2.2).bind fun r9 =>
 ((z5 N (e.Vector_.toList) r9.1 r9.2.1 r9.2.2).bind fun r10 =>
 ((z5 N [e.Clock] r10.1 r10.2.1 r10.2.2).bind fun r11 =>
 (some (r11.1, r11.2.1, r11.2.2))))))
 else
 (bif (e.Kind == 5) then
 ((z19 N e.Part r1.1 r1.2.1 r1.2.2).bind fun r12 =>
 (some (r12.1, r12.2.1, r12.2.2)))
 else
 (bif (e.Kind == 6) then
 ((zb N [e.Site, e.Sponsor] r1.1 r1.2.1 r1.2.2).bind fun r13 =>
 (some (r13.1, r13.2.1, r13.2.2)))
 else
 (bif (e.Kind == 7) then
 ((zb N [e.Site] r1.1 r1.2.1 r1.2.2).bind fun r14 =>
 (some (r14.1, r14.2.1, r14.2.2)))
 else
 (bif (e.Kind == 8) then
 ((zb N [e.Site] r1.1 r1.2.1 r1.2.2).bind fun r15 =>
 ((z5 N [e.Length] r15.1 r15.2.1 r15.2.2).bind fun r16 =>
 (some (r16.1, r16.2.1, r16.2.2))))
 else
 (some (r1.1, r1.2.1, r1.2.2)))))))))))
def z2g : Con τ := { args := [.ptr 0 [], .ty 64], L := [.box (.agg [.ptr 1 [], .ty 35]), .box (.agg [.ty 4, .own 5 2]), .tail], ret := .tup [], L' := [.box (.agg [.ptr 1 [], .ty 35]), .box (.agg [.ty 4, .own 5 3]), .dead, .tail], R := Int × Bool × (List (Int)), dflt := (default, default, default), F := fun N a b => z1b N a.2.1 b.1.2.1 b.2.1.1 b.2.1.2.1, of := fun r => ((), (((), r.1, ()), (r.2.1, r.2.2, ()), (), (), ())) }
noncomputable def zgf : Dat τ := { D := D0, tbl := tblOf [(93, zv), (92, z18), (40, z4p), (111, z40), (46, z3f), (112, z3n)], lp := lpsOf [], k0 := 3, mu := [], un := [] }
theorem z6w : ConOk E C 65 z2g :=
  zf (D := zgf) ⟨d0Ok, eGood, za ⟨z17, ⟨z1o, ⟨zc8, ⟨zbi, ⟨z9l, ⟨zaj, trivial⟩⟩⟩⟩⟩⟩, fun _ => rfl⟩ z2g (fun a b => (b.1.2.1, b.2.1.1, b.2.1.2.1)) none (fun _ _ => rfl) rfl (fun _ _ h => nomatch h) 1000000 (fn := Tryz.f65) Tryz.func65 rfl (by kernel_rfl) (by kernel_rfl) rfl (by intro N a b; kernel_rfl)
def z84 (N : Nat) (s : List (Int)) : Option ((List (Int))) :=
 (bif (lenB (0 + (s).length) 1) then
 (some ([] ++ s))
 else none)
def zak : Con τ := { args := [.nn 5], L := [], ret := .ty 31, L' := [], R := (List (Int)), dflt := default, F := fun N a b => z84 N a.1, of := fun r => (r, ()) }
noncomputable def zj7 : Dat τ := { D := D0, tbl := tblOf [], lp := lpsOf [], k0 := 0, mu := [], un := [] }
theorem zke : ConOk E C 49 zak :=
  zf (D := zj7) ⟨d0Ok, eGood, za trivial, fun _ => rfl⟩ zak (fun a b => a) none (fun _ _ => rfl) rfl (fun _ _ h => nomatch h) 1000000 (fn := Tryz.f49) Tryz.func49 rfl (by kernel_rfl) (by kernel_rfl) rfl (by intro N a b; kernel_rfl)
def zle (N : Nat)  : Option ((List (Int))) :=
 (some [])
def z76 : Con τ := { args := [.nil .slice], L := [], ret := .ty 31, L' := [], R := (List (Int)), dflt := default, F := fun N a b => zle N , of := fun r => (r, ()) }
noncomputable def zj8 : Dat τ := { D := D0, tbl := tblOf [], lp := lpsOf [], k0 := 0, mu := [], un := [] }
theorem zkf : ConOk E C 49 z76 :=
  zf (D := zj8) ⟨d0Ok, eGood, za trivial, fun _ => rfl⟩ z76 (fun a b => a) none (fun _ _ => rfl) rfl (fun _ _ h => nomatch h) 1000000 (fn := Tryz.f49) Tryz.func49 rfl (by kernel_rfl) (by kernel_rfl) rfl (by intro N a b; kernel_rfl)
def z41 (N : Nat) (s : List (Int)) : Option ((List (Int))) := z84 N s
def z4b : Con τ := { args := [.ty 31], L := [], ret := .ty 31, L' := [], R := (List (Int)), dflt := default, F := fun N a b => z41 N a.1, of := fun r => (r, ()) }
theorem za3 : ConOk E C 49 z4b := by
  intro N a b r h
  obtain ⟨x0, u⟩ := a
  refine FnSpec.split (pre := []) (post := []) (fun h0 => ?_) (zke N (x0, u) b r h)
  have h0 : x0 = [] := List.map_eq_nil_iff.1 h0
  subst h0
  exact zkf N ((), u) b r ((show z76.F N ((), u) b = z4b.F N ([], u) b from by kernel_rfl).trans h)
def z4c (N : Nat) (b0 : Bool) (b02 : List (Int)) : Option ((List (Int)) × Bool × (List (Int))) :=
 ((z3p N b0 b02).bind fun r1 =>
 (bif r1.1 then
 (some ([], r1.2.1, r1.2.2))
 else
 ((z41 N r1.2.2).bind fun r2 =>
 (some (r2, r1.2.1, r1.2.2)))))
def z5o : Con τ := { args := [.ptr 0 []], L := [.box (.agg [.ty 4, .own 5 1]), .tail], ret := .ty 31, L' := [.box (.agg [.ty 4, .own 5 1]), .tail], R := (List (Int)) × Bool × (List (Int)), dflt := (default, default, default), F := fun N a b => z4c N b.1.1 b.1.2.1, of := fun r => (r.1, ((r.2.1, r.2.2, ()), (), ())) }
noncomputable def zlf : Dat τ := { D := D0, tbl := tblOf [(48, z4o), (49, z4b)], lp := lpsOf [], k0 := 2, mu := [], un := [] }
theorem zdf : ConOk E C 16 z5o :=
  zf (D := zlf) ⟨d0Ok, eGood, za ⟨zc7, ⟨za3, trivial⟩⟩, fun _ => rfl⟩ z5o (fun a b => (a, b.1.1, b.1.2.1)) none (fun _ _ => rfl) rfl (fun _ _ h => nomatch h) 1000000 (fn := Tryz.f16) Tryz.func16 rfl (by kernel_rfl) (by kernel_rfl) rfl (by intro N a b; kernel_rfl)
def z4q (N : Nat) (e : z6) : Option ((List (Int)) × Int) :=
 ((zu N e).bind fun r1 =>
 (bif (!(r1 == 0)) then
 (some ([], r1))
 else
 ((z8g N).bind fun r2 =>
 ((z1b N e 0 r2.1 r2.2).bind fun r3 =>
 (bif (!(r3.1 == 0)) then
 (some ([], r3.1))
 else
 ((z4c N r3.2.1 r3.2.2).bind fun r4 =>
 (some (r4.1, 0))))))))
def zbj : Con τ := { args := [.ty 64], L := [], ret := .tup [.ty 31, .ty 35], L' := [], R := (List (Int)) × Int, dflt := (default, default), F := fun N a b => z4q N a.1, of := fun r => ((r.1, r.2, ()), ()) }
noncomputable def zuw : Dat τ := { D := D0, tbl := tblOf [(64, z39), (7, z8t), (65, z2g), (16, z5o)], lp := lpsOf [], k0 := 0, mu := [], un := [] }
theorem znc : ConOk E C 26 zbj :=
  zf (D := zuw) ⟨d0Ok, eGood, za ⟨z7m, ⟨zl1, ⟨z6w, ⟨zdf, trivial⟩⟩⟩⟩, fun _ => rfl⟩ zbj (fun a b => (a.1, a.2.1)) none (fun _ _ => rfl) rfl (fun _ _ h => nomatch h) 1000000 (fn := Tryz.f26) Tryz.func26 rfl (by kernel_rfl) (by kernel_rfl) rfl (by intro N a b; kernel_rfl)
def zo7 (N : Nat) (e : z6) : Option (z6 × Bool) :=
 (bif (e.Kind == 0) then
 (some ((⟨e.Kind, 0, 0, (⟨(⟨0, 0⟩ : zi), 0, 0, 0, [], [], []⟩ : GOp), 0, 0, [], (⟨0, (Vector.replicate 8 (default : Int)), (Vector.replicate 8 (default : Int)), (Vector.replicate 8 (default : Int))⟩ : z7), 0, (Vector.replicate 8 (default : Int)), 0, (⟨0, 0, 0, []⟩ : GPart), 0, 0, 0⟩ : z6), true))
 else
 (bif (e.Kind == 1) then
 (some ((⟨e.Kind, e.Session, e.Request, e.Op, 0, 0, [], (⟨0, (Vector.replicate 8 (default : Int)), (Vector.replicate 8 (default : Int)), (Vector.replicate 8 (default : Int))⟩ : z7), 0, (Vector.replicate 8 (default : Int)), 0, (⟨0, 0, 0, []⟩ : GPart), 0, 0, 0⟩ : z6), true))
 else
 (bif (e.Kind == 2) then
 (some ((⟨e.Kind, 0, 0, (⟨(⟨0, 0⟩ : zi), 0, 0, 0, [], [], []⟩ : GOp), e.Origin, e.Seq, e.Ops, (⟨0, (Vector.replicate 8 (default : Int)), (Vector.replicate 8 (default : Int)), (Vector.replicate 8 (default : Int))⟩ : z7), 0, (Vector.replicate 8 (default : Int)), 0, (⟨0, 0, 0, []⟩ : GPart), 0, 0, 0⟩ : z6), true))
 else
 (bif (e.Kind == 3) then
 (some ((⟨e.Kind, 0, 0, (⟨(⟨0, 0⟩ : zi), 0, 0, 0, [], [], []⟩ : GOp), 0, 0, [], e.Epoch, 0, (Vector.replicate 8 (default : Int)), 0, (⟨0, 0, 0, []⟩ : GPart), 0, 0, 0⟩ : z6), true))
 else
 (bif (e.Kind == 4) then
 (some ((⟨e.Kind, 0, 0, (⟨(⟨0, 0⟩ : zi), 0, 0, 0, [], [], []⟩ : GOp), 0, e.Seq, [], (⟨0, (Vector.replicate 8 (default : Int)), (Vector.replicate 8 (default : Int)), (Vector.replicate 8 (default : Int))⟩ : z7), e.From, e.Vector_, e.Clock, (⟨0, 0, 0, []⟩ : GPart), 0, 0, 0⟩ : z6), true))
 else
 (bif (e.Kind == 5) then
 (some ((⟨e.Kind, 0, 0, (⟨(⟨0, 0⟩ : zi), 0, 0, 0, [], [], []⟩ : GOp), 0, 0, [], (⟨0, (Vector.replicate 8 (default : Int)), (Vector.replicate 8 (default : Int)), (Vector.replicate 8 (default : Int))⟩ : z7), 0, (Vector.replicate 8 (default : Int)), 0, e.Part, 0, 0, 0⟩ : z6), true))
 else
 (bif (e.Kind == 6) then
 (some ((⟨e.Kind, 0, 0, (⟨(⟨0, 0⟩ : zi), 0, 0, 0, [], [], []⟩ : GOp), 0, 0, [], (⟨0, (Vector.replicate 8 (default : Int)), (Vector.replicate 8 (default : Int)), (Vector.replicate 8 (default : Int))⟩ : z7), 0, (Vector.replicate 8 (default : Int)), 0, (⟨0, 0, 0, []⟩ : GPart), e.Site, e.Sponsor, 0⟩ : z6), true))
 else
 (bif (e.Kind == 7) then
 (some ((⟨e.Kind, 0, 0, (⟨(⟨0, 0⟩ : zi), 0, 0, 0, [], [], []⟩ : GOp), 0, 0, [], (⟨0, (Vector.replicate 8 (default : Int)), (Vector.replicate 8 (default : Int)), (Vector.replicate 8 (default : Int))⟩ : z7), 0, (Vector.replicate 8 (default : Int)), 0, (⟨0, 0, 0, []⟩ : GPart), e.Site, 0, 0⟩ : z6), true))
 else
 (bif (e.Kind == 8) then
 (some ((⟨e.Kind, 0, 0, (⟨(⟨0, 0⟩ : zi), 0, 0, 0, [], [], []⟩ : GOp), 0, 0, [], (⟨0, (Vector.replicate 8 (default : Int)), (Vector.replicate 8 (default : Int)), (Vector.replicate 8 (default : Int))⟩ : z7), 0, (Vector.replicate 8 (default : Int)), 0, (⟨0, 0, 0, []⟩ : GPart), e.Site, 0, e.Length⟩ : z6), true))
 else
 (some ((⟨e.Kind, 0, 0, (⟨(⟨0, 0⟩ : zi), 0, 0, 0, [], [], []⟩ : GOp), 0, 0, [], (⟨0, (Vector.replicate 8 (default : Int)), (Vector.replicate 8 (default : Int)), (Vector.replicate 8 (default : Int))⟩ : z7), 0, (Vector.replicate 8 (default : Int)), 0, (⟨0, 0, 0, []⟩ : GPart), 0, 0, 0⟩ : z6), false)))))))))))
def zkg : Con τ := { args := [.ty 64], L := [], ret := .tup [.ty 64, .ty 4], L' := [], R := z6 × Bool, dflt := (default, default), F := fun N a b => zo7 N a.1, of := fun r => ((r.1, r.2, ()), ()) }
noncomputable def zyl : Dat τ := { D := D0, tbl := tblOf [], lp := lpsOf [], k0 := 0, mu := [], un := [] }
theorem z109 : ConOk E C 77 zkg :=
  zf (D := zyl) ⟨d0Ok, eGood, za trivial, fun _ => rfl⟩ zkg (fun a b => (a.1, a.2.1)) none (fun _ _ => rfl) rfl (fun _ _ h => nomatch h) 1000000 (fn := Tryz.f77) Tryz.func77 rfl (by kernel_rfl) (by kernel_rfl) rfl (by intro N a b; kernel_rfl)
structure z61 where
  i : Int
def zck : List Sl := [.k, .k, .k, .k, .j, .sh (.ty 2), .k, .k, .k, .k, .k, .j, .j, .j, .j, .j, .j, .j, .j, .j, .j, .j, .j, .j, .j, .j]
def zcl : List ESh := []
def zr5 (a : Sl.Ts τ zck) (b : ESh.Ts τ zcl) : z61 := ⟨a.2.2.2.2.2.1⟩
def zr6 (s : z61) : Sl.Ts τ zck := ((), (), (), (), (), s.i, (), (), (), (), (), (), (), (), (), (), (), (), (), (), (), (), (), (), (), (), ())
def zr7 (s : z61) : ESh.Ts τ zcl := ()
def zr8 : Lp τ := { ts := zck, hs := zcl, S := z61, to := zr5, ot := zr6, oh := zr7, hk := [], tk := [], ot_to := fun _ _ => rfl, oh_to := fun _ _ => rfl }
def z9m (N : Nat) (a : List (GOp)) (b : List (GOp)) : Option (Bool) :=
 (bif (!(((a).length : Int) == ((b).length : Int))) then
 (some false)
 else
 (iter N (fun (s1 : z61) next2 =>
 (bif (decide (s1.i < ((a).length : Int))) then
 (bif (ibB s1.i ((a).length : Int)) then
 (bif (ibB s1.i ((b).length : Int)) then
 (bif (!((((((lget a s1.i default).Stamp).Time) == (((lget b s1.i default).Stamp).Time)) && ((((lget a s1.i default).Stamp).Site) == (((lget b s1.i default).Stamp).Site))) && ((((lget a s1.i default).Kind) == ((lget b s1.i default).Kind)) && ((((lget a s1.i default).Node) == ((lget b s1.i default).Node)) && ((((lget a s1.i default).Parent) == ((lget b s1.i default).Parent)) && ((((lget a s1.i default).Name) == ((lget b s1.i default).Name)) && ((((lget a s1.i default).Key) == ((lget b s1.i default).Key)) && (((lget a s1.i default).Value) == ((lget b s1.i default).Value))))))))) then
 (some false)
 else
 (next2 ⟨(IntKind.i64.wrap (s1.i + 1))⟩))
 else none)
 else none)
 else
 (some true))) ⟨0⟩))
def z9r : Con τ := { args := [.ty 60, .ty 60], L := [], ret := .ty 4, L' := [], R := Bool, dflt := default, F := fun N a b => z9m N a.1 a.2.1, of := fun r => (r, ()) }
noncomputable def zt7 : Dat τ := { D := D0, tbl := tblOf [], lp := lpsOf [(4, zr8)], k0 := 0, mu := [], un := [] }
theorem zm3 : ConOk E C 75 z9r :=
  zf (D := zt7) ⟨d0Ok, eGood, za trivial, fun _ => rfl⟩ z9r (fun a b => a) none (fun _ _ => rfl) rfl (fun _ _ h => nomatch h) 1000000 (fn := Tryz.f75) Tryz.func75 rfl (by kernel_rfl) (by kernel_rfl) rfl (by intro N a b; kernel_rfl)
def z8h (N : Nat) (a : GPart) (b : GPart) : Option (Bool) :=
 (some ((((a.Snap == b.Snap) && (a.Index == b.Index)) && (a.Many == b.Many)) && ((strI a.Data) == (strI b.Data))))
def z8u : Con τ := { args := [.ty 62, .ty 62], L := [], ret := .ty 4, L' := [], R := Bool, dflt := default, F := fun N a b => z8h N a.1 a.2.1, of := fun r => (r, ()) }
noncomputable def zr9 : Dat τ := { D := D0, tbl := tblOf [], lp := lpsOf [], k0 := 0, mu := [], un := [] }
theorem zl2 : ConOk E C 76 z8u :=
  zf (D := zr9) ⟨d0Ok, eGood, za trivial, fun _ => rfl⟩ z8u (fun a b => a) none (fun _ _ => rfl) rfl (fun _ _ h => nomatch h) 1000000 (fn := Tryz.f76) Tryz.func76 rfl (by kernel_rfl) (by kernel_rfl) rfl (by intro N a b; kernel_rfl)
def z16 (N : Nat) (a : z6) (b : z6) : Option (Bool) :=
 ((bif ((((((a.Kind == b.Kind) && (a.Session == b.Session)) && (a.Request == b.Request)) && (((a.Op.Stamp.Time == b.Op.Stamp.Time) && (a.Op.Stamp.Site == b.Op.Stamp.Site)) && ((a.Op.Kind == b.Op.Kind) && ((a.Op.Node == b.Op.Node) && ((a.Op.Parent == b.Op.Parent) && ((a.Op.Name == b.Op.Name) && ((a.Op.Key == b.Op.Key) && (a.Op.Value == b.Op.Value)))))))) && (a.Origin == b.Origin)) && (a.Seq == b.Seq)) then z9m N a.Ops b.Ops else some default).bind fun r1 =>
 ((bif (((((((((((a.Kind == b.Kind) && (a.Session == b.Session)) && (a.Request == b.Request)) && (((a.Op.Stamp.Time == b.Op.Stamp.Time) && (a.Op.Stamp.Site == b.Op.Stamp.Site)) && ((a.Op.Kind == b.Op.Kind) && ((a.Op.Node == b.Op.Node) && ((a.Op.Parent == b.Op.Parent) && ((a.Op.Name == b.Op.Name) && ((a.Op.Key == b.Op.Key) && (a.Op.Value == b.Op.Value)))))))) && (a.Origin == b.Origin)) && (a.Seq == b.Seq)) && r1) && ((a.Epoch.Number == b.Epoch.Number) && ((vbeq beq3 a.Epoch.States b.Epoch.States) && ((vbeq beq2 a.Epoch.Seals b.Epoch.Seals) && (vbeq beq3 a.Epoch.Sponsor b.Epoch.Sponsor))))) && (a.From == b.From)) && (vbeq beq2 a.Vector_ b.Vector_)) && (a.Clock == b.Clock)) then z8h N a.Part b.Part else some default).bind fun r2 =>
 (some (((((((((((((((a.Kind == b.Kind) && (a.Session == b.Session)) && (a.Request == b.Request)) && (((a.Op.Stamp.Time == b.Op.Stamp.Time) && (a.Op.Stamp.Site == b.Op.Stamp.Site)) && ((a.Op.Kind == b.Op.Kind) && ((a.Op.Node == b.Op.Node) && ((a.Op.Parent == b.Op.Parent) && ((a.Op.Name == b.Op.Name) && ((a.Op.Key == b.Op.Key) && (a.Op.Value == b.Op.Value)))))))) && (a.Origin == b.Origin)) && (a.Seq == b.Seq)) && r1) && ((a.Epoch.Number == b.Epoch.Number) && ((vbeq beq3 a.Epoch.States b.Epoch.States) && ((vbeq beq2 a.Epoch.Seals b.Epoch.Seals) && (vbeq beq3 a.Epoch.Sponsor b.Epoch.Sponsor))))) && (a.From == b.From)) && (vbeq beq2 a.Vector_ b.Vector_)) && (a.Clock == b.Clock)) && r2) && (a.Site == b.Site)) && (a.Sponsor == b.Sponsor)) && (a.Length == b.Length)))))
def z68 : Con τ := { args := [.ty 64, .ty 64], L := [], ret := .ty 4, L' := [], R := Bool, dflt := default, F := fun N a b => z16 N a.1 a.2.1, of := fun r => (r, ()) }
noncomputable def zpv : Dat τ := { D := D0, tbl := tblOf [(75, z9r), (76, z8u)], lp := lpsOf [], k0 := 0, mu := [], un := [] }
theorem zcm : ConOk E C 31 z68 :=
  zf (D := zpv) ⟨d0Ok, eGood, za ⟨zm3, ⟨zl2, trivial⟩⟩, fun _ => rfl⟩ z68 (fun a b => a) none (fun _ _ => rfl) rfl (fun _ _ h => nomatch h) 1000000 (fn := Tryz.f31) Tryz.func31 rfl (by kernel_rfl) (by kernel_rfl) rfl (by intro N a b; kernel_rfl)
def zk (N : Nat) (n : Int) : Option (Bool) :=
 (some ((decide (0 ≤ n)) && (decide (n ≤ 1099511627776))))
def z2z : Con τ := { args := [.ty 2], L := [], ret := .ty 4, L' := [], R := Bool, dflt := default, F := fun N a b => zk N a.1, of := fun r => (r, ()) }
noncomputable def zwl : Dat τ := { D := D0, tbl := tblOf [], lp := lpsOf [], k0 := 0, mu := [], un := [] }
theorem z69 : ConOk E C 61 z2z :=
  zf (D := zwl) ⟨d0Ok, eGood, za trivial, fun _ => rfl⟩ z2z (fun a b => a) none (fun _ _ => rfl) rfl (fun _ _ h => nomatch h) 1000000 (fn := Tryz.f61) Tryz.func61 rfl (by kernel_rfl) (by kernel_rfl) rfl (by intro N a b; kernel_rfl)
def z11 (N : Nat) (n : Int) : Option (Bool) :=
 (some ((decide (0 ≤ n)) && (decide (n < 8))))
def zbk : Con τ := { args := [.ty 3], L := [], ret := .ty 4, L' := [], R := Bool, dflt := default, F := fun N a b => z11 N a.1, of := fun r => (r, ()) }
noncomputable def zym : Dat τ := { D := D0, tbl := tblOf [], lp := lpsOf [], k0 := 0, mu := [], un := [] }
theorem zm4 : ConOk E C 78 zbk :=
  zf (D := zym) ⟨d0Ok, eGood, za trivial, fun _ => rfl⟩ zbk (fun a b => a) none (fun _ _ => rfl) rfl (fun _ _ h => nomatch h) 1000000 (fn := Tryz.f78) Tryz.func78 rfl (by kernel_rfl) (by kernel_rfl) rfl (by intro N a b; kernel_rfl)
def zfk (N : Nat) (s : zi) : Option (Bool) :=
 ((zk N s.Time).bind fun r1 =>
 ((bif r1 then z11 N s.Site else some default).bind fun r2 =>
 (some (r1 && r2))))
def zcn : Con τ := { args := [.ty 23], L := [], ret := .ty 4, L' := [], R := Bool, dflt := default, F := fun N a b => zfk N a.1, of := fun r => (r, ()) }
noncomputable def zra : Dat τ := { D := D0, tbl := tblOf [(61, z2z), (78, zbk)], lp := lpsOf [], k0 := 0, mu := [], un := [] }
theorem zt8 : ConOk E C 56 zcn :=
  zf (D := zra) ⟨d0Ok, eGood, za ⟨z69, ⟨zm4, trivial⟩⟩, fun _ => rfl⟩ zcn (fun a b => a) none (fun _ _ => rfl) rfl (fun _ _ h => nomatch h) 1000000 (fn := Tryz.f56) Tryz.func56 rfl (by kernel_rfl) (by kernel_rfl) rfl (by intro N a b; kernel_rfl)
def zkh (N : Nat) (n : Int) : Option (Bool) :=
 (some ((decide (0 ≤ n)) && (decide (n ≤ 1125899906842624))))
def zki : Con τ := { args := [.ty 2], L := [], ret := .ty 4, L' := [], R := Bool, dflt := default, F := fun N a b => zkh N a.1, of := fun r => (r, ()) }
noncomputable def zyn : Dat τ := { D := D0, tbl := tblOf [], lp := lpsOf [], k0 := 0, mu := [], un := [] }
theorem z10a : ConOk E C 57 zki :=
  zf (D := zyn) ⟨d0Ok, eGood, za trivial, fun _ => rfl⟩ zki (fun a b => a) none (fun _ _ => rfl) rfl (fun _ _ h => nomatch h) 1000000 (fn := Tryz.f57) Tryz.func57 rfl (by kernel_rfl) (by kernel_rfl) rfl (by intro N a b; kernel_rfl)
def z8i (N : Nat) (op : GOp) : Option (Bool) :=
 ((zfk N op.Stamp).bind fun r1 =>
 ((bif ((r1 && (decide (1 ≤ op.Kind))) && (decide (op.Kind ≤ 3))) then zkh N op.Node else some default).bind fun r2 =>
 ((bif (((r1 && (decide (1 ≤ op.Kind))) && (decide (op.Kind ≤ 3))) && r2) then zkh N op.Parent else some default).bind fun r3 =>
 (some (((((((r1 && (decide (1 ≤ op.Kind))) && (decide (op.Kind ≤ 3))) && r2) && r3) && (decide (((op.Name).length : Int) ≤ 255))) && (decide (((op.Key).length : Int) ≤ 255))) && (decide (((op.Value).length : Int) ≤ 255)))))))
def zd8 : Con τ := { args := [.ty 25], L := [], ret := .ty 4, L' := [], R := Bool, dflt := default, F := fun N a b => z8i N a.1, of := fun r => (r, ()) }
noncomputable def zwm : Dat τ := { D := D0, tbl := tblOf [(56, zcn), (57, zki)], lp := lpsOf [], k0 := 0, mu := [], un := [] }
theorem zpw : ConOk E C 21 zd8 :=
  zf (D := zwm) ⟨d0Ok, eGood, za ⟨zt8, ⟨z10a, trivial⟩⟩, fun _ => rfl⟩ zd8 (fun a b => a) none (fun _ _ => rfl) rfl (fun _ _ h => nomatch h) 1000000 (fn := Tryz.f21) Tryz.func21 rfl (by kernel_rfl) (by kernel_rfl) rfl (by intro N a b; kernel_rfl)
structure zal where
  i : Int
def zkj : List Sl := [.k, .k, .j, .sh (.ty 2), .j, .j, .j, .j, .j, .j, .j, .j, .j, .j, .j, .j, .k, .k, .k, .k, .k, .k, .k, .k]
def zkk : List ESh := []
def zyo (a : Sl.Ts τ zkj) (b : ESh.Ts τ zkk) : zal := ⟨a.2.2.2.1⟩
def zyp (s : zal) : Sl.Ts τ zkj := ((), (), (), s.i, (), (), (), (), (), (), (), (), (), (), (), (), (), (), (), (), (), (), (), (), ())
def zyq (s : zal) : ESh.Ts τ zkk := ()
def zyr : Lp τ := { ts := zkj, hs := zkk, S := zal, to := zyo, ot := zyp, oh := zyq, hk := [], tk := [], ot_to := fun _ _ => rfl, oh_to := fun _ _ => rfl }
def zco (N : Nat) (l : List (GOp)) : Option (Bool) :=
 (iter N (fun (s1 : zal) next2 =>
 (bif (decide (s1.i < ((l).length : Int))) then
 (bif (ibB s1.i ((l).length : Int)) then
 ((z8i N (⟨((lget l s1.i default).Stamp), (lget l s1.i default).Kind, (lget l s1.i default).Node, (lget l s1.i default).Parent, (lget l s1.i default).Name, (lget l s1.i default).Key, (lget l s1.i default).Value⟩ : GOp)).bind fun r3 =>
 (bif (!r3) then
 (some false)
 else
 (next2 ⟨(IntKind.i64.wrap (s1.i + 1))⟩)))
 else none)
 else
 (some ((decide (0 < ((l).length : Int))) && (decide (((l).length : Int) ≤ 4096)))))) ⟨0⟩)
def zgr : Con τ := { args := [.ty 60], L := [], ret := .ty 4, L' := [], R := Bool, dflt := default, F := fun N a b => zco N a.1, of := fun r => (r, ()) }
noncomputable def z10b : Dat τ := { D := D0, tbl := tblOf [(21, zd8)], lp := lpsOf [(2, zyr)], k0 := 0, mu := [], un := [] }
theorem zux : ConOk E C 79 zgr :=
  zf (D := z10b) ⟨d0Ok, eGood, za ⟨zpw, trivial⟩, fun _ => rfl⟩ zgr (fun a b => a) none (fun _ _ => rfl) rfl (fun _ _ h => nomatch h) 1000000 (fn := Tryz.f79) Tryz.func79 rfl (by kernel_rfl) (by kernel_rfl) rfl (by intro N a b; kernel_rfl)
structure z42 where
  i : Int
def za4 : List Sl := [.k, .k, .j, .sh (.ty 2), .j, .j, .j, .j, .j, .j, .j, .j, .j]
def za5 : List ESh := [.keep]
def zo8 (a : Sl.Ts τ za4) (b : ESh.Ts τ za5) : z42 := ⟨a.2.2.2.1⟩
def zo9 (s : z42) : Sl.Ts τ za4 := ((), (), (), s.i, (), (), (), (), (), (), (), (), (), ())
def zoa (s : z42) : ESh.Ts τ za5 := ((), ())
def zob : Lp τ := { ts := za4, hs := za5, S := z42, to := zo8, ot := zo9, oh := zoa, hk := [2], tk := [0, 2], ot_to := fun _ _ => rfl, oh_to := fun _ _ => rfl }
def z3a (N : Nat) (v : Vector (Int) 8) : Option (Bool) :=
 (iter N (fun (s1 : z42) next2 =>
 (bif (decide (s1.i < 8)) then
 (bif (ibB s1.i 8) then
 ((zk N (vget v ((s1.i).toNat) default)).bind fun r3 =>
 (bif (!r3) then
 (some false)
 else
 (next2 ⟨(IntKind.i64.wrap (s1.i + 1))⟩)))
 else none)
 else
 (some true))) ⟨0⟩)
def z6a : Con τ := { args := [.ty 28], L := [], ret := .ty 4, L' := [], R := Bool, dflt := default, F := fun N a b => z3a N a.1, of := fun r => (r, ()) }
noncomputable def zpx : Dat τ := { D := D0, tbl := tblOf [(61, z2z)], lp := lpsOf [(2, zob)], k0 := 0, mu := [], un := [] }
theorem zcp : ConOk E C 62 z6a :=
  zf (D := zpx) ⟨d0Ok, eGood, za ⟨z69, trivial⟩, fun _ => rfl⟩ z6a (fun a b => a) none (fun _ _ => rfl) rfl (fun _ _ h => nomatch h) 1000000 (fn := Tryz.f62) Tryz.func62 rfl (by kernel_rfl) (by kernel_rfl) rfl (by intro N a b; kernel_rfl)
structure z4w where
  i : Int
def zbl : List Sl := [.k, .k, .j, .sh (.ty 2), .j, .j, .j, .j, .j, .j, .j, .j, .j, .j, .j, .j, .j, .j, .j, .j, .j, .j, .j, .j, .j, .j, .j, .j, .j, .j, .j, .j, .j, .j, .k, .k, .k, .k, .k, .k, .k, .k]
def zbm : List ESh := [.keep]
def zpy (a : Sl.Ts τ zbl) (b : ESh.Ts τ zbm) : z4w := ⟨a.2.2.2.1⟩
def zpz (s : z4w) : Sl.Ts τ zbl := ((), (), (), s.i, (), (), (), (), (), (), (), (), (), (), (), (), (), (), (), (), (), (), (), (), (), (), (), (), (), (), (), (), (), (), (), (), (), (), (), (), (), (), ())
def zq0 (s : z4w) : ESh.Ts τ zbm := ((), ())
def zq1 : Lp τ := { ts := zbl, hs := zbm, S := z4w, to := zpy, ot := zpz, oh := zq0, hk := [2], tk := [0, 2], ot_to := fun _ _ => rfl, oh_to := fun _ _ => rfl }
def z5i (N : Nat) (e : z7) : Option (Bool) :=
 (iter N (fun (s1 : z4w) next2 =>
 (bif (decide (s1.i < 8)) then
 (bif (ibB s1.i 8) then
 (bif (!(!(decide ((vget e.States ((s1.i).toNat) default) < 0))) || (ibB s1.i 8)) then
 (bif (!(!((decide ((vget e.States ((s1.i).toNat) default) < 0)) || (decide (3 < (vget e.States ((s1.i).toNat) default))))) || (ibB s1.i 8)) then
 (bif (!(!(((decide ((vget e.States ((s1.i).toNat) default) < 0)) || (decide (3 < (vget e.States ((s1.i).toNat) default)))) || (decide ((vget e.Sponsor ((s1.i).toNat) default) < (-1))))) || (ibB s1.i 8)) then
 (bif ((((decide ((vget e.States ((s1.i).toNat) default) < 0)) || (decide (3 < (vget e.States ((s1.i).toNat) default)))) || (decide ((vget e.Sponsor ((s1.i).toNat) default) < (-1)))) || (decide (8 ≤ (vget e.Sponsor ((s1.i).toNat) default)))) then
 (some false)
 else
 (next2 ⟨(IntKind.i64.wrap (s1.i + 1))⟩))
 else none)
 else none)
 else none)
 else none)
 else
 ((zk N e.Number).bind fun r3 =>
 ((bif r3 then z3a N e.Seals else some default).bind fun r4 =>
 (some (r3 && r4)))))) ⟨0⟩)
def z8v : Con τ := { args := [.ty 30], L := [], ret := .ty 4, L' := [], R := Bool, dflt := default, F := fun N a b => z5i N a.1, of := fun r => (r, ()) }
noncomputable def zrb : Dat τ := { D := D0, tbl := tblOf [(61, z2z), (62, z6a)], lp := lpsOf [(2, zq1)], k0 := 0, mu := [], un := [] }
theorem zl3 : ConOk E C 24 z8v :=
  zf (D := zrb) ⟨d0Ok, eGood, za ⟨z69, ⟨zcp, trivial⟩⟩, fun _ => rfl⟩ z8v (fun a b => a) none (fun _ _ => rfl) rfl (fun _ _ h => nomatch h) 1000000 (fn := Tryz.f24) Tryz.func24 rfl (by kernel_rfl) (by kernel_rfl) rfl (by intro N a b; kernel_rfl)
def z4t (N : Nat) (p : GPart) : Option (Bool) :=
 ((zk N p.Snap).bind fun r1 =>
 (some (((((r1 && (decide (1 ≤ p.Many))) && (decide (p.Many ≤ 4096))) && (decide (0 ≤ p.Index))) && (decide (p.Index < p.Many))) && (decide (((p.Data).length : Int) ≤ 16384)))))
def z9s : Con τ := { args := [.ty 62], L := [], ret := .ty 4, L' := [], R := Bool, dflt := default, F := fun N a b => z4t N a.1, of := fun r => (r, ()) }
noncomputable def zt9 : Dat τ := { D := D0, tbl := tblOf [(61, z2z)], lp := lpsOf [], k0 := 0, mu := [], un := [] }
theorem zm5 : ConOk E C 80 z9s :=
  zf (D := zt9) ⟨d0Ok, eGood, za ⟨z69, trivial⟩, fun _ => rfl⟩ z9s (fun a b => a) none (fun _ _ => rfl) rfl (fun _ _ h => nomatch h) 1000000 (fn := Tryz.f80) Tryz.func80 rfl (by kernel_rfl) (by kernel_rfl) rfl (by intro N a b; kernel_rfl)
def z1a (N : Nat) (e : z6) : Option (Bool) :=
 ((zo7 N e).bind fun r1 =>
 ((bif (!(!r1.2)) then z16 N e r1.1 else some default).bind fun r2 =>
 (bif ((!r1.2) || (!r2)) then
 (some false)
 else
 (bif (e.Kind == 1) then
 ((zk N e.Session).bind fun r3 =>
 ((bif (r3 && (decide (0 < e.Session))) then zk N e.Request else some default).bind fun r4 =>
 ((bif (((r3 && (decide (0 < e.Session))) && r4) && (decide (0 < e.Request))) then z8i N e.Op else some default).bind fun r5 =>
 (some ((((r3 && (decide (0 < e.Session))) && r4) && (decide (0 < e.Request))) && r5)))))
 else
 (bif (e.Kind == 2) then
 ((z11 N e.Origin).bind fun r6 =>
 ((bif r6 then zk N e.Seq else some default).bind fun r7 =>
 ((bif (r6 && r7) then zco N e.Ops else some default).bind fun r8 =>
 (some ((r6 && r7) && r8)))))
 else
 (bif (e.Kind == 3) then
 ((z5i N e.Epoch).bind fun r9 =>
 (some r9))
 else
 (bif (e.Kind == 4) then
 ((zk N e.Seq).bind fun r10 =>
 ((bif r10 then z11 N e.From else some default).bind fun r11 =>
 ((bif (r10 && r11) then z3a N e.Vector_ else some default).bind fun r12 =>
 ((bif ((r10 && r11) && r12) then zk N e.Clock else some default).bind fun r13 =>
 (some (((r10 && r11) && r12) && r13))))))
 else
 (bif (e.Kind == 5) then
 ((z4t N e.Part).bind fun r14 =>
 (some r14))
 else
 ((z11 N e.Site).bind fun r15 =>
 ((bif r15 then z11 N e.Sponsor else some default).bind fun r16 =>
 ((bif (r15 && r16) then zk N e.Length else some default).bind fun r17 =>
 (some ((r15 && r16) && r17)))))))))))))
def z77 : Con τ := { args := [.ty 64], L := [], ret := .ty 4, L' := [], R := Bool, dflt := default, F := fun N a b => z1a N a.1, of := fun r => (r, ()) }
noncomputable def zrc : Dat τ := { D := D0, tbl := tblOf [(77, zkg), (31, z68), (61, z2z), (21, zd8), (78, zbk), (79, zgr), (24, z8v), (62, z6a), (80, z9s)], lp := lpsOf [], k0 := 0, mu := [], un := [] }
theorem zdt : ConOk E C 32 z77 :=
  zf (D := zrc) ⟨d0Ok, eGood, za ⟨z109, ⟨zcm, ⟨z69, ⟨zpw, ⟨zm4, ⟨zux, ⟨zl3, ⟨zcp, ⟨zm5, trivial⟩⟩⟩⟩⟩⟩⟩⟩⟩, fun _ => rfl⟩ z77 (fun a b => a) none (fun _ _ => rfl) rfl (fun _ _ h => nomatch h) 1000000 (fn := Tryz.f32) Tryz.func32 rfl (by kernel_rfl) (by kernel_rfl) rfl (by intro N a b; kernel_rfl)
structure z7e where
  u : Int
  b : List (Int)
def zkl : List Sl := [.k, .k, .k, .sh (.ty 12), .sh (.own 5 0), .k, .k, .k, .k, .k, .k, .k, .k, .k, .k, .k, .j, .j, .j, .j, .j, .j, .j, .j, .j, .j, .j, .k, .k, .k, .k, .k]
def zkm : List ESh := [.tail]
def zys (a : Sl.Ts τ zkl) (b : ESh.Ts τ zkm) : z7e := ⟨a.2.2.2.1, a.2.2.2.2.1⟩
def zyt (s : z7e) : Sl.Ts τ zkl := ((), (), (), s.u, s.b, (), (), (), (), (), (), (), (), (), (), (), (), (), (), (), (), (), (), (), (), (), (), (), (), (), (), (), ())
def zyu (s : z7e) : ESh.Ts τ zkm := ((), ())
def zyv : Lp τ := { ts := zkl, hs := zkm, S := z7e, to := zys, ot := zyt, oh := zyu, hk := [], tk := [], ot_to := fun _ _ => rfl, oh_to := fun _ _ => rfl }
def zcq (N : Nat) (n : Int) : Option ((List (Int))) :=
 (bif (decide (n < 0)) then
 (iter N (fun (s1 : z7e) next2 =>
 (bif (decide (128 ≤ s1.u)) then
 (bif (lenB ((s1.b).length + ([(IntKind.u8.wrap ((IntKind.u8.wrap (Int.tmod s1.u 128)) + 128))]).length) 1) then
 (next2 ⟨(IntKind.u64.wrap (Int.tdiv s1.u 128)), (s1.b ++ [(IntKind.u8.wrap ((IntKind.u8.wrap (Int.tmod s1.u 128)) + 128))])⟩)
 else none)
 else
 (bif (lenB ((s1.b).length + ([(IntKind.u8.wrap s1.u)]).length) 1) then
 (some (s1.b ++ [(IntKind.u8.wrap s1.u)]))
 else none))) ⟨(IntKind.u64.wrap ((IntKind.u64.wrap ((IntKind.u64.wrap (IntKind.i64.wrap (0 - (IntKind.i64.wrap (n + 1))))) * 2)) + 1)), []⟩)
 else
 (iter N (fun (s3 : z7e) next4 =>
 (bif (decide (128 ≤ s3.u)) then
 (bif (lenB ((s3.b).length + ([(IntKind.u8.wrap ((IntKind.u8.wrap (Int.tmod s3.u 128)) + 128))]).length) 1) then
 (next4 ⟨(IntKind.u64.wrap (Int.tdiv s3.u 128)), (s3.b ++ [(IntKind.u8.wrap ((IntKind.u8.wrap (Int.tmod s3.u 128)) + 128))])⟩)
 else none)
 else
 (bif (lenB ((s3.b).length + ([(IntKind.u8.wrap s3.u)]).length) 1) then
 (some (s3.b ++ [(IntKind.u8.wrap s3.u)]))
 else none))) ⟨(IntKind.u64.wrap ((IntKind.u64.wrap n) * 2)), []⟩))
def zdg : Con τ := { args := [.ty 2], L := [], ret := .own 5 0, L' := [.tail], R := (List (Int)), dflt := default, F := fun N a b => zcq N a.1, of := fun r => (r, ((), ())) }
noncomputable def z10c : Dat τ := { D := D0, tbl := tblOf [], lp := lpsOf [(5, zyv)], k0 := 0, mu := [], un := [] }
theorem zoc : ConOk E C 95 zdg :=
  zf (D := z10c) ⟨d0Ok, eGood, za trivial, fun _ => rfl⟩ zdg (fun a b => a) none (fun _ _ => rfl) rfl (fun _ _ h => nomatch h) 1000000 (fn := Tryz.f95) Tryz.func95 rfl (by kernel_rfl) (by kernel_rfl) rfl (by intro N a b; kernel_rfl)
structure z62 where
  b : List (Int)
  i : Int
def zcr : List Sl := [.sh (.own 5 0), .k, .k, .k, .k, .sh (.ty 2), .j, .j, .j, .j, .j, .j, .j, .j, .j, .j, .j, .j, .j, .k]
def zcs : List ESh := [.tail]
def zrd (a : Sl.Ts τ zcr) (b : ESh.Ts τ zcs) : z62 := ⟨a.1, a.2.2.2.2.2.1⟩
def zre (s : z62) : Sl.Ts τ zcr := (s.b, (), (), (), (), s.i, (), (), (), (), (), (), (), (), (), (), (), (), (), (), ())
def zrf (s : z62) : ESh.Ts τ zcs := ((), ())
def zrg : Lp τ := { ts := zcr, hs := zcs, S := z62, to := zrd, ot := zre, oh := zrf, hk := [], tk := [], ot_to := fun _ _ => rfl, oh_to := fun _ _ => rfl }
def z1r (N : Nat) (l : List (Int)) : Option ((List (Int))) :=
 (iter N (fun (s1 : z62) next2 =>
 (bif (decide (s1.i < ((l).length : Int))) then
 (bif (ibB s1.i ((l).length : Int)) then
 ((zcq N (lget l s1.i default)).bind fun r3 =>
 (bif (lenB ((s1.b).length + (r3).length) 1) then
 (next2 ⟨(s1.b ++ r3), (IntKind.i64.wrap (s1.i + 1))⟩)
 else none))
 else none)
 else
 (some s1.b))) ⟨[], 0⟩)
def z2n : Con τ := { args := [.nil .slice, .ty 143], L := [], ret := .own 5 0, L' := [.tail], R := (List (Int)), dflt := default, F := fun N a b => z1r N a.2.1, of := fun r => (r, ((), ())) }
noncomputable def zta : Dat τ := { D := D0, tbl := tblOf [(95, zdg)], lp := lpsOf [(2, zrg)], k0 := 0, mu := [], un := [] }
theorem z5j : ConOk E C 42 z2n :=
  zf (D := zta) ⟨d0Ok, eGood, za ⟨zoc, trivial⟩, fun _ => rfl⟩ z2n (fun a b => a) none (fun _ _ => rfl) rfl (fun _ _ h => nomatch h) 1000000 (fn := Tryz.f42) Tryz.func42 rfl (by kernel_rfl) (by kernel_rfl) rfl (by intro N a b; kernel_rfl)
structure z45 where
  b : List (Int)
  i : Int
def zct : List Sl := [.sh (.own 5 1), .k, .k, .k, .k, .sh (.ty 2), .j, .j, .j, .j, .j, .j, .j, .j, .j, .j, .j, .j, .j, .k]
def zcu : List ESh := [.dead, .tail]
def zrh (a : Sl.Ts τ zct) (b : ESh.Ts τ zcu) : z45 := ⟨a.1, a.2.2.2.2.2.1⟩
def zri (s : z45) : Sl.Ts τ zct := (s.b, (), (), (), (), s.i, (), (), (), (), (), (), (), (), (), (), (), (), (), (), ())
def zrj (s : z45) : ESh.Ts τ zcu := ((), (), ())
def zrk : Lp τ := { ts := zct, hs := zcu, S := z45, to := zrh, ot := zri, oh := zrj, hk := [5], tk := [], ot_to := fun _ _ => rfl, oh_to := fun _ _ => rfl }
def zc (N : Nat) (b : List (Int)) (l : List (Int)) : Option ((List (Int))) :=
 (iter N (fun (s1 : z45) next2 =>
 (bif (decide (s1.i < ((l).length : Int))) then
 (bif (ibB s1.i ((l).length : Int)) then
 ((zcq N (lget l s1.i default)).bind fun r3 =>
 (bif (lenB ((s1.b).length + (r3).length) 1) then
 (next2 ⟨(s1.b ++ r3), (IntKind.i64.wrap (s1.i + 1))⟩)
 else none))
 else none)
 else
 (some s1.b))) ⟨b, 0⟩)
def z46 : Con τ := { args := [.own 5 0, .ty 143], L := [.tail], ret := .own 5 1, L' := [.dead, .tail], R := (List (Int)), dflt := default, F := fun N a b => zc N a.1 a.2.1, of := fun r => (r, ((), (), ())) }
noncomputable def ztb : Dat τ := { D := D0, tbl := tblOf [(95, zdg)], lp := lpsOf [(2, zrk)], k0 := 1, mu := [], un := [] }
theorem z8j : ConOk E C 42 z46 :=
  zf (D := ztb) ⟨d0Ok, eGood, za ⟨zoc, trivial⟩, fun _ => rfl⟩ z46 (fun a b => a) none (fun _ _ => rfl) rfl (fun _ _ h => nomatch h) 1000000 (fn := Tryz.f42) Tryz.func42 rfl (by kernel_rfl) (by kernel_rfl) rfl (by intro N a b; kernel_rfl)
def z7f (N : Nat) (l : List (Int)) : Option ((List (Int))) :=
 ((zcq N ((l).length : Int)).bind fun r1 =>
 (bif (lenB ((r1).length + (l).length) 1) then
 (some (r1 ++ l))
 else none))
def z9n : Con τ := { args := [.ty 31], L := [], ret := .own 5 0, L' := [.tail], R := (List (Int)), dflt := default, F := fun N a b => z7f N a.1, of := fun r => (r, ((), ())) }
noncomputable def zwn : Dat τ := { D := D0, tbl := tblOf [(95, zdg)], lp := lpsOf [], k0 := 0, mu := [], un := [] }
theorem zkn : ConOk E C 96 z9n :=
  zf (D := zwn) ⟨d0Ok, eGood, za ⟨zoc, trivial⟩, fun _ => rfl⟩ z9n (fun a b => a) none (fun _ _ => rfl) rfl (fun _ _ h => nomatch h) 1000000 (fn := Tryz.f96) Tryz.func96 rfl (by kernel_rfl) (by kernel_rfl) rfl (by intro N a b; kernel_rfl)
def z78 (N : Nat) (b : List (Int)) (s : List UInt8) : Option ((List (Int))) :=
 ((z7f N (zjk s)).bind fun r1 =>
 (bif (lenB ((b).length + (r1).length) 1) then
 (some (b ++ r1))
 else none))
def zcv : Con τ := { args := [.own 5 0, .ty 9], L := [.tail], ret := .own 5 1, L' := [.dead, .tail], R := (List (Int)), dflt := default, F := fun N a b => z78 N a.1 a.2.1, of := fun r => (r, ((), (), ())) }
noncomputable def zrl : Dat τ := { D := D0, tbl := tblOf [(96, z9n)], lp := lpsOf [], k0 := 1, mu := [], un := [] }
theorem ztc : ConOk E C 43 zcv :=
  zf (D := zrl) ⟨d0Ok, eGood, za ⟨zkn, trivial⟩, fun _ => rfl⟩ zcv (fun a b => a) none (fun _ _ => rfl) rfl (fun _ _ h => nomatch h) 1000000 (fn := Tryz.f43) Tryz.func43 rfl (by kernel_rfl) (by kernel_rfl) rfl (by intro N a b; kernel_rfl)
def z8w (N : Nat) (op : GOp) : Option ((List (Int))) :=
 ((z1r N [op.Stamp.Time, op.Stamp.Site, op.Kind, op.Node, op.Parent]).bind fun r1 =>
 ((z78 N r1 op.Name).bind fun r2 =>
 ((z78 N r2 op.Key).bind fun r3 =>
 ((z78 N r3 op.Value).bind fun r4 =>
 (some r4)))))
def zbn : Con τ := { args := [.ty 25], L := [], ret := .own 5 0, L' := [.tail], R := (List (Int)), dflt := default, F := fun N a b => z8w N a.1, of := fun r => (r, ((), ())) }
noncomputable def zuy : Dat τ := { D := D0, tbl := tblOf [(42, z2n), (43, zcv)], lp := lpsOf [], k0 := 0, mu := [], un := [] }
theorem znd : ConOk E C 11 zbn :=
  zf (D := zuy) ⟨d0Ok, eGood, za ⟨z5j, ⟨ztc, trivial⟩⟩, fun _ => rfl⟩ zbn (fun a b => a) none (fun _ _ => rfl) rfl (fun _ _ h => nomatch h) 1000000 (fn := Tryz.f11) Tryz.func11 rfl (by kernel_rfl) (by kernel_rfl) rfl (by intro N a b; kernel_rfl)
structure z63 where
  b : List (Int)
  i : Int
def zcw : List Sl := [.k, .k, .k, .sh (.own 5 1), .sh (.ty 2), .k, .k, .k, .k, .j, .j, .j, .j, .j, .j, .j, .j, .j, .j, .j, .j, .j, .k]
def zcx : List ESh := [.dead, .tail]
def zrm (a : Sl.Ts τ zcw) (b : ESh.Ts τ zcx) : z63 := ⟨a.2.2.2.1, a.2.2.2.2.1⟩
def zrn (s : z63) : Sl.Ts τ zcw := ((), (), (), s.b, s.i, (), (), (), (), (), (), (), (), (), (), (), (), (), (), (), (), (), (), ())
def zro (s : z63) : ESh.Ts τ zcx := ((), (), ())
def zrp : Lp τ := { ts := zcw, hs := zcx, S := z63, to := zrm, ot := zrn, oh := zro, hk := [5], tk := [], ot_to := fun _ _ => rfl, oh_to := fun _ _ => rfl }
def z6x (N : Nat) (l : List (GOp)) : Option ((List (Int))) :=
 ((z1r N [((l).length : Int)]).bind fun r1 =>
 (iter N (fun (s2 : z63) next3 =>
 (bif (decide (s2.i < ((l).length : Int))) then
 (bif (ibB s2.i ((l).length : Int)) then
 ((z8w N (⟨((lget l s2.i default).Stamp), (lget l s2.i default).Kind, (lget l s2.i default).Node, (lget l s2.i default).Parent, (lget l s2.i default).Name, (lget l s2.i default).Key, (lget l s2.i default).Value⟩ : GOp)).bind fun r4 =>
 (bif (lenB ((s2.b).length + (r4).length) 1) then
 (next3 ⟨(s2.b ++ r4), (IntKind.i64.wrap (s2.i + 1))⟩)
 else none))
 else none)
 else
 (some s2.b))) ⟨r1, 0⟩))
def z9t : Con τ := { args := [.ty 60], L := [], ret := .ty 31, L' := [], R := (List (Int)), dflt := default, F := fun N a b => z6x N a.1, of := fun r => (r, ()) }
noncomputable def ztd : Dat τ := { D := D0, tbl := tblOf [(42, z2n), (11, zbn)], lp := lpsOf [(3, zrp)], k0 := 0, mu := [], un := [] }
theorem zm6 : ConOk E C 113 z9t :=
  zf (D := ztd) ⟨d0Ok, eGood, za ⟨z5j, ⟨znd, trivial⟩⟩, fun _ => rfl⟩ z9t (fun a b => a) none (fun _ _ => rfl) rfl (fun _ _ h => nomatch h) 1000000 (fn := Tryz.f113) Tryz.func113 rfl (by kernel_rfl) (by kernel_rfl) rfl (by intro N a b; kernel_rfl)
structure z2e where
  b : List (Int)
  i : Int
def z95 : List Sl := [.k, .k, .k, .sh (.own 5 1), .sh (.ty 2), .j, .j, .j, .j, .j, .j, .j, .j, .j, .j, .k]
def z96 : List ESh := [.keep, .tail]
def zn0 (a : Sl.Ts τ z95) (b : ESh.Ts τ z96) : z2e := ⟨a.2.2.2.1, a.2.2.2.2.1⟩
def zn1 (s : z2e) : Sl.Ts τ z95 := ((), (), (), s.b, s.i, (), (), (), (), (), (), (), (), (), (), (), ())
def zn2 (s : z2e) : ESh.Ts τ z96 := ((), (), ())
def zn3 : Lp τ := { ts := z95, hs := z96, S := z2e, to := zn0, ot := zn1, oh := zn2, hk := [2], tk := [0, 2], ot_to := fun _ _ => rfl, oh_to := fun _ _ => rfl }
def z1j (N : Nat) (v : Vector (Int) 8) : Option ((List (Int))) :=
 (iter N (fun (s1 : z2e) next2 =>
 (bif (decide (s1.i < 8)) then
 (bif (ibB s1.i 8) then
 ((zc N s1.b [(vget v ((s1.i).toNat) default)]).bind fun r3 =>
 (next2 ⟨r3, (IntKind.i64.wrap (s1.i + 1))⟩))
 else none)
 else
 (some s1.b))) ⟨[], 0⟩)
def z5k : Con τ := { args := [.ty 28], L := [], ret := .own 5 0, L' := [.tail], R := (List (Int)), dflt := default, F := fun N a b => z1j N a.1, of := fun r => (r, ((), ())) }
noncomputable def zod : Dat τ := { D := D0, tbl := tblOf [(42, z46)], lp := lpsOf [(3, zn3)], k0 := 0, mu := [], un := [] }
theorem zbo : ConOk E C 47 z5k :=
  zf (D := zod) ⟨d0Ok, eGood, za ⟨z8j, trivial⟩, fun _ => rfl⟩ z5k (fun a b => a) none (fun _ _ => rfl) rfl (fun _ _ h => nomatch h) 1000000 (fn := Tryz.f47) Tryz.func47 rfl (by kernel_rfl) (by kernel_rfl) rfl (by intro N a b; kernel_rfl)
structure z2h where
  b : List (Int)
  i : Int
def za6 : List Sl := [.k, .k, .k, .sh (.own 5 2), .sh (.ty 2), .k, .k, .k, .k, .k, .j, .j, .j, .j, .j, .j, .j, .j, .j, .j, .j, .k, .k, .k, .k, .k, .k, .k, .k, .k, .k, .k, .k, .k, .k, .k, .k, .k]
def za7 : List ESh := [.keep, .dead, .tail]
def zoe (a : Sl.Ts τ za6) (b : ESh.Ts τ za7) : z2h := ⟨a.2.2.2.1, a.2.2.2.2.1⟩
def zof (s : z2h) : Sl.Ts τ za6 := ((), (), (), s.b, s.i, (), (), (), (), (), (), (), (), (), (), (), (), (), (), (), (), (), (), (), (), (), (), (), (), (), (), (), (), (), (), (), (), (), ())
def zog (s : z2h) : ESh.Ts τ za7 := ((), (), (), ())
def zoh : Lp τ := { ts := za6, hs := za7, S := z2h, to := zoe, ot := zof, oh := zog, hk := [2, 5], tk := [0, 2, 0, 0, 0, 0, 2], ot_to := fun _ _ => rfl, oh_to := fun _ _ => rfl }
structure z2i where
  b : List (Int)
  i : Int
def za8 : List Sl := [.k, .k, .k, .sh (.own 5 5), .k, .sh (.ty 2), .k, .k, .k, .k, .k, .k, .k, .k, .k, .k, .k, .k, .k, .k, .k, .k, .k, .k, .k, .k, .j, .j, .j, .j, .j, .j, .j, .j, .j, .j, .j, .k]
def za9 : List ESh := [.keep, .keep, .keep, .keep, .dead, .tail]
def zoi (a : Sl.Ts τ za8) (b : ESh.Ts τ za9) : z2i := ⟨a.2.2.2.1, a.2.2.2.2.2.1⟩
def zoj (s : z2i) : Sl.Ts τ za8 := ((), (), (), s.b, (), s.i, (), (), (), (), (), (), (), (), (), (), (), (), (), (), (), (), (), (), (), (), (), (), (), (), (), (), (), (), (), (), (), (), ())
def zok (s : z2i) : ESh.Ts τ za9 := ((), (), (), (), (), (), ())
def zol : Lp τ := { ts := za8, hs := za9, S := z2i, to := zoi, ot := zoj, oh := zok, hk := [2, 1, 1, 5, 5], tk := [0, 2, 0, 0, 0, 0, 2, 0, 0, 0, 0, 0, 0, 0, 0, 0, 0, 0, 0, 0, 0, 0, 2], ot_to := fun _ _ => rfl, oh_to := fun _ _ => rfl }
def z47 (N : Nat) (e : z7) : Option ((List (Int))) :=
 ((z1r N [e.Number]).bind fun r1 =>
 (iter N (fun (s2 : z2h) next3 =>
 (bif (decide (s2.i < 8)) then
 (bif (ibB s2.i 8) then
 ((zc N s2.b [(vget e.States ((s2.i).toNat) default)]).bind fun r4 =>
 (next3 ⟨r4, (IntKind.i64.wrap (s2.i + 1))⟩))
 else none)
 else
 ((z1j N e.Seals).bind fun r5 =>
 (bif (lenB ((s2.b).length + (r5).length) 1) then
 (iter N (fun (s6 : z2i) next7 =>
 (bif (decide (s6.i < 8)) then
 (bif (ibB s6.i 8) then
 ((zc N s6.b [(vget e.Sponsor ((s6.i).toNat) default)]).bind fun r8 =>
 (next7 ⟨r8, (IntKind.i64.wrap (s6.i + 1))⟩))
 else none)
 else
 (some s6.b))) ⟨(s2.b ++ r5), 0⟩)
 else none)))) ⟨r1, 0⟩))
def z89 : Con τ := { args := [.ty 30], L := [], ret := .own 5 0, L' := [.tail], R := (List (Int)), dflt := default, F := fun N a b => z47 N a.1, of := fun r => (r, ((), ())) }
noncomputable def zq2 : Dat τ := { D := D0, tbl := tblOf [(42, z2n), (42, z46), (47, z5k)], lp := lpsOf [(3, zoh), (8, zol)], k0 := 0, mu := [], un := [] }
theorem zj9 : ConOk E C 14 z89 :=
  zf (D := zq2) ⟨d0Ok, eGood, za ⟨z5j, ⟨z8j, ⟨zbo, trivial⟩⟩⟩, fun _ => rfl⟩ z89 (fun a b => a) none (fun _ _ => rfl) rfl (fun _ _ h => nomatch h) 1000000 (fn := Tryz.f14) Tryz.func14 rfl (by kernel_rfl) (by kernel_rfl) rfl (by intro N a b; kernel_rfl)
def z2k (N : Nat) (p : GPart) : Option ((List (Int))) :=
 ((z1r N [p.Snap, p.Index, p.Many]).bind fun r1 =>
 ((z7f N p.Data).bind fun r2 =>
 (bif (lenB ((r1).length + (r2).length) 1) then
 (some (r1 ++ r2))
 else none)))
def z8x : Con τ := { args := [.ty 62], L := [], ret := .ty 31, L' := [], R := (List (Int)), dflt := default, F := fun N a b => z2k N a.1, of := fun r => (r, ()) }
noncomputable def zrq : Dat τ := { D := D0, tbl := tblOf [(42, z2n), (96, z9n)], lp := lpsOf [], k0 := 0, mu := [], un := [] }
theorem zl4 : ConOk E C 114 z8x :=
  zf (D := zrq) ⟨d0Ok, eGood, za ⟨z5j, ⟨zkn, trivial⟩⟩, fun _ => rfl⟩ z8x (fun a b => a) none (fun _ _ => rfl) rfl (fun _ _ h => nomatch h) 1000000 (fn := Tryz.f114) Tryz.func114 rfl (by kernel_rfl) (by kernel_rfl) rfl (by intro N a b; kernel_rfl)
def z2o (N : Nat) (e : z6) : Option ((List (Int))) :=
 ((z1r N [e.Kind]).bind fun r1 =>
 (bif (e.Kind == 1) then
 ((zc N r1 [e.Session, e.Request]).bind fun r2 =>
 ((z8w N e.Op).bind fun r3 =>
 (bif (lenB ((r2).length + (r3).length) 1) then
 (some (r2 ++ r3))
 else none)))
 else
 (bif (e.Kind == 2) then
 ((zc N r1 [e.Origin, e.Seq]).bind fun r4 =>
 ((z6x N e.Ops).bind fun r5 =>
 (bif (lenB ((r4).length + (r5).length) 1) then
 (some (r4 ++ r5))
 else none)))
 else
 (bif (e.Kind == 3) then
 ((z47 N e.Epoch).bind fun r6 =>
 (bif (lenB ((r1).length + (r6).length) 1) then
 (some (r1 ++ r6))
 else none))
 else
 (bif (e.Kind == 4) then
 ((zc N r1 [e.Seq, e.From]).bind fun r7 =>
 ((z1j N e.Vector_).bind fun r8 =>
 (bif (lenB ((r7).length + (r8).length) 1) then
 ((zc N (r7 ++ r8) [e.Clock]).bind fun r9 =>
 (some r9))
 else none)))
 else
 (bif (e.Kind == 5) then
 ((z2k N e.Part).bind fun r10 =>
 (bif (lenB ((r1).length + (r10).length) 1) then
 (some (r1 ++ r10))
 else none))
 else
 (bif (e.Kind == 6) then
 ((zc N r1 [e.Site, e.Sponsor]).bind fun r11 =>
 (some r11))
 else
 (bif (e.Kind == 7) then
 ((zc N r1 [e.Site]).bind fun r12 =>
 (some r12))
 else
 (bif (e.Kind == 8) then
 ((zc N r1 [e.Site, e.Length]).bind fun r13 =>
 (some r13))
 else
 (some r1))))))))))
def z6b : Con τ := { args := [.ty 64], L := [], ret := .ty 31, L' := [], R := (List (Int)), dflt := default, F := fun N a b => z2o N a.1, of := fun r => (r, ()) }
noncomputable def zq3 : Dat τ := { D := D0, tbl := tblOf [(42, z2n), (42, z46), (11, zbn), (113, z9t), (14, z89), (47, z5k), (114, z8x)], lp := lpsOf [], k0 := 0, mu := [], un := [] }
theorem zcy : ConOk E C 66 z6b :=
  zf (D := zq3) ⟨d0Ok, eGood, za ⟨z5j, ⟨z8j, ⟨znd, ⟨zm6, ⟨zj9, ⟨zbo, ⟨zl4, trivial⟩⟩⟩⟩⟩⟩⟩, fun _ => rfl⟩ z6b (fun a b => a) none (fun _ _ => rfl) rfl (fun _ _ h => nomatch h) 1000000 (fn := Tryz.f66) Tryz.func66 rfl (by kernel_rfl) (by kernel_rfl) rfl (by intro N a b; kernel_rfl)
def zgs (N : Nat) (e : z6) : Option ((List (Int)) × Int) :=
 ((z1a N e).bind fun r1 =>
 (bif (!r1) then
 (some ([], 40))
 else
 ((z2o N e).bind fun r2 =>
 (bif (decide (1048576 < ((r2).length : Int))) then
 (some ([], 3))
 else
 (some (r2, 0))))))
def zi8 : Con τ := { args := [.ty 64], L := [], ret := .tup [.ty 31, .ty 35], L' := [], R := (List (Int)) × Int, dflt := (default, default), F := fun N a b => zgs N a.1, of := fun r => ((r.1, r.2, ()), ()) }
noncomputable def zwo : Dat τ := { D := D0, tbl := tblOf [(32, z77), (66, z6b)], lp := lpsOf [], k0 := 0, mu := [], un := [] }
theorem zyw : ConOk E C 27 zi8 :=
  zf (D := zwo) ⟨d0Ok, eGood, za ⟨zdt, ⟨zcy, trivial⟩⟩, fun _ => rfl⟩ zi8 (fun a b => (a.1, a.2.1)) none (fun _ _ => rfl) rfl (fun _ _ h => nomatch h) 1000000 (fn := Tryz.f27) Tryz.func27 rfl (by kernel_rfl) (by kernel_rfl) rfl (by intro N a b; kernel_rfl)
structure z79 where
  t7 : Int
def zbp : List Sl := [.k, .k, .j, .k, .j, .k, .k, .sh (.ty 2), .j, .j, .j, .j, .j, .j, .j, .j, .j, .j, .j, .j, .j, .j, .j, .j, .j, .j, .j, .j, .j, .j]
def zbq : List ESh := []
def zq4 (a : Sl.Ts τ zbp) (b : ESh.Ts τ zbq) : z79 := ⟨a.2.2.2.2.2.2.2.1⟩
def zq5 (s : z79) : Sl.Ts τ zbp := ((), (), (), (), (), (), (), s.t7, (), (), (), (), (), (), (), (), (), (), (), (), (), (), (), (), (), (), (), (), (), (), ())
def zq6 (s : z79) : ESh.Ts τ zbq := ()
def zq7 : Lp τ := { ts := zbp, hs := zbq, S := z79, to := zq4, ot := zq5, oh := zq6, hk := [], tk := [], ot_to := fun _ _ => rfl, oh_to := fun _ _ => rfl }
def z13 (N : Nat) (l : List (GAddr)) : Option (Bool) :=
 (iter N (fun (s1 : z79) next2 =>
 (bif (decide (s1.t7 < ((l).length : Int))) then
 (bif (ibB s1.t7 ((l).length : Int)) then
 (bif ((((decide (((lget l s1.t7 default).Group) < 0)) || (decide (9 ≤ ((lget l s1.t7 default).Group)))) || (decide (((lget l s1.t7 default).Replica) < 0))) || (decide (5 ≤ ((lget l s1.t7 default).Replica)))) then
 (some false)
 else
 (next2 ⟨(IntKind.i64.wrap (s1.t7 + 1))⟩))
 else none)
 else
 (some true))) ⟨0⟩)
def zcz : Con τ := { args := [.ty 190], L := [], ret := .ty 4, L' := [], R := Bool, dflt := default, F := fun N a b => z13 N a.1, of := fun r => (r, ()) }
noncomputable def zrr : Dat τ := { D := D0, tbl := tblOf [], lp := lpsOf [(2, zq7)], k0 := 0, mu := [], un := [] }
theorem zte : ConOk E C 115 zcz :=
  zf (D := zrr) ⟨d0Ok, eGood, za trivial, fun _ => rfl⟩ zcz (fun a b => a) none (fun _ _ => rfl) rfl (fun _ _ h => nomatch h) 1000000 (fn := Tryz.f115) Tryz.func115 rfl (by kernel_rfl) (by kernel_rfl) rfl (by intro N a b; kernel_rfl)
def z7a (N : Nat) (b : zh) : Option (Bool) :=
 ((zy N [b.Round]).bind fun r1 =>
 (some ((r1 && (decide (0 ≤ b.Replica))) && (decide (b.Replica < 5)))))
def z7q : Con τ := { args := [.ty 68], L := [], ret := .ty 4, L' := [], R := Bool, dflt := default, F := fun N a b => z7a N a.1, of := fun r => (r, ()) }
noncomputable def zom : Dat τ := { D := D0, tbl := tblOf [(106, z33)], lp := lpsOf [], k0 := 0, mu := [], un := [] }
theorem zgt : ConOk E C 116 z7q :=
  zf (D := zom) ⟨d0Ok, eGood, za ⟨z6t, trivial⟩, fun _ => rfl⟩ z7q (fun a b => a) none (fun _ _ => rfl) rfl (fun _ _ h => nomatch h) 1000000 (fn := Tryz.f116) Tryz.func116 rfl (by kernel_rfl) (by kernel_rfl) rfl (by intro N a b; kernel_rfl)
def z4d (N : Nat) (x : zd) : Option (Bool) :=
 ((zy N [x.Slot]).bind fun r1 =>
 ((bif (!(!r1)) then z7a N x.Ballot else some default).bind fun r2 =>
 ((bif (!((!r1) || (!r2))) then zu N x.Entry else some default).bind fun r3 =>
 (some (((!r1) || (!r2)) || (!(r3 == 0)))))))
def z85 : Con τ := { args := [.ty 178], L := [], ret := .ty 4, L' := [], R := Bool, dflt := default, F := fun N a b => z4d N a.1, of := fun r => (r, ()) }
noncomputable def zlg : Dat τ := { D := D0, tbl := tblOf [(106, z33), (116, z7q), (64, z39)], lp := lpsOf [], k0 := 0, mu := [], un := [] }
theorem zm7 : ConOk E C 148 z85 :=
  zf (D := zlg) ⟨d0Ok, eGood, za ⟨z6t, ⟨zgt, ⟨z7m, trivial⟩⟩⟩, fun _ => rfl⟩ z85 (fun a b => a) none (fun _ _ => rfl) rfl (fun _ _ h => nomatch h) 1000000 (fn := Tryz.f148) Tryz.func148 rfl (by kernel_rfl) (by kernel_rfl) rfl (by intro N a b; kernel_rfl)
structure z1e where
  t8 : Int
def z3b : List Sl := [.k, .k, .k, .k, .j, .j, .k, .k, .sh (.ty 2), .j, .j, .j, .j, .j, .j, .j, .j, .j, .j]
def z3c : List ESh := []
def zbx (a : Sl.Ts τ z3b) (b : ESh.Ts τ z3c) : z1e := ⟨a.2.2.2.2.2.2.2.2.1⟩
def zby (s : z1e) : Sl.Ts τ z3b := ((), (), (), (), (), (), (), (), s.t8, (), (), (), (), (), (), (), (), (), (), ())
def zbz (s : z1e) : ESh.Ts τ z3c := ()
def zc0 : Lp τ := { ts := z3b, hs := z3c, S := z1e, to := zbx, ot := zby, oh := zbz, hk := [], tk := [], ot_to := fun _ _ => rfl, oh_to := fun _ _ => rfl }
def z2p (N : Nat) (s : List (zd)) : Option (Int) :=
 (iter N (fun (s1 : z1e) next2 =>
 (bif (decide (s1.t8 < ((s).length : Int))) then
 (bif (ibB s1.t8 ((s).length : Int)) then
 ((z4d N (⟨(lget s s1.t8 default).Slot, ((lget s s1.t8 default).Ballot), (⟨((lget s s1.t8 default).Entry).Kind, ((lget s s1.t8 default).Entry).Session, ((lget s s1.t8 default).Entry).Request, (⟨((((lget s s1.t8 default).Entry).Op).Stamp), (((lget s s1.t8 default).Entry).Op).Kind, (((lget s s1.t8 default).Entry).Op).Node, (((lget s s1.t8 default).Entry).Op).Parent, (((lget s s1.t8 default).Entry).Op).Name, (((lget s s1.t8 default).Entry).Op).Key, (((lget s s1.t8 default).Entry).Op).Value⟩ : GOp), ((lget s s1.t8 default).Entry).Origin, ((lget s s1.t8 default).Entry).Seq, ((lget s s1.t8 default).Entry).Ops, (((lget s s1.t8 default).Entry).Epoch), ((lget s s1.t8 default).Entry).From, ((lget s s1.t8 default).Entry).Vector_, ((lget s s1.t8 default).Entry).Clock, (((lget s s1.t8 default).Entry).Part), ((lget s s1.t8 default).Entry).Site, ((lget s s1.t8 default).Entry).Sponsor, ((lget s s1.t8 default).Entry).Length⟩ : z6)⟩ : zd)).bind fun r3 =>
 (bif r3 then
 (some s1.t8)
 else
 (next2 ⟨(IntKind.i64.wrap (s1.t8 + 1))⟩)))
 else none)
 else
 (some (-1)))) ⟨0⟩)
def z3i : Con τ := { args := [.ty 69, .fn 148 []], L := [], ret := .ty 3, L' := [], R := Int, dflt := default, F := fun N a b => z2p N a.1, of := fun r => (r, ()) }
noncomputable def zd0 : Dat τ := { D := D0, tbl := tblOf [(148, z85)], lp := lpsOf [(2, zc0)], k0 := 0, mu := [], un := [] }
theorem zdh : ConOk E C 159 z3i :=
  zf (D := zd0) ⟨d0Ok, eGood, za ⟨zm7, trivial⟩, fun _ => rfl⟩ z3i (fun a b => a) none (fun _ _ => rfl) rfl (fun _ _ h => nomatch h) 1000000 (fn := Tryz.f159) Tryz.func159 rfl (by kernel_rfl) (by kernel_rfl) rfl (by intro N a b; kernel_rfl)
def z2a (N : Nat) (s : List (zd)) : Option (Bool) :=
 ((z2p N s).bind fun r1 =>
 (some (decide (0 ≤ r1))))
def z2x : Con τ := { args := [.ty 69, .fn 148 []], L := [], ret := .ty 4, L' := [], R := Bool, dflt := default, F := fun N a b => z2a N a.1, of := fun r => (r, ()) }
noncomputable def zan : Dat τ := { D := D0, tbl := tblOf [(159, z3i)], lp := lpsOf [], k0 := 0, mu := [], un := [] }
theorem zbr : ConOk E C 147 z2x :=
  zf (D := zan) ⟨d0Ok, eGood, za ⟨zdh, trivial⟩, fun _ => rfl⟩ z2x (fun a b => a) none (fun _ _ => rfl) rfl (fun _ _ h => nomatch h) 1000000 (fn := Tryz.f147) Tryz.func147 rfl (by kernel_rfl) (by kernel_rfl) rfl (by intro N a b; kernel_rfl)
def z6c (N : Nat) (l : List (zd)) (least : Int) (most : Int) : Option (Bool) :=
 ((bif ((decide (least ≤ ((l).length : Int))) && (decide (((l).length : Int) ≤ most))) then z2a N l else some default).bind fun r1 =>
 (some (((decide (least ≤ ((l).length : Int))) && (decide (((l).length : Int) ≤ most))) && (!r1))))
def z97 : Con τ := { args := [.ty 69, .ty 3, .ty 3], L := [], ret := .ty 4, L' := [], R := Bool, dflt := default, F := fun N a b => z6c N a.1 a.2.1 a.2.2.1, of := fun r => (r, ()) }
noncomputable def zn4 : Dat τ := { D := D0, tbl := tblOf [(147, z2x)], lp := lpsOf [], k0 := 0, mu := [], un := [] }
theorem zon : ConOk E C 117 z97 :=
  zf (D := zn4) ⟨d0Ok, eGood, za ⟨zbr, trivial⟩, fun _ => rfl⟩ z97 (fun a b => a) none (fun _ _ => rfl) rfl (fun _ _ h => nomatch h) 1000000 (fn := Tryz.f117) Tryz.func117 rfl (by kernel_rfl) (by kernel_rfl) rfl (by intro N a b; kernel_rfl)
def z5l (N : Nat) (a : zd) (b : zd) : Option (Bool) :=
 ((bif ((a.Slot == b.Slot) && ((a.Ballot.Round == b.Ballot.Round) && (a.Ballot.Replica == b.Ballot.Replica))) then zg N a.Entry b.Entry else some default).bind fun r1 =>
 (some (((a.Slot == b.Slot) && ((a.Ballot.Round == b.Ballot.Round) && (a.Ballot.Replica == b.Ballot.Replica))) && r1)))
def z8k : Con τ := { args := [.ty 178, .ty 178], L := [], ret := .ty 4, L' := [], R := Bool, dflt := default, F := fun N a b => z5l N a.1 a.2.1, of := fun r => (r, ()) }
noncomputable def zm8 : Dat τ := { D := D0, tbl := tblOf [(110, z5b)], lp := lpsOf [], k0 := 0, mu := [], un := [] }
theorem zn5 : ConOk E C 150 z8k :=
  zf (D := zm8) ⟨d0Ok, eGood, za ⟨zbe, trivial⟩, fun _ => rfl⟩ z8k (fun a b => a) none (fun _ _ => rfl) rfl (fun _ _ h => nomatch h) 1000000 (fn := Tryz.f150) Tryz.func150 rfl (by kernel_rfl) (by kernel_rfl) rfl (by intro N a b; kernel_rfl)
structure z1f where
  t17 : Int
def z3d : List Sl := [.k, .k, .k, .k, .k, .k, .j, .j, .j, .j, .k, .k, .k, .k, .k, .k, .k, .sh (.ty 2), .j, .j, .j, .j, .j, .j, .j, .j, .j, .j, .j, .j, .j, .j]
def z3e : List ESh := []
def zc1 (a : Sl.Ts τ z3d) (b : ESh.Ts τ z3e) : z1f := ⟨a.2.2.2.2.2.2.2.2.2.2.2.2.2.2.2.2.2.1⟩
def zc2 (s : z1f) : Sl.Ts τ z3d := ((), (), (), (), (), (), (), (), (), (), (), (), (), (), (), (), (), s.t17, (), (), (), (), (), (), (), (), (), (), (), (), (), (), ())
def zc3 (s : z1f) : ESh.Ts τ z3e := ()
def zc4 : Lp τ := { ts := z3d, hs := z3e, S := z1f, to := zc1, ot := zc2, oh := zc3, hk := [], tk := [], ot_to := fun _ _ => rfl, oh_to := fun _ _ => rfl }
def z2q (N : Nat) (s1_ : List (zd)) (s2_ : List (zd)) : Option (Bool) :=
 (bif (!(((s1_).length : Int) == ((s2_).length : Int))) then
 (some false)
 else
 (iter N (fun (s1 : z1f) next2 =>
 (bif (decide (s1.t17 < ((s1_).length : Int))) then
 (bif (ibB s1.t17 ((s1_).length : Int)) then
 (bif (ibB s1.t17 ((s2_).length : Int)) then
 ((z5l N (⟨(lget s1_ s1.t17 default).Slot, ((lget s1_ s1.t17 default).Ballot), (⟨((lget s1_ s1.t17 default).Entry).Kind, ((lget s1_ s1.t17 default).Entry).Session, ((lget s1_ s1.t17 default).Entry).Request, (⟨((((lget s1_ s1.t17 default).Entry).Op).Stamp), (((lget s1_ s1.t17 default).Entry).Op).Kind, (((lget s1_ s1.t17 default).Entry).Op).Node, (((lget s1_ s1.t17 default).Entry).Op).Parent, (((lget s1_ s1.t17 default).Entry).Op).Name, (((lget s1_ s1.t17 default).Entry).Op).Key, (((lget s1_ s1.t17 default).Entry).Op).Value⟩ : GOp), ((lget s1_ s1.t17 default).Entry).Origin, ((lget s1_ s1.t17 default).Entry).Seq, ((lget s1_ s1.t17 default).Entry).Ops, (((lget s1_ s1.t17 default).Entry).Epoch), ((lget s1_ s1.t17 default).Entry).From, ((lget s1_ s1.t17 default).Entry).Vector_, ((lget s1_ s1.t17 default).Entry).Clock, (((lget s1_ s1.t17 default).Entry).Part), ((lget s1_ s1.t17 default).Entry).Site, ((lget s1_ s1.t17 default).Entry).Sponsor, ((lget s1_ s1.t17 default).Entry).Length⟩ : z6)⟩ : zd) (⟨(lget s2_ s1.t17 default).Slot, ((lget s2_ s1.t17 default).Ballot), (⟨((lget s2_ s1.t17 default).Entry).Kind, ((lget s2_ s1.t17 default).Entry).Session, ((lget s2_ s1.t17 default).Entry).Request, (⟨((((lget s2_ s1.t17 default).Entry).Op).Stamp), (((lget s2_ s1.t17 default).Entry).Op).Kind, (((lget s2_ s1.t17 default).Entry).Op).Node, (((lget s2_ s1.t17 default).Entry).Op).Parent, (((lget s2_ s1.t17 default).Entry).Op).Name, (((lget s2_ s1.t17 default).Entry).Op).Key, (((lget s2_ s1.t17 default).Entry).Op).Value⟩ : GOp), ((lget s2_ s1.t17 default).Entry).Origin, ((lget s2_ s1.t17 default).Entry).Seq, ((lget s2_ s1.t17 default).Entry).Ops, (((lget s2_ s1.t17 default).Entry).Epoch), ((lget s2_ s1.t17 default).Entry).From, ((lget s2_ s1.t17 default).Entry).Vector_, ((lget s2_ s1.t17 default).Entry).Clock, (((lget s2_ s1.t17 default).Entry).Part), ((lget s2_ s1.t17 default).Entry).Site, ((lget s2_ s1.t17 default).Entry).Sponsor, ((lget s2_ s1.t17 default).Entry).Length⟩ : z6)⟩ : zd)).bind fun r3 =>
 (bif (!r3) then
 (some false)
 else
 (next2 ⟨(IntKind.i64.wrap (s1.t17 + 1))⟩)))
 else none)
 else none)
 else
 (some true))) ⟨0⟩))
def z3j : Con τ := { args := [.ty 69, .ty 69, .fn 150 []], L := [], ret := .ty 4, L' := [], R := Bool, dflt := default, F := fun N a b => z2q N a.1 a.2.1, of := fun r => (r, ()) }
noncomputable def zd1 : Dat τ := { D := D0, tbl := tblOf [(150, z8k)], lp := lpsOf [(4, zc4)], k0 := 0, mu := [], un := [] }
theorem zdi : ConOk E C 149 z3j :=
  zf (D := zd1) ⟨d0Ok, eGood, za ⟨zn5, trivial⟩, fun _ => rfl⟩ z3j (fun a b => a) none (fun _ _ => rfl) rfl (fun _ _ h => nomatch h) 1000000 (fn := Tryz.f149) Tryz.func149 rfl (by kernel_rfl) (by kernel_rfl) rfl (by intro N a b; kernel_rfl)
def z8l (N : Nat) (a : GMsg) (b : GMsg) : Option (Bool) :=
 ((bif (((((a.Kind == b.Kind) && ((a.From.Group == b.From.Group) && (a.From.Replica == b.From.Replica))) && ((a.To.Group == b.To.Group) && (a.To.Replica == b.To.Replica))) && ((a.Ballot.Round == b.Ballot.Round) && (a.Ballot.Replica == b.Ballot.Replica))) && (a.Slot == b.Slot)) then z2q N a.List_ b.List_ else some default).bind fun r1 =>
 ((bif ((((((a.Kind == b.Kind) && ((a.From.Group == b.From.Group) && (a.From.Replica == b.From.Replica))) && ((a.To.Group == b.To.Group) && (a.To.Replica == b.To.Replica))) && ((a.Ballot.Round == b.Ballot.Round) && (a.Ballot.Replica == b.Ballot.Replica))) && (a.Slot == b.Slot)) && r1) then zg N a.Entry b.Entry else some default).bind fun r2 =>
 ((bif (((((((((((a.Kind == b.Kind) && ((a.From.Group == b.From.Group) && (a.From.Replica == b.From.Replica))) && ((a.To.Group == b.To.Group) && (a.To.Replica == b.To.Replica))) && ((a.Ballot.Round == b.Ballot.Round) && (a.Ballot.Replica == b.Ballot.Replica))) && (a.Slot == b.Slot)) && r1) && r2) && (a.Number == b.Number)) && (vbeq beq2 a.Vector_ b.Vector_)) && (a.Clock == b.Clock)) && (a.Origin == b.Origin)) then z7s N a.Ops b.Ops else some default).bind fun r3 =>
 ((bif (((((((((((((a.Kind == b.Kind) && ((a.From.Group == b.From.Group) && (a.From.Replica == b.From.Replica))) && ((a.To.Group == b.To.Group) && (a.To.Replica == b.To.Replica))) && ((a.Ballot.Round == b.Ballot.Round) && (a.Ballot.Replica == b.Ballot.Replica))) && (a.Slot == b.Slot)) && r1) && r2) && (a.Number == b.Number)) && (vbeq beq2 a.Vector_ b.Vector_)) && (a.Clock == b.Clock)) && (a.Origin == b.Origin)) && r3) && ((a.Epoch.Number == b.Epoch.Number) && ((vbeq beq3 a.Epoch.States b.Epoch.States) && ((vbeq beq2 a.Epoch.Seals b.Epoch.Seals) && (vbeq beq3 a.Epoch.Sponsor b.Epoch.Sponsor))))) then z7t N a.Part b.Part else some default).bind fun r4 =>
 (some ((((((((((((((a.Kind == b.Kind) && ((a.From.Group == b.From.Group) && (a.From.Replica == b.From.Replica))) && ((a.To.Group == b.To.Group) && (a.To.Replica == b.To.Replica))) && ((a.Ballot.Round == b.Ballot.Round) && (a.Ballot.Replica == b.Ballot.Replica))) && (a.Slot == b.Slot)) && r1) && r2) && (a.Number == b.Number)) && (vbeq beq2 a.Vector_ b.Vector_)) && (a.Clock == b.Clock)) && (a.Origin == b.Origin)) && r3) && ((a.Epoch.Number == b.Epoch.Number) && ((vbeq beq3 a.Epoch.States b.Epoch.States) && ((vbeq beq2 a.Epoch.Seals b.Epoch.Seals) && (vbeq beq3 a.Epoch.Sponsor b.Epoch.Sponsor))))) && r4))))))
def zd2 : Con τ := { args := [.ty 71, .ty 71], L := [], ret := .ty 4, L' := [], R := Bool, dflt := default, F := fun N a b => z8l N a.1 a.2.1, of := fun r => (r, ()) }
noncomputable def zrs : Dat τ := { D := D0, tbl := tblOf [(149, z3j), (110, z5b), (144, z86), (145, z87)], lp := lpsOf [], k0 := 0, mu := [], un := [] }
theorem ztf : ConOk E C 118 zd2 :=
  zf (D := zrs) ⟨d0Ok, eGood, za ⟨zdi, ⟨zbe, ⟨ziy, ⟨ziz, trivial⟩⟩⟩⟩, fun _ => rfl⟩ zd2 (fun a b => a) none (fun _ _ => rfl) rfl (fun _ _ h => nomatch h) 1000000 (fn := Tryz.f118) Tryz.func118 rfl (by kernel_rfl) (by kernel_rfl) rfl (by intro N a b; kernel_rfl)
structure z8 where
  ok : Bool
  b0 : GMsg
  b1 : GMsg
def zaa : List Sl := [.k, .sh (.ptr 0 []), .j, .sh (.ptr 1 []), .sh (.ty 4), .j, .j, .j, .j, .j, .j, .j, .j, .j, .j, .j, .j, .j, .j, .j, .j, .j, .j, .j, .j, .j, .j, .j, .j, .j, .j, .j, .j, .j, .j, .j, .j, .j, .j, .j, .j, .j, .j, .j, .j, .j, .j, .j, .j, .j, .j, .j, .j, .j, .j, .j, .j, .j, .j, .j, .j, .j, .j, .j, .j, .j, .j, .j, .j, .j, .j, .j, .j, .j, .j, .j, .j, .j, .j, .j, .j, .j, .j, .j, .j, .j, .j, .j, .j, .j, .j, .j, .j, .j, .j, .j, .j, .j, .j, .j, .j, .j, .j, .j, .j, .j, .j, .j, .j, .j, .j, .j, .j, .j, .j, .j, .j, .j, .j, .j, .j, .j, .j, .j, .j, .j, .j, .j, .j, .j, .j, .j, .j, .j, .j, .j, .j, .j, .j, .j, .j, .j, .j, .j, .j, .j, .j, .j, .j, .j, .j, .j, .j, .j, .j, .j, .j, .j, .j, .j, .j, .j, .j, .j, .k, .k, .k, .k, .k, .k, .k, .k, .k, .k, .k, .k, .k, .k, .k, .k, .k, .k, .k, .k, .k, .k, .k, .k, .k, .k, .k, .k, .k, .k, .k, .k, .k, .k, .k, .k, .k, .k, .k]
def zab : List ESh := [.box (.ty 70), .box (.ty 70)]
def zoo (a : Sl.Ts τ zaa) (b : ESh.Ts τ zab) : z8 := ⟨a.2.2.2.2.1, b.1, b.2.1⟩
def zop (s : z8) : Sl.Ts τ zaa := ((), (), (), (), s.ok, (), (), (), (), (), (), (), (), (), (), (), (), (), (), (), (), (), (), (), (), (), (), (), (), (), (), (), (), (), (), (), (), (), (), (), (), (), (), (), (), (), (), (), (), (), (), (), (), (), (), (), (), (), (), (), (), (), (), (), (), (), (), (), (), (), (), (), (), (), (), (), (), (), (), (), (), (), (), (), (), (), (), (), (), (), (), (), (), (), (), (), (), (), (), (), (), (), (), (), (), (), (), (), (), (), (), (), (), (), (), (), (), (), (), (), (), (), (), (), (), (), (), (), (), (), (), (), (), (), (), (), (), (), (), (), (), (), (), (), (), (), (), (), (), (), (), (), (), (), (), (), (), (), (), (), (), (), (), (), (), (), (), (), (), (), (), (), (), (), (), (), (), (), (), (), (), (), (), (), (), (), (), (), (), (), (), (), (), (), (), (), (), (), (), (), (), (), (), ())
def zoq (s : z8) : ESh.Ts τ zab := (s.b0, s.b1, ())
def zor : Lp τ := { ts := zaa, hs := zab, S := z8, to := zoo, ot := zop, oh := zoq, hk := [], tk := [], ot_to := fun _ _ => rfl, oh_to := fun _ _ => rfl }
def zw (N : Nat) (m : GMsg) : Option (z8 ⊕ (Int)) :=
 ((z13 N [m.From, m.To]).bind fun r1 =>
 (bif (m.Kind == 1) then
 (bif (m.Kind == 1) then
 (some (.inl (⟨r1, m, (⟨m.Kind, m.From, m.To, m.Ballot, m.Slot, [], (⟨0, 0, 0, (⟨(⟨0, 0⟩ : zi), 0, 0, 0, [], [], []⟩ : GOp), 0, 0, [], (⟨0, (Vector.replicate 8 (default : Int)), (Vector.replicate 8 (default : Int)), (Vector.replicate 8 (default : Int))⟩ : z7), 0, (Vector.replicate 8 (default : Int)), 0, (⟨0, 0, 0, []⟩ : GPart), 0, 0, 0⟩ : z6), 0, (Vector.replicate 8 (default : Int)), 0, 0, [], (⟨0, (Vector.replicate 8 (default : Int)), (Vector.replicate 8 (default : Int)), (Vector.replicate 8 (default : Int))⟩ : z7), (⟨0, 0, 0, []⟩ : GPart)⟩ : GMsg)⟩ : z8)))
 else
 (bif (m.Kind == 2) then
 (some (.inl (⟨r1, m, (⟨m.Kind, m.From, m.To, m.Ballot, m.Slot, m.List_, (⟨0, 0, 0, (⟨(⟨0, 0⟩ : zi), 0, 0, 0, [], [], []⟩ : GOp), 0, 0, [], (⟨0, (Vector.replicate 8 (default : Int)), (Vector.replicate 8 (default : Int)), (Vector.replicate 8 (default : Int))⟩ : z7), 0, (Vector.replicate 8 (default : Int)), 0, (⟨0, 0, 0, []⟩ : GPart), 0, 0, 0⟩ : z6), 0, (Vector.replicate 8 (default : Int)), 0, 0, [], (⟨0, (Vector.replicate 8 (default : Int)), (Vector.replicate 8 (default : Int)), (Vector.replicate 8 (default : Int))⟩ : z7), (⟨0, 0, 0, []⟩ : GPart)⟩ : GMsg)⟩ : z8)))
 else
 (bif (m.Kind == 3) then
 (some (.inl (⟨(r1 && (((m.List_).length : Int) == 1)), m, (⟨m.Kind, m.From, m.To, m.Ballot, 0, m.List_, (⟨0, 0, 0, (⟨(⟨0, 0⟩ : zi), 0, 0, 0, [], [], []⟩ : GOp), 0, 0, [], (⟨0, (Vector.replicate 8 (default : Int)), (Vector.replicate 8 (default : Int)), (Vector.replicate 8 (default : Int))⟩ : z7), 0, (Vector.replicate 8 (default : Int)), 0, (⟨0, 0, 0, []⟩ : GPart), 0, 0, 0⟩ : z6), 0, (Vector.replicate 8 (default : Int)), 0, 0, [], (⟨0, (Vector.replicate 8 (default : Int)), (Vector.replicate 8 (default : Int)), (Vector.replicate 8 (default : Int))⟩ : z7), (⟨0, 0, 0, []⟩ : GPart)⟩ : GMsg)⟩ : z8)))
 else
 (bif (m.Kind == 5) then
 (some (.inl (⟨r1, m, (⟨m.Kind, m.From, m.To, m.Ballot, 0, [], (⟨0, 0, 0, (⟨(⟨0, 0⟩ : zi), 0, 0, 0, [], [], []⟩ : GOp), 0, 0, [], (⟨0, (Vector.replicate 8 (default : Int)), (Vector.replicate 8 (default : Int)), (Vector.replicate 8 (default : Int))⟩ : z7), 0, (Vector.replicate 8 (default : Int)), 0, (⟨0, 0, 0, []⟩ : GPart), 0, 0, 0⟩ : z6), 0, (Vector.replicate 8 (default : Int)), 0, 0, [], (⟨0, (Vector.replicate 8 (default : Int)), (Vector.replicate 8 (default : Int)), (Vector.replicate 8 (default : Int))⟩ : z7), (⟨0, 0, 0, []⟩ : GPart)⟩ : GMsg)⟩ : z8)))
 else
 (bif (m.Kind == 6) then
 (some (.inl (⟨(r1 && (decide (1 ≤ ((m.List_).length : Int)))), m, (⟨m.Kind, m.From, m.To, (⟨0, 0⟩ : zh), 0, m.List_, (⟨0, 0, 0, (⟨(⟨0, 0⟩ : zi), 0, 0, 0, [], [], []⟩ : GOp), 0, 0, [], (⟨0, (Vector.replicate 8 (default : Int)), (Vector.replicate 8 (default : Int)), (Vector.replicate 8 (default : Int))⟩ : z7), 0, (Vector.replicate 8 (default : Int)), 0, (⟨0, 0, 0, []⟩ : GPart), 0, 0, 0⟩ : z6), 0, (Vector.replicate 8 (default : Int)), 0, 0, [], (⟨0, (Vector.replicate 8 (default : Int)), (Vector.replicate 8 (default : Int)), (Vector.replicate 8 (default : Int))⟩ : z7), (⟨0, 0, 0, []⟩ : GPart)⟩ : GMsg)⟩ : z8)))
 else
 (bif (m.Kind == 8) then
 (some (.inl (⟨r1, m, (⟨m.Kind, m.From, m.To, (⟨0, 0⟩ : zh), m.Slot, [], (⟨0, 0, 0, (⟨(⟨0, 0⟩ : zi), 0, 0, 0, [], [], []⟩ : GOp), 0, 0, [], (⟨0, (Vector.replicate 8 (default : Int)), (Vector.replicate 8 (default : Int)), (Vector.replicate 8 (default : Int))⟩ : z7), 0, (Vector.replicate 8 (default : Int)), 0, (⟨0, 0, 0, []⟩ : GPart), 0, 0, 0⟩ : z6), 0, (Vector.replicate 8 (default : Int)), 0, 0, [], (⟨0, (Vector.replicate 8 (default : Int)), (Vector.replicate 8 (default : Int)), (Vector.replicate 8 (default : Int))⟩ : z7), (⟨0, 0, 0, []⟩ : GPart)⟩ : GMsg)⟩ : z8)))
 else
 (bif (m.Kind == 9) then
 (some (.inl (⟨r1, m, (⟨m.Kind, m.From, m.To, (⟨0, 0⟩ : zh), 0, [], m.Entry, 0, (Vector.replicate 8 (default : Int)), 0, 0, [], (⟨0, (Vector.replicate 8 (default : Int)), (Vector.replicate 8 (default : Int)), (Vector.replicate 8 (default : Int))⟩ : z7), (⟨0, 0, 0, []⟩ : GPart)⟩ : GMsg)⟩ : z8)))
 else
 (bif (m.Kind == 10) then
 (some (.inl (⟨r1, m, (⟨m.Kind, m.From, m.To, (⟨0, 0⟩ : zh), 0, [], (⟨0, 0, 0, (⟨(⟨0, 0⟩ : zi), 0, 0, 0, [], [], []⟩ : GOp), 0, 0, [], (⟨0, (Vector.replicate 8 (default : Int)), (Vector.replicate 8 (default : Int)), (Vector.replicate 8 (default : Int))⟩ : z7), 0, (Vector.replicate 8 (default : Int)), 0, (⟨0, 0, 0, []⟩ : GPart), 0, 0, 0⟩ : z6), m.Number, m.Vector_, m.Clock, 0, [], (⟨0, (Vector.replicate 8 (default : Int)), (Vector.replicate 8 (default : Int)), (Vector.replicate 8 (default : Int))⟩ : z7), (⟨0, 0, 0, []⟩ : GPart)⟩ : GMsg)⟩ : z8)))
 else
 (bif (m.Kind == 11) then
 ((bif r1 then z1h N [m.Origin] else some default).bind fun r2 =>
 ((bif (r1 && r2) then z3m N m.Ops 1 else some default).bind fun r3 =>
 (some (.inl (⟨((r1 && r2) && r3), m, (⟨m.Kind, m.From, m.To, (⟨0, 0⟩ : zh), m.Slot, [], (⟨0, 0, 0, (⟨(⟨0, 0⟩ : zi), 0, 0, 0, [], [], []⟩ : GOp), 0, 0, [], (⟨0, (Vector.replicate 8 (default : Int)), (Vector.replicate 8 (default : Int)), (Vector.replicate 8 (default : Int))⟩ : z7), 0, (Vector.replicate 8 (default : Int)), 0, (⟨0, 0, 0, []⟩ : GPart), 0, 0, 0⟩ : z6), m.Number, (Vector.replicate 8 (default : Int)), 0, m.Origin, m.Ops, (⟨0, (Vector.replicate 8 (default : Int)), (Vector.replicate 8 (default : Int)), (Vector.replicate 8 (default : Int))⟩ : z7), (⟨0, 0, 0, []⟩ : GPart)⟩ : GMsg)⟩ : z8)))))
 else
 (bif (m.Kind == 12) then
 ((bif r1 then z2m N m.Epoch else some default).bind fun r4 =>
 (some (.inl (⟨(r1 && r4), m, (⟨m.Kind, m.From, m.To, (⟨0, 0⟩ : zh), 0, [], (⟨0, 0, 0, (⟨(⟨0, 0⟩ : zi), 0, 0, 0, [], [], []⟩ : GOp), 0, 0, [], (⟨0, (Vector.replicate 8 (default : Int)), (Vector.replicate 8 (default : Int)), (Vector.replicate 8 (default : Int))⟩ : z7), 0, (Vector.replicate 8 (default : Int)), 0, (⟨0, 0, 0, []⟩ : GPart), 0, 0, 0⟩ : z6), 0, (Vector.replicate 8 (default : Int)), 0, 0, [], m.Epoch, (⟨0, 0, 0, []⟩ : GPart)⟩ : GMsg)⟩ : z8))))
 else
 (bif (m.Kind == 13) then
 ((bif r1 then z1n N m.Part else some default).bind fun r5 =>
 (some (.inl (⟨(r1 && r5), m, (⟨m.Kind, m.From, m.To, (⟨0, 0⟩ : zh), 0, [], (⟨0, 0, 0, (⟨(⟨0, 0⟩ : zi), 0, 0, 0, [], [], []⟩ : GOp), 0, 0, [], (⟨0, (Vector.replicate 8 (default : Int)), (Vector.replicate 8 (default : Int)), (Vector.replicate 8 (default : Int))⟩ : z7), 0, (Vector.replicate 8 (default : Int)), 0, (⟨0, 0, 0, []⟩ : GPart), 0, 0, 0⟩ : z6), 0, (Vector.replicate 8 (default : Int)), 0, 0, [], (⟨0, (Vector.replicate 8 (default : Int)), (Vector.replicate 8 (default : Int)), (Vector.replicate 8 (default : Int))⟩ : z7), m.Part⟩ : GMsg)⟩ : z8))))
 else
 (bif (m.Kind == 14) then
 (some (.inl (⟨r1, m, (⟨m.Kind, m.From, m.To, (⟨0, 0⟩ : zh), 0, [], (⟨0, 0, 0, (⟨(⟨0, 0⟩ : zi), 0, 0, 0, [], [], []⟩ : GOp), 0, 0, [], (⟨0, (Vector.replicate 8 (default : Int)), (Vector.replicate 8 (default : Int)), (Vector.replicate 8 (default : Int))⟩ : z7), 0, (Vector.replicate 8 (default : Int)), 0, (⟨0, 0, 0, []⟩ : GPart), 0, 0, 0⟩ : z6), m.Number, m.Vector_, 0, 0, [], (⟨0, (Vector.replicate 8 (default : Int)), (Vector.replicate 8 (default : Int)), (Vector.replicate 8 (default : Int))⟩ : z7), (⟨0, 0, 0, []⟩ : GPart)⟩ : GMsg)⟩ : z8)))
 else
 (bif (m.Kind == 15) then
 ((bif r1 then z1n N m.Part else some default).bind fun r6 =>
 (some (.inl (⟨(r1 && r6), m, (⟨m.Kind, m.From, m.To, (⟨0, 0⟩ : zh), m.Slot, [], (⟨0, 0, 0, (⟨(⟨0, 0⟩ : zi), 0, 0, 0, [], [], []⟩ : GOp), 0, 0, [], (⟨0, (Vector.replicate 8 (default : Int)), (Vector.replicate 8 (default : Int)), (Vector.replicate 8 (default : Int))⟩ : z7), 0, (Vector.replicate 8 (default : Int)), 0, (⟨0, 0, 0, []⟩ : GPart), 0, 0, 0⟩ : z6), 0, (Vector.replicate 8 (default : Int)), 0, 0, [], (⟨0, (Vector.replicate 8 (default : Int)), (Vector.replicate 8 (default : Int)), (Vector.replicate 8 (default : Int))⟩ : z7), m.Part⟩ : GMsg)⟩ : z8))))
 else
 (some (.inl (⟨false, m, (⟨m.Kind, m.From, m.To, (⟨0, 0⟩ : zh), 0, [], (⟨0, 0, 0, (⟨(⟨0, 0⟩ : zi), 0, 0, 0, [], [], []⟩ : GOp), 0, 0, [], (⟨0, (Vector.replicate 8 (default : Int)), (Vector.replicate 8 (default : Int)), (Vector.replicate 8 (default : Int))⟩ : z7), 0, (Vector.replicate 8 (default : Int)), 0, (⟨0, 0, 0, []⟩ : GPart), 0, 0, 0⟩ : z6), 0, (Vector.replicate 8 (default : Int)), 0, 0, [], (⟨0, (Vector.replicate 8 (default : Int)), (Vector.replicate 8 (default : Int)), (Vector.replicate 8 (default : Int))⟩ : z7), (⟨0, 0, 0, []⟩ : GPart)⟩ : GMsg)⟩ : z8))))))))))))))))
 else
 (bif (m.Kind == 4) then
 (bif (m.Kind == 4) then
 (some (.inl (⟨r1, m, (⟨m.Kind, m.From, m.To, m.Ballot, m.Slot, [], (⟨0, 0, 0, (⟨(⟨0, 0⟩ : zi), 0, 0, 0, [], [], []⟩ : GOp), 0, 0, [], (⟨0, (Vector.replicate 8 (default : Int)), (Vector.replicate 8 (default : Int)), (Vector.replicate 8 (default : Int))⟩ : z7), 0, (Vector.replicate 8 (default : Int)), 0, (⟨0, 0, 0, []⟩ : GPart), 0, 0, 0⟩ : z6), 0, (Vector.replicate 8 (default : Int)), 0, 0, [], (⟨0, (Vector.replicate 8 (default : Int)), (Vector.replicate 8 (default : Int)), (Vector.replicate 8 (default : Int))⟩ : z7), (⟨0, 0, 0, []⟩ : GPart)⟩ : GMsg)⟩ : z8)))
 else
 (bif (m.Kind == 2) then
 (some (.inl (⟨r1, m, (⟨m.Kind, m.From, m.To, m.Ballot, m.Slot, m.List_, (⟨0, 0, 0, (⟨(⟨0, 0⟩ : zi), 0, 0, 0, [], [], []⟩ : GOp), 0, 0, [], (⟨0, (Vector.replicate 8 (default : Int)), (Vector.replicate 8 (default : Int)), (Vector.replicate 8 (default : Int))⟩ : z7), 0, (Vector.replicate 8 (default : Int)), 0, (⟨0, 0, 0, []⟩ : GPart), 0, 0, 0⟩ : z6), 0, (Vector.replicate 8 (default : Int)), 0, 0, [], (⟨0, (Vector.replicate 8 (default : Int)), (Vector.replicate 8 (default : Int)), (Vector.replicate 8 (default : Int))⟩ : z7), (⟨0, 0, 0, []⟩ : GPart)⟩ : GMsg)⟩ : z8)))
 else
 (bif (m.Kind == 3) then
 (some (.inl (⟨(r1 && (((m.List_).length : Int) == 1)), m, (⟨m.Kind, m.From, m.To, m.Ballot, 0, m.List_, (⟨0, 0, 0, (⟨(⟨0, 0⟩ : zi), 0, 0, 0, [], [], []⟩ : GOp), 0, 0, [], (⟨0, (Vector.replicate 8 (default : Int)), (Vector.replicate 8 (default : Int)), (Vector.replicate 8 (default : Int))⟩ : z7), 0, (Vector.replicate 8 (default : Int)), 0, (⟨0, 0, 0, []⟩ : GPart), 0, 0, 0⟩ : z6), 0, (Vector.replicate 8 (default : Int)), 0, 0, [], (⟨0, (Vector.replicate 8 (default : Int)), (Vector.replicate 8 (default : Int)), (Vector.replicate 8 (default : Int))⟩ : z7), (⟨0, 0, 0, []⟩ : GPart)⟩ : GMsg)⟩ : z8)))
 else
 (bif (m.Kind == 5) then
 (some (.inl (⟨r1, m, (⟨m.Kind, m.From, m.To, m.Ballot, 0, [], (⟨0, 0, 0, (⟨(⟨0, 0⟩ : zi), 0, 0, 0, [], [], []⟩ : GOp), 0, 0, [], (⟨0, (Vector.replicate 8 (default : Int)), (Vector.replicate 8 (default : Int)), (Vector.replicate 8 (default : Int))⟩ : z7), 0, (Vector.replicate 8 (default : Int)), 0, (⟨0, 0, 0, []⟩ : GPart), 0, 0, 0⟩ : z6), 0, (Vector.replicate 8 (default : Int)), 0, 0, [], (⟨0, (Vector.replicate 8 (default : Int)), (Vector.replicate 8 (default : Int)), (Vector.replicate 8 (default : Int))⟩ : z7), (⟨0, 0, 0, []⟩ : GPart)⟩ : GMsg)⟩ : z8)))
 else
 (bif (m.Kind == 6) then
 (some (.inl (⟨(r1 && (decide (1 ≤ ((m.List_).length : Int)))), m, (⟨m.Kind, m.From, m.To, (⟨0, 0⟩ : zh), 0, m.List_, (⟨0, 0, 0, (⟨(⟨0, 0⟩ : zi), 0, 0, 0, [], [], []⟩ : GOp), 0, 0, [], (⟨0, (Vector.replicate 8 (default : Int)), (Vector.replicate 8 (default : Int)), (Vector.replicate 8 (default : Int))⟩ : z7), 0, (Vector.replicate 8 (default : Int)), 0, (⟨0, 0, 0, []⟩ : GPart), 0, 0, 0⟩ : z6), 0, (Vector.replicate 8 (default : Int)), 0, 0, [], (⟨0, (Vector.replicate 8 (default : Int)), (Vector.replicate 8 (default : Int)), (Vector.replicate 8 (default : Int))⟩ : z7), (⟨0, 0, 0, []⟩ : GPart)⟩ : GMsg)⟩ : z8)))
 else
 (bif (m.Kind == 8) then
 (some (.inl (⟨r1, m, (⟨m.Kind, m.From, m.To, (⟨0, 0⟩ : zh), m.Slot, [], (⟨0, 0, 0, (⟨(⟨0, 0⟩ : zi), 0, 0, 0, [], [], []⟩ : GOp), 0, 0, [], (⟨0, (Vector.replicate 8 (default : Int)), (Vector.replicate 8 (default : Int)), (Vector.replicate 8 (default : Int))⟩ : z7), 0, (Vector.replicate 8 (default : Int)), 0, (⟨0, 0, 0, []⟩ : GPart), 0, 0, 0⟩ : z6), 0, (Vector.replicate 8 (default : Int)), 0, 0, [], (⟨0, (Vector.replicate 8 (default : Int)), (Vector.replicate 8 (default : Int)), (Vector.replicate 8 (default : Int))⟩ : z7), (⟨0, 0, 0, []⟩ : GPart)⟩ : GMsg)⟩ : z8)))
 else
 (bif (m.Kind == 9) then
 (some (.inl (⟨r1, m, (⟨m.Kind, m.From, m.To, (⟨0, 0⟩ : zh), 0, [], m.Entry, 0, (Vector.replicate 8 (default : Int)), 0, 0, [], (⟨0, (Vector.replicate 8 (default : Int)), (Vector.replicate 8 (default : Int)), (Vector.replicate 8 (default : Int))⟩ : z7), (⟨0, 0, 0, []⟩ : GPart)⟩ : GMsg)⟩ : z8)))
 else
 (bif (m.Kind == 10) then
 (some (.inl (⟨r1, m, (⟨m.Kind, m.From, m.To, (⟨0, 0⟩ : zh), 0, [], (⟨0, 0, 0, (⟨(⟨0, 0⟩ : zi), 0, 0, 0, [], [], []⟩ : GOp), 0, 0, [], (⟨0, (Vector.replicate 8 (default : Int)), (Vector.replicate 8 (default : Int)), (Vector.replicate 8 (default : Int))⟩ : z7), 0, (Vector.replicate 8 (default : Int)), 0, (⟨0, 0, 0, []⟩ : GPart), 0, 0, 0⟩ : z6), m.Number, m.Vector_, m.Clock, 0, [], (⟨0, (Vector.replicate 8 (default : Int)), (Vector.replicate 8 (default : Int)), (Vector.replicate 8 (default : Int))⟩ : z7), (⟨0, 0, 0, []⟩ : GPart)⟩ : GMsg)⟩ : z8)))
 else
 (bif (m.Kind == 11) then
 ((bif r1 then z1h N [m.Origin] else some default).bind fun r7 =>
 ((bif (r1 && r7) then z3m N m.Ops 1 else some default).bind fun r8 =>
 (some (.inl (⟨((r1 && r7) && r8), m, (⟨m.Kind, m.From, m.To, (⟨0, 0⟩ : zh), m.Slot, [], (⟨0, 0, 0, (⟨(⟨0, 0⟩ : zi), 0, 0, 0, [], [], []⟩ : GOp), 0, 0, [], (⟨0, (Vector.replicate 8 (default : Int)), (Vector.replicate 8 (default : Int)), (Vector.replicate 8 (default : Int))⟩ : z7), 0, (Vector.replicate 8 (default : Int)), 0, (⟨0, 0, 0, []⟩ : GPart), 0, 0, 0⟩ : z6), m.Number, (Vector.replicate 8 (default : Int)), 0, m.Origin, m.Ops, (⟨0, (Vector.replicate 8 (default : Int)), (Vector.replicate 8 (default : Int)), (Vector.replicate 8 (default : Int))⟩ : z7), (⟨0, 0, 0, []⟩ : GPart)⟩ : GMsg)⟩ : z8)))))
 else
 (bif (m.Kind == 12) then
 ((bif r1 then z2m N m.Epoch else some default).bind fun r9 =>
 (some (.inl (⟨(r1 && r9), m, (⟨m.Kind, m.From, m.To, (⟨0, 0⟩ : zh), 0, [], (⟨0, 0, 0, (⟨(⟨0, 0⟩ : zi), 0, 0, 0, [], [], []⟩ : GOp), 0, 0, [], (⟨0, (Vector.replicate 8 (default : Int)), (Vector.replicate 8 (default : Int)), (Vector.replicate 8 (default : Int))⟩ : z7), 0, (Vector.replicate 8 (default : Int)), 0, (⟨0, 0, 0, []⟩ : GPart), 0, 0, 0⟩ : z6), 0, (Vector.replicate 8 (default : Int)), 0, 0, [], m.Epoch, (⟨0, 0, 0, []⟩ : GPart)⟩ : GMsg)⟩ : z8))))
 else
 (bif (m.Kind == 13) then
 ((bif r1 then z1n N m.Part else some default).bind fun r10 =>
 (some (.inl (⟨(r1 && r10), m, (⟨m.Kind, m.From, m.To, (⟨0, 0⟩ : zh), 0, [], (⟨0, 0, 0, (⟨(⟨0, 0⟩ : zi), 0, 0, 0, [], [], []⟩ : GOp), 0, 0, [], (⟨0, (Vector.replicate 8 (default : Int)), (Vector.replicate 8 (default : Int)), (Vector.replicate 8 (default : Int))⟩ : z7), 0, (Vector.replicate 8 (default : Int)), 0, (⟨0, 0, 0, []⟩ : GPart), 0, 0, 0⟩ : z6), 0, (Vector.replicate 8 (default : Int)), 0, 0, [], (⟨0, (Vector.replicate 8 (default : Int)), (Vector.replicate 8 (default : Int)), (Vector.replicate 8 (default : Int))⟩ : z7), m.Part⟩ : GMsg)⟩ : z8))))
 else
 (bif (m.Kind == 14) then
 (some (.inl (⟨r1, m, (⟨m.Kind, m.From, m.To, (⟨0, 0⟩ : zh), 0, [], (⟨0, 0, 0, (⟨(⟨0, 0⟩ : zi), 0, 0, 0, [], [], []⟩ : GOp), 0, 0, [], (⟨0, (Vector.replicate 8 (default : Int)), (Vector.replicate 8 (default : Int)), (Vector.replicate 8 (default : Int))⟩ : z7), 0, (Vector.replicate 8 (default : Int)), 0, (⟨0, 0, 0, []⟩ : GPart), 0, 0, 0⟩ : z6), m.Number, m.Vector_, 0, 0, [], (⟨0, (Vector.replicate 8 (default : Int)), (Vector.replicate 8 (default : Int)), (Vector.replicate 8 (default : Int))⟩ : z7), (⟨0, 0, 0, []⟩ : GPart)⟩ : GMsg)⟩ : z8)))
 else
 (bif (m.Kind == 15) then
 ((bif r1 then z1n N m.Part else some default).bind fun r11 =>
 (some (.inl (⟨(r1 && r11), m, (⟨m.Kind, m.From, m.To, (⟨0, 0⟩ : zh), m.Slot, [], (⟨0, 0, 0, (⟨(⟨0, 0⟩ : zi), 0, 0, 0, [], [], []⟩ : GOp), 0, 0, [], (⟨0, (Vector.replicate 8 (default : Int)), (Vector.replicate 8 (default : Int)), (Vector.replicate 8 (default : Int))⟩ : z7), 0, (Vector.replicate 8 (default : Int)), 0, (⟨0, 0, 0, []⟩ : GPart), 0, 0, 0⟩ : z6), 0, (Vector.replicate 8 (default : Int)), 0, 0, [], (⟨0, (Vector.replicate 8 (default : Int)), (Vector.replicate 8 (default : Int)), (Vector.replicate 8 (default : Int))⟩ : z7), m.Part⟩ : GMsg)⟩ : z8))))
 else
 (some (.inl (⟨false, m, (⟨m.Kind, m.From, m.To, (⟨0, 0⟩ : zh), 0, [], (⟨0, 0, 0, (⟨(⟨0, 0⟩ : zi), 0, 0, 0, [], [], []⟩ : GOp), 0, 0, [], (⟨0, (Vector.replicate 8 (default : Int)), (Vector.replicate 8 (default : Int)), (Vector.replicate 8 (default : Int))⟩ : z7), 0, (Vector.replicate 8 (default : Int)), 0, (⟨0, 0, 0, []⟩ : GPart), 0, 0, 0⟩ : z6), 0, (Vector.replicate 8 (default : Int)), 0, 0, [], (⟨0, (Vector.replicate 8 (default : Int)), (Vector.replicate 8 (default : Int)), (Vector.replicate 8 (default : Int))⟩ : z7), (⟨0, 0, 0, []⟩ : GPart)⟩ : GMsg)⟩ : z8))))))))))))))))
 else
 (bif (m.Kind == 7) then
 (some (.inl (⟨r1, m, (⟨m.Kind, m.From, m.To, m.Ballot, m.Slot, [], (⟨0, 0, 0, (⟨(⟨0, 0⟩ : zi), 0, 0, 0, [], [], []⟩ : GOp), 0, 0, [], (⟨0, (Vector.replicate 8 (default : Int)), (Vector.replicate 8 (default : Int)), (Vector.replicate 8 (default : Int))⟩ : z7), 0, (Vector.replicate 8 (default : Int)), 0, (⟨0, 0, 0, []⟩ : GPart), 0, 0, 0⟩ : z6), 0, (Vector.replicate 8 (default : Int)), 0, 0, [], (⟨0, (Vector.replicate 8 (default : Int)), (Vector.replicate 8 (default : Int)), (Vector.replicate 8 (default : Int))⟩ : z7), (⟨0, 0, 0, []⟩ : GPart)⟩ : GMsg)⟩ : z8)))
 else
 (bif (m.Kind == 2) then
 (some (.inl (⟨r1, m, (⟨m.Kind, m.From, m.To, m.Ballot, m.Slot, m.List_, (⟨0, 0, 0, (⟨(⟨0, 0⟩ : zi), 0, 0, 0, [], [], []⟩ : GOp), 0, 0, [], (⟨0, (Vector.replicate 8 (default : Int)), (Vector.replicate 8 (default : Int)), (Vector.replicate 8 (default : Int))⟩ : z7), 0, (Vector.replicate 8 (default : Int)), 0, (⟨0, 0, 0, []⟩ : GPart), 0, 0, 0⟩ : z6), 0, (Vector.replicate 8 (default : Int)), 0, 0, [], (⟨0, (Vector.replicate 8 (default : Int)), (Vector.replicate 8 (default : Int)), (Vector.replicate 8 (default : Int))⟩ : z7), (⟨0, 0, 0, []⟩ : GPart)⟩ : GMsg)⟩ : z8)))
 else
 (bif (m.Kind == 3) then
 (some (.inl (⟨(r1 && (((m.List_).length : Int) == 1)), m, (⟨m.Kind, m.From, m.To, m.Ballot, 0, m.List_, (⟨0, 0, 0, (⟨(⟨0, 0⟩ : zi), 0, 0, 0, [], [], []⟩ : GOp), 0, 0, [], (⟨0, (Vector.replicate 8 (default : Int)), (Vector.replicate 8 (default : Int)), (Vector.replicate 8 (default : Int))⟩ : z7), 0, (Vector.replicate 8 (default : Int)), 0, (⟨0, 0, 0, []⟩ : GPart), 0, 0, 0⟩ : z6), 0, (Vector.replicate 8 (default : Int)), 0, 0, [], (⟨0, (Vector.replicate 8 (default : Int)), (Vector.replicate 8 (default : Int)), (Vector.replicate 8 (default : Int))⟩ : z7), (⟨0, 0, 0, []⟩ : GPart)⟩ : GMsg)⟩ : z8)))
 else
 (bif (m.Kind == 5) then
 (some (.inl (⟨r1, m, (⟨m.Kind, m.From, m.To, m.Ballot, 0, [], (⟨0, 0, 0, (⟨(⟨0, 0⟩ : zi), 0, 0, 0, [], [], []⟩ : GOp), 0, 0, [], (⟨0, (Vector.replicate 8 (default : Int)), (Vector.replicate 8 (default : Int)), (Vector.replicate 8 (default : Int))⟩ : z7), 0, (Vector.replicate 8 (default : Int)), 0, (⟨0, 0, 0, []⟩ : GPart), 0, 0, 0⟩ : z6), 0, (Vector.replicate 8 (default : Int)), 0, 0, [], (⟨0, (Vector.replicate 8 (default : Int)), (Vector.replicate 8 (default : Int)), (Vector.replicate 8 (default : Int))⟩ : z7), (⟨0, 0, 0, []⟩ : GPart)⟩ : GMsg)⟩ : z8)))
 else
 (bif (m.Kind == 6) then
 (some (.inl (⟨(r1 && (decide (1 ≤ ((m.List_).length : Int)))), m, (⟨m.Kind, m.From, m.To, (⟨0, 0⟩ : zh), 0, m.List_, (⟨0, 0, 0, (⟨(⟨0, 0⟩ : zi), 0, 0, 0, [], [], []⟩ : GOp), 0, 0, [], (⟨0, (Vector.replicate 8 (default : Int)), (Vector.replicate 8 (default : Int)), (Vector.replicate 8 (default : Int))⟩ : z7), 0, (Vector.replicate 8 (default : Int)), 0, (⟨0, 0, 0, []⟩ : GPart), 0, 0, 0⟩ : z6), 0, (Vector.replicate 8 (default : Int)), 0, 0, [], (⟨0, (Vector.replicate 8 (default : Int)), (Vector.replicate 8 (default : Int)), (Vector.replicate 8 (default : Int))⟩ : z7), (⟨0, 0, 0, []⟩ : GPart)⟩ : GMsg)⟩ : z8)))
 else
 (bif (m.Kind == 8) then
 (some (.inl (⟨r1, m, (⟨m.Kind, m.From, m.To, (⟨0, 0⟩ : zh), m.Slot, [], (⟨0, 0, 0, (⟨(⟨0, 0⟩ : zi), 0, 0, 0, [], [], []⟩ : GOp), 0, 0, [], (⟨0, (Vector.replicate 8 (default : Int)), (Vector.replicate 8 (default : Int)), (Vector.replicate 8 (default : Int))⟩ : z7), 0, (Vector.replicate 8 (default : Int)), 0, (⟨0, 0, 0, []⟩ : GPart), 0, 0, 0⟩ : z6), 0, (Vector.replicate 8 (default : Int)), 0, 0, [], (⟨0, (Vector.replicate 8 (default : Int)), (Vector.replicate 8 (default : Int)), (Vector.replicate 8 (default : Int))⟩ : z7), (⟨0, 0, 0, []⟩ : GPart)⟩ : GMsg)⟩ : z8)))
 else
 (bif (m.Kind == 9) then
 (some (.inl (⟨r1, m, (⟨m.Kind, m.From, m.To, (⟨0, 0⟩ : zh), 0, [], m.Entry, 0, (Vector.replicate 8 (default : Int)), 0, 0, [], (⟨0, (Vector.replicate 8 (default : Int)), (Vector.replicate 8 (default : Int)), (Vector.replicate 8 (default : Int))⟩ : z7), (⟨0, 0, 0, []⟩ : GPart)⟩ : GMsg)⟩ : z8)))
 else
 (bif (m.Kind == 10) then
 (some (.inl (⟨r1, m, (⟨m.Kind, m.From, m.To, (⟨0, 0⟩ : zh), 0, [], (⟨0, 0, 0, (⟨(⟨0, 0⟩ : zi), 0, 0, 0, [], [], []⟩ : GOp), 0, 0, [], (⟨0, (Vector.replicate 8 (default : Int)), (Vector.replicate 8 (default : Int)), (Vector.replicate 8 (default : Int))⟩ : z7), 0, (Vector.replicate 8 (default : Int)), 0, (⟨0, 0, 0, []⟩ : GPart), 0, 0, 0⟩ : z6), m.Number, m.Vector_, m.Clock, 0, [], (⟨0, (Vector.replicate 8 (default : Int)), (Vector.replicate 8 (default : Int)), (Vector.replicate 8 (default : Int))⟩ : z7), (⟨0, 0, 0, []⟩ : GPart)⟩ : GMsg)⟩ : z8)))
 else
 (bif (m.Kind == 11) then
 ((bif r1 then z1h N [m.Origin] else some default).bind fun r12 =>
 ((bif (r1 && r12) then z3m N m.Ops 1 else some default).bind fun r13 =>
 (some (.inl (⟨((r1 && r12) && r13), m, (⟨m.Kind, m.From, m.To, (⟨0, 0⟩ : zh), m.Slot, [], (⟨0, 0, 0, (⟨(⟨0, 0⟩ : zi), 0, 0, 0, [], [], []⟩ : GOp), 0, 0, [], (⟨0, (Vector.replicate 8 (default : Int)), (Vector.replicate 8 (default : Int)), (Vector.replicate 8 (default : Int))⟩ : z7), 0, (Vector.replicate 8 (default : Int)), 0, (⟨0, 0, 0, []⟩ : GPart), 0, 0, 0⟩ : z6), m.Number, (Vector.replicate 8 (default : Int)), 0, m.Origin, m.Ops, (⟨0, (Vector.replicate 8 (default : Int)), (Vector.replicate 8 (default : Int)), (Vector.replicate 8 (default : Int))⟩ : z7), (⟨0, 0, 0, []⟩ : GPart)⟩ : GMsg)⟩ : z8)))))
 else
 (bif (m.Kind == 12) then
 ((bif r1 then z2m N m.Epoch else some default).bind fun r14 =>
 (some (.inl (⟨(r1 && r14), m, (⟨m.Kind, m.From, m.To, (⟨0, 0⟩ : zh), 0, [], (⟨0, 0, 0, (⟨(⟨0, 0⟩ : zi), 0, 0, 0, [], [], []⟩ : GOp), 0, 0, [], (⟨0, (Vector.replicate 8 (default : Int)), (Vector.replicate 8 (default : Int)), (Vector.replicate 8 (default : Int))⟩ : z7), 0, (Vector.replicate 8 (default : Int)), 0, (⟨0, 0, 0, []⟩ : GPart), 0, 0, 0⟩ : z6), 0, (Vector.replicate 8 (default : Int)), 0, 0, [], m.Epoch, (⟨0, 0, 0, []⟩ : GPart)⟩ : GMsg)⟩ : z8))))
 else
 (bif (m.Kind == 13) then
 ((bif r1 then z1n N m.Part else some default).bind fun r15 =>
 (some (.inl (⟨(r1 && r15), m, (⟨m.Kind, m.From, m.To, (⟨0, 0⟩ : zh), 0, [], (⟨0, 0, 0, (⟨(⟨0, 0⟩ : zi), 0, 0, 0, [], [], []⟩ : GOp), 0, 0, [], (⟨0, (Vector.replicate 8 (default : Int)), (Vector.replicate 8 (default : Int)), (Vector.replicate 8 (default : Int))⟩ : z7), 0, (Vector.replicate 8 (default : Int)), 0, (⟨0, 0, 0, []⟩ : GPart), 0, 0, 0⟩ : z6), 0, (Vector.replicate 8 (default : Int)), 0, 0, [], (⟨0, (Vector.replicate 8 (default : Int)), (Vector.replicate 8 (default : Int)), (Vector.replicate 8 (default : Int))⟩ : z7), m.Part⟩ : GMsg)⟩ : z8))))
 else
 (bif (m.Kind == 14) then
 (some (.inl (⟨r1, m, (⟨m.Kind, m.From, m.To, (⟨0, 0⟩ : zh), 0, [], (⟨0, 0, 0, (⟨(⟨0, 0⟩ : zi), 0, 0, 0, [], [], []⟩ : GOp), 0, 0, [], (⟨0, (Vector.replicate 8 (default : Int)), (Vector.replicate 8 (default : Int)), (Vector.replicate 8 (default : Int))⟩ : z7), 0, (Vector.replicate 8 (default : Int)), 0, (⟨0, 0, 0, []⟩ : GPart), 0, 0, 0⟩ : z6), m.Number, m.Vector_, 0, 0, [], (⟨0, (Vector.replicate 8 (default : Int)), (Vector.replicate 8 (default : Int)), (Vector.replicate 8 (default : Int))⟩ : z7), (⟨0, 0, 0, []⟩ : GPart)⟩ : GMsg)⟩ : z8)))
 else
 (bif (m.Kind == 15) then
 ((bif r1 then z1n N m.Part else some default).bind fun r16 =>
 (some (.inl (⟨(r1 && r16), m, (⟨m.Kind, m.From, m.To, (⟨0, 0⟩ : zh), m.Slot, [], (⟨0, 0, 0, (⟨(⟨0, 0⟩ : zi), 0, 0, 0, [], [], []⟩ : GOp), 0, 0, [], (⟨0, (Vector.replicate 8 (default : Int)), (Vector.replicate 8 (default : Int)), (Vector.replicate 8 (default : Int))⟩ : z7), 0, (Vector.replicate 8 (default : Int)), 0, (⟨0, 0, 0, []⟩ : GPart), 0, 0, 0⟩ : z6), 0, (Vector.replicate 8 (default : Int)), 0, 0, [], (⟨0, (Vector.replicate 8 (default : Int)), (Vector.replicate 8 (default : Int)), (Vector.replicate 8 (default : Int))⟩ : z7), m.Part⟩ : GMsg)⟩ : z8))))
 else
 (some (.inl (⟨false, m, (⟨m.Kind, m.From, m.To, (⟨0, 0⟩ : zh), 0, [], (⟨0, 0, 0, (⟨(⟨0, 0⟩ : zi), 0, 0, 0, [], [], []⟩ : GOp), 0, 0, [], (⟨0, (Vector.replicate 8 (default : Int)), (Vector.replicate 8 (default : Int)), (Vector.replicate 8 (default : Int))⟩ : z7), 0, (Vector.replicate 8 (default : Int)), 0, (⟨0, 0, 0, []⟩ : GPart), 0, 0, 0⟩ : z6), 0, (Vector.replicate 8 (default : Int)), 0, 0, [], (⟨0, (Vector.replicate 8 (default : Int)), (Vector.replicate 8 (default : Int)), (Vector.replicate 8 (default : Int))⟩ : z7), (⟨0, 0, 0, []⟩ : GPart)⟩ : GMsg)⟩ : z8)))))))))))))))))))
def z7u (N : Nat) (m : GMsg) (s : z8) : Option (Int) :=
 ((bif s.ok then z7a N s.b1.Ballot else some default).bind fun r17 =>
 ((bif (s.ok && r17) then zy N [s.b1.Slot, s.b1.Number, s.b1.Clock] else some default).bind fun r18 =>
 (bif ((s.ok && r17) && r18) then
 ((bif ((s.ok && r17) && r18) then zy N (s.b1.Vector_.toList) else some default).bind fun r19 =>
 ((bif (((s.ok && r17) && r18) && r19) then z6c N s.b1.List_ 0 4096 else some default).bind fun r20 =>
 ((bif ((((s.ok && r17) && r18) && r19) && r20) then zu N s.b1.Entry else some default).bind fun r21 =>
 ((bif (((((s.ok && r17) && r18) && r19) && r20) && (r21 == 0)) then z8l N s.b1 s.b0 else some default).bind fun r22 =>
 ((zn N ((((((s.ok && r17) && r18) && r19) && r20) && (r21 == 0)) && r22)).bind fun r23 =>
 (some r23))))))
 else
 ((bif false then z6c N s.b1.List_ 0 4096 else some default).bind fun r24 =>
 ((bif false then zu N s.b1.Entry else some default).bind fun r25 =>
 ((bif false then z8l N s.b1 s.b0 else some default).bind fun r26 =>
 ((zn N false).bind fun r27 =>
 (some r27))))))))
def z9u (N : Nat) (m : GMsg) : Option (Int) :=
 (zw N m).bind fun z => match z with | .inl s => z7u N m s | .inr r => some r
def zbs : Con τ := { args := [.ty 71], L := [], ret := .ty 35, L' := [], R := Int, dflt := default, F := fun N a b => z9u N a.1, of := fun r => (r, ()) }
noncomputable def zq8 : Dat τ := { D := D0, tbl := tblOf [(115, zcz), (107, z9h), (108, z9q), (97, z88), (109, z8s), (116, z7q), (106, z33), (117, z97), (64, z39), (118, zd2), (89, z8q)], lp := lpsOf [], k0 := 0, mu := [], un := [] }
theorem zrt : ConOk E C 67 zbs :=
  con_cut (D := zq8) ⟨d0Ok, eGood, za ⟨zte, ⟨zk5, ⟨zm2, ⟨zj0, ⟨zl0, ⟨zgt, ⟨z6t, ⟨zon, ⟨z7m, ⟨ztf, ⟨zkz, trivial⟩⟩⟩⟩⟩⟩⟩⟩⟩⟩⟩, fun _ => rfl⟩ zbs (fun a b => a) none (fun _ _ => rfl) rfl (fun _ _ h => nomatch h) 1000000 [true, true, true, true, false] zor (fun N a b => zw N a.1) (fun N a b s => z7u N a.1 s) (by intro N a b; kernel_rfl) (fn := Tryz.f67) Tryz.func67 rfl (by kernel_rfl) (by kernel_rfl) rfl (by kernel_rfl) (by intro a b s; kernel_rfl) (by intro N a b; kernel_rfl) (by intro N a b s; kernel_rfl)
def z35 (N : Nat) (a : GAddr) (b0 : Int) (b1 : Bool) (b12 : List (Int)) : Option (Int × Bool × (List (Int))) :=
 ((zb N [a.Group, a.Replica] b0 b1 b12).bind fun r1 =>
 (some (r1.1, r1.2.1, r1.2.2)))
def z6y : Con τ := { args := [.ptr 0 [], .ty 66], L := [.box (.agg [.ptr 1 [], .ty 35]), .box (.agg [.ty 4, .own 5 2]), .tail], ret := .tup [], L' := [.box (.agg [.ptr 1 [], .ty 35]), .box (.agg [.ty 4, .own 5 3]), .dead, .tail], R := Int × Bool × (List (Int)), dflt := (default, default, default), F := fun N a b => z35 N a.2.1 b.1.2.1 b.2.1.1 b.2.1.2.1, of := fun r => ((), (((), r.1, ()), (r.2.1, r.2.2, ()), (), (), ())) }
noncomputable def zi9 : Dat τ := { D := D0, tbl := tblOf [(93, zv)], lp := lpsOf [], k0 := 3, mu := [], un := [] }
theorem zja : ConOk E C 119 z6y :=
  zf (D := zi9) ⟨d0Ok, eGood, za ⟨z17, trivial⟩, fun _ => rfl⟩ z6y (fun a b => (b.1.2.1, b.2.1.1, b.2.1.2.1)) none (fun _ _ => rfl) rfl (fun _ _ h => nomatch h) 1000000 (fn := Tryz.f119) Tryz.func119 rfl (by kernel_rfl) (by kernel_rfl) rfl (by intro N a b; kernel_rfl)
def zj (N : Nat) (b : zh) (b0 : Int) (b1 : Bool) (b12 : List (Int)) : Option (Int × Bool × (List (Int))) :=
 ((z5 N [b.Round] b0 b1 b12).bind fun r1 =>
 ((zb N [b.Replica] r1.1 r1.2.1 r1.2.2).bind fun r2 =>
 (some (r2.1, r2.2.1, r2.2.2))))
def z36 : Con τ := { args := [.ptr 0 [], .ty 68], L := [.box (.agg [.ptr 1 [], .ty 35]), .box (.agg [.ty 4, .own 5 2]), .tail], ret := .tup [], L' := [.box (.agg [.ptr 1 [], .ty 35]), .box (.agg [.ty 4, .own 5 3]), .dead, .tail], R := Int × Bool × (List (Int)), dflt := (default, default, default), F := fun N a b => zj N a.2.1 b.1.2.1 b.2.1.1 b.2.1.2.1, of := fun r => ((), (((), r.1, ()), (r.2.1, r.2.2, ()), (), (), ())) }
noncomputable def zfl : Dat τ := { D := D0, tbl := tblOf [(92, z18), (93, zv)], lp := lpsOf [], k0 := 3, mu := [], un := [] }
theorem z8z : ConOk E C 120 z36 :=
  zf (D := zfl) ⟨d0Ok, eGood, za ⟨z1o, ⟨z17, trivial⟩⟩, fun _ => rfl⟩ z36 (fun a b => (b.1.2.1, b.2.1.1, b.2.1.2.1)) none (fun _ _ => rfl) rfl (fun _ _ h => nomatch h) 1000000 (fn := Tryz.f120) Tryz.func120 rfl (by kernel_rfl) (by kernel_rfl) rfl (by intro N a b; kernel_rfl)
structure z26 where
  t13 : Int
  b0 : Int
  b1 : Bool
  b12 : List (Int)
def z5z : List Sl := [.k, .k, .k, .k, .k, .j, .k, .k, .k, .k, .k, .k, .k, .sh (.ty 2), .j, .j, .j, .j, .j, .j, .j, .j, .j, .j, .j, .j, .j, .j, .j, .j, .j]
def z60 : List ESh := [.box (.agg [.ptr 1 [], .ty 2]), .box (.agg [.ty 4, .own 5 4]), .keep, .dead, .tail]
def zgg (a : Sl.Ts τ z5z) (b : ESh.Ts τ z60) : z26 := ⟨a.2.2.2.2.2.2.2.2.2.2.2.2.2.1, b.1.2.1, b.2.1.1, b.2.1.2.1⟩
def zgh (s : z26) : Sl.Ts τ z5z := ((), (), (), (), (), (), (), (), (), (), (), (), (), s.t13, (), (), (), (), (), (), (), (), (), (), (), (), (), (), (), (), (), ())
def zgi (s : z26) : ESh.Ts τ z60 := (((), s.b0, ()), (s.b1, s.b12, ()), (), (), (), ())
def zgj : Lp τ := { ts := z5z, hs := z60, S := z26, to := zgg, ot := zgh, oh := zgi, hk := [2, 2, 1, 5], tk := [2, 0, 0, 0, 0, 0, 2], ot_to := fun _ _ => rfl, oh_to := fun _ _ => rfl }
def zz (N : Nat) (l : List (zd)) (b0 : Int) (b1 : Bool) (b12 : List (Int)) : Option (Int × Bool × (List (Int))) :=
 ((zb N [((l).length : Int)] b0 b1 b12).bind fun r1 =>
 (iter N (fun (s2 : z26) next3 =>
 (bif (decide (s2.t13 < ((l).length : Int))) then
 (bif (ibB s2.t13 ((l).length : Int)) then
 ((z5 N [(lget l s2.t13 default).Slot] s2.b0 s2.b1 s2.b12).bind fun r4 =>
 ((zj N ((lget l s2.t13 default).Ballot) r4.1 r4.2.1 r4.2.2).bind fun r5 =>
 ((z1b N (⟨((lget l s2.t13 default).Entry).Kind, ((lget l s2.t13 default).Entry).Session, ((lget l s2.t13 default).Entry).Request, (⟨((((lget l s2.t13 default).Entry).Op).Stamp), (((lget l s2.t13 default).Entry).Op).Kind, (((lget l s2.t13 default).Entry).Op).Node, (((lget l s2.t13 default).Entry).Op).Parent, (((lget l s2.t13 default).Entry).Op).Name, (((lget l s2.t13 default).Entry).Op).Key, (((lget l s2.t13 default).Entry).Op).Value⟩ : GOp), ((lget l s2.t13 default).Entry).Origin, ((lget l s2.t13 default).Entry).Seq, ((lget l s2.t13 default).Entry).Ops, (((lget l s2.t13 default).Entry).Epoch), ((lget l s2.t13 default).Entry).From, ((lget l s2.t13 default).Entry).Vector_, ((lget l s2.t13 default).Entry).Clock, (((lget l s2.t13 default).Entry).Part), ((lget l s2.t13 default).Entry).Site, ((lget l s2.t13 default).Entry).Sponsor, ((lget l s2.t13 default).Entry).Length⟩ : z6) r5.1 r5.2.1 r5.2.2).bind fun r6 =>
 (next3 ⟨(IntKind.i64.wrap (s2.t13 + 1)), r6.1, r6.2.1, r6.2.2⟩))))
 else none)
 else
 (some (s2.b0, s2.b1, s2.b12)))) ⟨0, r1.1, r1.2.1, r1.2.2⟩))
def z6z : Con τ := { args := [.ptr 0 [], .ty 69], L := [.box (.agg [.ptr 1 [], .ty 35]), .box (.agg [.ty 4, .own 5 2]), .tail], ret := .tup [], L' := [.box (.agg [.ptr 1 [], .ty 35]), .box (.agg [.ty 4, .own 5 3]), .dead, .tail], R := Int × Bool × (List (Int)), dflt := (default, default, default), F := fun N a b => zz N a.2.1 b.1.2.1 b.2.1.1 b.2.1.2.1, of := fun r => ((), (((), r.1, ()), (r.2.1, r.2.2, ()), (), (), ())) }
noncomputable def zia : Dat τ := { D := D0, tbl := tblOf [(93, zv), (92, z18), (120, z36), (65, z2g)], lp := lpsOf [(2, zgj)], k0 := 3, mu := [], un := [] }
theorem zjb : ConOk E C 121 z6z :=
  zf (D := zia) ⟨d0Ok, eGood, za ⟨z17, ⟨z1o, ⟨z8z, ⟨z6w, trivial⟩⟩⟩⟩, fun _ => rfl⟩ z6z (fun a b => (b.1.2.1, b.2.1.1, b.2.1.2.1)) none (fun _ _ => rfl) rfl (fun _ _ h => nomatch h) 1000000 (fn := Tryz.f121) Tryz.func121 rfl (by kernel_rfl) (by kernel_rfl) rfl (by intro N a b; kernel_rfl)
def z5p (N : Nat) (m : GMsg) (b0 : Int) (b1 : Bool) (b12 : List (Int)) : Option (Int × Bool × (List (Int))) :=
 ((zb N [m.Kind] b0 b1 b12).bind fun r1 =>
 ((z35 N m.From r1.1 r1.2.1 r1.2.2).bind fun r2 =>
 ((z35 N m.To r2.1 r2.2.1 r2.2.2).bind fun r3 =>
 (bif (m.Kind == 1) then
 (bif (m.Kind == 1) then
 ((zj N m.Ballot r3.1 r3.2.1 r3.2.2).bind fun r4 =>
 ((z5 N [m.Slot] r4.1 r4.2.1 r4.2.2).bind fun r5 =>
 (some (r5.1, r5.2.1, r5.2.2))))
 else
 (bif (m.Kind == 2) then
 ((zj N m.Ballot r3.1 r3.2.1 r3.2.2).bind fun r6 =>
 ((z5 N [m.Slot] r6.1 r6.2.1 r6.2.2).bind fun r7 =>
 ((zz N m.List_ r7.1 r7.2.1 r7.2.2).bind fun r8 =>
 (some (r8.1, r8.2.1, r8.2.2)))))
 else
 (bif (m.Kind == 3) then
 ((zj N m.Ballot r3.1 r3.2.1 r3.2.2).bind fun r9 =>
 ((zz N m.List_ r9.1 r9.2.1 r9.2.2).bind fun r10 =>
 (some (r10.1, r10.2.1, r10.2.2))))
 else
 (bif (m.Kind == 5) then
 ((zj N m.Ballot r3.1 r3.2.1 r3.2.2).bind fun r11 =>
 (some (r11.1, r11.2.1, r11.2.2)))
 else
 (bif (m.Kind == 6) then
 ((zz N m.List_ r3.1 r3.2.1 r3.2.2).bind fun r12 =>
 (some (r12.1, r12.2.1, r12.2.2)))
 else
 (bif (m.Kind == 8) then
 ((z5 N [m.Slot] r3.1 r3.2.1 r3.2.2).bind fun r13 =>
 (some (r13.1, r13.2.1, r13.2.2)))
 else
 (bif (m.Kind == 9) then
 ((z1b N m.Entry r3.1 r3.2.1 r3.2.2).bind fun r14 =>
 (some (r14.1, r14.2.1, r14.2.2)))
 else
 (bif (m.Kind == 10) then
 ((z5 N [m.Number] r3.1 r3.2.1 r3.2.2).bind fun r15 =>
 ((z5 N (m.Vector_.toList) r15.1 r15.2.1 r15.2.2).bind fun r16 =>
 ((z5 N [m.Clock] r16.1 r16.2.1 r16.2.2).bind fun r17 =>
 (some (r17.1, r17.2.1, r17.2.2)))))
 else
 (bif (m.Kind == 11) then
 ((z5 N [m.Number] r3.1 r3.2.1 r3.2.2).bind fun r18 =>
 ((zb N [m.Origin] r18.1 r18.2.1 r18.2.2).bind fun r19 =>
 ((z5 N [m.Slot] r19.1 r19.2.1 r19.2.2).bind fun r20 =>
 ((z27 N m.Ops r20.1 r20.2.1 r20.2.2).bind fun r21 =>
 (some (r21.1, r21.2.1, r21.2.2))))))
 else
 (bif (m.Kind == 12) then
 ((z1p N m.Epoch r3.1 r3.2.1 r3.2.2).bind fun r22 =>
 (some (r22.1, r22.2.1, r22.2.2)))
 else
 (bif (m.Kind == 13) then
 ((z19 N m.Part r3.1 r3.2.1 r3.2.2).bind fun r23 =>
 (some (r23.1, r23.2.1, r23.2.2)))
 else
 (bif (m.Kind == 14) then
 ((z5 N [m.Number] r3.1 r3.2.1 r3.2.2).bind fun r24 =>
 ((z5 N (m.Vector_.toList) r24.1 r24.2.1 r24.2.2).bind fun r25 =>
 (some (r25.1, r25.2.1, r25.2.2))))
 else
 (bif (m.Kind == 15) then
 ((z5 N [m.Slot] r3.1 r3.2.1 r3.2.2).bind fun r26 =>
 ((z19 N m.Part r26.1 r26.2.1 r26.2.2).bind fun r27 =>
 (some (r27.1, r27.2.1, r27.2.2))))
 else
 (some (r3.1, r3.2.1, r3.2.2)))))))))))))))
 else
 (bif (m.Kind == 4) then
 (bif (m.Kind == 4) then
 ((zj N m.Ballot r3.1 r3.2.1 r3.2.2).bind fun r28 =>
 ((z5 N [m.Slot] r28.1 r28.2.1 r28.2.2).bind fun r29 =>
 (some (r29.1, r29.2.1, r29.2.2))))
 else
 (bif (m.Kind == 2) then
 ((zj N m.Ballot r3.1 r3.2.1 r3.2.2).bind fun r30 =>
 ((z5 N [m.Slot] r30.1 r30.2.1 r30.2.2).bind fun r31 =>
 ((zz N m.List_ r31.1 r31.2.1 r31.2.2).bind fun r32 =>
 (some (r32.1, r32.2.1, r32.2.2)))))
 else
 (bif (m.Kind == 3) then
 ((zj N m.Ballot r3.1 r3.2.1 r3.2.2).bind fun r33 =>
 ((zz N m.List_ r33.1 r33.2.1 r33.2.2).bind fun r34 =>
 (some (r34.1, r34.2.1, r34.2.2))))
 else
 (bif (m.Kind == 5) then
 ((zj N m.Ballot r3.1 r3.2.1 r3.2.2).bind fun r35 =>
 (some (r35.1, r35.2.1, r35.2.2)))
 else
 (bif (m.Kind == 6) then
 ((zz N m.List_ r3.1 r3.2.1 r3.2.2).bind fun r36 =>
 (some (r36.1, r36.2.1, r36.2.2)))
 else
 (bif (m.Kind == 8) then
 ((z5 N [m.Slot] r3.1 r3.2.1 r3.2.2).bind fun r37 =>
 (some (r37.1, r37.2.1, r37.2.2)))
 else
 (bif (m.Kind == 9) then
 ((z1b N m.Entry r3.1 r3.2.1 r3.2.2).bind fun r38 =>
 (some (r38.1, r38.2.1, r38.2.2)))
 else
 (bif (m.Kind == 10) then
 ((z5 N [m.Number] r3.1 r3.2.1 r3.2.2).bind fun r39 =>
 ((z5 N (m.Vector_.toList) r39.1 r39.2.1 r39.2.2).bind fun r40 =>
 ((z5 N [m.Clock] r40.1 r40.2.1 r40.2.2).bind fun r41 =>
 (some (r41.1, r41.2.1, r41.2.2)))))
 else
 (bif (m.Kind == 11) then
 ((z5 N [m.Number] r3.1 r3.2.1 r3.2.2).bind fun r42 =>
 ((zb N [m.Origin] r42.1 r42.2.1 r42.2.2).bind fun r43 =>
 ((z5 N [m.Slot] r43.1 r43.2.1 r43.2.2).bind fun r44 =>
 ((z27 N m.Ops r44.1 r44.2.1 r44.2.2).bind fun r45 =>
 (some (r45.1, r45.2.1, r45.2.2))))))
 else
 (bif (m.Kind == 12) then
 ((z1p N m.Epoch r3.1 r3.2.1 r3.2.2).bind fun r46 =>
 (some (r46.1, r46.2.1, r46.2.2)))
 else
 (bif (m.Kind == 13) then
 ((z19 N m.Part r3.1 r3.2.1 r3.2.2).bind fun r47 =>
 (some (r47.1, r47.2.1, r47.2.2)))
 else
 (bif (m.Kind == 14) then
 ((z5 N [m.Number] r3.1 r3.2.1 r3.2.2).bind fun r48 =>
 ((z5 N (m.Vector_.toList) r48.1 r48.2.1 r48.2.2).bind fun r49 =>
 (some (r49.1, r49.2.1, r49.2.2))))
 else
 (bif (m.Kind == 15) then
 ((z5 N [m.Slot] r3.1 r3.2.1 r3.2.2).bind fun r50 =>
 ((z19 N m.Part r50.1 r50.2.1 r50.2.2).bind fun r51 =>
 (some (r51.1, r51.2.1, r51.2.2))))
 else
 (some (r3.1, r3.2.1, r3.2.2)))))))))))))))
 else
 (bif (m.Kind == 7) then
 ((zj N m.Ballot r3.1 r3.2.1 r3.2.2).bind fun r52 =>
 ((z5 N [m.Slot] r52.1 r52.2.1 r52.2.2).bind fun r53 =>
 (some (r53.1, r53.2.1, r53.2.2))))
 else
 (bif (m.Kind == 2) then
 ((zj N m.Ballot r3.1 r3.2.1 r3.2.2).bind fun r54 =>
 ((z5 N [m.Slot] r54.1 r54.2.1 r54.2.2).bind fun r55 =>
 ((zz N m.List_ r55.1 r55.2.1 r55.2.2).bind fun r56 =>
 (some (r56.1, r56.2.1, r56.2.2)))))
 else
 (bif (m.Kind == 3) then
 ((zj N m.Ballot r3.1 r3.2.1 r3.2.2).bind fun r57 =>
 ((zz N m.List_ r57.1 r57.2.1 r57.2.2).bind fun r58 =>
 (some (r58.1, r58.2.1, r58.2.2))))
 else
 (bif (m.Kind == 5) then
 ((zj N m.Ballot r3.1 r3.2.1 r3.2.2).bind fun r59 =>
 (some (r59.1, r59.2.1, r59.2.2)))
 else
 (bif (m.Kind == 6) then
 ((zz N m.List_ r3.1 r3.2.1 r3.2.2).bind fun r60 =>
 (some (r60.1, r60.2.1, r60.2.2)))
 else
 (bif (m.Kind == 8) then
 ((z5 N [m.Slot] r3.1 r3.2.1 r3.2.2).bind fun r61 =>
 (some (r61.1, r61.2.1, r61.2.2)))
 else
 (bif (m.Kind == 9) then
 ((z1b N m.Entry r3.1 r3.2.1 r3.2.2).bind fun r62 =>
 (some (r62.1, r62.2.1, r62.2.2)))
 else
 (bif (m.Kind == 10) then
 ((z5 N [m.Number] r3.1 r3.2.1 r3.2.2).bind fun r63 =>
 ((z5 N (m.Vector_.toList) r63.1 r63.2.1 r63.2.2).bind fun r64 =>
 ((z5 N [m.Clock] r64.1 r64.2.1 r64.2.2).bind fun r65 =>
 (some (r65.1, r65.2.1, r65.2.2)))))
 else
 (bif (m.Kind == 11) then
 ((z5 N [m.Number] r3.1 r3.2.1 r3.2.2).bind fun r66 =>
 ((zb N [m.Origin] r66.1 r66.2.1 r66.2.2).bind fun r67 =>
 ((z5 N [m.Slot] r67.1 r67.2.1 r67.2.2).bind fun r68 =>
 ((z27 N m.Ops r68.1 r68.2.1 r68.2.2).bind fun r69 =>
 (some (r69.1, r69.2.1, r69.2.2))))))
 else
 (bif (m.Kind == 12) then
 ((z1p N m.Epoch r3.1 r3.2.1 r3.2.2).bind fun r70 =>
 (some (r70.1, r70.2.1, r70.2.2)))
 else
 (bif (m.Kind == 13) then
 ((z19 N m.Part r3.1 r3.2.1 r3.2.2).bind fun r71 =>
 (some (r71.1, r71.2.1, r71.2.2)))
 else
 (bif (m.Kind == 14) then
 ((z5 N [m.Number] r3.1 r3.2.1 r3.2.2).bind fun r72 =>
 ((z5 N (m.Vector_.toList) r72.1 r72.2.1 r72.2.2).bind fun r73 =>
 (some (r73.1, r73.2.1, r73.2.2))))
 else
 (bif (m.Kind == 15) then
 ((z5 N [m.Slot] r3.1 r3.2.1 r3.2.2).bind fun r74 =>
 ((z19 N m.Part r74.1 r74.2.1 r74.2.2).bind fun r75 =>
 (some (r75.1, r75.2.1, r75.2.2))))
 else
 (some (r3.1, r3.2.1, r3.2.2))))))))))))))))))))
def z7b : Con τ := { args := [.ptr 0 [], .ty 71], L := [.box (.agg [.ptr 1 [], .ty 35]), .box (.agg [.ty 4, .own 5 2]), .tail], ret := .tup [], L' := [.box (.agg [.ptr 1 [], .ty 35]), .box (.agg [.ty 4, .own 5 3]), .dead, .tail], R := Int × Bool × (List (Int)), dflt := (default, default, default), F := fun N a b => z5p N a.2.1 b.1.2.1 b.2.1.1 b.2.1.2.1, of := fun r => ((), (((), r.1, ()), (r.2.1, r.2.2, ()), (), (), ())) }
noncomputable def zjc : Dat τ := { D := D0, tbl := tblOf [(93, zv), (119, z6y), (120, z36), (92, z18), (121, z6z), (65, z2g), (111, z40), (46, z3f), (112, z3n)], lp := lpsOf [], k0 := 3, mu := [], un := [] }
theorem zko : ConOk E C 68 z7b :=
  zf (D := zjc) ⟨d0Ok, eGood, za ⟨z17, ⟨zja, ⟨z8z, ⟨z1o, ⟨zjb, ⟨z6w, ⟨zbi, ⟨z9l, ⟨zaj, trivial⟩⟩⟩⟩⟩⟩⟩⟩⟩, fun _ => rfl⟩ z7b (fun a b => (b.1.2.1, b.2.1.1, b.2.1.2.1)) none (fun _ _ => rfl) rfl (fun _ _ h => nomatch h) 1000000 (fn := Tryz.f68) Tryz.func68 rfl (by kernel_rfl) (by kernel_rfl) rfl (by intro N a b; kernel_rfl)
end Go.Proofs.YteinehkdjkobnaaGreat
