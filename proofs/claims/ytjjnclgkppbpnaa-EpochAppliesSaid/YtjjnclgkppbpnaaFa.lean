/-
The functions of this seat, as plain functions over typed data, each with its contract. Printed by wip/tools/fngen.py.
-/
import Derived.Test.YtjjnclgkppbpnaaCod
import Derived.KernelRfl
set_option linter.unusedVariables false
set_option maxRecDepth 100000
namespace Go.Proofs.Ytjjnclgkppbpnaa
open Go Go.Ev

/-- orchard/epoch.site -/
def F32 (N : Nat) (n : Int) : Option (Bool) :=
 (some ((decide (0 ≤ n)) && (decide (n < 8))))
def con32 : Con τ := { args := [.ty 3], L := [], ret := .ty 4, L' := [], R := Bool, dflt := default, F := fun N a b => F32 N a.1, of := fun r => (r, ()) }
noncomputable def dat32 : Dat τ := ⟨D0, tblOf [], lpsOf [], 0⟩
theorem ok32 : ConOk E C 32 con32 :=
  con_ok (D := dat32) ⟨d0Ok, eGood, tblOf_ok (l := []) trivial⟩ con32 (fun a b => a) (fun _ _ => rfl) 1000000 (fn := Try.f32) Try.func32 rfl (by kernel_rfl) (by kernel_rfl) rfl (by intro N a b; kernel_rfl)

/-- orchard/epoch.Start$1 -/
def F56 (N : Nat) (n : Int) : Option (Bool) :=
 ((F32 N n).bind fun r1 =>
 (some (!r1)))
def con56 : Con τ := { args := [.ty 3], L := [], ret := .ty 4, L' := [], R := Bool, dflt := default, F := fun N a b => F56 N a.1, of := fun r => (r, ()) }
noncomputable def dat56 : Dat τ := ⟨D0, tblOf [(32, con32)], lpsOf [], 0⟩
theorem ok56 : ConOk E C 56 con56 :=
  con_ok (D := dat56) ⟨d0Ok, eGood, tblOf_ok (l := [(32, con32)]) ⟨ok32, trivial⟩⟩ con56 (fun a b => a) (fun _ _ => rfl) 1000000 (fn := Try.f56) Try.func56 rfl (by kernel_rfl) (by kernel_rfl) rfl (by intro N a b; kernel_rfl)

structure S76x2 where
  t8 : Int
def ts76x2 : List Sl := [.keep, .keep, .keep, .keep, .junk, .junk, .keep, .keep, .sh (.ty 2), .junk, .junk, .junk, .junk, .junk, .junk, .junk, .junk, .junk, .junk]
def hs76x2 : List ESh := []
def to76x2 (a : Sl.Ts τ ts76x2) (b : ESh.Ts τ hs76x2) : S76x2 := ⟨a.2.2.2.2.2.2.2.2.1⟩
def ot76x2 (s : S76x2) : Sl.Ts τ ts76x2 := ((), (), (), (), (), (), (), (), s.t8, (), (), (), (), (), (), (), (), (), (), ())
def oh76x2 (s : S76x2) : ESh.Ts τ hs76x2 := ()
def lp76x2 : Lp τ := { ts := ts76x2, hs := hs76x2, S := S76x2, to := to76x2, ot := ot76x2, oh := oh76x2, ot_to := fun _ _ => rfl, oh_to := fun _ _ => rfl }
/-- slices.IndexFunc[[]int,int] -/
def F76 (N : Nat) (s : List (Int)) : Option (Int) :=
 (iter N (fun (s1 : S76x2) next2 =>
 (bif (decide (s1.t8 < ((s).length : Int))) then
 (bif (ibB s1.t8 ((s).length : Int)) then
 ((F56 N (lget s s1.t8 default)).bind fun r3 =>
 (bif r3 then
 (some s1.t8)
 else
 (next2 ⟨(IntKind.i64.wrap (s1.t8 + 1))⟩)))
 else none)
 else
 (some (-1)))) ⟨0⟩)
def con76 : Con τ := { args := [.ty 45, .fn 56], L := [], ret := .ty 3, L' := [], R := Int, dflt := default, F := fun N a b => F76 N a.1, of := fun r => (r, ()) }
noncomputable def dat76 : Dat τ := ⟨D0, tblOf [(56, con56)], lpsOf [(2, lp76x2)], 0⟩
theorem ok76 : ConOk E C 76 con76 :=
  con_ok (D := dat76) ⟨d0Ok, eGood, tblOf_ok (l := [(56, con56)]) ⟨ok56, trivial⟩⟩ con76 (fun a b => a) (fun _ _ => rfl) 1000000 (fn := Try.f76) Try.func76 rfl (by kernel_rfl) (by kernel_rfl) rfl (by intro N a b; kernel_rfl)

/-- slices.ContainsFunc[[]int,int] -/
def F55 (N : Nat) (s : List (Int)) : Option (Bool) :=
 ((F76 N s).bind fun r1 =>
 (some (decide (0 ≤ r1))))
def con55 : Con τ := { args := [.ty 45, .fn 56], L := [], ret := .ty 4, L' := [], R := Bool, dflt := default, F := fun N a b => F55 N a.1, of := fun r => (r, ()) }
noncomputable def dat55 : Dat τ := ⟨D0, tblOf [(76, con76)], lpsOf [], 0⟩
theorem ok55 : ConOk E C 55 con55 :=
  con_ok (D := dat55) ⟨d0Ok, eGood, tblOf_ok (l := [(76, con76)]) ⟨ok76, trivial⟩⟩ con55 (fun a b => a) (fun _ _ => rfl) 1000000 (fn := Try.f55) Try.func55 rfl (by kernel_rfl) (by kernel_rfl) rfl (by intro N a b; kernel_rfl)

structure S57x3 where
  t3 : Int
  b1 : GEpoch
def ts57x3 : List Sl := [.keep, .keep, .junk, .sh (.ty 2), .junk, .junk, .junk, .junk, .junk, .junk, .keep]
def hs57x3 : List ESh := [.keep, .box (.ty 25)]
def to57x3 (a : Sl.Ts τ ts57x3) (b : ESh.Ts τ hs57x3) : S57x3 := ⟨a.2.2.2.1, b.2.1⟩
def ot57x3 (s : S57x3) : Sl.Ts τ ts57x3 := ((), (), (), s.t3, (), (), (), (), (), (), (), ())
def oh57x3 (s : S57x3) : ESh.Ts τ hs57x3 := ((), s.b1, ())
def lp57x3 : Lp τ := { ts := ts57x3, hs := hs57x3, S := S57x3, to := to57x3, ot := ot57x3, oh := oh57x3, ot_to := fun _ _ => rfl, oh_to := fun _ _ => rfl }
/-- orchard/epoch.nobody -/
def F57 (N : Nat)  : Option (GEpoch) :=
 (iter N (fun (s1 : S57x3) next2 =>
 (bif (decide (s1.t3 < 8)) then
 (bif (ibB s1.t3 8) then
 (next2 ⟨(IntKind.i64.wrap (s1.t3 + 1)), (⟨s1.b1.Number, s1.b1.States, s1.b1.Seals, (vset s1.b1.Sponsor ((s1.t3).toNat) (-1))⟩ : GEpoch)⟩)
 else none)
 else
 (some s1.b1))) ⟨0, (⟨0, (Vector.replicate 8 (default : Int)), (Vector.replicate 8 (default : Int)), (Vector.replicate 8 (default : Int))⟩ : GEpoch)⟩)
def con57 : Con τ := { args := [], L := [], ret := .ty 26, L' := [], R := GEpoch, dflt := default, F := fun N a b => F57 N , of := fun r => (r, ()) }
noncomputable def dat57 : Dat τ := ⟨D0, tblOf [], lpsOf [(3, lp57x3)], 0⟩
theorem ok57 : ConOk E C 57 con57 :=
  con_ok (D := dat57) ⟨d0Ok, eGood, tblOf_ok (l := []) trivial⟩ con57 (fun a b => a) (fun _ _ => rfl) 1000000 (fn := Try.f57) Try.func57 rfl (by kernel_rfl) (by kernel_rfl) rfl (by intro N a b; kernel_rfl)

structure S31x5 where
  t18 : Int
  b0 : GEpoch
  b1 : GEpoch
def ts31x5 : List Sl := [.keep, .keep, .keep, .junk, .keep, .keep, .junk, .keep, .keep, .keep, .keep, .junk, .junk, .keep, .keep, .keep, .keep, .keep, .sh (.ty 2), .junk, .junk, .junk, .junk, .junk, .junk, .junk, .junk, .junk, .junk, .junk, .junk, .junk, .keep]
def hs31x5 : List ESh := [.box (.ty 25), .box (.ty 25)]
def to31x5 (a : Sl.Ts τ ts31x5) (b : ESh.Ts τ hs31x5) : S31x5 := ⟨a.2.2.2.2.2.2.2.2.2.2.2.2.2.2.2.2.2.2.1, b.1, b.2.1⟩
def ot31x5 (s : S31x5) : Sl.Ts τ ts31x5 := ((), (), (), (), (), (), (), (), (), (), (), (), (), (), (), (), (), (), s.t18, (), (), (), (), (), (), (), (), (), (), (), (), (), (), ())
def oh31x5 (s : S31x5) : ESh.Ts τ hs31x5 := (s.b0, s.b1, ())
def lp31x5 : Lp τ := { ts := ts31x5, hs := hs31x5, S := S31x5, to := to31x5, ot := ot31x5, oh := oh31x5, ot_to := fun _ _ => rfl, oh_to := fun _ _ => rfl }
/-- orchard/epoch.Start -/
def F31 (N : Nat) (members : List (Int)) : Option (GEpoch × Int) :=
 ((bif (!(((members).length : Int) == 0)) then F55 N members else some default).bind fun r1 =>
 (bif ((((members).length : Int) == 0) || r1) then
 (some ((⟨0, (Vector.replicate 8 (default : Int)), (Vector.replicate 8 (default : Int)), (Vector.replicate 8 (default : Int))⟩ : GEpoch), 1))
 else
 ((F57 N).bind fun r2 =>
 (iter N (fun (s3 : S31x5) next4 =>
 (bif (decide (s3.t18 < ((members).length : Int))) then
 (bif (ibB s3.t18 ((members).length : Int)) then
 (bif (ibB (lget members s3.t18 default) 8) then
 (bif (!((vget s3.b1.States (((lget members s3.t18 default)).toNat) default) == 0)) then
 (some ((⟨0, (Vector.replicate 8 (default : Int)), (Vector.replicate 8 (default : Int)), (Vector.replicate 8 (default : Int))⟩ : GEpoch), 5))
 else
 (bif (ibB (lget members s3.t18 default) 8) then
 (next4 ⟨(IntKind.i64.wrap (s3.t18 + 1)), s3.b0, (⟨s3.b1.Number, (vset s3.b1.States (((lget members s3.t18 default)).toNat) 1), s3.b1.Seals, s3.b1.Sponsor⟩ : GEpoch)⟩)
 else none))
 else none)
 else none)
 else
 (some (s3.b1, 0)))) ⟨0, (⟨0, (Vector.replicate 8 (default : Int)), (Vector.replicate 8 (default : Int)), (Vector.replicate 8 (default : Int))⟩ : GEpoch), r2⟩))))
def con31 : Con τ := { args := [.ty 45], L := [], ret := .tup [.ty 26, .ty 39], L' := [], R := GEpoch × Int, dflt := (default, default), F := fun N a b => F31 N a.1, of := fun r => ((r.1, r.2, ()), ()) }
noncomputable def dat31 : Dat τ := ⟨D0, tblOf [(55, con55), (57, con57)], lpsOf [(5, lp31x5)], 0⟩
theorem ok31 : ConOk E C 31 con31 :=
  con_ok (D := dat31) ⟨d0Ok, eGood, tblOf_ok (l := [(55, con55), (57, con57)]) ⟨ok55, ⟨ok57, trivial⟩⟩⟩ con31 (fun a b => (a.1, a.2.1)) (fun _ _ => rfl) 1000000 (fn := Try.f31) Try.func31 rfl (by kernel_rfl) (by kernel_rfl) rfl (by intro N a b; kernel_rfl)

structure S13x5 where
  some_ : Bool
  t18 : Int
def ts13x5 : List Sl := [.keep, .keep, .junk, .sh (.ty 4), .junk, .junk, .junk, .junk, .keep, .keep, .keep, .keep, .junk, .junk, .junk, .keep, .keep, .keep, .sh (.ty 2), .junk, .junk, .junk, .junk, .junk, .junk, .junk, .junk, .junk, .junk, .junk, .junk, .junk, .junk, .junk, .junk, .junk, .junk, .junk, .junk, .junk, .junk, .junk, .junk, .junk, .junk, .junk, .junk, .junk, .junk, .junk, .junk, .junk, .junk, .junk, .junk, .junk, .junk, .junk, .junk, .junk, .junk, .junk, .junk, .junk, .junk, .junk, .junk, .junk, .junk, .junk, .junk, .junk, .junk, .junk, .junk, .junk, .junk, .junk, .keep]
def hs13x5 : List ESh := [.keep]
def to13x5 (a : Sl.Ts τ ts13x5) (b : ESh.Ts τ hs13x5) : S13x5 := ⟨a.2.2.2.1, a.2.2.2.2.2.2.2.2.2.2.2.2.2.2.2.2.2.2.1⟩
def ot13x5 (s : S13x5) : Sl.Ts τ ts13x5 := ((), (), (), s.some_, (), (), (), (), (), (), (), (), (), (), (), (), (), (), s.t18, (), (), (), (), (), (), (), (), (), (), (), (), (), (), (), (), (), (), (), (), (), (), (), (), (), (), (), (), (), (), (), (), (), (), (), (), (), (), (), (), (), (), (), (), (), (), (), (), (), (), (), (), (), (), (), (), (), (), (), (), ())
def oh13x5 (s : S13x5) : ESh.Ts τ hs13x5 := ((), ())
def lp13x5 : Lp τ := { ts := ts13x5, hs := hs13x5, S := S13x5, to := to13x5, ot := ot13x5, oh := oh13x5, ot_to := fun _ _ => rfl, oh_to := fun _ _ => rfl }
/-- orchard/epoch.Check -/
def F13 (N : Nat) (e : GEpoch) : Option (Bool) :=
 (bif ((decide (e.Number < 0)) || (decide (1024 ≤ e.Number))) then
 (some false)
 else
 (iter N (fun (s1 : S13x5) next2 =>
 (bif (decide (s1.t18 < 8)) then
 (bif (ibB s1.t18 8) then
 (bif (ibB s1.t18 8) then
 (bif (ibB s1.t18 8) then
 (bif ((decide ((vget e.States ((s1.t18).toNat) default) < 0)) || (decide (3 < (vget e.States ((s1.t18).toNat) default)))) then
 (some false)
 else
 (bif ((((!((vget e.States ((s1.t18).toNat) default) == 3)) && (!((vget e.Seals ((s1.t18).toNat) default) == 0))) || (decide ((vget e.Seals ((s1.t18).toNat) default) < 0))) || (decide (1099511627776 < (vget e.Seals ((s1.t18).toNat) default)))) then
 (some false)
 else
 (bif ((((((vget e.States ((s1.t18).toNat) default) == 0) && (!((vget e.Sponsor ((s1.t18).toNat) default) == (-1)))) || (decide ((vget e.Sponsor ((s1.t18).toNat) default) < (-1)))) || (decide (8 ≤ (vget e.Sponsor ((s1.t18).toNat) default)))) || ((vget e.Sponsor ((s1.t18).toNat) default) == s1.t18)) then
 (some false)
 else
 (next2 ⟨(s1.some_ || ((vget e.States ((s1.t18).toNat) default) == 1)), (IntKind.i64.wrap (s1.t18 + 1))⟩))))
 else none)
 else none)
 else none)
 else
 (some s1.some_))) ⟨false, 0⟩))
def con13 : Con τ := { args := [.ty 26], L := [], ret := .ty 4, L' := [], R := Bool, dflt := default, F := fun N a b => F13 N a.1, of := fun r => (r, ()) }
noncomputable def dat13 : Dat τ := ⟨D0, tblOf [], lpsOf [(5, lp13x5)], 0⟩
theorem ok13 : ConOk E C 13 con13 :=
  con_ok (D := dat13) ⟨d0Ok, eGood, tblOf_ok (l := []) trivial⟩ con13 (fun a b => a) (fun _ _ => rfl) 1000000 (fn := Try.f13) Try.func13 rfl (by kernel_rfl) (by kernel_rfl) rfl (by intro N a b; kernel_rfl)

structure S33x3 where
  n : Int
  t8 : Int
def ts33x3 : List Sl := [.keep, .keep, .keep, .sh (.ty 2), .keep, .junk, .keep, .keep, .sh (.ty 2), .junk, .junk, .junk, .junk, .junk, .junk, .junk, .keep]
def hs33x3 : List ESh := [.keep]
def to33x3 (a : Sl.Ts τ ts33x3) (b : ESh.Ts τ hs33x3) : S33x3 := ⟨a.2.2.2.1, a.2.2.2.2.2.2.2.2.1⟩
def ot33x3 (s : S33x3) : Sl.Ts τ ts33x3 := ((), (), (), s.n, (), (), (), (), s.t8, (), (), (), (), (), (), (), (), ())
def oh33x3 (s : S33x3) : ESh.Ts τ hs33x3 := ((), ())
def lp33x3 : Lp τ := { ts := ts33x3, hs := hs33x3, S := S33x3, to := to33x3, ot := ot33x3, oh := oh33x3, ot_to := fun _ _ => rfl, oh_to := fun _ _ => rfl }
/-- orchard/epoch.writers -/
def F33 (N : Nat) (e : GEpoch) : Option (Int) :=
 (iter N (fun (s1 : S33x3) next2 =>
 (bif (decide (s1.t8 < 8)) then
 (bif (ibB s1.t8 8) then
 (bif ((vget e.States ((s1.t8).toNat) default) == 1) then
 (next2 ⟨(IntKind.i64.wrap (s1.n + 1)), (IntKind.i64.wrap (s1.t8 + 1))⟩)
 else
 (next2 ⟨s1.n, (IntKind.i64.wrap (s1.t8 + 1))⟩))
 else none)
 else
 (some s1.n))) ⟨0, 0⟩)
def con33 : Con τ := { args := [.ty 26], L := [], ret := .ty 3, L' := [], R := Int, dflt := default, F := fun N a b => F33 N a.1, of := fun r => (r, ()) }
noncomputable def dat33 : Dat τ := ⟨D0, tblOf [], lpsOf [(3, lp33x3)], 0⟩
theorem ok33 : ConOk E C 33 con33 :=
  con_ok (D := dat33) ⟨d0Ok, eGood, tblOf_ok (l := []) trivial⟩ con33 (fun a b => a) (fun _ _ => rfl) 1000000 (fn := Try.f33) Try.func33 rfl (by kernel_rfl) (by kernel_rfl) rfl (by intro N a b; kernel_rfl)

/-- orchard/epoch.Apply -/
def F12 (N : Nat) (e : GEpoch) (x : GEntry) : Option (GEpoch × Int) :=
 ((F13 N e).bind fun r1 =>
 ((bif (!((!r1) || (((!(x.Kind == 6)) && (!(x.Kind == 7))) && (!(x.Kind == 8))))) then F32 N x.Site else some default).bind fun r2 =>
 (bif (((!r1) || (((!(x.Kind == 6)) && (!(x.Kind == 7))) && (!(x.Kind == 8)))) || (!r2)) then
 (some ((⟨0, (Vector.replicate 8 (default : Int)), (Vector.replicate 8 (default : Int)), (Vector.replicate 8 (default : Int))⟩ : GEpoch), 1))
 else
 (bif (decide (1023 ≤ e.Number)) then
 (some ((⟨0, (Vector.replicate 8 (default : Int)), (Vector.replicate 8 (default : Int)), (Vector.replicate 8 (default : Int))⟩ : GEpoch), 3))
 else
 (bif (ibB x.Site 8) then
 (bif (x.Kind == 6) then
 (bif (!((vget e.States ((x.Site).toNat) default) == 0)) then
 (some ((⟨0, (Vector.replicate 8 (default : Int)), (Vector.replicate 8 (default : Int)), (Vector.replicate 8 (default : Int))⟩ : GEpoch), 171))
 else
 ((F32 N x.Sponsor).bind fun r3 =>
 (bif (!r3) then
 (some ((⟨0, (Vector.replicate 8 (default : Int)), (Vector.replicate 8 (default : Int)), (Vector.replicate 8 (default : Int))⟩ : GEpoch), 1))
 else
 (bif (ibB x.Sponsor 8) then
 (bif (!((vget e.States ((x.Sponsor).toNat) default) == 1)) then
 (some ((⟨0, (Vector.replicate 8 (default : Int)), (Vector.replicate 8 (default : Int)), (Vector.replicate 8 (default : Int))⟩ : GEpoch), 171))
 else
 (bif (ibB x.Site 8) then
 (some ((⟨(IntKind.i64.wrap (e.Number + 1)), (vset e.States ((x.Site).toNat) 1), e.Seals, (vset e.Sponsor ((x.Site).toNat) x.Sponsor)⟩ : GEpoch), 0))
 else none))
 else none))))
 else
 (bif (x.Kind == 7) then
 (bif (!((vget e.States ((x.Site).toNat) default) == 1)) then
 (some ((⟨0, (Vector.replicate 8 (default : Int)), (Vector.replicate 8 (default : Int)), (Vector.replicate 8 (default : Int))⟩ : GEpoch), 171))
 else
 ((F33 N (⟨(IntKind.i64.wrap (e.Number + 1)), e.States, e.Seals, e.Sponsor⟩ : GEpoch)).bind fun r4 =>
 (bif (decide (r4 < 2)) then
 (some ((⟨0, (Vector.replicate 8 (default : Int)), (Vector.replicate 8 (default : Int)), (Vector.replicate 8 (default : Int))⟩ : GEpoch), 170))
 else
 (some ((⟨(IntKind.i64.wrap (e.Number + 1)), (vset e.States ((x.Site).toNat) 2), e.Seals, e.Sponsor⟩ : GEpoch), 0)))))
 else
 (bif (!((vget e.States ((x.Site).toNat) default) == 2)) then
 (some ((⟨0, (Vector.replicate 8 (default : Int)), (Vector.replicate 8 (default : Int)), (Vector.replicate 8 (default : Int))⟩ : GEpoch), 171))
 else
 (bif ((decide (x.Length < 0)) || (decide (1099511627776 < x.Length))) then
 (some ((⟨0, (Vector.replicate 8 (default : Int)), (Vector.replicate 8 (default : Int)), (Vector.replicate 8 (default : Int))⟩ : GEpoch), 1))
 else
 (bif (ibB x.Site 8) then
 (some ((⟨(IntKind.i64.wrap (e.Number + 1)), (vset e.States ((x.Site).toNat) 3), (vset e.Seals ((x.Site).toNat) x.Length), e.Sponsor⟩ : GEpoch), 0))
 else none)))))
 else none)))))
def con12 : Con τ := { args := [.ty 26, .ty 38], L := [], ret := .tup [.ty 26, .ty 39], L' := [], R := GEpoch × Int, dflt := (default, default), F := fun N a b => F12 N a.1 a.2.1, of := fun r => ((r.1, r.2, ()), ()) }
noncomputable def dat12 : Dat τ := ⟨D0, tblOf [(13, con13), (32, con32), (33, con33)], lpsOf [], 0⟩
theorem ok12 : ConOk E C 12 con12 :=
  con_ok (D := dat12) ⟨d0Ok, eGood, tblOf_ok (l := [(13, con13), (32, con32), (33, con33)]) ⟨ok13, ⟨ok32, ⟨ok33, trivial⟩⟩⟩⟩ con12 (fun a b => (a.1, a.2.1)) (fun _ _ => rfl) 1000000 (fn := Try.f12) Try.func12 rfl (by kernel_rfl) (by kernel_rfl) rfl (by intro N a b; kernel_rfl)

structure S10x2 where
  t10 : Int
def ts10x2 : List Sl := [.keep, .keep, .keep, .keep, .junk, .junk, .keep, .junk, .junk, .junk, .sh (.ty 2), .junk, .junk, .junk, .junk, .junk, .junk, .junk, .junk, .junk, .junk, .junk, .junk, .junk, .junk, .junk, .junk, .junk, .junk, .junk, .junk, .junk, .junk, .junk, .junk, .junk, .junk, .junk, .junk, .junk, .junk, .junk, .junk, .junk, .junk, .junk]
def hs10x2 : List ESh := [.keep, .keep]
def to10x2 (a : Sl.Ts τ ts10x2) (b : ESh.Ts τ hs10x2) : S10x2 := ⟨a.2.2.2.2.2.2.2.2.2.2.1⟩
def ot10x2 (s : S10x2) : Sl.Ts τ ts10x2 := ((), (), (), (), (), (), (), (), (), (), s.t10, (), (), (), (), (), (), (), (), (), (), (), (), (), (), (), (), (), (), (), (), (), (), (), (), (), (), (), (), (), (), (), (), (), (), (), ())
def oh10x2 (s : S10x2) : ESh.Ts τ hs10x2 := ((), (), ())
def lp10x2 : Lp τ := { ts := ts10x2, hs := hs10x2, S := S10x2, to := to10x2, ot := ot10x2, oh := oh10x2, ot_to := fun _ _ => rfl, oh_to := fun _ _ => rfl }
structure S10x5 where
  t28 : Int
def ts10x5 : List Sl := [.keep, .keep, .keep, .keep, .junk, .keep, .keep, .junk, .junk, .junk, .keep, .keep, .keep, .keep, .keep, .keep, .keep, .keep, .keep, .keep, .keep, .keep, .keep, .keep, .keep, .keep, .keep, .keep, .sh (.ty 2), .junk, .junk, .junk, .junk, .junk, .junk, .junk, .junk, .junk, .junk, .junk, .junk, .junk, .junk, .junk, .junk, .keep]
def hs10x5 : List ESh := [.keep, .keep]
def to10x5 (a : Sl.Ts τ ts10x5) (b : ESh.Ts τ hs10x5) : S10x5 := ⟨a.2.2.2.2.2.2.2.2.2.2.2.2.2.2.2.2.2.2.2.2.2.2.2.2.2.2.2.2.1⟩
def ot10x5 (s : S10x5) : Sl.Ts τ ts10x5 := ((), (), (), (), (), (), (), (), (), (), (), (), (), (), (), (), (), (), (), (), (), (), (), (), (), (), (), (), s.t28, (), (), (), (), (), (), (), (), (), (), (), (), (), (), (), (), (), ())
def oh10x5 (s : S10x5) : ESh.Ts τ hs10x5 := ((), (), ())
def lp10x5 : Lp τ := { ts := ts10x5, hs := hs10x5, S := S10x5, to := to10x5, ot := ot10x5, oh := oh10x5, ot_to := fun _ _ => rfl, oh_to := fun _ _ => rfl }
/-- orchard/epoch.Follows -/
def F10 (N : Nat) (a : GEpoch) (b : GEpoch) : Option (Bool) :=
 (iter N (fun (s1 : S10x2) next2 =>
 (bif (decide (s1.t10 < 8)) then
 (bif (ibB s1.t10 8) then
 (bif (ibB s1.t10 8) then
 (iter N (fun (s3 : S10x5) next4 =>
 (bif (decide (s3.t28 < 3)) then
 (bif (ibB s3.t28 3) then
 ((F12 N a (⟨(vget (vset (vset (vset (Vector.replicate 3 (default : GEntry)) 0 (⟨6, 0, 0, (⟨(⟨0, 0⟩ : GStamp), 0, 0, 0, [], [], []⟩ : GOp), 0, 0, [], (⟨0, (Vector.replicate 8 (default : Int)), (Vector.replicate 8 (default : Int)), (Vector.replicate 8 (default : Int))⟩ : GEpoch), 0, (Vector.replicate 8 (default : Int)), 0, (⟨0, 0, 0, []⟩ : GPart), s1.t10, (vget b.Sponsor ((s1.t10).toNat) default), 0⟩ : GEntry)) 1 (⟨7, 0, 0, (⟨(⟨0, 0⟩ : GStamp), 0, 0, 0, [], [], []⟩ : GOp), 0, 0, [], (⟨0, (Vector.replicate 8 (default : Int)), (Vector.replicate 8 (default : Int)), (Vector.replicate 8 (default : Int))⟩ : GEpoch), 0, (Vector.replicate 8 (default : Int)), 0, (⟨0, 0, 0, []⟩ : GPart), s1.t10, 0, 0⟩ : GEntry)) 2 (⟨8, 0, 0, (⟨(⟨0, 0⟩ : GStamp), 0, 0, 0, [], [], []⟩ : GOp), 0, 0, [], (⟨0, (Vector.replicate 8 (default : Int)), (Vector.replicate 8 (default : Int)), (Vector.replicate 8 (default : Int))⟩ : GEpoch), 0, (Vector.replicate 8 (default : Int)), 0, (⟨0, 0, 0, []⟩ : GPart), s1.t10, 0, (vget b.Seals ((s1.t10).toNat) default)⟩ : GEntry)) ((s3.t28).toNat) default).Kind, (vget (vset (vset (vset (Vector.replicate 3 (default : GEntry)) 0 (⟨6, 0, 0, (⟨(⟨0, 0⟩ : GStamp), 0, 0, 0, [], [], []⟩ : GOp), 0, 0, [], (⟨0, (Vector.replicate 8 (default : Int)), (Vector.replicate 8 (default : Int)), (Vector.replicate 8 (default : Int))⟩ : GEpoch), 0, (Vector.replicate 8 (default : Int)), 0, (⟨0, 0, 0, []⟩ : GPart), s1.t10, (vget b.Sponsor ((s1.t10).toNat) default), 0⟩ : GEntry)) 1 (⟨7, 0, 0, (⟨(⟨0, 0⟩ : GStamp), 0, 0, 0, [], [], []⟩ : GOp), 0, 0, [], (⟨0, (Vector.replicate 8 (default : Int)), (Vector.replicate 8 (default : Int)), (Vector.replicate 8 (default : Int))⟩ : GEpoch), 0, (Vector.replicate 8 (default : Int)), 0, (⟨0, 0, 0, []⟩ : GPart), s1.t10, 0, 0⟩ : GEntry)) 2 (⟨8, 0, 0, (⟨(⟨0, 0⟩ : GStamp), 0, 0, 0, [], [], []⟩ : GOp), 0, 0, [], (⟨0, (Vector.replicate 8 (default : Int)), (Vector.replicate 8 (default : Int)), (Vector.replicate 8 (default : Int))⟩ : GEpoch), 0, (Vector.replicate 8 (default : Int)), 0, (⟨0, 0, 0, []⟩ : GPart), s1.t10, 0, (vget b.Seals ((s1.t10).toNat) default)⟩ : GEntry)) ((s3.t28).toNat) default).Session, (vget (vset (vset (vset (Vector.replicate 3 (default : GEntry)) 0 (⟨6, 0, 0, (⟨(⟨0, 0⟩ : GStamp), 0, 0, 0, [], [], []⟩ : GOp), 0, 0, [], (⟨0, (Vector.replicate 8 (default : Int)), (Vector.replicate 8 (default : Int)), (Vector.replicate 8 (default : Int))⟩ : GEpoch), 0, (Vector.replicate 8 (default : Int)), 0, (⟨0, 0, 0, []⟩ : GPart), s1.t10, (vget b.Sponsor ((s1.t10).toNat) default), 0⟩ : GEntry)) 1 (⟨7, 0, 0, (⟨(⟨0, 0⟩ : GStamp), 0, 0, 0, [], [], []⟩ : GOp), 0, 0, [], (⟨0, (Vector.replicate 8 (default : Int)), (Vector.replicate 8 (default : Int)), (Vector.replicate 8 (default : Int))⟩ : GEpoch), 0, (Vector.replicate 8 (default : Int)), 0, (⟨0, 0, 0, []⟩ : GPart), s1.t10, 0, 0⟩ : GEntry)) 2 (⟨8, 0, 0, (⟨(⟨0, 0⟩ : GStamp), 0, 0, 0, [], [], []⟩ : GOp), 0, 0, [], (⟨0, (Vector.replicate 8 (default : Int)), (Vector.replicate 8 (default : Int)), (Vector.replicate 8 (default : Int))⟩ : GEpoch), 0, (Vector.replicate 8 (default : Int)), 0, (⟨0, 0, 0, []⟩ : GPart), s1.t10, 0, (vget b.Seals ((s1.t10).toNat) default)⟩ : GEntry)) ((s3.t28).toNat) default).Request, (⟨(((vget (vset (vset (vset (Vector.replicate 3 (default : GEntry)) 0 (⟨6, 0, 0, (⟨(⟨0, 0⟩ : GStamp), 0, 0, 0, [], [], []⟩ : GOp), 0, 0, [], (⟨0, (Vector.replicate 8 (default : Int)), (Vector.replicate 8 (default : Int)), (Vector.replicate 8 (default : Int))⟩ : GEpoch), 0, (Vector.replicate 8 (default : Int)), 0, (⟨0, 0, 0, []⟩ : GPart), s1.t10, (vget b.Sponsor ((s1.t10).toNat) default), 0⟩ : GEntry)) 1 (⟨7, 0, 0, (⟨(⟨0, 0⟩ : GStamp), 0, 0, 0, [], [], []⟩ : GOp), 0, 0, [], (⟨0, (Vector.replicate 8 (default : Int)), (Vector.replicate 8 (default : Int)), (Vector.replicate 8 (default : Int))⟩ : GEpoch), 0, (Vector.replicate 8 (default : Int)), 0, (⟨0, 0, 0, []⟩ : GPart), s1.t10, 0, 0⟩ : GEntry)) 2 (⟨8, 0, 0, (⟨(⟨0, 0⟩ : GStamp), 0, 0, 0, [], [], []⟩ : GOp), 0, 0, [], (⟨0, (Vector.replicate 8 (default : Int)), (Vector.replicate 8 (default : Int)), (Vector.replicate 8 (default : Int))⟩ : GEpoch), 0, (Vector.replicate 8 (default : Int)), 0, (⟨0, 0, 0, []⟩ : GPart), s1.t10, 0, (vget b.Seals ((s1.t10).toNat) default)⟩ : GEntry)) ((s3.t28).toNat) default).Op).Stamp), ((vget (vset (vset (vset (Vector.replicate 3 (default : GEntry)) 0 (⟨6, 0, 0, (⟨(⟨0, 0⟩ : GStamp), 0, 0, 0, [], [], []⟩ : GOp), 0, 0, [], (⟨0, (Vector.replicate 8 (default : Int)), (Vector.replicate 8 (default : Int)), (Vector.replicate 8 (default : Int))⟩ : GEpoch), 0, (Vector.replicate 8 (default : Int)), 0, (⟨0, 0, 0, []⟩ : GPart), s1.t10, (vget b.Sponsor ((s1.t10).toNat) default), 0⟩ : GEntry)) 1 (⟨7, 0, 0, (⟨(⟨0, 0⟩ : GStamp), 0, 0, 0, [], [], []⟩ : GOp), 0, 0, [], (⟨0, (Vector.replicate 8 (default : Int)), (Vector.replicate 8 (default : Int)), (Vector.replicate 8 (default : Int))⟩ : GEpoch), 0, (Vector.replicate 8 (default : Int)), 0, (⟨0, 0, 0, []⟩ : GPart), s1.t10, 0, 0⟩ : GEntry)) 2 (⟨8, 0, 0, (⟨(⟨0, 0⟩ : GStamp), 0, 0, 0, [], [], []⟩ : GOp), 0, 0, [], (⟨0, (Vector.replicate 8 (default : Int)), (Vector.replicate 8 (default : Int)), (Vector.replicate 8 (default : Int))⟩ : GEpoch), 0, (Vector.replicate 8 (default : Int)), 0, (⟨0, 0, 0, []⟩ : GPart), s1.t10, 0, (vget b.Seals ((s1.t10).toNat) default)⟩ : GEntry)) ((s3.t28).toNat) default).Op).Kind, ((vget (vset (vset (vset (Vector.replicate 3 (default : GEntry)) 0 (⟨6, 0, 0, (⟨(⟨0, 0⟩ : GStamp), 0, 0, 0, [], [], []⟩ : GOp), 0, 0, [], (⟨0, (Vector.replicate 8 (default : Int)), (Vector.replicate 8 (default : Int)), (Vector.replicate 8 (default : Int))⟩ : GEpoch), 0, (Vector.replicate 8 (default : Int)), 0, (⟨0, 0, 0, []⟩ : GPart), s1.t10, (vget b.Sponsor ((s1.t10).toNat) default), 0⟩ : GEntry)) 1 (⟨7, 0, 0, (⟨(⟨0, 0⟩ : GStamp), 0, 0, 0, [], [], []⟩ : GOp), 0, 0, [], (⟨0, (Vector.replicate 8 (default : Int)), (Vector.replicate 8 (default : Int)), (Vector.replicate 8 (default : Int))⟩ : GEpoch), 0, (Vector.replicate 8 (default : Int)), 0, (⟨0, 0, 0, []⟩ : GPart), s1.t10, 0, 0⟩ : GEntry)) 2 (⟨8, 0, 0, (⟨(⟨0, 0⟩ : GStamp), 0, 0, 0, [], [], []⟩ : GOp), 0, 0, [], (⟨0, (Vector.replicate 8 (default : Int)), (Vector.replicate 8 (default : Int)), (Vector.replicate 8 (default : Int))⟩ : GEpoch), 0, (Vector.replicate 8 (default : Int)), 0, (⟨0, 0, 0, []⟩ : GPart), s1.t10, 0, (vget b.Seals ((s1.t10).toNat) default)⟩ : GEntry)) ((s3.t28).toNat) default).Op).Node, ((vget (vset (vset (vset (Vector.replicate 3 (default : GEntry)) 0 (⟨6, 0, 0, (⟨(⟨0, 0⟩ : GStamp), 0, 0, 0, [], [], []⟩ : GOp), 0, 0, [], (⟨0, (Vector.replicate 8 (default : Int)), (Vector.replicate 8 (default : Int)), (Vector.replicate 8 (default : Int))⟩ : GEpoch), 0, (Vector.replicate 8 (default : Int)), 0, (⟨0, 0, 0, []⟩ : GPart), s1.t10, (vget b.Sponsor ((s1.t10).toNat) default), 0⟩ : GEntry)) 1 (⟨7, 0, 0, (⟨(⟨0, 0⟩ : GStamp), 0, 0, 0, [], [], []⟩ : GOp), 0, 0, [], (⟨0, (Vector.replicate 8 (default : Int)), (Vector.replicate 8 (default : Int)), (Vector.replicate 8 (default : Int))⟩ : GEpoch), 0, (Vector.replicate 8 (default : Int)), 0, (⟨0, 0, 0, []⟩ : GPart), s1.t10, 0, 0⟩ : GEntry)) 2 (⟨8, 0, 0, (⟨(⟨0, 0⟩ : GStamp), 0, 0, 0, [], [], []⟩ : GOp), 0, 0, [], (⟨0, (Vector.replicate 8 (default : Int)), (Vector.replicate 8 (default : Int)), (Vector.replicate 8 (default : Int))⟩ : GEpoch), 0, (Vector.replicate 8 (default : Int)), 0, (⟨0, 0, 0, []⟩ : GPart), s1.t10, 0, (vget b.Seals ((s1.t10).toNat) default)⟩ : GEntry)) ((s3.t28).toNat) default).Op).Parent, ((vget (vset (vset (vset (Vector.replicate 3 (default : GEntry)) 0 (⟨6, 0, 0, (⟨(⟨0, 0⟩ : GStamp), 0, 0, 0, [], [], []⟩ : GOp), 0, 0, [], (⟨0, (Vector.replicate 8 (default : Int)), (Vector.replicate 8 (default : Int)), (Vector.replicate 8 (default : Int))⟩ : GEpoch), 0, (Vector.replicate 8 (default : Int)), 0, (⟨0, 0, 0, []⟩ : GPart), s1.t10, (vget b.Sponsor ((s1.t10).toNat) default), 0⟩ : GEntry)) 1 (⟨7, 0, 0, (⟨(⟨0, 0⟩ : GStamp), 0, 0, 0, [], [], []⟩ : GOp), 0, 0, [], (⟨0, (Vector.replicate 8 (default : Int)), (Vector.replicate 8 (default : Int)), (Vector.replicate 8 (default : Int))⟩ : GEpoch), 0, (Vector.replicate 8 (default : Int)), 0, (⟨0, 0, 0, []⟩ : GPart), s1.t10, 0, 0⟩ : GEntry)) 2 (⟨8, 0, 0, (⟨(⟨0, 0⟩ : GStamp), 0, 0, 0, [], [], []⟩ : GOp), 0, 0, [], (⟨0, (Vector.replicate 8 (default : Int)), (Vector.replicate 8 (default : Int)), (Vector.replicate 8 (default : Int))⟩ : GEpoch), 0, (Vector.replicate 8 (default : Int)), 0, (⟨0, 0, 0, []⟩ : GPart), s1.t10, 0, (vget b.Seals ((s1.t10).toNat) default)⟩ : GEntry)) ((s3.t28).toNat) default).Op).Name, ((vget (vset (vset (vset (Vector.replicate 3 (default : GEntry)) 0 (⟨6, 0, 0, (⟨(⟨0, 0⟩ : GStamp), 0, 0, 0, [], [], []⟩ : GOp), 0, 0, [], (⟨0, (Vector.replicate 8 (default : Int)), (Vector.replicate 8 (default : Int)), (Vector.replicate 8 (default : Int))⟩ : GEpoch), 0, (Vector.replicate 8 (default : Int)), 0, (⟨0, 0, 0, []⟩ : GPart), s1.t10, (vget b.Sponsor ((s1.t10).toNat) default), 0⟩ : GEntry)) 1 (⟨7, 0, 0, (⟨(⟨0, 0⟩ : GStamp), 0, 0, 0, [], [], []⟩ : GOp), 0, 0, [], (⟨0, (Vector.replicate 8 (default : Int)), (Vector.replicate 8 (default : Int)), (Vector.replicate 8 (default : Int))⟩ : GEpoch), 0, (Vector.replicate 8 (default : Int)), 0, (⟨0, 0, 0, []⟩ : GPart), s1.t10, 0, 0⟩ : GEntry)) 2 (⟨8, 0, 0, (⟨(⟨0, 0⟩ : GStamp), 0, 0, 0, [], [], []⟩ : GOp), 0, 0, [], (⟨0, (Vector.replicate 8 (default : Int)), (Vector.replicate 8 (default : Int)), (Vector.replicate 8 (default : Int))⟩ : GEpoch), 0, (Vector.replicate 8 (default : Int)), 0, (⟨0, 0, 0, []⟩ : GPart), s1.t10, 0, (vget b.Seals ((s1.t10).toNat) default)⟩ : GEntry)) ((s3.t28).toNat) default).Op).Key, ((vget (vset (vset (vset (Vector.replicate 3 (default : GEntry)) 0 (⟨6, 0, 0, (⟨(⟨0, 0⟩ : GStamp), 0, 0, 0, [], [], []⟩ : GOp), 0, 0, [], (⟨0, (Vector.replicate 8 (default : Int)), (Vector.replicate 8 (default : Int)), (Vector.replicate 8 (default : Int))⟩ : GEpoch), 0, (Vector.replicate 8 (default : Int)), 0, (⟨0, 0, 0, []⟩ : GPart), s1.t10, (vget b.Sponsor ((s1.t10).toNat) default), 0⟩ : GEntry)) 1 (⟨7, 0, 0, (⟨(⟨0, 0⟩ : GStamp), 0, 0, 0, [], [], []⟩ : GOp), 0, 0, [], (⟨0, (Vector.replicate 8 (default : Int)), (Vector.replicate 8 (default : Int)), (Vector.replicate 8 (default : Int))⟩ : GEpoch), 0, (Vector.replicate 8 (default : Int)), 0, (⟨0, 0, 0, []⟩ : GPart), s1.t10, 0, 0⟩ : GEntry)) 2 (⟨8, 0, 0, (⟨(⟨0, 0⟩ : GStamp), 0, 0, 0, [], [], []⟩ : GOp), 0, 0, [], (⟨0, (Vector.replicate 8 (default : Int)), (Vector.replicate 8 (default : Int)), (Vector.replicate 8 (default : Int))⟩ : GEpoch), 0, (Vector.replicate 8 (default : Int)), 0, (⟨0, 0, 0, []⟩ : GPart), s1.t10, 0, (vget b.Seals ((s1.t10).toNat) default)⟩ : GEntry)) ((s3.t28).toNat) default).Op).Value⟩ : GOp), (vget (vset (vset (vset (Vector.replicate 3 (default : GEntry)) 0 (⟨6, 0, 0, (⟨(⟨0, 0⟩ : GStamp), 0, 0, 0, [], [], []⟩ : GOp), 0, 0, [], (⟨0, (Vector.replicate 8 (default : Int)), (Vector.replicate 8 (default : Int)), (Vector.replicate 8 (default : Int))⟩ : GEpoch), 0, (Vector.replicate 8 (default : Int)), 0, (⟨0, 0, 0, []⟩ : GPart), s1.t10, (vget b.Sponsor ((s1.t10).toNat) default), 0⟩ : GEntry)) 1 (⟨7, 0, 0, (⟨(⟨0, 0⟩ : GStamp), 0, 0, 0, [], [], []⟩ : GOp), 0, 0, [], (⟨0, (Vector.replicate 8 (default : Int)), (Vector.replicate 8 (default : Int)), (Vector.replicate 8 (default : Int))⟩ : GEpoch), 0, (Vector.replicate 8 (default : Int)), 0, (⟨0, 0, 0, []⟩ : GPart), s1.t10, 0, 0⟩ : GEntry)) 2 (⟨8, 0, 0, (⟨(⟨0, 0⟩ : GStamp), 0, 0, 0, [], [], []⟩ : GOp), 0, 0, [], (⟨0, (Vector.replicate 8 (default : Int)), (Vector.replicate 8 (default : Int)), (Vector.replicate 8 (default : Int))⟩ : GEpoch), 0, (Vector.replicate 8 (default : Int)), 0, (⟨0, 0, 0, []⟩ : GPart), s1.t10, 0, (vget b.Seals ((s1.t10).toNat) default)⟩ : GEntry)) ((s3.t28).toNat) default).Origin, (vget (vset (vset (vset (Vector.replicate 3 (default : GEntry)) 0 (⟨6, 0, 0, (⟨(⟨0, 0⟩ : GStamp), 0, 0, 0, [], [], []⟩ : GOp), 0, 0, [], (⟨0, (Vector.replicate 8 (default : Int)), (Vector.replicate 8 (default : Int)), (Vector.replicate 8 (default : Int))⟩ : GEpoch), 0, (Vector.replicate 8 (default : Int)), 0, (⟨0, 0, 0, []⟩ : GPart), s1.t10, (vget b.Sponsor ((s1.t10).toNat) default), 0⟩ : GEntry)) 1 (⟨7, 0, 0, (⟨(⟨0, 0⟩ : GStamp), 0, 0, 0, [], [], []⟩ : GOp), 0, 0, [], (⟨0, (Vector.replicate 8 (default : Int)), (Vector.replicate 8 (default : Int)), (Vector.replicate 8 (default : Int))⟩ : GEpoch), 0, (Vector.replicate 8 (default : Int)), 0, (⟨0, 0, 0, []⟩ : GPart), s1.t10, 0, 0⟩ : GEntry)) 2 (⟨8, 0, 0, (⟨(⟨0, 0⟩ : GStamp), 0, 0, 0, [], [], []⟩ : GOp), 0, 0, [], (⟨0, (Vector.replicate 8 (default : Int)), (Vector.replicate 8 (default : Int)), (Vector.replicate 8 (default : Int))⟩ : GEpoch), 0, (Vector.replicate 8 (default : Int)), 0, (⟨0, 0, 0, []⟩ : GPart), s1.t10, 0, (vget b.Seals ((s1.t10).toNat) default)⟩ : GEntry)) ((s3.t28).toNat) default).Seq, (vget (vset (vset (vset (Vector.replicate 3 (default : GEntry)) 0 (⟨6, 0, 0, (⟨(⟨0, 0⟩ : GStamp), 0, 0, 0, [], [], []⟩ : GOp), 0, 0, [], (⟨0, (Vector.replicate 8 (default : Int)), (Vector.replicate 8 (default : Int)), (Vector.replicate 8 (default : Int))⟩ : GEpoch), 0, (Vector.replicate 8 (default : Int)), 0, (⟨0, 0, 0, []⟩ : GPart), s1.t10, (vget b.Sponsor ((s1.t10).toNat) default), 0⟩ : GEntry)) 1 (⟨7, 0, 0, (⟨(⟨0, 0⟩ : GStamp), 0, 0, 0, [], [], []⟩ : GOp), 0, 0, [], (⟨0, (Vector.replicate 8 (default : Int)), (Vector.replicate 8 (default : Int)), (Vector.replicate 8 (default : Int))⟩ : GEpoch), 0, (Vector.replicate 8 (default : Int)), 0, (⟨0, 0, 0, []⟩ : GPart), s1.t10, 0, 0⟩ : GEntry)) 2 (⟨8, 0, 0, (⟨(⟨0, 0⟩ : GStamp), 0, 0, 0, [], [], []⟩ : GOp), 0, 0, [], (⟨0, (Vector.replicate 8 (default : Int)), (Vector.replicate 8 (default : Int)), (Vector.replicate 8 (default : Int))⟩ : GEpoch), 0, (Vector.replicate 8 (default : Int)), 0, (⟨0, 0, 0, []⟩ : GPart), s1.t10, 0, (vget b.Seals ((s1.t10).toNat) default)⟩ : GEntry)) ((s3.t28).toNat) default).Ops, ((vget (vset (vset (vset (Vector.replicate 3 (default : GEntry)) 0 (⟨6, 0, 0, (⟨(⟨0, 0⟩ : GStamp), 0, 0, 0, [], [], []⟩ : GOp), 0, 0, [], (⟨0, (Vector.replicate 8 (default : Int)), (Vector.replicate 8 (default : Int)), (Vector.replicate 8 (default : Int))⟩ : GEpoch), 0, (Vector.replicate 8 (default : Int)), 0, (⟨0, 0, 0, []⟩ : GPart), s1.t10, (vget b.Sponsor ((s1.t10).toNat) default), 0⟩ : GEntry)) 1 (⟨7, 0, 0, (⟨(⟨0, 0⟩ : GStamp), 0, 0, 0, [], [], []⟩ : GOp), 0, 0, [], (⟨0, (Vector.replicate 8 (default : Int)), (Vector.replicate 8 (default : Int)), (Vector.replicate 8 (default : Int))⟩ : GEpoch), 0, (Vector.replicate 8 (default : Int)), 0, (⟨0, 0, 0, []⟩ : GPart), s1.t10, 0, 0⟩ : GEntry)) 2 (⟨8, 0, 0, (⟨(⟨0, 0⟩ : GStamp), 0, 0, 0, [], [], []⟩ : GOp), 0, 0, [], (⟨0, (Vector.replicate 8 (default : Int)), (Vector.replicate 8 (default : Int)), (Vector.replicate 8 (default : Int))⟩ : GEpoch), 0, (Vector.replicate 8 (default : Int)), 0, (⟨0, 0, 0, []⟩ : GPart), s1.t10, 0, (vget b.Seals ((s1.t10).toNat) default)⟩ : GEntry)) ((s3.t28).toNat) default).Epoch), (vget (vset (vset (vset (Vector.replicate 3 (default : GEntry)) 0 (⟨6, 0, 0, (⟨(⟨0, 0⟩ : GStamp), 0, 0, 0, [], [], []⟩ : GOp), 0, 0, [], (⟨0, (Vector.replicate 8 (default : Int)), (Vector.replicate 8 (default : Int)), (Vector.replicate 8 (default : Int))⟩ : GEpoch), 0, (Vector.replicate 8 (default : Int)), 0, (⟨0, 0, 0, []⟩ : GPart), s1.t10, (vget b.Sponsor ((s1.t10).toNat) default), 0⟩ : GEntry)) 1 (⟨7, 0, 0, (⟨(⟨0, 0⟩ : GStamp), 0, 0, 0, [], [], []⟩ : GOp), 0, 0, [], (⟨0, (Vector.replicate 8 (default : Int)), (Vector.replicate 8 (default : Int)), (Vector.replicate 8 (default : Int))⟩ : GEpoch), 0, (Vector.replicate 8 (default : Int)), 0, (⟨0, 0, 0, []⟩ : GPart), s1.t10, 0, 0⟩ : GEntry)) 2 (⟨8, 0, 0, (⟨(⟨0, 0⟩ : GStamp), 0, 0, 0, [], [], []⟩ : GOp), 0, 0, [], (⟨0, (Vector.replicate 8 (default : Int)), (Vector.replicate 8 (default : Int)), (Vector.replicate 8 (default : Int))⟩ : GEpoch), 0, (Vector.replicate 8 (default : Int)), 0, (⟨0, 0, 0, []⟩ : GPart), s1.t10, 0, (vget b.Seals ((s1.t10).toNat) default)⟩ : GEntry)) ((s3.t28).toNat) default).From, (vget (vset (vset (vset (Vector.replicate 3 (default : GEntry)) 0 (⟨6, 0, 0, (⟨(⟨0, 0⟩ : GStamp), 0, 0, 0, [], [], []⟩ : GOp), 0, 0, [], (⟨0, (Vector.replicate 8 (default : Int)), (Vector.replicate 8 (default : Int)), (Vector.replicate 8 (default : Int))⟩ : GEpoch), 0, (Vector.replicate 8 (default : Int)), 0, (⟨0, 0, 0, []⟩ : GPart), s1.t10, (vget b.Sponsor ((s1.t10).toNat) default), 0⟩ : GEntry)) 1 (⟨7, 0, 0, (⟨(⟨0, 0⟩ : GStamp), 0, 0, 0, [], [], []⟩ : GOp), 0, 0, [], (⟨0, (Vector.replicate 8 (default : Int)), (Vector.replicate 8 (default : Int)), (Vector.replicate 8 (default : Int))⟩ : GEpoch), 0, (Vector.replicate 8 (default : Int)), 0, (⟨0, 0, 0, []⟩ : GPart), s1.t10, 0, 0⟩ : GEntry)) 2 (⟨8, 0, 0, (⟨(⟨0, 0⟩ : GStamp), 0, 0, 0, [], [], []⟩ : GOp), 0, 0, [], (⟨0, (Vector.replicate 8 (default : Int)), (Vector.replicate 8 (default : Int)), (Vector.replicate 8 (default : Int))⟩ : GEpoch), 0, (Vector.replicate 8 (default : Int)), 0, (⟨0, 0, 0, []⟩ : GPart), s1.t10, 0, (vget b.Seals ((s1.t10).toNat) default)⟩ : GEntry)) ((s3.t28).toNat) default).Vector_, (vget (vset (vset (vset (Vector.replicate 3 (default : GEntry)) 0 (⟨6, 0, 0, (⟨(⟨0, 0⟩ : GStamp), 0, 0, 0, [], [], []⟩ : GOp), 0, 0, [], (⟨0, (Vector.replicate 8 (default : Int)), (Vector.replicate 8 (default : Int)), (Vector.replicate 8 (default : Int))⟩ : GEpoch), 0, (Vector.replicate 8 (default : Int)), 0, (⟨0, 0, 0, []⟩ : GPart), s1.t10, (vget b.Sponsor ((s1.t10).toNat) default), 0⟩ : GEntry)) 1 (⟨7, 0, 0, (⟨(⟨0, 0⟩ : GStamp), 0, 0, 0, [], [], []⟩ : GOp), 0, 0, [], (⟨0, (Vector.replicate 8 (default : Int)), (Vector.replicate 8 (default : Int)), (Vector.replicate 8 (default : Int))⟩ : GEpoch), 0, (Vector.replicate 8 (default : Int)), 0, (⟨0, 0, 0, []⟩ : GPart), s1.t10, 0, 0⟩ : GEntry)) 2 (⟨8, 0, 0, (⟨(⟨0, 0⟩ : GStamp), 0, 0, 0, [], [], []⟩ : GOp), 0, 0, [], (⟨0, (Vector.replicate 8 (default : Int)), (Vector.replicate 8 (default : Int)), (Vector.replicate 8 (default : Int))⟩ : GEpoch), 0, (Vector.replicate 8 (default : Int)), 0, (⟨0, 0, 0, []⟩ : GPart), s1.t10, 0, (vget b.Seals ((s1.t10).toNat) default)⟩ : GEntry)) ((s3.t28).toNat) default).Clock, ((vget (vset (vset (vset (Vector.replicate 3 (default : GEntry)) 0 (⟨6, 0, 0, (⟨(⟨0, 0⟩ : GStamp), 0, 0, 0, [], [], []⟩ : GOp), 0, 0, [], (⟨0, (Vector.replicate 8 (default : Int)), (Vector.replicate 8 (default : Int)), (Vector.replicate 8 (default : Int))⟩ : GEpoch), 0, (Vector.replicate 8 (default : Int)), 0, (⟨0, 0, 0, []⟩ : GPart), s1.t10, (vget b.Sponsor ((s1.t10).toNat) default), 0⟩ : GEntry)) 1 (⟨7, 0, 0, (⟨(⟨0, 0⟩ : GStamp), 0, 0, 0, [], [], []⟩ : GOp), 0, 0, [], (⟨0, (Vector.replicate 8 (default : Int)), (Vector.replicate 8 (default : Int)), (Vector.replicate 8 (default : Int))⟩ : GEpoch), 0, (Vector.replicate 8 (default : Int)), 0, (⟨0, 0, 0, []⟩ : GPart), s1.t10, 0, 0⟩ : GEntry)) 2 (⟨8, 0, 0, (⟨(⟨0, 0⟩ : GStamp), 0, 0, 0, [], [], []⟩ : GOp), 0, 0, [], (⟨0, (Vector.replicate 8 (default : Int)), (Vector.replicate 8 (default : Int)), (Vector.replicate 8 (default : Int))⟩ : GEpoch), 0, (Vector.replicate 8 (default : Int)), 0, (⟨0, 0, 0, []⟩ : GPart), s1.t10, 0, (vget b.Seals ((s1.t10).toNat) default)⟩ : GEntry)) ((s3.t28).toNat) default).Part), (vget (vset (vset (vset (Vector.replicate 3 (default : GEntry)) 0 (⟨6, 0, 0, (⟨(⟨0, 0⟩ : GStamp), 0, 0, 0, [], [], []⟩ : GOp), 0, 0, [], (⟨0, (Vector.replicate 8 (default : Int)), (Vector.replicate 8 (default : Int)), (Vector.replicate 8 (default : Int))⟩ : GEpoch), 0, (Vector.replicate 8 (default : Int)), 0, (⟨0, 0, 0, []⟩ : GPart), s1.t10, (vget b.Sponsor ((s1.t10).toNat) default), 0⟩ : GEntry)) 1 (⟨7, 0, 0, (⟨(⟨0, 0⟩ : GStamp), 0, 0, 0, [], [], []⟩ : GOp), 0, 0, [], (⟨0, (Vector.replicate 8 (default : Int)), (Vector.replicate 8 (default : Int)), (Vector.replicate 8 (default : Int))⟩ : GEpoch), 0, (Vector.replicate 8 (default : Int)), 0, (⟨0, 0, 0, []⟩ : GPart), s1.t10, 0, 0⟩ : GEntry)) 2 (⟨8, 0, 0, (⟨(⟨0, 0⟩ : GStamp), 0, 0, 0, [], [], []⟩ : GOp), 0, 0, [], (⟨0, (Vector.replicate 8 (default : Int)), (Vector.replicate 8 (default : Int)), (Vector.replicate 8 (default : Int))⟩ : GEpoch), 0, (Vector.replicate 8 (default : Int)), 0, (⟨0, 0, 0, []⟩ : GPart), s1.t10, 0, (vget b.Seals ((s1.t10).toNat) default)⟩ : GEntry)) ((s3.t28).toNat) default).Site, (vget (vset (vset (vset (Vector.replicate 3 (default : GEntry)) 0 (⟨6, 0, 0, (⟨(⟨0, 0⟩ : GStamp), 0, 0, 0, [], [], []⟩ : GOp), 0, 0, [], (⟨0, (Vector.replicate 8 (default : Int)), (Vector.replicate 8 (default : Int)), (Vector.replicate 8 (default : Int))⟩ : GEpoch), 0, (Vector.replicate 8 (default : Int)), 0, (⟨0, 0, 0, []⟩ : GPart), s1.t10, (vget b.Sponsor ((s1.t10).toNat) default), 0⟩ : GEntry)) 1 (⟨7, 0, 0, (⟨(⟨0, 0⟩ : GStamp), 0, 0, 0, [], [], []⟩ : GOp), 0, 0, [], (⟨0, (Vector.replicate 8 (default : Int)), (Vector.replicate 8 (default : Int)), (Vector.replicate 8 (default : Int))⟩ : GEpoch), 0, (Vector.replicate 8 (default : Int)), 0, (⟨0, 0, 0, []⟩ : GPart), s1.t10, 0, 0⟩ : GEntry)) 2 (⟨8, 0, 0, (⟨(⟨0, 0⟩ : GStamp), 0, 0, 0, [], [], []⟩ : GOp), 0, 0, [], (⟨0, (Vector.replicate 8 (default : Int)), (Vector.replicate 8 (default : Int)), (Vector.replicate 8 (default : Int))⟩ : GEpoch), 0, (Vector.replicate 8 (default : Int)), 0, (⟨0, 0, 0, []⟩ : GPart), s1.t10, 0, (vget b.Seals ((s1.t10).toNat) default)⟩ : GEntry)) ((s3.t28).toNat) default).Sponsor, (vget (vset (vset (vset (Vector.replicate 3 (default : GEntry)) 0 (⟨6, 0, 0, (⟨(⟨0, 0⟩ : GStamp), 0, 0, 0, [], [], []⟩ : GOp), 0, 0, [], (⟨0, (Vector.replicate 8 (default : Int)), (Vector.replicate 8 (default : Int)), (Vector.replicate 8 (default : Int))⟩ : GEpoch), 0, (Vector.replicate 8 (default : Int)), 0, (⟨0, 0, 0, []⟩ : GPart), s1.t10, (vget b.Sponsor ((s1.t10).toNat) default), 0⟩ : GEntry)) 1 (⟨7, 0, 0, (⟨(⟨0, 0⟩ : GStamp), 0, 0, 0, [], [], []⟩ : GOp), 0, 0, [], (⟨0, (Vector.replicate 8 (default : Int)), (Vector.replicate 8 (default : Int)), (Vector.replicate 8 (default : Int))⟩ : GEpoch), 0, (Vector.replicate 8 (default : Int)), 0, (⟨0, 0, 0, []⟩ : GPart), s1.t10, 0, 0⟩ : GEntry)) 2 (⟨8, 0, 0, (⟨(⟨0, 0⟩ : GStamp), 0, 0, 0, [], [], []⟩ : GOp), 0, 0, [], (⟨0, (Vector.replicate 8 (default : Int)), (Vector.replicate 8 (default : Int)), (Vector.replicate 8 (default : Int))⟩ : GEpoch), 0, (Vector.replicate 8 (default : Int)), 0, (⟨0, 0, 0, []⟩ : GPart), s1.t10, 0, (vget b.Seals ((s1.t10).toNat) default)⟩ : GEntry)) ((s3.t28).toNat) default).Length⟩ : GEntry)).bind fun r5 =>
 (bif ((r5.2 == 0) && ((r5.1.Number == b.Number) && ((vbeq beq3 r5.1.States b.States) && ((vbeq beq2 r5.1.Seals b.Seals) && (vbeq beq3 r5.1.Sponsor b.Sponsor))))) then
 (some true)
 else
 (next4 ⟨(IntKind.i64.wrap (s3.t28 + 1))⟩)))
 else none)
 else
 (next2 ⟨(IntKind.i64.wrap (s1.t10 + 1))⟩))) ⟨0⟩)
 else none)
 else none)
 else
 (some false))) ⟨0⟩)
def con10 : Con τ := { args := [.ty 26, .ty 26], L := [], ret := .ty 4, L' := [], R := Bool, dflt := default, F := fun N a b => F10 N a.1 a.2.1, of := fun r => (r, ()) }
noncomputable def dat10 : Dat τ := ⟨D0, tblOf [(12, con12)], lpsOf [(2, lp10x2), (5, lp10x5)], 0⟩
theorem ok10 : ConOk E C 10 con10 :=
  con_ok (D := dat10) ⟨d0Ok, eGood, tblOf_ok (l := [(12, con12)]) ⟨ok12, trivial⟩⟩ con10 (fun a b => a) (fun _ _ => rfl) 1000000 (fn := Try.f10) Try.func10 rfl (by kernel_rfl) (by kernel_rfl) rfl (by intro N a b; kernel_rfl)

/-- orchard/orchardlaw17.live -/
def F9 (N : Nat)  : Option (Bool) :=
 ((F31 N [0, 1]).bind fun r1 =>
 ((F12 N r1.1 (⟨6, 0, 0, (⟨(⟨0, 0⟩ : GStamp), 0, 0, 0, [], [], []⟩ : GOp), 0, 0, [], (⟨0, (Vector.replicate 8 (default : Int)), (Vector.replicate 8 (default : Int)), (Vector.replicate 8 (default : Int))⟩ : GEpoch), 0, (Vector.replicate 8 (default : Int)), 0, (⟨0, 0, 0, []⟩ : GPart), 2, 0, 0⟩ : GEntry)).bind fun r2 =>
 (bif (!(((r1.2 == 0) && (r2.2 == 0)) && (r2.1.Number == 1)) || true) then
 ((bif ((((r1.2 == 0) && (r2.2 == 0)) && (r2.1.Number == 1)) && ((vget r2.1.States 2 default) == 1)) then F13 N r2.1 else some default).bind fun r3 =>
 ((bif (((((r1.2 == 0) && (r2.2 == 0)) && (r2.1.Number == 1)) && ((vget r2.1.States 2 default) == 1)) && r3) then F10 N r1.1 r2.1 else some default).bind fun r4 =>
 (some ((((((r1.2 == 0) && (r2.2 == 0)) && (r2.1.Number == 1)) && ((vget r2.1.States 2 default) == 1)) && r3) && r4))))
 else none)))
def con9 : Con τ := { args := [], L := [], ret := .ty 4, L' := [], R := Bool, dflt := default, F := fun N a b => F9 N , of := fun r => (r, ()) }
noncomputable def dat9 : Dat τ := ⟨D0, tblOf [(31, con31), (12, con12), (13, con13), (10, con10)], lpsOf [], 0⟩
theorem ok9 : ConOk E C 9 con9 :=
  con_ok (D := dat9) ⟨d0Ok, eGood, tblOf_ok (l := [(31, con31), (12, con12), (13, con13), (10, con10)]) ⟨ok31, ⟨ok12, ⟨ok13, ⟨ok10, trivial⟩⟩⟩⟩⟩ con9 (fun a b => a) (fun _ _ => rfl) 1000000 (fn := Try.f9) Try.func9 rfl (by kernel_rfl) (by kernel_rfl) rfl (by intro N a b; kernel_rfl)

/-- orchard/orchardref11.Count -/
def F37 (N : Nat) (n : Int) : Option (Bool) :=
 (some ((decide (0 ≤ n)) && (decide (n ≤ 1099511627776))))
def con37 : Con τ := { args := [.ty 2], L := [], ret := .ty 4, L' := [], R := Bool, dflt := default, F := fun N a b => F37 N a.1, of := fun r => (r, ()) }
noncomputable def dat37 : Dat τ := ⟨D0, tblOf [], lpsOf [], 0⟩
theorem ok37 : ConOk E C 37 con37 :=
  con_ok (D := dat37) ⟨d0Ok, eGood, tblOf_ok (l := []) trivial⟩ con37 (fun a b => a) (fun _ _ => rfl) 1000000 (fn := Try.f37) Try.func37 rfl (by kernel_rfl) (by kernel_rfl) rfl (by intro N a b; kernel_rfl)

/-- orchard/orchardref17.site -/
def F38 (N : Nat) (e : GEpoch) (i : Int) : Option (Bool) :=
 (bif (ibB i 8) then
 (bif (ibB i 8) then
 (bif (ibB i 8) then
 ((bif (!((decide ((vget e.States ((i).toNat) default) < 0)) || (decide (3 < (vget e.States ((i).toNat) default))))) then F37 N (vget e.Seals ((i).toNat) default) else some default).bind fun r1 =>
 (bif ((((decide ((vget e.States ((i).toNat) default) < 0)) || (decide (3 < (vget e.States ((i).toNat) default)))) || (!r1)) || ((!((vget e.States ((i).toNat) default) == 3)) && (!((vget e.Seals ((i).toNat) default) == 0)))) then
 (some false)
 else
 (bif ((vget e.States ((i).toNat) default) == 0) then
 (some ((vget e.Sponsor ((i).toNat) default) == (-1)))
 else
 (some (((decide ((-1) ≤ (vget e.Sponsor ((i).toNat) default))) && (decide ((vget e.Sponsor ((i).toNat) default) < 8))) && (!((vget e.Sponsor ((i).toNat) default) == i)))))))
 else none)
 else none)
 else none)
def con38 : Con τ := { args := [.ty 26, .ty 3], L := [], ret := .ty 4, L' := [], R := Bool, dflt := default, F := fun N a b => F38 N a.1 a.2.1, of := fun r => (r, ()) }
noncomputable def dat38 : Dat τ := ⟨D0, tblOf [(37, con37)], lpsOf [], 0⟩
theorem ok38 : ConOk E C 38 con38 :=
  con_ok (D := dat38) ⟨d0Ok, eGood, tblOf_ok (l := [(37, con37)]) ⟨ok37, trivial⟩⟩ con38 (fun a b => a) (fun _ _ => rfl) 1000000 (fn := Try.f38) Try.func38 rfl (by kernel_rfl) (by kernel_rfl) rfl (by intro N a b; kernel_rfl)

structure S15x3 where
  writes : Bool
  i : Int
def ts15x3 : List Sl := [.keep, .keep, .junk, .sh (.ty 4), .sh (.ty 2), .junk, .junk, .junk, .junk, .junk, .junk, .junk, .junk, .junk, .junk, .junk, .junk, .junk, .junk, .junk, .junk, .keep, .keep, .keep, .keep, .keep, .keep, .keep, .keep, .keep, .keep, .keep]
def hs15x3 : List ESh := [.keep]
def to15x3 (a : Sl.Ts τ ts15x3) (b : ESh.Ts τ hs15x3) : S15x3 := ⟨a.2.2.2.1, a.2.2.2.2.1⟩
def ot15x3 (s : S15x3) : Sl.Ts τ ts15x3 := ((), (), (), s.writes, s.i, (), (), (), (), (), (), (), (), (), (), (), (), (), (), (), (), (), (), (), (), (), (), (), (), (), (), (), ())
def oh15x3 (s : S15x3) : ESh.Ts τ hs15x3 := ((), ())
def lp15x3 : Lp τ := { ts := ts15x3, hs := hs15x3, S := S15x3, to := to15x3, ot := ot15x3, oh := oh15x3, ot_to := fun _ _ => rfl, oh_to := fun _ _ => rfl }
/-- orchard/orchardref17.Check -/
def F15 (N : Nat) (e : GEpoch) : Option (Bool) :=
 (iter N (fun (s1 : S15x3) next2 =>
 (bif (decide (s1.i < 8)) then
 ((F38 N e s1.i).bind fun r3 =>
 (bif (!r3) then
 (some false)
 else
 (bif (!(!s1.writes) || (ibB s1.i 8)) then
 (next2 ⟨(s1.writes || ((vget e.States ((s1.i).toNat) default) == 1)), (IntKind.i64.wrap (s1.i + 1))⟩)
 else none)))
 else
 (some ((s1.writes && (decide (0 ≤ e.Number))) && (decide (e.Number < 1024)))))) ⟨false, 0⟩)
def con15 : Con τ := { args := [.ty 26], L := [], ret := .ty 4, L' := [], R := Bool, dflt := default, F := fun N a b => F15 N a.1, of := fun r => (r, ()) }
noncomputable def dat15 : Dat τ := ⟨D0, tblOf [(38, con38)], lpsOf [(3, lp15x3)], 0⟩
theorem ok15 : ConOk E C 15 con15 :=
  con_ok (D := dat15) ⟨d0Ok, eGood, tblOf_ok (l := [(38, con38)]) ⟨ok38, trivial⟩⟩ con15 (fun a b => a) (fun _ _ => rfl) 1000000 (fn := Try.f15) Try.func15 rfl (by kernel_rfl) (by kernel_rfl) rfl (by intro N a b; kernel_rfl)

/-- orchard/orchardref11.Site -/
def F34 (N : Nat) (n : Int) : Option (Bool) :=
 (some ((decide (0 ≤ n)) && (decide (n < 8))))
def con34 : Con τ := { args := [.ty 3], L := [], ret := .ty 4, L' := [], R := Bool, dflt := default, F := fun N a b => F34 N a.1, of := fun r => (r, ()) }
noncomputable def dat34 : Dat τ := ⟨D0, tblOf [], lpsOf [], 0⟩
theorem ok34 : ConOk E C 34 con34 :=
  con_ok (D := dat34) ⟨d0Ok, eGood, tblOf_ok (l := []) trivial⟩ con34 (fun a b => a) (fun _ _ => rfl) 1000000 (fn := Try.f34) Try.func34 rfl (by kernel_rfl) (by kernel_rfl) rfl (by intro N a b; kernel_rfl)

/-- orchard/orchardref17.join -/
def F35 (N : Nat) (e : GEpoch) (x : GEntry) : Option (GEpoch × Int) :=
 (bif (ibB x.Site 8) then
 (bif (!((vget e.States ((x.Site).toNat) default) == 0)) then
 (some ((⟨0, (Vector.replicate 8 (default : Int)), (Vector.replicate 8 (default : Int)), (Vector.replicate 8 (default : Int))⟩ : GEpoch), 171))
 else
 ((F34 N x.Sponsor).bind fun r1 =>
 (bif (!r1) then
 (some ((⟨0, (Vector.replicate 8 (default : Int)), (Vector.replicate 8 (default : Int)), (Vector.replicate 8 (default : Int))⟩ : GEpoch), 1))
 else
 (bif (ibB x.Sponsor 8) then
 (bif (!((vget e.States ((x.Sponsor).toNat) default) == 1)) then
 (some ((⟨0, (Vector.replicate 8 (default : Int)), (Vector.replicate 8 (default : Int)), (Vector.replicate 8 (default : Int))⟩ : GEpoch), 171))
 else
 (bif (ibB x.Site 8) then
 (bif (ibB x.Site 8) then
 (some ((⟨e.Number, (vset e.States ((x.Site).toNat) 1), e.Seals, (vset e.Sponsor ((x.Site).toNat) x.Sponsor)⟩ : GEpoch), 0))
 else none)
 else none))
 else none))))
 else none)
def con35 : Con τ := { args := [.ty 26, .ty 38], L := [], ret := .tup [.ty 26, .ty 39], L' := [], R := GEpoch × Int, dflt := (default, default), F := fun N a b => F35 N a.1 a.2.1, of := fun r => ((r.1, r.2, ()), ()) }
noncomputable def dat35 : Dat τ := ⟨D0, tblOf [(34, con34)], lpsOf [], 0⟩
theorem ok35 : ConOk E C 35 con35 :=
  con_ok (D := dat35) ⟨d0Ok, eGood, tblOf_ok (l := [(34, con34)]) ⟨ok34, trivial⟩⟩ con35 (fun a b => (a.1, a.2.1)) (fun _ _ => rfl) 1000000 (fn := Try.f35) Try.func35 rfl (by kernel_rfl) (by kernel_rfl) rfl (by intro N a b; kernel_rfl)

structure S36x5 where
  others : Int
  i : Int
def ts36x5 : List Sl := [.keep, .keep, .keep, .keep, .keep, .keep, .sh (.ty 2), .sh (.ty 2), .keep, .keep, .keep, .keep, .keep, .keep, .keep, .junk, .junk, .junk, .junk, .junk, .junk, .junk, .junk, .junk, .junk, .junk, .junk, .junk, .junk, .junk, .junk, .junk, .keep, .keep, .keep, .keep, .keep, .keep, .keep, .keep]
def hs36x5 : List ESh := [.keep, .keep, .keep]
def to36x5 (a : Sl.Ts τ ts36x5) (b : ESh.Ts τ hs36x5) : S36x5 := ⟨a.2.2.2.2.2.2.1, a.2.2.2.2.2.2.2.1⟩
def ot36x5 (s : S36x5) : Sl.Ts τ ts36x5 := ((), (), (), (), (), (), s.others, s.i, (), (), (), (), (), (), (), (), (), (), (), (), (), (), (), (), (), (), (), (), (), (), (), (), (), (), (), (), (), (), (), (), ())
def oh36x5 (s : S36x5) : ESh.Ts τ hs36x5 := ((), (), (), ())
def lp36x5 : Lp τ := { ts := ts36x5, hs := hs36x5, S := S36x5, to := to36x5, ot := ot36x5, oh := oh36x5, ot_to := fun _ _ => rfl, oh_to := fun _ _ => rfl }
/-- orchard/orchardref17.leave -/
def F36 (N : Nat) (e : GEpoch) (x : GEntry) : Option (GEpoch × Int) :=
 (bif (ibB x.Site 8) then
 (bif (!((vget e.States ((x.Site).toNat) default) == 1)) then
 (some ((⟨0, (Vector.replicate 8 (default : Int)), (Vector.replicate 8 (default : Int)), (Vector.replicate 8 (default : Int))⟩ : GEpoch), 171))
 else
 (iter N (fun (s1 : S36x5) next2 =>
 (bif (decide (s1.i < 8)) then
 (bif (!(!(s1.i == x.Site)) || (ibB s1.i 8)) then
 (bif ((!(s1.i == x.Site)) && ((vget e.States ((s1.i).toNat) default) == 1)) then
 (next2 ⟨(IntKind.i64.wrap (s1.others + 1)), (IntKind.i64.wrap (s1.i + 1))⟩)
 else
 (next2 ⟨s1.others, (IntKind.i64.wrap (s1.i + 1))⟩))
 else none)
 else
 (bif (s1.others == 0) then
 (some ((⟨0, (Vector.replicate 8 (default : Int)), (Vector.replicate 8 (default : Int)), (Vector.replicate 8 (default : Int))⟩ : GEpoch), 170))
 else
 (bif (ibB x.Site 8) then
 (some ((⟨e.Number, (vset e.States ((x.Site).toNat) 2), e.Seals, e.Sponsor⟩ : GEpoch), 0))
 else none)))) ⟨0, 0⟩))
 else none)
def con36 : Con τ := { args := [.ty 26, .ty 38], L := [], ret := .tup [.ty 26, .ty 39], L' := [], R := GEpoch × Int, dflt := (default, default), F := fun N a b => F36 N a.1 a.2.1, of := fun r => ((r.1, r.2, ()), ()) }
noncomputable def dat36 : Dat τ := ⟨D0, tblOf [], lpsOf [(5, lp36x5)], 0⟩
theorem ok36 : ConOk E C 36 con36 :=
  con_ok (D := dat36) ⟨d0Ok, eGood, tblOf_ok (l := []) trivial⟩ con36 (fun a b => (a.1, a.2.1)) (fun _ _ => rfl) 1000000 (fn := Try.f36) Try.func36 rfl (by kernel_rfl) (by kernel_rfl) rfl (by intro N a b; kernel_rfl)

/-- orchard/orchardref17.Apply -/
def F14 (N : Nat) (e : GEpoch) (x : GEntry) : Option (GEpoch × Int) :=
 ((F15 N e).bind fun r1 =>
 ((bif (!(((!r1) || (decide (x.Kind < 6))) || (decide (8 < x.Kind)))) then F34 N x.Site else some default).bind fun r2 =>
 (bif ((((!r1) || (decide (x.Kind < 6))) || (decide (8 < x.Kind))) || (!r2)) then
 (some ((⟨0, (Vector.replicate 8 (default : Int)), (Vector.replicate 8 (default : Int)), (Vector.replicate 8 (default : Int))⟩ : GEpoch), 1))
 else
 (bif (e.Number == 1023) then
 (some ((⟨0, (Vector.replicate 8 (default : Int)), (Vector.replicate 8 (default : Int)), (Vector.replicate 8 (default : Int))⟩ : GEpoch), 3))
 else
 (bif (x.Kind == 6) then
 ((F35 N (⟨(IntKind.i64.wrap (e.Number + 1)), e.States, e.Seals, e.Sponsor⟩ : GEpoch) x).bind fun r3 =>
 (some (r3.1, r3.2)))
 else
 (bif (x.Kind == 7) then
 ((F36 N (⟨(IntKind.i64.wrap (e.Number + 1)), e.States, e.Seals, e.Sponsor⟩ : GEpoch) x).bind fun r4 =>
 (some (r4.1, r4.2)))
 else
 (bif (ibB x.Site 8) then
 (bif (!((vget e.States ((x.Site).toNat) default) == 2)) then
 (some ((⟨0, (Vector.replicate 8 (default : Int)), (Vector.replicate 8 (default : Int)), (Vector.replicate 8 (default : Int))⟩ : GEpoch), 171))
 else
 ((F37 N x.Length).bind fun r5 =>
 (bif (!r5) then
 (some ((⟨0, (Vector.replicate 8 (default : Int)), (Vector.replicate 8 (default : Int)), (Vector.replicate 8 (default : Int))⟩ : GEpoch), 1))
 else
 (bif (ibB x.Site 8) then
 (bif (ibB x.Site 8) then
 (some ((⟨(IntKind.i64.wrap (e.Number + 1)), (vset e.States ((x.Site).toNat) 3), (vset e.Seals ((x.Site).toNat) x.Length), e.Sponsor⟩ : GEpoch), 0))
 else none)
 else none))))
 else none)))))))
def con14 : Con τ := { args := [.ty 26, .ty 38], L := [], ret := .tup [.ty 26, .ty 39], L' := [], R := GEpoch × Int, dflt := (default, default), F := fun N a b => F14 N a.1 a.2.1, of := fun r => ((r.1, r.2, ()), ()) }
noncomputable def dat14 : Dat τ := ⟨D0, tblOf [(15, con15), (34, con34), (35, con35), (36, con36), (37, con37)], lpsOf [], 0⟩
theorem ok14 : ConOk E C 14 con14 :=
  con_ok (D := dat14) ⟨d0Ok, eGood, tblOf_ok (l := [(15, con15), (34, con34), (35, con35), (36, con36), (37, con37)]) ⟨ok15, ⟨ok34, ⟨ok35, ⟨ok36, ⟨ok37, trivial⟩⟩⟩⟩⟩⟩ con14 (fun a b => (a.1, a.2.1)) (fun _ _ => rfl) 1000000 (fn := Try.f14) Try.func14 rfl (by kernel_rfl) (by kernel_rfl) rfl (by intro N a b; kernel_rfl)

structure S11x2 where
  i : Int
def ts11x2 : List Sl := [.keep, .keep, .keep, .keep, .junk, .sh (.ty 2), .junk, .junk, .junk, .junk, .junk, .junk, .junk, .junk, .junk, .junk, .junk, .junk, .junk, .junk, .junk, .junk, .junk, .junk, .junk, .junk, .junk, .junk, .junk, .junk, .junk, .junk, .junk, .junk, .junk, .junk, .junk, .junk, .junk, .junk, .junk, .junk, .junk, .junk, .junk, .junk, .junk, .junk, .junk]
def hs11x2 : List ESh := [.keep, .keep]
def to11x2 (a : Sl.Ts τ ts11x2) (b : ESh.Ts τ hs11x2) : S11x2 := ⟨a.2.2.2.2.2.1⟩
def ot11x2 (s : S11x2) : Sl.Ts τ ts11x2 := ((), (), (), (), (), s.i, (), (), (), (), (), (), (), (), (), (), (), (), (), (), (), (), (), (), (), (), (), (), (), (), (), (), (), (), (), (), (), (), (), (), (), (), (), (), (), (), (), (), (), ())
def oh11x2 (s : S11x2) : ESh.Ts τ hs11x2 := ((), (), ())
def lp11x2 : Lp τ := { ts := ts11x2, hs := hs11x2, S := S11x2, to := to11x2, ot := ot11x2, oh := oh11x2, ot_to := fun _ _ => rfl, oh_to := fun _ _ => rfl }
structure S11x6 where
  k : Int
def ts11x6 : List Sl := [.keep, .keep, .keep, .keep, .junk, .keep, .keep, .sh (.ty 2), .junk, .junk, .keep, .keep, .keep, .keep, .keep, .keep, .keep, .keep, .keep, .keep, .keep, .keep, .keep, .keep, .keep, .keep, .keep, .keep, .keep, .junk, .junk, .junk, .junk, .junk, .junk, .junk, .junk, .junk, .junk, .junk, .junk, .junk, .junk, .junk, .junk, .junk, .junk, .junk, .junk]
def hs11x6 : List ESh := [.keep, .keep]
def to11x6 (a : Sl.Ts τ ts11x6) (b : ESh.Ts τ hs11x6) : S11x6 := ⟨a.2.2.2.2.2.2.2.1⟩
def ot11x6 (s : S11x6) : Sl.Ts τ ts11x6 := ((), (), (), (), (), (), (), s.k, (), (), (), (), (), (), (), (), (), (), (), (), (), (), (), (), (), (), (), (), (), (), (), (), (), (), (), (), (), (), (), (), (), (), (), (), (), (), (), (), (), ())
def oh11x6 (s : S11x6) : ESh.Ts τ hs11x6 := ((), (), ())
def lp11x6 : Lp τ := { ts := ts11x6, hs := hs11x6, S := S11x6, to := to11x6, ot := ot11x6, oh := oh11x6, ot_to := fun _ _ => rfl, oh_to := fun _ _ => rfl }
/-- orchard/orchardref17.Follows -/
def F11 (N : Nat) (a : GEpoch) (b : GEpoch) : Option (Bool) :=
 (iter N (fun (s1 : S11x2) next2 =>
 (bif (decide (s1.i < 8)) then
 (bif (ibB s1.i 8) then
 (bif (ibB s1.i 8) then
 (iter N (fun (s3 : S11x6) next4 =>
 (bif (decide (s3.k < 3)) then
 (bif (ibB s3.k (([(⟨6, 0, 0, (⟨(⟨0, 0⟩ : GStamp), 0, 0, 0, [], [], []⟩ : GOp), 0, 0, [], (⟨0, (Vector.replicate 8 (default : Int)), (Vector.replicate 8 (default : Int)), (Vector.replicate 8 (default : Int))⟩ : GEpoch), 0, (Vector.replicate 8 (default : Int)), 0, (⟨0, 0, 0, []⟩ : GPart), s1.i, (vget b.Sponsor ((s1.i).toNat) default), 0⟩ : GEntry), (⟨7, 0, 0, (⟨(⟨0, 0⟩ : GStamp), 0, 0, 0, [], [], []⟩ : GOp), 0, 0, [], (⟨0, (Vector.replicate 8 (default : Int)), (Vector.replicate 8 (default : Int)), (Vector.replicate 8 (default : Int))⟩ : GEpoch), 0, (Vector.replicate 8 (default : Int)), 0, (⟨0, 0, 0, []⟩ : GPart), s1.i, 0, 0⟩ : GEntry), (⟨8, 0, 0, (⟨(⟨0, 0⟩ : GStamp), 0, 0, 0, [], [], []⟩ : GOp), 0, 0, [], (⟨0, (Vector.replicate 8 (default : Int)), (Vector.replicate 8 (default : Int)), (Vector.replicate 8 (default : Int))⟩ : GEpoch), 0, (Vector.replicate 8 (default : Int)), 0, (⟨0, 0, 0, []⟩ : GPart), s1.i, 0, (vget b.Seals ((s1.i).toNat) default)⟩ : GEntry)]).length : Int)) then
 ((F14 N a (⟨(lget [(⟨6, 0, 0, (⟨(⟨0, 0⟩ : GStamp), 0, 0, 0, [], [], []⟩ : GOp), 0, 0, [], (⟨0, (Vector.replicate 8 (default : Int)), (Vector.replicate 8 (default : Int)), (Vector.replicate 8 (default : Int))⟩ : GEpoch), 0, (Vector.replicate 8 (default : Int)), 0, (⟨0, 0, 0, []⟩ : GPart), s1.i, (vget b.Sponsor ((s1.i).toNat) default), 0⟩ : GEntry), (⟨7, 0, 0, (⟨(⟨0, 0⟩ : GStamp), 0, 0, 0, [], [], []⟩ : GOp), 0, 0, [], (⟨0, (Vector.replicate 8 (default : Int)), (Vector.replicate 8 (default : Int)), (Vector.replicate 8 (default : Int))⟩ : GEpoch), 0, (Vector.replicate 8 (default : Int)), 0, (⟨0, 0, 0, []⟩ : GPart), s1.i, 0, 0⟩ : GEntry), (⟨8, 0, 0, (⟨(⟨0, 0⟩ : GStamp), 0, 0, 0, [], [], []⟩ : GOp), 0, 0, [], (⟨0, (Vector.replicate 8 (default : Int)), (Vector.replicate 8 (default : Int)), (Vector.replicate 8 (default : Int))⟩ : GEpoch), 0, (Vector.replicate 8 (default : Int)), 0, (⟨0, 0, 0, []⟩ : GPart), s1.i, 0, (vget b.Seals ((s1.i).toNat) default)⟩ : GEntry)] s3.k default).Kind, (lget [(⟨6, 0, 0, (⟨(⟨0, 0⟩ : GStamp), 0, 0, 0, [], [], []⟩ : GOp), 0, 0, [], (⟨0, (Vector.replicate 8 (default : Int)), (Vector.replicate 8 (default : Int)), (Vector.replicate 8 (default : Int))⟩ : GEpoch), 0, (Vector.replicate 8 (default : Int)), 0, (⟨0, 0, 0, []⟩ : GPart), s1.i, (vget b.Sponsor ((s1.i).toNat) default), 0⟩ : GEntry), (⟨7, 0, 0, (⟨(⟨0, 0⟩ : GStamp), 0, 0, 0, [], [], []⟩ : GOp), 0, 0, [], (⟨0, (Vector.replicate 8 (default : Int)), (Vector.replicate 8 (default : Int)), (Vector.replicate 8 (default : Int))⟩ : GEpoch), 0, (Vector.replicate 8 (default : Int)), 0, (⟨0, 0, 0, []⟩ : GPart), s1.i, 0, 0⟩ : GEntry), (⟨8, 0, 0, (⟨(⟨0, 0⟩ : GStamp), 0, 0, 0, [], [], []⟩ : GOp), 0, 0, [], (⟨0, (Vector.replicate 8 (default : Int)), (Vector.replicate 8 (default : Int)), (Vector.replicate 8 (default : Int))⟩ : GEpoch), 0, (Vector.replicate 8 (default : Int)), 0, (⟨0, 0, 0, []⟩ : GPart), s1.i, 0, (vget b.Seals ((s1.i).toNat) default)⟩ : GEntry)] s3.k default).Session, (lget [(⟨6, 0, 0, (⟨(⟨0, 0⟩ : GStamp), 0, 0, 0, [], [], []⟩ : GOp), 0, 0, [], (⟨0, (Vector.replicate 8 (default : Int)), (Vector.replicate 8 (default : Int)), (Vector.replicate 8 (default : Int))⟩ : GEpoch), 0, (Vector.replicate 8 (default : Int)), 0, (⟨0, 0, 0, []⟩ : GPart), s1.i, (vget b.Sponsor ((s1.i).toNat) default), 0⟩ : GEntry), (⟨7, 0, 0, (⟨(⟨0, 0⟩ : GStamp), 0, 0, 0, [], [], []⟩ : GOp), 0, 0, [], (⟨0, (Vector.replicate 8 (default : Int)), (Vector.replicate 8 (default : Int)), (Vector.replicate 8 (default : Int))⟩ : GEpoch), 0, (Vector.replicate 8 (default : Int)), 0, (⟨0, 0, 0, []⟩ : GPart), s1.i, 0, 0⟩ : GEntry), (⟨8, 0, 0, (⟨(⟨0, 0⟩ : GStamp), 0, 0, 0, [], [], []⟩ : GOp), 0, 0, [], (⟨0, (Vector.replicate 8 (default : Int)), (Vector.replicate 8 (default : Int)), (Vector.replicate 8 (default : Int))⟩ : GEpoch), 0, (Vector.replicate 8 (default : Int)), 0, (⟨0, 0, 0, []⟩ : GPart), s1.i, 0, (vget b.Seals ((s1.i).toNat) default)⟩ : GEntry)] s3.k default).Request, (⟨(((lget [(⟨6, 0, 0, (⟨(⟨0, 0⟩ : GStamp), 0, 0, 0, [], [], []⟩ : GOp), 0, 0, [], (⟨0, (Vector.replicate 8 (default : Int)), (Vector.replicate 8 (default : Int)), (Vector.replicate 8 (default : Int))⟩ : GEpoch), 0, (Vector.replicate 8 (default : Int)), 0, (⟨0, 0, 0, []⟩ : GPart), s1.i, (vget b.Sponsor ((s1.i).toNat) default), 0⟩ : GEntry), (⟨7, 0, 0, (⟨(⟨0, 0⟩ : GStamp), 0, 0, 0, [], [], []⟩ : GOp), 0, 0, [], (⟨0, (Vector.replicate 8 (default : Int)), (Vector.replicate 8 (default : Int)), (Vector.replicate 8 (default : Int))⟩ : GEpoch), 0, (Vector.replicate 8 (default : Int)), 0, (⟨0, 0, 0, []⟩ : GPart), s1.i, 0, 0⟩ : GEntry), (⟨8, 0, 0, (⟨(⟨0, 0⟩ : GStamp), 0, 0, 0, [], [], []⟩ : GOp), 0, 0, [], (⟨0, (Vector.replicate 8 (default : Int)), (Vector.replicate 8 (default : Int)), (Vector.replicate 8 (default : Int))⟩ : GEpoch), 0, (Vector.replicate 8 (default : Int)), 0, (⟨0, 0, 0, []⟩ : GPart), s1.i, 0, (vget b.Seals ((s1.i).toNat) default)⟩ : GEntry)] s3.k default).Op).Stamp), ((lget [(⟨6, 0, 0, (⟨(⟨0, 0⟩ : GStamp), 0, 0, 0, [], [], []⟩ : GOp), 0, 0, [], (⟨0, (Vector.replicate 8 (default : Int)), (Vector.replicate 8 (default : Int)), (Vector.replicate 8 (default : Int))⟩ : GEpoch), 0, (Vector.replicate 8 (default : Int)), 0, (⟨0, 0, 0, []⟩ : GPart), s1.i, (vget b.Sponsor ((s1.i).toNat) default), 0⟩ : GEntry), (⟨7, 0, 0, (⟨(⟨0, 0⟩ : GStamp), 0, 0, 0, [], [], []⟩ : GOp), 0, 0, [], (⟨0, (Vector.replicate 8 (default : Int)), (Vector.replicate 8 (default : Int)), (Vector.replicate 8 (default : Int))⟩ : GEpoch), 0, (Vector.replicate 8 (default : Int)), 0, (⟨0, 0, 0, []⟩ : GPart), s1.i, 0, 0⟩ : GEntry), (⟨8, 0, 0, (⟨(⟨0, 0⟩ : GStamp), 0, 0, 0, [], [], []⟩ : GOp), 0, 0, [], (⟨0, (Vector.replicate 8 (default : Int)), (Vector.replicate 8 (default : Int)), (Vector.replicate 8 (default : Int))⟩ : GEpoch), 0, (Vector.replicate 8 (default : Int)), 0, (⟨0, 0, 0, []⟩ : GPart), s1.i, 0, (vget b.Seals ((s1.i).toNat) default)⟩ : GEntry)] s3.k default).Op).Kind, ((lget [(⟨6, 0, 0, (⟨(⟨0, 0⟩ : GStamp), 0, 0, 0, [], [], []⟩ : GOp), 0, 0, [], (⟨0, (Vector.replicate 8 (default : Int)), (Vector.replicate 8 (default : Int)), (Vector.replicate 8 (default : Int))⟩ : GEpoch), 0, (Vector.replicate 8 (default : Int)), 0, (⟨0, 0, 0, []⟩ : GPart), s1.i, (vget b.Sponsor ((s1.i).toNat) default), 0⟩ : GEntry), (⟨7, 0, 0, (⟨(⟨0, 0⟩ : GStamp), 0, 0, 0, [], [], []⟩ : GOp), 0, 0, [], (⟨0, (Vector.replicate 8 (default : Int)), (Vector.replicate 8 (default : Int)), (Vector.replicate 8 (default : Int))⟩ : GEpoch), 0, (Vector.replicate 8 (default : Int)), 0, (⟨0, 0, 0, []⟩ : GPart), s1.i, 0, 0⟩ : GEntry), (⟨8, 0, 0, (⟨(⟨0, 0⟩ : GStamp), 0, 0, 0, [], [], []⟩ : GOp), 0, 0, [], (⟨0, (Vector.replicate 8 (default : Int)), (Vector.replicate 8 (default : Int)), (Vector.replicate 8 (default : Int))⟩ : GEpoch), 0, (Vector.replicate 8 (default : Int)), 0, (⟨0, 0, 0, []⟩ : GPart), s1.i, 0, (vget b.Seals ((s1.i).toNat) default)⟩ : GEntry)] s3.k default).Op).Node, ((lget [(⟨6, 0, 0, (⟨(⟨0, 0⟩ : GStamp), 0, 0, 0, [], [], []⟩ : GOp), 0, 0, [], (⟨0, (Vector.replicate 8 (default : Int)), (Vector.replicate 8 (default : Int)), (Vector.replicate 8 (default : Int))⟩ : GEpoch), 0, (Vector.replicate 8 (default : Int)), 0, (⟨0, 0, 0, []⟩ : GPart), s1.i, (vget b.Sponsor ((s1.i).toNat) default), 0⟩ : GEntry), (⟨7, 0, 0, (⟨(⟨0, 0⟩ : GStamp), 0, 0, 0, [], [], []⟩ : GOp), 0, 0, [], (⟨0, (Vector.replicate 8 (default : Int)), (Vector.replicate 8 (default : Int)), (Vector.replicate 8 (default : Int))⟩ : GEpoch), 0, (Vector.replicate 8 (default : Int)), 0, (⟨0, 0, 0, []⟩ : GPart), s1.i, 0, 0⟩ : GEntry), (⟨8, 0, 0, (⟨(⟨0, 0⟩ : GStamp), 0, 0, 0, [], [], []⟩ : GOp), 0, 0, [], (⟨0, (Vector.replicate 8 (default : Int)), (Vector.replicate 8 (default : Int)), (Vector.replicate 8 (default : Int))⟩ : GEpoch), 0, (Vector.replicate 8 (default : Int)), 0, (⟨0, 0, 0, []⟩ : GPart), s1.i, 0, (vget b.Seals ((s1.i).toNat) default)⟩ : GEntry)] s3.k default).Op).Parent, ((lget [(⟨6, 0, 0, (⟨(⟨0, 0⟩ : GStamp), 0, 0, 0, [], [], []⟩ : GOp), 0, 0, [], (⟨0, (Vector.replicate 8 (default : Int)), (Vector.replicate 8 (default : Int)), (Vector.replicate 8 (default : Int))⟩ : GEpoch), 0, (Vector.replicate 8 (default : Int)), 0, (⟨0, 0, 0, []⟩ : GPart), s1.i, (vget b.Sponsor ((s1.i).toNat) default), 0⟩ : GEntry), (⟨7, 0, 0, (⟨(⟨0, 0⟩ : GStamp), 0, 0, 0, [], [], []⟩ : GOp), 0, 0, [], (⟨0, (Vector.replicate 8 (default : Int)), (Vector.replicate 8 (default : Int)), (Vector.replicate 8 (default : Int))⟩ : GEpoch), 0, (Vector.replicate 8 (default : Int)), 0, (⟨0, 0, 0, []⟩ : GPart), s1.i, 0, 0⟩ : GEntry), (⟨8, 0, 0, (⟨(⟨0, 0⟩ : GStamp), 0, 0, 0, [], [], []⟩ : GOp), 0, 0, [], (⟨0, (Vector.replicate 8 (default : Int)), (Vector.replicate 8 (default : Int)), (Vector.replicate 8 (default : Int))⟩ : GEpoch), 0, (Vector.replicate 8 (default : Int)), 0, (⟨0, 0, 0, []⟩ : GPart), s1.i, 0, (vget b.Seals ((s1.i).toNat) default)⟩ : GEntry)] s3.k default).Op).Name, ((lget [(⟨6, 0, 0, (⟨(⟨0, 0⟩ : GStamp), 0, 0, 0, [], [], []⟩ : GOp), 0, 0, [], (⟨0, (Vector.replicate 8 (default : Int)), (Vector.replicate 8 (default : Int)), (Vector.replicate 8 (default : Int))⟩ : GEpoch), 0, (Vector.replicate 8 (default : Int)), 0, (⟨0, 0, 0, []⟩ : GPart), s1.i, (vget b.Sponsor ((s1.i).toNat) default), 0⟩ : GEntry), (⟨7, 0, 0, (⟨(⟨0, 0⟩ : GStamp), 0, 0, 0, [], [], []⟩ : GOp), 0, 0, [], (⟨0, (Vector.replicate 8 (default : Int)), (Vector.replicate 8 (default : Int)), (Vector.replicate 8 (default : Int))⟩ : GEpoch), 0, (Vector.replicate 8 (default : Int)), 0, (⟨0, 0, 0, []⟩ : GPart), s1.i, 0, 0⟩ : GEntry), (⟨8, 0, 0, (⟨(⟨0, 0⟩ : GStamp), 0, 0, 0, [], [], []⟩ : GOp), 0, 0, [], (⟨0, (Vector.replicate 8 (default : Int)), (Vector.replicate 8 (default : Int)), (Vector.replicate 8 (default : Int))⟩ : GEpoch), 0, (Vector.replicate 8 (default : Int)), 0, (⟨0, 0, 0, []⟩ : GPart), s1.i, 0, (vget b.Seals ((s1.i).toNat) default)⟩ : GEntry)] s3.k default).Op).Key, ((lget [(⟨6, 0, 0, (⟨(⟨0, 0⟩ : GStamp), 0, 0, 0, [], [], []⟩ : GOp), 0, 0, [], (⟨0, (Vector.replicate 8 (default : Int)), (Vector.replicate 8 (default : Int)), (Vector.replicate 8 (default : Int))⟩ : GEpoch), 0, (Vector.replicate 8 (default : Int)), 0, (⟨0, 0, 0, []⟩ : GPart), s1.i, (vget b.Sponsor ((s1.i).toNat) default), 0⟩ : GEntry), (⟨7, 0, 0, (⟨(⟨0, 0⟩ : GStamp), 0, 0, 0, [], [], []⟩ : GOp), 0, 0, [], (⟨0, (Vector.replicate 8 (default : Int)), (Vector.replicate 8 (default : Int)), (Vector.replicate 8 (default : Int))⟩ : GEpoch), 0, (Vector.replicate 8 (default : Int)), 0, (⟨0, 0, 0, []⟩ : GPart), s1.i, 0, 0⟩ : GEntry), (⟨8, 0, 0, (⟨(⟨0, 0⟩ : GStamp), 0, 0, 0, [], [], []⟩ : GOp), 0, 0, [], (⟨0, (Vector.replicate 8 (default : Int)), (Vector.replicate 8 (default : Int)), (Vector.replicate 8 (default : Int))⟩ : GEpoch), 0, (Vector.replicate 8 (default : Int)), 0, (⟨0, 0, 0, []⟩ : GPart), s1.i, 0, (vget b.Seals ((s1.i).toNat) default)⟩ : GEntry)] s3.k default).Op).Value⟩ : GOp), (lget [(⟨6, 0, 0, (⟨(⟨0, 0⟩ : GStamp), 0, 0, 0, [], [], []⟩ : GOp), 0, 0, [], (⟨0, (Vector.replicate 8 (default : Int)), (Vector.replicate 8 (default : Int)), (Vector.replicate 8 (default : Int))⟩ : GEpoch), 0, (Vector.replicate 8 (default : Int)), 0, (⟨0, 0, 0, []⟩ : GPart), s1.i, (vget b.Sponsor ((s1.i).toNat) default), 0⟩ : GEntry), (⟨7, 0, 0, (⟨(⟨0, 0⟩ : GStamp), 0, 0, 0, [], [], []⟩ : GOp), 0, 0, [], (⟨0, (Vector.replicate 8 (default : Int)), (Vector.replicate 8 (default : Int)), (Vector.replicate 8 (default : Int))⟩ : GEpoch), 0, (Vector.replicate 8 (default : Int)), 0, (⟨0, 0, 0, []⟩ : GPart), s1.i, 0, 0⟩ : GEntry), (⟨8, 0, 0, (⟨(⟨0, 0⟩ : GStamp), 0, 0, 0, [], [], []⟩ : GOp), 0, 0, [], (⟨0, (Vector.replicate 8 (default : Int)), (Vector.replicate 8 (default : Int)), (Vector.replicate 8 (default : Int))⟩ : GEpoch), 0, (Vector.replicate 8 (default : Int)), 0, (⟨0, 0, 0, []⟩ : GPart), s1.i, 0, (vget b.Seals ((s1.i).toNat) default)⟩ : GEntry)] s3.k default).Origin, (lget [(⟨6, 0, 0, (⟨(⟨0, 0⟩ : GStamp), 0, 0, 0, [], [], []⟩ : GOp), 0, 0, [], (⟨0, (Vector.replicate 8 (default : Int)), (Vector.replicate 8 (default : Int)), (Vector.replicate 8 (default : Int))⟩ : GEpoch), 0, (Vector.replicate 8 (default : Int)), 0, (⟨0, 0, 0, []⟩ : GPart), s1.i, (vget b.Sponsor ((s1.i).toNat) default), 0⟩ : GEntry), (⟨7, 0, 0, (⟨(⟨0, 0⟩ : GStamp), 0, 0, 0, [], [], []⟩ : GOp), 0, 0, [], (⟨0, (Vector.replicate 8 (default : Int)), (Vector.replicate 8 (default : Int)), (Vector.replicate 8 (default : Int))⟩ : GEpoch), 0, (Vector.replicate 8 (default : Int)), 0, (⟨0, 0, 0, []⟩ : GPart), s1.i, 0, 0⟩ : GEntry), (⟨8, 0, 0, (⟨(⟨0, 0⟩ : GStamp), 0, 0, 0, [], [], []⟩ : GOp), 0, 0, [], (⟨0, (Vector.replicate 8 (default : Int)), (Vector.replicate 8 (default : Int)), (Vector.replicate 8 (default : Int))⟩ : GEpoch), 0, (Vector.replicate 8 (default : Int)), 0, (⟨0, 0, 0, []⟩ : GPart), s1.i, 0, (vget b.Seals ((s1.i).toNat) default)⟩ : GEntry)] s3.k default).Seq, (lget [(⟨6, 0, 0, (⟨(⟨0, 0⟩ : GStamp), 0, 0, 0, [], [], []⟩ : GOp), 0, 0, [], (⟨0, (Vector.replicate 8 (default : Int)), (Vector.replicate 8 (default : Int)), (Vector.replicate 8 (default : Int))⟩ : GEpoch), 0, (Vector.replicate 8 (default : Int)), 0, (⟨0, 0, 0, []⟩ : GPart), s1.i, (vget b.Sponsor ((s1.i).toNat) default), 0⟩ : GEntry), (⟨7, 0, 0, (⟨(⟨0, 0⟩ : GStamp), 0, 0, 0, [], [], []⟩ : GOp), 0, 0, [], (⟨0, (Vector.replicate 8 (default : Int)), (Vector.replicate 8 (default : Int)), (Vector.replicate 8 (default : Int))⟩ : GEpoch), 0, (Vector.replicate 8 (default : Int)), 0, (⟨0, 0, 0, []⟩ : GPart), s1.i, 0, 0⟩ : GEntry), (⟨8, 0, 0, (⟨(⟨0, 0⟩ : GStamp), 0, 0, 0, [], [], []⟩ : GOp), 0, 0, [], (⟨0, (Vector.replicate 8 (default : Int)), (Vector.replicate 8 (default : Int)), (Vector.replicate 8 (default : Int))⟩ : GEpoch), 0, (Vector.replicate 8 (default : Int)), 0, (⟨0, 0, 0, []⟩ : GPart), s1.i, 0, (vget b.Seals ((s1.i).toNat) default)⟩ : GEntry)] s3.k default).Ops, ((lget [(⟨6, 0, 0, (⟨(⟨0, 0⟩ : GStamp), 0, 0, 0, [], [], []⟩ : GOp), 0, 0, [], (⟨0, (Vector.replicate 8 (default : Int)), (Vector.replicate 8 (default : Int)), (Vector.replicate 8 (default : Int))⟩ : GEpoch), 0, (Vector.replicate 8 (default : Int)), 0, (⟨0, 0, 0, []⟩ : GPart), s1.i, (vget b.Sponsor ((s1.i).toNat) default), 0⟩ : GEntry), (⟨7, 0, 0, (⟨(⟨0, 0⟩ : GStamp), 0, 0, 0, [], [], []⟩ : GOp), 0, 0, [], (⟨0, (Vector.replicate 8 (default : Int)), (Vector.replicate 8 (default : Int)), (Vector.replicate 8 (default : Int))⟩ : GEpoch), 0, (Vector.replicate 8 (default : Int)), 0, (⟨0, 0, 0, []⟩ : GPart), s1.i, 0, 0⟩ : GEntry), (⟨8, 0, 0, (⟨(⟨0, 0⟩ : GStamp), 0, 0, 0, [], [], []⟩ : GOp), 0, 0, [], (⟨0, (Vector.replicate 8 (default : Int)), (Vector.replicate 8 (default : Int)), (Vector.replicate 8 (default : Int))⟩ : GEpoch), 0, (Vector.replicate 8 (default : Int)), 0, (⟨0, 0, 0, []⟩ : GPart), s1.i, 0, (vget b.Seals ((s1.i).toNat) default)⟩ : GEntry)] s3.k default).Epoch), (lget [(⟨6, 0, 0, (⟨(⟨0, 0⟩ : GStamp), 0, 0, 0, [], [], []⟩ : GOp), 0, 0, [], (⟨0, (Vector.replicate 8 (default : Int)), (Vector.replicate 8 (default : Int)), (Vector.replicate 8 (default : Int))⟩ : GEpoch), 0, (Vector.replicate 8 (default : Int)), 0, (⟨0, 0, 0, []⟩ : GPart), s1.i, (vget b.Sponsor ((s1.i).toNat) default), 0⟩ : GEntry), (⟨7, 0, 0, (⟨(⟨0, 0⟩ : GStamp), 0, 0, 0, [], [], []⟩ : GOp), 0, 0, [], (⟨0, (Vector.replicate 8 (default : Int)), (Vector.replicate 8 (default : Int)), (Vector.replicate 8 (default : Int))⟩ : GEpoch), 0, (Vector.replicate 8 (default : Int)), 0, (⟨0, 0, 0, []⟩ : GPart), s1.i, 0, 0⟩ : GEntry), (⟨8, 0, 0, (⟨(⟨0, 0⟩ : GStamp), 0, 0, 0, [], [], []⟩ : GOp), 0, 0, [], (⟨0, (Vector.replicate 8 (default : Int)), (Vector.replicate 8 (default : Int)), (Vector.replicate 8 (default : Int))⟩ : GEpoch), 0, (Vector.replicate 8 (default : Int)), 0, (⟨0, 0, 0, []⟩ : GPart), s1.i, 0, (vget b.Seals ((s1.i).toNat) default)⟩ : GEntry)] s3.k default).From, (lget [(⟨6, 0, 0, (⟨(⟨0, 0⟩ : GStamp), 0, 0, 0, [], [], []⟩ : GOp), 0, 0, [], (⟨0, (Vector.replicate 8 (default : Int)), (Vector.replicate 8 (default : Int)), (Vector.replicate 8 (default : Int))⟩ : GEpoch), 0, (Vector.replicate 8 (default : Int)), 0, (⟨0, 0, 0, []⟩ : GPart), s1.i, (vget b.Sponsor ((s1.i).toNat) default), 0⟩ : GEntry), (⟨7, 0, 0, (⟨(⟨0, 0⟩ : GStamp), 0, 0, 0, [], [], []⟩ : GOp), 0, 0, [], (⟨0, (Vector.replicate 8 (default : Int)), (Vector.replicate 8 (default : Int)), (Vector.replicate 8 (default : Int))⟩ : GEpoch), 0, (Vector.replicate 8 (default : Int)), 0, (⟨0, 0, 0, []⟩ : GPart), s1.i, 0, 0⟩ : GEntry), (⟨8, 0, 0, (⟨(⟨0, 0⟩ : GStamp), 0, 0, 0, [], [], []⟩ : GOp), 0, 0, [], (⟨0, (Vector.replicate 8 (default : Int)), (Vector.replicate 8 (default : Int)), (Vector.replicate 8 (default : Int))⟩ : GEpoch), 0, (Vector.replicate 8 (default : Int)), 0, (⟨0, 0, 0, []⟩ : GPart), s1.i, 0, (vget b.Seals ((s1.i).toNat) default)⟩ : GEntry)] s3.k default).Vector_, (lget [(⟨6, 0, 0, (⟨(⟨0, 0⟩ : GStamp), 0, 0, 0, [], [], []⟩ : GOp), 0, 0, [], (⟨0, (Vector.replicate 8 (default : Int)), (Vector.replicate 8 (default : Int)), (Vector.replicate 8 (default : Int))⟩ : GEpoch), 0, (Vector.replicate 8 (default : Int)), 0, (⟨0, 0, 0, []⟩ : GPart), s1.i, (vget b.Sponsor ((s1.i).toNat) default), 0⟩ : GEntry), (⟨7, 0, 0, (⟨(⟨0, 0⟩ : GStamp), 0, 0, 0, [], [], []⟩ : GOp), 0, 0, [], (⟨0, (Vector.replicate 8 (default : Int)), (Vector.replicate 8 (default : Int)), (Vector.replicate 8 (default : Int))⟩ : GEpoch), 0, (Vector.replicate 8 (default : Int)), 0, (⟨0, 0, 0, []⟩ : GPart), s1.i, 0, 0⟩ : GEntry), (⟨8, 0, 0, (⟨(⟨0, 0⟩ : GStamp), 0, 0, 0, [], [], []⟩ : GOp), 0, 0, [], (⟨0, (Vector.replicate 8 (default : Int)), (Vector.replicate 8 (default : Int)), (Vector.replicate 8 (default : Int))⟩ : GEpoch), 0, (Vector.replicate 8 (default : Int)), 0, (⟨0, 0, 0, []⟩ : GPart), s1.i, 0, (vget b.Seals ((s1.i).toNat) default)⟩ : GEntry)] s3.k default).Clock, ((lget [(⟨6, 0, 0, (⟨(⟨0, 0⟩ : GStamp), 0, 0, 0, [], [], []⟩ : GOp), 0, 0, [], (⟨0, (Vector.replicate 8 (default : Int)), (Vector.replicate 8 (default : Int)), (Vector.replicate 8 (default : Int))⟩ : GEpoch), 0, (Vector.replicate 8 (default : Int)), 0, (⟨0, 0, 0, []⟩ : GPart), s1.i, (vget b.Sponsor ((s1.i).toNat) default), 0⟩ : GEntry), (⟨7, 0, 0, (⟨(⟨0, 0⟩ : GStamp), 0, 0, 0, [], [], []⟩ : GOp), 0, 0, [], (⟨0, (Vector.replicate 8 (default : Int)), (Vector.replicate 8 (default : Int)), (Vector.replicate 8 (default : Int))⟩ : GEpoch), 0, (Vector.replicate 8 (default : Int)), 0, (⟨0, 0, 0, []⟩ : GPart), s1.i, 0, 0⟩ : GEntry), (⟨8, 0, 0, (⟨(⟨0, 0⟩ : GStamp), 0, 0, 0, [], [], []⟩ : GOp), 0, 0, [], (⟨0, (Vector.replicate 8 (default : Int)), (Vector.replicate 8 (default : Int)), (Vector.replicate 8 (default : Int))⟩ : GEpoch), 0, (Vector.replicate 8 (default : Int)), 0, (⟨0, 0, 0, []⟩ : GPart), s1.i, 0, (vget b.Seals ((s1.i).toNat) default)⟩ : GEntry)] s3.k default).Part), (lget [(⟨6, 0, 0, (⟨(⟨0, 0⟩ : GStamp), 0, 0, 0, [], [], []⟩ : GOp), 0, 0, [], (⟨0, (Vector.replicate 8 (default : Int)), (Vector.replicate 8 (default : Int)), (Vector.replicate 8 (default : Int))⟩ : GEpoch), 0, (Vector.replicate 8 (default : Int)), 0, (⟨0, 0, 0, []⟩ : GPart), s1.i, (vget b.Sponsor ((s1.i).toNat) default), 0⟩ : GEntry), (⟨7, 0, 0, (⟨(⟨0, 0⟩ : GStamp), 0, 0, 0, [], [], []⟩ : GOp), 0, 0, [], (⟨0, (Vector.replicate 8 (default : Int)), (Vector.replicate 8 (default : Int)), (Vector.replicate 8 (default : Int))⟩ : GEpoch), 0, (Vector.replicate 8 (default : Int)), 0, (⟨0, 0, 0, []⟩ : GPart), s1.i, 0, 0⟩ : GEntry), (⟨8, 0, 0, (⟨(⟨0, 0⟩ : GStamp), 0, 0, 0, [], [], []⟩ : GOp), 0, 0, [], (⟨0, (Vector.replicate 8 (default : Int)), (Vector.replicate 8 (default : Int)), (Vector.replicate 8 (default : Int))⟩ : GEpoch), 0, (Vector.replicate 8 (default : Int)), 0, (⟨0, 0, 0, []⟩ : GPart), s1.i, 0, (vget b.Seals ((s1.i).toNat) default)⟩ : GEntry)] s3.k default).Site, (lget [(⟨6, 0, 0, (⟨(⟨0, 0⟩ : GStamp), 0, 0, 0, [], [], []⟩ : GOp), 0, 0, [], (⟨0, (Vector.replicate 8 (default : Int)), (Vector.replicate 8 (default : Int)), (Vector.replicate 8 (default : Int))⟩ : GEpoch), 0, (Vector.replicate 8 (default : Int)), 0, (⟨0, 0, 0, []⟩ : GPart), s1.i, (vget b.Sponsor ((s1.i).toNat) default), 0⟩ : GEntry), (⟨7, 0, 0, (⟨(⟨0, 0⟩ : GStamp), 0, 0, 0, [], [], []⟩ : GOp), 0, 0, [], (⟨0, (Vector.replicate 8 (default : Int)), (Vector.replicate 8 (default : Int)), (Vector.replicate 8 (default : Int))⟩ : GEpoch), 0, (Vector.replicate 8 (default : Int)), 0, (⟨0, 0, 0, []⟩ : GPart), s1.i, 0, 0⟩ : GEntry), (⟨8, 0, 0, (⟨(⟨0, 0⟩ : GStamp), 0, 0, 0, [], [], []⟩ : GOp), 0, 0, [], (⟨0, (Vector.replicate 8 (default : Int)), (Vector.replicate 8 (default : Int)), (Vector.replicate 8 (default : Int))⟩ : GEpoch), 0, (Vector.replicate 8 (default : Int)), 0, (⟨0, 0, 0, []⟩ : GPart), s1.i, 0, (vget b.Seals ((s1.i).toNat) default)⟩ : GEntry)] s3.k default).Sponsor, (lget [(⟨6, 0, 0, (⟨(⟨0, 0⟩ : GStamp), 0, 0, 0, [], [], []⟩ : GOp), 0, 0, [], (⟨0, (Vector.replicate 8 (default : Int)), (Vector.replicate 8 (default : Int)), (Vector.replicate 8 (default : Int))⟩ : GEpoch), 0, (Vector.replicate 8 (default : Int)), 0, (⟨0, 0, 0, []⟩ : GPart), s1.i, (vget b.Sponsor ((s1.i).toNat) default), 0⟩ : GEntry), (⟨7, 0, 0, (⟨(⟨0, 0⟩ : GStamp), 0, 0, 0, [], [], []⟩ : GOp), 0, 0, [], (⟨0, (Vector.replicate 8 (default : Int)), (Vector.replicate 8 (default : Int)), (Vector.replicate 8 (default : Int))⟩ : GEpoch), 0, (Vector.replicate 8 (default : Int)), 0, (⟨0, 0, 0, []⟩ : GPart), s1.i, 0, 0⟩ : GEntry), (⟨8, 0, 0, (⟨(⟨0, 0⟩ : GStamp), 0, 0, 0, [], [], []⟩ : GOp), 0, 0, [], (⟨0, (Vector.replicate 8 (default : Int)), (Vector.replicate 8 (default : Int)), (Vector.replicate 8 (default : Int))⟩ : GEpoch), 0, (Vector.replicate 8 (default : Int)), 0, (⟨0, 0, 0, []⟩ : GPart), s1.i, 0, (vget b.Seals ((s1.i).toNat) default)⟩ : GEntry)] s3.k default).Length⟩ : GEntry)).bind fun r5 =>
 (bif ((r5.2 == 0) && ((r5.1.Number == b.Number) && ((vbeq beq3 r5.1.States b.States) && ((vbeq beq2 r5.1.Seals b.Seals) && (vbeq beq3 r5.1.Sponsor b.Sponsor))))) then
 (some true)
 else
 (next4 ⟨(IntKind.i64.wrap (s3.k + 1))⟩)))
 else none)
 else
 (next2 ⟨(IntKind.i64.wrap (s1.i + 1))⟩))) ⟨0⟩)
 else none)
 else none)
 else
 (some false))) ⟨0⟩)
def con11 : Con τ := { args := [.ty 26, .ty 26], L := [], ret := .ty 4, L' := [], R := Bool, dflt := default, F := fun N a b => F11 N a.1 a.2.1, of := fun r => (r, ()) }
noncomputable def dat11 : Dat τ := ⟨D0, tblOf [(14, con14)], lpsOf [(2, lp11x2), (6, lp11x6)], 0⟩
theorem ok11 : ConOk E C 11 con11 :=
  con_ok (D := dat11) ⟨d0Ok, eGood, tblOf_ok (l := [(14, con14)]) ⟨ok14, trivial⟩⟩ con11 (fun a b => a) (fun _ _ => rfl) 1000000 (fn := Try.f11) Try.func11 rfl (by kernel_rfl) (by kernel_rfl) rfl (by intro N a b; kernel_rfl)

/-- orchard/orchardlaw17.EpochFollows -/
def F3 (N : Nat) (a : GEpoch) (b : GEpoch) : Option (Bool) :=
 ((F9 N).bind fun r1 =>
 ((bif r1 then F10 N a b else some default).bind fun r2 =>
 ((bif r1 then F11 N a b else some default).bind fun r3 =>
 (some (r1 && (r2 == r3))))))
def con3 : Con τ := { args := [.ty 26, .ty 26], L := [], ret := .ty 4, L' := [], R := Bool, dflt := default, F := fun N a b => F3 N a.1 a.2.1, of := fun r => (r, ()) }
noncomputable def dat3 : Dat τ := ⟨D0, tblOf [(9, con9), (10, con10), (11, con11)], lpsOf [], 0⟩
theorem ok3 : ConOk E C 3 con3 :=
  con_ok (D := dat3) ⟨d0Ok, eGood, tblOf_ok (l := [(9, con9), (10, con10), (11, con11)]) ⟨ok9, ⟨ok10, ⟨ok11, trivial⟩⟩⟩⟩ con3 (fun a b => a) (fun _ _ => rfl) 1000000 (fn := Try.f3) Try.func3 rfl (by kernel_rfl) (by kernel_rfl) rfl (by intro N a b; kernel_rfl)

structure S4x6 where
  unlike : Int
  t27 : Int
def ts4x6 : List Sl := [.keep, .keep, .keep, .keep, .junk, .keep, .keep, .sh (.ty 2), .junk, .keep, .keep, .keep, .keep, .keep, .keep, .keep, .keep, .keep, .junk, .junk, .keep, .keep, .keep, .keep, .keep, .keep, .keep, .sh (.ty 2), .junk, .junk, .junk, .junk, .junk, .junk, .junk, .junk, .junk, .junk, .junk, .junk, .junk, .junk, .junk, .junk, .junk, .junk, .junk, .junk, .junk, .junk, .junk, .junk, .junk, .junk, .junk, .junk, .junk, .junk, .junk, .junk, .junk, .junk, .junk, .junk, .junk, .junk, .junk, .junk, .keep, .keep, .keep, .keep, .keep, .keep, .keep, .keep, .keep, .keep, .keep, .keep, .keep, .keep, .keep, .keep, .keep, .keep, .keep, .keep, .keep, .keep, .keep, .keep, .keep, .keep, .keep, .keep, .keep, .keep, .keep]
def hs4x6 : List ESh := [.keep, .keep, .keep]
def to4x6 (a : Sl.Ts τ ts4x6) (b : ESh.Ts τ hs4x6) : S4x6 := ⟨a.2.2.2.2.2.2.2.1, a.2.2.2.2.2.2.2.2.2.2.2.2.2.2.2.2.2.2.2.2.2.2.2.2.2.2.2.1⟩
def ot4x6 (s : S4x6) : Sl.Ts τ ts4x6 := ((), (), (), (), (), (), (), s.unlike, (), (), (), (), (), (), (), (), (), (), (), (), (), (), (), (), (), (), (), s.t27, (), (), (), (), (), (), (), (), (), (), (), (), (), (), (), (), (), (), (), (), (), (), (), (), (), (), (), (), (), (), (), (), (), (), (), (), (), (), (), (), (), (), (), (), (), (), (), (), (), (), (), (), (), (), (), (), (), (), (), (), (), (), (), (), (), (), (), (), (), (), (), ())
def oh4x6 (s : S4x6) : ESh.Ts τ hs4x6 := ((), (), (), ())
def lp4x6 : Lp τ := { ts := ts4x6, hs := hs4x6, S := S4x6, to := to4x6, ot := ot4x6, oh := oh4x6, ot_to := fun _ _ => rfl, oh_to := fun _ _ => rfl }
/-- orchard/orchardlaw17.EpochOne -/
def F4 (N : Nat) (e : GEpoch) (x : GEntry) : Option (Bool) :=
 ((F12 N e x).bind fun r1 =>
 ((bif (!(!(r1.2 == 0))) then F9 N else some default).bind fun r2 =>
 (bif ((!(r1.2 == 0)) || (!r2)) then
 ((F9 N).bind fun r3 =>
 (some (r3 && ((r1.1.Number == 0) && ((vbeq beq3 r1.1.States (Vector.replicate 8 (default : Int))) && ((vbeq beq2 r1.1.Seals (Vector.replicate 8 (default : Int))) && (vbeq beq3 r1.1.Sponsor (Vector.replicate 8 (default : Int)))))))))
 else
 (iter N (fun (s4 : S4x6) next5 =>
 (bif (decide (s4.t27 < 8)) then
 (bif (ibB s4.t27 8) then
 (bif (ibB s4.t27 8) then
 (bif (!(!(!((vget e.States ((s4.t27).toNat) default) == (vget r1.1.States ((s4.t27).toNat) default)))) || (ibB s4.t27 8)) then
 (bif (!(!(!((vget e.States ((s4.t27).toNat) default) == (vget r1.1.States ((s4.t27).toNat) default)))) || (ibB s4.t27 8)) then
 (bif (!(!((!((vget e.States ((s4.t27).toNat) default) == (vget r1.1.States ((s4.t27).toNat) default))) || (!((vget e.Seals ((s4.t27).toNat) default) == (vget r1.1.Seals ((s4.t27).toNat) default))))) || (ibB s4.t27 8)) then
 (bif (!(!((!((vget e.States ((s4.t27).toNat) default) == (vget r1.1.States ((s4.t27).toNat) default))) || (!((vget e.Seals ((s4.t27).toNat) default) == (vget r1.1.Seals ((s4.t27).toNat) default))))) || (ibB s4.t27 8)) then
 (bif (((!((vget e.States ((s4.t27).toNat) default) == (vget r1.1.States ((s4.t27).toNat) default))) || (!((vget e.Seals ((s4.t27).toNat) default) == (vget r1.1.Seals ((s4.t27).toNat) default)))) || (!((vget e.Sponsor ((s4.t27).toNat) default) == (vget r1.1.Sponsor ((s4.t27).toNat) default)))) then
 (bif (!(s4.t27 == x.Site)) then
 (some false)
 else
 (next5 ⟨(IntKind.i64.wrap (s4.unlike + 1)), (IntKind.i64.wrap (s4.t27 + 1))⟩))
 else
 (next5 ⟨s4.unlike, (IntKind.i64.wrap (s4.t27 + 1))⟩))
 else none)
 else none)
 else none)
 else none)
 else none)
 else none)
 else
 ((bif ((s4.unlike == 1) && (r1.1.Number == (IntKind.i64.wrap (e.Number + 1)))) then F10 N e r1.1 else some default).bind fun r6 =>
 ((bif (((s4.unlike == 1) && (r1.1.Number == (IntKind.i64.wrap (e.Number + 1)))) && r6) then F10 N r1.1 e else some default).bind fun r7 =>
 ((bif ((((s4.unlike == 1) && (r1.1.Number == (IntKind.i64.wrap (e.Number + 1)))) && r6) && (!r7)) then F10 N e e else some default).bind fun r8 =>
 ((bif (((((s4.unlike == 1) && (r1.1.Number == (IntKind.i64.wrap (e.Number + 1)))) && r6) && (!r7)) && (!r8)) then F13 N r1.1 else some default).bind fun r9 =>
 (some ((((((s4.unlike == 1) && (r1.1.Number == (IntKind.i64.wrap (e.Number + 1)))) && r6) && (!r7)) && (!r8)) && r9)))))))) ⟨0, 0⟩))))
def con4 : Con τ := { args := [.ty 26, .ty 38], L := [], ret := .ty 4, L' := [], R := Bool, dflt := default, F := fun N a b => F4 N a.1 a.2.1, of := fun r => (r, ()) }
noncomputable def dat4 : Dat τ := ⟨D0, tblOf [(12, con12), (9, con9), (10, con10), (13, con13)], lpsOf [(6, lp4x6)], 0⟩
theorem ok4 : ConOk E C 4 con4 :=
  con_ok (D := dat4) ⟨d0Ok, eGood, tblOf_ok (l := [(12, con12), (9, con9), (10, con10), (13, con13)]) ⟨ok12, ⟨ok9, ⟨ok10, ⟨ok13, trivial⟩⟩⟩⟩⟩ con4 (fun a b => a) (fun _ _ => rfl) 1000000 (fn := Try.f4) Try.func4 rfl (by kernel_rfl) (by kernel_rfl) rfl (by intro N a b; kernel_rfl)

structure S17x3 where
  l : List (Int)
  t8 : Int
def ts17x3 : List Sl := [.keep, .keep, .keep, .sh (.own 3 1), .junk, .junk, .keep, .keep, .sh (.ty 2), .junk, .junk, .junk, .junk, .junk, .junk, .junk, .junk, .junk, .junk, .junk, .junk, .junk, .junk, .keep]
def hs17x3 : List ESh := [.keep, .tail]
def to17x3 (a : Sl.Ts τ ts17x3) (b : ESh.Ts τ hs17x3) : S17x3 := ⟨a.2.2.2.1, a.2.2.2.2.2.2.2.2.1⟩
def ot17x3 (s : S17x3) : Sl.Ts τ ts17x3 := ((), (), (), s.l, (), (), (), (), s.t8, (), (), (), (), (), (), (), (), (), (), (), (), (), (), (), ())
def oh17x3 (s : S17x3) : ESh.Ts τ hs17x3 := ((), (), ())
def lp17x3 : Lp τ := { ts := ts17x3, hs := hs17x3, S := S17x3, to := to17x3, ot := ot17x3, oh := oh17x3, ot_to := fun _ _ => rfl, oh_to := fun _ _ => rfl }
/-- orchard/epoch.Members -/
def F17 (N : Nat) (e : GEpoch) : Option ((List (Int))) :=
 (iter N (fun (s1 : S17x3) next2 =>
 (bif (decide (s1.t8 < 8)) then
 (bif (ibB s1.t8 8) then
 (bif (((vget e.States ((s1.t8).toNat) default) == 1) || ((vget e.States ((s1.t8).toNat) default) == 2)) then
 (bif (lenB ((s1.l).length + ([s1.t8]).length) 8) then
 (next2 ⟨(s1.l ++ [s1.t8]), (IntKind.i64.wrap (s1.t8 + 1))⟩)
 else none)
 else
 (next2 ⟨s1.l, (IntKind.i64.wrap (s1.t8 + 1))⟩))
 else none)
 else
 (some s1.l))) ⟨[], 0⟩)
def con17 : Con τ := { args := [.ty 26], L := [], ret := .ty 45, L' := [], R := (List (Int)), dflt := default, F := fun N a b => F17 N a.1, of := fun r => (r, ()) }
noncomputable def dat17 : Dat τ := ⟨D0, tblOf [], lpsOf [(3, lp17x3)], 0⟩
theorem ok17 : ConOk E C 17 con17 :=
  con_ok (D := dat17) ⟨d0Ok, eGood, tblOf_ok (l := []) trivial⟩ con17 (fun a b => a) (fun _ _ => rfl) 1000000 (fn := Try.f17) Try.func17 rfl (by kernel_rfl) (by kernel_rfl) rfl (by intro N a b; kernel_rfl)

/-- orchard/orchardref17.Member -/
def F39 (N : Nat) (e : GEpoch) (i : Int) : Option (Bool) :=
 ((F34 N i).bind fun r1 =>
 (bif (!r1 || (ibB i 8)) then
 (bif (!(r1 && (!((vget e.States ((i).toNat) default) == 1))) || (ibB i 8)) then
 (some (r1 && (((vget e.States ((i).toNat) default) == 1) || ((vget e.States ((i).toNat) default) == 2))))
 else none)
 else none))
def con39 : Con τ := { args := [.ty 26, .ty 3], L := [], ret := .ty 4, L' := [], R := Bool, dflt := default, F := fun N a b => F39 N a.1 a.2.1, of := fun r => (r, ()) }
noncomputable def dat39 : Dat τ := ⟨D0, tblOf [(34, con34)], lpsOf [], 0⟩
theorem ok39 : ConOk E C 39 con39 :=
  con_ok (D := dat39) ⟨d0Ok, eGood, tblOf_ok (l := [(34, con34)]) ⟨ok34, trivial⟩⟩ con39 (fun a b => a) (fun _ _ => rfl) 1000000 (fn := Try.f39) Try.func39 rfl (by kernel_rfl) (by kernel_rfl) rfl (by intro N a b; kernel_rfl)

structure S18x3 where
  l : List (Int)
  i : Int
def ts18x3 : List Sl := [.keep, .keep, .keep, .sh (.own 3 1), .sh (.ty 2), .junk, .junk, .junk, .junk, .junk, .junk, .junk, .junk, .junk, .junk, .junk, .keep]
def hs18x3 : List ESh := [.keep, .tail]
def to18x3 (a : Sl.Ts τ ts18x3) (b : ESh.Ts τ hs18x3) : S18x3 := ⟨a.2.2.2.1, a.2.2.2.2.1⟩
def ot18x3 (s : S18x3) : Sl.Ts τ ts18x3 := ((), (), (), s.l, s.i, (), (), (), (), (), (), (), (), (), (), (), (), ())
def oh18x3 (s : S18x3) : ESh.Ts τ hs18x3 := ((), (), ())
def lp18x3 : Lp τ := { ts := ts18x3, hs := hs18x3, S := S18x3, to := to18x3, ot := ot18x3, oh := oh18x3, ot_to := fun _ _ => rfl, oh_to := fun _ _ => rfl }
/-- orchard/orchardref17.Members -/
def F18 (N : Nat) (e : GEpoch) : Option ((List (Int))) :=
 (iter N (fun (s1 : S18x3) next2 =>
 (bif (decide (s1.i < 8)) then
 ((F39 N e s1.i).bind fun r3 =>
 (bif r3 then
 (bif (lenB ((s1.l).length + ([s1.i]).length) 8) then
 (next2 ⟨(s1.l ++ [s1.i]), (IntKind.i64.wrap (s1.i + 1))⟩)
 else none)
 else
 (next2 ⟨s1.l, (IntKind.i64.wrap (s1.i + 1))⟩)))
 else
 (some s1.l))) ⟨[], 0⟩)
def con18 : Con τ := { args := [.ty 26], L := [], ret := .ty 45, L' := [], R := (List (Int)), dflt := default, F := fun N a b => F18 N a.1, of := fun r => (r, ()) }
noncomputable def dat18 : Dat τ := ⟨D0, tblOf [(39, con39)], lpsOf [(3, lp18x3)], 0⟩
theorem ok18 : ConOk E C 18 con18 :=
  con_ok (D := dat18) ⟨d0Ok, eGood, tblOf_ok (l := [(39, con39)]) ⟨ok39, trivial⟩⟩ con18 (fun a b => a) (fun _ _ => rfl) 1000000 (fn := Try.f18) Try.func18 rfl (by kernel_rfl) (by kernel_rfl) rfl (by intro N a b; kernel_rfl)

structure S16x4 where
  t13 : Int
def ts16x4 : List Sl := [.keep, .keep, .keep, .keep, .junk, .junk, .keep, .keep, .keep, .keep, .keep, .keep, .keep, .sh (.ty 2), .junk, .junk, .junk, .junk, .junk, .junk, .junk, .junk, .junk, .junk, .junk, .junk]
def hs16x4 : List ESh := []
def to16x4 (a : Sl.Ts τ ts16x4) (b : ESh.Ts τ hs16x4) : S16x4 := ⟨a.2.2.2.2.2.2.2.2.2.2.2.2.2.1⟩
def ot16x4 (s : S16x4) : Sl.Ts τ ts16x4 := ((), (), (), (), (), (), (), (), (), (), (), (), (), s.t13, (), (), (), (), (), (), (), (), (), (), (), (), ())
def oh16x4 (s : S16x4) : ESh.Ts τ hs16x4 := ()
def lp16x4 : Lp τ := { ts := ts16x4, hs := hs16x4, S := S16x4, to := to16x4, ot := ot16x4, oh := oh16x4, ot_to := fun _ _ => rfl, oh_to := fun _ _ => rfl }
/-- slices.Equal[[]int,int] -/
def F16 (N : Nat) (s1_ : List (Int)) (s2_ : List (Int)) : Option (Bool) :=
 (bif (!(((s1_).length : Int) == ((s2_).length : Int))) then
 (some false)
 else
 (iter N (fun (s1 : S16x4) next2 =>
 (bif (decide (s1.t13 < ((s1_).length : Int))) then
 (bif (ibB s1.t13 ((s1_).length : Int)) then
 (bif (ibB s1.t13 ((s2_).length : Int)) then
 (bif (!((lget s1_ s1.t13 default) == (lget s2_ s1.t13 default))) then
 (some false)
 else
 (next2 ⟨(IntKind.i64.wrap (s1.t13 + 1))⟩))
 else none)
 else none)
 else
 (some true))) ⟨0⟩))
def con16 : Con τ := { args := [.ty 45, .ty 45], L := [], ret := .ty 4, L' := [], R := Bool, dflt := default, F := fun N a b => F16 N a.1 a.2.1, of := fun r => (r, ()) }
noncomputable def dat16 : Dat τ := ⟨D0, tblOf [], lpsOf [(4, lp16x4)], 0⟩
theorem ok16 : ConOk E C 16 con16 :=
  con_ok (D := dat16) ⟨d0Ok, eGood, tblOf_ok (l := []) trivial⟩ con16 (fun a b => a) (fun _ _ => rfl) 1000000 (fn := Try.f16) Try.func16 rfl (by kernel_rfl) (by kernel_rfl) rfl (by intro N a b; kernel_rfl)

structure S19x2 where
  t9 : Int
  b1 : Vector (Int) 8
def ts19x2 : List Sl := [.keep, .keep, .keep, .keep, .keep, .junk, .junk, .keep, .keep, .sh (.ty 2), .junk, .junk, .junk, .junk, .junk, .junk, .junk, .junk, .junk, .junk, .junk, .junk, .junk, .junk, .junk, .junk, .keep]
def hs19x2 : List ESh := [.keep, .box (.ty 23), .keep]
def to19x2 (a : Sl.Ts τ ts19x2) (b : ESh.Ts τ hs19x2) : S19x2 := ⟨a.2.2.2.2.2.2.2.2.2.1, b.2.1⟩
def ot19x2 (s : S19x2) : Sl.Ts τ ts19x2 := ((), (), (), (), (), (), (), (), (), s.t9, (), (), (), (), (), (), (), (), (), (), (), (), (), (), (), (), (), ())
def oh19x2 (s : S19x2) : ESh.Ts τ hs19x2 := ((), s.b1, (), ())
def lp19x2 : Lp τ := { ts := ts19x2, hs := hs19x2, S := S19x2, to := to19x2, ot := ot19x2, oh := oh19x2, ot_to := fun _ _ => rfl, oh_to := fun _ _ => rfl }
/-- orchard/epoch.Sealed -/
def F19 (N : Nat) (e : GEpoch) (v : Vector (Int) 8) : Option ((Vector (Int) 8)) :=
 (iter N (fun (s1 : S19x2) next2 =>
 (bif (decide (s1.t9 < 8)) then
 (bif (ibB s1.t9 8) then
 (bif ((vget e.States ((s1.t9).toNat) default) == 3) then
 (bif (ibB s1.t9 8) then
 (bif (ibB s1.t9 8) then
 (bif (ibB s1.t9 8) then
 (next2 ⟨(IntKind.i64.wrap (s1.t9 + 1)), (vset s1.b1 ((s1.t9).toNat) (bif decide ((vget e.Seals ((s1.t9).toNat) default) < (vget s1.b1 ((s1.t9).toNat) default)) then (vget e.Seals ((s1.t9).toNat) default) else (vget s1.b1 ((s1.t9).toNat) default)))⟩)
 else none)
 else none)
 else none)
 else
 (next2 ⟨(IntKind.i64.wrap (s1.t9 + 1)), s1.b1⟩))
 else none)
 else
 (some s1.b1))) ⟨0, v⟩)
def con19 : Con τ := { args := [.ty 26, .ty 24], L := [], ret := .ty 24, L' := [], R := (Vector (Int) 8), dflt := default, F := fun N a b => F19 N a.1 a.2.1, of := fun r => (r, ()) }
noncomputable def dat19 : Dat τ := ⟨D0, tblOf [], lpsOf [(2, lp19x2)], 0⟩
theorem ok19 : ConOk E C 19 con19 :=
  con_ok (D := dat19) ⟨d0Ok, eGood, tblOf_ok (l := []) trivial⟩ con19 (fun a b => a) (fun _ _ => rfl) 1000000 (fn := Try.f19) Try.func19 rfl (by kernel_rfl) (by kernel_rfl) rfl (by intro N a b; kernel_rfl)

structure S20x2 where
  i : Int
  b1 : Vector (Int) 8
def ts20x2 : List Sl := [.keep, .keep, .keep, .keep, .keep, .sh (.ty 2), .junk, .junk, .junk, .junk, .junk, .junk, .junk, .junk, .junk, .junk, .junk, .junk, .junk, .junk, .junk, .junk, .junk, .junk, .junk, .keep]
def hs20x2 : List ESh := [.keep, .box (.ty 23), .keep]
def to20x2 (a : Sl.Ts τ ts20x2) (b : ESh.Ts τ hs20x2) : S20x2 := ⟨a.2.2.2.2.2.1, b.2.1⟩
def ot20x2 (s : S20x2) : Sl.Ts τ ts20x2 := ((), (), (), (), (), s.i, (), (), (), (), (), (), (), (), (), (), (), (), (), (), (), (), (), (), (), (), ())
def oh20x2 (s : S20x2) : ESh.Ts τ hs20x2 := ((), s.b1, (), ())
def lp20x2 : Lp τ := { ts := ts20x2, hs := hs20x2, S := S20x2, to := to20x2, ot := ot20x2, oh := oh20x2, ot_to := fun _ _ => rfl, oh_to := fun _ _ => rfl }
/-- orchard/orchardref17.Sealed -/
def F20 (N : Nat) (e : GEpoch) (v : Vector (Int) 8) : Option ((Vector (Int) 8)) :=
 (iter N (fun (s1 : S20x2) next2 =>
 (bif (decide (s1.i < 8)) then
 (bif (ibB s1.i 8) then
 (bif ((vget e.States ((s1.i).toNat) default) == 3) then
 (bif (ibB s1.i 8) then
 (bif (ibB s1.i 8) then
 (bif (ibB s1.i 8) then
 (next2 ⟨(IntKind.i64.wrap (s1.i + 1)), (vset s1.b1 ((s1.i).toNat) (bif decide ((vget e.Seals ((s1.i).toNat) default) < (vget s1.b1 ((s1.i).toNat) default)) then (vget e.Seals ((s1.i).toNat) default) else (vget s1.b1 ((s1.i).toNat) default)))⟩)
 else none)
 else none)
 else none)
 else
 (next2 ⟨(IntKind.i64.wrap (s1.i + 1)), s1.b1⟩))
 else none)
 else
 (some s1.b1))) ⟨0, v⟩)
def con20 : Con τ := { args := [.ty 26, .ty 24], L := [], ret := .ty 24, L' := [], R := (Vector (Int) 8), dflt := default, F := fun N a b => F20 N a.1 a.2.1, of := fun r => (r, ()) }
noncomputable def dat20 : Dat τ := ⟨D0, tblOf [], lpsOf [(2, lp20x2)], 0⟩
theorem ok20 : ConOk E C 20 con20 :=
  con_ok (D := dat20) ⟨d0Ok, eGood, tblOf_ok (l := []) trivial⟩ con20 (fun a b => a) (fun _ _ => rfl) 1000000 (fn := Try.f20) Try.func20 rfl (by kernel_rfl) (by kernel_rfl) rfl (by intro N a b; kernel_rfl)

/-- orchard/orchardlaw17.EpochApplies -/
def F5 (N : Nat) (e : GEpoch) (x : GEntry) (v : Vector (Int) 8) : Option (Bool) :=
 ((F12 N e x).bind fun r1 =>
 ((F14 N e x).bind fun r2 =>
 ((F9 N).bind fun r3 =>
 ((bif ((r3 && ((r1.1.Number == r2.1.Number) && ((vbeq beq3 r1.1.States r2.1.States) && ((vbeq beq2 r1.1.Seals r2.1.Seals) && (vbeq beq3 r1.1.Sponsor r2.1.Sponsor))))) && (r1.2 == r2.2)) then F13 N e else some default).bind fun r4 =>
 ((bif ((r3 && ((r1.1.Number == r2.1.Number) && ((vbeq beq3 r1.1.States r2.1.States) && ((vbeq beq2 r1.1.Seals r2.1.Seals) && (vbeq beq3 r1.1.Sponsor r2.1.Sponsor))))) && (r1.2 == r2.2)) then F15 N e else some default).bind fun r5 =>
 ((bif (((r3 && ((r1.1.Number == r2.1.Number) && ((vbeq beq3 r1.1.States r2.1.States) && ((vbeq beq2 r1.1.Seals r2.1.Seals) && (vbeq beq3 r1.1.Sponsor r2.1.Sponsor))))) && (r1.2 == r2.2)) && (r4 == r5)) then F17 N e else some default).bind fun r6 =>
 ((bif (((r3 && ((r1.1.Number == r2.1.Number) && ((vbeq beq3 r1.1.States r2.1.States) && ((vbeq beq2 r1.1.Seals r2.1.Seals) && (vbeq beq3 r1.1.Sponsor r2.1.Sponsor))))) && (r1.2 == r2.2)) && (r4 == r5)) then F18 N e else some default).bind fun r7 =>
 ((bif (((r3 && ((r1.1.Number == r2.1.Number) && ((vbeq beq3 r1.1.States r2.1.States) && ((vbeq beq2 r1.1.Seals r2.1.Seals) && (vbeq beq3 r1.1.Sponsor r2.1.Sponsor))))) && (r1.2 == r2.2)) && (r4 == r5)) then F16 N r6 r7 else some default).bind fun r8 =>
 ((bif ((((r3 && ((r1.1.Number == r2.1.Number) && ((vbeq beq3 r1.1.States r2.1.States) && ((vbeq beq2 r1.1.Seals r2.1.Seals) && (vbeq beq3 r1.1.Sponsor r2.1.Sponsor))))) && (r1.2 == r2.2)) && (r4 == r5)) && r8) then F19 N e v else some default).bind fun r9 =>
 ((bif ((((r3 && ((r1.1.Number == r2.1.Number) && ((vbeq beq3 r1.1.States r2.1.States) && ((vbeq beq2 r1.1.Seals r2.1.Seals) && (vbeq beq3 r1.1.Sponsor r2.1.Sponsor))))) && (r1.2 == r2.2)) && (r4 == r5)) && r8) then F20 N e v else some default).bind fun r10 =>
 (some (((((r3 && ((r1.1.Number == r2.1.Number) && ((vbeq beq3 r1.1.States r2.1.States) && ((vbeq beq2 r1.1.Seals r2.1.Seals) && (vbeq beq3 r1.1.Sponsor r2.1.Sponsor))))) && (r1.2 == r2.2)) && (r4 == r5)) && r8) && (vbeq beq2 r9 r10)))))))))))))
def con5 : Con τ := { args := [.ty 26, .ty 38, .ty 24], L := [], ret := .ty 4, L' := [], R := Bool, dflt := default, F := fun N a b => F5 N a.1 a.2.1 a.2.2.1, of := fun r => (r, ()) }
noncomputable def dat5 : Dat τ := ⟨D0, tblOf [(12, con12), (14, con14), (9, con9), (13, con13), (15, con15), (17, con17), (18, con18), (16, con16), (19, con19), (20, con20)], lpsOf [], 0⟩
theorem ok5 : ConOk E C 5 con5 :=
  con_ok (D := dat5) ⟨d0Ok, eGood, tblOf_ok (l := [(12, con12), (14, con14), (9, con9), (13, con13), (15, con15), (17, con17), (18, con18), (16, con16), (19, con19), (20, con20)]) ⟨ok12, ⟨ok14, ⟨ok9, ⟨ok13, ⟨ok15, ⟨ok17, ⟨ok18, ⟨ok16, ⟨ok19, ⟨ok20, trivial⟩⟩⟩⟩⟩⟩⟩⟩⟩⟩⟩ con5 (fun a b => a) (fun _ _ => rfl) 1000000 (fn := Try.f5) Try.func5 rfl (by kernel_rfl) (by kernel_rfl) rfl (by intro N a b; kernel_rfl)

end Go.Proofs.Ytjjnclgkppbpnaa
