/-
The functions of this seat, as plain functions over typed data, each with its contract. Printed by wip/tools/fngen.py.
-/
import Derived.Test.YtjjnclgkppbpnaaqCod
import Derived.Test.YtjjnclgkppbpnaaqTvW
import Derived.KernelRfl
set_option linter.unusedVariables false
set_option maxRecDepth 100000
namespace Go.Proofs.Ytjjnclgkppbpnaa
open Go Go.Ev
def Fepoch_site (N : Nat) (n : Int) : Option (Bool) :=
 (some ((decide (0 ≤ n)) && (decide (n < 8))))
def conepoch_site : Con τ := { args := [.ty 3], L := [], ret := .ty 4, L' := [], R := Bool, dflt := default, F := fun N a b => Fepoch_site N a.1, of := fun r => (r, ()) }
noncomputable def datepoch_site : Dat τ := { D := D0, tbl := tblOf [], lp := lpsOf [], k0 := 0, mu := [], un := [] }
theorem okepoch_site : ConOk E C 32 conepoch_site :=
  con_ok (D := datepoch_site) ⟨d0Ok, eGood, tblOf_ok trivial, fun _ => rfl⟩ conepoch_site (fun a b => a) none (fun _ _ => rfl) rfl (fun _ _ h => nomatch h) 1000000 (fn := Try.f32) Try.func32 rfl (by kernel_rfl) (by kernel_rfl) rfl (by intro N a b; kernel_rfl)
def Fepoch_Start_1 (N : Nat) (n : Int) : Option (Bool) :=
 ((Fepoch_site N n).bind fun r1 =>
 (some (!r1)))
def conepoch_Start_1 : Con τ := { args := [.ty 3], L := [], ret := .ty 4, L' := [], R := Bool, dflt := default, F := fun N a b => Fepoch_Start_1 N a.1, of := fun r => (r, ()) }
noncomputable def datepoch_Start_1 : Dat τ := { D := D0, tbl := tblOf [(32, conepoch_site)], lp := lpsOf [], k0 := 0, mu := [], un := [] }
theorem okepoch_Start_1 : ConOk E C 56 conepoch_Start_1 :=
  con_ok (D := datepoch_Start_1) ⟨d0Ok, eGood, tblOf_ok ⟨okepoch_site, trivial⟩, fun _ => rfl⟩ conepoch_Start_1 (fun a b => a) none (fun _ _ => rfl) rfl (fun _ _ h => nomatch h) 1000000 (fn := Try.f56) Try.func56 rfl (by kernel_rfl) (by kernel_rfl) rfl (by intro N a b; kernel_rfl)
structure Sslices_IndexFunc_int_405x2 where
  t8 : Int
def tsslices_IndexFunc_int_405x2 : List Sl := [.k, .k, .k, .k, .j, .j, .k, .k, .sh (.ty 2), .j, .j, .j, .j, .j, .j, .j, .j, .j, .j]
def hsslices_IndexFunc_int_405x2 : List ESh := []
def toslices_IndexFunc_int_405x2 (a : Sl.Ts τ tsslices_IndexFunc_int_405x2) (b : ESh.Ts τ hsslices_IndexFunc_int_405x2) : Sslices_IndexFunc_int_405x2 := ⟨a.2.2.2.2.2.2.2.2.1⟩
def otslices_IndexFunc_int_405x2 (s : Sslices_IndexFunc_int_405x2) : Sl.Ts τ tsslices_IndexFunc_int_405x2 := ((), (), (), (), (), (), (), (), s.t8, (), (), (), (), (), (), (), (), (), (), ())
def ohslices_IndexFunc_int_405x2 (s : Sslices_IndexFunc_int_405x2) : ESh.Ts τ hsslices_IndexFunc_int_405x2 := ()
def lpslices_IndexFunc_int_405x2 : Lp τ := { ts := tsslices_IndexFunc_int_405x2, hs := hsslices_IndexFunc_int_405x2, S := Sslices_IndexFunc_int_405x2, to := toslices_IndexFunc_int_405x2, ot := otslices_IndexFunc_int_405x2, oh := ohslices_IndexFunc_int_405x2, hk := [], tk := [], ot_to := fun _ _ => rfl, oh_to := fun _ _ => rfl }
def Fslices_IndexFunc_int_405 (N : Nat) (s : List (Int)) : Option (Int) :=
 (iter N (fun (s1 : Sslices_IndexFunc_int_405x2) next2 =>
 (bif (decide (s1.t8 < ((s).length : Int))) then
 (bif (ibB s1.t8 ((s).length : Int)) then
 ((Fepoch_Start_1 N (lget s s1.t8 default)).bind fun r3 =>
 (bif r3 then
 (some s1.t8)
 else
 (next2 ⟨(IntKind.i64.wrap (s1.t8 + 1))⟩)))
 else none)
 else
 (some (-1)))) ⟨0⟩)
def conslices_IndexFunc_int_405 : Con τ := { args := [.ty 45, .fn 56 []], L := [], ret := .ty 3, L' := [], R := Int, dflt := default, F := fun N a b => Fslices_IndexFunc_int_405 N a.1, of := fun r => (r, ()) }
noncomputable def datslices_IndexFunc_int_405 : Dat τ := { D := D0, tbl := tblOf [(56, conepoch_Start_1)], lp := lpsOf [(2, lpslices_IndexFunc_int_405x2)], k0 := 0, mu := [], un := [] }
theorem okslices_IndexFunc_int_405 : ConOk E C 76 conslices_IndexFunc_int_405 :=
  con_ok (D := datslices_IndexFunc_int_405) ⟨d0Ok, eGood, tblOf_ok ⟨okepoch_Start_1, trivial⟩, fun _ => rfl⟩ conslices_IndexFunc_int_405 (fun a b => a) none (fun _ _ => rfl) rfl (fun _ _ h => nomatch h) 1000000 (fn := Try.f76) Try.func76 rfl (by kernel_rfl) (by kernel_rfl) rfl (by intro N a b; kernel_rfl)
def Fslices_ContainsFunc_int_405 (N : Nat) (s : List (Int)) : Option (Bool) :=
 ((Fslices_IndexFunc_int_405 N s).bind fun r1 =>
 (some (decide (0 ≤ r1))))
def conslices_ContainsFunc_int_405 : Con τ := { args := [.ty 45, .fn 56 []], L := [], ret := .ty 4, L' := [], R := Bool, dflt := default, F := fun N a b => Fslices_ContainsFunc_int_405 N a.1, of := fun r => (r, ()) }
noncomputable def datslices_ContainsFunc_int_405 : Dat τ := { D := D0, tbl := tblOf [(76, conslices_IndexFunc_int_405)], lp := lpsOf [], k0 := 0, mu := [], un := [] }
theorem okslices_ContainsFunc_int_405 : ConOk E C 55 conslices_ContainsFunc_int_405 :=
  con_ok (D := datslices_ContainsFunc_int_405) ⟨d0Ok, eGood, tblOf_ok ⟨okslices_IndexFunc_int_405, trivial⟩, fun _ => rfl⟩ conslices_ContainsFunc_int_405 (fun a b => a) none (fun _ _ => rfl) rfl (fun _ _ h => nomatch h) 1000000 (fn := Try.f55) Try.func55 rfl (by kernel_rfl) (by kernel_rfl) rfl (by intro N a b; kernel_rfl)
structure Sepoch_nobodyx3 where
  t3 : Int
  b1 : GEpoch
def tsepoch_nobodyx3 : List Sl := [.k, .k, .j, .sh (.ty 2), .j, .j, .j, .j, .j, .j, .k]
def hsepoch_nobodyx3 : List ESh := [.keep, .box (.ty 25)]
def toepoch_nobodyx3 (a : Sl.Ts τ tsepoch_nobodyx3) (b : ESh.Ts τ hsepoch_nobodyx3) : Sepoch_nobodyx3 := ⟨a.2.2.2.1, b.2.1⟩
def otepoch_nobodyx3 (s : Sepoch_nobodyx3) : Sl.Ts τ tsepoch_nobodyx3 := ((), (), (), s.t3, (), (), (), (), (), (), (), ())
def ohepoch_nobodyx3 (s : Sepoch_nobodyx3) : ESh.Ts τ hsepoch_nobodyx3 := ((), s.b1, ())
def lpepoch_nobodyx3 : Lp τ := { ts := tsepoch_nobodyx3, hs := hsepoch_nobodyx3, S := Sepoch_nobodyx3, to := toepoch_nobodyx3, ot := otepoch_nobodyx3, oh := ohepoch_nobodyx3, hk := [2, 2], tk := [2, 3], ot_to := fun _ _ => rfl, oh_to := fun _ _ => rfl }
def Fepoch_nobody (N : Nat)  : Option (GEpoch) :=
 (iter N (fun (s1 : Sepoch_nobodyx3) next2 =>
 (bif (decide (s1.t3 < 8)) then
 (bif (ibB s1.t3 8) then
 (next2 ⟨(IntKind.i64.wrap (s1.t3 + 1)), (⟨s1.b1.Number, s1.b1.States, s1.b1.Seals, (vset s1.b1.Sponsor ((s1.t3).toNat) (-1))⟩ : GEpoch)⟩)
 else none)
 else
 (some s1.b1))) ⟨0, (⟨0, (Vector.replicate 8 (default : Int)), (Vector.replicate 8 (default : Int)), (Vector.replicate 8 (default : Int))⟩ : GEpoch)⟩)
def conepoch_nobody : Con τ := { args := [], L := [], ret := .ty 26, L' := [], R := GEpoch, dflt := default, F := fun N a b => Fepoch_nobody N , of := fun r => (r, ()) }
noncomputable def datepoch_nobody : Dat τ := { D := D0, tbl := tblOf [], lp := lpsOf [(3, lpepoch_nobodyx3)], k0 := 0, mu := [], un := [] }
theorem okepoch_nobody : ConOk E C 57 conepoch_nobody :=
  con_ok (D := datepoch_nobody) ⟨d0Ok, eGood, tblOf_ok trivial, fun _ => rfl⟩ conepoch_nobody (fun a b => a) none (fun _ _ => rfl) rfl (fun _ _ h => nomatch h) 1000000 (fn := Try.f57) Try.func57 rfl (by kernel_rfl) (by kernel_rfl) rfl (by intro N a b; kernel_rfl)
structure Sepoch_Startx5 where
  t18 : Int
  b0 : GEpoch
  b1 : GEpoch
def tsepoch_Startx5 : List Sl := [.k, .k, .k, .j, .k, .k, .j, .k, .k, .k, .k, .j, .j, .k, .k, .k, .k, .k, .sh (.ty 2), .j, .j, .j, .j, .j, .j, .j, .j, .j, .j, .j, .j, .j, .k]
def hsepoch_Startx5 : List ESh := [.box (.ty 25), .box (.ty 25)]
def toepoch_Startx5 (a : Sl.Ts τ tsepoch_Startx5) (b : ESh.Ts τ hsepoch_Startx5) : Sepoch_Startx5 := ⟨a.2.2.2.2.2.2.2.2.2.2.2.2.2.2.2.2.2.2.1, b.1, b.2.1⟩
def otepoch_Startx5 (s : Sepoch_Startx5) : Sl.Ts τ tsepoch_Startx5 := ((), (), (), (), (), (), (), (), (), (), (), (), (), (), (), (), (), (), s.t18, (), (), (), (), (), (), (), (), (), (), (), (), (), (), ())
def ohepoch_Startx5 (s : Sepoch_Startx5) : ESh.Ts τ hsepoch_Startx5 := (s.b0, s.b1, ())
def lpepoch_Startx5 : Lp τ := { ts := tsepoch_Startx5, hs := hsepoch_Startx5, S := Sepoch_Startx5, to := toepoch_Startx5, ot := otepoch_Startx5, oh := ohepoch_Startx5, hk := [2, 2], tk := [0, 0, 2, 0, 3], ot_to := fun _ _ => rfl, oh_to := fun _ _ => rfl }
def Fepoch_Start (N : Nat) (members : List (Int)) : Option (GEpoch × Int) :=
 ((bif (!(((members).length : Int) == 0)) then Fslices_ContainsFunc_int_405 N members else some default).bind fun r1 =>
 (bif ((((members).length : Int) == 0) || r1) then
 (some ((⟨0, (Vector.replicate 8 (default : Int)), (Vector.replicate 8 (default : Int)), (Vector.replicate 8 (default : Int))⟩ : GEpoch), 1))
 else
 ((Fepoch_nobody N).bind fun r2 =>
 (iter N (fun (s3 : Sepoch_Startx5) next4 =>
 (bif (decide (s3.t18 < ((members).length : Int))) then
 (bif (ibB s3.t18 ((members).length : Int)) then
 (bif (ibB (lget members s3.t18 default) 8) then
 (bif (!((vget s3.b1.States (((lget members s3.t18 default)).toNat) default) == 0)) then
 (some ((⟨0, (Vector.replicate 8 (default : Int)), (Vector.replicate 8 (default : Int)), (Vector.replicate 8 (default : Int))⟩ : GEpoch), 5))
 else
 (bif (ibB (lget members s3.t18 default) 8) then
 (next4 ⟨(IntKind.i64.wrap (s3.t18 + 1)), s3.b0, (⟨s3.b1.Number, (vset s3.b1.States (((lget members s3.t18 default)).toNat) 1), s3.b1.Seals, s3.b1.Sponsor⟩ : GEpoch)⟩)
 else none))
 else none)
 else none)
 else
 (some (s3.b1, 0)))) ⟨0, (⟨0, (Vector.replicate 8 (default : Int)), (Vector.replicate 8 (default : Int)), (Vector.replicate 8 (default : Int))⟩ : GEpoch), r2⟩))))
def conepoch_Start : Con τ := { args := [.ty 45], L := [], ret := .tup [.ty 26, .ty 39], L' := [], R := GEpoch × Int, dflt := (default, default), F := fun N a b => Fepoch_Start N a.1, of := fun r => ((r.1, r.2, ()), ()) }
noncomputable def datepoch_Start : Dat τ := { D := D0, tbl := tblOf [(55, conslices_ContainsFunc_int_405), (57, conepoch_nobody)], lp := lpsOf [(5, lpepoch_Startx5)], k0 := 0, mu := [], un := [] }
theorem okepoch_Start : ConOk E C 31 conepoch_Start :=
  con_ok (D := datepoch_Start) ⟨d0Ok, eGood, tblOf_ok ⟨okslices_ContainsFunc_int_405, ⟨okepoch_nobody, trivial⟩⟩, fun _ => rfl⟩ conepoch_Start (fun a b => (a.1, a.2.1)) none (fun _ _ => rfl) rfl (fun _ _ h => nomatch h) 1000000 (fn := Try.f31) Try.func31 rfl (by kernel_rfl) (by kernel_rfl) rfl (by intro N a b; kernel_rfl)
structure Sepoch_Checkx5 where
  some_ : Bool
  t18 : Int
def tsepoch_Checkx5 : List Sl := [.k, .k, .j, .sh (.ty 4), .j, .j, .j, .j, .k, .k, .k, .k, .j, .j, .j, .k, .k, .k, .sh (.ty 2), .j, .j, .j, .j, .j, .j, .j, .j, .j, .j, .j, .j, .j, .j, .j, .j, .j, .j, .j, .j, .j, .j, .j, .j, .j, .j, .j, .j, .j, .j, .j, .j, .j, .j, .j, .j, .j, .j, .j, .j, .j, .j, .j, .j, .j, .j, .j, .j, .j, .j, .j, .j, .j, .j, .j, .j, .j, .j, .j, .k]
def hsepoch_Checkx5 : List ESh := [.keep]
def toepoch_Checkx5 (a : Sl.Ts τ tsepoch_Checkx5) (b : ESh.Ts τ hsepoch_Checkx5) : Sepoch_Checkx5 := ⟨a.2.2.2.1, a.2.2.2.2.2.2.2.2.2.2.2.2.2.2.2.2.2.2.1⟩
def otepoch_Checkx5 (s : Sepoch_Checkx5) : Sl.Ts τ tsepoch_Checkx5 := ((), (), (), s.some_, (), (), (), (), (), (), (), (), (), (), (), (), (), (), s.t18, (), (), (), (), (), (), (), (), (), (), (), (), (), (), (), (), (), (), (), (), (), (), (), (), (), (), (), (), (), (), (), (), (), (), (), (), (), (), (), (), (), (), (), (), (), (), (), (), (), (), (), (), (), (), (), (), (), (), (), (), ())
def ohepoch_Checkx5 (s : Sepoch_Checkx5) : ESh.Ts τ hsepoch_Checkx5 := ((), ())
def lpepoch_Checkx5 : Lp τ := { ts := tsepoch_Checkx5, hs := hsepoch_Checkx5, S := Sepoch_Checkx5, to := toepoch_Checkx5, ot := otepoch_Checkx5, oh := ohepoch_Checkx5, hk := [2], tk := [0, 2, 0, 0, 0, 0, 0, 0, 2, 0, 0, 0, 0, 0, 0, 0, 2], ot_to := fun _ _ => rfl, oh_to := fun _ _ => rfl }
def Fepoch_Check (N : Nat) (e : GEpoch) : Option (Bool) :=
 (bif ((decide (e.Number < 0)) || (decide (1024 ≤ e.Number))) then
 (some false)
 else
 (iter N (fun (s1 : Sepoch_Checkx5) next2 =>
 (bif (decide (s1.t18 < 8)) then
 (bif (ibB s1.t18 8) then
 (bif (ibB s1.t18 8) then
 (bif (ibB s1.t18 8) then
 (bif ((decide ((vget e.States ((s1.t18).toNat) default) < 0)) || (decide (3 < (vget e.States ((s1.t18).toNat) default)))) then
 (some false)
 else
 (bif ((((!((vget e.States ((s1.t18).toNat) default) == 3)) && (!((vget e.Seals ((s1.t18).toNat) default) == 0))) || (decide ((vget e.Seals ((s1.t18).toNat) default) < 0))) || (decide (1099511627776 < (vget e.Seals ((s1.t18).toNat) default)))) then
 (some false)
 else
 (bif ((((((vget e.States ((s1.t18).toNat) default) == 0) && (!((vget e.Sponsor ((s1.t18).toNat) default) == (-1)))) || (decide ((vget e.Sponsor ((s1.t18).toNat) default) < (-1)))) || (decide (8 ≤ (vget e.Sponsor ((s1.t18).toNat) default)))) || ((vget e.Sponsor ((s1.t18).toNat) default) == s1.t18)) then
 (some false)
 else
 (next2 ⟨(s1.some_ || ((vget e.States ((s1.t18).toNat) default) == 1)), (IntKind.i64.wrap (s1.t18 + 1))⟩))))
 else none)
 else none)
 else none)
 else
 (some s1.some_))) ⟨false, 0⟩))
def conepoch_Check : Con τ := { args := [.ty 26], L := [], ret := .ty 4, L' := [], R := Bool, dflt := default, F := fun N a b => Fepoch_Check N a.1, of := fun r => (r, ()) }
noncomputable def datepoch_Check : Dat τ := { D := D0, tbl := tblOf [], lp := lpsOf [(5, lpepoch_Checkx5)], k0 := 0, mu := [], un := [] }
theorem okepoch_Check : ConOk E C 13 conepoch_Check :=
  con_ok (D := datepoch_Check) ⟨d0Ok, eGood, tblOf_ok trivial, fun _ => rfl⟩ conepoch_Check (fun a b => a) none (fun _ _ => rfl) rfl (fun _ _ h => nomatch h) 1000000 (fn := Try.f13) Try.func13 rfl (by kernel_rfl) (by kernel_rfl) rfl (by intro N a b; kernel_rfl)
structure Sepoch_writersx3 where
  n : Int
  t8 : Int
def tsepoch_writersx3 : List Sl := [.k, .k, .k, .sh (.ty 2), .k, .j, .k, .k, .sh (.ty 2), .j, .j, .j, .j, .j, .j, .j, .k]
def hsepoch_writersx3 : List ESh := [.keep]
def toepoch_writersx3 (a : Sl.Ts τ tsepoch_writersx3) (b : ESh.Ts τ hsepoch_writersx3) : Sepoch_writersx3 := ⟨a.2.2.2.1, a.2.2.2.2.2.2.2.2.1⟩
def otepoch_writersx3 (s : Sepoch_writersx3) : Sl.Ts τ tsepoch_writersx3 := ((), (), (), s.n, (), (), (), (), s.t8, (), (), (), (), (), (), (), (), ())
def ohepoch_writersx3 (s : Sepoch_writersx3) : ESh.Ts τ hsepoch_writersx3 := ((), ())
def lpepoch_writersx3 : Lp τ := { ts := tsepoch_writersx3, hs := hsepoch_writersx3, S := Sepoch_writersx3, to := toepoch_writersx3, ot := otepoch_writersx3, oh := ohepoch_writersx3, hk := [2], tk := [0, 2, 0, 0, 0, 0, 2], ot_to := fun _ _ => rfl, oh_to := fun _ _ => rfl }
def Fepoch_writers (N : Nat) (e : GEpoch) : Option (Int) :=
 (iter N (fun (s1 : Sepoch_writersx3) next2 =>
 (bif (decide (s1.t8 < 8)) then
 (bif (ibB s1.t8 8) then
 (bif ((vget e.States ((s1.t8).toNat) default) == 1) then
 (next2 ⟨(IntKind.i64.wrap (s1.n + 1)), (IntKind.i64.wrap (s1.t8 + 1))⟩)
 else
 (next2 ⟨s1.n, (IntKind.i64.wrap (s1.t8 + 1))⟩))
 else none)
 else
 (some s1.n))) ⟨0, 0⟩)
def conepoch_writers : Con τ := { args := [.ty 26], L := [], ret := .ty 3, L' := [], R := Int, dflt := default, F := fun N a b => Fepoch_writers N a.1, of := fun r => (r, ()) }
noncomputable def datepoch_writers : Dat τ := { D := D0, tbl := tblOf [], lp := lpsOf [(3, lpepoch_writersx3)], k0 := 0, mu := [], un := [] }
theorem okepoch_writers : ConOk E C 33 conepoch_writers :=
  con_ok (D := datepoch_writers) ⟨d0Ok, eGood, tblOf_ok trivial, fun _ => rfl⟩ conepoch_writers (fun a b => a) none (fun _ _ => rfl) rfl (fun _ _ h => nomatch h) 1000000 (fn := Try.f33) Try.func33 rfl (by kernel_rfl) (by kernel_rfl) rfl (by intro N a b; kernel_rfl)
def Fepoch_Apply (N : Nat) (e : GEpoch) (x : GEntry) : Option (GEpoch × Int) :=
 ((Fepoch_Check N e).bind fun r1 =>
 ((bif (!((!r1) || (((!(x.Kind == 6)) && (!(x.Kind == 7))) && (!(x.Kind == 8))))) then Fepoch_site N x.Site else some default).bind fun r2 =>
 (bif (((!r1) || (((!(x.Kind == 6)) && (!(x.Kind == 7))) && (!(x.Kind == 8)))) || (!r2)) then
 (some ((⟨0, (Vector.replicate 8 (default : Int)), (Vector.replicate 8 (default : Int)), (Vector.replicate 8 (default : Int))⟩ : GEpoch), 1))
 else
 (bif (decide (1023 ≤ e.Number)) then
 (some ((⟨0, (Vector.replicate 8 (default : Int)), (Vector.replicate 8 (default : Int)), (Vector.replicate 8 (default : Int))⟩ : GEpoch), 3))
 else
 (bif (ibB x.Site 8) then
 (bif (x.Kind == 6) then
 (bif (!((vget e.States ((x.Site).toNat) default) == 0)) then
 (some ((⟨0, (Vector.replicate 8 (default : Int)), (Vector.replicate 8 (default : Int)), (Vector.replicate 8 (default : Int))⟩ : GEpoch), 171))
 else
 ((Fepoch_site N x.Sponsor).bind fun r3 =>
 (bif (!r3) then
 (some ((⟨0, (Vector.replicate 8 (default : Int)), (Vector.replicate 8 (default : Int)), (Vector.replicate 8 (default : Int))⟩ : GEpoch), 1))
 else
 (bif (ibB x.Sponsor 8) then
 (bif (!((vget e.States ((x.Sponsor).toNat) default) == 1)) then
 (some ((⟨0, (Vector.replicate 8 (default : Int)), (Vector.replicate 8 (default : Int)), (Vector.replicate 8 (default : Int))⟩ : GEpoch), 171))
 else
 (bif (ibB x.Site 8) then
 (some ((⟨(IntKind.i64.wrap (e.Number + 1)), (vset e.States ((x.Site).toNat) 1), e.Seals, (vset e.Sponsor ((x.Site).toNat) x.Sponsor)⟩ : GEpoch), 0))
 else none))
 else none))))
 else
 (bif (x.Kind == 7) then
 (bif (!((vget e.States ((x.Site).toNat) default) == 1)) then
 (some ((⟨0, (Vector.replicate 8 (default : Int)), (Vector.replicate 8 (default : Int)), (Vector.replicate 8 (default : Int))⟩ : GEpoch), 171))
 else
 ((Fepoch_writers N (⟨(IntKind.i64.wrap (e.Number + 1)), e.States, e.Seals, e.Sponsor⟩ : GEpoch)).bind fun r4 =>
 (bif (decide (r4 < 2)) then
 (some ((⟨0, (Vector.replicate 8 (default : Int)), (Vector.replicate 8 (default : Int)), (Vector.replicate 8 (default : Int))⟩ : GEpoch), 170))
 else
 (some ((⟨(IntKind.i64.wrap (e.Number + 1)), (vset e.States ((x.Site).toNat) 2), e.Seals, e.Sponsor⟩ : GEpoch), 0)))))
 else
 (bif (!((vget e.States ((x.Site).toNat) default) == 2)) then
 (some ((⟨0, (Vector.replicate 8 (default : Int)), (Vector.replicate 8 (default : Int)), (Vector.replicate 8 (default : Int))⟩ : GEpoch), 171))
 else
 (bif ((decide (x.Length < 0)) || (decide (1099511627776 < x.Length))) then
 (some ((⟨0, (Vector.replicate 8 (default : Int)), (Vector.replicate 8 (default : Int)), (Vector.replicate 8 (default : Int))⟩ : GEpoch), 1))
 else
 (bif (ibB x.Site 8) then
 (some ((⟨(IntKind.i64.wrap (e.Number + 1)), (vset e.States ((x.Site).toNat) 3), (vset e.Seals ((x.Site).toNat) x.Length), e.Sponsor⟩ : GEpoch), 0))
 else none)))))
 else none)))))
def conepoch_Apply : Con τ := { args := [.ty 26, .ty 38], L := [], ret := .tup [.ty 26, .ty 39], L' := [], R := GEpoch × Int, dflt := (default, default), F := fun N a b => Fepoch_Apply N a.1 a.2.1, of := fun r => ((r.1, r.2, ()), ()) }
noncomputable def datepoch_Apply : Dat τ := { D := D0, tbl := tblOf [(13, conepoch_Check), (32, conepoch_site), (33, conepoch_writers)], lp := lpsOf [], k0 := 0, mu := [], un := [] }
theorem okepoch_Apply : ConOk E C 12 conepoch_Apply :=
  con_ok (D := datepoch_Apply) ⟨d0Ok, eGood, tblOf_ok ⟨okepoch_Check, ⟨okepoch_site, ⟨okepoch_writers, trivial⟩⟩⟩, fun _ => rfl⟩ conepoch_Apply (fun a b => (a.1, a.2.1)) none (fun _ _ => rfl) rfl (fun _ _ h => nomatch h) 1000000 (fn := Try.f12) Try.func12 rfl (by kernel_rfl) (by kernel_rfl) rfl (by intro N a b; kernel_rfl)
structure Sepoch_Followsx2 where
  t10 : Int
def tsepoch_Followsx2 : List Sl := [.k, .k, .k, .k, .j, .j, .k, .j, .j, .j, .sh (.ty 2), .j, .j, .j, .j, .j, .j, .j, .j, .j, .j, .j, .j, .j, .j, .j, .j, .j, .j, .j, .j, .j, .j, .j, .j, .j, .j, .j, .j, .j, .j, .j, .j, .j, .j, .j]
def hsepoch_Followsx2 : List ESh := [.keep, .keep]
def toepoch_Followsx2 (a : Sl.Ts τ tsepoch_Followsx2) (b : ESh.Ts τ hsepoch_Followsx2) : Sepoch_Followsx2 := ⟨a.2.2.2.2.2.2.2.2.2.2.1⟩
def otepoch_Followsx2 (s : Sepoch_Followsx2) : Sl.Ts τ tsepoch_Followsx2 := ((), (), (), (), (), (), (), (), (), (), s.t10, (), (), (), (), (), (), (), (), (), (), (), (), (), (), (), (), (), (), (), (), (), (), (), (), (), (), (), (), (), (), (), (), (), (), (), ())
def ohepoch_Followsx2 (s : Sepoch_Followsx2) : ESh.Ts τ hsepoch_Followsx2 := ((), (), ())
def lpepoch_Followsx2 : Lp τ := { ts := tsepoch_Followsx2, hs := hsepoch_Followsx2, S := Sepoch_Followsx2, to := toepoch_Followsx2, ot := otepoch_Followsx2, oh := ohepoch_Followsx2, hk := [2, 2], tk := [0, 0, 2, 3], ot_to := fun _ _ => rfl, oh_to := fun _ _ => rfl }
structure Sepoch_Followsx5 where
  t28 : Int
def tsepoch_Followsx5 : List Sl := [.k, .k, .k, .k, .j, .k, .k, .j, .j, .j, .k, .k, .k, .k, .k, .k, .k, .k, .k, .k, .k, .k, .k, .k, .k, .k, .k, .k, .sh (.ty 2), .j, .j, .j, .j, .j, .j, .j, .j, .j, .j, .j, .j, .j, .j, .j, .j, .k]
def hsepoch_Followsx5 : List ESh := [.keep, .keep]
def toepoch_Followsx5 (a : Sl.Ts τ tsepoch_Followsx5) (b : ESh.Ts τ hsepoch_Followsx5) : Sepoch_Followsx5 := ⟨a.2.2.2.2.2.2.2.2.2.2.2.2.2.2.2.2.2.2.2.2.2.2.2.2.2.2.2.2.1⟩
def otepoch_Followsx5 (s : Sepoch_Followsx5) : Sl.Ts τ tsepoch_Followsx5 := ((), (), (), (), (), (), (), (), (), (), (), (), (), (), (), (), (), (), (), (), (), (), (), (), (), (), (), (), s.t28, (), (), (), (), (), (), (), (), (), (), (), (), (), (), (), (), (), ())
def ohepoch_Followsx5 (s : Sepoch_Followsx5) : ESh.Ts τ hsepoch_Followsx5 := ((), (), ())
def lpepoch_Followsx5 : Lp τ := { ts := tsepoch_Followsx5, hs := hsepoch_Followsx5, S := Sepoch_Followsx5, to := toepoch_Followsx5, ot := otepoch_Followsx5, oh := ohepoch_Followsx5, hk := [2, 2], tk := [0, 0, 2, 3, 0, 0, 0, 0, 0, 0, 0, 0, 0, 0, 0, 3, 3, 0, 0, 0, 0, 0, 0, 3, 3], ot_to := fun _ _ => rfl, oh_to := fun _ _ => rfl }
def Fepoch_Follows (N : Nat) (a : GEpoch) (b : GEpoch) : Option (Bool) :=
 (iter N (fun (s1 : Sepoch_Followsx2) next2 =>
 (bif (decide (s1.t10 < 8)) then
 (bif (ibB s1.t10 8) then
 (bif (ibB s1.t10 8) then
 (iter N (fun (s3 : Sepoch_Followsx5) next4 =>
 (bif (decide (s3.t28 < 3)) then
 (bif (ibB s3.t28 3) then
 ((Fepoch_Apply N a (⟨(vget (vset (vset (vset (Vector.replicate 3 (default : GEntry)) 0 (⟨6, 0, 0, (⟨(⟨0, 0⟩ : GStamp), 0, 0, 0, [], [], []⟩ : GOp), 0, 0, [], (⟨0, (Vector.replicate 8 (default : Int)), (Vector.replicate 8 (default : Int)), (Vector.replicate 8 (default : Int))⟩ : GEpoch), 0, (Vector.replicate 8 (default : Int)), 0, (⟨0, 0, 0, []⟩ : GPart), s1.t10, (vget b.Sponsor ((s1.t10).toNat) default), 0⟩ : GEntry)) 1 (⟨7, 0, 0, (⟨(⟨0, 0⟩ : GStamp), 0, 0, 0, [], [], []⟩ : GOp), 0, 0, [], (⟨0, (Vector.replicate 8 (default : Int)), (Vector.replicate 8 (default : Int)), (Vector.replicate 8 (default : Int))⟩ : GEpoch), 0, (Vector.replicate 8 (default : Int)), 0, (⟨0, 0, 0, []⟩ : GPart), s1.t10, 0, 0⟩ : GEntry)) 2 (⟨8, 0, 0, (⟨(⟨0, 0⟩ : GStamp), 0, 0, 0, [], [], []⟩ : GOp), 0, 0, [], (⟨0, (Vector.replicate 8 (default : Int)), (Vector.replicate 8 (default : Int)), (Vector.replicate 8 (default : Int))⟩ : GEpoch), 0, (Vector.replicate 8 (default : Int)), 0, (⟨0, 0, 0, []⟩ : GPart), s1.t10, 0, (vget b.Seals ((s1.t10).toNat) default)⟩ : GEntry)) ((s3.t28).toNat) default).Kind, (vget (vset (vset (vset (Vector.replicate 3 (default : GEntry)) 0 (⟨6, 0, 0, (⟨(⟨0, 0⟩ : GStamp), 0, 0, 0, [], [], []⟩ : GOp), 0, 0, [], (⟨0, (Vector.replicate 8 (default : Int)), (Vector.replicate 8 (default : Int)), (Vector.replicate 8 (default : Int))⟩ : GEpoch), 0, (Vector.replicate 8 (default : Int)), 0, (⟨0, 0, 0, []⟩ : GPart), s1.t10, (vget b.Sponsor ((s1.t10).toNat) default), 0⟩ : GEntry)) 1 (⟨7, 0, 0, (⟨(⟨0, 0⟩ : GStamp), 0, 0, 0, [], [], []⟩ : GOp), 0, 0, [], (⟨0, (Vector.replicate 8 (default : Int)), (Vector.replicate 8 (default : Int)), (Vector.replicate 8 (default : Int))⟩ : GEpoch), 0, (Vector.replicate 8 (default : Int)), 0, (⟨0, 0, 0, []⟩ : GPart), s1.t10, 0, 0⟩ : GEntry)) 2 (⟨8, 0, 0, (⟨(⟨0, 0⟩ : GStamp), 0, 0, 0, [], [], []⟩ : GOp), 0, 0, [], (⟨0, (Vector.replicate 8 (default : Int)), (Vector.replicate 8 (default : Int)), (Vector.replicate 8 (default : Int))⟩ : GEpoch), 0, (Vector.replicate 8 (default : Int)), 0, (⟨0, 0, 0, []⟩ : GPart), s1.t10, 0, (vget b.Seals ((s1.t10).toNat) default)⟩ : GEntry)) ((s3.t28).toNat) default).Session, (vget (vset (vset (vset (Vector.replicate 3 (default : GEntry)) 0 (⟨6, 0, 0, (⟨(⟨0, 0⟩ : GStamp), 0, 0, 0, [], [], []⟩ : GOp), 0, 0, [], (⟨0, (Vector.replicate 8 (default : Int)), (Vector.replicate 8 (default : Int)), (Vector.replicate 8 (default : Int))⟩ : GEpoch), 0, (Vector.replicate 8 (default : Int)), 0, (⟨0, 0, 0, []⟩ : GPart), s1.t10, (vget b.Sponsor ((s1.t10).toNat) default), 0⟩ : GEntry)) 1 (⟨7, 0, 0, (⟨(⟨0, 0⟩ : GStamp), 0, 0, 0, [], [], []⟩ : GOp), 0, 0, [], (⟨0, (Vector.replicate 8 (default : Int)), (Vector.replicate 8 (default : Int)), (Vector.replicate 8 (default : Int))⟩ : GEpoch), 0, (Vector.replicate 8 (default : Int)), 0, (⟨0, 0, 0, []⟩ : GPart), s1.t10, 0, 0⟩ : GEntry)) 2 (⟨8, 0, 0, (⟨(⟨0, 0⟩ : GStamp), 0, 0, 0, [], [], []⟩ : GOp), 0, 0, [], (⟨0, (Vector.replicate 8 (default : Int)), (Vector.replicate 8 (default : Int)), (Vector.replicate 8 (default : Int))⟩ : GEpoch), 0, (Vector.replicate 8 (default : Int)), 0, (⟨0, 0, 0, []⟩ : GPart), s1.t10, 0, (vget b.Seals ((s1.t10).toNat) default)⟩ : GEntry)) ((s3.t28).toNat) default).Request, (⟨(((vget (vset (vset (vset (Vector.replicate 3 (default : GEntry)) 0 (⟨6, 0, 0, (⟨(⟨0, 0⟩ : GStamp), 0, 0, 0, [], [], []⟩ : GOp), 0, 0, [], (⟨0, (Vector.replicate 8 (default : Int)), (Vector.replicate 8 (default : Int)), (Vector.replicate 8 (default : Int))⟩ : GEpoch), 0, (Vector.replicate 8 (default : Int)), 0, (⟨0, 0, 0, []⟩ : GPart), s1.t10, (vget b.Sponsor ((s1.t10).toNat) default), 0⟩ : GEntry)) 1 (⟨7, 0, 0, (⟨(⟨0, 0⟩ : GStamp), 0, 0, 0, [], [], []⟩ : GOp), 0, 0, [], (⟨0, (Vector.replicate 8 (default : Int)), (Vector.replicate 8 (default : Int)), (Vector.replicate 8 (default : Int))⟩ : GEpoch), 0, (Vector.replicate 8 (default : Int)), 0, (⟨0, 0, 0, []⟩ : GPart), s1.t10, 0, 0⟩ : GEntry)) 2 (⟨8, 0, 0, (⟨(⟨0, 0⟩ : GStamp), 0, 0, 0, [], [], []⟩ : GOp), 0, 0, [], (⟨0, (Vector.replicate 8 (default : Int)), (Vector.replicate 8 (default : Int)), (Vector.replicate 8 (default : Int))⟩ : GEpoch), 0, (Vector.replicate 8 (default : Int)), 0, (⟨0, 0, 0, []⟩ : GPart), s1.t10, 0, (vget b.Seals ((s1.t10).toNat) default)⟩ : GEntry)) ((s3.t28).toNat) default).Op).Stamp), ((vget (vset (vset (vset (Vector.replicate 3 (default : GEntry)) 0 (⟨6, 0, 0, (⟨(⟨0, 0⟩ : GStamp), 0, 0, 0, [], [], []⟩ : GOp), 0, 0, [], (⟨0, (Vector.replicate 8 (default : Int)), (Vector.replicate 8 (default : Int)), (Vector.replicate 8 (default : Int))⟩ : GEpoch), 0, (Vector.replicate 8 (default : Int)), 0, (⟨0, 0, 0, []⟩ : GPart), s1.t10, (vget b.Sponsor ((s1.t10).toNat) default), 0⟩ : GEntry)) 1 (⟨7, 0, 0, (⟨(⟨0, 0⟩ : GStamp), 0, 0, 0, [], [], []⟩ : GOp), 0, 0, [], (⟨0, (Vector.replicate 8 (default : Int)), (Vector.replicate 8 (default : Int)), (Vector.replicate 8 (default : Int))⟩ : GEpoch), 0, (Vector.replicate 8 (default : Int)), 0, (⟨0, 0, 0, []⟩ : GPart), s1.t10, 0, 0⟩ : GEntry)) 2 (⟨8, 0, 0, (⟨(⟨0, 0⟩ : GStamp), 0, 0, 0, [], [], []⟩ : GOp), 0, 0, [], (⟨0, (Vector.replicate 8 (default : Int)), (Vector.replicate 8 (default : Int)), (Vector.replicate 8 (default : Int))⟩ : GEpoch), 0, (Vector.replicate 8 (default : Int)), 0, (⟨0, 0, 0, []⟩ : GPart), s1.t10, 0, (vget b.Seals ((s1.t10).toNat) default)⟩ : GEntry)) ((s3.t28).toNat) default).Op).Kind, ((vget (vset (vset (vset (Vector.replicate 3 (default : GEntry)) 0 (⟨6, 0, 0, (⟨(⟨0, 0⟩ : GStamp), 0, 0, 0, [], [], []⟩ : GOp), 0, 0, [], (⟨0, (Vector.replicate 8 (default : Int)), (Vector.replicate 8 (default : Int)), (Vector.replicate 8 (default : Int))⟩ : GEpoch), 0, (Vector.replicate 8 (default : Int)), 0, (⟨0, 0, 0, []⟩ : GPart), s1.t10, (vget b.Sponsor ((s1.t10).toNat) default), 0⟩ : GEntry)) 1 (⟨7, 0, 0, (⟨(⟨0, 0⟩ : GStamp), 0, 0, 0, [], [], []⟩ : GOp), 0, 0, [], (⟨0, (Vector.replicate 8 (default : Int)), (Vector.replicate 8 (default : Int)), (Vector.replicate 8 (default : Int))⟩ : GEpoch), 0, (Vector.replicate 8 (default : Int)), 0, (⟨0, 0, 0, []⟩ : GPart), s1.t10, 0, 0⟩ : GEntry)) 2 (⟨8, 0, 0, (⟨(⟨0, 0⟩ : GStamp), 0, 0, 0, [], [], []⟩ : GOp), 0, 0, [], (⟨0, (Vector.replicate 8 (default : Int)), (Vector.replicate 8 (default : Int)), (Vector.replicate 8 (default : Int))⟩ : GEpoch), 0, (Vector.replicate 8 (default : Int)), 0, (⟨0, 0, 0, []⟩ : GPart), s1.t10, 0, (vget b.Seals ((s1.t10).toNat) default)⟩ : GEntry)) ((s3.t28).toNat) default).Op).Node, ((vget (vset (vset (vset (Vector.replicate 3 (default : GEntry)) 0 (⟨6, 0, 0, (⟨(⟨0, 0⟩ : GStamp), 0, 0, 0, [], [], []⟩ : GOp), 0, 0, [], (⟨0, (Vector.replicate 8 (default : Int)), (Vector.replicate 8 (default : Int)), (Vector.replicate 8 (default : Int))⟩ : GEpoch), 0, (Vector.replicate 8 (default : Int)), 0, (⟨0, 0, 0, []⟩ : GPart), s1.t10, (vget b.Sponsor ((s1.t10).toNat) default), 0⟩ : GEntry)) 1 (⟨7, 0, 0, (⟨(⟨0, 0⟩ : GStamp), 0, 0, 0, [], [], []⟩ : GOp), 0, 0, [], (⟨0, (Vector.replicate 8 (default : Int)), (Vector.replicate 8 (default : Int)), (Vector.replicate 8 (default : Int))⟩ : GEpoch), 0, (Vector.replicate 8 (default : Int)), 0, (⟨0, 0, 0, []⟩ : GPart), s1.t10, 0, 0⟩ : GEntry)) 2 (⟨8, 0, 0, (⟨(⟨0, 0⟩ : GStamp), 0, 0, 0, [], [], []⟩ : GOp), 0, 0, [], (⟨0, (Vector.replicate 8 (default : Int)), (Vector.replicate 8 (default : Int)), (Vector.replicate 8 (default : Int))⟩ : GEpoch), 0, (Vector.replicate 8 (default : Int)), 0, (⟨0, 0, 0, []⟩ : GPart), s1.t10, 0, (vget b.Seals ((s1.t10).toNat) default)⟩ : GEntry)) ((s3.t28).toNat) default).Op).Parent, ((vget (vset (vset (vset (Vector.replicate 3 (default : GEntry)) 0 (⟨6, 0, 0, (⟨(⟨0, 0⟩ : GStamp), 0, 0, 0, [], [], []⟩ : GOp), 0, 0, [], (⟨0, (Vector.replicate 8 (default : Int)), (Vector.replicate 8 (default : Int)), (Vector.replicate 8 (default : Int))⟩ : GEpoch), 0, (Vector.replicate 8 (default : Int)), 0, (⟨0, 0, 0, []⟩ : GPart), s1.t10, (vget b.Sponsor ((s1.t10).toNat) default), 0⟩ : GEntry)) 1 (⟨7, 0, 0, (⟨(⟨0, 0⟩ : GStamp), 0, 0, 0, [], [], []⟩ : GOp), 0, 0, [], (⟨0, (Vector.replicate 8 (default : Int)), (Vector.replicate 8 (default : Int)), (Vector.replicate 8 (default : Int))⟩ : GEpoch), 0, (Vector.replicate 8 (default : Int)), 0, (⟨0, 0, 0, []⟩ : GPart), s1.t10, 0, 0⟩ : GEntry)) 2 (⟨8, 0, 0, (⟨(⟨0, 0⟩ : GStamp), 0, 0, 0, [], [], []⟩ : GOp), 0, 0, [], (⟨0, (Vector.replicate 8 (default : Int)), (Vector.replicate 8 (default : Int)), (Vector.replicate 8 (default : Int))⟩ : GEpoch), 0, (Vector.replicate 8 (default : Int)), 0, (⟨0, 0, 0, []⟩ : GPart), s1.t10, 0, (vget b.Seals ((s1.t10).toNat) default)⟩ : GEntry)) ((s3.t28).toNat) default).Op).Name, ((vget (vset (vset (vset (Vector.replicate 3 (default : GEntry)) 0 (⟨6, 0, 0, (⟨(⟨0, 0⟩ : GStamp), 0, 0, 0, [], [], []⟩ : GOp), 0, 0, [], (⟨0, (Vector.replicate 8 (default : Int)), (Vector.replicate 8 (default : Int)), (Vector.replicate 8 (default : Int))⟩ : GEpoch), 0, (Vector.replicate 8 (default : Int)), 0, (⟨0, 0, 0, []⟩ : GPart), s1.t10, (vget b.Sponsor ((s1.t10).toNat) default), 0⟩ : GEntry)) 1 (⟨7, 0, 0, (⟨(⟨0, 0⟩ : GStamp), 0, 0, 0, [], [], []⟩ : GOp), 0, 0, [], (⟨0, (Vector.replicate 8 (default : Int)), (Vector.replicate 8 (default : Int)), (Vector.replicate 8 (default : Int))⟩ : GEpoch), 0, (Vector.replicate 8 (default : Int)), 0, (⟨0, 0, 0, []⟩ : GPart), s1.t10, 0, 0⟩ : GEntry)) 2 (⟨8, 0, 0, (⟨(⟨0, 0⟩ : GStamp), 0, 0, 0, [], [], []⟩ : GOp), 0, 0, [], (⟨0, (Vector.replicate 8 (default : Int)), (Vector.replicate 8 (default : Int)), (Vector.replicate 8 (default : Int))⟩ : GEpoch), 0, (Vector.replicate 8 (default : Int)), 0, (⟨0, 0, 0, []⟩ : GPart), s1.t10, 0, (vget b.Seals ((s1.t10).toNat) default)⟩ : GEntry)) ((s3.t28).toNat) default).Op).Key, ((vget (vset (vset (vset (Vector.replicate 3 (default : GEntry)) 0 (⟨6, 0, 0, (⟨(⟨0, 0⟩ : GStamp), 0, 0, 0, [], [], []⟩ : GOp), 0, 0, [], (⟨0, (Vector.replicate 8 (default : Int)), (Vector.replicate 8 (default : Int)), (Vector.replicate 8 (default : Int))⟩ : GEpoch), 0, (Vector.replicate 8 (default : Int)), 0, (⟨0, 0, 0, []⟩ : GPart), s1.t10, (vget b.Sponsor ((s1.t10).toNat) default), 0⟩ : GEntry)) 1 (⟨7, 0, 0, (⟨(⟨0, 0⟩ : GStamp), 0, 0, 0, [], [], []⟩ : GOp), 0, 0, [], (⟨0, (Vector.replicate 8 (default : Int)), (Vector.replicate 8 (default : Int)), (Vector.replicate 8 (default : Int))⟩ : GEpoch), 0, (Vector.replicate 8 (default : Int)), 0, (⟨0, 0, 0, []⟩ : GPart), s1.t10, 0, 0⟩ : GEntry)) 2 (⟨8, 0, 0, (⟨(⟨0, 0⟩ : GStamp), 0, 0, 0, [], [], []⟩ : GOp), 0, 0, [], (⟨0, (Vector.replicate 8 (default : Int)), (Vector.replicate 8 (default : Int)), (Vector.replicate 8 (default : Int))⟩ : GEpoch), 0, (Vector.replicate 8 (default : Int)), 0, (⟨0, 0, 0, []⟩ : GPart), s1.t10, 0, (vget b.Seals ((s1.t10).toNat) default)⟩ : GEntry)) ((s3.t28).toNat) default).Op).Value⟩ : GOp), (vget (vset (vset (vset (Vector.replicate 3 (default : GEntry)) 0 (⟨6, 0, 0, (⟨(⟨0, 0⟩ : GStamp), 0, 0, 0, [], [], []⟩ : GOp), 0, 0, [], (⟨0, (Vector.replicate 8 (default : Int)), (Vector.replicate 8 (default : Int)), (Vector.replicate 8 (default : Int))⟩ : GEpoch), 0, (Vector.replicate 8 (default : Int)), 0, (⟨0, 0, 0, []⟩ : GPart), s1.t10, (vget b.Sponsor ((s1.t10).toNat) default), 0⟩ : GEntry)) 1 (⟨7, 0, 0, (⟨(⟨0, 0⟩ : GStamp), 0, 0, 0, [], [], []⟩ : GOp), 0, 0, [], (⟨0, (Vector.replicate 8 (default : Int)), (Vector.replicate 8 (default : Int)), (Vector.replicate 8 (default : Int))⟩ : GEpoch), 0, (Vector.replicate 8 (default : Int)), 0, (⟨0, 0, 0, []⟩ : GPart), s1.t10, 0, 0⟩ : GEntry)) 2 (⟨8, 0, 0, (⟨(⟨0, 0⟩ : GStamp), 0, 0, 0, [], [], []⟩ : GOp), 0, 0, [], (⟨0, (Vector.replicate 8 (default : Int)), (Vector.replicate 8 (default : Int)), (Vector.replicate 8 (default : Int))⟩ : GEpoch), 0, (Vector.replicate 8 (default : Int)), 0, (⟨0, 0, 0, []⟩ : GPart), s1.t10, 0, (vget b.Seals ((s1.t10).toNat) default)⟩ : GEntry)) ((s3.t28).toNat) default).Origin, (vget (vset (vset (vset (Vector.replicate 3 (default : GEntry)) 0 (⟨6, 0, 0, (⟨(⟨0, 0⟩ : GStamp), 0, 0, 0, [], [], []⟩ : GOp), 0, 0, [], (⟨0, (Vector.replicate 8 (default : Int)), (Vector.replicate 8 (default : Int)), (Vector.replicate 8 (default : Int))⟩ : GEpoch), 0, (Vector.replicate 8 (default : Int)), 0, (⟨0, 0, 0, []⟩ : GPart), s1.t10, (vget b.Sponsor ((s1.t10).toNat) default), 0⟩ : GEntry)) 1 (⟨7, 0, 0, (⟨(⟨0, 0⟩ : GStamp), 0, 0, 0, [], [], []⟩ : GOp), 0, 0, [], (⟨0, (Vector.replicate 8 (default : Int)), (Vector.replicate 8 (default : Int)), (Vector.replicate 8 (default : Int))⟩ : GEpoch), 0, (Vector.replicate 8 (default : Int)), 0, (⟨0, 0, 0, []⟩ : GPart), s1.t10, 0, 0⟩ : GEntry)) 2 (⟨8, 0, 0, (⟨(⟨0, 0⟩ : GStamp), 0, 0, 0, [], [], []⟩ : GOp), 0, 0, [], (⟨0, (Vector.replicate 8 (default : Int)), (Vector.replicate 8 (default : Int)), (Vector.replicate 8 (default : Int))⟩ : GEpoch), 0, (Vector.replicate 8 (default : Int)), 0, (⟨0, 0, 0, []⟩ : GPart), s1.t10, 0, (vget b.Seals ((s1.t10).toNat) default)⟩ : GEntry)) ((s3.t28).toNat) default).Seq, (vget (vset (vset (vset (Vector.replicate 3 (default : GEntry)) 0 (⟨6, 0, 0, (⟨(⟨0, 0⟩ : GStamp), 0, 0, 0, [], [], []⟩ : GOp), 0, 0, [], (⟨0, (Vector.replicate 8 (default : Int)), (Vector.replicate 8 (default : Int)), (Vector.replicate 8 (default : Int))⟩ : GEpoch), 0, (Vector.replicate 8 (default : Int)), 0, (⟨0, 0, 0, []⟩ : GPart), s1.t10, (vget b.Sponsor ((s1.t10).toNat) default), 0⟩ : GEntry)) 1 (⟨7, 0, 0, (⟨(⟨0, 0⟩ : GStamp), 0, 0, 0, [], [], []⟩ : GOp), 0, 0, [], (⟨0, (Vector.replicate 8 (default : Int)), (Vector.replicate 8 (default : Int)), (Vector.replicate 8 (default : Int))⟩ : GEpoch), 0, (Vector.replicate 8 (default : Int)), 0, (⟨0, 0, 0, []⟩ : GPart), s1.t10, 0, 0⟩ : GEntry)) 2 (⟨8, 0, 0, (⟨(⟨0, 0⟩ : GStamp), 0, 0, 0, [], [], []⟩ : GOp), 0, 0, [], (⟨0, (Vector.replicate 8 (default : Int)), (Vector.replicate 8 (default : Int)), (Vector.replicate 8 (default : Int))⟩ : GEpoch), 0, (Vector.replicate 8 (default : Int)), 0, (⟨0, 0, 0, []⟩ : GPart), s1.t10, 0, (vget b.Seals ((s1.t10).toNat) default)⟩ : GEntry)) ((s3.t28).toNat) default).Ops, ((vget (vset (vset (vset (Vector.replicate 3 (default : GEntry)) 0 (⟨6, 0, 0, (⟨(⟨0, 0⟩ : GStamp), 0, 0, 0, [], [], []⟩ : GOp), 0, 0, [], (⟨0, (Vector.replicate 8 (default : Int)), (Vector.replicate 8 (default : Int)), (Vector.replicate 8 (default : Int))⟩ : GEpoch), 0, (Vector.replicate 8 (default : Int)), 0, (⟨0, 0, 0, []⟩ : GPart), s1.t10, (vget b.Sponsor ((s1.t10).toNat) default), 0⟩ : GEntry)) 1 (⟨7, 0, 0, (⟨(⟨0, 0⟩ : GStamp), 0, 0, 0, [], [], []⟩ : GOp), 0, 0, [], (⟨0, (Vector.replicate 8 (default : Int)), (Vector.replicate 8 (default : Int)), (Vector.replicate 8 (default : Int))⟩ : GEpoch), 0, (Vector.replicate 8 (default : Int)), 0, (⟨0, 0, 0, []⟩ : GPart), s1.t10, 0, 0⟩ : GEntry)) 2 (⟨8, 0, 0, (⟨(⟨0, 0⟩ : GStamp), 0, 0, 0, [], [], []⟩ : GOp), 0, 0, [], (⟨0, (Vector.replicate 8 (default : Int)), (Vector.replicate 8 (default : Int)), (Vector.replicate 8 (default : Int))⟩ : GEpoch), 0, (Vector.replicate 8 (default : Int)), 0, (⟨0, 0, 0, []⟩ : GPart), s1.t10, 0, (vget b.Seals ((s1.t10).toNat) default)⟩ : GEntry)) ((s3.t28).toNat) default).Epoch), (vget (vset (vset (vset (Vector.replicate 3 (default : GEntry)) 0 (⟨6, 0, 0, (⟨(⟨0, 0⟩ : GStamp), 0, 0, 0, [], [], []⟩ : GOp), 0, 0, [], (⟨0, (Vector.replicate 8 (default : Int)), (Vector.replicate 8 (default : Int)), (Vector.replicate 8 (default : Int))⟩ : GEpoch), 0, (Vector.replicate 8 (default : Int)), 0, (⟨0, 0, 0, []⟩ : GPart), s1.t10, (vget b.Sponsor ((s1.t10).toNat) default), 0⟩ : GEntry)) 1 (⟨7, 0, 0, (⟨(⟨0, 0⟩ : GStamp), 0, 0, 0, [], [], []⟩ : GOp), 0, 0, [], (⟨0, (Vector.replicate 8 (default : Int)), (Vector.replicate 8 (default : Int)), (Vector.replicate 8 (default : Int))⟩ : GEpoch), 0, (Vector.replicate 8 (default : Int)), 0, (⟨0, 0, 0, []⟩ : GPart), s1.t10, 0, 0⟩ : GEntry)) 2 (⟨8, 0, 0, (⟨(⟨0, 0⟩ : GStamp), 0, 0, 0, [], [], []⟩ : GOp), 0, 0, [], (⟨0, (Vector.replicate 8 (default : Int)), (Vector.replicate 8 (default : Int)), (Vector.replicate 8 (default : Int))⟩ : GEpoch), 0, (Vector.replicate 8 (default : Int)), 0, (⟨0, 0, 0, []⟩ : GPart), s1.t10, 0, (vget b.Seals ((s1.t10).toNat) default)⟩ : GEntry)) ((s3.t28).toNat) default).From, (vget (vset (vset (vset (Vector.replicate 3 (default : GEntry)) 0 (⟨6, 0, 0, (⟨(⟨0, 0⟩ : GStamp), 0, 0, 0, [], [], []⟩ : GOp), 0, 0, [], (⟨0, (Vector.replicate 8 (default : Int)), (Vector.replicate 8 (default : Int)), (Vector.replicate 8 (default : Int))⟩ : GEpoch), 0, (Vector.replicate 8 (default : Int)), 0, (⟨0, 0, 0, []⟩ : GPart), s1.t10, (vget b.Sponsor ((s1.t10).toNat) default), 0⟩ : GEntry)) 1 (⟨7, 0, 0, (⟨(⟨0, 0⟩ : GStamp), 0, 0, 0, [], [], []⟩ : GOp), 0, 0, [], (⟨0, (Vector.replicate 8 (default : Int)), (Vector.replicate 8 (default : Int)), (Vector.replicate 8 (default : Int))⟩ : GEpoch), 0, (Vector.replicate 8 (default : Int)), 0, (⟨0, 0, 0, []⟩ : GPart), s1.t10, 0, 0⟩ : GEntry)) 2 (⟨8, 0, 0, (⟨(⟨0, 0⟩ : GStamp), 0, 0, 0, [], [], []⟩ : GOp), 0, 0, [], (⟨0, (Vector.replicate 8 (default : Int)), (Vector.replicate 8 (default : Int)), (Vector.replicate 8 (default : Int))⟩ : GEpoch), 0, (Vector.replicate 8 (default : Int)), 0, (⟨0, 0, 0, []⟩ : GPart), s1.t10, 0, (vget b.Seals ((s1.t10).toNat) default)⟩ : GEntry)) ((s3.t28).toNat) default).Vector_, (vget (vset (vset (vset (Vector.replicate 3 (default : GEntry)) 0 (⟨6, 0, 0, (⟨(⟨0, 0⟩ : GStamp), 0, 0, 0, [], [], []⟩ : GOp), 0, 0, [], (⟨0, (Vector.replicate 8 (default : Int)), (Vector.replicate 8 (default : Int)), (Vector.replicate 8 (default : Int))⟩ : GEpoch), 0, (Vector.replicate 8 (default : Int)), 0, (⟨0, 0, 0, []⟩ : GPart), s1.t10, (vget b.Sponsor ((s1.t10).toNat) default), 0⟩ : GEntry)) 1 (⟨7, 0, 0, (⟨(⟨0, 0⟩ : GStamp), 0, 0, 0, [], [], []⟩ : GOp), 0, 0, [], (⟨0, (Vector.replicate 8 (default : Int)), (Vector.replicate 8 (default : Int)), (Vector.replicate 8 (default : Int))⟩ : GEpoch), 0, (Vector.replicate 8 (default : Int)), 0, (⟨0, 0, 0, []⟩ : GPart), s1.t10, 0, 0⟩ : GEntry)) 2 (⟨8, 0, 0, (⟨(⟨0, 0⟩ : GStamp), 0, 0, 0, [], [], []⟩ : GOp), 0, 0, [], (⟨0, (Vector.replicate 8 (default : Int)), (Vector.replicate 8 (default : Int)), (Vector.replicate 8 (default : Int))⟩ : GEpoch), 0, (Vector.replicate 8 (default : Int)), 0, (⟨0, 0, 0, []⟩ : GPart), s1.t10, 0, (vget b.Seals ((s1.t10).toNat) default)⟩ : GEntry)) ((s3.t28).toNat) default).Clock, ((vget (vset (vset (vset (Vector.replicate 3 (default : GEntry)) 0 (⟨6, 0, 0, (⟨(⟨0, 0⟩ : GStamp), 0, 0, 0, [], [], []⟩ : GOp), 0, 0, [], (⟨0, (Vector.replicate 8 (default : Int)), (Vector.replicate 8 (default : Int)), (Vector.replicate 8 (default : Int))⟩ : GEpoch), 0, (Vector.replicate 8 (default : Int)), 0, (⟨0, 0, 0, []⟩ : GPart), s1.t10, (vget b.Sponsor ((s1.t10).toNat) default), 0⟩ : GEntry)) 1 (⟨7, 0, 0, (⟨(⟨0, 0⟩ : GStamp), 0, 0, 0, [], [], []⟩ : GOp), 0, 0, [], (⟨0, (Vector.replicate 8 (default : Int)), (Vector.replicate 8 (default : Int)), (Vector.replicate 8 (default : Int))⟩ : GEpoch), 0, (Vector.replicate 8 (default : Int)), 0, (⟨0, 0, 0, []⟩ : GPart), s1.t10, 0, 0⟩ : GEntry)) 2 (⟨8, 0, 0, (⟨(⟨0, 0⟩ : GStamp), 0, 0, 0, [], [], []⟩ : GOp), 0, 0, [], (⟨0, (Vector.replicate 8 (default : Int)), (Vector.replicate 8 (default : Int)), (Vector.replicate 8 (default : Int))⟩ : GEpoch), 0, (Vector.replicate 8 (default : Int)), 0, (⟨0, 0, 0, []⟩ : GPart), s1.t10, 0, (vget b.Seals ((s1.t10).toNat) default)⟩ : GEntry)) ((s3.t28).toNat) default).Part), (vget (vset (vset (vset (Vector.replicate 3 (default : GEntry)) 0 (⟨6, 0, 0, (⟨(⟨0, 0⟩ : GStamp), 0, 0, 0, [], [], []⟩ : GOp), 0, 0, [], (⟨0, (Vector.replicate 8 (default : Int)), (Vector.replicate 8 (default : Int)), (Vector.replicate 8 (default : Int))⟩ : GEpoch), 0, (Vector.replicate 8 (default : Int)), 0, (⟨0, 0, 0, []⟩ : GPart), s1.t10, (vget b.Sponsor ((s1.t10).toNat) default), 0⟩ : GEntry)) 1 (⟨7, 0, 0, (⟨(⟨0, 0⟩ : GStamp), 0, 0, 0, [], [], []⟩ : GOp), 0, 0, [], (⟨0, (Vector.replicate 8 (default : Int)), (Vector.replicate 8 (default : Int)), (Vector.replicate 8 (default : Int))⟩ : GEpoch), 0, (Vector.replicate 8 (default : Int)), 0, (⟨0, 0, 0, []⟩ : GPart), s1.t10, 0, 0⟩ : GEntry)) 2 (⟨8, 0, 0, (⟨(⟨0, 0⟩ : GStamp), 0, 0, 0, [], [], []⟩ : GOp), 0, 0, [], (⟨0, (Vector.replicate 8 (default : Int)), (Vector.replicate 8 (default : Int)), (Vector.replicate 8 (default : Int))⟩ : GEpoch), 0, (Vector.replicate 8 (default : Int)), 0, (⟨0, 0, 0, []⟩ : GPart), s1.t10, 0, (vget b.Seals ((s1.t10).toNat) default)⟩ : GEntry)) ((s3.t28).toNat) default).Site, (vget (vset (vset (vset (Vector.replicate 3 (default : GEntry)) 0 (⟨6, 0, 0, (⟨(⟨0, 0⟩ : GStamp), 0, 0, 0, [], [], []⟩ : GOp), 0, 0, [], (⟨0, (Vector.replicate 8 (default : Int)), (Vector.replicate 8 (default : Int)), (Vector.replicate 8 (default : Int))⟩ : GEpoch), 0, (Vector.replicate 8 (default : Int)), 0, (⟨0, 0, 0, []⟩ : GPart), s1.t10, (vget b.Sponsor ((s1.t10).toNat) default), 0⟩ : GEntry)) 1 (⟨7, 0, 0, (⟨(⟨0, 0⟩ : GStamp), 0, 0, 0, [], [], []⟩ : GOp), 0, 0, [], (⟨0, (Vector.replicate 8 (default : Int)), (Vector.replicate 8 (default : Int)), (Vector.replicate 8 (default : Int))⟩ : GEpoch), 0, (Vector.replicate 8 (default : Int)), 0, (⟨0, 0, 0, []⟩ : GPart), s1.t10, 0, 0⟩ : GEntry)) 2 (⟨8, 0, 0, (⟨(⟨0, 0⟩ : GStamp), 0, 0, 0, [], [], []⟩ : GOp), 0, 0, [], (⟨0, (Vector.replicate 8 (default : Int)), (Vector.replicate 8 (default : Int)), (Vector.replicate 8 (default : Int))⟩ : GEpoch), 0, (Vector.replicate 8 (default : Int)), 0, (⟨0, 0, 0, []⟩ : GPart), s1.t10, 0, (vget b.Seals ((s1.t10).toNat) default)⟩ : GEntry)) ((s3.t28).toNat) default).Sponsor, (vget (vset (vset (vset (Vector.replicate 3 (default : GEntry)) 0 (⟨6, 0, 0, (⟨(⟨0, 0⟩ : GStamp), 0, 0, 0, [], [], []⟩ : GOp), 0, 0, [], (⟨0, (Vector.replicate 8 (default : Int)), (Vector.replicate 8 (default : Int)), (Vector.replicate 8 (default : Int))⟩ : GEpoch), 0, (Vector.replicate 8 (default : Int)), 0, (⟨0, 0, 0, []⟩ : GPart), s1.t10, (vget b.Sponsor ((s1.t10).toNat) default), 0⟩ : GEntry)) 1 (⟨7, 0, 0, (⟨(⟨0, 0⟩ : GStamp), 0, 0, 0, [], [], []⟩ : GOp), 0, 0, [], (⟨0, (Vector.replicate 8 (default : Int)), (Vector.replicate 8 (default : Int)), (Vector.replicate 8 (default : Int))⟩ : GEpoch), 0, (Vector.replicate 8 (default : Int)), 0, (⟨0, 0, 0, []⟩ : GPart), s1.t10, 0, 0⟩ : GEntry)) 2 (⟨8, 0, 0, (⟨(⟨0, 0⟩ : GStamp), 0, 0, 0, [], [], []⟩ : GOp), 0, 0, [], (⟨0, (Vector.replicate 8 (default : Int)), (Vector.replicate 8 (default : Int)), (Vector.replicate 8 (default : Int))⟩ : GEpoch), 0, (Vector.replicate 8 (default : Int)), 0, (⟨0, 0, 0, []⟩ : GPart), s1.t10, 0, (vget b.Seals ((s1.t10).toNat) default)⟩ : GEntry)) ((s3.t28).toNat) default).Length⟩ : GEntry)).bind fun r5 =>
 (bif ((r5.2 == 0) && ((r5.1.Number == b.Number) && ((vbeq beq3 r5.1.States b.States) && ((vbeq beq2 r5.1.Seals b.Seals) && (vbeq beq3 r5.1.Sponsor b.Sponsor))))) then
 (some true)
 else
 (next4 ⟨(IntKind.i64.wrap (s3.t28 + 1))⟩)))
 else none)
 else
 (next2 ⟨(IntKind.i64.wrap (s1.t10 + 1))⟩))) ⟨0⟩)
 else none)
 else none)
 else
 (some false))) ⟨0⟩)
def conepoch_Follows : Con τ := { args := [.ty 26, .ty 26], L := [], ret := .ty 4, L' := [], R := Bool, dflt := default, F := fun N a b => Fepoch_Follows N a.1 a.2.1, of := fun r => (r, ()) }
noncomputable def datepoch_Follows : Dat τ := { D := D0, tbl := tblOf [(12, conepoch_Apply)], lp := lpsOf [(2, lpepoch_Followsx2), (5, lpepoch_Followsx5)], k0 := 0, mu := [], un := [] }
theorem okepoch_Follows : ConOk E C 10 conepoch_Follows :=
  con_ok (D := datepoch_Follows) ⟨d0Ok, eGood, tblOf_ok ⟨okepoch_Apply, trivial⟩, fun _ => rfl⟩ conepoch_Follows (fun a b => a) none (fun _ _ => rfl) rfl (fun _ _ h => nomatch h) 1000000 (fn := Try.f10) Try.func10 rfl (by kernel_rfl) (by kernel_rfl) rfl (by intro N a b; kernel_rfl)
def Flaw17_live (N : Nat)  : Option (Bool) :=
 ((Fepoch_Start N [0, 1]).bind fun r1 =>
 ((Fepoch_Apply N r1.1 (⟨6, 0, 0, (⟨(⟨0, 0⟩ : GStamp), 0, 0, 0, [], [], []⟩ : GOp), 0, 0, [], (⟨0, (Vector.replicate 8 (default : Int)), (Vector.replicate 8 (default : Int)), (Vector.replicate 8 (default : Int))⟩ : GEpoch), 0, (Vector.replicate 8 (default : Int)), 0, (⟨0, 0, 0, []⟩ : GPart), 2, 0, 0⟩ : GEntry)).bind fun r2 =>
 (bif (!(((r1.2 == 0) && (r2.2 == 0)) && (r2.1.Number == 1)) || true) then
 ((bif ((((r1.2 == 0) && (r2.2 == 0)) && (r2.1.Number == 1)) && ((vget r2.1.States 2 default) == 1)) then Fepoch_Check N r2.1 else some default).bind fun r3 =>
 ((bif (((((r1.2 == 0) && (r2.2 == 0)) && (r2.1.Number == 1)) && ((vget r2.1.States 2 default) == 1)) && r3) then Fepoch_Follows N r1.1 r2.1 else some default).bind fun r4 =>
 (some ((((((r1.2 == 0) && (r2.2 == 0)) && (r2.1.Number == 1)) && ((vget r2.1.States 2 default) == 1)) && r3) && r4))))
 else none)))
def conlaw17_live : Con τ := { args := [], L := [], ret := .ty 4, L' := [], R := Bool, dflt := default, F := fun N a b => Flaw17_live N , of := fun r => (r, ()) }
noncomputable def datlaw17_live : Dat τ := { D := D0, tbl := tblOf [(31, conepoch_Start), (12, conepoch_Apply), (13, conepoch_Check), (10, conepoch_Follows)], lp := lpsOf [], k0 := 0, mu := [], un := [] }
theorem oklaw17_live : ConOk E C 9 conlaw17_live :=
  con_ok (D := datlaw17_live) ⟨d0Ok, eGood, tblOf_ok ⟨okepoch_Start, ⟨okepoch_Apply, ⟨okepoch_Check, ⟨okepoch_Follows, trivial⟩⟩⟩⟩, fun _ => rfl⟩ conlaw17_live (fun a b => a) none (fun _ _ => rfl) rfl (fun _ _ h => nomatch h) 1000000 (fn := Try.f9) Try.func9 rfl (by kernel_rfl) (by kernel_rfl) rfl (by intro N a b; kernel_rfl)
def Fepoch_Machine_none_d70 (N : Nat)  : Option (Bool) :=
 (some true)
def conepoch_Machine_none_d70 : Con τ := { args := [.nil .ptr], L := [], ret := .ty 4, L' := [], R := Bool, dflt := default, F := fun N a b => Fepoch_Machine_none_d70 N , of := fun r => (r, ()) }
noncomputable def datepoch_Machine_none_d70 : Dat τ := { D := D0, tbl := tblOf [], lp := lpsOf [], k0 := 0, mu := [], un := [] }
theorem okepoch_Machine_none_d70 : ConOk E C 40 conepoch_Machine_none_d70 :=
  con_ok (D := datepoch_Machine_none_d70) ⟨d0Ok, eGood, tblOf_ok trivial, fun _ => rfl⟩ conepoch_Machine_none_d70 (fun a b => a) none (fun _ _ => rfl) rfl (fun _ _ h => nomatch h) 1000000 (fn := Try.f40) Try.func40 rfl (by kernel_rfl) (by kernel_rfl) rfl (by intro N a b; kernel_rfl)
def Fepoch_Machine_Apply_066 (N : Nat) (x : GEntry) : Option (Int) :=
 (some 2)
def conepoch_Machine_Apply_066 : Con τ := { args := [.nil .ptr, .ty 38], L := [], ret := .ty 39, L' := [], R := Int, dflt := default, F := fun N a b => Fepoch_Machine_Apply_066 N a.2.1, of := fun r => (r, ()) }
noncomputable def datepoch_Machine_Apply_066 : Dat τ := { D := D0, tbl := tblOf [(40, conepoch_Machine_none_d70)], lp := lpsOf [], k0 := 0, mu := [], un := [] }
theorem okepoch_Machine_Apply_066 : ConOk E C 22 conepoch_Machine_Apply_066 :=
  con_ok (D := datepoch_Machine_Apply_066) ⟨d0Ok, eGood, tblOf_ok ⟨okepoch_Machine_none_d70, trivial⟩, fun _ => rfl⟩ conepoch_Machine_Apply_066 (fun a b => a) none (fun _ _ => rfl) rfl (fun _ _ h => nomatch h) 1000000 (fn := Try.f22) Try.func22 rfl (by kernel_rfl) (by kernel_rfl) rfl (by intro N a b; kernel_rfl)
def Fepoch_Machine_Bytes_d70 (N : Nat)  : Option ((List (Int))) :=
 (some [])
def conepoch_Machine_Bytes_d70 : Con τ := { args := [.nil .ptr], L := [], ret := .ty 34, L' := [], R := (List (Int)), dflt := default, F := fun N a b => Fepoch_Machine_Bytes_d70 N , of := fun r => (r, ()) }
noncomputable def datepoch_Machine_Bytes_d70 : Dat τ := { D := D0, tbl := tblOf [(40, conepoch_Machine_none_d70)], lp := lpsOf [], k0 := 0, mu := [], un := [] }
theorem okepoch_Machine_Bytes_d70 : ConOk E C 24 conepoch_Machine_Bytes_d70 :=
  con_ok (D := datepoch_Machine_Bytes_d70) ⟨d0Ok, eGood, tblOf_ok ⟨okepoch_Machine_none_d70, trivial⟩, fun _ => rfl⟩ conepoch_Machine_Bytes_d70 (fun a b => a) none (fun _ _ => rfl) rfl (fun _ _ h => nomatch h) 1000000 (fn := Try.f24) Try.func24 rfl (by kernel_rfl) (by kernel_rfl) rfl (by intro N a b; kernel_rfl)
def Fepoch_Machine_none_ce0 (N : Nat) (b0 : List (GEpoch)) : Option (Bool × (List (GEpoch))) :=
 (some ((((b0).length : Int) == 0), b0))
def conepoch_Machine_none_ce0 : Con τ := { args := [.ptr 0 []], L := [.box (.agg [.own 26 1]), .tail], ret := .ty 4, L' := [.box (.agg [.own 26 1]), .tail], R := Bool × (List (GEpoch)), dflt := (default, default), F := fun N a b => Fepoch_Machine_none_ce0 N b.1.1, of := fun r => (r.1, ((r.2, ()), (), ())) }
noncomputable def datepoch_Machine_none_ce0 : Dat τ := { D := D0, tbl := tblOf [], lp := lpsOf [], k0 := 2, mu := [], un := [] }
theorem okepoch_Machine_none_ce0 : ConOk E C 40 conepoch_Machine_none_ce0 :=
  con_ok (D := datepoch_Machine_none_ce0) ⟨d0Ok, eGood, tblOf_ok trivial, fun _ => rfl⟩ conepoch_Machine_none_ce0 (fun a b => (a, b.1.1)) none (fun _ _ => rfl) rfl (fun _ _ h => nomatch h) 1000000 (fn := Try.f40) Try.func40 rfl (by kernel_rfl) (by kernel_rfl) rfl (by intro N a b; kernel_rfl)
def Fepoch_Machine_Current_ce0 (N : Nat) (b0 : List (GEpoch)) : Option (GEpoch × (List (GEpoch))) :=
 ((Fepoch_Machine_none_ce0 N b0).bind fun r1 =>
 (bif r1.1 then
 (some ((⟨0, (Vector.replicate 8 (default : Int)), (Vector.replicate 8 (default : Int)), (Vector.replicate 8 (default : Int))⟩ : GEpoch), r1.2))
 else
 (bif (ibB (IntKind.i64.wrap (((r1.2).length : Int) - 1)) ((r1.2).length : Int)) then
 (some ((lget r1.2 (IntKind.i64.wrap (((r1.2).length : Int) - 1)) default), r1.2))
 else none)))
def conepoch_Machine_Current_ce0 : Con τ := { args := [.ptr 0 []], L := [.box (.agg [.own 26 1]), .tail], ret := .ty 26, L' := [.box (.agg [.own 26 1]), .tail], R := GEpoch × (List (GEpoch)), dflt := (default, default), F := fun N a b => Fepoch_Machine_Current_ce0 N b.1.1, of := fun r => (r.1, ((r.2, ()), (), ())) }
noncomputable def datepoch_Machine_Current_ce0 : Dat τ := { D := D0, tbl := tblOf [(40, conepoch_Machine_none_ce0)], lp := lpsOf [], k0 := 2, mu := [], un := [] }
theorem okepoch_Machine_Current_ce0 : ConOk E C 23 conepoch_Machine_Current_ce0 :=
  con_ok (D := datepoch_Machine_Current_ce0) ⟨d0Ok, eGood, tblOf_ok ⟨okepoch_Machine_none_ce0, trivial⟩, fun _ => rfl⟩ conepoch_Machine_Current_ce0 (fun a b => (a, b.1.1)) none (fun _ _ => rfl) rfl (fun _ _ h => nomatch h) 1000000 (fn := Try.f23) Try.func23 rfl (by kernel_rfl) (by kernel_rfl) rfl (by intro N a b; kernel_rfl)
def Fwire_NewWriter (N : Nat)  : Option (Bool × (List (Int))) :=
 (some (true, []))
def conwire_NewWriter : Con τ := { args := [], L := [], ret := .ptr 0 [], L' := [.box (.agg [.ty 4, .own 5 1]), .tail], R := Bool × (List (Int)), dflt := (default, default), F := fun N a b => Fwire_NewWriter N , of := fun r => ((), ((r.1, r.2, ()), (), ())) }
noncomputable def datwire_NewWriter : Dat τ := { D := D0, tbl := tblOf [], lp := lpsOf [], k0 := 0, mu := [], un := [] }
theorem okwire_NewWriter : ConOk E C 41 conwire_NewWriter :=
  con_ok (D := datwire_NewWriter) ⟨d0Ok, eGood, tblOf_ok trivial, fun _ => rfl⟩ conwire_NewWriter (fun a b => (b.1.1, b.1.2.1)) none (fun _ _ => rfl) rfl (fun _ _ h => nomatch h) 1000000 (fn := Try.f41) Try.func41 rfl (by kernel_rfl) (by kernel_rfl) rfl (by intro N a b; kernel_rfl)
structure Swire_numberx5 where
  u : Int
  b : List (Int)
def tswire_numberx5 : List Sl := [.k, .k, .k, .sh (.ty 12), .sh (.own 5 0), .k, .k, .k, .k, .k, .k, .k, .j, .j, .j, .j, .j, .j, .j, .j, .j, .j, .k, .k, .k, .k, .k]
def hswire_numberx5 : List ESh := [.tail]
def towire_numberx5 (a : Sl.Ts τ tswire_numberx5) (b : ESh.Ts τ hswire_numberx5) : Swire_numberx5 := ⟨a.2.2.2.1, a.2.2.2.2.1⟩
def otwire_numberx5 (s : Swire_numberx5) : Sl.Ts τ tswire_numberx5 := ((), (), (), s.u, s.b, (), (), (), (), (), (), (), (), (), (), (), (), (), (), (), (), (), (), (), (), (), (), ())
def ohwire_numberx5 (s : Swire_numberx5) : ESh.Ts τ hswire_numberx5 := ((), ())
def lpwire_numberx5 : Lp τ := { ts := tswire_numberx5, hs := hswire_numberx5, S := Swire_numberx5, to := towire_numberx5, ot := otwire_numberx5, oh := ohwire_numberx5, hk := [], tk := [], ot_to := fun _ _ => rfl, oh_to := fun _ _ => rfl }
def Fwire_number (N : Nat) (n : Int) : Option ((List (Int))) :=
 (bif (decide (n < 0)) then
 (iter N (fun (s1 : Swire_numberx5) next2 =>
 (bif (decide (128 ≤ s1.u)) then
 (bif (lenB ((s1.b).length + ([(bits .or .u8 (IntKind.u8.wrap s1.u) 128)]).length) 1) then
 (next2 ⟨(shr .u64 s1.u 7), (s1.b ++ [(bits .or .u8 (IntKind.u8.wrap s1.u) 128)])⟩)
 else none)
 else
 (bif (lenB ((s1.b).length + ([(IntKind.u8.wrap s1.u)]).length) 1) then
 (some (s1.b ++ [(IntKind.u8.wrap s1.u)]))
 else none))) ⟨(bits .xor .u64 IntKind.u64.max (shl .u64 (IntKind.u64.wrap n) 1)), []⟩)
 else
 (iter N (fun (s3 : Swire_numberx5) next4 =>
 (bif (decide (128 ≤ s3.u)) then
 (bif (lenB ((s3.b).length + ([(bits .or .u8 (IntKind.u8.wrap s3.u) 128)]).length) 1) then
 (next4 ⟨(shr .u64 s3.u 7), (s3.b ++ [(bits .or .u8 (IntKind.u8.wrap s3.u) 128)])⟩)
 else none)
 else
 (bif (lenB ((s3.b).length + ([(IntKind.u8.wrap s3.u)]).length) 1) then
 (some (s3.b ++ [(IntKind.u8.wrap s3.u)]))
 else none))) ⟨(shl .u64 (IntKind.u64.wrap n) 1), []⟩))
def conwire_number : Con τ := { args := [.ty 2], L := [], ret := .ty 34, L' := [], R := (List (Int)), dflt := default, F := fun N a b => Fwire_number N a.1, of := fun r => (r, ()) }
noncomputable def datwire_number : Dat τ := { D := D0, tbl := tblOf [], lp := lpsOf [(5, lpwire_numberx5)], k0 := 0, mu := [], un := [] }
theorem okwire_number : ConOk E C 59 conwire_number :=
  con_ok (D := datwire_number) ⟨d0Ok, eGood, tblOf_ok trivial, fun _ => rfl⟩ conwire_number (fun a b => a) none (fun _ _ => rfl) rfl (fun _ _ h => nomatch h) 1000000 (fn := Try.f59) Try.func59 rfl (by kernel_rfl) (by kernel_rfl) rfl (by intro N a b; kernel_rfl)
def Fwire_Writer_none_052 (N : Nat) (b0 : Bool) (b02 : List (Int)) : Option (Bool × Bool × (List (Int))) :=
 (some ((!b0), b0, b02))
def conwire_Writer_none_052 : Con τ := { args := [.ptr 0 []], L := [.box (.agg [.ty 4, .own 5 1]), .tail], ret := .ty 4, L' := [.box (.agg [.ty 4, .own 5 1]), .tail], R := Bool × Bool × (List (Int)), dflt := (default, default, default), F := fun N a b => Fwire_Writer_none_052 N b.1.1 b.1.2.1, of := fun r => (r.1, ((r.2.1, r.2.2, ()), (), ())) }
noncomputable def datwire_Writer_none_052 : Dat τ := { D := D0, tbl := tblOf [], lp := lpsOf [], k0 := 2, mu := [], un := [] }
theorem okwire_Writer_none_052 : ConOk E C 65 conwire_Writer_none_052 :=
  con_ok (D := datwire_Writer_none_052) ⟨d0Ok, eGood, tblOf_ok trivial, fun _ => rfl⟩ conwire_Writer_none_052 (fun a b => (a, b.1.1, b.1.2.1)) none (fun _ _ => rfl) rfl (fun _ _ h => nomatch h) 1000000 (fn := Try.f65) Try.func65 rfl (by kernel_rfl) (by kernel_rfl) rfl (by intro N a b; kernel_rfl)
structure Swire_Writer_put_867x5 where
  n : Int
  t19 : Int
def tswire_Writer_put_867x5 : List Sl := [.k, .k, .k, .k, .j, .sh (.ty 2), .k, .j, .k, .k, .k, .k, .k, .k, .k, .k, .k, .k, .k, .sh (.ty 2), .j, .j, .j, .j, .j, .j, .j, .j, .j, .j, .j, .j, .j, .k, .k, .k, .k, .k, .k, .k, .k, .k, .k, .k, .k, .k, .k, .k, .k]
def hswire_Writer_put_867x5 : List ESh := [.keep, .keep]
def towire_Writer_put_867x5 (a : Sl.Ts τ tswire_Writer_put_867x5) (b : ESh.Ts τ hswire_Writer_put_867x5) : Swire_Writer_put_867x5 := ⟨a.2.2.2.2.2.1, a.2.2.2.2.2.2.2.2.2.2.2.2.2.2.2.2.2.2.2.1⟩
def otwire_Writer_put_867x5 (s : Swire_Writer_put_867x5) : Sl.Ts τ tswire_Writer_put_867x5 := ((), (), (), (), (), s.n, (), (), (), (), (), (), (), (), (), (), (), (), (), s.t19, (), (), (), (), (), (), (), (), (), (), (), (), (), (), (), (), (), (), (), (), (), (), (), (), (), (), (), (), (), ())
def ohwire_Writer_put_867x5 (s : Swire_Writer_put_867x5) : ESh.Ts τ hswire_Writer_put_867x5 := ((), (), ())
def lpwire_Writer_put_867x5 : Lp τ := { ts := tswire_Writer_put_867x5, hs := hswire_Writer_put_867x5, S := Swire_Writer_put_867x5, to := towire_Writer_put_867x5, ot := otwire_Writer_put_867x5, oh := ohwire_Writer_put_867x5, hk := [2, 5], tk := [2, 0, 0, 0, 0, 0, 0, 0, 0, 0, 2, 0, 2, 2, 2], ot_to := fun _ _ => rfl, oh_to := fun _ _ => rfl }
structure Swire_Writer_put_867x12 where
  t35 : Int
  b0 : Bool
  b02 : List (Int)
def tswire_Writer_put_867x12 : List Sl := [.k, .k, .k, .k, .k, .k, .k, .k, .k, .j, .k, .k, .k, .k, .k, .k, .k, .k, .k, .k, .k, .k, .k, .k, .k, .k, .k, .k, .k, .k, .k, .k, .k, .k, .k, .sh (.ty 2), .j, .j, .j, .j, .j, .j, .j, .j, .j, .j, .j, .j, .j]
def hswire_Writer_put_867x12 : List ESh := [.box (.agg [.ty 4, .own 5 2]), .dead, .tail]
def towire_Writer_put_867x12 (a : Sl.Ts τ tswire_Writer_put_867x12) (b : ESh.Ts τ hswire_Writer_put_867x12) : Swire_Writer_put_867x12 := ⟨a.2.2.2.2.2.2.2.2.2.2.2.2.2.2.2.2.2.2.2.2.2.2.2.2.2.2.2.2.2.2.2.2.2.2.2.1, b.1.1, b.1.2.1⟩
def otwire_Writer_put_867x12 (s : Swire_Writer_put_867x12) : Sl.Ts τ tswire_Writer_put_867x12 := ((), (), (), (), (), (), (), (), (), (), (), (), (), (), (), (), (), (), (), (), (), (), (), (), (), (), (), (), (), (), (), (), (), (), (), s.t35, (), (), (), (), (), (), (), (), (), (), (), (), (), ())
def ohwire_Writer_put_867x12 (s : Swire_Writer_put_867x12) : ESh.Ts τ hswire_Writer_put_867x12 := ((s.b0, s.b02, ()), (), (), ())
def lpwire_Writer_put_867x12 : Lp τ := { ts := tswire_Writer_put_867x12, hs := hswire_Writer_put_867x12, S := Swire_Writer_put_867x12, to := towire_Writer_put_867x12, ot := otwire_Writer_put_867x12, oh := ohwire_Writer_put_867x12, hk := [2, 5], tk := [2, 0, 0, 0, 0, 0, 0, 0, 0, 0, 2, 0, 2, 2, 2], ot_to := fun _ _ => rfl, oh_to := fun _ _ => rfl }
def Fwire_Writer_put_867 (N : Nat) (l : List (List (Int))) (b0 : Bool) (b02 : List (Int)) : Option (Int × Bool × (List (Int))) :=
 ((Fwire_Writer_none_052 N b0 b02).bind fun r1 =>
 (bif r1.1 then
 (some (2, r1.2.1, r1.2.2))
 else
 (iter N (fun (s2 : Swire_Writer_put_867x5) next3 =>
 (bif (decide (s2.t19 < ((l).length : Int))) then
 (bif (ibB s2.t19 ((l).length : Int)) then
 (bif (decide ((IntKind.i64.wrap (1048576 - s2.n)) < (((lget l s2.t19 default)).length : Int))) then
 (some (3, r1.2.1, r1.2.2))
 else
 (next3 ⟨(IntKind.i64.wrap (s2.n + (((lget l s2.t19 default)).length : Int))), (IntKind.i64.wrap (s2.t19 + 1))⟩))
 else none)
 else
 (iter N (fun (s4 : Swire_Writer_put_867x12) next5 =>
 (bif (decide (s4.t35 < ((l).length : Int))) then
 (bif (ibB s4.t35 ((l).length : Int)) then
 (bif (lenB ((s4.b02).length + ((lget l s4.t35 default)).length) 1) then
 (next5 ⟨(IntKind.i64.wrap (s4.t35 + 1)), s4.b0, (s4.b02 ++ (lget l s4.t35 default))⟩)
 else none)
 else none)
 else
 (some (0, s4.b0, s4.b02)))) ⟨0, r1.2.1, r1.2.2⟩))) ⟨((r1.2.2).length : Int), 0⟩)))
def conwire_Writer_put_867 : Con τ := { args := [.ptr 0 [], .ty 118], L := [.box (.agg [.ty 4, .own 5 1]), .tail], ret := .ty 39, L' := [.box (.agg [.ty 4, .own 5 2]), .dead, .tail], R := Int × Bool × (List (Int)), dflt := (default, default, default), F := fun N a b => Fwire_Writer_put_867 N a.2.1 b.1.1 b.1.2.1, of := fun r => (r.1, ((r.2.1, r.2.2, ()), (), (), ())) }
noncomputable def datwire_Writer_put_867 : Dat τ := { D := D0, tbl := tblOf [(65, conwire_Writer_none_052)], lp := lpsOf [(5, lpwire_Writer_put_867x5), (12, lpwire_Writer_put_867x12)], k0 := 2, mu := [], un := [] }
theorem okwire_Writer_put_867 : ConOk E C 58 conwire_Writer_put_867 :=
  con_ok (D := datwire_Writer_put_867) ⟨d0Ok, eGood, tblOf_ok ⟨okwire_Writer_none_052, trivial⟩, fun _ => rfl⟩ conwire_Writer_put_867 (fun a b => (a, b.1.1, b.1.2.1)) none (fun _ _ => rfl) rfl (fun _ _ h => nomatch h) 1000000 (fn := Try.f58) Try.func58 rfl (by kernel_rfl) (by kernel_rfl) rfl (by intro N a b; kernel_rfl)
def Fwire_Writer_Int_816 (N : Nat) (n : Int) (b0 : Bool) (b02 : List (Int)) : Option (Int × Bool × (List (Int))) :=
 ((Fwire_number N n).bind fun r1 =>
 ((Fwire_Writer_put_867 N [r1] b0 b02).bind fun r2 =>
 (some (r2.1, r2.2.1, r2.2.2))))
def conwire_Writer_Int_816 : Con τ := { args := [.ptr 0 [], .ty 2], L := [.box (.agg [.ty 4, .own 5 1]), .tail], ret := .ty 39, L' := [.box (.agg [.ty 4, .own 5 2]), .dead, .tail], R := Int × Bool × (List (Int)), dflt := (default, default, default), F := fun N a b => Fwire_Writer_Int_816 N a.2.1 b.1.1 b.1.2.1, of := fun r => (r.1, ((r.2.1, r.2.2, ()), (), (), ())) }
noncomputable def datwire_Writer_Int_816 : Dat τ := { D := D0, tbl := tblOf [(59, conwire_number), (58, conwire_Writer_put_867)], lp := lpsOf [], k0 := 2, mu := [], un := [] }
theorem okwire_Writer_Int_816 : ConOk E C 42 conwire_Writer_Int_816 :=
  con_ok (D := datwire_Writer_Int_816) ⟨d0Ok, eGood, tblOf_ok ⟨okwire_number, ⟨okwire_Writer_put_867, trivial⟩⟩, fun _ => rfl⟩ conwire_Writer_Int_816 (fun a b => (a, b.1.1, b.1.2.1)) none (fun _ _ => rfl) rfl (fun _ _ h => nomatch h) 1000000 (fn := Try.f42) Try.func42 rfl (by kernel_rfl) (by kernel_rfl) rfl (by intro N a b; kernel_rfl)
def Fwire_Writer_none_384 (N : Nat) (b0 : Bool) (b02 : List (Int)) : Option (Bool × Bool × (List (Int))) :=
 (some ((!b0), b0, b02))
def conwire_Writer_none_384 : Con τ := { args := [.ptr 0 []], L := [.box (.agg [.ty 4, .brw 5 1]), .tail], ret := .ty 4, L' := [.box (.agg [.ty 4, .brw 5 1]), .tail], R := Bool × Bool × (List (Int)), dflt := (default, default, default), F := fun N a b => Fwire_Writer_none_384 N b.1.1 b.1.2.1, of := fun r => (r.1, ((r.2.1, r.2.2, ()), (), ())) }
noncomputable def datwire_Writer_none_384 : Dat τ := { D := D0, tbl := tblOf [], lp := lpsOf [], k0 := 2, mu := [], un := [] }
theorem okwire_Writer_none_384 : ConOk E C 65 conwire_Writer_none_384 :=
  con_ok (D := datwire_Writer_none_384) ⟨d0Ok, eGood, tblOf_ok trivial, fun _ => rfl⟩ conwire_Writer_none_384 (fun a b => (a, b.1.1, b.1.2.1)) none (fun _ _ => rfl) rfl (fun _ _ h => nomatch h) 1000000 (fn := Try.f65) Try.func65 rfl (by kernel_rfl) (by kernel_rfl) rfl (by intro N a b; kernel_rfl)
def Fwire_Writer_put_d39 (N : Nat) (l : List (Int)) (b0 : Bool) (b02 : List (Int)) : Option (Int × Bool) :=
 ((Fwire_Writer_none_384 N b0 b02).bind fun r1 =>
 (bif r1.1 then
 (some (2, r1.2.1))
 else
 (bif (decide ((IntKind.i64.wrap (1048576 - ((r1.2.2).length : Int))) < ((l).length : Int))) then
 (some (3, r1.2.1))
 else
 (bif (lenB ((r1.2.2).length + (l).length) 1) then
 (some (0, r1.2.1))
 else none))))
def conwire_Writer_put_d39 : Con τ := { args := [.ptr 0 [], .ls 1 [.ty 34]], L := [.box (.agg [.ty 4, .brw 5 1]), .tail], ret := .ty 39, L' := [.box (.agg [.ty 4, .any1]), .tail], R := Int × Bool, dflt := (default, default), F := fun N a b => Fwire_Writer_put_d39 N a.2.1.1 b.1.1 b.1.2.1, of := fun r => (r.1, ((r.2, (), ()), (), ())) }
noncomputable def datwire_Writer_put_d39 : Dat τ := { D := D0, tbl := tblOf [(65, conwire_Writer_none_384)], lp := lpsOf [], k0 := 2, mu := [], un := [(5, 3), (12, 3)] }
theorem okwire_Writer_put_d39 : ConOk E C 58 conwire_Writer_put_d39 :=
  con_ok (D := datwire_Writer_put_d39) ⟨d0Ok, eGood, tblOf_ok ⟨okwire_Writer_none_384, trivial⟩, fun _ => rfl⟩ conwire_Writer_put_d39 (fun a b => (a, b.1.1)) none (fun _ _ => rfl) rfl (fun _ _ h => nomatch h) 1000000 (fn := Try.f58) Try.func58 rfl (by kernel_rfl) (by kernel_rfl) rfl (by intro N a b; kernel_rfl)
def Fwire_Writer_Int_204 (N : Nat) (n : Int) (b0 : Bool) (b02 : List (Int)) : Option (Int × Bool) :=
 ((Fwire_number N n).bind fun r1 =>
 ((Fwire_Writer_put_d39 N r1 b0 b02).bind fun r2 =>
 (some (r2.1, r2.2))))
def conwire_Writer_Int_204 : Con τ := { args := [.ptr 0 [], .ty 2], L := [.box (.agg [.ty 4, .brw 5 1]), .tail], ret := .ty 39, L' := [.box (.agg [.ty 4, .any1]), .tail], R := Int × Bool, dflt := (default, default), F := fun N a b => Fwire_Writer_Int_204 N a.2.1 b.1.1 b.1.2.1, of := fun r => (r.1, ((r.2, (), ()), (), ())) }
noncomputable def datwire_Writer_Int_204 : Dat τ := { D := D0, tbl := tblOf [(59, conwire_number), (58, conwire_Writer_put_d39)], lp := lpsOf [], k0 := 2, mu := [8], un := [] }
theorem okwire_Writer_Int_204 : ConOk E C 42 conwire_Writer_Int_204 :=
  con_ok (D := datwire_Writer_Int_204) ⟨d0Ok, eGood, tblOf_ok ⟨okwire_number, ⟨okwire_Writer_put_d39, trivial⟩⟩, fun _ => rfl⟩ conwire_Writer_Int_204 (fun a b => (a, b.1.1)) none (fun _ _ => rfl) rfl (fun _ _ h => nomatch h) 1000000 (fn := Try.f42) Try.func42 rfl (by kernel_rfl) (by kernel_rfl) rfl (by intro N a b; kernel_rfl)
def Frecord_made_052 (N : Nat) (b0 : Bool) (b02 : List (Int)) : Option (Int × Bool × (List (Int))) :=
 ((Fwire_Writer_Int_204 N 0 b0 b02).bind fun r1 =>
 (bif (r1.1 == 2) then
 (some (2, b0, b02))
 else
 (some (0, b0, b02))))
def conrecord_made_052 : Con τ := { args := [.ptr 0 []], L := [.box (.agg [.ty 4, .own 5 1]), .tail], ret := .ty 39, L' := [.box (.agg [.ty 4, .own 5 1]), .tail], R := Int × Bool × (List (Int)), dflt := (default, default, default), F := fun N a b => Frecord_made_052 N b.1.1 b.1.2.1, of := fun r => (r.1, ((r.2.1, r.2.2, ()), (), ())) }
noncomputable def datrecord_made_052 : Dat τ := { D := D0, tbl := tblOf [(42, conwire_Writer_Int_204)], lp := lpsOf [], k0 := 2, mu := [], un := [] }
theorem okrecord_made_052 : ConOk E C 60 conrecord_made_052 :=
  con_ok (D := datrecord_made_052) ⟨d0Ok, eGood, tblOf_ok ⟨okwire_Writer_Int_204, trivial⟩, fun _ => rfl⟩ conrecord_made_052 (fun a b => (a, b.1.1, b.1.2.1)) none (fun _ _ => rfl) rfl (fun _ _ h => nomatch h) 1000000 (fn := Try.f60) Try.func60 rfl (by kernel_rfl) (by kernel_rfl) rfl (by intro N a b; kernel_rfl)
structure Srecord_countx2 where
  t7 : Int
def tsrecord_countx2 : List Sl := [.k, .k, .j, .k, .j, .k, .k, .sh (.ty 2), .j, .j, .j, .j, .j, .j, .j, .j, .j, .j]
def hsrecord_countx2 : List ESh := []
def torecord_countx2 (a : Sl.Ts τ tsrecord_countx2) (b : ESh.Ts τ hsrecord_countx2) : Srecord_countx2 := ⟨a.2.2.2.2.2.2.2.1⟩
def otrecord_countx2 (s : Srecord_countx2) : Sl.Ts τ tsrecord_countx2 := ((), (), (), (), (), (), (), s.t7, (), (), (), (), (), (), (), (), (), (), ())
def ohrecord_countx2 (s : Srecord_countx2) : ESh.Ts τ hsrecord_countx2 := ()
def lprecord_countx2 : Lp τ := { ts := tsrecord_countx2, hs := hsrecord_countx2, S := Srecord_countx2, to := torecord_countx2, ot := otrecord_countx2, oh := ohrecord_countx2, hk := [], tk := [], ot_to := fun _ _ => rfl, oh_to := fun _ _ => rfl }
def Frecord_count (N : Nat) (l : List (Int)) : Option (Bool) :=
 (iter N (fun (s1 : Srecord_countx2) next2 =>
 (bif (decide (s1.t7 < ((l).length : Int))) then
 (bif (ibB s1.t7 ((l).length : Int)) then
 (bif ((decide ((lget l s1.t7 default) < 0)) || (decide (1099511627776 < (lget l s1.t7 default)))) then
 (some false)
 else
 (next2 ⟨(IntKind.i64.wrap (s1.t7 + 1))⟩))
 else none)
 else
 (some true))) ⟨0⟩)
def conrecord_count : Con τ := { args := [.ty 126], L := [], ret := .ty 4, L' := [], R := Bool, dflt := default, F := fun N a b => Frecord_count N a.1, of := fun r => (r, ()) }
noncomputable def datrecord_count : Dat τ := { D := D0, tbl := tblOf [], lp := lpsOf [(2, lprecord_countx2)], k0 := 0, mu := [], un := [] }
theorem okrecord_count : ConOk E C 85 conrecord_count :=
  con_ok (D := datrecord_count) ⟨d0Ok, eGood, tblOf_ok trivial, fun _ => rfl⟩ conrecord_count (fun a b => a) none (fun _ _ => rfl) rfl (fun _ _ h => nomatch h) 1000000 (fn := Try.f85) Try.func85 rfl (by kernel_rfl) (by kernel_rfl) rfl (by intro N a b; kernel_rfl)
structure Srecord_mayEpochx3 where
  ok : Bool
  t14 : Int
def tsrecord_mayEpochx3 : List Sl := [.k, .k, .k, .sh (.ty 4), .j, .k, .k, .k, .k, .k, .j, .k, .j, .k, .sh (.ty 2), .j, .j, .j, .j, .j, .j, .j, .j, .j, .j, .j, .j, .j, .j, .j, .j, .j, .j, .j, .j, .j, .j, .j, .j, .j, .j, .j, .j, .j, .j, .j, .j, .k]
def hsrecord_mayEpochx3 : List ESh := [.keep]
def torecord_mayEpochx3 (a : Sl.Ts τ tsrecord_mayEpochx3) (b : ESh.Ts τ hsrecord_mayEpochx3) : Srecord_mayEpochx3 := ⟨a.2.2.2.1, a.2.2.2.2.2.2.2.2.2.2.2.2.2.2.1⟩
def otrecord_mayEpochx3 (s : Srecord_mayEpochx3) : Sl.Ts τ tsrecord_mayEpochx3 := ((), (), (), s.ok, (), (), (), (), (), (), (), (), (), (), s.t14, (), (), (), (), (), (), (), (), (), (), (), (), (), (), (), (), (), (), (), (), (), (), (), (), (), (), (), (), (), (), (), (), (), ())
def ohrecord_mayEpochx3 (s : Srecord_mayEpochx3) : ESh.Ts τ hsrecord_mayEpochx3 := ((), ())
def lprecord_mayEpochx3 : Lp τ := { ts := tsrecord_mayEpochx3, hs := hsrecord_mayEpochx3, S := Srecord_mayEpochx3, to := torecord_mayEpochx3, ot := otrecord_mayEpochx3, oh := ohrecord_mayEpochx3, hk := [3], tk := [0, 2, 0, 0, 0, 2], ot_to := fun _ _ => rfl, oh_to := fun _ _ => rfl }
structure Srecord_mayEpochx3a where
  ok : Bool
  t14 : Int
def tsrecord_mayEpochx3a : List Sl := [.k, .k, .k, .sh (.ty 4), .j, .k, .k, .k, .k, .k, .j, .k, .k, .k, .sh (.ty 2), .j, .j, .j, .j, .j, .j, .j, .j, .j, .j, .j, .j, .j, .j, .j, .j, .j, .j, .j, .j, .j, .j, .j, .j, .j, .j, .j, .j, .j, .j, .j, .j, .k]
def hsrecord_mayEpochx3a : List ESh := [.keep]
def torecord_mayEpochx3a (a : Sl.Ts τ tsrecord_mayEpochx3a) (b : ESh.Ts τ hsrecord_mayEpochx3a) : Srecord_mayEpochx3a := ⟨a.2.2.2.1, a.2.2.2.2.2.2.2.2.2.2.2.2.2.2.1⟩
def otrecord_mayEpochx3a (s : Srecord_mayEpochx3a) : Sl.Ts τ tsrecord_mayEpochx3a := ((), (), (), s.ok, (), (), (), (), (), (), (), (), (), (), s.t14, (), (), (), (), (), (), (), (), (), (), (), (), (), (), (), (), (), (), (), (), (), (), (), (), (), (), (), (), (), (), (), (), (), ())
def ohrecord_mayEpochx3a (s : Srecord_mayEpochx3a) : ESh.Ts τ hsrecord_mayEpochx3a := ((), ())
def lprecord_mayEpochx3a : Lp τ := { ts := tsrecord_mayEpochx3a, hs := hsrecord_mayEpochx3a, S := Srecord_mayEpochx3a, to := torecord_mayEpochx3a, ot := otrecord_mayEpochx3a, oh := ohrecord_mayEpochx3a, hk := [2], tk := [0, 2, 0, 0, 0, 2], ot_to := fun _ _ => rfl, oh_to := fun _ _ => rfl }
def Frecord_mayEpoch (N : Nat) (e : GEpoch) : Option (Bool) :=
 ((Frecord_count N [e.Number]).bind fun r1 =>
 (bif r1 then
 ((bif r1 then Frecord_count N (e.Seals.toList) else some default).bind fun r2 =>
 (iter N (fun (s3 : Srecord_mayEpochx3) next4 =>
 (bif (decide (s3.t14 < 8)) then
 (bif (!s3.ok || (ibB s3.t14 8)) then
 (bif (!(s3.ok && (decide (0 ≤ (vget e.States ((s3.t14).toNat) default)))) || (ibB s3.t14 8)) then
 (bif (!((s3.ok && (decide (0 ≤ (vget e.States ((s3.t14).toNat) default)))) && (decide ((vget e.States ((s3.t14).toNat) default) ≤ 3))) || (ibB s3.t14 8)) then
 (bif (!(((s3.ok && (decide (0 ≤ (vget e.States ((s3.t14).toNat) default)))) && (decide ((vget e.States ((s3.t14).toNat) default) ≤ 3))) && (decide ((-1) ≤ (vget e.Sponsor ((s3.t14).toNat) default)))) || (ibB s3.t14 8)) then
 (next4 ⟨((((s3.ok && (decide (0 ≤ (vget e.States ((s3.t14).toNat) default)))) && (decide ((vget e.States ((s3.t14).toNat) default) ≤ 3))) && (decide ((-1) ≤ (vget e.Sponsor ((s3.t14).toNat) default)))) && (decide ((vget e.Sponsor ((s3.t14).toNat) default) < 8))), (IntKind.i64.wrap (s3.t14 + 1))⟩)
 else none)
 else none)
 else none)
 else none)
 else
 (some s3.ok))) ⟨(r1 && r2), 0⟩))
 else
 (iter N (fun (s5 : Srecord_mayEpochx3a) next6 =>
 (bif (decide (s5.t14 < 8)) then
 (bif (!s5.ok || (ibB s5.t14 8)) then
 (bif (!(s5.ok && (decide (0 ≤ (vget e.States ((s5.t14).toNat) default)))) || (ibB s5.t14 8)) then
 (bif (!((s5.ok && (decide (0 ≤ (vget e.States ((s5.t14).toNat) default)))) && (decide ((vget e.States ((s5.t14).toNat) default) ≤ 3))) || (ibB s5.t14 8)) then
 (bif (!(((s5.ok && (decide (0 ≤ (vget e.States ((s5.t14).toNat) default)))) && (decide ((vget e.States ((s5.t14).toNat) default) ≤ 3))) && (decide ((-1) ≤ (vget e.Sponsor ((s5.t14).toNat) default)))) || (ibB s5.t14 8)) then
 (next6 ⟨((((s5.ok && (decide (0 ≤ (vget e.States ((s5.t14).toNat) default)))) && (decide ((vget e.States ((s5.t14).toNat) default) ≤ 3))) && (decide ((-1) ≤ (vget e.Sponsor ((s5.t14).toNat) default)))) && (decide ((vget e.Sponsor ((s5.t14).toNat) default) < 8))), (IntKind.i64.wrap (s5.t14 + 1))⟩)
 else none)
 else none)
 else none)
 else none)
 else
 (some s5.ok))) ⟨false, 0⟩)))
def conrecord_mayEpoch : Con τ := { args := [.ty 26], L := [], ret := .ty 4, L' := [], R := Bool, dflt := default, F := fun N a b => Frecord_mayEpoch N a.1, of := fun r => (r, ()) }
noncomputable def datrecord_mayEpoch : Dat τ := { D := D0, tbl := tblOf [(85, conrecord_count)], lp := lpsOf [(3, lprecord_mayEpochx3), (3, lprecord_mayEpochx3a)], k0 := 0, mu := [], un := [] }
theorem okrecord_mayEpoch : ConOk E C 78 conrecord_mayEpoch :=
  con_ok (D := datrecord_mayEpoch) ⟨d0Ok, eGood, tblOf_ok ⟨okrecord_count, trivial⟩, fun _ => rfl⟩ conrecord_mayEpoch (fun a b => a) none (fun _ _ => rfl) rfl (fun _ _ h => nomatch h) 1000000 (fn := Try.f78) Try.func78 rfl (by kernel_rfl) (by kernel_rfl) rfl (by intro N a b; kernel_rfl)
def Frecord_verdict (N : Nat) (ok : Bool) : Option (Int) :=
 (bif ok then
 (some 0)
 else
 (some 40))
def conrecord_verdict : Con τ := { args := [.ty 4], L := [], ret := .ty 39, L' := [], R := Int, dflt := default, F := fun N a b => Frecord_verdict N a.1, of := fun r => (r, ()) }
noncomputable def datrecord_verdict : Dat τ := { D := D0, tbl := tblOf [], lp := lpsOf [], k0 := 0, mu := [], un := [] }
theorem okrecord_verdict : ConOk E C 77 conrecord_verdict :=
  con_ok (D := datrecord_verdict) ⟨d0Ok, eGood, tblOf_ok trivial, fun _ => rfl⟩ conrecord_verdict (fun a b => a) none (fun _ _ => rfl) rfl (fun _ _ h => nomatch h) 1000000 (fn := Try.f77) Try.func77 rfl (by kernel_rfl) (by kernel_rfl) rfl (by intro N a b; kernel_rfl)
def Frecord_CheckEpoch (N : Nat) (e : GEpoch) : Option (Int) :=
 ((Frecord_mayEpoch N e).bind fun r1 =>
 ((Frecord_verdict N r1).bind fun r2 =>
 (some r2)))
def conrecord_CheckEpoch : Con τ := { args := [.ty 26], L := [], ret := .ty 39, L' := [], R := Int, dflt := default, F := fun N a b => Frecord_CheckEpoch N a.1, of := fun r => (r, ()) }
noncomputable def datrecord_CheckEpoch : Dat τ := { D := D0, tbl := tblOf [(78, conrecord_mayEpoch), (77, conrecord_verdict)], lp := lpsOf [], k0 := 0, mu := [], un := [] }
theorem okrecord_CheckEpoch : ConOk E C 61 conrecord_CheckEpoch :=
  con_ok (D := datrecord_CheckEpoch) ⟨d0Ok, eGood, tblOf_ok ⟨okrecord_mayEpoch, ⟨okrecord_verdict, trivial⟩⟩, fun _ => rfl⟩ conrecord_CheckEpoch (fun a b => a) none (fun _ _ => rfl) rfl (fun _ _ h => nomatch h) 1000000 (fn := Try.f61) Try.func61 rfl (by kernel_rfl) (by kernel_rfl) rfl (by intro N a b; kernel_rfl)
def Frecord_writer_keep_9cd (N : Nat) (e : Int) (b0 : Int) (b1 : Bool) (b12 : List (Int)) : Option (Int × Bool × (List (Int))) :=
 (bif (b0 == 0) then
 (some (e, b1, b12))
 else
 (some (b0, b1, b12)))
def conrecord_writer_keep_9cd : Con τ := { args := [.ptr 0 [], .ty 39], L := [.box (.agg [.ptr 1 [], .ty 39]), .box (.agg [.ty 4, .own 5 2]), .tail], ret := .tup [], L' := [.box (.agg [.ptr 1 [], .ty 39]), .box (.agg [.ty 4, .own 5 2]), .tail], R := Int × Bool × (List (Int)), dflt := (default, default, default), F := fun N a b => Frecord_writer_keep_9cd N a.2.1 b.1.2.1 b.2.1.1 b.2.1.2.1, of := fun r => ((), (((), r.1, ()), (r.2.1, r.2.2, ()), (), ())) }
noncomputable def datrecord_writer_keep_9cd : Dat τ := { D := D0, tbl := tblOf [], lp := lpsOf [], k0 := 3, mu := [], un := [] }
theorem okrecord_writer_keep_9cd : ConOk E C 86 conrecord_writer_keep_9cd :=
  con_ok (D := datrecord_writer_keep_9cd) ⟨d0Ok, eGood, tblOf_ok trivial, fun _ => rfl⟩ conrecord_writer_keep_9cd (fun a b => (b.1.2.1, b.2.1.1, b.2.1.2.1)) none (fun _ _ => rfl) rfl (fun _ _ h => nomatch h) 1000000 (fn := Try.f86) Try.func86 rfl (by kernel_rfl) (by kernel_rfl) rfl (by intro N a b; kernel_rfl)
structure Srecord_writer_ints_573x1 where
  t8 : Int
  b0 : Int
  b1 : Bool
  b12 : List (Int)
def tsrecord_writer_ints_573x1 : List Sl := [.k, .k, .k, .k, .k, .j, .k, .k, .sh (.ty 2), .j, .j, .j, .j, .j, .j, .j, .j, .j, .j, .j, .j]
def hsrecord_writer_ints_573x1 : List ESh := [.box (.agg [.ptr 1 [], .ty 2]), .box (.agg [.ty 4, .own 5 3]), .dead, .tail]
def torecord_writer_ints_573x1 (a : Sl.Ts τ tsrecord_writer_ints_573x1) (b : ESh.Ts τ hsrecord_writer_ints_573x1) : Srecord_writer_ints_573x1 := ⟨a.2.2.2.2.2.2.2.2.1, b.1.2.1, b.2.1.1, b.2.1.2.1⟩
def otrecord_writer_ints_573x1 (s : Srecord_writer_ints_573x1) : Sl.Ts τ tsrecord_writer_ints_573x1 := ((), (), (), (), (), (), (), (), s.t8, (), (), (), (), (), (), (), (), (), (), (), (), ())
def ohrecord_writer_ints_573x1 (s : Srecord_writer_ints_573x1) : ESh.Ts τ hsrecord_writer_ints_573x1 := (((), s.b0, ()), (s.b1, s.b12, ()), (), (), ())
def lprecord_writer_ints_573x1 : Lp τ := { ts := tsrecord_writer_ints_573x1, hs := hsrecord_writer_ints_573x1, S := Srecord_writer_ints_573x1, to := torecord_writer_ints_573x1, ot := otrecord_writer_ints_573x1, oh := ohrecord_writer_ints_573x1, hk := [2, 2, 5], tk := [2], ot_to := fun _ _ => rfl, oh_to := fun _ _ => rfl }
def Frecord_writer_ints_573 (N : Nat) (l : List (Int)) (b0 : Int) (b1 : Bool) (b12 : List (Int)) : Option (Int × Bool × (List (Int))) :=
 (iter N (fun (s1 : Srecord_writer_ints_573x1) next2 =>
 (bif (decide (s1.t8 < ((l).length : Int))) then
 (bif (ibB s1.t8 ((l).length : Int)) then
 ((Fwire_Writer_Int_816 N (lget l s1.t8 default) s1.b1 s1.b12).bind fun r3 =>
 ((Frecord_writer_keep_9cd N r3.1 s1.b0 r3.2.1 r3.2.2).bind fun r4 =>
 (next2 ⟨(IntKind.i64.wrap (s1.t8 + 1)), r4.1, r4.2.1, r4.2.2⟩)))
 else none)
 else
 (some (s1.b0, s1.b1, s1.b12)))) ⟨0, b0, b1, b12⟩)
def conrecord_writer_ints_573 : Con τ := { args := [.ptr 0 [], .ty 126], L := [.box (.agg [.ptr 1 [], .ty 39]), .box (.agg [.ty 4, .own 5 2]), .tail], ret := .tup [], L' := [.box (.agg [.ptr 1 [], .ty 39]), .box (.agg [.ty 4, .own 5 3]), .dead, .tail], R := Int × Bool × (List (Int)), dflt := (default, default, default), F := fun N a b => Frecord_writer_ints_573 N a.2.1 b.1.2.1 b.2.1.1 b.2.1.2.1, of := fun r => ((), (((), r.1, ()), (r.2.1, r.2.2, ()), (), (), ())) }
noncomputable def datrecord_writer_ints_573 : Dat τ := { D := D0, tbl := tblOf [(42, conwire_Writer_Int_816), (86, conrecord_writer_keep_9cd)], lp := lpsOf [(1, lprecord_writer_ints_573x1)], k0 := 3, mu := [], un := [] }
theorem okrecord_writer_ints_573 : ConOk E C 80 conrecord_writer_ints_573 :=
  con_ok (D := datrecord_writer_ints_573) ⟨d0Ok, eGood, tblOf_ok ⟨okwire_Writer_Int_816, ⟨okrecord_writer_keep_9cd, trivial⟩⟩, fun _ => rfl⟩ conrecord_writer_ints_573 (fun a b => (b.1.2.1, b.2.1.1, b.2.1.2.1)) none (fun _ _ => rfl) rfl (fun _ _ h => nomatch h) 1000000 (fn := Try.f80) Try.func80 rfl (by kernel_rfl) (by kernel_rfl) rfl (by intro N a b; kernel_rfl)
structure Srecord_writer_small_299x1 where
  t8 : Int
  b0 : Int
  b1 : Bool
  b12 : List (Int)
def tsrecord_writer_small_299x1 : List Sl := [.k, .k, .k, .k, .k, .j, .k, .k, .sh (.ty 2), .j, .j, .j, .j, .j, .j, .j, .j, .j, .j, .j, .j]
def hsrecord_writer_small_299x1 : List ESh := [.box (.agg [.ptr 1 [], .ty 2]), .box (.agg [.ty 4, .own 5 3]), .dead, .tail]
def torecord_writer_small_299x1 (a : Sl.Ts τ tsrecord_writer_small_299x1) (b : ESh.Ts τ hsrecord_writer_small_299x1) : Srecord_writer_small_299x1 := ⟨a.2.2.2.2.2.2.2.2.1, b.1.2.1, b.2.1.1, b.2.1.2.1⟩
def otrecord_writer_small_299x1 (s : Srecord_writer_small_299x1) : Sl.Ts τ tsrecord_writer_small_299x1 := ((), (), (), (), (), (), (), (), s.t8, (), (), (), (), (), (), (), (), (), (), (), (), ())
def ohrecord_writer_small_299x1 (s : Srecord_writer_small_299x1) : ESh.Ts τ hsrecord_writer_small_299x1 := (((), s.b0, ()), (s.b1, s.b12, ()), (), (), ())
def lprecord_writer_small_299x1 : Lp τ := { ts := tsrecord_writer_small_299x1, hs := hsrecord_writer_small_299x1, S := Srecord_writer_small_299x1, to := torecord_writer_small_299x1, ot := otrecord_writer_small_299x1, oh := ohrecord_writer_small_299x1, hk := [2, 2, 5], tk := [2], ot_to := fun _ _ => rfl, oh_to := fun _ _ => rfl }
def Frecord_writer_small_299 (N : Nat) (l : List (Int)) (b0 : Int) (b1 : Bool) (b12 : List (Int)) : Option (Int × Bool × (List (Int))) :=
 (iter N (fun (s1 : Srecord_writer_small_299x1) next2 =>
 (bif (decide (s1.t8 < ((l).length : Int))) then
 (bif (ibB s1.t8 ((l).length : Int)) then
 ((Fwire_Writer_Int_816 N (lget l s1.t8 default) s1.b1 s1.b12).bind fun r3 =>
 ((Frecord_writer_keep_9cd N r3.1 s1.b0 r3.2.1 r3.2.2).bind fun r4 =>
 (next2 ⟨(IntKind.i64.wrap (s1.t8 + 1)), r4.1, r4.2.1, r4.2.2⟩)))
 else none)
 else
 (some (s1.b0, s1.b1, s1.b12)))) ⟨0, b0, b1, b12⟩)
def conrecord_writer_small_299 : Con τ := { args := [.ptr 0 [], .ty 45], L := [.box (.agg [.ptr 1 [], .ty 39]), .box (.agg [.ty 4, .own 5 2]), .tail], ret := .tup [], L' := [.box (.agg [.ptr 1 [], .ty 39]), .box (.agg [.ty 4, .own 5 3]), .dead, .tail], R := Int × Bool × (List (Int)), dflt := (default, default, default), F := fun N a b => Frecord_writer_small_299 N a.2.1 b.1.2.1 b.2.1.1 b.2.1.2.1, of := fun r => ((), (((), r.1, ()), (r.2.1, r.2.2, ()), (), (), ())) }
noncomputable def datrecord_writer_small_299 : Dat τ := { D := D0, tbl := tblOf [(42, conwire_Writer_Int_816), (86, conrecord_writer_keep_9cd)], lp := lpsOf [(1, lprecord_writer_small_299x1)], k0 := 3, mu := [], un := [] }
theorem okrecord_writer_small_299 : ConOk E C 81 conrecord_writer_small_299 :=
  con_ok (D := datrecord_writer_small_299) ⟨d0Ok, eGood, tblOf_ok ⟨okwire_Writer_Int_816, ⟨okrecord_writer_keep_9cd, trivial⟩⟩, fun _ => rfl⟩ conrecord_writer_small_299 (fun a b => (b.1.2.1, b.2.1.1, b.2.1.2.1)) none (fun _ _ => rfl) rfl (fun _ _ h => nomatch h) 1000000 (fn := Try.f81) Try.func81 rfl (by kernel_rfl) (by kernel_rfl) rfl (by intro N a b; kernel_rfl)
def Frecord_writer_epoch_b53 (N : Nat) (e : GEpoch) (b0 : Int) (b1 : Bool) (b12 : List (Int)) : Option (Int × Bool × (List (Int))) :=
 ((Frecord_writer_ints_573 N [e.Number] b0 b1 b12).bind fun r1 =>
 ((Frecord_writer_small_299 N (e.States.toList) r1.1 r1.2.1 r1.2.2).bind fun r2 =>
 ((Frecord_writer_ints_573 N (e.Seals.toList) r2.1 r2.2.1 r2.2.2).bind fun r3 =>
 ((Frecord_writer_small_299 N (e.Sponsor.toList) r3.1 r3.2.1 r3.2.2).bind fun r4 =>
 (some (r4.1, r4.2.1, r4.2.2))))))
def conrecord_writer_epoch_b53 : Con τ := { args := [.ptr 0 [], .ty 26], L := [.box (.agg [.ptr 1 [], .ty 39]), .box (.agg [.ty 4, .own 5 2]), .tail], ret := .tup [], L' := [.box (.agg [.ptr 1 [], .ty 39]), .box (.agg [.ty 4, .own 5 3]), .dead, .tail], R := Int × Bool × (List (Int)), dflt := (default, default, default), F := fun N a b => Frecord_writer_epoch_b53 N a.2.1 b.1.2.1 b.2.1.1 b.2.1.2.1, of := fun r => ((), (((), r.1, ()), (r.2.1, r.2.2, ()), (), (), ())) }
noncomputable def datrecord_writer_epoch_b53 : Dat τ := { D := D0, tbl := tblOf [(80, conrecord_writer_ints_573), (81, conrecord_writer_small_299)], lp := lpsOf [], k0 := 3, mu := [], un := [] }
theorem okrecord_writer_epoch_b53 : ConOk E C 64 conrecord_writer_epoch_b53 :=
  con_ok (D := datrecord_writer_epoch_b53) ⟨d0Ok, eGood, tblOf_ok ⟨okrecord_writer_ints_573, ⟨okrecord_writer_small_299, trivial⟩⟩, fun _ => rfl⟩ conrecord_writer_epoch_b53 (fun a b => (b.1.2.1, b.2.1.1, b.2.1.2.1)) none (fun _ _ => rfl) rfl (fun _ _ h => nomatch h) 1000000 (fn := Try.f64) Try.func64 rfl (by kernel_rfl) (by kernel_rfl) rfl (by intro N a b; kernel_rfl)
def Frecord_PutEpoch_1_1be (N : Nat) (b0 : Int) (b1 : GEpoch) (b2 : Bool) (b22 : List (Int)) : Option (Int × GEpoch × Bool × (List (Int))) :=
 ((Frecord_writer_epoch_b53 N b1 b0 b2 b22).bind fun r1 =>
 (some (r1.1, b1, r1.2.1, r1.2.2)))
def conrecord_PutEpoch_1_1be : Con τ := { args := [.ptr 0 [], .ptr 1 []], L := [.box (.agg [.ptr 2 [], .ty 39]), .box (.ty 26), .box (.agg [.ty 4, .own 5 3]), .tail], ret := .tup [], L' := [.box (.agg [.ptr 2 [], .ty 39]), .box (.ty 26), .box (.agg [.ty 4, .own 5 4]), .dead, .tail], R := Int × GEpoch × Bool × (List (Int)), dflt := (default, default, default, default), F := fun N a b => Frecord_PutEpoch_1_1be N b.1.2.1 b.2.1 b.2.2.1.1 b.2.2.1.2.1, of := fun r => ((), (((), r.1, ()), r.2.1, (r.2.2.1, r.2.2.2, ()), (), (), ())) }
noncomputable def datrecord_PutEpoch_1_1be : Dat τ := { D := D0, tbl := tblOf [(64, conrecord_writer_epoch_b53)], lp := lpsOf [], k0 := 4, mu := [], un := [] }
theorem okrecord_PutEpoch_1_1be : ConOk E C 63 conrecord_PutEpoch_1_1be :=
  con_ok (D := datrecord_PutEpoch_1_1be) ⟨d0Ok, eGood, tblOf_ok ⟨okrecord_writer_epoch_b53, trivial⟩, fun _ => rfl⟩ conrecord_PutEpoch_1_1be (fun a b => (b.1.2.1, b.2.1, b.2.2.1.1, b.2.2.1.2.1)) none (fun _ _ => rfl) rfl (fun _ _ h => nomatch h) 1000000 (fn := Try.f63) Try.func63 rfl (by kernel_rfl) (by kernel_rfl) rfl (by intro N a b; kernel_rfl)
def Fwire_Writer_Len_052 (N : Nat) (b0 : Bool) (b02 : List (Int)) : Option (Int × Bool × (List (Int))) :=
 ((Fwire_Writer_none_052 N b0 b02).bind fun r1 =>
 (bif r1.1 then
 (some (0, r1.2.1, r1.2.2))
 else
 (some (((r1.2.2).length : Int), r1.2.1, r1.2.2))))
def conwire_Writer_Len_052 : Con τ := { args := [.ptr 0 []], L := [.box (.agg [.ty 4, .own 5 1]), .tail], ret := .ty 3, L' := [.box (.agg [.ty 4, .own 5 1]), .tail], R := Int × Bool × (List (Int)), dflt := (default, default, default), F := fun N a b => Fwire_Writer_Len_052 N b.1.1 b.1.2.1, of := fun r => (r.1, ((r.2.1, r.2.2, ()), (), ())) }
noncomputable def datwire_Writer_Len_052 : Dat τ := { D := D0, tbl := tblOf [(65, conwire_Writer_none_052)], lp := lpsOf [], k0 := 2, mu := [], un := [] }
theorem okwire_Writer_Len_052 : ConOk E C 79 conwire_Writer_Len_052 :=
  con_ok (D := datwire_Writer_Len_052) ⟨d0Ok, eGood, tblOf_ok ⟨okwire_Writer_none_052, trivial⟩, fun _ => rfl⟩ conwire_Writer_Len_052 (fun a b => (a, b.1.1, b.1.2.1)) none (fun _ _ => rfl) rfl (fun _ _ h => nomatch h) 1000000 (fn := Try.f79) Try.func79 rfl (by kernel_rfl) (by kernel_rfl) rfl (by intro N a b; kernel_rfl)
def Frecord_whole_94e (N : Nat) (b0 : Bool) (b02 : List (Int)) (b1 : GEpoch) : Option (Int × Bool × (List (Int)) × GEpoch) :=
 ((Fwire_NewWriter N).bind fun r1 =>
 ((Frecord_PutEpoch_1_1be N 0 b1 r1.1 r1.2).bind fun r2 =>
 (bif (!(!(r2.1 == 0))) then
 ((Fwire_Writer_Len_052 N r2.2.2.1 r2.2.2.2).bind fun r3 =>
 (bif (!(!(r2.1 == 0))) then
 ((Fwire_Writer_Len_052 N b0 b02).bind fun r4 =>
 (bif ((!(r2.1 == 0)) || (decide ((IntKind.i64.wrap (1048576 - r4.1)) < r3.1))) then
 (some (3, r4.2.1, r4.2.2, r2.2.1))
 else
 ((Frecord_PutEpoch_1_1be N 0 r2.2.1 r4.2.1 r4.2.2).bind fun r5 =>
 (some (0, r5.2.2.1, r5.2.2.2, r5.2.1)))))
 else
 (some (3, b0, b02, r2.2.1))))
 else
 (some (3, b0, b02, r2.2.1)))))
def conrecord_whole_94e : Con τ := { args := [.ptr 0 [], .fn 63 [.ptr 1 []]], L := [.box (.agg [.ty 4, .own 5 2]), .box (.ty 26), .tail], ret := .ty 39, L' := [.box (.agg [.ty 4, .own 5 3]), .box (.ty 26), .dead, .tail], R := Int × Bool × (List (Int)) × GEpoch, dflt := (default, default, default, default), F := fun N a b => Frecord_whole_94e N b.1.1 b.1.2.1 b.2.1, of := fun r => (r.1, ((r.2.1, r.2.2.1, ()), r.2.2.2, (), (), ())) }
noncomputable def datrecord_whole_94e : Dat τ := { D := D0, tbl := tblOf [(41, conwire_NewWriter), (63, conrecord_PutEpoch_1_1be), (79, conwire_Writer_Len_052)], lp := lpsOf [], k0 := 3, mu := [], un := [] }
theorem okrecord_whole_94e : ConOk E C 62 conrecord_whole_94e :=
  con_ok (D := datrecord_whole_94e) ⟨d0Ok, eGood, tblOf_ok ⟨okwire_NewWriter, ⟨okrecord_PutEpoch_1_1be, ⟨okwire_Writer_Len_052, trivial⟩⟩⟩, fun _ => rfl⟩ conrecord_whole_94e (fun a b => (a, b.1.1, b.1.2.1, b.2.1)) none (fun _ _ => rfl) rfl (fun _ _ h => nomatch h) 1000000 (fn := Try.f62) Try.func62 rfl (by kernel_rfl) (by kernel_rfl) rfl (by intro N a b; kernel_rfl)
def Frecord_PutEpoch_26c (N : Nat) (e : GEpoch) (b0 : Bool) (b02 : List (Int)) : Option (Int × Bool × (List (Int))) :=
 ((Frecord_made_052 N b0 b02).bind fun r1 =>
 (bif (!(r1.1 == 0)) then
 (some (2, r1.2.1, r1.2.2))
 else
 ((Frecord_CheckEpoch N e).bind fun r2 =>
 (bif (!(r2 == 0)) then
 (some (r2, r1.2.1, r1.2.2))
 else
 ((Frecord_whole_94e N r1.2.1 r1.2.2 e).bind fun r3 =>
 (some (r3.1, r3.2.1, r3.2.2.1)))))))
def conrecord_PutEpoch_26c : Con τ := { args := [.ptr 0 [], .ty 26], L := [.box (.agg [.ty 4, .own 5 1]), .tail], ret := .ty 39, L' := [.box (.agg [.ty 4, .own 5 2]), .dead, .tail], R := Int × Bool × (List (Int)), dflt := (default, default, default), F := fun N a b => Frecord_PutEpoch_26c N a.2.1 b.1.1 b.1.2.1, of := fun r => (r.1, ((r.2.1, r.2.2, ()), (), (), ())) }
noncomputable def datrecord_PutEpoch_26c : Dat τ := { D := D0, tbl := tblOf [(60, conrecord_made_052), (61, conrecord_CheckEpoch), (62, conrecord_whole_94e)], lp := lpsOf [], k0 := 2, mu := [], un := [] }
theorem okrecord_PutEpoch_26c : ConOk E C 43 conrecord_PutEpoch_26c :=
  con_ok (D := datrecord_PutEpoch_26c) ⟨d0Ok, eGood, tblOf_ok ⟨okrecord_made_052, ⟨okrecord_CheckEpoch, ⟨okrecord_whole_94e, trivial⟩⟩⟩, fun _ => rfl⟩ conrecord_PutEpoch_26c (fun a b => (a, b.1.1, b.1.2.1)) none (fun _ _ => rfl) rfl (fun _ _ h => nomatch h) 1000000 (fn := Try.f43) Try.func43 rfl (by kernel_rfl) (by kernel_rfl) rfl (by intro N a b; kernel_rfl)
def Fslices_Clone_byte_c35 (N : Nat) (s : List (Int)) : Option ((List (Int))) :=
 (bif (lenB (0 + (s).length) 1) then
 (some ([] ++ s))
 else none)
def conslices_Clone_byte_c35 : Con τ := { args := [.nn 5], L := [], ret := .ty 34, L' := [], R := (List (Int)), dflt := default, F := fun N a b => Fslices_Clone_byte_c35 N a.1, of := fun r => (r, ()) }
noncomputable def datslices_Clone_byte_c35 : Dat τ := { D := D0, tbl := tblOf [], lp := lpsOf [], k0 := 0, mu := [], un := [] }
theorem okslices_Clone_byte_c35 : ConOk E C 66 conslices_Clone_byte_c35 :=
  con_ok (D := datslices_Clone_byte_c35) ⟨d0Ok, eGood, tblOf_ok trivial, fun _ => rfl⟩ conslices_Clone_byte_c35 (fun a b => a) none (fun _ _ => rfl) rfl (fun _ _ h => nomatch h) 1000000 (fn := Try.f66) Try.func66 rfl (by kernel_rfl) (by kernel_rfl) rfl (by intro N a b; kernel_rfl)
def Fslices_Clone_byte_932 (N : Nat)  : Option ((List (Int))) :=
 (some [])
def conslices_Clone_byte_932 : Con τ := { args := [.nil .slice], L := [], ret := .ty 34, L' := [], R := (List (Int)), dflt := default, F := fun N a b => Fslices_Clone_byte_932 N , of := fun r => (r, ()) }
noncomputable def datslices_Clone_byte_932 : Dat τ := { D := D0, tbl := tblOf [], lp := lpsOf [], k0 := 0, mu := [], un := [] }
theorem okslices_Clone_byte_932 : ConOk E C 66 conslices_Clone_byte_932 :=
  con_ok (D := datslices_Clone_byte_932) ⟨d0Ok, eGood, tblOf_ok trivial, fun _ => rfl⟩ conslices_Clone_byte_932 (fun a b => a) none (fun _ _ => rfl) rfl (fun _ _ h => nomatch h) 1000000 (fn := Try.f66) Try.func66 rfl (by kernel_rfl) (by kernel_rfl) rfl (by intro N a b; kernel_rfl)
def Fslices_Clone_byte (N : Nat) (s : List (Int)) : Option ((List (Int))) := Fslices_Clone_byte_c35 N s
def conslices_Clone_byte : Con τ := { args := [.ty 34], L := [], ret := .ty 34, L' := [], R := (List (Int)), dflt := default, F := fun N a b => Fslices_Clone_byte N a.1, of := fun r => (r, ()) }
theorem okslices_Clone_byte : ConOk E C 66 conslices_Clone_byte := by
  intro N a b r h
  obtain ⟨x0, u⟩ := a
  refine FnSpec.split (pre := []) (post := []) (fun h0 => ?_) (okslices_Clone_byte_c35 N (x0, u) b r h)
  have h0 : x0 = [] := List.map_eq_nil_iff.1 h0
  subst h0
  exact okslices_Clone_byte_932 N ((), u) b r ((show conslices_Clone_byte_932.F N ((), u) b = conslices_Clone_byte.F N ([], u) b from by kernel_rfl).trans h)
end Go.Proofs.Ytjjnclgkppbpnaa
