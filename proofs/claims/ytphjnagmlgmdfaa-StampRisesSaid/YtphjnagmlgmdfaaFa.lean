/-
The functions of this seat, as plain functions over typed data, each with its contract. Printed by wip/tools/fngen.py.
-/
import Derived.Test.YtphjnagmlgmdfaaCod
import Derived.KernelRfl
set_option linter.unusedVariables false
set_option maxRecDepth 100000
namespace Go.Proofs.Ytphjnagmlgmdfaa
open Go Go.Ev

/-- orchard/stamp.Check -/
def F25 (N : Nat) (s : GStamp) : Option (Bool) :=
 (some ((((decide (1 ≤ s.Time)) && (decide (s.Time ≤ 1099511627776))) && (decide (0 ≤ s.Site))) && (decide (s.Site < 8))))
def con25 : Con τ := { args := [.ty 23], L := [], ret := .ty 4, L' := [], R := Bool, dflt := default, F := fun N a b => F25 N a.1, of := fun r => (r, ()) }
noncomputable def dat25 : Dat τ := ⟨D0, tblOf [], lpsOf [], 0⟩
theorem ok25 : ConOk E C 25 con25 :=
  con_ok (D := dat25) ⟨d0Ok, eGood, tblOf_ok (l := []) trivial⟩ con25 (fun a b => a) (fun _ _ => rfl) 1000000 (fn := Try.f25) Try.func25 rfl (by kernel_rfl) (by kernel_rfl) rfl (by intro N a b; kernel_rfl)

/-- orchard/stamp.Of -/
def F10 (N : Nat) (node : Int) : Option (GStamp × Bool) :=
 (bif (decide (node < 16)) then
 (some ((⟨0, 0⟩ : GStamp), false))
 else
 ((F25 N (⟨(IntKind.i64.wrap (Int.tdiv (IntKind.i64.wrap (node - 16)) 8)), (Int.tmod (IntKind.i64.wrap (node - 16)) 8)⟩ : GStamp)).bind fun r1 =>
 (bif (!r1) then
 (some ((⟨0, 0⟩ : GStamp), false))
 else
 (some ((⟨(IntKind.i64.wrap (Int.tdiv (IntKind.i64.wrap (node - 16)) 8)), (Int.tmod (IntKind.i64.wrap (node - 16)) 8)⟩ : GStamp), true)))))
def con10 : Con τ := { args := [.ty 2], L := [], ret := .tup [.ty 23, .ty 4], L' := [], R := GStamp × Bool, dflt := (default, default), F := fun N a b => F10 N a.1, of := fun r => ((r.1, r.2, ()), ()) }
noncomputable def dat10 : Dat τ := ⟨D0, tblOf [(25, con25)], lpsOf [], 0⟩
theorem ok10 : ConOk E C 10 con10 :=
  con_ok (D := dat10) ⟨d0Ok, eGood, tblOf_ok (l := [(25, con25)]) ⟨ok25, trivial⟩⟩ con10 (fun a b => (a.1, a.2.1)) (fun _ _ => rfl) 1000000 (fn := Try.f10) Try.func10 rfl (by kernel_rfl) (by kernel_rfl) rfl (by intro N a b; kernel_rfl)

/-- orchard/orchardref11.Site -/
def F37 (N : Nat) (n : Int) : Option (Bool) :=
 (some ((decide (0 ≤ n)) && (decide (n < 8))))
def con37 : Con τ := { args := [.ty 3], L := [], ret := .ty 4, L' := [], R := Bool, dflt := default, F := fun N a b => F37 N a.1, of := fun r => (r, ()) }
noncomputable def dat37 : Dat τ := ⟨D0, tblOf [], lpsOf [], 0⟩
theorem ok37 : ConOk E C 37 con37 :=
  con_ok (D := dat37) ⟨d0Ok, eGood, tblOf_ok (l := []) trivial⟩ con37 (fun a b => a) (fun _ _ => rfl) 1000000 (fn := Try.f37) Try.func37 rfl (by kernel_rfl) (by kernel_rfl) rfl (by intro N a b; kernel_rfl)

/-- orchard/orchardref11.Check -/
def F26 (N : Nat) (s : GStamp) : Option (Bool) :=
 ((bif ((decide (1 ≤ s.Time)) && (decide (s.Time ≤ 1099511627776))) then F37 N s.Site else some default).bind fun r1 =>
 (some (((decide (1 ≤ s.Time)) && (decide (s.Time ≤ 1099511627776))) && r1)))
def con26 : Con τ := { args := [.ty 23], L := [], ret := .ty 4, L' := [], R := Bool, dflt := default, F := fun N a b => F26 N a.1, of := fun r => (r, ()) }
noncomputable def dat26 : Dat τ := ⟨D0, tblOf [(37, con37)], lpsOf [], 0⟩
theorem ok26 : ConOk E C 26 con26 :=
  con_ok (D := dat26) ⟨d0Ok, eGood, tblOf_ok (l := [(37, con37)]) ⟨ok37, trivial⟩⟩ con26 (fun a b => a) (fun _ _ => rfl) 1000000 (fn := Try.f26) Try.func26 rfl (by kernel_rfl) (by kernel_rfl) rfl (by intro N a b; kernel_rfl)

/-- orchard/orchardref11.Of -/
def F11 (N : Nat) (node : Int) : Option (GStamp × Bool) :=
 (bif (decide (node < 16)) then
 (some ((⟨0, 0⟩ : GStamp), false))
 else
 ((F26 N (⟨(IntKind.i64.wrap (Int.tdiv (IntKind.i64.wrap (node - 16)) 8)), (Int.tmod (IntKind.i64.wrap (node - 16)) 8)⟩ : GStamp)).bind fun r1 =>
 (bif (!r1) then
 (some ((⟨0, 0⟩ : GStamp), false))
 else
 (some ((⟨(IntKind.i64.wrap (Int.tdiv (IntKind.i64.wrap (node - 16)) 8)), (Int.tmod (IntKind.i64.wrap (node - 16)) 8)⟩ : GStamp), true)))))
def con11 : Con τ := { args := [.ty 2], L := [], ret := .tup [.ty 23, .ty 4], L' := [], R := GStamp × Bool, dflt := (default, default), F := fun N a b => F11 N a.1, of := fun r => ((r.1, r.2, ()), ()) }
noncomputable def dat11 : Dat τ := ⟨D0, tblOf [(26, con26)], lpsOf [], 0⟩
theorem ok11 : ConOk E C 11 con11 :=
  con_ok (D := dat11) ⟨d0Ok, eGood, tblOf_ok (l := [(26, con26)]) ⟨ok26, trivial⟩⟩ con11 (fun a b => (a.1, a.2.1)) (fun _ _ => rfl) 1000000 (fn := Try.f11) Try.func11 rfl (by kernel_rfl) (by kernel_rfl) rfl (by intro N a b; kernel_rfl)

/-- orchard/stamp.Node -/
def F13 (N : Nat) (s : GStamp) : Option (Int) :=
 ((F25 N s).bind fun r1 =>
 (bif (!r1) then
 (some 0)
 else
 (some (IntKind.i64.wrap ((IntKind.i64.wrap (16 + (IntKind.i64.wrap (s.Time * 8)))) + s.Site)))))
def con13 : Con τ := { args := [.ty 23], L := [], ret := .ty 2, L' := [], R := Int, dflt := default, F := fun N a b => F13 N a.1, of := fun r => (r, ()) }
noncomputable def dat13 : Dat τ := ⟨D0, tblOf [(25, con25)], lpsOf [], 0⟩
theorem ok13 : ConOk E C 13 con13 :=
  con_ok (D := dat13) ⟨d0Ok, eGood, tblOf_ok (l := [(25, con25)]) ⟨ok25, trivial⟩⟩ con13 (fun a b => a) (fun _ _ => rfl) 1000000 (fn := Try.f13) Try.func13 rfl (by kernel_rfl) (by kernel_rfl) rfl (by intro N a b; kernel_rfl)

/-- orchard/orchardlaw11.live -/
def F12 (N : Nat)  : Option (Bool) :=
 ((F10 N 24).bind fun r1 =>
 ((bif (r1.2 && ((r1.1.Time == 1) && (r1.1.Site == 0))) then F13 N r1.1 else some default).bind fun r2 =>
 ((bif ((r1.2 && ((r1.1.Time == 1) && (r1.1.Site == 0))) && (r2 == 24)) then F25 N r1.1 else some default).bind fun r3 =>
 (some (((r1.2 && ((r1.1.Time == 1) && (r1.1.Site == 0))) && (r2 == 24)) && r3)))))
def con12 : Con τ := { args := [], L := [], ret := .ty 4, L' := [], R := Bool, dflt := default, F := fun N a b => F12 N , of := fun r => (r, ()) }
noncomputable def dat12 : Dat τ := ⟨D0, tblOf [(10, con10), (13, con13), (25, con25)], lpsOf [], 0⟩
theorem ok12 : ConOk E C 12 con12 :=
  con_ok (D := dat12) ⟨d0Ok, eGood, tblOf_ok (l := [(10, con10), (13, con13), (25, con25)]) ⟨ok10, ⟨ok13, ⟨ok25, trivial⟩⟩⟩⟩ con12 (fun a b => a) (fun _ _ => rfl) 1000000 (fn := Try.f12) Try.func12 rfl (by kernel_rfl) (by kernel_rfl) rfl (by intro N a b; kernel_rfl)

/-- orchard/orchardref11.Node -/
def F14 (N : Nat) (s : GStamp) : Option (Int) :=
 ((F26 N s).bind fun r1 =>
 (bif (!r1) then
 (some 0)
 else
 (some (IntKind.i64.wrap ((IntKind.i64.wrap (16 + (IntKind.i64.wrap (s.Time * 8)))) + s.Site)))))
def con14 : Con τ := { args := [.ty 23], L := [], ret := .ty 2, L' := [], R := Int, dflt := default, F := fun N a b => F14 N a.1, of := fun r => (r, ()) }
noncomputable def dat14 : Dat τ := ⟨D0, tblOf [(26, con26)], lpsOf [], 0⟩
theorem ok14 : ConOk E C 14 con14 :=
  con_ok (D := dat14) ⟨d0Ok, eGood, tblOf_ok (l := [(26, con26)]) ⟨ok26, trivial⟩⟩ con14 (fun a b => a) (fun _ _ => rfl) 1000000 (fn := Try.f14) Try.func14 rfl (by kernel_rfl) (by kernel_rfl) rfl (by intro N a b; kernel_rfl)

/-- orchard/orchardlaw11.StampNodes -/
def F3 (N : Nat) (s : GStamp) (node : Int) : Option (Bool) :=
 ((F10 N node).bind fun r1 =>
 ((F11 N node).bind fun r2 =>
 ((F12 N).bind fun r3 =>
 ((bif r3 then F13 N s else some default).bind fun r4 =>
 ((bif r3 then F14 N s else some default).bind fun r5 =>
 (some (((r3 && (r4 == r5)) && ((r1.1.Time == r2.1.Time) && (r1.1.Site == r2.1.Site))) && (r1.2 == r2.2))))))))
def con3 : Con τ := { args := [.ty 23, .ty 2], L := [], ret := .ty 4, L' := [], R := Bool, dflt := default, F := fun N a b => F3 N a.1 a.2.1, of := fun r => (r, ()) }
noncomputable def dat3 : Dat τ := ⟨D0, tblOf [(10, con10), (11, con11), (12, con12), (13, con13), (14, con14)], lpsOf [], 0⟩
theorem ok3 : ConOk E C 3 con3 :=
  con_ok (D := dat3) ⟨d0Ok, eGood, tblOf_ok (l := [(10, con10), (11, con11), (12, con12), (13, con13), (14, con14)]) ⟨ok10, ⟨ok11, ⟨ok12, ⟨ok13, ⟨ok14, trivial⟩⟩⟩⟩⟩⟩ con3 (fun a b => a) (fun _ _ => rfl) 1000000 (fn := Try.f3) Try.func3 rfl (by kernel_rfl) (by kernel_rfl) rfl (by intro N a b; kernel_rfl)

/-- orchard/stamp.Join$1 -/
def F34 (N : Nat) (a : Int) (b : Int) : Option (Int) :=
 (some (bif decide (a < b) then b else a))
def con34 : Con τ := { args := [.ty 2, .ty 2], L := [], ret := .ty 2, L' := [], R := Int, dflt := default, F := fun N a b => F34 N a.1 a.2.1, of := fun r => (r, ()) }
noncomputable def dat34 : Dat τ := ⟨D0, tblOf [], lpsOf [], 0⟩
theorem ok34 : ConOk E C 34 con34 :=
  con_ok (D := dat34) ⟨d0Ok, eGood, tblOf_ok (l := []) trivial⟩ con34 (fun a b => a) (fun _ _ => rfl) 1000000 (fn := Try.f34) Try.func34 rfl (by kernel_rfl) (by kernel_rfl) rfl (by intro N a b; kernel_rfl)

structure S33x3 where
  t11 : Int
  b1 : Vector (Int) 8
def ts33x3 : List Sl := [.keep, .keep, .keep, .keep, .keep, .keep, .junk, .junk, .junk, .keep, .keep, .sh (.ty 2), .junk, .junk, .junk, .junk, .junk, .junk, .junk, .junk, .junk, .junk, .junk, .junk, .junk, .junk, .junk, .junk, .junk, .junk, .junk, .junk, .junk, .junk, .keep]
def hs33x3 : List ESh := [.keep, .box (.ty 30)]
def to33x3 (a : Sl.Ts τ ts33x3) (b : ESh.Ts τ hs33x3) : S33x3 := ⟨a.2.2.2.2.2.2.2.2.2.2.2.1, b.2.1⟩
def ot33x3 (s : S33x3) : Sl.Ts τ ts33x3 := ((), (), (), (), (), (), (), (), (), (), (), s.t11, (), (), (), (), (), (), (), (), (), (), (), (), (), (), (), (), (), (), (), (), (), (), (), ())
def oh33x3 (s : S33x3) : ESh.Ts τ hs33x3 := ((), s.b1, ())
def lp33x3 : Lp τ := { ts := ts33x3, hs := hs33x3, S := S33x3, to := to33x3, ot := ot33x3, oh := oh33x3, ot_to := fun _ _ => rfl, oh_to := fun _ _ => rfl }
structure S33x8 where
  t19 : Int
  b1 : Vector (Int) 8
def ts33x8 : List Sl := [.keep, .keep, .keep, .keep, .keep, .keep, .keep, .keep, .junk, .keep, .keep, .keep, .keep, .keep, .keep, .keep, .keep, .keep, .keep, .sh (.ty 2), .junk, .junk, .junk, .junk, .junk, .junk, .junk, .junk, .junk, .junk, .junk, .junk, .junk, .keep, .keep]
def hs33x8 : List ESh := [.keep, .box (.ty 30), .keep]
def to33x8 (a : Sl.Ts τ ts33x8) (b : ESh.Ts τ hs33x8) : S33x8 := ⟨a.2.2.2.2.2.2.2.2.2.2.2.2.2.2.2.2.2.2.2.1, b.2.1⟩
def ot33x8 (s : S33x8) : Sl.Ts τ ts33x8 := ((), (), (), (), (), (), (), (), (), (), (), (), (), (), (), (), (), (), (), s.t19, (), (), (), (), (), (), (), (), (), (), (), (), (), (), (), ())
def oh33x8 (s : S33x8) : ESh.Ts τ hs33x8 := ((), s.b1, (), ())
def lp33x8 : Lp τ := { ts := ts33x8, hs := hs33x8, S := S33x8, to := to33x8, ot := ot33x8, oh := oh33x8, ot_to := fun _ _ => rfl, oh_to := fun _ _ => rfl }
/-- orchard/stamp.fold -/
def F33 (N : Nat) (l : List (Vector (Int) 8)) : Option ((Vector (Int) 8)) :=
 (iter N (fun (s1 : S33x3) next2 =>
 (bif (decide (s1.t11 < ((l).length : Int))) then
 (bif (ibB s1.t11 ((l).length : Int)) then
 (bif (s1.t11 == 0) then
 (iter N (fun (s3 : S33x8) next4 =>
 (bif (decide (s3.t19 < 8)) then
 (bif (ibB s3.t19 8) then
 (bif (ibB s3.t19 8) then
 ((F34 N (vget s3.b1 ((s3.t19).toNat) default) (vget (lget l s1.t11 default) ((s3.t19).toNat) default)).bind fun r5 =>
 (bif (ibB s3.t19 8) then
 (next4 ⟨(IntKind.i64.wrap (s3.t19 + 1)), (vset s3.b1 ((s3.t19).toNat) r5)⟩)
 else none))
 else none)
 else none)
 else
 (next2 ⟨(IntKind.i64.wrap (s1.t11 + 1)), s3.b1⟩))) ⟨0, (lget l s1.t11 default)⟩)
 else
 (iter N (fun (s6 : S33x8) next7 =>
 (bif (decide (s6.t19 < 8)) then
 (bif (ibB s6.t19 8) then
 (bif (ibB s6.t19 8) then
 ((F34 N (vget s6.b1 ((s6.t19).toNat) default) (vget (lget l s1.t11 default) ((s6.t19).toNat) default)).bind fun r8 =>
 (bif (ibB s6.t19 8) then
 (next7 ⟨(IntKind.i64.wrap (s6.t19 + 1)), (vset s6.b1 ((s6.t19).toNat) r8)⟩)
 else none))
 else none)
 else none)
 else
 (next2 ⟨(IntKind.i64.wrap (s1.t11 + 1)), s6.b1⟩))) ⟨0, s1.b1⟩))
 else none)
 else
 (some s1.b1))) ⟨0, (Vector.replicate 8 (default : Int))⟩)
def con33 : Con τ := { args := [.fn 34, .ty 29], L := [], ret := .ty 31, L' := [], R := (Vector (Int) 8), dflt := default, F := fun N a b => F33 N a.2.1, of := fun r => (r, ()) }
noncomputable def dat33 : Dat τ := ⟨D0, tblOf [(34, con34)], lpsOf [(3, lp33x3), (8, lp33x8)], 0⟩
theorem ok33 : ConOk E C 33 con33 :=
  con_ok (D := dat33) ⟨d0Ok, eGood, tblOf_ok (l := [(34, con34)]) ⟨ok34, trivial⟩⟩ con33 (fun a b => a) (fun _ _ => rfl) 1000000 (fn := Try.f33) Try.func33 rfl (by kernel_rfl) (by kernel_rfl) rfl (by intro N a b; kernel_rfl)

/-- orchard/stamp.Join -/
def F15 (N : Nat) (l : List (Vector (Int) 8)) : Option ((Vector (Int) 8)) :=
 ((F33 N l).bind fun r1 =>
 (some r1))
def con15 : Con τ := { args := [.ty 29], L := [], ret := .ty 31, L' := [], R := (Vector (Int) 8), dflt := default, F := fun N a b => F15 N a.1, of := fun r => (r, ()) }
noncomputable def dat15 : Dat τ := ⟨D0, tblOf [(33, con33)], lpsOf [], 0⟩
theorem ok15 : ConOk E C 15 con15 :=
  con_ok (D := dat15) ⟨d0Ok, eGood, tblOf_ok (l := [(33, con33)]) ⟨ok33, trivial⟩⟩ con15 (fun a b => a) (fun _ _ => rfl) 1000000 (fn := Try.f15) Try.func15 rfl (by kernel_rfl) (by kernel_rfl) rfl (by intro N a b; kernel_rfl)

/-- orchard/stamp.Meet$1 -/
def F35 (N : Nat) (a : Int) (b : Int) : Option (Int) :=
 (some (bif decide (b < a) then b else a))
def con35 : Con τ := { args := [.ty 2, .ty 2], L := [], ret := .ty 2, L' := [], R := Int, dflt := default, F := fun N a b => F35 N a.1 a.2.1, of := fun r => (r, ()) }
noncomputable def dat35 : Dat τ := ⟨D0, tblOf [], lpsOf [], 0⟩
theorem ok35 : ConOk E C 35 con35 :=
  con_ok (D := dat35) ⟨d0Ok, eGood, tblOf_ok (l := []) trivial⟩ con35 (fun a b => a) (fun _ _ => rfl) 1000000 (fn := Try.f35) Try.func35 rfl (by kernel_rfl) (by kernel_rfl) rfl (by intro N a b; kernel_rfl)

structure S33i1x3 where
  t11 : Int
  b1 : Vector (Int) 8
def ts33i1x3 : List Sl := [.keep, .keep, .keep, .keep, .keep, .keep, .junk, .junk, .junk, .keep, .keep, .sh (.ty 2), .junk, .junk, .junk, .junk, .junk, .junk, .junk, .junk, .junk, .junk, .junk, .junk, .junk, .junk, .junk, .junk, .junk, .junk, .junk, .junk, .junk, .junk, .keep]
def hs33i1x3 : List ESh := [.keep, .box (.ty 30)]
def to33i1x3 (a : Sl.Ts τ ts33i1x3) (b : ESh.Ts τ hs33i1x3) : S33i1x3 := ⟨a.2.2.2.2.2.2.2.2.2.2.2.1, b.2.1⟩
def ot33i1x3 (s : S33i1x3) : Sl.Ts τ ts33i1x3 := ((), (), (), (), (), (), (), (), (), (), (), s.t11, (), (), (), (), (), (), (), (), (), (), (), (), (), (), (), (), (), (), (), (), (), (), (), ())
def oh33i1x3 (s : S33i1x3) : ESh.Ts τ hs33i1x3 := ((), s.b1, ())
def lp33i1x3 : Lp τ := { ts := ts33i1x3, hs := hs33i1x3, S := S33i1x3, to := to33i1x3, ot := ot33i1x3, oh := oh33i1x3, ot_to := fun _ _ => rfl, oh_to := fun _ _ => rfl }
structure S33i1x8 where
  t19 : Int
  b1 : Vector (Int) 8
def ts33i1x8 : List Sl := [.keep, .keep, .keep, .keep, .keep, .keep, .keep, .keep, .junk, .keep, .keep, .keep, .keep, .keep, .keep, .keep, .keep, .keep, .keep, .sh (.ty 2), .junk, .junk, .junk, .junk, .junk, .junk, .junk, .junk, .junk, .junk, .junk, .junk, .junk, .keep, .keep]
def hs33i1x8 : List ESh := [.keep, .box (.ty 30), .keep]
def to33i1x8 (a : Sl.Ts τ ts33i1x8) (b : ESh.Ts τ hs33i1x8) : S33i1x8 := ⟨a.2.2.2.2.2.2.2.2.2.2.2.2.2.2.2.2.2.2.2.1, b.2.1⟩
def ot33i1x8 (s : S33i1x8) : Sl.Ts τ ts33i1x8 := ((), (), (), (), (), (), (), (), (), (), (), (), (), (), (), (), (), (), (), s.t19, (), (), (), (), (), (), (), (), (), (), (), (), (), (), (), ())
def oh33i1x8 (s : S33i1x8) : ESh.Ts τ hs33i1x8 := ((), s.b1, (), ())
def lp33i1x8 : Lp τ := { ts := ts33i1x8, hs := hs33i1x8, S := S33i1x8, to := to33i1x8, ot := ot33i1x8, oh := oh33i1x8, ot_to := fun _ _ => rfl, oh_to := fun _ _ => rfl }
/-- orchard/stamp.fold -/
def F33i1 (N : Nat) (l : List (Vector (Int) 8)) : Option ((Vector (Int) 8)) :=
 (iter N (fun (s1 : S33i1x3) next2 =>
 (bif (decide (s1.t11 < ((l).length : Int))) then
 (bif (ibB s1.t11 ((l).length : Int)) then
 (bif (s1.t11 == 0) then
 (iter N (fun (s3 : S33i1x8) next4 =>
 (bif (decide (s3.t19 < 8)) then
 (bif (ibB s3.t19 8) then
 (bif (ibB s3.t19 8) then
 ((F35 N (vget s3.b1 ((s3.t19).toNat) default) (vget (lget l s1.t11 default) ((s3.t19).toNat) default)).bind fun r5 =>
 (bif (ibB s3.t19 8) then
 (next4 ⟨(IntKind.i64.wrap (s3.t19 + 1)), (vset s3.b1 ((s3.t19).toNat) r5)⟩)
 else none))
 else none)
 else none)
 else
 (next2 ⟨(IntKind.i64.wrap (s1.t11 + 1)), s3.b1⟩))) ⟨0, (lget l s1.t11 default)⟩)
 else
 (iter N (fun (s6 : S33i1x8) next7 =>
 (bif (decide (s6.t19 < 8)) then
 (bif (ibB s6.t19 8) then
 (bif (ibB s6.t19 8) then
 ((F35 N (vget s6.b1 ((s6.t19).toNat) default) (vget (lget l s1.t11 default) ((s6.t19).toNat) default)).bind fun r8 =>
 (bif (ibB s6.t19 8) then
 (next7 ⟨(IntKind.i64.wrap (s6.t19 + 1)), (vset s6.b1 ((s6.t19).toNat) r8)⟩)
 else none))
 else none)
 else none)
 else
 (next2 ⟨(IntKind.i64.wrap (s1.t11 + 1)), s6.b1⟩))) ⟨0, s1.b1⟩))
 else none)
 else
 (some s1.b1))) ⟨0, (Vector.replicate 8 (default : Int))⟩)
def con33i1 : Con τ := { args := [.fn 35, .ty 29], L := [], ret := .ty 31, L' := [], R := (Vector (Int) 8), dflt := default, F := fun N a b => F33i1 N a.2.1, of := fun r => (r, ()) }
noncomputable def dat33i1 : Dat τ := ⟨D0, tblOf [(35, con35)], lpsOf [(3, lp33i1x3), (8, lp33i1x8)], 0⟩
theorem ok33i1 : ConOk E C 33 con33i1 :=
  con_ok (D := dat33i1) ⟨d0Ok, eGood, tblOf_ok (l := [(35, con35)]) ⟨ok35, trivial⟩⟩ con33i1 (fun a b => a) (fun _ _ => rfl) 1000000 (fn := Try.f33) Try.func33 rfl (by kernel_rfl) (by kernel_rfl) rfl (by intro N a b; kernel_rfl)

/-- orchard/stamp.Meet -/
def F16 (N : Nat) (l : List (Vector (Int) 8)) : Option ((Vector (Int) 8)) :=
 ((F33i1 N l).bind fun r1 =>
 (some r1))
def con16 : Con τ := { args := [.ty 29], L := [], ret := .ty 31, L' := [], R := (Vector (Int) 8), dflt := default, F := fun N a b => F16 N a.1, of := fun r => (r, ()) }
noncomputable def dat16 : Dat τ := ⟨D0, tblOf [(33, con33i1)], lpsOf [], 0⟩
theorem ok16 : ConOk E C 16 con16 :=
  con_ok (D := dat16) ⟨d0Ok, eGood, tblOf_ok (l := [(33, con33i1)]) ⟨ok33i1, trivial⟩⟩ con16 (fun a b => a) (fun _ _ => rfl) 1000000 (fn := Try.f16) Try.func16 rfl (by kernel_rfl) (by kernel_rfl) rfl (by intro N a b; kernel_rfl)

/-- orchard/stamp.Above -/
def F17 (N : Nat) (a : Vector (Int) 8) (b : Vector (Int) 8) : Option (Bool) :=
 ((F15 N [a, b]).bind fun r1 =>
 (some (vbeq beq2 r1 a)))
def con17 : Con τ := { args := [.ty 31, .ty 31], L := [], ret := .ty 4, L' := [], R := Bool, dflt := default, F := fun N a b => F17 N a.1 a.2.1, of := fun r => (r, ()) }
noncomputable def dat17 : Dat τ := ⟨D0, tblOf [(15, con15)], lpsOf [], 0⟩
theorem ok17 : ConOk E C 17 con17 :=
  con_ok (D := dat17) ⟨d0Ok, eGood, tblOf_ok (l := [(15, con15)]) ⟨ok15, trivial⟩⟩ con17 (fun a b => a) (fun _ _ => rfl) 1000000 (fn := Try.f17) Try.func17 rfl (by kernel_rfl) (by kernel_rfl) rfl (by intro N a b; kernel_rfl)

structure S4x7 where
  t40 : Int
def ts4x7 : List Sl := [.keep, .keep, .keep, .keep, .junk, .keep, .keep, .keep, .keep, .junk, .junk, .junk, .keep, .junk, .keep, .keep, .keep, .keep, .junk, .junk, .keep, .keep, .keep, .keep, .keep, .keep, .keep, .keep, .keep, .keep, .keep, .keep, .keep, .keep, .keep, .keep, .keep, .keep, .keep, .keep, .sh (.ty 2), .junk, .junk, .junk, .junk, .junk, .junk, .junk, .junk, .junk, .junk, .junk, .junk, .junk, .junk, .junk, .junk, .junk, .junk, .junk, .junk, .junk, .junk, .junk, .junk, .junk, .junk, .junk, .junk, .junk, .junk, .junk, .junk, .junk, .junk, .junk, .junk, .junk, .junk, .junk, .junk, .junk, .junk, .junk, .junk, .junk, .junk, .keep, .keep, .keep, .keep, .keep, .keep, .keep, .keep, .keep, .keep]
def hs4x7 : List ESh := [.keep, .keep, .keep, .keep]
def to4x7 (a : Sl.Ts τ ts4x7) (b : ESh.Ts τ hs4x7) : S4x7 := ⟨a.2.2.2.2.2.2.2.2.2.2.2.2.2.2.2.2.2.2.2.2.2.2.2.2.2.2.2.2.2.2.2.2.2.2.2.2.2.2.2.2.1⟩
def ot4x7 (s : S4x7) : Sl.Ts τ ts4x7 := ((), (), (), (), (), (), (), (), (), (), (), (), (), (), (), (), (), (), (), (), (), (), (), (), (), (), (), (), (), (), (), (), (), (), (), (), (), (), (), (), s.t40, (), (), (), (), (), (), (), (), (), (), (), (), (), (), (), (), (), (), (), (), (), (), (), (), (), (), (), (), (), (), (), (), (), (), (), (), (), (), (), (), (), (), (), (), (), (), (), (), (), (), (), (), (), (), (), (), ())
def oh4x7 (s : S4x7) : ESh.Ts τ hs4x7 := ((), (), (), (), ())
def lp4x7 : Lp τ := { ts := ts4x7, hs := hs4x7, S := S4x7, to := to4x7, ot := ot4x7, oh := oh4x7, ot_to := fun _ _ => rfl, oh_to := fun _ _ => rfl }
structure S4x11 where
  least : Bool
  most : Bool
  t45 : Int
def ts4x11 : List Sl := [.keep, .keep, .keep, .keep, .junk, .keep, .keep, .keep, .keep, .keep, .sh (.ty 4), .sh (.ty 4), .keep, .junk, .keep, .keep, .keep, .keep, .keep, .keep, .keep, .keep, .keep, .keep, .keep, .keep, .keep, .keep, .keep, .keep, .keep, .keep, .keep, .keep, .keep, .keep, .keep, .keep, .keep, .keep, .keep, .keep, .keep, .keep, .keep, .sh (.ty 2), .junk, .junk, .junk, .junk, .junk, .junk, .junk, .junk, .junk, .junk, .junk, .junk, .junk, .junk, .junk, .junk, .junk, .junk, .junk, .junk, .junk, .junk, .junk, .junk, .junk, .junk, .junk, .junk, .junk, .junk, .junk, .junk, .junk, .junk, .keep, .keep, .keep, .keep, .keep, .keep, .keep, .keep, .keep, .keep, .keep, .keep, .keep, .keep, .keep, .keep, .keep]
def hs4x11 : List ESh := [.keep, .keep, .keep, .keep]
def to4x11 (a : Sl.Ts τ ts4x11) (b : ESh.Ts τ hs4x11) : S4x11 := ⟨a.2.2.2.2.2.2.2.2.2.2.1, a.2.2.2.2.2.2.2.2.2.2.2.1, a.2.2.2.2.2.2.2.2.2.2.2.2.2.2.2.2.2.2.2.2.2.2.2.2.2.2.2.2.2.2.2.2.2.2.2.2.2.2.2.2.2.2.2.2.2.1⟩
def ot4x11 (s : S4x11) : Sl.Ts τ ts4x11 := ((), (), (), (), (), (), (), (), (), (), s.least, s.most, (), (), (), (), (), (), (), (), (), (), (), (), (), (), (), (), (), (), (), (), (), (), (), (), (), (), (), (), (), (), (), (), (), s.t45, (), (), (), (), (), (), (), (), (), (), (), (), (), (), (), (), (), (), (), (), (), (), (), (), (), (), (), (), (), (), (), (), (), (), (), (), (), (), (), (), (), (), (), (), (), (), (), (), (), (), (), ())
def oh4x11 (s : S4x11) : ESh.Ts τ hs4x11 := ((), (), (), (), ())
def lp4x11 : Lp τ := { ts := ts4x11, hs := hs4x11, S := S4x11, to := to4x11, ot := ot4x11, oh := oh4x11, ot_to := fun _ _ => rfl, oh_to := fun _ _ => rfl }
/-- orchard/orchardlaw11.StampJoins -/
def F4 (N : Nat) (l : List (Vector (Int) 8)) (k : Int) : Option (Bool) :=
 ((bif (!(((l).length : Int) == 0)) then F12 N else some default).bind fun r1 =>
 (bif ((((l).length : Int) == 0) || (!r1)) then
 ((F12 N).bind fun r2 =>
 (some r2))
 else
 (bif (!(((l).length : Int) == 0)) then
 (bif (cutB (Int.tmod (IntKind.i64.wrap k) ((l).length : Int)) ((l).length : Int) ((l).length : Int)) then
 (bif (lenB (0 + ((cut l (Int.tmod (IntKind.i64.wrap k) ((l).length : Int)) ((l).length : Int))).length) 64) then
 (bif (cutB 0 (Int.tmod (IntKind.i64.wrap k) ((l).length : Int)) ((l).length : Int)) then
 (bif (lenB ((([] ++ (cut l (Int.tmod (IntKind.i64.wrap k) ((l).length : Int)) ((l).length : Int)))).length + ((cut l 0 (Int.tmod (IntKind.i64.wrap k) ((l).length : Int)))).length) 64) then
 ((F15 N l).bind fun r3 =>
 ((F16 N l).bind fun r4 =>
 (iter N (fun (s5 : S4x7) next6 =>
 (bif (decide (s5.t40 < 8)) then
 (iter N (fun (s7 : S4x11) next8 =>
 (bif (decide (s7.t45 < ((l).length : Int))) then
 (bif (ibB s7.t45 ((l).length : Int)) then
 ((F17 N r3 (lget l s7.t45 default)).bind fun r9 =>
 ((bif (!(!r9)) then F17 N (lget l s7.t45 default) r4 else some default).bind fun r10 =>
 (bif ((!r9) || (!r10)) then
 (some false)
 else
 (bif (!(!s7.most) || (ibB s5.t40 8)) then
 (bif (!(!s7.most) || (ibB s5.t40 8)) then
 (bif (!(!s7.least) || (ibB s5.t40 8)) then
 (bif (!(!s7.least) || (ibB s5.t40 8)) then
 (next8 ⟨(s7.least || ((vget (lget l s7.t45 default) ((s5.t40).toNat) default) == (vget r4 ((s5.t40).toNat) default))), (s7.most || ((vget (lget l s7.t45 default) ((s5.t40).toNat) default) == (vget r3 ((s5.t40).toNat) default))), (IntKind.i64.wrap (s7.t45 + 1))⟩)
 else none)
 else none)
 else none)
 else none))))
 else none)
 else
 (bif ((!s7.least) || (!s7.most)) then
 (some false)
 else
 (next6 ⟨(IntKind.i64.wrap (s5.t40 + 1))⟩)))) ⟨false, false, 0⟩)
 else
 ((F15 N (([] ++ (cut l (Int.tmod (IntKind.i64.wrap k) ((l).length : Int)) ((l).length : Int))) ++ (cut l 0 (Int.tmod (IntKind.i64.wrap k) ((l).length : Int))))).bind fun r11 =>
 ((bif (vbeq beq2 r11 r3) then F16 N (([] ++ (cut l (Int.tmod (IntKind.i64.wrap k) ((l).length : Int)) ((l).length : Int))) ++ (cut l 0 (Int.tmod (IntKind.i64.wrap k) ((l).length : Int)))) else some default).bind fun r12 =>
 (some ((vbeq beq2 r11 r3) && (vbeq beq2 r12 r4))))))) ⟨0⟩)))
 else none)
 else none)
 else none)
 else none)
 else none)))
def con4 : Con τ := { args := [.ty 29, .ty 5], L := [], ret := .ty 4, L' := [], R := Bool, dflt := default, F := fun N a b => F4 N a.1 a.2.1, of := fun r => (r, ()) }
noncomputable def dat4 : Dat τ := ⟨D0, tblOf [(12, con12), (15, con15), (16, con16), (17, con17)], lpsOf [(7, lp4x7), (11, lp4x11)], 0⟩
theorem ok4 : ConOk E C 4 con4 :=
  con_ok (D := dat4) ⟨d0Ok, eGood, tblOf_ok (l := [(12, con12), (15, con15), (16, con16), (17, con17)]) ⟨ok12, ⟨ok15, ⟨ok16, ⟨ok17, trivial⟩⟩⟩⟩⟩ con4 (fun a b => a) (fun _ _ => rfl) 1000000 (fn := Try.f4) Try.func4 rfl (by kernel_rfl) (by kernel_rfl) rfl (by intro N a b; kernel_rfl)

/-- orchard/orchardlaw11.StampLattice -/
def F5 (N : Nat) (a : Vector (Int) 8) (b : Vector (Int) 8) (c : Vector (Int) 8) : Option (Bool) :=
 ((F15 N [a, b]).bind fun r1 =>
 ((F16 N [a, b]).bind fun r2 =>
 ((F12 N).bind fun r3 =>
 ((bif r3 then F15 N [a, r2] else some default).bind fun r4 =>
 ((bif (r3 && (vbeq beq2 r4 a)) then F16 N [a, r1] else some default).bind fun r5 =>
 ((bif ((r3 && (vbeq beq2 r4 a)) && (vbeq beq2 r5 a)) then F15 N [a, a] else some default).bind fun r6 =>
 ((bif (((r3 && (vbeq beq2 r4 a)) && (vbeq beq2 r5 a)) && (vbeq beq2 r6 a)) then F15 N [a, b, c] else some default).bind fun r7 =>
 ((bif (((r3 && (vbeq beq2 r4 a)) && (vbeq beq2 r5 a)) && (vbeq beq2 r6 a)) then F15 N [b, c] else some default).bind fun r8 =>
 ((bif (((r3 && (vbeq beq2 r4 a)) && (vbeq beq2 r5 a)) && (vbeq beq2 r6 a)) then F15 N [a, r8] else some default).bind fun r9 =>
 ((bif ((((r3 && (vbeq beq2 r4 a)) && (vbeq beq2 r5 a)) && (vbeq beq2 r6 a)) && (vbeq beq2 r7 r9)) then F15 N [b, c] else some default).bind fun r10 =>
 ((bif ((((r3 && (vbeq beq2 r4 a)) && (vbeq beq2 r5 a)) && (vbeq beq2 r6 a)) && (vbeq beq2 r7 r9)) then F16 N [a, r10] else some default).bind fun r11 =>
 ((bif ((((r3 && (vbeq beq2 r4 a)) && (vbeq beq2 r5 a)) && (vbeq beq2 r6 a)) && (vbeq beq2 r7 r9)) then F16 N [a, c] else some default).bind fun r12 =>
 ((bif ((((r3 && (vbeq beq2 r4 a)) && (vbeq beq2 r5 a)) && (vbeq beq2 r6 a)) && (vbeq beq2 r7 r9)) then F15 N [r2, r12] else some default).bind fun r13 =>
 ((bif (((((r3 && (vbeq beq2 r4 a)) && (vbeq beq2 r5 a)) && (vbeq beq2 r6 a)) && (vbeq beq2 r7 r9)) && (vbeq beq2 r11 r13)) then F17 N a b else some default).bind fun r14 =>
 ((bif ((((((r3 && (vbeq beq2 r4 a)) && (vbeq beq2 r5 a)) && (vbeq beq2 r6 a)) && (vbeq beq2 r7 r9)) && (vbeq beq2 r11 r13)) && (r14 == (vbeq beq2 r1 a))) then F17 N a b else some default).bind fun r15 =>
 (some (((((((r3 && (vbeq beq2 r4 a)) && (vbeq beq2 r5 a)) && (vbeq beq2 r6 a)) && (vbeq beq2 r7 r9)) && (vbeq beq2 r11 r13)) && (r14 == (vbeq beq2 r1 a))) && (r15 == (vbeq beq2 r2 b)))))))))))))))))))
def con5 : Con τ := { args := [.ty 31, .ty 31, .ty 31], L := [], ret := .ty 4, L' := [], R := Bool, dflt := default, F := fun N a b => F5 N a.1 a.2.1 a.2.2.1, of := fun r => (r, ()) }
noncomputable def dat5 : Dat τ := ⟨D0, tblOf [(15, con15), (16, con16), (12, con12), (17, con17)], lpsOf [], 0⟩
theorem ok5 : ConOk E C 5 con5 :=
  con_ok (D := dat5) ⟨d0Ok, eGood, tblOf_ok (l := [(15, con15), (16, con16), (12, con12), (17, con17)]) ⟨ok15, ⟨ok16, ⟨ok12, ⟨ok17, trivial⟩⟩⟩⟩⟩ con5 (fun a b => a) (fun _ _ => rfl) 1000000 (fn := Try.f5) Try.func5 rfl (by kernel_rfl) (by kernel_rfl) rfl (by intro N a b; kernel_rfl)

structure S18x2 where
  t6 : Int
def ts18x2 : List Sl := [.keep, .keep, .junk, .keep, .junk, .keep, .sh (.ty 2), .junk, .junk, .junk, .junk, .junk, .junk, .junk, .junk, .junk]
def hs18x2 : List ESh := [.keep]
def to18x2 (a : Sl.Ts τ ts18x2) (b : ESh.Ts τ hs18x2) : S18x2 := ⟨a.2.2.2.2.2.2.1⟩
def ot18x2 (s : S18x2) : Sl.Ts τ ts18x2 := ((), (), (), (), (), (), s.t6, (), (), (), (), (), (), (), (), (), ())
def oh18x2 (s : S18x2) : ESh.Ts τ hs18x2 := ((), ())
def lp18x2 : Lp τ := { ts := ts18x2, hs := hs18x2, S := S18x2, to := to18x2, ot := ot18x2, oh := oh18x2, ot_to := fun _ _ => rfl, oh_to := fun _ _ => rfl }
/-- orchard/stamp.CheckVector -/
def F18 (N : Nat) (v : Vector (Int) 8) : Option (Bool) :=
 (iter N (fun (s1 : S18x2) next2 =>
 (bif (decide (s1.t6 < 8)) then
 (bif (ibB s1.t6 8) then
 (bif ((decide ((vget v ((s1.t6).toNat) default) < 0)) || (decide (1099511627776 < (vget v ((s1.t6).toNat) default)))) then
 (some false)
 else
 (next2 ⟨(IntKind.i64.wrap (s1.t6 + 1))⟩))
 else none)
 else
 (some true))) ⟨0⟩)
def con18 : Con τ := { args := [.ty 31], L := [], ret := .ty 4, L' := [], R := Bool, dflt := default, F := fun N a b => F18 N a.1, of := fun r => (r, ()) }
noncomputable def dat18 : Dat τ := ⟨D0, tblOf [], lpsOf [(2, lp18x2)], 0⟩
theorem ok18 : ConOk E C 18 con18 :=
  con_ok (D := dat18) ⟨d0Ok, eGood, tblOf_ok (l := []) trivial⟩ con18 (fun a b => a) (fun _ _ => rfl) 1000000 (fn := Try.f18) Try.func18 rfl (by kernel_rfl) (by kernel_rfl) rfl (by intro N a b; kernel_rfl)

/-- orchard/orchardref11.Count -/
def F36 (N : Nat) (n : Int) : Option (Bool) :=
 (some ((decide (0 ≤ n)) && (decide (n ≤ 1099511627776))))
def con36 : Con τ := { args := [.ty 2], L := [], ret := .ty 4, L' := [], R := Bool, dflt := default, F := fun N a b => F36 N a.1, of := fun r => (r, ()) }
noncomputable def dat36 : Dat τ := ⟨D0, tblOf [], lpsOf [], 0⟩
theorem ok36 : ConOk E C 36 con36 :=
  con_ok (D := dat36) ⟨d0Ok, eGood, tblOf_ok (l := []) trivial⟩ con36 (fun a b => a) (fun _ _ => rfl) 1000000 (fn := Try.f36) Try.func36 rfl (by kernel_rfl) (by kernel_rfl) rfl (by intro N a b; kernel_rfl)

structure S19x2 where
  i : Int
def ts19x2 : List Sl := [.keep, .keep, .junk, .sh (.ty 2), .junk, .junk, .junk, .junk, .junk, .junk, .junk, .junk, .junk]
def hs19x2 : List ESh := [.keep]
def to19x2 (a : Sl.Ts τ ts19x2) (b : ESh.Ts τ hs19x2) : S19x2 := ⟨a.2.2.2.1⟩
def ot19x2 (s : S19x2) : Sl.Ts τ ts19x2 := ((), (), (), s.i, (), (), (), (), (), (), (), (), (), ())
def oh19x2 (s : S19x2) : ESh.Ts τ hs19x2 := ((), ())
def lp19x2 : Lp τ := { ts := ts19x2, hs := hs19x2, S := S19x2, to := to19x2, ot := ot19x2, oh := oh19x2, ot_to := fun _ _ => rfl, oh_to := fun _ _ => rfl }
/-- orchard/orchardref11.CheckVector -/
def F19 (N : Nat) (v : Vector (Int) 8) : Option (Bool) :=
 (iter N (fun (s1 : S19x2) next2 =>
 (bif (decide (s1.i < 8)) then
 (bif (ibB s1.i 8) then
 ((F36 N (vget v ((s1.i).toNat) default)).bind fun r3 =>
 (bif (!r3) then
 (some false)
 else
 (next2 ⟨(IntKind.i64.wrap (s1.i + 1))⟩)))
 else none)
 else
 (some true))) ⟨0⟩)
def con19 : Con τ := { args := [.ty 31], L := [], ret := .ty 4, L' := [], R := Bool, dflt := default, F := fun N a b => F19 N a.1, of := fun r => (r, ()) }
noncomputable def dat19 : Dat τ := ⟨D0, tblOf [(36, con36)], lpsOf [(2, lp19x2)], 0⟩
theorem ok19 : ConOk E C 19 con19 :=
  con_ok (D := dat19) ⟨d0Ok, eGood, tblOf_ok (l := [(36, con36)]) ⟨ok36, trivial⟩⟩ con19 (fun a b => a) (fun _ _ => rfl) 1000000 (fn := Try.f19) Try.func19 rfl (by kernel_rfl) (by kernel_rfl) rfl (by intro N a b; kernel_rfl)

structure S20x3 where
  i : Int
  b1 : Vector (Int) 8
def ts20x3 : List Sl := [.keep, .keep, .keep, .keep, .sh (.ty 2), .junk, .junk, .junk, .junk, .junk, .junk, .junk, .junk, .junk, .junk, .junk, .junk, .junk, .junk, .junk, .junk, .junk, .junk, .junk, .junk, .junk, .junk, .junk, .junk, .junk, .junk, .junk, .junk, .junk, .junk, .junk, .junk, .junk, .keep]
def hs20x3 : List ESh := [.keep, .box (.ty 30)]
def to20x3 (a : Sl.Ts τ ts20x3) (b : ESh.Ts τ hs20x3) : S20x3 := ⟨a.2.2.2.2.1, b.2.1⟩
def ot20x3 (s : S20x3) : Sl.Ts τ ts20x3 := ((), (), (), (), s.i, (), (), (), (), (), (), (), (), (), (), (), (), (), (), (), (), (), (), (), (), (), (), (), (), (), (), (), (), (), (), (), (), (), (), ())
def oh20x3 (s : S20x3) : ESh.Ts τ hs20x3 := ((), s.b1, ())
def lp20x3 : Lp τ := { ts := ts20x3, hs := hs20x3, S := S20x3, to := to20x3, ot := ot20x3, oh := oh20x3, ot_to := fun _ _ => rfl, oh_to := fun _ _ => rfl }
structure S20x6 where
  k : Int
  b1 : Vector (Int) 8
def ts20x6 : List Sl := [.keep, .keep, .keep, .keep, .keep, .sh (.ty 2), .keep, .keep, .keep, .keep, .keep, .keep, .junk, .junk, .junk, .junk, .junk, .junk, .junk, .junk, .junk, .junk, .junk, .junk, .junk, .junk, .junk, .junk, .junk, .junk, .junk, .junk, .junk, .junk, .junk, .junk, .junk, .junk, .keep]
def hs20x6 : List ESh := [.keep, .box (.ty 30)]
def to20x6 (a : Sl.Ts τ ts20x6) (b : ESh.Ts τ hs20x6) : S20x6 := ⟨a.2.2.2.2.2.1, b.2.1⟩
def ot20x6 (s : S20x6) : Sl.Ts τ ts20x6 := ((), (), (), (), (), s.k, (), (), (), (), (), (), (), (), (), (), (), (), (), (), (), (), (), (), (), (), (), (), (), (), (), (), (), (), (), (), (), (), (), ())
def oh20x6 (s : S20x6) : ESh.Ts τ hs20x6 := ((), s.b1, ())
def lp20x6 : Lp τ := { ts := ts20x6, hs := hs20x6, S := S20x6, to := to20x6, ot := ot20x6, oh := oh20x6, ot_to := fun _ _ => rfl, oh_to := fun _ _ => rfl }
/-- orchard/orchardref11.Join -/
def F20 (N : Nat) (l : List (Vector (Int) 8)) : Option ((Vector (Int) 8)) :=
 (iter N (fun (s1 : S20x3) next2 =>
 (bif (decide (s1.i < ((l).length : Int))) then
 (iter N (fun (s3 : S20x6) next4 =>
 (bif (decide (s3.k < 8)) then
 (bif (!(!(s1.i == 0)) || (ibB s1.i ((l).length : Int))) then
 (bif (!(!(s1.i == 0)) || (ibB s3.k 8)) then
 (bif (!(!(s1.i == 0)) || (ibB s3.k 8)) then
 (bif ((s1.i == 0) || (decide ((vget s3.b1 ((s3.k).toNat) default) < (vget (lget l s1.i default) ((s3.k).toNat) default)))) then
 (bif (ibB s1.i ((l).length : Int)) then
 (bif (ibB s3.k 8) then
 (bif (ibB s3.k 8) then
 (next4 ⟨(IntKind.i64.wrap (s3.k + 1)), (vset s3.b1 ((s3.k).toNat) (vget (lget l s1.i default) ((s3.k).toNat) default))⟩)
 else none)
 else none)
 else none)
 else
 (next4 ⟨(IntKind.i64.wrap (s3.k + 1)), s3.b1⟩))
 else none)
 else none)
 else none)
 else
 (next2 ⟨(IntKind.i64.wrap (s1.i + 1)), s3.b1⟩))) ⟨0, s1.b1⟩)
 else
 (some s1.b1))) ⟨0, (Vector.replicate 8 (default : Int))⟩)
def con20 : Con τ := { args := [.ty 29], L := [], ret := .ty 31, L' := [], R := (Vector (Int) 8), dflt := default, F := fun N a b => F20 N a.1, of := fun r => (r, ()) }
noncomputable def dat20 : Dat τ := ⟨D0, tblOf [], lpsOf [(3, lp20x3), (6, lp20x6)], 0⟩
theorem ok20 : ConOk E C 20 con20 :=
  con_ok (D := dat20) ⟨d0Ok, eGood, tblOf_ok (l := []) trivial⟩ con20 (fun a b => a) (fun _ _ => rfl) 1000000 (fn := Try.f20) Try.func20 rfl (by kernel_rfl) (by kernel_rfl) rfl (by intro N a b; kernel_rfl)

structure S21x3 where
  i : Int
  b1 : Vector (Int) 8
def ts21x3 : List Sl := [.keep, .keep, .keep, .keep, .sh (.ty 2), .junk, .junk, .junk, .junk, .junk, .junk, .junk, .junk, .junk, .junk, .junk, .junk, .junk, .junk, .junk, .junk, .junk, .junk, .junk, .junk, .junk, .junk, .junk, .junk, .junk, .junk, .junk, .junk, .junk, .junk, .junk, .junk, .junk, .keep]
def hs21x3 : List ESh := [.keep, .box (.ty 30)]
def to21x3 (a : Sl.Ts τ ts21x3) (b : ESh.Ts τ hs21x3) : S21x3 := ⟨a.2.2.2.2.1, b.2.1⟩
def ot21x3 (s : S21x3) : Sl.Ts τ ts21x3 := ((), (), (), (), s.i, (), (), (), (), (), (), (), (), (), (), (), (), (), (), (), (), (), (), (), (), (), (), (), (), (), (), (), (), (), (), (), (), (), (), ())
def oh21x3 (s : S21x3) : ESh.Ts τ hs21x3 := ((), s.b1, ())
def lp21x3 : Lp τ := { ts := ts21x3, hs := hs21x3, S := S21x3, to := to21x3, ot := ot21x3, oh := oh21x3, ot_to := fun _ _ => rfl, oh_to := fun _ _ => rfl }
structure S21x6 where
  k : Int
  b1 : Vector (Int) 8
def ts21x6 : List Sl := [.keep, .keep, .keep, .keep, .keep, .sh (.ty 2), .keep, .keep, .keep, .keep, .keep, .keep, .junk, .junk, .junk, .junk, .junk, .junk, .junk, .junk, .junk, .junk, .junk, .junk, .junk, .junk, .junk, .junk, .junk, .junk, .junk, .junk, .junk, .junk, .junk, .junk, .junk, .junk, .keep]
def hs21x6 : List ESh := [.keep, .box (.ty 30)]
def to21x6 (a : Sl.Ts τ ts21x6) (b : ESh.Ts τ hs21x6) : S21x6 := ⟨a.2.2.2.2.2.1, b.2.1⟩
def ot21x6 (s : S21x6) : Sl.Ts τ ts21x6 := ((), (), (), (), (), s.k, (), (), (), (), (), (), (), (), (), (), (), (), (), (), (), (), (), (), (), (), (), (), (), (), (), (), (), (), (), (), (), (), (), ())
def oh21x6 (s : S21x6) : ESh.Ts τ hs21x6 := ((), s.b1, ())
def lp21x6 : Lp τ := { ts := ts21x6, hs := hs21x6, S := S21x6, to := to21x6, ot := ot21x6, oh := oh21x6, ot_to := fun _ _ => rfl, oh_to := fun _ _ => rfl }
/-- orchard/orchardref11.Meet -/
def F21 (N : Nat) (l : List (Vector (Int) 8)) : Option ((Vector (Int) 8)) :=
 (iter N (fun (s1 : S21x3) next2 =>
 (bif (decide (s1.i < ((l).length : Int))) then
 (iter N (fun (s3 : S21x6) next4 =>
 (bif (decide (s3.k < 8)) then
 (bif (!(!(s1.i == 0)) || (ibB s1.i ((l).length : Int))) then
 (bif (!(!(s1.i == 0)) || (ibB s3.k 8)) then
 (bif (!(!(s1.i == 0)) || (ibB s3.k 8)) then
 (bif ((s1.i == 0) || (decide ((vget (lget l s1.i default) ((s3.k).toNat) default) < (vget s3.b1 ((s3.k).toNat) default)))) then
 (bif (ibB s1.i ((l).length : Int)) then
 (bif (ibB s3.k 8) then
 (bif (ibB s3.k 8) then
 (next4 ⟨(IntKind.i64.wrap (s3.k + 1)), (vset s3.b1 ((s3.k).toNat) (vget (lget l s1.i default) ((s3.k).toNat) default))⟩)
 else none)
 else none)
 else none)
 else
 (next4 ⟨(IntKind.i64.wrap (s3.k + 1)), s3.b1⟩))
 else none)
 else none)
 else none)
 else
 (next2 ⟨(IntKind.i64.wrap (s1.i + 1)), s3.b1⟩))) ⟨0, s1.b1⟩)
 else
 (some s1.b1))) ⟨0, (Vector.replicate 8 (default : Int))⟩)
def con21 : Con τ := { args := [.ty 29], L := [], ret := .ty 31, L' := [], R := (Vector (Int) 8), dflt := default, F := fun N a b => F21 N a.1, of := fun r => (r, ()) }
noncomputable def dat21 : Dat τ := ⟨D0, tblOf [], lpsOf [(3, lp21x3), (6, lp21x6)], 0⟩
theorem ok21 : ConOk E C 21 con21 :=
  con_ok (D := dat21) ⟨d0Ok, eGood, tblOf_ok (l := []) trivial⟩ con21 (fun a b => a) (fun _ _ => rfl) 1000000 (fn := Try.f21) Try.func21 rfl (by kernel_rfl) (by kernel_rfl) rfl (by intro N a b; kernel_rfl)

structure S22x2 where
  i : Int
def ts22x2 : List Sl := [.keep, .keep, .keep, .keep, .junk, .sh (.ty 2), .junk, .junk, .junk, .junk, .junk, .junk, .junk, .junk, .junk, .junk, .junk]
def hs22x2 : List ESh := [.keep, .keep]
def to22x2 (a : Sl.Ts τ ts22x2) (b : ESh.Ts τ hs22x2) : S22x2 := ⟨a.2.2.2.2.2.1⟩
def ot22x2 (s : S22x2) : Sl.Ts τ ts22x2 := ((), (), (), (), (), s.i, (), (), (), (), (), (), (), (), (), (), (), ())
def oh22x2 (s : S22x2) : ESh.Ts τ hs22x2 := ((), (), ())
def lp22x2 : Lp τ := { ts := ts22x2, hs := hs22x2, S := S22x2, to := to22x2, ot := ot22x2, oh := oh22x2, ot_to := fun _ _ => rfl, oh_to := fun _ _ => rfl }
/-- orchard/orchardref11.Above -/
def F22 (N : Nat) (a : Vector (Int) 8) (b : Vector (Int) 8) : Option (Bool) :=
 (iter N (fun (s1 : S22x2) next2 =>
 (bif (decide (s1.i < 8)) then
 (bif (ibB s1.i 8) then
 (bif (ibB s1.i 8) then
 (bif (decide ((vget a ((s1.i).toNat) default) < (vget b ((s1.i).toNat) default))) then
 (some false)
 else
 (next2 ⟨(IntKind.i64.wrap (s1.i + 1))⟩))
 else none)
 else none)
 else
 (some true))) ⟨0⟩)
def con22 : Con τ := { args := [.ty 31, .ty 31], L := [], ret := .ty 4, L' := [], R := Bool, dflt := default, F := fun N a b => F22 N a.1 a.2.1, of := fun r => (r, ()) }
noncomputable def dat22 : Dat τ := ⟨D0, tblOf [], lpsOf [(2, lp22x2)], 0⟩
theorem ok22 : ConOk E C 22 con22 :=
  con_ok (D := dat22) ⟨d0Ok, eGood, tblOf_ok (l := []) trivial⟩ con22 (fun a b => a) (fun _ _ => rfl) 1000000 (fn := Try.f22) Try.func22 rfl (by kernel_rfl) (by kernel_rfl) rfl (by intro N a b; kernel_rfl)

structure S23x3 where
  n : Int
  t7 : Int
def ts23x3 : List Sl := [.keep, .keep, .keep, .sh (.ty 2), .keep, .junk, .keep, .sh (.ty 2), .junk, .junk, .junk, .junk, .junk, .junk, .keep]
def hs23x3 : List ESh := [.keep]
def to23x3 (a : Sl.Ts τ ts23x3) (b : ESh.Ts τ hs23x3) : S23x3 := ⟨a.2.2.2.1, a.2.2.2.2.2.2.2.1⟩
def ot23x3 (s : S23x3) : Sl.Ts τ ts23x3 := ((), (), (), s.n, (), (), (), s.t7, (), (), (), (), (), (), (), ())
def oh23x3 (s : S23x3) : ESh.Ts τ hs23x3 := ((), ())
def lp23x3 : Lp τ := { ts := ts23x3, hs := hs23x3, S := S23x3, to := to23x3, ot := ot23x3, oh := oh23x3, ot_to := fun _ _ => rfl, oh_to := fun _ _ => rfl }
/-- orchard/stamp.Total -/
def F23 (N : Nat) (v : Vector (Int) 8) : Option (Int) :=
 (iter N (fun (s1 : S23x3) next2 =>
 (bif (decide (s1.t7 < 8)) then
 (bif (ibB s1.t7 8) then
 (next2 ⟨(IntKind.i64.wrap (s1.n + (vget v ((s1.t7).toNat) default))), (IntKind.i64.wrap (s1.t7 + 1))⟩)
 else none)
 else
 (some s1.n))) ⟨0, 0⟩)
def con23 : Con τ := { args := [.ty 31], L := [], ret := .ty 2, L' := [], R := Int, dflt := default, F := fun N a b => F23 N a.1, of := fun r => (r, ()) }
noncomputable def dat23 : Dat τ := ⟨D0, tblOf [], lpsOf [(3, lp23x3)], 0⟩
theorem ok23 : ConOk E C 23 con23 :=
  con_ok (D := dat23) ⟨d0Ok, eGood, tblOf_ok (l := []) trivial⟩ con23 (fun a b => a) (fun _ _ => rfl) 1000000 (fn := Try.f23) Try.func23 rfl (by kernel_rfl) (by kernel_rfl) rfl (by intro N a b; kernel_rfl)

structure S24x3 where
  n : Int
  i : Int
def ts24x3 : List Sl := [.keep, .keep, .keep, .sh (.ty 2), .sh (.ty 2), .junk, .junk, .junk, .junk, .junk, .junk, .junk, .junk, .junk, .keep]
def hs24x3 : List ESh := [.keep]
def to24x3 (a : Sl.Ts τ ts24x3) (b : ESh.Ts τ hs24x3) : S24x3 := ⟨a.2.2.2.1, a.2.2.2.2.1⟩
def ot24x3 (s : S24x3) : Sl.Ts τ ts24x3 := ((), (), (), s.n, s.i, (), (), (), (), (), (), (), (), (), (), ())
def oh24x3 (s : S24x3) : ESh.Ts τ hs24x3 := ((), ())
def lp24x3 : Lp τ := { ts := ts24x3, hs := hs24x3, S := S24x3, to := to24x3, ot := ot24x3, oh := oh24x3, ot_to := fun _ _ => rfl, oh_to := fun _ _ => rfl }
/-- orchard/orchardref11.Total -/
def F24 (N : Nat) (v : Vector (Int) 8) : Option (Int) :=
 (iter N (fun (s1 : S24x3) next2 =>
 (bif (decide (s1.i < 8)) then
 (bif (ibB s1.i 8) then
 (next2 ⟨(IntKind.i64.wrap (s1.n + (vget v ((s1.i).toNat) default))), (IntKind.i64.wrap (s1.i + 1))⟩)
 else none)
 else
 (some s1.n))) ⟨0, 0⟩)
def con24 : Con τ := { args := [.ty 31], L := [], ret := .ty 2, L' := [], R := Int, dflt := default, F := fun N a b => F24 N a.1, of := fun r => (r, ()) }
noncomputable def dat24 : Dat τ := ⟨D0, tblOf [], lpsOf [(3, lp24x3)], 0⟩
theorem ok24 : ConOk E C 24 con24 :=
  con_ok (D := dat24) ⟨d0Ok, eGood, tblOf_ok (l := []) trivial⟩ con24 (fun a b => a) (fun _ _ => rfl) 1000000 (fn := Try.f24) Try.func24 rfl (by kernel_rfl) (by kernel_rfl) rfl (by intro N a b; kernel_rfl)

/-- orchard/orchardlaw11.StampVectors -/
def F6 (N : Nat) (l : List (Vector (Int) 8)) (a : Vector (Int) 8) (b : Vector (Int) 8) : Option (Bool) :=
 ((F12 N).bind fun r1 =>
 ((bif r1 then F18 N a else some default).bind fun r2 =>
 ((bif r1 then F19 N a else some default).bind fun r3 =>
 ((bif (r1 && (r2 == r3)) then F15 N l else some default).bind fun r4 =>
 ((bif (r1 && (r2 == r3)) then F20 N l else some default).bind fun r5 =>
 ((bif ((r1 && (r2 == r3)) && (vbeq beq2 r4 r5)) then F16 N l else some default).bind fun r6 =>
 ((bif ((r1 && (r2 == r3)) && (vbeq beq2 r4 r5)) then F21 N l else some default).bind fun r7 =>
 ((bif (((r1 && (r2 == r3)) && (vbeq beq2 r4 r5)) && (vbeq beq2 r6 r7)) then F17 N a b else some default).bind fun r8 =>
 ((bif (((r1 && (r2 == r3)) && (vbeq beq2 r4 r5)) && (vbeq beq2 r6 r7)) then F22 N a b else some default).bind fun r9 =>
 ((bif ((((r1 && (r2 == r3)) && (vbeq beq2 r4 r5)) && (vbeq beq2 r6 r7)) && (r8 == r9)) then F23 N a else some default).bind fun r10 =>
 ((bif ((((r1 && (r2 == r3)) && (vbeq beq2 r4 r5)) && (vbeq beq2 r6 r7)) && (r8 == r9)) then F24 N a else some default).bind fun r11 =>
 (some (((((r1 && (r2 == r3)) && (vbeq beq2 r4 r5)) && (vbeq beq2 r6 r7)) && (r8 == r9)) && (r10 == r11))))))))))))))
def con6 : Con τ := { args := [.ty 29, .ty 31, .ty 31], L := [], ret := .ty 4, L' := [], R := Bool, dflt := default, F := fun N a b => F6 N a.1 a.2.1 a.2.2.1, of := fun r => (r, ()) }
noncomputable def dat6 : Dat τ := ⟨D0, tblOf [(12, con12), (18, con18), (19, con19), (15, con15), (20, con20), (16, con16), (21, con21), (17, con17), (22, con22), (23, con23), (24, con24)], lpsOf [], 0⟩
theorem ok6 : ConOk E C 6 con6 :=
  con_ok (D := dat6) ⟨d0Ok, eGood, tblOf_ok (l := [(12, con12), (18, con18), (19, con19), (15, con15), (20, con20), (16, con16), (21, con21), (17, con17), (22, con22), (23, con23), (24, con24)]) ⟨ok12, ⟨ok18, ⟨ok19, ⟨ok15, ⟨ok20, ⟨ok16, ⟨ok21, ⟨ok17, ⟨ok22, ⟨ok23, ⟨ok24, trivial⟩⟩⟩⟩⟩⟩⟩⟩⟩⟩⟩⟩ con6 (fun a b => a) (fun _ _ => rfl) 1000000 (fn := Try.f6) Try.func6 rfl (by kernel_rfl) (by kernel_rfl) rfl (by intro N a b; kernel_rfl)

/-- cmp.isNaN[int64] -/
def F47 (N : Nat) (x : Int) : Option (Bool) :=
 (some (!(x == x)))
def con47 : Con τ := { args := [.ty 2], L := [], ret := .ty 4, L' := [], R := Bool, dflt := default, F := fun N a b => F47 N a.1, of := fun r => (r, ()) }
noncomputable def dat47 : Dat τ := ⟨D0, tblOf [], lpsOf [], 0⟩
theorem ok47 : ConOk E C 47 con47 :=
  con_ok (D := dat47) ⟨d0Ok, eGood, tblOf_ok (l := []) trivial⟩ con47 (fun a b => a) (fun _ _ => rfl) 1000000 (fn := Try.f47) Try.func47 rfl (by kernel_rfl) (by kernel_rfl) rfl (by intro N a b; kernel_rfl)

/-- cmp.Compare[int64] -/
def F39 (N : Nat) (x : Int) (y : Int) : Option (Int) :=
 ((F47 N x).bind fun r1 =>
 ((F47 N y).bind fun r2 =>
 (bif r1 then
 (bif r2 then
 (some 0)
 else
 (some (-1)))
 else
 (bif r2 then
 (some 1)
 else
 (bif (decide (x < y)) then
 (some (-1))
 else
 (bif (decide (y < x)) then
 (some 1)
 else
 (some 0)))))))
def con39 : Con τ := { args := [.ty 2, .ty 2], L := [], ret := .ty 3, L' := [], R := Int, dflt := default, F := fun N a b => F39 N a.1 a.2.1, of := fun r => (r, ()) }
noncomputable def dat39 : Dat τ := ⟨D0, tblOf [(47, con47)], lpsOf [], 0⟩
theorem ok39 : ConOk E C 39 con39 :=
  con_ok (D := dat39) ⟨d0Ok, eGood, tblOf_ok (l := [(47, con47)]) ⟨ok47, trivial⟩⟩ con39 (fun a b => a) (fun _ _ => rfl) 1000000 (fn := Try.f39) Try.func39 rfl (by kernel_rfl) (by kernel_rfl) rfl (by intro N a b; kernel_rfl)

/-- cmp.isNaN[int] -/
def F48 (N : Nat) (x : Int) : Option (Bool) :=
 (some (!(x == x)))
def con48 : Con τ := { args := [.ty 3], L := [], ret := .ty 4, L' := [], R := Bool, dflt := default, F := fun N a b => F48 N a.1, of := fun r => (r, ()) }
noncomputable def dat48 : Dat τ := ⟨D0, tblOf [], lpsOf [], 0⟩
theorem ok48 : ConOk E C 48 con48 :=
  con_ok (D := dat48) ⟨d0Ok, eGood, tblOf_ok (l := []) trivial⟩ con48 (fun a b => a) (fun _ _ => rfl) 1000000 (fn := Try.f48) Try.func48 rfl (by kernel_rfl) (by kernel_rfl) rfl (by intro N a b; kernel_rfl)

/-- cmp.Compare[int] -/
def F40 (N : Nat) (x : Int) (y : Int) : Option (Int) :=
 ((F48 N x).bind fun r1 =>
 ((F48 N y).bind fun r2 =>
 (bif r1 then
 (bif r2 then
 (some 0)
 else
 (some (-1)))
 else
 (bif r2 then
 (some 1)
 else
 (bif (decide (x < y)) then
 (some (-1))
 else
 (bif (decide (y < x)) then
 (some 1)
 else
 (some 0)))))))
def con40 : Con τ := { args := [.ty 3, .ty 3], L := [], ret := .ty 3, L' := [], R := Int, dflt := default, F := fun N a b => F40 N a.1 a.2.1, of := fun r => (r, ()) }
noncomputable def dat40 : Dat τ := ⟨D0, tblOf [(48, con48)], lpsOf [], 0⟩
theorem ok40 : ConOk E C 40 con40 :=
  con_ok (D := dat40) ⟨d0Ok, eGood, tblOf_ok (l := [(48, con48)]) ⟨ok48, trivial⟩⟩ con40 (fun a b => a) (fun _ _ => rfl) 1000000 (fn := Try.f40) Try.func40 rfl (by kernel_rfl) (by kernel_rfl) rfl (by intro N a b; kernel_rfl)

structure S38x3 where
  t8 : Int
def ts38x3 : List Sl := [.keep, .keep, .junk, .keep, .keep, .junk, .keep, .keep, .sh (.ty 2), .junk, .junk, .junk, .junk, .junk, .junk, .junk, .junk, .keep]
def hs38x3 : List ESh := []
def to38x3 (a : Sl.Ts τ ts38x3) (b : ESh.Ts τ hs38x3) : S38x3 := ⟨a.2.2.2.2.2.2.2.2.1⟩
def ot38x3 (s : S38x3) : Sl.Ts τ ts38x3 := ((), (), (), (), (), (), (), (), s.t8, (), (), (), (), (), (), (), (), (), ())
def oh38x3 (s : S38x3) : ESh.Ts τ hs38x3 := ()
def lp38x3 : Lp τ := { ts := ts38x3, hs := hs38x3, S := S38x3, to := to38x3, ot := ot38x3, oh := oh38x3, ot_to := fun _ _ => rfl, oh_to := fun _ _ => rfl }
/-- cmp.Or[int] -/
def F38 (N : Nat) (vals : List (Int)) : Option (Int) :=
 (iter N (fun (s1 : S38x3) next2 =>
 (bif (decide (s1.t8 < ((vals).length : Int))) then
 (bif (ibB s1.t8 ((vals).length : Int)) then
 (bif (!((lget vals s1.t8 default) == 0)) then
 (some (lget vals s1.t8 default))
 else
 (next2 ⟨(IntKind.i64.wrap (s1.t8 + 1))⟩))
 else none)
 else
 (some 0))) ⟨0⟩)
def con38 : Con τ := { args := [.ty 59], L := [], ret := .ty 3, L' := [], R := Int, dflt := default, F := fun N a b => F38 N a.1, of := fun r => (r, ()) }
noncomputable def dat38 : Dat τ := ⟨D0, tblOf [], lpsOf [(3, lp38x3)], 0⟩
theorem ok38 : ConOk E C 38 con38 :=
  con_ok (D := dat38) ⟨d0Ok, eGood, tblOf_ok (l := []) trivial⟩ con38 (fun a b => a) (fun _ _ => rfl) 1000000 (fn := Try.f38) Try.func38 rfl (by kernel_rfl) (by kernel_rfl) rfl (by intro N a b; kernel_rfl)

/-- orchard/stamp.Compare -/
def F27 (N : Nat) (a : GStamp) (b : GStamp) : Option (Int) :=
 ((F39 N a.Time b.Time).bind fun r1 =>
 ((F40 N a.Site b.Site).bind fun r2 =>
 ((F38 N [r1, r2]).bind fun r3 =>
 (some r3))))
def con27 : Con τ := { args := [.ty 23, .ty 23], L := [], ret := .ty 3, L' := [], R := Int, dflt := default, F := fun N a b => F27 N a.1 a.2.1, of := fun r => (r, ()) }
noncomputable def dat27 : Dat τ := ⟨D0, tblOf [(39, con39), (40, con40), (38, con38)], lpsOf [], 0⟩
theorem ok27 : ConOk E C 27 con27 :=
  con_ok (D := dat27) ⟨d0Ok, eGood, tblOf_ok (l := [(39, con39), (40, con40), (38, con38)]) ⟨ok39, ⟨ok40, ⟨ok38, trivial⟩⟩⟩⟩ con27 (fun a b => a) (fun _ _ => rfl) 1000000 (fn := Try.f27) Try.func27 rfl (by kernel_rfl) (by kernel_rfl) rfl (by intro N a b; kernel_rfl)

/-- orchard/orchardlaw11.StampRises -/
def F7 (N : Nat) (a : GStamp) (b : GStamp) : Option (Bool) :=
 ((F25 N a).bind fun r1 =>
 ((bif (!(!r1)) then F25 N b else some default).bind fun r2 =>
 ((bif (!((!r1) || (!r2))) then F12 N else some default).bind fun r3 =>
 (bif (((!r1) || (!r2)) || (!r3)) then
 ((F12 N).bind fun r4 =>
 ((bif r4 then F26 N a else some default).bind fun r5 =>
 ((bif (r4 && (!(!r5))) then F26 N b else some default).bind fun r6 =>
 (some (r4 && ((!r5) || (!r6)))))))
 else
 ((F13 N a).bind fun r7 =>
 ((F13 N b).bind fun r8 =>
 ((F10 N r7).bind fun r9 =>
 (bif (decide (r7 < r8)) then
 (bif (decide (r8 < r7)) then
 ((bif (r9.2 && ((r9.1.Time == a.Time) && (r9.1.Site == a.Site))) then F27 N a b else some default).bind fun r10 =>
 (some (((r9.2 && ((r9.1.Time == a.Time) && (r9.1.Site == a.Site))) && (1 == r10)) && (decide (16 ≤ r7)))))
 else
 ((bif (r9.2 && ((r9.1.Time == a.Time) && (r9.1.Site == a.Site))) then F27 N a b else some default).bind fun r11 =>
 (some (((r9.2 && ((r9.1.Time == a.Time) && (r9.1.Site == a.Site))) && ((-1) == r11)) && (decide (16 ≤ r7))))))
 else
 (bif (decide (r8 < r7)) then
 ((bif (r9.2 && ((r9.1.Time == a.Time) && (r9.1.Site == a.Site))) then F27 N a b else some default).bind fun r12 =>
 (some (((r9.2 && ((r9.1.Time == a.Time) && (r9.1.Site == a.Site))) && (1 == r12)) && (decide (16 ≤ r7)))))
 else
 ((bif (r9.2 && ((r9.1.Time == a.Time) && (r9.1.Site == a.Site))) then F27 N a b else some default).bind fun r13 =>
 (some (((r9.2 && ((r9.1.Time == a.Time) && (r9.1.Site == a.Site))) && (0 == r13)) && (decide (16 ≤ r7))))))))))))))
def con7 : Con τ := { args := [.ty 23, .ty 23], L := [], ret := .ty 4, L' := [], R := Bool, dflt := default, F := fun N a b => F7 N a.1 a.2.1, of := fun r => (r, ()) }
noncomputable def dat7 : Dat τ := ⟨D0, tblOf [(25, con25), (12, con12), (26, con26), (13, con13), (10, con10), (27, con27)], lpsOf [], 0⟩
theorem ok7 : ConOk E C 7 con7 :=
  con_ok (D := dat7) ⟨d0Ok, eGood, tblOf_ok (l := [(25, con25), (12, con12), (26, con26), (13, con13), (10, con10), (27, con27)]) ⟨ok25, ⟨ok12, ⟨ok26, ⟨ok13, ⟨ok10, ⟨ok27, trivial⟩⟩⟩⟩⟩⟩⟩ con7 (fun a b => a) (fun _ _ => rfl) 1000000 (fn := Try.f7) Try.func7 rfl (by kernel_rfl) (by kernel_rfl) rfl (by intro N a b; kernel_rfl)

/-- orchard/orchardref11.Compare -/
def F28 (N : Nat) (a : GStamp) (b : GStamp) : Option (Int) :=
 (bif ((a.Time == b.Time) && (a.Site == b.Site)) then
 (some 0)
 else
 (bif ((decide (a.Time < b.Time)) || ((a.Time == b.Time) && (decide (a.Site < b.Site)))) then
 (some (-1))
 else
 (some 1)))
def con28 : Con τ := { args := [.ty 23, .ty 23], L := [], ret := .ty 3, L' := [], R := Int, dflt := default, F := fun N a b => F28 N a.1 a.2.1, of := fun r => (r, ()) }
noncomputable def dat28 : Dat τ := ⟨D0, tblOf [], lpsOf [], 0⟩
theorem ok28 : ConOk E C 28 con28 :=
  con_ok (D := dat28) ⟨d0Ok, eGood, tblOf_ok (l := []) trivial⟩ con28 (fun a b => a) (fun _ _ => rfl) 1000000 (fn := Try.f28) Try.func28 rfl (by kernel_rfl) (by kernel_rfl) rfl (by intro N a b; kernel_rfl)

structure S29x3 where
  t8 : Int
  b1 : GStamp
def ts29x3 : List Sl := [.keep, .keep, .keep, .keep, .junk, .junk, .keep, .keep, .sh (.ty 2), .junk, .junk, .junk, .junk, .junk, .junk, .junk, .junk, .junk, .junk, .junk, .junk, .junk, .junk, .keep]
def hs29x3 : List ESh := [.keep, .box (.ty 22)]
def to29x3 (a : Sl.Ts τ ts29x3) (b : ESh.Ts τ hs29x3) : S29x3 := ⟨a.2.2.2.2.2.2.2.2.1, b.2.1⟩
def ot29x3 (s : S29x3) : Sl.Ts τ ts29x3 := ((), (), (), (), (), (), (), (), s.t8, (), (), (), (), (), (), (), (), (), (), (), (), (), (), (), ())
def oh29x3 (s : S29x3) : ESh.Ts τ hs29x3 := ((), s.b1, ())
def lp29x3 : Lp τ := { ts := ts29x3, hs := hs29x3, S := S29x3, to := to29x3, ot := ot29x3, oh := oh29x3, ot_to := fun _ _ => rfl, oh_to := fun _ _ => rfl }
/-- orchard/stamp.Greatest -/
def F29 (N : Nat) (l : List (GStamp)) : Option (GStamp) :=
 (iter N (fun (s1 : S29x3) next2 =>
 (bif (decide (s1.t8 < ((l).length : Int))) then
 (bif (ibB s1.t8 ((l).length : Int)) then
 ((bif (!(s1.t8 == 0)) then F27 N (lget l s1.t8 default) s1.b1 else some default).bind fun r3 =>
 (bif ((s1.t8 == 0) || (decide (0 < r3))) then
 (next2 ⟨(IntKind.i64.wrap (s1.t8 + 1)), (lget l s1.t8 default)⟩)
 else
 (next2 ⟨(IntKind.i64.wrap (s1.t8 + 1)), s1.b1⟩)))
 else none)
 else
 (some s1.b1))) ⟨0, (⟨0, 0⟩ : GStamp)⟩)
def con29 : Con τ := { args := [.ty 43], L := [], ret := .ty 23, L' := [], R := GStamp, dflt := default, F := fun N a b => F29 N a.1, of := fun r => (r, ()) }
noncomputable def dat29 : Dat τ := ⟨D0, tblOf [(27, con27)], lpsOf [(3, lp29x3)], 0⟩
theorem ok29 : ConOk E C 29 con29 :=
  con_ok (D := dat29) ⟨d0Ok, eGood, tblOf_ok (l := [(27, con27)]) ⟨ok27, trivial⟩⟩ con29 (fun a b => a) (fun _ _ => rfl) 1000000 (fn := Try.f29) Try.func29 rfl (by kernel_rfl) (by kernel_rfl) rfl (by intro N a b; kernel_rfl)

structure S30x3 where
  i : Int
  b1 : GStamp
def ts30x3 : List Sl := [.keep, .keep, .keep, .keep, .sh (.ty 2), .junk, .junk, .junk, .junk, .junk, .junk, .junk, .junk, .junk, .junk, .junk, .junk, .junk, .junk, .junk, .junk, .junk, .junk, .junk, .junk, .junk, .keep]
def hs30x3 : List ESh := [.keep, .box (.ty 22)]
def to30x3 (a : Sl.Ts τ ts30x3) (b : ESh.Ts τ hs30x3) : S30x3 := ⟨a.2.2.2.2.1, b.2.1⟩
def ot30x3 (s : S30x3) : Sl.Ts τ ts30x3 := ((), (), (), (), s.i, (), (), (), (), (), (), (), (), (), (), (), (), (), (), (), (), (), (), (), (), (), (), ())
def oh30x3 (s : S30x3) : ESh.Ts τ hs30x3 := ((), s.b1, ())
def lp30x3 : Lp τ := { ts := ts30x3, hs := hs30x3, S := S30x3, to := to30x3, ot := ot30x3, oh := oh30x3, ot_to := fun _ _ => rfl, oh_to := fun _ _ => rfl }
/-- orchard/orchardref11.Greatest -/
def F30 (N : Nat) (l : List (GStamp)) : Option (GStamp) :=
 (iter N (fun (s1 : S30x3) next2 =>
 (bif (decide (s1.i < ((l).length : Int))) then
 (bif (!(!(s1.i == 0)) || (ibB s1.i ((l).length : Int))) then
 ((bif (!(s1.i == 0)) then F28 N (lget l s1.i default) s1.b1 else some default).bind fun r3 =>
 (bif ((s1.i == 0) || (decide (0 < r3))) then
 (bif (ibB s1.i ((l).length : Int)) then
 (next2 ⟨(IntKind.i64.wrap (s1.i + 1)), (lget l s1.i default)⟩)
 else none)
 else
 (next2 ⟨(IntKind.i64.wrap (s1.i + 1)), s1.b1⟩)))
 else none)
 else
 (some s1.b1))) ⟨0, (⟨0, 0⟩ : GStamp)⟩)
def con30 : Con τ := { args := [.ty 43], L := [], ret := .ty 23, L' := [], R := GStamp, dflt := default, F := fun N a b => F30 N a.1, of := fun r => (r, ()) }
noncomputable def dat30 : Dat τ := ⟨D0, tblOf [(28, con28)], lpsOf [(3, lp30x3)], 0⟩
theorem ok30 : ConOk E C 30 con30 :=
  con_ok (D := dat30) ⟨d0Ok, eGood, tblOf_ok (l := [(28, con28)]) ⟨ok28, trivial⟩⟩ con30 (fun a b => a) (fun _ _ => rfl) 1000000 (fn := Try.f30) Try.func30 rfl (by kernel_rfl) (by kernel_rfl) rfl (by intro N a b; kernel_rfl)

/-- orchard/orchardlaw11.StampOrders -/
def F8 (N : Nat) (a : GStamp) (b : GStamp) (l : List (GStamp)) : Option (Bool) :=
 ((F12 N).bind fun r1 =>
 ((bif r1 then F27 N a b else some default).bind fun r2 =>
 ((bif r1 then F28 N a b else some default).bind fun r3 =>
 ((bif (r1 && (r2 == r3)) then F25 N a else some default).bind fun r4 =>
 ((bif (r1 && (r2 == r3)) then F26 N a else some default).bind fun r5 =>
 ((bif ((r1 && (r2 == r3)) && (r4 == r5)) then F29 N l else some default).bind fun r6 =>
 ((bif ((r1 && (r2 == r3)) && (r4 == r5)) then F30 N l else some default).bind fun r7 =>
 (some (((r1 && (r2 == r3)) && (r4 == r5)) && ((r6.Time == r7.Time) && (r6.Site == r7.Site)))))))))))
def con8 : Con τ := { args := [.ty 23, .ty 23, .ty 43], L := [], ret := .ty 4, L' := [], R := Bool, dflt := default, F := fun N a b => F8 N a.1 a.2.1 a.2.2.1, of := fun r => (r, ()) }
noncomputable def dat8 : Dat τ := ⟨D0, tblOf [(12, con12), (27, con27), (28, con28), (25, con25), (26, con26), (29, con29), (30, con30)], lpsOf [], 0⟩
theorem ok8 : ConOk E C 8 con8 :=
  con_ok (D := dat8) ⟨d0Ok, eGood, tblOf_ok (l := [(12, con12), (27, con27), (28, con28), (25, con25), (26, con26), (29, con29), (30, con30)]) ⟨ok12, ⟨ok27, ⟨ok28, ⟨ok25, ⟨ok26, ⟨ok29, ⟨ok30, trivial⟩⟩⟩⟩⟩⟩⟩⟩ con8 (fun a b => a) (fun _ _ => rfl) 1000000 (fn := Try.f8) Try.func8 rfl (by kernel_rfl) (by kernel_rfl) rfl (by intro N a b; kernel_rfl)

end Go.Proofs.Ytphjnagmlgmdfaa
