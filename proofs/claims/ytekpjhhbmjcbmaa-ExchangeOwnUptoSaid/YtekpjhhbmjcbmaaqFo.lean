/-
The functions of this seat, as plain functions over typed data, each with its contract. Printed by wip/tools/fngen.py.
-/
import Derived.Test.YtekpjhhbmjcbmaaqFoa
import Derived.Test.YtekpjhhbmjcbmaaqTvX
import Derived.KernelRfl
set_option linter.unusedVariables false
set_option maxRecDepth 100000
namespace Go.Proofs.Ytekpjhhbmjcbmaa
open Go Go.Ev
structure Srecord_CloneMsgx3 where
  t11 : Int
  g2 : List (GSlotted)
def tsrecord_CloneMsgx3 : List Sl := [.k, .k, .k, .j, .k, .k, .k, .k, .k, .k, .k, .sh (.ty 2), .j, .j, .j, .j, .j, .j, .j, .j, .j, .j, .j, .j, .j, .j, .j, .k, .k, .k, .k, .k, .k, .k, .k, .k, .k, .k, .k, .k, .k, .k]
def hsrecord_CloneMsgx3 : List ESh := [.keep, .keep, .gbx 101]
def torecord_CloneMsgx3 (a : Sl.Ts τ tsrecord_CloneMsgx3) (b : ESh.Ts τ hsrecord_CloneMsgx3) : Srecord_CloneMsgx3 := ⟨a.2.2.2.2.2.2.2.2.2.2.2.1, b.2.2.1⟩
def otrecord_CloneMsgx3 (s : Srecord_CloneMsgx3) : Sl.Ts τ tsrecord_CloneMsgx3 := ((), (), (), (), (), (), (), (), (), (), (), s.t11, (), (), (), (), (), (), (), (), (), (), (), (), (), (), (), (), (), (), (), (), (), (), (), (), (), (), (), (), (), (), ())
def ohrecord_CloneMsgx3 (s : Srecord_CloneMsgx3) : ESh.Ts τ hsrecord_CloneMsgx3 := ((), (), s.g2, ())
def lprecord_CloneMsgx3 : Lp τ := { ts := tsrecord_CloneMsgx3, hs := hsrecord_CloneMsgx3, S := Srecord_CloneMsgx3, to := torecord_CloneMsgx3, ot := otrecord_CloneMsgx3, oh := ohrecord_CloneMsgx3, hk := [2, 2, 4], tk := [0, 2, 3, 0, 2, 0, 0, 2, 2], ot_to := fun _ _ => rfl, oh_to := fun _ _ => rfl }
def Frecord_CloneMsg (N : Nat) (m : GMsg) : Option (Int × GAddr × GAddr × GBallot × Int × Nat × GEntry × Int × (Vector (Int) 8) × Int × Int × Nat × GEpoch × Int × Int × Int × Nat × (List (GSlotted)) × (List (GOp)) × (List (Int))) :=
 ((Fslices_Clone_Slotted_560 N m.List_).bind fun r1 =>
 (iter N (fun (s2 : Srecord_CloneMsgx3) next3 =>
 (bif (decide (s2.t11 < ((r1.1 : Nat) : Int))) then
 (bif (ibB s2.t11 ((r1.1 : Nat) : Int)) then
 (bif (decide ((s2.t11).toNat < (s2.g2).length)) then
 ((Frecord_CloneEntry N (⟨((s2.g2.getD ((s2.t11).toNat) default).Entry).Kind, ((s2.g2.getD ((s2.t11).toNat) default).Entry).Session, ((s2.g2.getD ((s2.t11).toNat) default).Entry).Request, (⟨((((s2.g2.getD ((s2.t11).toNat) default).Entry).Op).Stamp), (((s2.g2.getD ((s2.t11).toNat) default).Entry).Op).Kind, (((s2.g2.getD ((s2.t11).toNat) default).Entry).Op).Node, (((s2.g2.getD ((s2.t11).toNat) default).Entry).Op).Parent, (((s2.g2.getD ((s2.t11).toNat) default).Entry).Op).Name, (((s2.g2.getD ((s2.t11).toNat) default).Entry).Op).Key, (((s2.g2.getD ((s2.t11).toNat) default).Entry).Op).Value⟩ : GOp), ((s2.g2.getD ((s2.t11).toNat) default).Entry).Origin, ((s2.g2.getD ((s2.t11).toNat) default).Entry).Seq, ((s2.g2.getD ((s2.t11).toNat) default).Entry).Ops, (((s2.g2.getD ((s2.t11).toNat) default).Entry).Epoch), ((s2.g2.getD ((s2.t11).toNat) default).Entry).From, ((s2.g2.getD ((s2.t11).toNat) default).Entry).Vector_, ((s2.g2.getD ((s2.t11).toNat) default).Entry).Clock, (((s2.g2.getD ((s2.t11).toNat) default).Entry).Part), ((s2.g2.getD ((s2.t11).toNat) default).Entry).Site, ((s2.g2.getD ((s2.t11).toNat) default).Entry).Sponsor, ((s2.g2.getD ((s2.t11).toNat) default).Entry).Length⟩ : GEntry)).bind fun r4 =>
 (bif (ibB s2.t11 ((r1.1 : Nat) : Int)) then
 (bif (decide ((s2.t11).toNat < (s2.g2).length)) then
 (next3 ⟨(IntKind.i64.wrap (s2.t11 + 1)), (s2.g2.set ((s2.t11).toNat) (⟨(s2.g2.getD ((s2.t11).toNat) default).Slot, ((s2.g2.getD ((s2.t11).toNat) default).Ballot), r4⟩ : GSlotted))⟩)
 else none)
 else none))
 else none)
 else none)
 else
 ((Frecord_CloneEntry N m.Entry).bind fun r5 =>
 ((Fslices_Clone_Op_d99 N m.Ops).bind fun r6 =>
 ((Fslices_Clone_byte_be0 N m.Part.Data).bind fun r7 =>
 (some (m.Kind, m.From, m.To, m.Ballot, m.Slot, r1.1, r5, m.Number, m.Vector_, m.Clock, m.Origin, r6.1, m.Epoch, m.Part.Snap, m.Part.Index, m.Part.Many, r7.1, s2.g2, r6.2, r7.2))))))) ⟨0, r1.2⟩))
def conrecord_CloneMsg : Con τ := { args := [.ty 55], L := [], ret := .agg [.ty 3, .ty 45, .ty 45, .ty 47, .ty 2, .msl 101 0, .ty 53, .ty 2, .ty 24, .ty 2, .ty 3, .msl 43 1, .ty 26, .agg [.ty 2, .ty 3, .ty 3, .msl 5 2]], L' := [.gbx 101, .gbx 43, .gbx 5], R := Int × GAddr × GAddr × GBallot × Int × Nat × GEntry × Int × (Vector (Int) 8) × Int × Int × Nat × GEpoch × Int × Int × Int × Nat × (List (GSlotted)) × (List (GOp)) × (List (Int)), dflt := (default, default, default, default, default, default, default, default, default, default, default, default, default, default, default, default, default, default, default, default), F := fun N a b => Frecord_CloneMsg N a.1, of := fun r => ((r.1, r.2.1, r.2.2.1, r.2.2.2.1, r.2.2.2.2.1, r.2.2.2.2.2.1, r.2.2.2.2.2.2.1, r.2.2.2.2.2.2.2.1, r.2.2.2.2.2.2.2.2.1, r.2.2.2.2.2.2.2.2.2.1, r.2.2.2.2.2.2.2.2.2.2.1, r.2.2.2.2.2.2.2.2.2.2.2.1, r.2.2.2.2.2.2.2.2.2.2.2.2.1, (r.2.2.2.2.2.2.2.2.2.2.2.2.2.1, r.2.2.2.2.2.2.2.2.2.2.2.2.2.2.1, r.2.2.2.2.2.2.2.2.2.2.2.2.2.2.2.1, r.2.2.2.2.2.2.2.2.2.2.2.2.2.2.2.2.1, ()), ()), (r.2.2.2.2.2.2.2.2.2.2.2.2.2.2.2.2.2.1, r.2.2.2.2.2.2.2.2.2.2.2.2.2.2.2.2.2.2.1, r.2.2.2.2.2.2.2.2.2.2.2.2.2.2.2.2.2.2.2, ())) }
noncomputable def datrecord_CloneMsg : Dat τ := { D := D0, tbl := tblOf [(70, conslices_Clone_Slotted_560), (71, conrecord_CloneEntry), (69, conslices_Clone_Op_d99), (72, conslices_Clone_byte_be0)], lp := lpsOf [(3, lprecord_CloneMsgx3)], k0 := 0, mu := [], un := [] }
theorem okrecord_CloneMsg : ConOk E C 48 conrecord_CloneMsg :=
  con_ok (D := datrecord_CloneMsg) ⟨d0Ok, eGood, tblOf_ok ⟨okslices_Clone_Slotted_560, ⟨okrecord_CloneEntry, ⟨okslices_Clone_Op_d99, ⟨okslices_Clone_byte_be0, trivial⟩⟩⟩⟩, fun _ => rfl⟩ conrecord_CloneMsg (fun a b => (a.1, a.2.1, a.2.2.1, a.2.2.2.1, a.2.2.2.2.1, a.2.2.2.2.2.1, a.2.2.2.2.2.2.1, a.2.2.2.2.2.2.2.1, a.2.2.2.2.2.2.2.2.1, a.2.2.2.2.2.2.2.2.2.1, a.2.2.2.2.2.2.2.2.2.2.1, a.2.2.2.2.2.2.2.2.2.2.2.1, a.2.2.2.2.2.2.2.2.2.2.2.2.1, a.2.2.2.2.2.2.2.2.2.2.2.2.2.1.1, a.2.2.2.2.2.2.2.2.2.2.2.2.2.1.2.1, a.2.2.2.2.2.2.2.2.2.2.2.2.2.1.2.2.1, a.2.2.2.2.2.2.2.2.2.2.2.2.2.1.2.2.2.1, b.1, b.2.1, b.2.2.1)) none (fun _ _ => rfl) rfl (fun _ _ h => nomatch h) 1000000 (fn := Try.f48) Try.func48 rfl (by kernel_rfl) (by kernel_rfl) rfl (by intro N a b; kernel_rfl)
structure Slaw16_ExchangeOwn_994x8 where
  t31 : Int
  g2 : List (GOp)
def tslaw16_ExchangeOwn_994x8 : List Sl := [.k, .k, .k, .k, .k, .k, .k, .k, .k, .k, .j, .k, .k, .k, .k, .k, .k, .k, .k, .k, .k, .k, .k, .k, .k, .k, .k, .k, .k, .k, .k, .sh (.ty 2), .j, .j, .j, .j, .j, .j, .j, .j, .k, .k, .k, .k, .k, .k, .k, .k, .k, .k, .k, .k, .k, .k, .k, .k, .k, .k, .k, .k, .k, .k, .k, .k, .k, .k, .k, .k, .k, .k, .k, .k, .k, .k, .k, .k, .k, .k, .k, .k, .k, .k, .k, .k, .k, .k, .k, .k, .k, .k, .k, .k, .k, .k, .k, .k, .k, .k, .k]
def hslaw16_ExchangeOwn_994x8 : List ESh := [.keep, .keep, .gbx 43, .keep, .keep]
def tolaw16_ExchangeOwn_994x8 (a : Sl.Ts τ tslaw16_ExchangeOwn_994x8) (b : ESh.Ts τ hslaw16_ExchangeOwn_994x8) : Slaw16_ExchangeOwn_994x8 := ⟨a.2.2.2.2.2.2.2.2.2.2.2.2.2.2.2.2.2.2.2.2.2.2.2.2.2.2.2.2.2.2.2.1, b.2.2.1⟩
def otlaw16_ExchangeOwn_994x8 (s : Slaw16_ExchangeOwn_994x8) : Sl.Ts τ tslaw16_ExchangeOwn_994x8 := ((), (), (), (), (), (), (), (), (), (), (), (), (), (), (), (), (), (), (), (), (), (), (), (), (), (), (), (), (), (), (), s.t31, (), (), (), (), (), (), (), (), (), (), (), (), (), (), (), (), (), (), (), (), (), (), (), (), (), (), (), (), (), (), (), (), (), (), (), (), (), (), (), (), (), (), (), (), (), (), (), (), (), (), (), (), (), (), (), (), (), (), (), (), (), (), (), (), (), (), (), ())
def ohlaw16_ExchangeOwn_994x8 (s : Slaw16_ExchangeOwn_994x8) : ESh.Ts τ hslaw16_ExchangeOwn_994x8 := ((), (), s.g2, (), (), ())
def lplaw16_ExchangeOwn_994x8 : Lp τ := { ts := tslaw16_ExchangeOwn_994x8, hs := hslaw16_ExchangeOwn_994x8, S := Slaw16_ExchangeOwn_994x8, to := tolaw16_ExchangeOwn_994x8, ot := otlaw16_ExchangeOwn_994x8, oh := ohlaw16_ExchangeOwn_994x8, hk := [1, 4, 4, 4, 2], tk := [0, 0, 0, 0, 0, 0, 0, 0, 0, 6, 0, 0, 0, 0, 0, 0, 0, 0, 0, 0, 0, 0, 0, 0, 0, 0, 0, 0, 6], ot_to := fun _ _ => rfl, oh_to := fun _ _ => rfl }
def Flaw16_ExchangeOwn_994 (N : Nat) (x : Int) (x2 : GStamp) (x3 : GStamp) (x4 : GStamp) (x5 : Int) (x6 : Nat) (x7 : GEntry) (x8 : Int) (x9 : Vector (Int) 8) (x10 : Int) (x11 : Int) (x12 : Nat) (x13 : GEpoch) (x14 : Int) (x15 : Int) (x16 : Int) (x17 : Nat) (s : GSnap) (m : GMsg) (to : GStamp) (x18 : GSnap) (x19 : GSnap) (x20 : GMsg) (x21 : GMsg) (x22 : GSnap) (x23 : GStamp) (x24 : GStamp) (b1 : List (GSlotted)) (b2 : List (GOp)) (b3 : List (Int)) : Option (GSnap × GMsg × GStamp × GSnap × GSnap × GMsg × GMsg × GSnap × GStamp × GStamp × (List (GSlotted)) × (List (GOp)) × (List (Int))) :=
 (iter N (fun (s1 : Slaw16_ExchangeOwn_994x8) next2 =>
 (bif (decide (s1.t31 < ((x12 : Nat) : Int))) then
 (bif (ibB s1.t31 ((x12 : Nat) : Int)) then
 (bif (decide ((s1.t31).toNat < (s1.g2).length)) then
 (next2 ⟨(IntKind.i64.wrap (s1.t31 + 1)), (s1.g2.set ((s1.t31).toNat) (⟨((s1.g2.getD ((s1.t31).toNat) default).Stamp), (s1.g2.getD ((s1.t31).toNat) default).Kind, (-9), (s1.g2.getD ((s1.t31).toNat) default).Parent, (s1.g2.getD ((s1.t31).toNat) default).Name, (s1.g2.getD ((s1.t31).toNat) default).Key, (s1.g2.getD ((s1.t31).toNat) default).Value⟩ : GOp))⟩)
 else none)
 else none)
 else
 (some (s, m, to, x18, x19, x20, x21, x22, x23, x24, b1, s1.g2, b3)))) ⟨0, b2⟩)
def eLlaw16_ExchangeOwn_994 : List ESh := [.rcd 9 7 [.ty 33, .ty 54, .ty 40, .junk, .junk, .junk, .junk, .junk, .junk, .junk, .junk, .junk, .junk, .junk, .junk, .junk, .junk, .junk, .junk, .ty 33, .ty 33, .ty 54, .ty 54, .ty 33, .ty 40, .ty 40, .junk, .junk, .junk, .junk, .junk, .junk, .junk, .junk, .junk, .junk, .junk, .junk, .junk, .junk, .junk, .junk, .junk, .junk, .junk, .junk, .junk, .junk, .junk, .junk, .junk, .junk, .junk, .junk, .junk, .junk, .junk, .junk, .junk, .junk, .junk, .junk, .junk, .junk, .junk, .junk, .junk, .junk, .junk, .junk, .junk, .junk, .junk, .junk, .junk, .junk, .junk, .junk, .junk, .junk, .junk, .junk, .junk, .junk, .junk, .junk, .junk, .junk, .junk, .junk, .junk, .junk, .junk, .junk, .junk, .junk, .junk, .junk, .junk], .gbx 101, .gbx 43, .gbx 5]
def conlaw16_ExchangeOwn_994 : Con τ := { args := [.yld 0, .agg [.ty 2, .ty 40, .ty 40, .ty 40, .ty 2, .msl 101 1, .ty 52, .ty 2, .ty 23, .ty 2, .ty 2, .msl 43 2, .ty 25, .agg [.ty 2, .ty 2, .ty 2, .msl 5 3]]], L := eLlaw16_ExchangeOwn_994, ret := .bo true, L' := eLlaw16_ExchangeOwn_994, R := GSnap × GMsg × GStamp × GSnap × GSnap × GMsg × GMsg × GSnap × GStamp × GStamp × (List (GSlotted)) × (List (GOp)) × (List (Int)), dflt := (default, default, default, default, default, default, default, default, default, default, default, default, default), F := fun N a b => Flaw16_ExchangeOwn_994 N a.2.1.1 a.2.1.2.1 a.2.1.2.2.1 a.2.1.2.2.2.1 a.2.1.2.2.2.2.1 a.2.1.2.2.2.2.2.1 a.2.1.2.2.2.2.2.2.1 a.2.1.2.2.2.2.2.2.2.1 a.2.1.2.2.2.2.2.2.2.2.1 a.2.1.2.2.2.2.2.2.2.2.2.1 a.2.1.2.2.2.2.2.2.2.2.2.2.1 a.2.1.2.2.2.2.2.2.2.2.2.2.2.1 a.2.1.2.2.2.2.2.2.2.2.2.2.2.2.1 a.2.1.2.2.2.2.2.2.2.2.2.2.2.2.2.1.1 a.2.1.2.2.2.2.2.2.2.2.2.2.2.2.2.1.2.1 a.2.1.2.2.2.2.2.2.2.2.2.2.2.2.2.1.2.2.1 a.2.1.2.2.2.2.2.2.2.2.2.2.2.2.2.1.2.2.2.1 b.1.1 b.1.2.1 b.1.2.2.1 b.1.2.2.2.2.2.2.2.2.2.2.2.2.2.2.2.2.2.2.2.1 b.1.2.2.2.2.2.2.2.2.2.2.2.2.2.2.2.2.2.2.2.2.1 b.1.2.2.2.2.2.2.2.2.2.2.2.2.2.2.2.2.2.2.2.2.2.1 b.1.2.2.2.2.2.2.2.2.2.2.2.2.2.2.2.2.2.2.2.2.2.2.1 b.1.2.2.2.2.2.2.2.2.2.2.2.2.2.2.2.2.2.2.2.2.2.2.2.1 b.1.2.2.2.2.2.2.2.2.2.2.2.2.2.2.2.2.2.2.2.2.2.2.2.2.1 b.1.2.2.2.2.2.2.2.2.2.2.2.2.2.2.2.2.2.2.2.2.2.2.2.2.2.1 b.2.1 b.2.2.1 b.2.2.2.1, of := fun r => ((), ((r.1, r.2.1, r.2.2.1, (), (), (), (), (), (), (), (), (), (), (), (), (), (), (), (), r.2.2.2.1, r.2.2.2.2.1, r.2.2.2.2.2.1, r.2.2.2.2.2.2.1, r.2.2.2.2.2.2.2.1, r.2.2.2.2.2.2.2.2.1, r.2.2.2.2.2.2.2.2.2.1, (), (), (), (), (), (), (), (), (), (), (), (), (), (), (), (), (), (), (), (), (), (), (), (), (), (), (), (), (), (), (), (), (), (), (), (), (), (), (), (), (), (), (), (), (), (), (), (), (), (), (), (), (), (), (), (), (), (), (), (), (), (), (), (), (), (), (), (), (), (), (), (), (), ()), r.2.2.2.2.2.2.2.2.2.2.1, r.2.2.2.2.2.2.2.2.2.2.2.1, r.2.2.2.2.2.2.2.2.2.2.2.2, ())) }
noncomputable def datlaw16_ExchangeOwn_994 : Dat τ := { D := D0, tbl := tblOf [], lp := lpsOf [(8, lplaw16_ExchangeOwn_994x8)], k0 := 4, mu := [], un := [], fid := 9 }
theorem oklaw16_ExchangeOwn_994 : ConOk E C yieldF conlaw16_ExchangeOwn_994 :=
  con_round (D := datlaw16_ExchangeOwn_994) ⟨d0Ok, eGood, tblOf_ok trivial, fun _ => rfl⟩ (f := 9) (k := 7) (ps := [27]) (by kernel_rfl) rfl (fun a b => (b.1.1, b.1.2.1, b.1.2.2.1, b.1.2.2.2.2.2.2.2.2.2.2.2.2.2.2.2.2.2.2.2.1, b.1.2.2.2.2.2.2.2.2.2.2.2.2.2.2.2.2.2.2.2.2.1, b.1.2.2.2.2.2.2.2.2.2.2.2.2.2.2.2.2.2.2.2.2.2.1, b.1.2.2.2.2.2.2.2.2.2.2.2.2.2.2.2.2.2.2.2.2.2.2.1, b.1.2.2.2.2.2.2.2.2.2.2.2.2.2.2.2.2.2.2.2.2.2.2.2.1, b.1.2.2.2.2.2.2.2.2.2.2.2.2.2.2.2.2.2.2.2.2.2.2.2.2.1, b.1.2.2.2.2.2.2.2.2.2.2.2.2.2.2.2.2.2.2.2.2.2.2.2.2.2.1, b.2.1, b.2.2.1, b.2.2.2.1)) none (fun _ _ => rfl) rfl (fun _ _ h => nomatch h) 1000000 (by kernel_rfl) (by kernel_rfl) (by kernel_rfl) (by kernel_rfl) rfl (by intro l N a b; kernel_rfl)
structure Sexchange_Push_1_f79x1 where
  t7 : Int
  z0 : GSnap
  z02 : GMsg
  z03 : GStamp
  z04 : GSnap
  z05 : GSnap
  z06 : GMsg
  z07 : GMsg
  z08 : GSnap
  z09 : GStamp
  z010 : GStamp
def tsexchange_Push_1_f79x1 : List Sl := [.k, .k, .k, .k, .j, .k, .k, .sh (.ty 2), .j, .j, .j, .j, .j, .j, .j, .j, .j]
def hsexchange_Push_1_f79x1 : List ESh := [.rcd 9 7 [.ty 33, .ty 54, .ty 40, .junk, .junk, .junk, .junk, .junk, .junk, .junk, .junk, .junk, .junk, .junk, .junk, .junk, .junk, .junk, .junk, .ty 33, .ty 33, .ty 54, .ty 54, .ty 33, .ty 40, .ty 40, .junk, .junk, .junk, .junk, .junk, .junk, .junk, .junk, .junk, .junk, .junk, .junk, .junk, .junk, .junk, .junk, .junk, .junk, .junk, .junk, .junk, .junk, .junk, .junk, .junk, .junk, .junk, .junk, .junk, .junk, .junk, .junk, .junk, .junk, .junk, .junk, .junk, .junk, .junk, .junk, .junk, .junk, .junk, .junk, .junk, .junk, .junk, .junk, .junk, .junk, .junk, .junk, .junk, .junk, .junk, .junk, .junk, .junk, .junk, .junk, .junk, .junk, .junk, .junk, .junk, .junk, .junk, .junk, .junk, .junk, .junk, .junk, .junk], .keep]
def toexchange_Push_1_f79x1 (a : Sl.Ts τ tsexchange_Push_1_f79x1) (b : ESh.Ts τ hsexchange_Push_1_f79x1) : Sexchange_Push_1_f79x1 := ⟨a.2.2.2.2.2.2.2.1, b.1.1, b.1.2.1, b.1.2.2.1, b.1.2.2.2.2.2.2.2.2.2.2.2.2.2.2.2.2.2.2.2.1, b.1.2.2.2.2.2.2.2.2.2.2.2.2.2.2.2.2.2.2.2.2.1, b.1.2.2.2.2.2.2.2.2.2.2.2.2.2.2.2.2.2.2.2.2.2.1, b.1.2.2.2.2.2.2.2.2.2.2.2.2.2.2.2.2.2.2.2.2.2.2.1, b.1.2.2.2.2.2.2.2.2.2.2.2.2.2.2.2.2.2.2.2.2.2.2.2.1, b.1.2.2.2.2.2.2.2.2.2.2.2.2.2.2.2.2.2.2.2.2.2.2.2.2.1, b.1.2.2.2.2.2.2.2.2.2.2.2.2.2.2.2.2.2.2.2.2.2.2.2.2.2.1⟩
def otexchange_Push_1_f79x1 (s : Sexchange_Push_1_f79x1) : Sl.Ts τ tsexchange_Push_1_f79x1 := ((), (), (), (), (), (), (), s.t7, (), (), (), (), (), (), (), (), (), ())
def ohexchange_Push_1_f79x1 (s : Sexchange_Push_1_f79x1) : ESh.Ts τ hsexchange_Push_1_f79x1 := ((s.z0, s.z02, s.z03, (), (), (), (), (), (), (), (), (), (), (), (), (), (), (), (), s.z04, s.z05, s.z06, s.z07, s.z08, s.z09, s.z010, (), (), (), (), (), (), (), (), (), (), (), (), (), (), (), (), (), (), (), (), (), (), (), (), (), (), (), (), (), (), (), (), (), (), (), (), (), (), (), (), (), (), (), (), (), (), (), (), (), (), (), (), (), (), (), (), (), (), (), (), (), (), (), (), (), (), (), (), (), (), (), (), (), ()), (), ())
def lpexchange_Push_1_f79x1 : Lp τ := { ts := tsexchange_Push_1_f79x1, hs := hsexchange_Push_1_f79x1, S := Sexchange_Push_1_f79x1, to := toexchange_Push_1_f79x1, ot := otexchange_Push_1_f79x1, oh := ohexchange_Push_1_f79x1, hk := [6, 2], tk := [0, 3], ot_to := fun _ _ => rfl, oh_to := fun _ _ => rfl }
def Fexchange_Push_1_f79 (N : Nat) (z0 : GSnap) (z02 : GMsg) (z03 : GStamp) (z04 : GSnap) (z05 : GSnap) (z06 : GMsg) (z07 : GMsg) (z08 : GSnap) (z09 : GStamp) (z010 : GStamp) (b1 : List (GMsg)) : Option (GSnap × GMsg × GStamp × GSnap × GSnap × GMsg × GMsg × GSnap × GStamp × GStamp × (List (GMsg))) :=
 (iter N (fun (s1 : Sexchange_Push_1_f79x1) next2 =>
 (bif (decide (s1.t7 < ((b1).length : Int))) then
 (bif (ibB s1.t7 ((b1).length : Int)) then
 ((Frecord_CloneMsg N (⟨(lget b1 s1.t7 default).Kind, ((lget b1 s1.t7 default).From), ((lget b1 s1.t7 default).To), ((lget b1 s1.t7 default).Ballot), (lget b1 s1.t7 default).Slot, (lget b1 s1.t7 default).List_, (⟨((lget b1 s1.t7 default).Entry).Kind, ((lget b1 s1.t7 default).Entry).Session, ((lget b1 s1.t7 default).Entry).Request, (⟨((((lget b1 s1.t7 default).Entry).Op).Stamp), (((lget b1 s1.t7 default).Entry).Op).Kind, (((lget b1 s1.t7 default).Entry).Op).Node, (((lget b1 s1.t7 default).Entry).Op).Parent, (((lget b1 s1.t7 default).Entry).Op).Name, (((lget b1 s1.t7 default).Entry).Op).Key, (((lget b1 s1.t7 default).Entry).Op).Value⟩ : GOp), ((lget b1 s1.t7 default).Entry).Origin, ((lget b1 s1.t7 default).Entry).Seq, ((lget b1 s1.t7 default).Entry).Ops, (((lget b1 s1.t7 default).Entry).Epoch), ((lget b1 s1.t7 default).Entry).From, ((lget b1 s1.t7 default).Entry).Vector_, ((lget b1 s1.t7 default).Entry).Clock, (((lget b1 s1.t7 default).Entry).Part), ((lget b1 s1.t7 default).Entry).Site, ((lget b1 s1.t7 default).Entry).Sponsor, ((lget b1 s1.t7 default).Entry).Length⟩ : GEntry), (lget b1 s1.t7 default).Number, (lget b1 s1.t7 default).Vector_, (lget b1 s1.t7 default).Clock, (lget b1 s1.t7 default).Origin, (lget b1 s1.t7 default).Ops, ((lget b1 s1.t7 default).Epoch), ((lget b1 s1.t7 default).Part)⟩ : GMsg)).bind fun r3 =>
 ((Flaw16_ExchangeOwn_994 N r3.1 (⟨r3.2.1.Group, r3.2.1.Replica⟩ : GStamp) (⟨r3.2.2.1.Group, r3.2.2.1.Replica⟩ : GStamp) (⟨r3.2.2.2.1.Round, r3.2.2.2.1.Replica⟩ : GStamp) r3.2.2.2.2.1 r3.2.2.2.2.2.1 r3.2.2.2.2.2.2.1 r3.2.2.2.2.2.2.2.1 r3.2.2.2.2.2.2.2.2.1 r3.2.2.2.2.2.2.2.2.2.1 r3.2.2.2.2.2.2.2.2.2.2.1 r3.2.2.2.2.2.2.2.2.2.2.2.1 r3.2.2.2.2.2.2.2.2.2.2.2.2.1 r3.2.2.2.2.2.2.2.2.2.2.2.2.2.1 r3.2.2.2.2.2.2.2.2.2.2.2.2.2.2.1 r3.2.2.2.2.2.2.2.2.2.2.2.2.2.2.2.1 r3.2.2.2.2.2.2.2.2.2.2.2.2.2.2.2.2.1 s1.z0 s1.z02 s1.z03 s1.z04 s1.z05 s1.z06 s1.z07 s1.z08 s1.z09 s1.z010 r3.2.2.2.2.2.2.2.2.2.2.2.2.2.2.2.2.2.1 r3.2.2.2.2.2.2.2.2.2.2.2.2.2.2.2.2.2.2.1 r3.2.2.2.2.2.2.2.2.2.2.2.2.2.2.2.2.2.2.2).bind fun r4 =>
 (next2 ⟨(IntKind.i64.wrap (s1.t7 + 1)), r4.1, r4.2.1, r4.2.2.1, r4.2.2.2.1, r4.2.2.2.2.1, r4.2.2.2.2.2.1, r4.2.2.2.2.2.2.1, r4.2.2.2.2.2.2.2.1, r4.2.2.2.2.2.2.2.2.1, r4.2.2.2.2.2.2.2.2.2.1⟩)))
 else none)
 else
 (some (s1.z0, s1.z02, s1.z03, s1.z04, s1.z05, s1.z06, s1.z07, s1.z08, s1.z09, s1.z010, b1)))) ⟨0, z0, z02, z03, z04, z05, z06, z07, z08, z09, z010⟩)
def eLexchange_Push_1_f79 : List ESh := [.rcd 9 7 [.ty 33, .ty 54, .ty 40, .junk, .junk, .junk, .junk, .junk, .junk, .junk, .junk, .junk, .junk, .junk, .junk, .junk, .junk, .junk, .junk, .ty 33, .ty 33, .ty 54, .ty 54, .ty 33, .ty 40, .ty 40, .junk, .junk, .junk, .junk, .junk, .junk, .junk, .junk, .junk, .junk, .junk, .junk, .junk, .junk, .junk, .junk, .junk, .junk, .junk, .junk, .junk, .junk, .junk, .junk, .junk, .junk, .junk, .junk, .junk, .junk, .junk, .junk, .junk, .junk, .junk, .junk, .junk, .junk, .junk, .junk, .junk, .junk, .junk, .junk, .junk, .junk, .junk, .junk, .junk, .junk, .junk, .junk, .junk, .junk, .junk, .junk, .junk, .junk, .junk, .junk, .junk, .junk, .junk, .junk, .junk, .junk, .junk, .junk, .junk, .junk, .junk, .junk, .junk], .box (.ty 65)]
def conexchange_Push_1_f79 : Con τ := { args := [.yld 0, .ptr 1 []], L := eLexchange_Push_1_f79, ret := .tup [], L' := eLexchange_Push_1_f79, R := GSnap × GMsg × GStamp × GSnap × GSnap × GMsg × GMsg × GSnap × GStamp × GStamp × (List (GMsg)), dflt := (default, default, default, default, default, default, default, default, default, default, default), F := fun N a b => Fexchange_Push_1_f79 N b.1.1 b.1.2.1 b.1.2.2.1 b.1.2.2.2.2.2.2.2.2.2.2.2.2.2.2.2.2.2.2.2.1 b.1.2.2.2.2.2.2.2.2.2.2.2.2.2.2.2.2.2.2.2.2.1 b.1.2.2.2.2.2.2.2.2.2.2.2.2.2.2.2.2.2.2.2.2.2.1 b.1.2.2.2.2.2.2.2.2.2.2.2.2.2.2.2.2.2.2.2.2.2.2.1 b.1.2.2.2.2.2.2.2.2.2.2.2.2.2.2.2.2.2.2.2.2.2.2.2.1 b.1.2.2.2.2.2.2.2.2.2.2.2.2.2.2.2.2.2.2.2.2.2.2.2.2.1 b.1.2.2.2.2.2.2.2.2.2.2.2.2.2.2.2.2.2.2.2.2.2.2.2.2.2.1 b.2.1, of := fun r => ((), ((r.1, r.2.1, r.2.2.1, (), (), (), (), (), (), (), (), (), (), (), (), (), (), (), (), r.2.2.2.1, r.2.2.2.2.1, r.2.2.2.2.2.1, r.2.2.2.2.2.2.1, r.2.2.2.2.2.2.2.1, r.2.2.2.2.2.2.2.2.1, r.2.2.2.2.2.2.2.2.2.1, (), (), (), (), (), (), (), (), (), (), (), (), (), (), (), (), (), (), (), (), (), (), (), (), (), (), (), (), (), (), (), (), (), (), (), (), (), (), (), (), (), (), (), (), (), (), (), (), (), (), (), (), (), (), (), (), (), (), (), (), (), (), (), (), (), (), (), (), (), (), (), (), (), ()), r.2.2.2.2.2.2.2.2.2.2, ())) }
noncomputable def datexchange_Push_1_f79 : Dat τ := { D := D0, tbl := tblOf [(48, conrecord_CloneMsg), (1000000, conlaw16_ExchangeOwn_994)], lp := lpsOf [(1, lpexchange_Push_1_f79x1)], k0 := 2, mu := [], un := [] }
theorem okexchange_Push_1_f79 : ConOk E C 47 conexchange_Push_1_f79 :=
  con_ok (D := datexchange_Push_1_f79) ⟨d0Ok, eGood, tblOf_ok ⟨okrecord_CloneMsg, ⟨oklaw16_ExchangeOwn_994, trivial⟩⟩, fun _ => rfl⟩ conexchange_Push_1_f79 (fun a b => (b.1.1, b.1.2.1, b.1.2.2.1, b.1.2.2.2.2.2.2.2.2.2.2.2.2.2.2.2.2.2.2.2.1, b.1.2.2.2.2.2.2.2.2.2.2.2.2.2.2.2.2.2.2.2.2.1, b.1.2.2.2.2.2.2.2.2.2.2.2.2.2.2.2.2.2.2.2.2.2.1, b.1.2.2.2.2.2.2.2.2.2.2.2.2.2.2.2.2.2.2.2.2.2.2.1, b.1.2.2.2.2.2.2.2.2.2.2.2.2.2.2.2.2.2.2.2.2.2.2.2.1, b.1.2.2.2.2.2.2.2.2.2.2.2.2.2.2.2.2.2.2.2.2.2.2.2.2.1, b.1.2.2.2.2.2.2.2.2.2.2.2.2.2.2.2.2.2.2.2.2.2.2.2.2.2.1, b.2.1)) none (fun _ _ => rfl) rfl (fun _ _ h => nomatch h) 1000000 (fn := Try.f47) Try.func47 rfl (by kernel_rfl) (by kernel_rfl) rfl (by intro N a b; kernel_rfl)
structure Srecord_mayAddrx2 where
  t7 : Int
def tsrecord_mayAddrx2 : List Sl := [.k, .k, .j, .k, .j, .k, .k, .sh (.ty 2), .j, .j, .j, .j, .j, .j, .j, .j, .j, .j, .j, .j, .j, .j, .j, .j, .j, .j, .j, .j, .j, .j]
def hsrecord_mayAddrx2 : List ESh := []
def torecord_mayAddrx2 (a : Sl.Ts τ tsrecord_mayAddrx2) (b : ESh.Ts τ hsrecord_mayAddrx2) : Srecord_mayAddrx2 := ⟨a.2.2.2.2.2.2.2.1⟩
def otrecord_mayAddrx2 (s : Srecord_mayAddrx2) : Sl.Ts τ tsrecord_mayAddrx2 := ((), (), (), (), (), (), (), s.t7, (), (), (), (), (), (), (), (), (), (), (), (), (), (), (), (), (), (), (), (), (), (), ())
def ohrecord_mayAddrx2 (s : Srecord_mayAddrx2) : ESh.Ts τ hsrecord_mayAddrx2 := ()
def lprecord_mayAddrx2 : Lp τ := { ts := tsrecord_mayAddrx2, hs := hsrecord_mayAddrx2, S := Srecord_mayAddrx2, to := torecord_mayAddrx2, ot := otrecord_mayAddrx2, oh := ohrecord_mayAddrx2, hk := [], tk := [], ot_to := fun _ _ => rfl, oh_to := fun _ _ => rfl }
def Frecord_mayAddr (N : Nat) (l : List (GAddr)) : Option (Bool) :=
 (iter N (fun (s1 : Srecord_mayAddrx2) next2 =>
 (bif (decide (s1.t7 < ((l).length : Int))) then
 (bif (ibB s1.t7 ((l).length : Int)) then
 (bif ((((decide (((lget l s1.t7 default).Group) < 0)) || (decide (9 ≤ ((lget l s1.t7 default).Group)))) || (decide (((lget l s1.t7 default).Replica) < 0))) || (decide (5 ≤ ((lget l s1.t7 default).Replica)))) then
 (some false)
 else
 (next2 ⟨(IntKind.i64.wrap (s1.t7 + 1))⟩))
 else none)
 else
 (some true))) ⟨0⟩)
def conrecord_mayAddr : Con τ := { args := [.ty 107], L := [], ret := .ty 4, L' := [], R := Bool, dflt := default, F := fun N a b => Frecord_mayAddr N a.1, of := fun r => (r, ()) }
noncomputable def datrecord_mayAddr : Dat τ := { D := D0, tbl := tblOf [], lp := lpsOf [(2, lprecord_mayAddrx2)], k0 := 0, mu := [], un := [] }
theorem okrecord_mayAddr : ConOk E C 82 conrecord_mayAddr :=
  con_ok (D := datrecord_mayAddr) ⟨d0Ok, eGood, tblOf_ok trivial, fun _ => rfl⟩ conrecord_mayAddr (fun a b => a) none (fun _ _ => rfl) rfl (fun _ _ h => nomatch h) 1000000 (fn := Try.f82) Try.func82 rfl (by kernel_rfl) (by kernel_rfl) rfl (by intro N a b; kernel_rfl)
structure Srecord_countx2 where
  t7 : Int
def tsrecord_countx2 : List Sl := [.k, .k, .j, .k, .j, .k, .k, .sh (.ty 2), .j, .j, .j, .j, .j, .j, .j, .j, .j, .j]
def hsrecord_countx2 : List ESh := []
def torecord_countx2 (a : Sl.Ts τ tsrecord_countx2) (b : ESh.Ts τ hsrecord_countx2) : Srecord_countx2 := ⟨a.2.2.2.2.2.2.2.1⟩
def otrecord_countx2 (s : Srecord_countx2) : Sl.Ts τ tsrecord_countx2 := ((), (), (), (), (), (), (), s.t7, (), (), (), (), (), (), (), (), (), (), ())
def ohrecord_countx2 (s : Srecord_countx2) : ESh.Ts τ hsrecord_countx2 := ()
def lprecord_countx2 : Lp τ := { ts := tsrecord_countx2, hs := hsrecord_countx2, S := Srecord_countx2, to := torecord_countx2, ot := otrecord_countx2, oh := ohrecord_countx2, hk := [], tk := [], ot_to := fun _ _ => rfl, oh_to := fun _ _ => rfl }
def Frecord_count (N : Nat) (l : List (Int)) : Option (Bool) :=
 (iter N (fun (s1 : Srecord_countx2) next2 =>
 (bif (decide (s1.t7 < ((l).length : Int))) then
 (bif (ibB s1.t7 ((l).length : Int)) then
 (bif ((decide ((lget l s1.t7 default) < 0)) || (decide (1099511627776 < (lget l s1.t7 default)))) then
 (some false)
 else
 (next2 ⟨(IntKind.i64.wrap (s1.t7 + 1))⟩))
 else none)
 else
 (some true))) ⟨0⟩)
def conrecord_count : Con τ := { args := [.ty 126], L := [], ret := .ty 4, L' := [], R := Bool, dflt := default, F := fun N a b => Frecord_count N a.1, of := fun r => (r, ()) }
noncomputable def datrecord_count : Dat τ := { D := D0, tbl := tblOf [], lp := lpsOf [(2, lprecord_countx2)], k0 := 0, mu := [], un := [] }
theorem okrecord_count : ConOk E C 88 conrecord_count :=
  con_ok (D := datrecord_count) ⟨d0Ok, eGood, tblOf_ok trivial, fun _ => rfl⟩ conrecord_count (fun a b => a) none (fun _ _ => rfl) rfl (fun _ _ h => nomatch h) 1000000 (fn := Try.f88) Try.func88 rfl (by kernel_rfl) (by kernel_rfl) rfl (by intro N a b; kernel_rfl)
def Frecord_mayBallot (N : Nat) (b : GBallot) : Option (Bool) :=
 ((Frecord_count N [b.Round]).bind fun r1 =>
 (some ((r1 && (decide (0 ≤ b.Replica))) && (decide (b.Replica < 5)))))
def conrecord_mayBallot : Con τ := { args := [.ty 47], L := [], ret := .ty 4, L' := [], R := Bool, dflt := default, F := fun N a b => Frecord_mayBallot N a.1, of := fun r => (r, ()) }
noncomputable def datrecord_mayBallot : Dat τ := { D := D0, tbl := tblOf [(88, conrecord_count)], lp := lpsOf [], k0 := 0, mu := [], un := [] }
theorem okrecord_mayBallot : ConOk E C 87 conrecord_mayBallot :=
  con_ok (D := datrecord_mayBallot) ⟨d0Ok, eGood, tblOf_ok ⟨okrecord_count, trivial⟩, fun _ => rfl⟩ conrecord_mayBallot (fun a b => a) none (fun _ _ => rfl) rfl (fun _ _ h => nomatch h) 1000000 (fn := Try.f87) Try.func87 rfl (by kernel_rfl) (by kernel_rfl) rfl (by intro N a b; kernel_rfl)
structure Sslices_Equal_Opx4 where
  t13 : Int
def tsslices_Equal_Opx4 : List Sl := [.k, .k, .k, .k, .j, .j, .k, .k, .k, .k, .k, .k, .k, .sh (.ty 2), .j, .j, .j, .j, .j, .j, .j, .j, .j, .j, .j, .j]
def hsslices_Equal_Opx4 : List ESh := []
def toslices_Equal_Opx4 (a : Sl.Ts τ tsslices_Equal_Opx4) (b : ESh.Ts τ hsslices_Equal_Opx4) : Sslices_Equal_Opx4 := ⟨a.2.2.2.2.2.2.2.2.2.2.2.2.2.1⟩
def otslices_Equal_Opx4 (s : Sslices_Equal_Opx4) : Sl.Ts τ tsslices_Equal_Opx4 := ((), (), (), (), (), (), (), (), (), (), (), (), (), s.t13, (), (), (), (), (), (), (), (), (), (), (), (), ())
def ohslices_Equal_Opx4 (s : Sslices_Equal_Opx4) : ESh.Ts τ hsslices_Equal_Opx4 := ()
def lpslices_Equal_Opx4 : Lp τ := { ts := tsslices_Equal_Opx4, hs := hsslices_Equal_Opx4, S := Sslices_Equal_Opx4, to := toslices_Equal_Opx4, ot := otslices_Equal_Opx4, oh := ohslices_Equal_Opx4, hk := [], tk := [], ot_to := fun _ _ => rfl, oh_to := fun _ _ => rfl }
def Fslices_Equal_Op (N : Nat) (s1_ : List (GOp)) (s2_ : List (GOp)) : Option (Bool) :=
 (bif (!(((s1_).length : Int) == ((s2_).length : Int))) then
 (some false)
 else
 (iter N (fun (s1 : Sslices_Equal_Opx4) next2 =>
 (bif (decide (s1.t13 < ((s1_).length : Int))) then
 (bif (ibB s1.t13 ((s1_).length : Int)) then
 (bif (ibB s1.t13 ((s2_).length : Int)) then
 (bif (!((((((lget s1_ s1.t13 default).Stamp).Time) == (((lget s2_ s1.t13 default).Stamp).Time)) && ((((lget s1_ s1.t13 default).Stamp).Site) == (((lget s2_ s1.t13 default).Stamp).Site))) && ((((lget s1_ s1.t13 default).Kind) == ((lget s2_ s1.t13 default).Kind)) && ((((lget s1_ s1.t13 default).Node) == ((lget s2_ s1.t13 default).Node)) && ((((lget s1_ s1.t13 default).Parent) == ((lget s2_ s1.t13 default).Parent)) && ((((lget s1_ s1.t13 default).Name) == ((lget s2_ s1.t13 default).Name)) && ((((lget s1_ s1.t13 default).Key) == ((lget s2_ s1.t13 default).Key)) && (((lget s1_ s1.t13 default).Value) == ((lget s2_ s1.t13 default).Value))))))))) then
 (some false)
 else
 (next2 ⟨(IntKind.i64.wrap (s1.t13 + 1))⟩))
 else none)
 else none)
 else
 (some true))) ⟨0⟩))
def conslices_Equal_Op : Con τ := { args := [.ty 28, .ty 28], L := [], ret := .ty 4, L' := [], R := Bool, dflt := default, F := fun N a b => Fslices_Equal_Op N a.1 a.2.1, of := fun r => (r, ()) }
noncomputable def datslices_Equal_Op : Dat τ := { D := D0, tbl := tblOf [], lp := lpsOf [(4, lpslices_Equal_Opx4)], k0 := 0, mu := [], un := [] }
theorem okslices_Equal_Op : ConOk E C 128 conslices_Equal_Op :=
  con_ok (D := datslices_Equal_Op) ⟨d0Ok, eGood, tblOf_ok trivial, fun _ => rfl⟩ conslices_Equal_Op (fun a b => a) none (fun _ _ => rfl) rfl (fun _ _ h => nomatch h) 1000000 (fn := Try.f128) Try.func128 rfl (by kernel_rfl) (by kernel_rfl) rfl (by intro N a b; kernel_rfl)
def Frecord_samePart (N : Nat) (a : GPart) (b : GPart) : Option (Bool) :=
 (some ((((a.Snap == b.Snap) && (a.Index == b.Index)) && (a.Many == b.Many)) && ((strI a.Data) == (strI b.Data))))
def conrecord_samePart : Con τ := { args := [.ty 51, .ty 51], L := [], ret := .ty 4, L' := [], R := Bool, dflt := default, F := fun N a b => Frecord_samePart N a.1 a.2.1, of := fun r => (r, ()) }
noncomputable def datrecord_samePart : Dat τ := { D := D0, tbl := tblOf [], lp := lpsOf [], k0 := 0, mu := [], un := [] }
theorem okrecord_samePart : ConOk E C 129 conrecord_samePart :=
  con_ok (D := datrecord_samePart) ⟨d0Ok, eGood, tblOf_ok trivial, fun _ => rfl⟩ conrecord_samePart (fun a b => a) none (fun _ _ => rfl) rfl (fun _ _ h => nomatch h) 1000000 (fn := Try.f129) Try.func129 rfl (by kernel_rfl) (by kernel_rfl) rfl (by intro N a b; kernel_rfl)
def Frecord_SameEntry (N : Nat) (a : GEntry) (b : GEntry) : Option (Bool) :=
 ((bif ((((((a.Kind == b.Kind) && (a.Session == b.Session)) && (a.Request == b.Request)) && (((a.Op.Stamp.Time == b.Op.Stamp.Time) && (a.Op.Stamp.Site == b.Op.Stamp.Site)) && ((a.Op.Kind == b.Op.Kind) && ((a.Op.Node == b.Op.Node) && ((a.Op.Parent == b.Op.Parent) && ((a.Op.Name == b.Op.Name) && ((a.Op.Key == b.Op.Key) && (a.Op.Value == b.Op.Value)))))))) && (a.Origin == b.Origin)) && (a.Seq == b.Seq)) then Fslices_Equal_Op N a.Ops b.Ops else some default).bind fun r1 =>
 ((bif (((((((((((a.Kind == b.Kind) && (a.Session == b.Session)) && (a.Request == b.Request)) && (((a.Op.Stamp.Time == b.Op.Stamp.Time) && (a.Op.Stamp.Site == b.Op.Stamp.Site)) && ((a.Op.Kind == b.Op.Kind) && ((a.Op.Node == b.Op.Node) && ((a.Op.Parent == b.Op.Parent) && ((a.Op.Name == b.Op.Name) && ((a.Op.Key == b.Op.Key) && (a.Op.Value == b.Op.Value)))))))) && (a.Origin == b.Origin)) && (a.Seq == b.Seq)) && r1) && ((a.Epoch.Number == b.Epoch.Number) && ((vbeq beq3 a.Epoch.States b.Epoch.States) && ((vbeq beq2 a.Epoch.Seals b.Epoch.Seals) && (vbeq beq3 a.Epoch.Sponsor b.Epoch.Sponsor))))) && (a.From == b.From)) && (vbeq beq2 a.Vector_ b.Vector_)) && (a.Clock == b.Clock)) then Frecord_samePart N a.Part b.Part else some default).bind fun r2 =>
 (some (((((((((((((((a.Kind == b.Kind) && (a.Session == b.Session)) && (a.Request == b.Request)) && (((a.Op.Stamp.Time == b.Op.Stamp.Time) && (a.Op.Stamp.Site == b.Op.Stamp.Site)) && ((a.Op.Kind == b.Op.Kind) && ((a.Op.Node == b.Op.Node) && ((a.Op.Parent == b.Op.Parent) && ((a.Op.Name == b.Op.Name) && ((a.Op.Key == b.Op.Key) && (a.Op.Value == b.Op.Value)))))))) && (a.Origin == b.Origin)) && (a.Seq == b.Seq)) && r1) && ((a.Epoch.Number == b.Epoch.Number) && ((vbeq beq3 a.Epoch.States b.Epoch.States) && ((vbeq beq2 a.Epoch.Seals b.Epoch.Seals) && (vbeq beq3 a.Epoch.Sponsor b.Epoch.Sponsor))))) && (a.From == b.From)) && (vbeq beq2 a.Vector_ b.Vector_)) && (a.Clock == b.Clock)) && r2) && (a.Site == b.Site)) && (a.Sponsor == b.Sponsor)) && (a.Length == b.Length)))))
def conrecord_SameEntry : Con τ := { args := [.ty 53, .ty 53], L := [], ret := .ty 4, L' := [], R := Bool, dflt := default, F := fun N a b => Frecord_SameEntry N a.1 a.2.1, of := fun r => (r, ()) }
noncomputable def datrecord_SameEntry : Dat τ := { D := D0, tbl := tblOf [(128, conslices_Equal_Op), (129, conrecord_samePart)], lp := lpsOf [], k0 := 0, mu := [], un := [] }
theorem okrecord_SameEntry : ConOk E C 125 conrecord_SameEntry :=
  con_ok (D := datrecord_SameEntry) ⟨d0Ok, eGood, tblOf_ok ⟨okslices_Equal_Op, ⟨okrecord_samePart, trivial⟩⟩, fun _ => rfl⟩ conrecord_SameEntry (fun a b => a) none (fun _ _ => rfl) rfl (fun _ _ h => nomatch h) 1000000 (fn := Try.f125) Try.func125 rfl (by kernel_rfl) (by kernel_rfl) rfl (by intro N a b; kernel_rfl)
def Frecord_verdict (N : Nat) (ok : Bool) : Option (Int) :=
 (bif ok then
 (some 0)
 else
 (some 40))
def conrecord_verdict : Con τ := { args := [.ty 4], L := [], ret := .ty 56, L' := [], R := Int, dflt := default, F := fun N a b => Frecord_verdict N a.1, of := fun r => (r, ()) }
noncomputable def datrecord_verdict : Dat τ := { D := D0, tbl := tblOf [], lp := lpsOf [], k0 := 0, mu := [], un := [] }
theorem okrecord_verdict : ConOk E C 91 conrecord_verdict :=
  con_ok (D := datrecord_verdict) ⟨d0Ok, eGood, tblOf_ok trivial, fun _ => rfl⟩ conrecord_verdict (fun a b => a) none (fun _ _ => rfl) rfl (fun _ _ h => nomatch h) 1000000 (fn := Try.f91) Try.func91 rfl (by kernel_rfl) (by kernel_rfl) rfl (by intro N a b; kernel_rfl)
structure Srecord_sitex2 where
  t7 : Int
def tsrecord_sitex2 : List Sl := [.k, .k, .j, .k, .j, .k, .k, .sh (.ty 2), .j, .j, .j, .j, .j, .j, .j, .j, .j, .j]
def hsrecord_sitex2 : List ESh := []
def torecord_sitex2 (a : Sl.Ts τ tsrecord_sitex2) (b : ESh.Ts τ hsrecord_sitex2) : Srecord_sitex2 := ⟨a.2.2.2.2.2.2.2.1⟩
def otrecord_sitex2 (s : Srecord_sitex2) : Sl.Ts τ tsrecord_sitex2 := ((), (), (), (), (), (), (), s.t7, (), (), (), (), (), (), (), (), (), (), ())
def ohrecord_sitex2 (s : Srecord_sitex2) : ESh.Ts τ hsrecord_sitex2 := ()
def lprecord_sitex2 : Lp τ := { ts := tsrecord_sitex2, hs := hsrecord_sitex2, S := Srecord_sitex2, to := torecord_sitex2, ot := otrecord_sitex2, oh := ohrecord_sitex2, hk := [], tk := [], ot_to := fun _ _ => rfl, oh_to := fun _ _ => rfl }
def Frecord_site (N : Nat) (l : List (Int)) : Option (Bool) :=
 (iter N (fun (s1 : Srecord_sitex2) next2 =>
 (bif (decide (s1.t7 < ((l).length : Int))) then
 (bif (ibB s1.t7 ((l).length : Int)) then
 (bif ((decide ((lget l s1.t7 default) < 0)) || (decide (8 ≤ (lget l s1.t7 default)))) then
 (some false)
 else
 (next2 ⟨(IntKind.i64.wrap (s1.t7 + 1))⟩))
 else none)
 else
 (some true))) ⟨0⟩)
def conrecord_site : Con τ := { args := [.ty 60], L := [], ret := .ty 4, L' := [], R := Bool, dflt := default, F := fun N a b => Frecord_site N a.1, of := fun r => (r, ()) }
noncomputable def datrecord_site : Dat τ := { D := D0, tbl := tblOf [], lp := lpsOf [(2, lprecord_sitex2)], k0 := 0, mu := [], un := [] }
theorem okrecord_site : ConOk E C 83 conrecord_site :=
  con_ok (D := datrecord_site) ⟨d0Ok, eGood, tblOf_ok trivial, fun _ => rfl⟩ conrecord_site (fun a b => a) none (fun _ _ => rfl) rfl (fun _ _ h => nomatch h) 1000000 (fn := Try.f83) Try.func83 rfl (by kernel_rfl) (by kernel_rfl) rfl (by intro N a b; kernel_rfl)
structure Srecord_nodex2 where
  t7 : Int
def tsrecord_nodex2 : List Sl := [.k, .k, .j, .k, .j, .k, .k, .sh (.ty 2), .j, .j, .j, .j, .j, .j, .j, .j, .j, .j]
def hsrecord_nodex2 : List ESh := []
def torecord_nodex2 (a : Sl.Ts τ tsrecord_nodex2) (b : ESh.Ts τ hsrecord_nodex2) : Srecord_nodex2 := ⟨a.2.2.2.2.2.2.2.1⟩
def otrecord_nodex2 (s : Srecord_nodex2) : Sl.Ts τ tsrecord_nodex2 := ((), (), (), (), (), (), (), s.t7, (), (), (), (), (), (), (), (), (), (), ())
def ohrecord_nodex2 (s : Srecord_nodex2) : ESh.Ts τ hsrecord_nodex2 := ()
def lprecord_nodex2 : Lp τ := { ts := tsrecord_nodex2, hs := hsrecord_nodex2, S := Srecord_nodex2, to := torecord_nodex2, ot := otrecord_nodex2, oh := ohrecord_nodex2, hk := [], tk := [], ot_to := fun _ _ => rfl, oh_to := fun _ _ => rfl }
def Frecord_node (N : Nat) (l : List (Int)) : Option (Bool) :=
 (iter N (fun (s1 : Srecord_nodex2) next2 =>
 (bif (decide (s1.t7 < ((l).length : Int))) then
 (bif (ibB s1.t7 ((l).length : Int)) then
 (bif ((decide ((lget l s1.t7 default) < 0)) || (decide (1125899906842624 < (lget l s1.t7 default)))) then
 (some false)
 else
 (next2 ⟨(IntKind.i64.wrap (s1.t7 + 1))⟩))
 else none)
 else
 (some true))) ⟨0⟩)
def conrecord_node : Con τ := { args := [.ty 126], L := [], ret := .ty 4, L' := [], R := Bool, dflt := default, F := fun N a b => Frecord_node N a.1, of := fun r => (r, ()) }
noncomputable def datrecord_node : Dat τ := { D := D0, tbl := tblOf [], lp := lpsOf [(2, lprecord_nodex2)], k0 := 0, mu := [], un := [] }
theorem okrecord_node : ConOk E C 135 conrecord_node :=
  con_ok (D := datrecord_node) ⟨d0Ok, eGood, tblOf_ok trivial, fun _ => rfl⟩ conrecord_node (fun a b => a) none (fun _ _ => rfl) rfl (fun _ _ h => nomatch h) 1000000 (fn := Try.f135) Try.func135 rfl (by kernel_rfl) (by kernel_rfl) rfl (by intro N a b; kernel_rfl)
structure Srecord_textx2 where
  t7 : Int
def tsrecord_textx2 : List Sl := [.k, .k, .j, .k, .j, .k, .k, .sh (.ty 2), .j, .j, .j, .j, .j, .j, .j]
def hsrecord_textx2 : List ESh := []
def torecord_textx2 (a : Sl.Ts τ tsrecord_textx2) (b : ESh.Ts τ hsrecord_textx2) : Srecord_textx2 := ⟨a.2.2.2.2.2.2.2.1⟩
def otrecord_textx2 (s : Srecord_textx2) : Sl.Ts τ tsrecord_textx2 := ((), (), (), (), (), (), (), s.t7, (), (), (), (), (), (), (), ())
def ohrecord_textx2 (s : Srecord_textx2) : ESh.Ts τ hsrecord_textx2 := ()
def lprecord_textx2 : Lp τ := { ts := tsrecord_textx2, hs := hsrecord_textx2, S := Srecord_textx2, to := torecord_textx2, ot := otrecord_textx2, oh := ohrecord_textx2, hk := [], tk := [], ot_to := fun _ _ => rfl, oh_to := fun _ _ => rfl }
def Frecord_text (N : Nat) (l : List (List UInt8)) : Option (Bool) :=
 (iter N (fun (s1 : Srecord_textx2) next2 =>
 (bif (decide (s1.t7 < ((l).length : Int))) then
 (bif (ibB s1.t7 ((l).length : Int)) then
 (bif (decide (255 < (((lget l s1.t7 default)).length : Int))) then
 (some false)
 else
 (next2 ⟨(IntKind.i64.wrap (s1.t7 + 1))⟩))
 else none)
 else
 (some true))) ⟨0⟩)
def conrecord_text : Con τ := { args := [.ty 102], L := [], ret := .ty 4, L' := [], R := Bool, dflt := default, F := fun N a b => Frecord_text N a.1, of := fun r => (r, ()) }
noncomputable def datrecord_text : Dat τ := { D := D0, tbl := tblOf [], lp := lpsOf [(2, lprecord_textx2)], k0 := 0, mu := [], un := [] }
theorem okrecord_text : ConOk E C 136 conrecord_text :=
  con_ok (D := datrecord_text) ⟨d0Ok, eGood, tblOf_ok trivial, fun _ => rfl⟩ conrecord_text (fun a b => a) none (fun _ _ => rfl) rfl (fun _ _ h => nomatch h) 1000000 (fn := Try.f136) Try.func136 rfl (by kernel_rfl) (by kernel_rfl) rfl (by intro N a b; kernel_rfl)
def Frecord_mayOp (N : Nat) (op : GOp) : Option (Bool) :=
 ((Frecord_count N [op.Stamp.Time]).bind fun r1 =>
 ((bif r1 then Frecord_site N [op.Stamp.Site] else some default).bind fun r2 =>
 ((bif (((r1 && r2) && (decide (1 ≤ op.Kind))) && (decide (op.Kind ≤ 3))) then Frecord_node N [op.Node, op.Parent] else some default).bind fun r3 =>
 ((bif ((((r1 && r2) && (decide (1 ≤ op.Kind))) && (decide (op.Kind ≤ 3))) && r3) then Frecord_text N [op.Name, op.Key, op.Value] else some default).bind fun r4 =>
 (some (((((r1 && r2) && (decide (1 ≤ op.Kind))) && (decide (op.Kind ≤ 3))) && r3) && r4))))))
def conrecord_mayOp : Con τ := { args := [.ty 43], L := [], ret := .ty 4, L' := [], R := Bool, dflt := default, F := fun N a b => Frecord_mayOp N a.1, of := fun r => (r, ()) }
noncomputable def datrecord_mayOp : Dat τ := { D := D0, tbl := tblOf [(88, conrecord_count), (83, conrecord_site), (135, conrecord_node), (136, conrecord_text)], lp := lpsOf [], k0 := 0, mu := [], un := [] }
theorem okrecord_mayOp : ConOk E C 122 conrecord_mayOp :=
  con_ok (D := datrecord_mayOp) ⟨d0Ok, eGood, tblOf_ok ⟨okrecord_count, ⟨okrecord_site, ⟨okrecord_node, ⟨okrecord_text, trivial⟩⟩⟩⟩, fun _ => rfl⟩ conrecord_mayOp (fun a b => a) none (fun _ _ => rfl) rfl (fun _ _ h => nomatch h) 1000000 (fn := Try.f122) Try.func122 rfl (by kernel_rfl) (by kernel_rfl) rfl (by intro N a b; kernel_rfl)
def Frecord_mayOps_1 (N : Nat) (op : GOp) : Option (Bool) :=
 ((Frecord_mayOp N op).bind fun r1 =>
 (some (!r1)))
def conrecord_mayOps_1 : Con τ := { args := [.ty 43], L := [], ret := .ty 4, L' := [], R := Bool, dflt := default, F := fun N a b => Frecord_mayOps_1 N a.1, of := fun r => (r, ()) }
noncomputable def datrecord_mayOps_1 : Dat τ := { D := D0, tbl := tblOf [(122, conrecord_mayOp)], lp := lpsOf [], k0 := 0, mu := [], un := [] }
theorem okrecord_mayOps_1 : ConOk E C 121 conrecord_mayOps_1 :=
  con_ok (D := datrecord_mayOps_1) ⟨d0Ok, eGood, tblOf_ok ⟨okrecord_mayOp, trivial⟩, fun _ => rfl⟩ conrecord_mayOps_1 (fun a b => a) none (fun _ _ => rfl) rfl (fun _ _ h => nomatch h) 1000000 (fn := Try.f121) Try.func121 rfl (by kernel_rfl) (by kernel_rfl) rfl (by intro N a b; kernel_rfl)
structure Sslices_IndexFunc_Op_d73x2 where
  t8 : Int
def tsslices_IndexFunc_Op_d73x2 : List Sl := [.k, .k, .k, .k, .j, .j, .k, .k, .sh (.ty 2), .j, .j, .j, .j, .j, .j, .j, .j, .j, .j]
def hsslices_IndexFunc_Op_d73x2 : List ESh := []
def toslices_IndexFunc_Op_d73x2 (a : Sl.Ts τ tsslices_IndexFunc_Op_d73x2) (b : ESh.Ts τ hsslices_IndexFunc_Op_d73x2) : Sslices_IndexFunc_Op_d73x2 := ⟨a.2.2.2.2.2.2.2.2.1⟩
def otslices_IndexFunc_Op_d73x2 (s : Sslices_IndexFunc_Op_d73x2) : Sl.Ts τ tsslices_IndexFunc_Op_d73x2 := ((), (), (), (), (), (), (), (), s.t8, (), (), (), (), (), (), (), (), (), (), ())
def ohslices_IndexFunc_Op_d73x2 (s : Sslices_IndexFunc_Op_d73x2) : ESh.Ts τ hsslices_IndexFunc_Op_d73x2 := ()
def lpslices_IndexFunc_Op_d73x2 : Lp τ := { ts := tsslices_IndexFunc_Op_d73x2, hs := hsslices_IndexFunc_Op_d73x2, S := Sslices_IndexFunc_Op_d73x2, to := toslices_IndexFunc_Op_d73x2, ot := otslices_IndexFunc_Op_d73x2, oh := ohslices_IndexFunc_Op_d73x2, hk := [], tk := [], ot_to := fun _ _ => rfl, oh_to := fun _ _ => rfl }
def Fslices_IndexFunc_Op_d73 (N : Nat) (s : List (GOp)) : Option (Int) :=
 (iter N (fun (s1 : Sslices_IndexFunc_Op_d73x2) next2 =>
 (bif (decide (s1.t8 < ((s).length : Int))) then
 (bif (ibB s1.t8 ((s).length : Int)) then
 ((Frecord_mayOps_1 N (⟨((lget s s1.t8 default).Stamp), (lget s s1.t8 default).Kind, (lget s s1.t8 default).Node, (lget s s1.t8 default).Parent, (lget s s1.t8 default).Name, (lget s s1.t8 default).Key, (lget s s1.t8 default).Value⟩ : GOp)).bind fun r3 =>
 (bif r3 then
 (some s1.t8)
 else
 (next2 ⟨(IntKind.i64.wrap (s1.t8 + 1))⟩)))
 else none)
 else
 (some (-1)))) ⟨0⟩)
def conslices_IndexFunc_Op_d73 : Con τ := { args := [.ty 28, .fn 121 []], L := [], ret := .ty 3, L' := [], R := Int, dflt := default, F := fun N a b => Fslices_IndexFunc_Op_d73 N a.1, of := fun r => (r, ()) }
noncomputable def datslices_IndexFunc_Op_d73 : Dat τ := { D := D0, tbl := tblOf [(121, conrecord_mayOps_1)], lp := lpsOf [(2, lpslices_IndexFunc_Op_d73x2)], k0 := 0, mu := [], un := [] }
theorem okslices_IndexFunc_Op_d73 : ConOk E C 134 conslices_IndexFunc_Op_d73 :=
  con_ok (D := datslices_IndexFunc_Op_d73) ⟨d0Ok, eGood, tblOf_ok ⟨okrecord_mayOps_1, trivial⟩, fun _ => rfl⟩ conslices_IndexFunc_Op_d73 (fun a b => a) none (fun _ _ => rfl) rfl (fun _ _ h => nomatch h) 1000000 (fn := Try.f134) Try.func134 rfl (by kernel_rfl) (by kernel_rfl) rfl (by intro N a b; kernel_rfl)
def Fslices_ContainsFunc_Op_d73 (N : Nat) (s : List (GOp)) : Option (Bool) :=
 ((Fslices_IndexFunc_Op_d73 N s).bind fun r1 =>
 (some (decide (0 ≤ r1))))
def conslices_ContainsFunc_Op_d73 : Con τ := { args := [.ty 28, .fn 121 []], L := [], ret := .ty 4, L' := [], R := Bool, dflt := default, F := fun N a b => Fslices_ContainsFunc_Op_d73 N a.1, of := fun r => (r, ()) }
noncomputable def datslices_ContainsFunc_Op_d73 : Dat τ := { D := D0, tbl := tblOf [(134, conslices_IndexFunc_Op_d73)], lp := lpsOf [], k0 := 0, mu := [], un := [] }
theorem okslices_ContainsFunc_Op_d73 : ConOk E C 120 conslices_ContainsFunc_Op_d73 :=
  con_ok (D := datslices_ContainsFunc_Op_d73) ⟨d0Ok, eGood, tblOf_ok ⟨okslices_IndexFunc_Op_d73, trivial⟩, fun _ => rfl⟩ conslices_ContainsFunc_Op_d73 (fun a b => a) none (fun _ _ => rfl) rfl (fun _ _ h => nomatch h) 1000000 (fn := Try.f120) Try.func120 rfl (by kernel_rfl) (by kernel_rfl) rfl (by intro N a b; kernel_rfl)
def Frecord_mayOps (N : Nat) (l : List (GOp)) (least : Int) : Option (Bool) :=
 ((bif ((decide (least ≤ ((l).length : Int))) && (decide (((l).length : Int) ≤ 4096))) then Fslices_ContainsFunc_Op_d73 N l else some default).bind fun r1 =>
 (some (((decide (least ≤ ((l).length : Int))) && (decide (((l).length : Int) ≤ 4096))) && (!r1))))
def conrecord_mayOps : Con τ := { args := [.ty 28, .ty 3], L := [], ret := .ty 4, L' := [], R := Bool, dflt := default, F := fun N a b => Frecord_mayOps N a.1 a.2.1, of := fun r => (r, ()) }
noncomputable def datrecord_mayOps : Dat τ := { D := D0, tbl := tblOf [(120, conslices_ContainsFunc_Op_d73)], lp := lpsOf [], k0 := 0, mu := [], un := [] }
theorem okrecord_mayOps : ConOk E C 84 conrecord_mayOps :=
  con_ok (D := datrecord_mayOps) ⟨d0Ok, eGood, tblOf_ok ⟨okslices_ContainsFunc_Op_d73, trivial⟩, fun _ => rfl⟩ conrecord_mayOps (fun a b => a) none (fun _ _ => rfl) rfl (fun _ _ h => nomatch h) 1000000 (fn := Try.f84) Try.func84 rfl (by kernel_rfl) (by kernel_rfl) rfl (by intro N a b; kernel_rfl)
structure Srecord_mayEpochx3 where
  ok : Bool
  t14 : Int
def tsrecord_mayEpochx3 : List Sl := [.k, .k, .k, .sh (.ty 4), .j, .k, .k, .k, .k, .k, .j, .k, .j, .k, .sh (.ty 2), .j, .j, .j, .j, .j, .j, .j, .j, .j, .j, .j, .j, .j, .j, .j, .j, .j, .j, .j, .j, .j, .j, .j, .j, .j, .j, .j, .j, .j, .j, .j, .j, .k]
def hsrecord_mayEpochx3 : List ESh := [.keep]
def torecord_mayEpochx3 (a : Sl.Ts τ tsrecord_mayEpochx3) (b : ESh.Ts τ hsrecord_mayEpochx3) : Srecord_mayEpochx3 := ⟨a.2.2.2.1, a.2.2.2.2.2.2.2.2.2.2.2.2.2.2.1⟩
def otrecord_mayEpochx3 (s : Srecord_mayEpochx3) : Sl.Ts τ tsrecord_mayEpochx3 := ((), (), (), s.ok, (), (), (), (), (), (), (), (), (), (), s.t14, (), (), (), (), (), (), (), (), (), (), (), (), (), (), (), (), (), (), (), (), (), (), (), (), (), (), (), (), (), (), (), (), (), ())
def ohrecord_mayEpochx3 (s : Srecord_mayEpochx3) : ESh.Ts τ hsrecord_mayEpochx3 := ((), ())
def lprecord_mayEpochx3 : Lp τ := { ts := tsrecord_mayEpochx3, hs := hsrecord_mayEpochx3, S := Srecord_mayEpochx3, to := torecord_mayEpochx3, ot := otrecord_mayEpochx3, oh := ohrecord_mayEpochx3, hk := [3], tk := [0, 2, 0, 0, 0, 2], ot_to := fun _ _ => rfl, oh_to := fun _ _ => rfl }
structure Srecord_mayEpochx3a where
  ok : Bool
  t14 : Int
def tsrecord_mayEpochx3a : List Sl := [.k, .k, .k, .sh (.ty 4), .j, .k, .k, .k, .k, .k, .j, .k, .k, .k, .sh (.ty 2), .j, .j, .j, .j, .j, .j, .j, .j, .j, .j, .j, .j, .j, .j, .j, .j, .j, .j, .j, .j, .j, .j, .j, .j, .j, .j, .j, .j, .j, .j, .j, .j, .k]
def hsrecord_mayEpochx3a : List ESh := [.keep]
def torecord_mayEpochx3a (a : Sl.Ts τ tsrecord_mayEpochx3a) (b : ESh.Ts τ hsrecord_mayEpochx3a) : Srecord_mayEpochx3a := ⟨a.2.2.2.1, a.2.2.2.2.2.2.2.2.2.2.2.2.2.2.1⟩
def otrecord_mayEpochx3a (s : Srecord_mayEpochx3a) : Sl.Ts τ tsrecord_mayEpochx3a := ((), (), (), s.ok, (), (), (), (), (), (), (), (), (), (), s.t14, (), (), (), (), (), (), (), (), (), (), (), (), (), (), (), (), (), (), (), (), (), (), (), (), (), (), (), (), (), (), (), (), (), ())
def ohrecord_mayEpochx3a (s : Srecord_mayEpochx3a) : ESh.Ts τ hsrecord_mayEpochx3a := ((), ())
def lprecord_mayEpochx3a : Lp τ := { ts := tsrecord_mayEpochx3a, hs := hsrecord_mayEpochx3a, S := Srecord_mayEpochx3a, to := torecord_mayEpochx3a, ot := otrecord_mayEpochx3a, oh := ohrecord_mayEpochx3a, hk := [2], tk := [0, 2, 0, 0, 0, 2], ot_to := fun _ _ => rfl, oh_to := fun _ _ => rfl }
def Frecord_mayEpoch (N : Nat) (e : GEpoch) : Option (Bool) :=
 ((Frecord_count N [e.Number]).bind fun r1 =>
 (bif r1 then
 ((bif r1 then Frecord_count N (e.Seals.toList) else some default).bind fun r2 =>
 (iter N (fun (s3 : Srecord_mayEpochx3) next4 =>
 (bif (decide (s3.t14 < 8)) then
 (bif (!s3.ok || (ibB s3.t14 8)) then
 (bif (!(s3.ok && (decide (0 ≤ (vget e.States ((s3.t14).toNat) default)))) || (ibB s3.t14 8)) then
 (bif (!((s3.ok && (decide (0 ≤ (vget e.States ((s3.t14).toNat) default)))) && (decide ((vget e.States ((s3.t14).toNat) default) ≤ 3))) || (ibB s3.t14 8)) then
 (bif (!(((s3.ok && (decide (0 ≤ (vget e.States ((s3.t14).toNat) default)))) && (decide ((vget e.States ((s3.t14).toNat) default) ≤ 3))) && (decide ((-1) ≤ (vget e.Sponsor ((s3.t14).toNat) default)))) || (ibB s3.t14 8)) then
 (next4 ⟨((((s3.ok && (decide (0 ≤ (vget e.States ((s3.t14).toNat) default)))) && (decide ((vget e.States ((s3.t14).toNat) default) ≤ 3))) && (decide ((-1) ≤ (vget e.Sponsor ((s3.t14).toNat) default)))) && (decide ((vget e.Sponsor ((s3.t14).toNat) default) < 8))), (IntKind.i64.wrap (s3.t14 + 1))⟩)
 else none)
 else none)
 else none)
 else none)
 else
 (some s3.ok))) ⟨(r1 && r2), 0⟩))
 else
 (iter N (fun (s5 : Srecord_mayEpochx3a) next6 =>
 (bif (decide (s5.t14 < 8)) then
 (bif (!s5.ok || (ibB s5.t14 8)) then
 (bif (!(s5.ok && (decide (0 ≤ (vget e.States ((s5.t14).toNat) default)))) || (ibB s5.t14 8)) then
 (bif (!((s5.ok && (decide (0 ≤ (vget e.States ((s5.t14).toNat) default)))) && (decide ((vget e.States ((s5.t14).toNat) default) ≤ 3))) || (ibB s5.t14 8)) then
 (bif (!(((s5.ok && (decide (0 ≤ (vget e.States ((s5.t14).toNat) default)))) && (decide ((vget e.States ((s5.t14).toNat) default) ≤ 3))) && (decide ((-1) ≤ (vget e.Sponsor ((s5.t14).toNat) default)))) || (ibB s5.t14 8)) then
 (next6 ⟨((((s5.ok && (decide (0 ≤ (vget e.States ((s5.t14).toNat) default)))) && (decide ((vget e.States ((s5.t14).toNat) default) ≤ 3))) && (decide ((-1) ≤ (vget e.Sponsor ((s5.t14).toNat) default)))) && (decide ((vget e.Sponsor ((s5.t14).toNat) default) < 8))), (IntKind.i64.wrap (s5.t14 + 1))⟩)
 else none)
 else none)
 else none)
 else none)
 else
 (some s5.ok))) ⟨false, 0⟩)))
def conrecord_mayEpoch : Con τ := { args := [.ty 26], L := [], ret := .ty 4, L' := [], R := Bool, dflt := default, F := fun N a b => Frecord_mayEpoch N a.1, of := fun r => (r, ()) }
noncomputable def datrecord_mayEpoch : Dat τ := { D := D0, tbl := tblOf [(88, conrecord_count)], lp := lpsOf [(3, lprecord_mayEpochx3), (3, lprecord_mayEpochx3a)], k0 := 0, mu := [], un := [] }
theorem okrecord_mayEpoch : ConOk E C 85 conrecord_mayEpoch :=
  con_ok (D := datrecord_mayEpoch) ⟨d0Ok, eGood, tblOf_ok ⟨okrecord_count, trivial⟩, fun _ => rfl⟩ conrecord_mayEpoch (fun a b => a) none (fun _ _ => rfl) rfl (fun _ _ h => nomatch h) 1000000 (fn := Try.f85) Try.func85 rfl (by kernel_rfl) (by kernel_rfl) rfl (by intro N a b; kernel_rfl)
def Frecord_mayPart (N : Nat) (p : GPart) : Option (Bool) :=
 ((Frecord_count N [p.Snap]).bind fun r1 =>
 (some (((((r1 && (decide (1 ≤ p.Many))) && (decide (p.Many ≤ 4096))) && (decide (0 ≤ p.Index))) && (decide (p.Index < p.Many))) && (decide (((p.Data).length : Int) ≤ 16384)))))
def conrecord_mayPart : Con τ := { args := [.ty 51], L := [], ret := .ty 4, L' := [], R := Bool, dflt := default, F := fun N a b => Frecord_mayPart N a.1, of := fun r => (r, ()) }
noncomputable def datrecord_mayPart : Dat τ := { D := D0, tbl := tblOf [(88, conrecord_count)], lp := lpsOf [], k0 := 0, mu := [], un := [] }
theorem okrecord_mayPart : ConOk E C 86 conrecord_mayPart :=
  con_ok (D := datrecord_mayPart) ⟨d0Ok, eGood, tblOf_ok ⟨okrecord_count, trivial⟩, fun _ => rfl⟩ conrecord_mayPart (fun a b => a) none (fun _ _ => rfl) rfl (fun _ _ h => nomatch h) 1000000 (fn := Try.f86) Try.func86 rfl (by kernel_rfl) (by kernel_rfl) rfl (by intro N a b; kernel_rfl)
def Frecord_CheckEntry (N : Nat) (e : GEntry) : Option (Int) :=
 (bif (e.Kind == 0) then
 ((Frecord_SameEntry N (⟨e.Kind, 0, 0, (⟨(⟨0, 0⟩ : GStamp), 0, 0, 0, [], [], []⟩ : GOp), 0, 0, [], (⟨0, (Vector.replicate 8 (default : Int)), (Vector.replicate 8 (default : Int)), (Vector.replicate 8 (default : Int))⟩ : GEpoch), 0, (Vector.replicate 8 (default : Int)), 0, (⟨0, 0, 0, []⟩ : GPart), 0, 0, 0⟩ : GEntry) e).bind fun r1 =>
 ((Frecord_verdict N r1).bind fun r2 =>
 (some r2)))
 else
 (bif (e.Kind == 1) then
 ((Frecord_count N [e.Session, e.Request]).bind fun r3 =>
 ((bif ((r3 && (decide (0 < e.Session))) && (decide (0 < e.Request))) then Frecord_mayOp N e.Op else some default).bind fun r4 =>
 ((bif (((r3 && (decide (0 < e.Session))) && (decide (0 < e.Request))) && r4) then Frecord_SameEntry N (⟨e.Kind, e.Session, e.Request, e.Op, 0, 0, [], (⟨0, (Vector.replicate 8 (default : Int)), (Vector.replicate 8 (default : Int)), (Vector.replicate 8 (default : Int))⟩ : GEpoch), 0, (Vector.replicate 8 (default : Int)), 0, (⟨0, 0, 0, []⟩ : GPart), 0, 0, 0⟩ : GEntry) e else some default).bind fun r5 =>
 ((Frecord_verdict N ((((r3 && (decide (0 < e.Session))) && (decide (0 < e.Request))) && r4) && r5)).bind fun r6 =>
 (some r6)))))
 else
 (bif (e.Kind == 2) then
 ((Frecord_site N [e.Origin]).bind fun r7 =>
 ((bif r7 then Frecord_count N [e.Seq] else some default).bind fun r8 =>
 ((bif (r7 && r8) then Frecord_mayOps N e.Ops 1 else some default).bind fun r9 =>
 ((bif ((r7 && r8) && r9) then Frecord_SameEntry N (⟨e.Kind, 0, 0, (⟨(⟨0, 0⟩ : GStamp), 0, 0, 0, [], [], []⟩ : GOp), e.Origin, e.Seq, e.Ops, (⟨0, (Vector.replicate 8 (default : Int)), (Vector.replicate 8 (default : Int)), (Vector.replicate 8 (default : Int))⟩ : GEpoch), 0, (Vector.replicate 8 (default : Int)), 0, (⟨0, 0, 0, []⟩ : GPart), 0, 0, 0⟩ : GEntry) e else some default).bind fun r10 =>
 ((Frecord_verdict N (((r7 && r8) && r9) && r10)).bind fun r11 =>
 (some r11))))))
 else
 (bif (e.Kind == 3) then
 ((Frecord_mayEpoch N e.Epoch).bind fun r12 =>
 ((bif r12 then Frecord_SameEntry N (⟨e.Kind, 0, 0, (⟨(⟨0, 0⟩ : GStamp), 0, 0, 0, [], [], []⟩ : GOp), 0, 0, [], e.Epoch, 0, (Vector.replicate 8 (default : Int)), 0, (⟨0, 0, 0, []⟩ : GPart), 0, 0, 0⟩ : GEntry) e else some default).bind fun r13 =>
 ((Frecord_verdict N (r12 && r13)).bind fun r14 =>
 (some r14))))
 else
 (bif (e.Kind == 4) then
 ((Frecord_count N [e.Seq, e.Clock]).bind fun r15 =>
 ((bif r15 then Frecord_site N [e.From] else some default).bind fun r16 =>
 (bif (r15 && r16) then
 ((bif (r15 && r16) then Frecord_count N (e.Vector_.toList) else some default).bind fun r17 =>
 ((bif ((r15 && r16) && r17) then Frecord_SameEntry N (⟨e.Kind, 0, 0, (⟨(⟨0, 0⟩ : GStamp), 0, 0, 0, [], [], []⟩ : GOp), 0, e.Seq, [], (⟨0, (Vector.replicate 8 (default : Int)), (Vector.replicate 8 (default : Int)), (Vector.replicate 8 (default : Int))⟩ : GEpoch), e.From, e.Vector_, e.Clock, (⟨0, 0, 0, []⟩ : GPart), 0, 0, 0⟩ : GEntry) e else some default).bind fun r18 =>
 ((Frecord_verdict N (((r15 && r16) && r17) && r18)).bind fun r19 =>
 (some r19))))
 else
 ((bif false then Frecord_SameEntry N (⟨e.Kind, 0, 0, (⟨(⟨0, 0⟩ : GStamp), 0, 0, 0, [], [], []⟩ : GOp), 0, e.Seq, [], (⟨0, (Vector.replicate 8 (default : Int)), (Vector.replicate 8 (default : Int)), (Vector.replicate 8 (default : Int))⟩ : GEpoch), e.From, e.Vector_, e.Clock, (⟨0, 0, 0, []⟩ : GPart), 0, 0, 0⟩ : GEntry) e else some default).bind fun r20 =>
 ((Frecord_verdict N false).bind fun r21 =>
 (some r21))))))
 else
 (bif (e.Kind == 5) then
 ((Frecord_mayPart N e.Part).bind fun r22 =>
 ((bif r22 then Frecord_SameEntry N (⟨e.Kind, 0, 0, (⟨(⟨0, 0⟩ : GStamp), 0, 0, 0, [], [], []⟩ : GOp), 0, 0, [], (⟨0, (Vector.replicate 8 (default : Int)), (Vector.replicate 8 (default : Int)), (Vector.replicate 8 (default : Int))⟩ : GEpoch), 0, (Vector.replicate 8 (default : Int)), 0, e.Part, 0, 0, 0⟩ : GEntry) e else some default).bind fun r23 =>
 ((Frecord_verdict N (r22 && r23)).bind fun r24 =>
 (some r24))))
 else
 (bif (e.Kind == 6) then
 ((Frecord_site N [e.Site, e.Sponsor]).bind fun r25 =>
 ((bif r25 then Frecord_SameEntry N (⟨e.Kind, 0, 0, (⟨(⟨0, 0⟩ : GStamp), 0, 0, 0, [], [], []⟩ : GOp), 0, 0, [], (⟨0, (Vector.replicate 8 (default : Int)), (Vector.replicate 8 (default : Int)), (Vector.replicate 8 (default : Int))⟩ : GEpoch), 0, (Vector.replicate 8 (default : Int)), 0, (⟨0, 0, 0, []⟩ : GPart), e.Site, e.Sponsor, 0⟩ : GEntry) e else some default).bind fun r26 =>
 ((Frecord_verdict N (r25 && r26)).bind fun r27 =>
 (some r27))))
 else
 (bif (e.Kind == 7) then
 ((Frecord_site N [e.Site]).bind fun r28 =>
 ((bif r28 then Frecord_SameEntry N (⟨e.Kind, 0, 0, (⟨(⟨0, 0⟩ : GStamp), 0, 0, 0, [], [], []⟩ : GOp), 0, 0, [], (⟨0, (Vector.replicate 8 (default : Int)), (Vector.replicate 8 (default : Int)), (Vector.replicate 8 (default : Int))⟩ : GEpoch), 0, (Vector.replicate 8 (default : Int)), 0, (⟨0, 0, 0, []⟩ : GPart), e.Site, 0, 0⟩ : GEntry) e else some default).bind fun r29 =>
 ((Frecord_verdict N (r28 && r29)).bind fun r30 =>
 (some r30))))
 else
 (bif (e.Kind == 8) then
 ((Frecord_site N [e.Site]).bind fun r31 =>
 ((bif r31 then Frecord_count N [e.Length] else some default).bind fun r32 =>
 ((bif (r31 && r32) then Frecord_SameEntry N (⟨e.Kind, 0, 0, (⟨(⟨0, 0⟩ : GStamp), 0, 0, 0, [], [], []⟩ : GOp), 0, 0, [], (⟨0, (Vector.replicate 8 (default : Int)), (Vector.replicate 8 (default : Int)), (Vector.replicate 8 (default : Int))⟩ : GEpoch), 0, (Vector.replicate 8 (default : Int)), 0, (⟨0, 0, 0, []⟩ : GPart), e.Site, 0, e.Length⟩ : GEntry) e else some default).bind fun r33 =>
 ((Frecord_verdict N ((r31 && r32) && r33)).bind fun r34 =>
 (some r34)))))
 else
 ((bif false then Frecord_SameEntry N (⟨e.Kind, 0, 0, (⟨(⟨0, 0⟩ : GStamp), 0, 0, 0, [], [], []⟩ : GOp), 0, 0, [], (⟨0, (Vector.replicate 8 (default : Int)), (Vector.replicate 8 (default : Int)), (Vector.replicate 8 (default : Int))⟩ : GEpoch), 0, (Vector.replicate 8 (default : Int)), 0, (⟨0, 0, 0, []⟩ : GPart), 0, 0, 0⟩ : GEntry) e else some default).bind fun r35 =>
 ((Frecord_verdict N false).bind fun r36 =>
 (some r36))))))))))))
def conrecord_CheckEntry : Con τ := { args := [.ty 53], L := [], ret := .ty 56, L' := [], R := Int, dflt := default, F := fun N a b => Frecord_CheckEntry N a.1, of := fun r => (r, ()) }
noncomputable def datrecord_CheckEntry : Dat τ := { D := D0, tbl := tblOf [(125, conrecord_SameEntry), (91, conrecord_verdict), (88, conrecord_count), (122, conrecord_mayOp), (83, conrecord_site), (84, conrecord_mayOps), (85, conrecord_mayEpoch), (86, conrecord_mayPart)], lp := lpsOf [], k0 := 0, mu := [], un := [] }
theorem okrecord_CheckEntry : ConOk E C 90 conrecord_CheckEntry :=
  con_ok (D := datrecord_CheckEntry) ⟨d0Ok, eGood, tblOf_ok ⟨okrecord_SameEntry, ⟨okrecord_verdict, ⟨okrecord_count, ⟨okrecord_mayOp, ⟨okrecord_site, ⟨okrecord_mayOps, ⟨okrecord_mayEpoch, ⟨okrecord_mayPart, trivial⟩⟩⟩⟩⟩⟩⟩⟩, fun _ => rfl⟩ conrecord_CheckEntry (fun a b => a) none (fun _ _ => rfl) rfl (fun _ _ h => nomatch h) 1000000 (fn := Try.f90) Try.func90 rfl (by kernel_rfl) (by kernel_rfl) rfl (by intro N a b; kernel_rfl)
def Frecord_maySlotted_1 (N : Nat) (x : GSlotted) : Option (Bool) :=
 ((Frecord_count N [x.Slot]).bind fun r1 =>
 ((bif (!(!r1)) then Frecord_mayBallot N x.Ballot else some default).bind fun r2 =>
 ((bif (!((!r1) || (!r2))) then Frecord_CheckEntry N x.Entry else some default).bind fun r3 =>
 (some (((!r1) || (!r2)) || (!(r3 == 0)))))))
def conrecord_maySlotted_1 : Con τ := { args := [.ty 101], L := [], ret := .ty 4, L' := [], R := Bool, dflt := default, F := fun N a b => Frecord_maySlotted_1 N a.1, of := fun r => (r, ()) }
noncomputable def datrecord_maySlotted_1 : Dat τ := { D := D0, tbl := tblOf [(88, conrecord_count), (87, conrecord_mayBallot), (90, conrecord_CheckEntry)], lp := lpsOf [], k0 := 0, mu := [], un := [] }
theorem okrecord_maySlotted_1 : ConOk E C 124 conrecord_maySlotted_1 :=
  con_ok (D := datrecord_maySlotted_1) ⟨d0Ok, eGood, tblOf_ok ⟨okrecord_count, ⟨okrecord_mayBallot, ⟨okrecord_CheckEntry, trivial⟩⟩⟩, fun _ => rfl⟩ conrecord_maySlotted_1 (fun a b => a) none (fun _ _ => rfl) rfl (fun _ _ h => nomatch h) 1000000 (fn := Try.f124) Try.func124 rfl (by kernel_rfl) (by kernel_rfl) rfl (by intro N a b; kernel_rfl)
structure Sslices_IndexFunc_Slotted_283x2 where
  t8 : Int
def tsslices_IndexFunc_Slotted_283x2 : List Sl := [.k, .k, .k, .k, .j, .j, .k, .k, .sh (.ty 2), .j, .j, .j, .j, .j, .j, .j, .j, .j, .j]
def hsslices_IndexFunc_Slotted_283x2 : List ESh := []
def toslices_IndexFunc_Slotted_283x2 (a : Sl.Ts τ tsslices_IndexFunc_Slotted_283x2) (b : ESh.Ts τ hsslices_IndexFunc_Slotted_283x2) : Sslices_IndexFunc_Slotted_283x2 := ⟨a.2.2.2.2.2.2.2.2.1⟩
def otslices_IndexFunc_Slotted_283x2 (s : Sslices_IndexFunc_Slotted_283x2) : Sl.Ts τ tsslices_IndexFunc_Slotted_283x2 := ((), (), (), (), (), (), (), (), s.t8, (), (), (), (), (), (), (), (), (), (), ())
def ohslices_IndexFunc_Slotted_283x2 (s : Sslices_IndexFunc_Slotted_283x2) : ESh.Ts τ hsslices_IndexFunc_Slotted_283x2 := ()
def lpslices_IndexFunc_Slotted_283x2 : Lp τ := { ts := tsslices_IndexFunc_Slotted_283x2, hs := hsslices_IndexFunc_Slotted_283x2, S := Sslices_IndexFunc_Slotted_283x2, to := toslices_IndexFunc_Slotted_283x2, ot := otslices_IndexFunc_Slotted_283x2, oh := ohslices_IndexFunc_Slotted_283x2, hk := [], tk := [], ot_to := fun _ _ => rfl, oh_to := fun _ _ => rfl }
def Fslices_IndexFunc_Slotted_283 (N : Nat) (s : List (GSlotted)) : Option (Int) :=
 (iter N (fun (s1 : Sslices_IndexFunc_Slotted_283x2) next2 =>
 (bif (decide (s1.t8 < ((s).length : Int))) then
 (bif (ibB s1.t8 ((s).length : Int)) then
 ((Frecord_maySlotted_1 N (⟨(lget s s1.t8 default).Slot, ((lget s s1.t8 default).Ballot), (⟨((lget s s1.t8 default).Entry).Kind, ((lget s s1.t8 default).Entry).Session, ((lget s s1.t8 default).Entry).Request, (⟨((((lget s s1.t8 default).Entry).Op).Stamp), (((lget s s1.t8 default).Entry).Op).Kind, (((lget s s1.t8 default).Entry).Op).Node, (((lget s s1.t8 default).Entry).Op).Parent, (((lget s s1.t8 default).Entry).Op).Name, (((lget s s1.t8 default).Entry).Op).Key, (((lget s s1.t8 default).Entry).Op).Value⟩ : GOp), ((lget s s1.t8 default).Entry).Origin, ((lget s s1.t8 default).Entry).Seq, ((lget s s1.t8 default).Entry).Ops, (((lget s s1.t8 default).Entry).Epoch), ((lget s s1.t8 default).Entry).From, ((lget s s1.t8 default).Entry).Vector_, ((lget s s1.t8 default).Entry).Clock, (((lget s s1.t8 default).Entry).Part), ((lget s s1.t8 default).Entry).Site, ((lget s s1.t8 default).Entry).Sponsor, ((lget s s1.t8 default).Entry).Length⟩ : GEntry)⟩ : GSlotted)).bind fun r3 =>
 (bif r3 then
 (some s1.t8)
 else
 (next2 ⟨(IntKind.i64.wrap (s1.t8 + 1))⟩)))
 else none)
 else
 (some (-1)))) ⟨0⟩)
def conslices_IndexFunc_Slotted_283 : Con τ := { args := [.ty 48, .fn 124 []], L := [], ret := .ty 3, L' := [], R := Int, dflt := default, F := fun N a b => Fslices_IndexFunc_Slotted_283 N a.1, of := fun r => (r, ()) }
noncomputable def datslices_IndexFunc_Slotted_283 : Dat τ := { D := D0, tbl := tblOf [(124, conrecord_maySlotted_1)], lp := lpsOf [(2, lpslices_IndexFunc_Slotted_283x2)], k0 := 0, mu := [], un := [] }
theorem okslices_IndexFunc_Slotted_283 : ConOk E C 137 conslices_IndexFunc_Slotted_283 :=
  con_ok (D := datslices_IndexFunc_Slotted_283) ⟨d0Ok, eGood, tblOf_ok ⟨okrecord_maySlotted_1, trivial⟩, fun _ => rfl⟩ conslices_IndexFunc_Slotted_283 (fun a b => a) none (fun _ _ => rfl) rfl (fun _ _ h => nomatch h) 1000000 (fn := Try.f137) Try.func137 rfl (by kernel_rfl) (by kernel_rfl) rfl (by intro N a b; kernel_rfl)
def Fslices_ContainsFunc_Slotted_283 (N : Nat) (s : List (GSlotted)) : Option (Bool) :=
 ((Fslices_IndexFunc_Slotted_283 N s).bind fun r1 =>
 (some (decide (0 ≤ r1))))
def conslices_ContainsFunc_Slotted_283 : Con τ := { args := [.ty 48, .fn 124 []], L := [], ret := .ty 4, L' := [], R := Bool, dflt := default, F := fun N a b => Fslices_ContainsFunc_Slotted_283 N a.1, of := fun r => (r, ()) }
noncomputable def datslices_ContainsFunc_Slotted_283 : Dat τ := { D := D0, tbl := tblOf [(137, conslices_IndexFunc_Slotted_283)], lp := lpsOf [], k0 := 0, mu := [], un := [] }
theorem okslices_ContainsFunc_Slotted_283 : ConOk E C 123 conslices_ContainsFunc_Slotted_283 :=
  con_ok (D := datslices_ContainsFunc_Slotted_283) ⟨d0Ok, eGood, tblOf_ok ⟨okslices_IndexFunc_Slotted_283, trivial⟩, fun _ => rfl⟩ conslices_ContainsFunc_Slotted_283 (fun a b => a) none (fun _ _ => rfl) rfl (fun _ _ h => nomatch h) 1000000 (fn := Try.f123) Try.func123 rfl (by kernel_rfl) (by kernel_rfl) rfl (by intro N a b; kernel_rfl)
def Frecord_maySlotted (N : Nat) (l : List (GSlotted)) (least : Int) (most : Int) : Option (Bool) :=
 ((bif ((decide (least ≤ ((l).length : Int))) && (decide (((l).length : Int) ≤ most))) then Fslices_ContainsFunc_Slotted_283 N l else some default).bind fun r1 =>
 (some (((decide (least ≤ ((l).length : Int))) && (decide (((l).length : Int) ≤ most))) && (!r1))))
def conrecord_maySlotted : Con τ := { args := [.ty 48, .ty 3, .ty 3], L := [], ret := .ty 4, L' := [], R := Bool, dflt := default, F := fun N a b => Frecord_maySlotted N a.1 a.2.1 a.2.2.1, of := fun r => (r, ()) }
noncomputable def datrecord_maySlotted : Dat τ := { D := D0, tbl := tblOf [(123, conslices_ContainsFunc_Slotted_283)], lp := lpsOf [], k0 := 0, mu := [], un := [] }
theorem okrecord_maySlotted : ConOk E C 89 conrecord_maySlotted :=
  con_ok (D := datrecord_maySlotted) ⟨d0Ok, eGood, tblOf_ok ⟨okslices_ContainsFunc_Slotted_283, trivial⟩, fun _ => rfl⟩ conrecord_maySlotted (fun a b => a) none (fun _ _ => rfl) rfl (fun _ _ h => nomatch h) 1000000 (fn := Try.f89) Try.func89 rfl (by kernel_rfl) (by kernel_rfl) rfl (by intro N a b; kernel_rfl)
def Frecord_sameSlotted (N : Nat) (a : GSlotted) (b : GSlotted) : Option (Bool) :=
 ((bif ((a.Slot == b.Slot) && ((a.Ballot.Round == b.Ballot.Round) && (a.Ballot.Replica == b.Ballot.Replica))) then Frecord_SameEntry N a.Entry b.Entry else some default).bind fun r1 =>
 (some (((a.Slot == b.Slot) && ((a.Ballot.Round == b.Ballot.Round) && (a.Ballot.Replica == b.Ballot.Replica))) && r1)))
def conrecord_sameSlotted : Con τ := { args := [.ty 101, .ty 101], L := [], ret := .ty 4, L' := [], R := Bool, dflt := default, F := fun N a b => Frecord_sameSlotted N a.1 a.2.1, of := fun r => (r, ()) }
noncomputable def datrecord_sameSlotted : Dat τ := { D := D0, tbl := tblOf [(125, conrecord_SameEntry)], lp := lpsOf [], k0 := 0, mu := [], un := [] }
theorem okrecord_sameSlotted : ConOk E C 127 conrecord_sameSlotted :=
  con_ok (D := datrecord_sameSlotted) ⟨d0Ok, eGood, tblOf_ok ⟨okrecord_SameEntry, trivial⟩, fun _ => rfl⟩ conrecord_sameSlotted (fun a b => a) none (fun _ _ => rfl) rfl (fun _ _ h => nomatch h) 1000000 (fn := Try.f127) Try.func127 rfl (by kernel_rfl) (by kernel_rfl) rfl (by intro N a b; kernel_rfl)
structure Sslices_EqualFunc_Slotted_117x4 where
  t17 : Int
def tsslices_EqualFunc_Slotted_117x4 : List Sl := [.k, .k, .k, .k, .k, .k, .j, .j, .j, .j, .k, .k, .k, .k, .k, .k, .k, .sh (.ty 2), .j, .j, .j, .j, .j, .j, .j, .j, .j, .j, .j, .j, .j, .j]
def hsslices_EqualFunc_Slotted_117x4 : List ESh := []
def toslices_EqualFunc_Slotted_117x4 (a : Sl.Ts τ tsslices_EqualFunc_Slotted_117x4) (b : ESh.Ts τ hsslices_EqualFunc_Slotted_117x4) : Sslices_EqualFunc_Slotted_117x4 := ⟨a.2.2.2.2.2.2.2.2.2.2.2.2.2.2.2.2.2.1⟩
def otslices_EqualFunc_Slotted_117x4 (s : Sslices_EqualFunc_Slotted_117x4) : Sl.Ts τ tsslices_EqualFunc_Slotted_117x4 := ((), (), (), (), (), (), (), (), (), (), (), (), (), (), (), (), (), s.t17, (), (), (), (), (), (), (), (), (), (), (), (), (), (), ())
def ohslices_EqualFunc_Slotted_117x4 (s : Sslices_EqualFunc_Slotted_117x4) : ESh.Ts τ hsslices_EqualFunc_Slotted_117x4 := ()
def lpslices_EqualFunc_Slotted_117x4 : Lp τ := { ts := tsslices_EqualFunc_Slotted_117x4, hs := hsslices_EqualFunc_Slotted_117x4, S := Sslices_EqualFunc_Slotted_117x4, to := toslices_EqualFunc_Slotted_117x4, ot := otslices_EqualFunc_Slotted_117x4, oh := ohslices_EqualFunc_Slotted_117x4, hk := [], tk := [], ot_to := fun _ _ => rfl, oh_to := fun _ _ => rfl }
def Fslices_EqualFunc_Slotted_117 (N : Nat) (s1_ : List (GSlotted)) (s2_ : List (GSlotted)) : Option (Bool) :=
 (bif (!(((s1_).length : Int) == ((s2_).length : Int))) then
 (some false)
 else
 (iter N (fun (s1 : Sslices_EqualFunc_Slotted_117x4) next2 =>
 (bif (decide (s1.t17 < ((s1_).length : Int))) then
 (bif (ibB s1.t17 ((s1_).length : Int)) then
 (bif (ibB s1.t17 ((s2_).length : Int)) then
 ((Frecord_sameSlotted N (⟨(lget s1_ s1.t17 default).Slot, ((lget s1_ s1.t17 default).Ballot), (⟨((lget s1_ s1.t17 default).Entry).Kind, ((lget s1_ s1.t17 default).Entry).Session, ((lget s1_ s1.t17 default).Entry).Request, (⟨((((lget s1_ s1.t17 default).Entry).Op).Stamp), (((lget s1_ s1.t17 default).Entry).Op).Kind, (((lget s1_ s1.t17 default).Entry).Op).Node, (((lget s1_ s1.t17 default).Entry).Op).Parent, (((lget s1_ s1.t17 default).Entry).Op).Name, (((lget s1_ s1.t17 default).Entry).Op).Key, (((lget s1_ s1.t17 default).Entry).Op).Value⟩ : GOp), ((lget s1_ s1.t17 default).Entry).Origin, ((lget s1_ s1.t17 default).Entry).Seq, ((lget s1_ s1.t17 default).Entry).Ops, (((lget s1_ s1.t17 default).Entry).Epoch), ((lget s1_ s1.t17 default).Entry).From, ((lget s1_ s1.t17 default).Entry).Vector_, ((lget s1_ s1.t17 default).Entry).Clock, (((lget s1_ s1.t17 default).Entry).Part), ((lget s1_ s1.t17 default).Entry).Site, ((lget s1_ s1.t17 default).Entry).Sponsor, ((lget s1_ s1.t17 default).Entry).Length⟩ : GEntry)⟩ : GSlotted) (⟨(lget s2_ s1.t17 default).Slot, ((lget s2_ s1.t17 default).Ballot), (⟨((lget s2_ s1.t17 default).Entry).Kind, ((lget s2_ s1.t17 default).Entry).Session, ((lget s2_ s1.t17 default).Entry).Request, (⟨((((lget s2_ s1.t17 default).Entry).Op).Stamp), (((lget s2_ s1.t17 default).Entry).Op).Kind, (((lget s2_ s1.t17 default).Entry).Op).Node, (((lget s2_ s1.t17 default).Entry).Op).Parent, (((lget s2_ s1.t17 default).Entry).Op).Name, (((lget s2_ s1.t17 default).Entry).Op).Key, (((lget s2_ s1.t17 default).Entry).Op).Value⟩ : GOp), ((lget s2_ s1.t17 default).Entry).Origin, ((lget s2_ s1.t17 default).Entry).Seq, ((lget s2_ s1.t17 default).Entry).Ops, (((lget s2_ s1.t17 default).Entry).Epoch), ((lget s2_ s1.t17 default).Entry).From, ((lget s2_ s1.t17 default).Entry).Vector_, ((lget s2_ s1.t17 default).Entry).Clock, (((lget s2_ s1.t17 default).Entry).Part), ((lget s2_ s1.t17 default).Entry).Site, ((lget s2_ s1.t17 default).Entry).Sponsor, ((lget s2_ s1.t17 default).Entry).Length⟩ : GEntry)⟩ : GSlotted)).bind fun r3 =>
 (bif (!r3) then
 (some false)
 else
 (next2 ⟨(IntKind.i64.wrap (s1.t17 + 1))⟩)))
 else none)
 else none)
 else
 (some true))) ⟨0⟩))
def conslices_EqualFunc_Slotted_117 : Con τ := { args := [.ty 48, .ty 48, .fn 127 []], L := [], ret := .ty 4, L' := [], R := Bool, dflt := default, F := fun N a b => Fslices_EqualFunc_Slotted_117 N a.1 a.2.1, of := fun r => (r, ()) }
noncomputable def datslices_EqualFunc_Slotted_117 : Dat τ := { D := D0, tbl := tblOf [(127, conrecord_sameSlotted)], lp := lpsOf [(4, lpslices_EqualFunc_Slotted_117x4)], k0 := 0, mu := [], un := [] }
theorem okslices_EqualFunc_Slotted_117 : ConOk E C 126 conslices_EqualFunc_Slotted_117 :=
  con_ok (D := datslices_EqualFunc_Slotted_117) ⟨d0Ok, eGood, tblOf_ok ⟨okrecord_sameSlotted, trivial⟩, fun _ => rfl⟩ conslices_EqualFunc_Slotted_117 (fun a b => a) none (fun _ _ => rfl) rfl (fun _ _ h => nomatch h) 1000000 (fn := Try.f126) Try.func126 rfl (by kernel_rfl) (by kernel_rfl) rfl (by intro N a b; kernel_rfl)
def Frecord_SameMsg (N : Nat) (a : GMsg) (b : GMsg) : Option (Bool) :=
 ((bif (((((a.Kind == b.Kind) && ((a.From.Group == b.From.Group) && (a.From.Replica == b.From.Replica))) && ((a.To.Group == b.To.Group) && (a.To.Replica == b.To.Replica))) && ((a.Ballot.Round == b.Ballot.Round) && (a.Ballot.Replica == b.Ballot.Replica))) && (a.Slot == b.Slot)) then Fslices_EqualFunc_Slotted_117 N a.List_ b.List_ else some default).bind fun r1 =>
 ((bif ((((((a.Kind == b.Kind) && ((a.From.Group == b.From.Group) && (a.From.Replica == b.From.Replica))) && ((a.To.Group == b.To.Group) && (a.To.Replica == b.To.Replica))) && ((a.Ballot.Round == b.Ballot.Round) && (a.Ballot.Replica == b.Ballot.Replica))) && (a.Slot == b.Slot)) && r1) then Frecord_SameEntry N a.Entry b.Entry else some default).bind fun r2 =>
 ((bif (((((((((((a.Kind == b.Kind) && ((a.From.Group == b.From.Group) && (a.From.Replica == b.From.Replica))) && ((a.To.Group == b.To.Group) && (a.To.Replica == b.To.Replica))) && ((a.Ballot.Round == b.Ballot.Round) && (a.Ballot.Replica == b.Ballot.Replica))) && (a.Slot == b.Slot)) && r1) && r2) && (a.Number == b.Number)) && (vbeq beq2 a.Vector_ b.Vector_)) && (a.Clock == b.Clock)) && (a.Origin == b.Origin)) then Fslices_Equal_Op N a.Ops b.Ops else some default).bind fun r3 =>
 ((bif (((((((((((((a.Kind == b.Kind) && ((a.From.Group == b.From.Group) && (a.From.Replica == b.From.Replica))) && ((a.To.Group == b.To.Group) && (a.To.Replica == b.To.Replica))) && ((a.Ballot.Round == b.Ballot.Round) && (a.Ballot.Replica == b.Ballot.Replica))) && (a.Slot == b.Slot)) && r1) && r2) && (a.Number == b.Number)) && (vbeq beq2 a.Vector_ b.Vector_)) && (a.Clock == b.Clock)) && (a.Origin == b.Origin)) && r3) && ((a.Epoch.Number == b.Epoch.Number) && ((vbeq beq3 a.Epoch.States b.Epoch.States) && ((vbeq beq2 a.Epoch.Seals b.Epoch.Seals) && (vbeq beq3 a.Epoch.Sponsor b.Epoch.Sponsor))))) then Frecord_samePart N a.Part b.Part else some default).bind fun r4 =>
 (some ((((((((((((((a.Kind == b.Kind) && ((a.From.Group == b.From.Group) && (a.From.Replica == b.From.Replica))) && ((a.To.Group == b.To.Group) && (a.To.Replica == b.To.Replica))) && ((a.Ballot.Round == b.Ballot.Round) && (a.Ballot.Replica == b.Ballot.Replica))) && (a.Slot == b.Slot)) && r1) && r2) && (a.Number == b.Number)) && (vbeq beq2 a.Vector_ b.Vector_)) && (a.Clock == b.Clock)) && (a.Origin == b.Origin)) && r3) && ((a.Epoch.Number == b.Epoch.Number) && ((vbeq beq3 a.Epoch.States b.Epoch.States) && ((vbeq beq2 a.Epoch.Seals b.Epoch.Seals) && (vbeq beq3 a.Epoch.Sponsor b.Epoch.Sponsor))))) && r4))))))
def conrecord_SameMsg : Con τ := { args := [.ty 55, .ty 55], L := [], ret := .ty 4, L' := [], R := Bool, dflt := default, F := fun N a b => Frecord_SameMsg N a.1 a.2.1, of := fun r => (r, ()) }
noncomputable def datrecord_SameMsg : Dat τ := { D := D0, tbl := tblOf [(126, conslices_EqualFunc_Slotted_117), (125, conrecord_SameEntry), (128, conslices_Equal_Op), (129, conrecord_samePart)], lp := lpsOf [], k0 := 0, mu := [], un := [] }
theorem okrecord_SameMsg : ConOk E C 92 conrecord_SameMsg :=
  con_ok (D := datrecord_SameMsg) ⟨d0Ok, eGood, tblOf_ok ⟨okslices_EqualFunc_Slotted_117, ⟨okrecord_SameEntry, ⟨okslices_Equal_Op, ⟨okrecord_samePart, trivial⟩⟩⟩⟩, fun _ => rfl⟩ conrecord_SameMsg (fun a b => a) none (fun _ _ => rfl) rfl (fun _ _ h => nomatch h) 1000000 (fn := Try.f92) Try.func92 rfl (by kernel_rfl) (by kernel_rfl) rfl (by intro N a b; kernel_rfl)
structure Srecord_CheckMsgxc where
  ok : Bool
  b0 : GMsg
  b1 : GMsg
def tsrecord_CheckMsgxc : List Sl := [.k, .sh (.ptr 0 []), .j, .sh (.ptr 1 []), .sh (.ty 4), .j, .j, .j, .j, .j, .j, .j, .j, .j, .j, .j, .j, .j, .j, .j, .j, .j, .j, .j, .j, .j, .j, .j, .j, .j, .j, .j, .j, .j, .j, .j, .j, .j, .j, .j, .j, .j, .j, .j, .j, .j, .j, .j, .j, .j, .j, .j, .j, .j, .j, .j, .j, .j, .j, .j, .j, .j, .j, .j, .j, .j, .j, .j, .j, .j, .j, .j, .j, .j, .j, .j, .j, .j, .j, .j, .j, .j, .j, .j, .j, .j, .j, .j, .j, .j, .j, .j, .j, .j, .j, .j, .j, .j, .j, .j, .j, .j, .j, .j, .j, .j, .j, .j, .j, .j, .j, .j, .j, .j, .j, .j, .j, .j, .j, .j, .j, .j, .j, .j, .j, .j, .j, .j, .j, .j, .j, .j, .j, .j, .j, .j, .j, .j, .j, .j, .j, .j, .j, .j, .j, .j, .j, .j, .j, .j, .j, .j, .j, .j, .j, .j, .j, .j, .j, .j, .j, .j, .j, .j, .k, .k, .k, .k, .k, .k, .k, .k, .k, .k, .k, .k, .k, .k, .k, .k, .k, .k, .k, .k, .k, .k, .k, .k, .k, .k, .k, .k, .k, .k, .k, .k, .k, .k, .k, .k, .k, .k, .k]
def hsrecord_CheckMsgxc : List ESh := [.box (.ty 54), .box (.ty 54)]
def torecord_CheckMsgxc (a : Sl.Ts τ tsrecord_CheckMsgxc) (b : ESh.Ts τ hsrecord_CheckMsgxc) : Srecord_CheckMsgxc := ⟨a.2.2.2.2.1, b.1, b.2.1⟩
def otrecord_CheckMsgxc (s : Srecord_CheckMsgxc) : Sl.Ts τ tsrecord_CheckMsgxc := ((), (), (), (), s.ok, (), (), (), (), (), (), (), (), (), (), (), (), (), (), (), (), (), (), (), (), (), (), (), (), (), (), (), (), (), (), (), (), (), (), (), (), (), (), (), (), (), (), (), (), (), (), (), (), (), (), (), (), (), (), (), (), (), (), (), (), (), (), (), (), (), (), (), (), (), (), (), (), (), (), (), (), (), (), (), (), (), (), (), (), (), (), (), (), (), (), (), (), (), (), (), (), (), (), (), (), (), (), (), (), (), (), (), (), (), (), (), (), (), (), (), (), (), (), (), (), (), (), (), (), (), (), (), (), (), (), (), (), (), (), (), (), (), (), (), (), (), (), (), (), (), (), (), (), (), (), (), (), (), (), (), (), (), (), (), (), (), (), (), (), (), (), (), (), (), (), (), (), (), (), (), (), (), (), (), (), (), (), (), (), (), (), (), (), (), (), (), (), (), (), (), (), (), (), ())
def ohrecord_CheckMsgxc (s : Srecord_CheckMsgxc) : ESh.Ts τ hsrecord_CheckMsgxc := (s.b0, s.b1, ())
def lprecord_CheckMsgxc : Lp τ := { ts := tsrecord_CheckMsgxc, hs := hsrecord_CheckMsgxc, S := Srecord_CheckMsgxc, to := torecord_CheckMsgxc, ot := otrecord_CheckMsgxc, oh := ohrecord_CheckMsgxc, hk := [], tk := [], ot_to := fun _ _ => rfl, oh_to := fun _ _ => rfl }
def Grecord_CheckMsg (N : Nat) (m : GMsg) : Option (Srecord_CheckMsgxc ⊕ (Int)) :=
 ((Frecord_mayAddr N [m.From, m.To]).bind fun r1 =>
 (bif (m.Kind == 1) then
 (bif (m.Kind == 1) then
 (some (.inl (⟨r1, m, (⟨m.Kind, m.From, m.To, m.Ballot, m.Slot, [], (⟨0, 0, 0, (⟨(⟨0, 0⟩ : GStamp), 0, 0, 0, [], [], []⟩ : GOp), 0, 0, [], (⟨0, (Vector.replicate 8 (default : Int)), (Vector.replicate 8 (default : Int)), (Vector.replicate 8 (default : Int))⟩ : GEpoch), 0, (Vector.replicate 8 (default : Int)), 0, (⟨0, 0, 0, []⟩ : GPart), 0, 0, 0⟩ : GEntry), 0, (Vector.replicate 8 (default : Int)), 0, 0, [], (⟨0, (Vector.replicate 8 (default : Int)), (Vector.replicate 8 (default : Int)), (Vector.replicate 8 (default : Int))⟩ : GEpoch), (⟨0, 0, 0, []⟩ : GPart)⟩ : GMsg)⟩ : Srecord_CheckMsgxc)))
 else
 (bif (m.Kind == 2) then
 (some (.inl (⟨r1, m, (⟨m.Kind, m.From, m.To, m.Ballot, m.Slot, m.List_, (⟨0, 0, 0, (⟨(⟨0, 0⟩ : GStamp), 0, 0, 0, [], [], []⟩ : GOp), 0, 0, [], (⟨0, (Vector.replicate 8 (default : Int)), (Vector.replicate 8 (default : Int)), (Vector.replicate 8 (default : Int))⟩ : GEpoch), 0, (Vector.replicate 8 (default : Int)), 0, (⟨0, 0, 0, []⟩ : GPart), 0, 0, 0⟩ : GEntry), 0, (Vector.replicate 8 (default : Int)), 0, 0, [], (⟨0, (Vector.replicate 8 (default : Int)), (Vector.replicate 8 (default : Int)), (Vector.replicate 8 (default : Int))⟩ : GEpoch), (⟨0, 0, 0, []⟩ : GPart)⟩ : GMsg)⟩ : Srecord_CheckMsgxc)))
 else
 (bif (m.Kind == 3) then
 (some (.inl (⟨(r1 && (((m.List_).length : Int) == 1)), m, (⟨m.Kind, m.From, m.To, m.Ballot, 0, m.List_, (⟨0, 0, 0, (⟨(⟨0, 0⟩ : GStamp), 0, 0, 0, [], [], []⟩ : GOp), 0, 0, [], (⟨0, (Vector.replicate 8 (default : Int)), (Vector.replicate 8 (default : Int)), (Vector.replicate 8 (default : Int))⟩ : GEpoch), 0, (Vector.replicate 8 (default : Int)), 0, (⟨0, 0, 0, []⟩ : GPart), 0, 0, 0⟩ : GEntry), 0, (Vector.replicate 8 (default : Int)), 0, 0, [], (⟨0, (Vector.replicate 8 (default : Int)), (Vector.replicate 8 (default : Int)), (Vector.replicate 8 (default : Int))⟩ : GEpoch), (⟨0, 0, 0, []⟩ : GPart)⟩ : GMsg)⟩ : Srecord_CheckMsgxc)))
 else
 (bif (m.Kind == 5) then
 (some (.inl (⟨r1, m, (⟨m.Kind, m.From, m.To, m.Ballot, 0, [], (⟨0, 0, 0, (⟨(⟨0, 0⟩ : GStamp), 0, 0, 0, [], [], []⟩ : GOp), 0, 0, [], (⟨0, (Vector.replicate 8 (default : Int)), (Vector.replicate 8 (default : Int)), (Vector.replicate 8 (default : Int))⟩ : GEpoch), 0, (Vector.replicate 8 (default : Int)), 0, (⟨0, 0, 0, []⟩ : GPart), 0, 0, 0⟩ : GEntry), 0, (Vector.replicate 8 (default : Int)), 0, 0, [], (⟨0, (Vector.replicate 8 (default : Int)), (Vector.replicate 8 (default : Int)), (Vector.replicate 8 (default : Int))⟩ : GEpoch), (⟨0, 0, 0, []⟩ : GPart)⟩ : GMsg)⟩ : Srecord_CheckMsgxc)))
 else
 (bif (m.Kind == 6) then
 (some (.inl (⟨(r1 && (decide (1 ≤ ((m.List_).length : Int)))), m, (⟨m.Kind, m.From, m.To, (⟨0, 0⟩ : GBallot), 0, m.List_, (⟨0, 0, 0, (⟨(⟨0, 0⟩ : GStamp), 0, 0, 0, [], [], []⟩ : GOp), 0, 0, [], (⟨0, (Vector.replicate 8 (default : Int)), (Vector.replicate 8 (default : Int)), (Vector.replicate 8 (default : Int))⟩ : GEpoch), 0, (Vector.replicate 8 (default : Int)), 0, (⟨0, 0, 0, []⟩ : GPart), 0, 0, 0⟩ : GEntry), 0, (Vector.replicate 8 (default : Int)), 0, 0, [], (⟨0, (Vector.replicate 8 (default : Int)), (Vector.replicate 8 (default : Int)), (Vector.replicate 8 (default : Int))⟩ : GEpoch), (⟨0, 0, 0, []⟩ : GPart)⟩ : GMsg)⟩ : Srecord_CheckMsgxc)))
 else
 (bif (m.Kind == 8) then
 (some (.inl (⟨r1, m, (⟨m.Kind, m.From, m.To, (⟨0, 0⟩ : GBallot), m.Slot, [], (⟨0, 0, 0, (⟨(⟨0, 0⟩ : GStamp), 0, 0, 0, [], [], []⟩ : GOp), 0, 0, [], (⟨0, (Vector.replicate 8 (default : Int)), (Vector.replicate 8 (default : Int)), (Vector.replicate 8 (default : Int))⟩ : GEpoch), 0, (Vector.replicate 8 (default : Int)), 0, (⟨0, 0, 0, []⟩ : GPart), 0, 0, 0⟩ : GEntry), 0, (Vector.replicate 8 (default : Int)), 0, 0, [], (⟨0, (Vector.replicate 8 (default : Int)), (Vector.replicate 8 (default : Int)), (Vector.replicate 8 (default : Int))⟩ : GEpoch), (⟨0, 0, 0, []⟩ : GPart)⟩ : GMsg)⟩ : Srecord_CheckMsgxc)))
 else
 (bif (m.Kind == 9) then
 (some (.inl (⟨r1, m, (⟨m.Kind, m.From, m.To, (⟨0, 0⟩ : GBallot), 0, [], m.Entry, 0, (Vector.replicate 8 (default : Int)), 0, 0, [], (⟨0, (Vector.replicate 8 (default : Int)), (Vector.replicate 8 (default : Int)), (Vector.replicate 8 (default : Int))⟩ : GEpoch), (⟨0, 0, 0, []⟩ : GPart)⟩ : GMsg)⟩ : Srecord_CheckMsgxc)))
 else
 (bif (m.Kind == 10) then
 (some (.inl (⟨r1, m, (⟨m.Kind, m.From, m.To, (⟨0, 0⟩ : GBallot), 0, [], (⟨0, 0, 0, (⟨(⟨0, 0⟩ : GStamp), 0, 0, 0, [], [], []⟩ : GOp), 0, 0, [], (⟨0, (Vector.replicate 8 (default : Int)), (Vector.replicate 8 (default : Int)), (Vector.replicate 8 (default : Int))⟩ : GEpoch), 0, (Vector.replicate 8 (default : Int)), 0, (⟨0, 0, 0, []⟩ : GPart), 0, 0, 0⟩ : GEntry), m.Number, m.Vector_, m.Clock, 0, [], (⟨0, (Vector.replicate 8 (default : Int)), (Vector.replicate 8 (default : Int)), (Vector.replicate 8 (default : Int))⟩ : GEpoch), (⟨0, 0, 0, []⟩ : GPart)⟩ : GMsg)⟩ : Srecord_CheckMsgxc)))
 else
 (bif (m.Kind == 11) then
 ((bif r1 then Frecord_site N [m.Origin] else some default).bind fun r2 =>
 ((bif (r1 && r2) then Frecord_mayOps N m.Ops 1 else some default).bind fun r3 =>
 (some (.inl (⟨((r1 && r2) && r3), m, (⟨m.Kind, m.From, m.To, (⟨0, 0⟩ : GBallot), m.Slot, [], (⟨0, 0, 0, (⟨(⟨0, 0⟩ : GStamp), 0, 0, 0, [], [], []⟩ : GOp), 0, 0, [], (⟨0, (Vector.replicate 8 (default : Int)), (Vector.replicate 8 (default : Int)), (Vector.replicate 8 (default : Int))⟩ : GEpoch), 0, (Vector.replicate 8 (default : Int)), 0, (⟨0, 0, 0, []⟩ : GPart), 0, 0, 0⟩ : GEntry), m.Number, (Vector.replicate 8 (default : Int)), 0, m.Origin, m.Ops, (⟨0, (Vector.replicate 8 (default : Int)), (Vector.replicate 8 (default : Int)), (Vector.replicate 8 (default : Int))⟩ : GEpoch), (⟨0, 0, 0, []⟩ : GPart)⟩ : GMsg)⟩ : Srecord_CheckMsgxc)))))
 else
 (bif (m.Kind == 12) then
 ((bif r1 then Frecord_mayEpoch N m.Epoch else some default).bind fun r4 =>
 (some (.inl (⟨(r1 && r4), m, (⟨m.Kind, m.From, m.To, (⟨0, 0⟩ : GBallot), 0, [], (⟨0, 0, 0, (⟨(⟨0, 0⟩ : GStamp), 0, 0, 0, [], [], []⟩ : GOp), 0, 0, [], (⟨0, (Vector.replicate 8 (default : Int)), (Vector.replicate 8 (default : Int)), (Vector.replicate 8 (default : Int))⟩ : GEpoch), 0, (Vector.replicate 8 (default : Int)), 0, (⟨0, 0, 0, []⟩ : GPart), 0, 0, 0⟩ : GEntry), 0, (Vector.replicate 8 (default : Int)), 0, 0, [], m.Epoch, (⟨0, 0, 0, []⟩ : GPart)⟩ : GMsg)⟩ : Srecord_CheckMsgxc))))
 else
 (bif (m.Kind == 13) then
 ((bif r1 then Frecord_mayPart N m.Part else some default).bind fun r5 =>
 (some (.inl (⟨(r1 && r5), m, (⟨m.Kind, m.From, m.To, (⟨0, 0⟩ : GBallot), 0, [], (⟨0, 0, 0, (⟨(⟨0, 0⟩ : GStamp), 0, 0, 0, [], [], []⟩ : GOp), 0, 0, [], (⟨0, (Vector.replicate 8 (default : Int)), (Vector.replicate 8 (default : Int)), (Vector.replicate 8 (default : Int))⟩ : GEpoch), 0, (Vector.replicate 8 (default : Int)), 0, (⟨0, 0, 0, []⟩ : GPart), 0, 0, 0⟩ : GEntry), 0, (Vector.replicate 8 (default : Int)), 0, 0, [], (⟨0, (Vector.replicate 8 (default : Int)), (Vector.replicate 8 (default : Int)), (Vector.replicate 8 (default : Int))⟩ : GEpoch), m.Part⟩ : GMsg)⟩ : Srecord_CheckMsgxc))))
 else
 (bif (m.Kind == 14) then
 (some (.inl (⟨r1, m, (⟨m.Kind, m.From, m.To, (⟨0, 0⟩ : GBallot), 0, [], (⟨0, 0, 0, (⟨(⟨0, 0⟩ : GStamp), 0, 0, 0, [], [], []⟩ : GOp), 0, 0, [], (⟨0, (Vector.replicate 8 (default : Int)), (Vector.replicate 8 (default : Int)), (Vector.replicate 8 (default : Int))⟩ : GEpoch), 0, (Vector.replicate 8 (default : Int)), 0, (⟨0, 0, 0, []⟩ : GPart), 0, 0, 0⟩ : GEntry), m.Number, m.Vector_, 0, 0, [], (⟨0, (Vector.replicate 8 (default : Int)), (Vector.replicate 8 (default : Int)), (Vector.replicate 8 (default : Int))⟩ : GEpoch), (⟨0, 0, 0, []⟩ : GPart)⟩ : GMsg)⟩ : Srecord_CheckMsgxc)))
 else
 (bif (m.Kind == 15) then
 ((bif r1 then Frecord_mayPart N m.Part else some default).bind fun r6 =>
 (some (.inl (⟨(r1 && r6), m, (⟨m.Kind, m.From, m.To, (⟨0, 0⟩ : GBallot), m.Slot, [], (⟨0, 0, 0, (⟨(⟨0, 0⟩ : GStamp), 0, 0, 0, [], [], []⟩ : GOp), 0, 0, [], (⟨0, (Vector.replicate 8 (default : Int)), (Vector.replicate 8 (default : Int)), (Vector.replicate 8 (default : Int))⟩ : GEpoch), 0, (Vector.replicate 8 (default : Int)), 0, (⟨0, 0, 0, []⟩ : GPart), 0, 0, 0⟩ : GEntry), 0, (Vector.replicate 8 (default : Int)), 0, 0, [], (⟨0, (Vector.replicate 8 (default : Int)), (Vector.replicate 8 (default : Int)), (Vector.replicate 8 (default : Int))⟩ : GEpoch), m.Part⟩ : GMsg)⟩ : Srecord_CheckMsgxc))))
 else
 (some (.inl (⟨false, m, (⟨m.Kind, m.From, m.To, (⟨0, 0⟩ : GBallot), 0, [], (⟨0, 0, 0, (⟨(⟨0, 0⟩ : GStamp), 0, 0, 0, [], [], []⟩ : GOp), 0, 0, [], (⟨0, (Vector.replicate 8 (default : Int)), (Vector.replicate 8 (default : Int)), (Vector.replicate 8 (default : Int))⟩ : GEpoch), 0, (Vector.replicate 8 (default : Int)), 0, (⟨0, 0, 0, []⟩ : GPart), 0, 0, 0⟩ : GEntry), 0, (Vector.replicate 8 (default : Int)), 0, 0, [], (⟨0, (Vector.replicate 8 (default : Int)), (Vector.replicate 8 (default : Int)), (Vector.replicate 8 (default : Int))⟩ : GEpoch), (⟨0, 0, 0, []⟩ : GPart)⟩ : GMsg)⟩ : Srecord_CheckMsgxc))))))))))))))))
 else
 (bif (m.Kind == 4) then
 (bif (m.Kind == 4) then
 (some (.inl (⟨r1, m, (⟨m.Kind, m.From, m.To, m.Ballot, m.Slot, [], (⟨0, 0, 0, (⟨(⟨0, 0⟩ : GStamp), 0, 0, 0, [], [], []⟩ : GOp), 0, 0, [], (⟨0, (Vector.replicate 8 (default : Int)), (Vector.replicate 8 (default : Int)), (Vector.replicate 8 (default : Int))⟩ : GEpoch), 0, (Vector.replicate 8 (default : Int)), 0, (⟨0, 0, 0, []⟩ : GPart), 0, 0, 0⟩ : GEntry), 0, (Vector.replicate 8 (default : Int)), 0, 0, [], (⟨0, (Vector.replicate 8 (default : Int)), (Vector.replicate 8 (default : Int)), (Vector.replicate 8 (default : Int))⟩ : GEpoch), (⟨0, 0, 0, []⟩ : GPart)⟩ : GMsg)⟩ : Srecord_CheckMsgxc)))
 else
 (bif (m.Kind == 2) then
 (some (.inl (⟨r1, m, (⟨m.Kind, m.From, m.To, m.Ballot, m.Slot, m.List_, (⟨0, 0, 0, (⟨(⟨0, 0⟩ : GStamp), 0, 0, 0, [], [], []⟩ : GOp), 0, 0, [], (⟨0, (Vector.replicate 8 (default : Int)), (Vector.replicate 8 (default : Int)), (Vector.replicate 8 (default : Int))⟩ : GEpoch), 0, (Vector.replicate 8 (default : Int)), 0, (⟨0, 0, 0, []⟩ : GPart), 0, 0, 0⟩ : GEntry), 0, (Vector.replicate 8 (default : Int)), 0, 0, [], (⟨0, (Vector.replicate 8 (default : Int)), (Vector.replicate 8 (default : Int)), (Vector.replicate 8 (default : Int))⟩ : GEpoch), (⟨0, 0, 0, []⟩ : GPart)⟩ : GMsg)⟩ : Srecord_CheckMsgxc)))
 else
 (bif (m.Kind == 3) then
 (some (.inl (⟨(r1 && (((m.List_).length : Int) == 1)), m, (⟨m.Kind, m.From, m.To, m.Ballot, 0, m.List_, (⟨0, 0, 0, (⟨(⟨0, 0⟩ : GStamp), 0, 0, 0, [], [], []⟩ : GOp), 0, 0, [], (⟨0, (Vector.replicate 8 (default : Int)), (Vector.replicate 8 (default : Int)), (Vector.replicate 8 (default : Int))⟩ : GEpoch), 0, (Vector.replicate 8 (default : Int)), 0, (⟨0, 0, 0, []⟩ : GPart), 0, 0, 0⟩ : GEntry), 0, (Vector.replicate 8 (default : Int)), 0, 0, [], (⟨0, (Vector.replicate 8 (default : Int)), (Vector.replicate 8 (default : Int)), (Vector.replicate 8 (default : Int))⟩ : GEpoch), (⟨0, 0, 0, []⟩ : GPart)⟩ : GMsg)⟩ : Srecord_CheckMsgxc)))
 else
 (bif (m.Kind == 5) then
 (some (.inl (⟨r1, m, (⟨m.Kind, m.From, m.To, m.Ballot, 0, [], (⟨0, 0, 0, (⟨(⟨0, 0⟩ : GStamp), 0, 0, 0, [], [], []⟩ : GOp), 0, 0, [], (⟨0, (Vector.replicate 8 (default : Int)), (Vector.replicate 8 (default : Int)), (Vector.replicate 8 (default : Int))⟩ : GEpoch), 0, (Vector.replicate 8 (default : Int)), 0, (⟨0, 0, 0, []⟩ : GPart), 0, 0, 0⟩ : GEntry), 0, (Vector.replicate 8 (default : Int)), 0, 0, [], (⟨0, (Vector.replicate 8 (default : Int)), (Vector.replicate 8 (default : Int)), (Vector.replicate 8 (default : Int))⟩ : GEpoch), (⟨0, 0, 0, []⟩ : GPart)⟩ : GMsg)⟩ : Srecord_CheckMsgxc)))
 else
 (bif (m.Kind == 6) then
 (some (.inl (⟨(r1 && (decide (1 ≤ ((m.List_).length : Int)))), m, (⟨m.Kind, m.From, m.To, (⟨0, 0⟩ : GBallot), 0, m.List_, (⟨0, 0, 0, (⟨(⟨0, 0⟩ : GStamp), 0, 0, 0, [], [], []⟩ : GOp), 0, 0, [], (⟨0, (Vector.replicate 8 (default : Int)), (Vector.replicate 8 (default : Int)), (Vector.replicate 8 (default : Int))⟩ : GEpoch), 0, (Vector.replicate 8 (default : Int)), 0, (⟨0, 0, 0, []⟩ : GPart), 0, 0, 0⟩ : GEntry), 0, (Vector.replicate 8 (default : Int)), 0, 0, [], (⟨0, (Vector.replicate 8 (default : Int)), (Vector.replicate 8 (default : Int)), (Vector.replicate 8 (default : Int))⟩ : GEpoch), (⟨0, 0, 0, []⟩ : GPart)⟩ : GMsg)⟩ : Srecord_CheckMsgxc)))
 else
 (bif (m.Kind == 8) then
 (some (.inl (⟨r1, m, (⟨m.Kind, m.From, m.To, (⟨0, 0⟩ : GBallot), m.Slot, [], (⟨0, 0, 0, (⟨(⟨0, 0⟩ : GStamp), 0, 0, 0, [], [], []⟩ : GOp), 0, 0, [], (⟨0, (Vector.replicate 8 (default : Int)), (Vector.replicate 8 (default : Int)), (Vector.replicate 8 (default : Int))⟩ : GEpoch), 0, (Vector.replicate 8 (default : Int)), 0, (⟨0, 0, 0, []⟩ : GPart), 0, 0, 0⟩ : GEntry), 0, (Vector.replicate 8 (default : Int)), 0, 0, [], (⟨0, (Vector.replicate 8 (default : Int)), (Vector.replicate 8 (default : Int)), (Vector.replicate 8 (default : Int))⟩ : GEpoch), (⟨0, 0, 0, []⟩ : GPart)⟩ : GMsg)⟩ : Srecord_CheckMsgxc)))
 else
 (bif (m.Kind == 9) then
 (some (.inl (⟨r1, m, (⟨m.Kind, m.From, m.To, (⟨0, 0⟩ : GBallot), 0, [], m.Entry, 0, (Vector.replicate 8 (default : Int)), 0, 0, [], (⟨0, (Vector.replicate 8 (default : Int)), (Vector.replicate 8 (default : Int)), (Vector.replicate 8 (default : Int))⟩ : GEpoch), (⟨0, 0, 0, []⟩ : GPart)⟩ : GMsg)⟩ : Srecord_CheckMsgxc)))
 else
 (bif (m.Kind == 10) then
 (some (.inl (⟨r1, m, (⟨m.Kind, m.From, m.To, (⟨0, 0⟩ : GBallot), 0, [], (⟨0, 0, 0, (⟨(⟨0, 0⟩ : GStamp), 0, 0, 0, [], [], []⟩ : GOp), 0, 0, [], (⟨0, (Vector.replicate 8 (default : Int)), (Vector.replicate 8 (default : Int)), (Vector.replicate 8 (default : Int))⟩ : GEpoch), 0, (Vector.replicate 8 (default : Int)), 0, (⟨0, 0, 0, []⟩ : GPart), 0, 0, 0⟩ : GEntry), m.Number, m.Vector_, m.Clock, 0, [], (⟨0, (Vector.replicate 8 (default : Int)), (Vector.replicate 8 (default : Int)), (Vector.replicate 8 (default : Int))⟩ : GEpoch), (⟨0, 0, 0, []⟩ : GPart)⟩ : GMsg)⟩ : Srecord_CheckMsgxc)))
 else
 (bif (m.Kind == 11) then
 ((bif r1 then Frecord_site N [m.Origin] else some default).bind fun r7 =>
 ((bif (r1 && r7) then Frecord_mayOps N m.Ops 1 else some default).bind fun r8 =>
 (some (.inl (⟨((r1 && r7) && r8), m, (⟨m.Kind, m.From, m.To, (⟨0, 0⟩ : GBallot), m.Slot, [], (⟨0, 0, 0, (⟨(⟨0, 0⟩ : GStamp), 0, 0, 0, [], [], []⟩ : GOp), 0, 0, [], (⟨0, (Vector.replicate 8 (default : Int)), (Vector.replicate 8 (default : Int)), (Vector.replicate 8 (default : Int))⟩ : GEpoch), 0, (Vector.replicate 8 (default : Int)), 0, (⟨0, 0, 0, []⟩ : GPart), 0, 0, 0⟩ : GEntry), m.Number, (Vector.replicate 8 (default : Int)), 0, m.Origin, m.Ops, (⟨0, (Vector.replicate 8 (default : Int)), (Vector.replicate 8 (default : Int)), (Vector.replicate 8 (default : Int))⟩ : GEpoch), (⟨0, 0, 0, []⟩ : GPart)⟩ : GMsg)⟩ : Srecord_CheckMsgxc)))))
 else
 (bif (m.Kind == 12) then
 ((bif r1 then Frecord_mayEpoch N m.Epoch else some default).bind fun r9 =>
 (some (.inl (⟨(r1 && r9), m, (⟨m.Kind, m.From, m.To, (⟨0, 0⟩ : GBallot), 0, [], (⟨0, 0, 0, (⟨(⟨0, 0⟩ : GStamp), 0, 0, 0, [], [], []⟩ : GOp), 0, 0, [], (⟨0, (Vector.replicate 8 (default : Int)), (Vector.replicate 8 (default : Int)), (Vector.replicate 8 (default : Int))⟩ : GEpoch), 0, (Vector.replicate 8 (default : Int)), 0, (⟨0, 0, 0, []⟩ : GPart), 0, 0, 0⟩ : GEntry), 0, (Vector.replicate 8 (default : Int)), 0, 0, [], m.Epoch, (⟨0, 0, 0, []⟩ : GPart)⟩ : GMsg)⟩ : Srecord_CheckMsgxc))))
 else
 (bif (m.Kind == 13) then
 ((bif r1 then Frecord_mayPart N m.Part else some default).bind fun r10 =>
 (some (.inl (⟨(r1 && r10), m, (⟨m.Kind, m.From, m.To, (⟨0, 0⟩ : GBallot), 0, [], (⟨0, 0, 0, (⟨(⟨0, 0⟩ : GStamp), 0, 0, 0, [], [], []⟩ : GOp), 0, 0, [], (⟨0, (Vector.replicate 8 (default : Int)), (Vector.replicate 8 (default : Int)), (Vector.replicate 8 (default : Int))⟩ : GEpoch), 0, (Vector.replicate 8 (default : Int)), 0, (⟨0, 0, 0, []⟩ : GPart), 0, 0, 0⟩ : GEntry), 0, (Vector.replicate 8 (default : Int)), 0, 0, [], (⟨0, (Vector.replicate 8 (default : Int)), (Vector.replicate 8 (default : Int)), (Vector.replicate 8 (default : Int))⟩ : GEpoch), m.Part⟩ : GMsg)⟩ : Srecord_CheckMsgxc))))
 else
 (bif (m.Kind == 14) then
 (some (.inl (⟨r1, m, (⟨m.Kind, m.From, m.To, (⟨0, 0⟩ : GBallot), 0, [], (⟨0, 0, 0, (⟨(⟨0, 0⟩ : GStamp), 0, 0, 0, [], [], []⟩ : GOp), 0, 0, [], (⟨0, (Vector.replicate 8 (default : Int)), (Vector.replicate 8 (default : Int)), (Vector.replicate 8 (default : Int))⟩ : GEpoch), 0, (Vector.replicate 8 (default : Int)), 0, (⟨0, 0, 0, []⟩ : GPart), 0, 0, 0⟩ : GEntry), m.Number, m.Vector_, 0, 0, [], (⟨0, (Vector.replicate 8 (default : Int)), (Vector.replicate 8 (default : Int)), (Vector.replicate 8 (default : Int))⟩ : GEpoch), (⟨0, 0, 0, []⟩ : GPart)⟩ : GMsg)⟩ : Srecord_CheckMsgxc)))
 else
 (bif (m.Kind == 15) then
 ((bif r1 then Frecord_mayPart N m.Part else some default).bind fun r11 =>
 (some (.inl (⟨(r1 && r11), m, (⟨m.Kind, m.From, m.To, (⟨0, 0⟩ : GBallot), m.Slot, [], (⟨0, 0, 0, (⟨(⟨0, 0⟩ : GStamp), 0, 0, 0, [], [], []⟩ : GOp), 0, 0, [], (⟨0, (Vector.replicate 8 (default : Int)), (Vector.replicate 8 (default : Int)), (Vector.replicate 8 (default : Int))⟩ : GEpoch), 0, (Vector.replicate 8 (default : Int)), 0, (⟨0, 0, 0, []⟩ : GPart), 0, 0, 0⟩ : GEntry), 0, (Vector.replicate 8 (default : Int)), 0, 0, [], (⟨0, (Vector.replicate 8 (default : Int)), (Vector.replicate 8 (default : Int)), (Vector.replicate 8 (default : Int))⟩ : GEpoch), m.Part⟩ : GMsg)⟩ : Srecord_CheckMsgxc))))
 else
 (some (.inl (⟨false, m, (⟨m.Kind, m.From, m.To, (⟨0, 0⟩ : GBallot), 0, [], (⟨0, 0, 0, (⟨(⟨0, 0⟩ : GStamp), 0, 0, 0, [], [], []⟩ : GOp), 0, 0, [], (⟨0, (Vector.replicate 8 (default : Int)), (Vector.replicate 8 (default : Int)), (Vector.replicate 8 (default : Int))⟩ : GEpoch), 0, (Vector.replicate 8 (default : Int)), 0, (⟨0, 0, 0, []⟩ : GPart), 0, 0, 0⟩ : GEntry), 0, (Vector.replicate 8 (default : Int)), 0, 0, [], (⟨0, (Vector.replicate 8 (default : Int)), (Vector.replicate 8 (default : Int)), (Vector.replicate 8 (default : Int))⟩ : GEpoch), (⟨0, 0, 0, []⟩ : GPart)⟩ : GMsg)⟩ : Srecord_CheckMsgxc))))))))))))))))
 else
 (bif (m.Kind == 7) then
 (some (.inl (⟨r1, m, (⟨m.Kind, m.From, m.To, m.Ballot, m.Slot, [], (⟨0, 0, 0, (⟨(⟨0, 0⟩ : GStamp), 0, 0, 0, [], [], []⟩ : GOp), 0, 0, [], (⟨0, (Vector.replicate 8 (default : Int)), (Vector.replicate 8 (default : Int)), (Vector.replicate 8 (default : Int))⟩ : GEpoch), 0, (Vector.replicate 8 (default : Int)), 0, (⟨0, 0, 0, []⟩ : GPart), 0, 0, 0⟩ : GEntry), 0, (Vector.replicate 8 (default : Int)), 0, 0, [], (⟨0, (Vector.replicate 8 (default : Int)), (Vector.replicate 8 (default : Int)), (Vector.replicate 8 (default : Int))⟩ : GEpoch), (⟨0, 0, 0, []⟩ : GPart)⟩ : GMsg)⟩ : Srecord_CheckMsgxc)))
 else
 (bif (m.Kind == 2) then
 (some (.inl (⟨r1, m, (⟨m.Kind, m.From, m.To, m.Ballot, m.Slot, m.List_, (⟨0, 0, 0, (⟨(⟨0, 0⟩ : GStamp), 0, 0, 0, [], [], []⟩ : GOp), 0, 0, [], (⟨0, (Vector.replicate 8 (default : Int)), (Vector.replicate 8 (default : Int)), (Vector.replicate 8 (default : Int))⟩ : GEpoch), 0, (Vector.replicate 8 (default : Int)), 0, (⟨0, 0, 0, []⟩ : GPart), 0, 0, 0⟩ : GEntry), 0, (Vector.replicate 8 (default : Int)), 0, 0, [], (⟨0, (Vector.replicate 8 (default : Int)), (Vector.replicate 8 (default : Int)), (Vector.replicate 8 (default : Int))⟩ : GEpoch), (⟨0, 0, 0, []⟩ : GPart)⟩ : GMsg)⟩ : Srecord_CheckMsgxc)))
 else
 (bif (m.Kind == 3) then
 (some (.inl (⟨(r1 && (((m.List_).length : Int) == 1)), m, (⟨m.Kind, m.From, m.To, m.Ballot, 0, m.List_, (⟨0, 0, 0, (⟨(⟨0, 0⟩ : GStamp), 0, 0, 0, [], [], []⟩ : GOp), 0, 0, [], (⟨0, (Vector.replicate 8 (default : Int)), (Vector.replicate 8 (default : Int)), (Vector.replicate 8 (default : Int))⟩ : GEpoch), 0, (Vector.replicate 8 (default : Int)), 0, (⟨0, 0, 0, []⟩ : GPart), 0, 0, 0⟩ : GEntry), 0, (Vector.replicate 8 (default : Int)), 0, 0, [], (⟨0, (Vector.replicate 8 (default : Int)), (Vector.replicate 8 (default : Int)), (Vector.replicate 8 (default : Int))⟩ : GEpoch), (⟨0, 0, 0, []⟩ : GPart)⟩ : GMsg)⟩ : Srecord_CheckMsgxc)))
 else
 (bif (m.Kind == 5) then
 (some (.inl (⟨r1, m, (⟨m.Kind, m.From, m.To, m.Ballot, 0, [], (⟨0, 0, 0, (⟨(⟨0, 0⟩ : GStamp), 0, 0, 0, [], [], []⟩ : GOp), 0, 0, [], (⟨0, (Vector.replicate 8 (default : Int)), (Vector.replicate 8 (default : Int)), (Vector.replicate 8 (default : Int))⟩ : GEpoch), 0, (Vector.replicate 8 (default : Int)), 0, (⟨0, 0, 0, []⟩ : GPart), 0, 0, 0⟩ : GEntry), 0, (Vector.replicate 8 (default : Int)), 0, 0, [], (⟨0, (Vector.replicate 8 (default : Int)), (Vector.replicate 8 (default : Int)), (Vector.replicate 8 (default : Int))⟩ : GEpoch), (⟨0, 0, 0, []⟩ : GPart)⟩ : GMsg)⟩ : Srecord_CheckMsgxc)))
 else
 (bif (m.Kind == 6) then
 (some (.inl (⟨(r1 && (decide (1 ≤ ((m.List_).length : Int)))), m, (⟨m.Kind, m.From, m.To, (⟨0, 0⟩ : GBallot), 0, m.List_, (⟨0, 0, 0, (⟨(⟨0, 0⟩ : GStamp), 0, 0, 0, [], [], []⟩ : GOp), 0, 0, [], (⟨0, (Vector.replicate 8 (default : Int)), (Vector.replicate 8 (default : Int)), (Vector.replicate 8 (default : Int))⟩ : GEpoch), 0, (Vector.replicate 8 (default : Int)), 0, (⟨0, 0, 0, []⟩ : GPart), 0, 0, 0⟩ : GEntry), 0, (Vector.replicate 8 (default : Int)), 0, 0, [], (⟨0, (Vector.replicate 8 (default : Int)), (Vector.replicate 8 (default : Int)), (Vector.replicate 8 (default : Int))⟩ : GEpoch), (⟨0, 0, 0, []⟩ : GPart)⟩ : GMsg)⟩ : Srecord_CheckMsgxc)))
 else
 (bif (m.Kind == 8) then
 (some (.inl (⟨r1, m, (⟨m.Kind, m.From, m.To, (⟨0, 0⟩ : GBallot), m.Slot, [], (⟨0, 0, 0, (⟨(⟨0, 0⟩ : GStamp), 0, 0, 0, [], [], []⟩ : GOp), 0, 0, [], (⟨0, (Vector.replicate 8 (default : Int)), (Vector.replicate 8 (default : Int)), (Vector.replicate 8 (default : Int))⟩ : GEpoch), 0, (Vector.replicate 8 (default : Int)), 0, (⟨0, 0, 0, []⟩ : GPart), 0, 0, 0⟩ : GEntry), 0, (Vector.replicate 8 (default : Int)), 0, 0, [], (⟨0, (Vector.replicate 8 (default : Int)), (Vector.replicate 8 (default : Int)), (Vector.replicate 8 (default : Int))⟩ : GEpoch), (⟨0, 0, 0, []⟩ : GPart)⟩ : GMsg)⟩ : Srecord_CheckMsgxc)))
 else
 (bif (m.Kind == 9) then
 (some (.inl (⟨r1, m, (⟨m.Kind, m.From, m.To, (⟨0, 0⟩ : GBallot), 0, [], m.Entry, 0, (Vector.replicate 8 (default : Int)), 0, 0, [], (⟨0, (Vector.replicate 8 (default : Int)), (Vector.replicate 8 (default : Int)), (Vector.replicate 8 (default : Int))⟩ : GEpoch), (⟨0, 0, 0, []⟩ : GPart)⟩ : GMsg)⟩ : Srecord_CheckMsgxc)))
 else
 (bif (m.Kind == 10) then
 (some (.inl (⟨r1, m, (⟨m.Kind, m.From, m.To, (⟨0, 0⟩ : GBallot), 0, [], (⟨0, 0, 0, (⟨(⟨0, 0⟩ : GStamp), 0, 0, 0, [], [], []⟩ : GOp), 0, 0, [], (⟨0, (Vector.replicate 8 (default : Int)), (Vector.replicate 8 (default : Int)), (Vector.replicate 8 (default : Int))⟩ : GEpoch), 0, (Vector.replicate 8 (default : Int)), 0, (⟨0, 0, 0, []⟩ : GPart), 0, 0, 0⟩ : GEntry), m.Number, m.Vector_, m.Clock, 0, [], (⟨0, (Vector.replicate 8 (default : Int)), (Vector.replicate 8 (default : Int)), (Vector.replicate 8 (default : Int))⟩ : GEpoch), (⟨0, 0, 0, []⟩ : GPart)⟩ : GMsg)⟩ : Srecord_CheckMsgxc)))
 else
 (bif (m.Kind == 11) then
 ((bif r1 then Frecord_site N [m.Origin] else some default).bind fun r12 =>
 ((bif (r1 && r12) then Frecord_mayOps N m.Ops 1 else some default).bind fun r13 =>
 (some (.inl (⟨((r1 && r12) && r13), m, (⟨m.Kind, m.From, m.To, (⟨0, 0⟩ : GBallot), m.Slot, [], (⟨0, 0, 0, (⟨(⟨0, 0⟩ : GStamp), 0, 0, 0, [], [], []⟩ : GOp), 0, 0, [], (⟨0, (Vector.replicate 8 (default : Int)), (Vector.replicate 8 (default : Int)), (Vector.replicate 8 (default : Int))⟩ : GEpoch), 0, (Vector.replicate 8 (default : Int)), 0, (⟨0, 0, 0, []⟩ : GPart), 0, 0, 0⟩ : GEntry), m.Number, (Vector.replicate 8 (default : Int)), 0, m.Origin, m.Ops, (⟨0, (Vector.replicate 8 (default : Int)), (Vector.replicate 8 (default : Int)), (Vector.replicate 8 (default : Int))⟩ : GEpoch), (⟨0, 0, 0, []⟩ : GPart)⟩ : GMsg)⟩ : Srecord_CheckMsgxc)))))
 else
 (bif (m.Kind == 12) then
 ((bif r1 then Frecord_mayEpoch N m.Epoch else some default).bind fun r14 =>
 (some (.inl (⟨(r1 && r14), m, (⟨m.Kind, m.From, m.To, (⟨0, 0⟩ : GBallot), 0, [], (⟨0, 0, 0, (⟨(⟨0, 0⟩ : GStamp), 0, 0, 0, [], [], []⟩ : GOp), 0, 0, [], (⟨0, (Vector.replicate 8 (default : Int)), (Vector.replicate 8 (default : Int)), (Vector.replicate 8 (default : Int))⟩ : GEpoch), 0, (Vector.replicate 8 (default : Int)), 0, (⟨0, 0, 0, []⟩ : GPart), 0, 0, 0⟩ : GEntry), 0, (Vector.replicate 8 (default : Int)), 0, 0, [], m.Epoch, (⟨0, 0, 0, []⟩ : GPart)⟩ : GMsg)⟩ : Srecord_CheckMsgxc))))
 else
 (bif (m.Kind == 13) then
 ((bif r1 then Frecord_mayPart N m.Part else some default).bind fun r15 =>
 (some (.inl (⟨(r1 && r15), m, (⟨m.Kind, m.From, m.To, (⟨0, 0⟩ : GBallot), 0, [], (⟨0, 0, 0, (⟨(⟨0, 0⟩ : GStamp), 0, 0, 0, [], [], []⟩ : GOp), 0, 0, [], (⟨0, (Vector.replicate 8 (default : Int)), (Vector.replicate 8 (default : Int)), (Vector.replicate 8 (default : Int))⟩ : GEpoch), 0, (Vector.replicate 8 (default : Int)), 0, (⟨0, 0, 0, []⟩ : GPart), 0, 0, 0⟩ : GEntry), 0, (Vector.replicate 8 (default : Int)), 0, 0, [], (⟨0, (Vector.replicate 8 (default : Int)), (Vector.replicate 8 (default : Int)), (Vector.replicate 8 (default : Int))⟩ : GEpoch), m.Part⟩ : GMsg)⟩ : Srecord_CheckMsgxc))))
 else
 (bif (m.Kind == 14) then
 (some (.inl (⟨r1, m, (⟨m.Kind, m.From, m.To, (⟨0, 0⟩ : GBallot), 0, [], (⟨0, 0, 0, (⟨(⟨0, 0⟩ : GStamp), 0, 0, 0, [], [], []⟩ : GOp), 0, 0, [], (⟨0, (Vector.replicate 8 (default : Int)), (Vector.replicate 8 (default : Int)), (Vector.replicate 8 (default : Int))⟩ : GEpoch), 0, (Vector.replicate 8 (default : Int)), 0, (⟨0, 0, 0, []⟩ : GPart), 0, 0, 0⟩ : GEntry), m.Number, m.Vector_, 0, 0, [], (⟨0, (Vector.replicate 8 (default : Int)), (Vector.replicate 8 (default : Int)), (Vector.replicate 8 (default : Int))⟩ : GEpoch), (⟨0, 0, 0, []⟩ : GPart)⟩ : GMsg)⟩ : Srecord_CheckMsgxc)))
 else
 (bif (m.Kind == 15) then
 ((bif r1 then Frecord_mayPart N m.Part else some default).bind fun r16 =>
 (some (.inl (⟨(r1 && r16), m, (⟨m.Kind, m.From, m.To, (⟨0, 0⟩ : GBallot), m.Slot, [], (⟨0, 0, 0, (⟨(⟨0, 0⟩ : GStamp), 0, 0, 0, [], [], []⟩ : GOp), 0, 0, [], (⟨0, (Vector.replicate 8 (default : Int)), (Vector.replicate 8 (default : Int)), (Vector.replicate 8 (default : Int))⟩ : GEpoch), 0, (Vector.replicate 8 (default : Int)), 0, (⟨0, 0, 0, []⟩ : GPart), 0, 0, 0⟩ : GEntry), 0, (Vector.replicate 8 (default : Int)), 0, 0, [], (⟨0, (Vector.replicate 8 (default : Int)), (Vector.replicate 8 (default : Int)), (Vector.replicate 8 (default : Int))⟩ : GEpoch), m.Part⟩ : GMsg)⟩ : Srecord_CheckMsgxc))))
 else
 (some (.inl (⟨false, m, (⟨m.Kind, m.From, m.To, (⟨0, 0⟩ : GBallot), 0, [], (⟨0, 0, 0, (⟨(⟨0, 0⟩ : GStamp), 0, 0, 0, [], [], []⟩ : GOp), 0, 0, [], (⟨0, (Vector.replicate 8 (default : Int)), (Vector.replicate 8 (default : Int)), (Vector.replicate 8 (default : Int))⟩ : GEpoch), 0, (Vector.replicate 8 (default : Int)), 0, (⟨0, 0, 0, []⟩ : GPart), 0, 0, 0⟩ : GEntry), 0, (Vector.replicate 8 (default : Int)), 0, 0, [], (⟨0, (Vector.replicate 8 (default : Int)), (Vector.replicate 8 (default : Int)), (Vector.replicate 8 (default : Int))⟩ : GEpoch), (⟨0, 0, 0, []⟩ : GPart)⟩ : GMsg)⟩ : Srecord_CheckMsgxc)))))))))))))))))))
def Hrecord_CheckMsg (N : Nat) (m : GMsg) (s : Srecord_CheckMsgxc) : Option (Int) :=
 ((bif s.ok then Frecord_mayBallot N s.b1.Ballot else some default).bind fun r17 =>
 ((bif (s.ok && r17) then Frecord_count N [s.b1.Slot, s.b1.Number, s.b1.Clock] else some default).bind fun r18 =>
 (bif ((s.ok && r17) && r18) then
 ((bif ((s.ok && r17) && r18) then Frecord_count N (s.b1.Vector_.toList) else some default).bind fun r19 =>
 ((bif (((s.ok && r17) && r18) && r19) then Frecord_maySlotted N s.b1.List_ 0 4096 else some default).bind fun r20 =>
 ((bif ((((s.ok && r17) && r18) && r19) && r20) then Frecord_CheckEntry N s.b1.Entry else some default).bind fun r21 =>
 ((bif (((((s.ok && r17) && r18) && r19) && r20) && (r21 == 0)) then Frecord_SameMsg N s.b1 s.b0 else some default).bind fun r22 =>
 ((Frecord_verdict N ((((((s.ok && r17) && r18) && r19) && r20) && (r21 == 0)) && r22)).bind fun r23 =>
 (some r23))))))
 else
 ((bif false then Frecord_maySlotted N s.b1.List_ 0 4096 else some default).bind fun r24 =>
 ((bif false then Frecord_CheckEntry N s.b1.Entry else some default).bind fun r25 =>
 ((bif false then Frecord_SameMsg N s.b1 s.b0 else some default).bind fun r26 =>
 ((Frecord_verdict N false).bind fun r27 =>
 (some r27))))))))
def Frecord_CheckMsg (N : Nat) (m : GMsg) : Option (Int) :=
 (Grecord_CheckMsg N m).bind fun z => match z with | .inl s => Hrecord_CheckMsg N m s | .inr r => some r
def conrecord_CheckMsg : Con τ := { args := [.ty 55], L := [], ret := .ty 56, L' := [], R := Int, dflt := default, F := fun N a b => Frecord_CheckMsg N a.1, of := fun r => (r, ()) }
noncomputable def datrecord_CheckMsg : Dat τ := { D := D0, tbl := tblOf [(82, conrecord_mayAddr), (83, conrecord_site), (84, conrecord_mayOps), (85, conrecord_mayEpoch), (86, conrecord_mayPart), (87, conrecord_mayBallot), (88, conrecord_count), (89, conrecord_maySlotted), (90, conrecord_CheckEntry), (92, conrecord_SameMsg), (91, conrecord_verdict)], lp := lpsOf [], k0 := 0, mu := [], un := [] }
theorem okrecord_CheckMsg : ConOk E C 50 conrecord_CheckMsg :=
  con_cut (D := datrecord_CheckMsg) ⟨d0Ok, eGood, tblOf_ok ⟨okrecord_mayAddr, ⟨okrecord_site, ⟨okrecord_mayOps, ⟨okrecord_mayEpoch, ⟨okrecord_mayPart, ⟨okrecord_mayBallot, ⟨okrecord_count, ⟨okrecord_maySlotted, ⟨okrecord_CheckEntry, ⟨okrecord_SameMsg, ⟨okrecord_verdict, trivial⟩⟩⟩⟩⟩⟩⟩⟩⟩⟩⟩, fun _ => rfl⟩ conrecord_CheckMsg (fun a b => a) none (fun _ _ => rfl) rfl (fun _ _ h => nomatch h) 1000000 [true, true, true, true, false] lprecord_CheckMsgxc (fun N a b => Grecord_CheckMsg N a.1) (fun N a b s => Hrecord_CheckMsg N a.1 s) (by intro N a b; kernel_rfl) (fn := Try.f50) Try.func50 rfl (by kernel_rfl) (by kernel_rfl) rfl (by kernel_rfl) (by intro a b s; kernel_rfl) (by intro N a b; kernel_rfl) (by intro N a b s; kernel_rfl)
def Fexchange_Entry (N : Nat) (m : GMsg) : Option (Int × Int × Int × GOp × Int × Int × Nat × GEpoch × Int × (Vector (Int) 8) × Int × Int × Int × Int × Nat × Int × Int × Int × Bool × (List (GOp)) × (List (Int))) :=
 ((Frecord_CheckMsg N m).bind fun r1 =>
 (bif (!(r1 == 0)) then
 (some (0, 0, 0, (⟨(⟨0, 0⟩ : GStamp), 0, 0, 0, [], [], []⟩ : GOp), 0, 0, 0, (⟨0, (Vector.replicate 8 (default : Int)), (Vector.replicate 8 (default : Int)), (Vector.replicate 8 (default : Int))⟩ : GEpoch), 0, (Vector.replicate 8 (default : Int)), 0, 0, 0, 0, 0, 0, 0, 0, false, [], []))
 else
 ((Frecord_CloneMsg N m).bind fun r2 =>
 ((bif (r2.1 == 10) then Fexchange_site N r2.2.1.Group else some default).bind fun r3 =>
 (bif ((r2.1 == 10) && r3) then
 (some (4, 0, 0, (⟨(⟨0, 0⟩ : GStamp), 0, 0, 0, [], [], []⟩ : GOp), 0, r2.2.2.2.2.2.2.2.1, 0, (⟨0, (Vector.replicate 8 (default : Int)), (Vector.replicate 8 (default : Int)), (Vector.replicate 8 (default : Int))⟩ : GEpoch), r2.2.1.Group, r2.2.2.2.2.2.2.2.2.1, r2.2.2.2.2.2.2.2.2.2.1, 0, 0, 0, 0, 0, 0, 0, true, [], []))
 else
 ((bif (r2.1 == 11) then Fexchange_site N r2.2.1.Group else some default).bind fun r4 =>
 (bif ((r2.1 == 11) && r4) then
 (some (2, 0, 0, (⟨(⟨0, 0⟩ : GStamp), 0, 0, 0, [], [], []⟩ : GOp), r2.2.2.2.2.2.2.2.2.2.2.1, r2.2.2.2.2.1, r2.2.2.2.2.2.2.2.2.2.2.2.1, (⟨0, (Vector.replicate 8 (default : Int)), (Vector.replicate 8 (default : Int)), (Vector.replicate 8 (default : Int))⟩ : GEpoch), 0, (Vector.replicate 8 (default : Int)), 0, 0, 0, 0, 0, 0, 0, 0, true, r2.2.2.2.2.2.2.2.2.2.2.2.2.2.2.2.2.2.2.1, []))
 else
 (bif (r2.1 == 12) then
 (some (3, 0, 0, (⟨(⟨0, 0⟩ : GStamp), 0, 0, 0, [], [], []⟩ : GOp), 0, 0, 0, r2.2.2.2.2.2.2.2.2.2.2.2.2.1, 0, (Vector.replicate 8 (default : Int)), 0, 0, 0, 0, 0, 0, 0, 0, true, [], []))
 else
 (bif (r2.1 == 13) then
 (some (5, 0, 0, (⟨(⟨0, 0⟩ : GStamp), 0, 0, 0, [], [], []⟩ : GOp), 0, 0, 0, (⟨0, (Vector.replicate 8 (default : Int)), (Vector.replicate 8 (default : Int)), (Vector.replicate 8 (default : Int))⟩ : GEpoch), 0, (Vector.replicate 8 (default : Int)), 0, r2.2.2.2.2.2.2.2.2.2.2.2.2.2.1, r2.2.2.2.2.2.2.2.2.2.2.2.2.2.2.1, r2.2.2.2.2.2.2.2.2.2.2.2.2.2.2.2.1, r2.2.2.2.2.2.2.2.2.2.2.2.2.2.2.2.2.1, 0, 0, 0, true, [], r2.2.2.2.2.2.2.2.2.2.2.2.2.2.2.2.2.2.2.2))
 else
 (some (0, 0, 0, (⟨(⟨0, 0⟩ : GStamp), 0, 0, 0, [], [], []⟩ : GOp), 0, 0, 0, (⟨0, (Vector.replicate 8 (default : Int)), (Vector.replicate 8 (default : Int)), (Vector.replicate 8 (default : Int))⟩ : GEpoch), 0, (Vector.replicate 8 (default : Int)), 0, 0, 0, 0, 0, 0, 0, 0, false, [], [])))))))))))
def conexchange_Entry : Con τ := { args := [.ty 55], L := [], ret := .tup [.agg [.ty 3, .ty 2, .ty 2, .ty 43, .ty 3, .ty 2, .msl 43 0, .ty 26, .ty 3, .ty 24, .ty 2, .agg [.ty 2, .ty 3, .ty 3, .msl 5 1], .ty 3, .ty 3, .ty 2], .ty 4], L' := [.gbx 43, .gbx 5], R := Int × Int × Int × GOp × Int × Int × Nat × GEpoch × Int × (Vector (Int) 8) × Int × Int × Int × Int × Nat × Int × Int × Int × Bool × (List (GOp)) × (List (Int)), dflt := (default, default, default, default, default, default, default, default, default, default, default, default, default, default, default, default, default, default, default, default, default), F := fun N a b => Fexchange_Entry N a.1, of := fun r => (((r.1, r.2.1, r.2.2.1, r.2.2.2.1, r.2.2.2.2.1, r.2.2.2.2.2.1, r.2.2.2.2.2.2.1, r.2.2.2.2.2.2.2.1, r.2.2.2.2.2.2.2.2.1, r.2.2.2.2.2.2.2.2.2.1, r.2.2.2.2.2.2.2.2.2.2.1, (r.2.2.2.2.2.2.2.2.2.2.2.1, r.2.2.2.2.2.2.2.2.2.2.2.2.1, r.2.2.2.2.2.2.2.2.2.2.2.2.2.1, r.2.2.2.2.2.2.2.2.2.2.2.2.2.2.1, ()), r.2.2.2.2.2.2.2.2.2.2.2.2.2.2.2.1, r.2.2.2.2.2.2.2.2.2.2.2.2.2.2.2.2.1, r.2.2.2.2.2.2.2.2.2.2.2.2.2.2.2.2.2.1, ()), r.2.2.2.2.2.2.2.2.2.2.2.2.2.2.2.2.2.2.1, ()), (r.2.2.2.2.2.2.2.2.2.2.2.2.2.2.2.2.2.2.2.1, r.2.2.2.2.2.2.2.2.2.2.2.2.2.2.2.2.2.2.2.2, ())) }
noncomputable def datexchange_Entry : Dat τ := { D := D0, tbl := tblOf [(50, conrecord_CheckMsg), (48, conrecord_CloneMsg), (33, conexchange_site)], lp := lpsOf [], k0 := 0, mu := [], un := [] }
theorem okexchange_Entry : ConOk E C 25 conexchange_Entry :=
  con_ok (D := datexchange_Entry) ⟨d0Ok, eGood, tblOf_ok ⟨okrecord_CheckMsg, ⟨okrecord_CloneMsg, ⟨okexchange_site, trivial⟩⟩⟩, fun _ => rfl⟩ conexchange_Entry (fun a b => (a.1.1, a.1.2.1, a.1.2.2.1, a.1.2.2.2.1, a.1.2.2.2.2.1, a.1.2.2.2.2.2.1, a.1.2.2.2.2.2.2.1, a.1.2.2.2.2.2.2.2.1, a.1.2.2.2.2.2.2.2.2.1, a.1.2.2.2.2.2.2.2.2.2.1, a.1.2.2.2.2.2.2.2.2.2.2.1, a.1.2.2.2.2.2.2.2.2.2.2.2.1.1, a.1.2.2.2.2.2.2.2.2.2.2.2.1.2.1, a.1.2.2.2.2.2.2.2.2.2.2.2.1.2.2.1, a.1.2.2.2.2.2.2.2.2.2.2.2.1.2.2.2.1, a.1.2.2.2.2.2.2.2.2.2.2.2.2.1, a.1.2.2.2.2.2.2.2.2.2.2.2.2.2.1, a.1.2.2.2.2.2.2.2.2.2.2.2.2.2.2.1, a.2.1, b.1, b.2.1)) none (fun _ _ => rfl) rfl (fun _ _ h => nomatch h) 1000000 (fn := Try.f25) Try.func25 rfl (by kernel_rfl) (by kernel_rfl) rfl (by intro N a b; kernel_rfl)
structure Sexchange_Take_38ex9 where
  l : Nat
  last : Int
  t66 : Int
  g1 : List (GOp)
def tsexchange_Take_38ex9 : List Sl := [.k, .k, .k, .k, .k, .k, .k, .k, .k, .k, .sh (.msl 43 1), .sh (.ty 2), .k, .j, .j, .j, .k, .k, .k, .k, .j, .j, .j, .j, .k, .k, .j, .j, .j, .j, .j, .j, .k, .k, .k, .k, .k, .k, .k, .k, .j, .j, .j, .k, .k, .j, .j, .k, .k, .j, .j, .j, .j, .j, .j, .k, .k, .k, .k, .k, .k, .k, .k, .k, .k, .k, .sh (.ty 2), .j, .j, .j, .j, .j, .j, .j, .j, .j, .j, .j, .j, .j, .j, .j, .j, .j, .j, .j, .j, .j, .j, .j, .j, .j, .j, .j, .j, .j, .j, .j, .j, .j, .j, .j, .j, .j, .j, .j, .j, .j, .j, .j, .j, .j, .j, .j, .j, .j, .j, .j, .j, .j, .j, .j, .j, .j, .j, .j, .j, .j, .j, .k]
def hsexchange_Take_38ex9 : List ESh := [.keep, .gbx 43]
def toexchange_Take_38ex9 (a : Sl.Ts τ tsexchange_Take_38ex9) (b : ESh.Ts τ hsexchange_Take_38ex9) : Sexchange_Take_38ex9 := ⟨a.2.2.2.2.2.2.2.2.2.2.1, a.2.2.2.2.2.2.2.2.2.2.2.1, a.2.2.2.2.2.2.2.2.2.2.2.2.2.2.2.2.2.2.2.2.2.2.2.2.2.2.2.2.2.2.2.2.2.2.2.2.2.2.2.2.2.2.2.2.2.2.2.2.2.2.2.2.2.2.2.2.2.2.2.2.2.2.2.2.2.2.1, b.2.1⟩
def otexchange_Take_38ex9 (s : Sexchange_Take_38ex9) : Sl.Ts τ tsexchange_Take_38ex9 := ((), (), (), (), (), (), (), (), (), (), s.l, s.last, (), (), (), (), (), (), (), (), (), (), (), (), (), (), (), (), (), (), (), (), (), (), (), (), (), (), (), (), (), (), (), (), (), (), (), (), (), (), (), (), (), (), (), (), (), (), (), (), (), (), (), (), (), (), s.t66, (), (), (), (), (), (), (), (), (), (), (), (), (), (), (), (), (), (), (), (), (), (), (), (), (), (), (), (), (), (), (), (), (), (), (), (), (), (), (), (), (), (), (), (), (), (), (), (), (), (), (), (), (), (), (), (), (), (), (), (), (), (), (), ())
def ohexchange_Take_38ex9 (s : Sexchange_Take_38ex9) : ESh.Ts τ hsexchange_Take_38ex9 := ((), s.g1, ())
def lpexchange_Take_38ex9 : Lp τ := { ts := tsexchange_Take_38ex9, hs := hsexchange_Take_38ex9, S := Sexchange_Take_38ex9, to := toexchange_Take_38ex9, ot := otexchange_Take_38ex9, oh := ohexchange_Take_38ex9, hk := [2], tk := [0, 0, 0, 0, 2, 0, 0, 0, 0, 0, 0, 0, 0, 0, 0, 0, 0, 0, 0, 0, 0, 0, 0, 0, 0, 0, 0, 0, 0, 0, 0, 0, 0, 0, 2, 2, 0, 0, 0, 0, 0, 0, 0, 0, 0, 0, 0, 0, 0, 0, 0, 0, 0, 0, 0, 0, 0, 2, 2], ot_to := fun _ _ => rfl, oh_to := fun _ _ => rfl }
def Fexchange_Take_38e (N : Nat) (s : GSnap) (origin : Int) (seq : Int) (ops : List (GOp)) : Option (Nat × (List (GOp))) :=
 ((Fexchange_site N origin).bind fun r1 =>
 (bif (!(!((!r1) || (origin == s.Site))) || (ibB origin 8)) then
 (bif (((!r1) || (origin == s.Site)) || ((vget s.Epoch.States ((origin).toNat) default) == 0)) then
 (some (0, []))
 else
 (bif (ibB origin 8) then
 (bif ((((decide (seq < 0)) || (decide ((vget s.Vector_ ((origin).toNat) default) < seq))) || (decide (1099511627776 < (vget s.Vector_ ((origin).toNat) default)))) || (decide (((ops).length : Int) ≤ (IntKind.i64.wrap ((vget s.Vector_ ((origin).toNat) default) - seq))))) then
 (some (0, []))
 else
 (bif (ibB origin 8) then
 (bif (cutB (IntKind.i64.wrap ((vget s.Vector_ ((origin).toNat) default) - seq)) ((ops).length : Int) ((ops).length : Int)) then
 (iter N (fun (s2 : Sexchange_Take_38ex9) next3 =>
 (bif (decide (s2.t66 < (((cut ops (IntKind.i64.wrap ((vget s.Vector_ ((origin).toNat) default) - seq)) ((ops).length : Int))).length : Int))) then
 (bif (ibB s2.t66 (((cut ops (IntKind.i64.wrap ((vget s.Vector_ ((origin).toNat) default) - seq)) ((ops).length : Int))).length : Int)) then
 (bif (ibB origin 8) then
 (bif (!((vget s.Epoch.States ((origin).toNat) default) == 3) || (ibB origin 8)) then
 ((bif (!((decide (1099511627776 ≤ (IntKind.i64.wrap ((vget s.Vector_ ((origin).toNat) default) + ((s2.l : Nat) : Int))))) || (((vget s.Epoch.States ((origin).toNat) default) == 3) && (decide ((vget s.Epoch.Seals ((origin).toNat) default) ≤ (IntKind.i64.wrap ((vget s.Vector_ ((origin).toNat) default) + ((s2.l : Nat) : Int)))))))) then Fstamp_CheckOp N (⟨((lget (cut ops (IntKind.i64.wrap ((vget s.Vector_ ((origin).toNat) default) - seq)) ((ops).length : Int)) s2.t66 default).Stamp), (lget (cut ops (IntKind.i64.wrap ((vget s.Vector_ ((origin).toNat) default) - seq)) ((ops).length : Int)) s2.t66 default).Kind, (lget (cut ops (IntKind.i64.wrap ((vget s.Vector_ ((origin).toNat) default) - seq)) ((ops).length : Int)) s2.t66 default).Node, (lget (cut ops (IntKind.i64.wrap ((vget s.Vector_ ((origin).toNat) default) - seq)) ((ops).length : Int)) s2.t66 default).Parent, (lget (cut ops (IntKind.i64.wrap ((vget s.Vector_ ((origin).toNat) default) - seq)) ((ops).length : Int)) s2.t66 default).Name, (lget (cut ops (IntKind.i64.wrap ((vget s.Vector_ ((origin).toNat) default) - seq)) ((ops).length : Int)) s2.t66 default).Key, (lget (cut ops (IntKind.i64.wrap ((vget s.Vector_ ((origin).toNat) default) - seq)) ((ops).length : Int)) s2.t66 default).Value⟩ : GOp) else some default).bind fun r4 =>
 (bif ((((((decide (1099511627776 ≤ (IntKind.i64.wrap ((vget s.Vector_ ((origin).toNat) default) + ((s2.l : Nat) : Int))))) || (((vget s.Epoch.States ((origin).toNat) default) == 3) && (decide ((vget s.Epoch.Seals ((origin).toNat) default) ≤ (IntKind.i64.wrap ((vget s.Vector_ ((origin).toNat) default) + ((s2.l : Nat) : Int))))))) || (!(r4 == 0))) || (!((((lget (cut ops (IntKind.i64.wrap ((vget s.Vector_ ((origin).toNat) default) - seq)) ((ops).length : Int)) s2.t66 default).Stamp).Site) == origin))) || (decide ((((lget (cut ops (IntKind.i64.wrap ((vget s.Vector_ ((origin).toNat) default) - seq)) ((ops).length : Int)) s2.t66 default).Stamp).Time) ≤ s2.last))) || (decide ((((lget (cut ops (IntKind.i64.wrap ((vget s.Vector_ ((origin).toNat) default) - seq)) ((ops).length : Int)) s2.t66 default).Stamp).Time) ≤ s.Frontier))) then
 (some (s2.l, s2.g1))
 else
 (bif ((lenB (s2.l + ([(⟨((lget (cut ops (IntKind.i64.wrap ((vget s.Vector_ ((origin).toNat) default) - seq)) ((ops).length : Int)) s2.t66 default).Stamp), (lget (cut ops (IntKind.i64.wrap ((vget s.Vector_ ((origin).toNat) default) - seq)) ((ops).length : Int)) s2.t66 default).Kind, (lget (cut ops (IntKind.i64.wrap ((vget s.Vector_ ((origin).toNat) default) - seq)) ((ops).length : Int)) s2.t66 default).Node, (lget (cut ops (IntKind.i64.wrap ((vget s.Vector_ ((origin).toNat) default) - seq)) ((ops).length : Int)) s2.t66 default).Parent, (lget (cut ops (IntKind.i64.wrap ((vget s.Vector_ ((origin).toNat) default) - seq)) ((ops).length : Int)) s2.t66 default).Name, (lget (cut ops (IntKind.i64.wrap ((vget s.Vector_ ((origin).toNat) default) - seq)) ((ops).length : Int)) s2.t66 default).Key, (lget (cut ops (IntKind.i64.wrap ((vget s.Vector_ ((origin).toNat) default) - seq)) ((ops).length : Int)) s2.t66 default).Value⟩ : GOp)]).length) 88) && (Nat.ble s2.l (s2.g1).length)) then
 (next3 ⟨(s2.l + ([(⟨((lget (cut ops (IntKind.i64.wrap ((vget s.Vector_ ((origin).toNat) default) - seq)) ((ops).length : Int)) s2.t66 default).Stamp), (lget (cut ops (IntKind.i64.wrap ((vget s.Vector_ ((origin).toNat) default) - seq)) ((ops).length : Int)) s2.t66 default).Kind, (lget (cut ops (IntKind.i64.wrap ((vget s.Vector_ ((origin).toNat) default) - seq)) ((ops).length : Int)) s2.t66 default).Node, (lget (cut ops (IntKind.i64.wrap ((vget s.Vector_ ((origin).toNat) default) - seq)) ((ops).length : Int)) s2.t66 default).Parent, (lget (cut ops (IntKind.i64.wrap ((vget s.Vector_ ((origin).toNat) default) - seq)) ((ops).length : Int)) s2.t66 default).Name, (lget (cut ops (IntKind.i64.wrap ((vget s.Vector_ ((origin).toNat) default) - seq)) ((ops).length : Int)) s2.t66 default).Key, (lget (cut ops (IntKind.i64.wrap ((vget s.Vector_ ((origin).toNat) default) - seq)) ((ops).length : Int)) s2.t66 default).Value⟩ : GOp)]).length), ((lget (cut ops (IntKind.i64.wrap ((vget s.Vector_ ((origin).toNat) default) - seq)) ((ops).length : Int)) s2.t66 default).Stamp).Time, (IntKind.i64.wrap (s2.t66 + 1)), (s2.g1.take s2.l ++ [(⟨((lget (cut ops (IntKind.i64.wrap ((vget s.Vector_ ((origin).toNat) default) - seq)) ((ops).length : Int)) s2.t66 default).Stamp), (lget (cut ops (IntKind.i64.wrap ((vget s.Vector_ ((origin).toNat) default) - seq)) ((ops).length : Int)) s2.t66 default).Kind, (lget (cut ops (IntKind.i64.wrap ((vget s.Vector_ ((origin).toNat) default) - seq)) ((ops).length : Int)) s2.t66 default).Node, (lget (cut ops (IntKind.i64.wrap ((vget s.Vector_ ((origin).toNat) default) - seq)) ((ops).length : Int)) s2.t66 default).Parent, (lget (cut ops (IntKind.i64.wrap ((vget s.Vector_ ((origin).toNat) default) - seq)) ((ops).length : Int)) s2.t66 default).Name, (lget (cut ops (IntKind.i64.wrap ((vget s.Vector_ ((origin).toNat) default) - seq)) ((ops).length : Int)) s2.t66 default).Key, (lget (cut ops (IntKind.i64.wrap ((vget s.Vector_ ((origin).toNat) default) - seq)) ((ops).length : Int)) s2.t66 default).Value⟩ : GOp)])⟩)
 else none)))
 else none)
 else none)
 else none)
 else
 (some (s2.l, s2.g1)))) ⟨0, (vget s.Last ((origin).toNat) default), 0, []⟩)
 else none)
 else none))
 else none))
 else none))
def conexchange_Take_38e : Con τ := { args := [.ty 34, .ty 3, .ty 2, .ty 28], L := [], ret := .msl 43 0, L' := [.gbx 43], R := Nat × (List (GOp)), dflt := (default, default), F := fun N a b => Fexchange_Take_38e N a.1 a.2.1 a.2.2.1 a.2.2.2.1, of := fun r => (r.1, (r.2, ())) }
noncomputable def datexchange_Take_38e : Dat τ := { D := D0, tbl := tblOf [(33, conexchange_site), (34, constamp_CheckOp)], lp := lpsOf [(9, lpexchange_Take_38ex9)], k0 := 0, mu := [127], un := [] }
theorem okexchange_Take_38e : ConOk E C 12 conexchange_Take_38e :=
  con_ok (D := datexchange_Take_38e) ⟨d0Ok, eGood, tblOf_ok ⟨okexchange_site, ⟨okstamp_CheckOp, trivial⟩⟩, fun _ => rfl⟩ conexchange_Take_38e (fun a b => (a, b.1)) none (fun _ _ => rfl) rfl (fun _ _ h => nomatch h) 1000000 (fn := Try.f12) Try.func12 rfl (by kernel_rfl) (by kernel_rfl) rfl (by intro N a b; kernel_rfl)
structure Sref14_sameOpsx4 where
  i : Int
def tsref14_sameOpsx4 : List Sl := [.k, .k, .k, .k, .j, .sh (.ty 2), .k, .k, .k, .k, .k, .j, .j, .j, .j, .j, .j, .j, .j, .j, .j, .j, .j, .j, .j, .j]
def hsref14_sameOpsx4 : List ESh := []
def toref14_sameOpsx4 (a : Sl.Ts τ tsref14_sameOpsx4) (b : ESh.Ts τ hsref14_sameOpsx4) : Sref14_sameOpsx4 := ⟨a.2.2.2.2.2.1⟩
def otref14_sameOpsx4 (s : Sref14_sameOpsx4) : Sl.Ts τ tsref14_sameOpsx4 := ((), (), (), (), (), s.i, (), (), (), (), (), (), (), (), (), (), (), (), (), (), (), (), (), (), (), (), ())
def ohref14_sameOpsx4 (s : Sref14_sameOpsx4) : ESh.Ts τ hsref14_sameOpsx4 := ()
def lpref14_sameOpsx4 : Lp τ := { ts := tsref14_sameOpsx4, hs := hsref14_sameOpsx4, S := Sref14_sameOpsx4, to := toref14_sameOpsx4, ot := otref14_sameOpsx4, oh := ohref14_sameOpsx4, hk := [], tk := [], ot_to := fun _ _ => rfl, oh_to := fun _ _ => rfl }
def Fref14_sameOps (N : Nat) (a : List (GOp)) (b : List (GOp)) : Option (Bool) :=
 (bif (!(((a).length : Int) == ((b).length : Int))) then
 (some false)
 else
 (iter N (fun (s1 : Sref14_sameOpsx4) next2 =>
 (bif (decide (s1.i < ((a).length : Int))) then
 (bif (ibB s1.i ((a).length : Int)) then
 (bif (ibB s1.i ((b).length : Int)) then
 (bif (!((((((lget a s1.i default).Stamp).Time) == (((lget b s1.i default).Stamp).Time)) && ((((lget a s1.i default).Stamp).Site) == (((lget b s1.i default).Stamp).Site))) && ((((lget a s1.i default).Kind) == ((lget b s1.i default).Kind)) && ((((lget a s1.i default).Node) == ((lget b s1.i default).Node)) && ((((lget a s1.i default).Parent) == ((lget b s1.i default).Parent)) && ((((lget a s1.i default).Name) == ((lget b s1.i default).Name)) && ((((lget a s1.i default).Key) == ((lget b s1.i default).Key)) && (((lget a s1.i default).Value) == ((lget b s1.i default).Value))))))))) then
 (some false)
 else
 (next2 ⟨(IntKind.i64.wrap (s1.i + 1))⟩))
 else none)
 else none)
 else
 (some true))) ⟨0⟩))
def conref14_sameOps : Con τ := { args := [.ty 28, .ty 28], L := [], ret := .ty 4, L' := [], R := Bool, dflt := default, F := fun N a b => Fref14_sameOps N a.1 a.2.1, of := fun r => (r, ()) }
noncomputable def datref14_sameOps : Dat τ := { D := D0, tbl := tblOf [], lp := lpsOf [(4, lpref14_sameOpsx4)], k0 := 0, mu := [], un := [] }
theorem okref14_sameOps : ConOk E C 101 conref14_sameOps :=
  con_ok (D := datref14_sameOps) ⟨d0Ok, eGood, tblOf_ok trivial, fun _ => rfl⟩ conref14_sameOps (fun a b => a) none (fun _ _ => rfl) rfl (fun _ _ h => nomatch h) 1000000 (fn := Try.f101) Try.func101 rfl (by kernel_rfl) (by kernel_rfl) rfl (by intro N a b; kernel_rfl)
structure Sref12_SameNodex4 where
  i : Int
def tsref12_SameNodex4 : List Sl := [.k, .k, .k, .k, .j, .sh (.ty 2), .k, .k, .k, .k, .k, .k, .j, .j, .j, .j, .j, .k, .k, .j, .j, .j, .j, .j, .k, .k, .j, .j, .j, .j, .j, .j, .j, .k, .j, .j, .j, .j, .j, .j, .j, .j, .j, .j, .j, .j, .j, .j, .j, .j, .j, .j]
def hsref12_SameNodex4 : List ESh := [.keep, .keep]
def toref12_SameNodex4 (a : Sl.Ts τ tsref12_SameNodex4) (b : ESh.Ts τ hsref12_SameNodex4) : Sref12_SameNodex4 := ⟨a.2.2.2.2.2.1⟩
def otref12_SameNodex4 (s : Sref12_SameNodex4) : Sl.Ts τ tsref12_SameNodex4 := ((), (), (), (), (), s.i, (), (), (), (), (), (), (), (), (), (), (), (), (), (), (), (), (), (), (), (), (), (), (), (), (), (), (), (), (), (), (), (), (), (), (), (), (), (), (), (), (), (), (), (), (), (), ())
def ohref12_SameNodex4 (s : Sref12_SameNodex4) : ESh.Ts τ hsref12_SameNodex4 := ((), (), ())
def lpref12_SameNodex4 : Lp τ := { ts := tsref12_SameNodex4, hs := hsref12_SameNodex4, S := Sref12_SameNodex4, to := toref12_SameNodex4, ot := otref12_SameNodex4, oh := ohref12_SameNodex4, hk := [2, 2], tk := [0, 0, 2, 3, 0, 0, 2, 0, 3], ot_to := fun _ _ => rfl, oh_to := fun _ _ => rfl }
def Fref12_SameNode (N : Nat) (a : GTreeNode) (b : GTreeNode) : Option (Bool) :=
 (bif ((((!(a.Node == b.Node)) || (!(a.Parent == b.Parent))) || (!(a.Name == b.Name))) || (!(((a.Attrs).length : Int) == ((b.Attrs).length : Int)))) then
 (some false)
 else
 (iter N (fun (s1 : Sref12_SameNodex4) next2 =>
 (bif (decide (s1.i < ((a.Attrs).length : Int))) then
 (bif (ibB s1.i ((a.Attrs).length : Int)) then
 (bif (ibB s1.i ((b.Attrs).length : Int)) then
 (bif (!((((lget a.Attrs s1.i default).Key) == ((lget b.Attrs s1.i default).Key)) && (((lget a.Attrs s1.i default).Value) == ((lget b.Attrs s1.i default).Value)))) then
 (some false)
 else
 (next2 ⟨(IntKind.i64.wrap (s1.i + 1))⟩))
 else none)
 else none)
 else
 (some true))) ⟨0⟩))
def conref12_SameNode : Con τ := { args := [.ty 98, .ty 98], L := [], ret := .ty 4, L' := [], R := Bool, dflt := default, F := fun N a b => Fref12_SameNode N a.1 a.2.1, of := fun r => (r, ()) }
noncomputable def datref12_SameNode : Dat τ := { D := D0, tbl := tblOf [], lp := lpsOf [(4, lpref12_SameNodex4)], k0 := 0, mu := [], un := [] }
theorem okref12_SameNode : ConOk E C 132 conref12_SameNode :=
  con_ok (D := datref12_SameNode) ⟨d0Ok, eGood, tblOf_ok trivial, fun _ => rfl⟩ conref12_SameNode (fun a b => a) none (fun _ _ => rfl) rfl (fun _ _ h => nomatch h) 1000000 (fn := Try.f132) Try.func132 rfl (by kernel_rfl) (by kernel_rfl) rfl (by intro N a b; kernel_rfl)
structure Sref12_Samex4 where
  i : Int
def tsref12_Samex4 : List Sl := [.k, .k, .k, .k, .j, .sh (.ty 2), .k, .k, .k, .k, .k, .j, .j, .j, .j, .j, .j, .j, .j, .j, .j, .j, .j, .j, .j, .j, .j]
def hsref12_Samex4 : List ESh := []
def toref12_Samex4 (a : Sl.Ts τ tsref12_Samex4) (b : ESh.Ts τ hsref12_Samex4) : Sref12_Samex4 := ⟨a.2.2.2.2.2.1⟩
def otref12_Samex4 (s : Sref12_Samex4) : Sl.Ts τ tsref12_Samex4 := ((), (), (), (), (), s.i, (), (), (), (), (), (), (), (), (), (), (), (), (), (), (), (), (), (), (), (), (), ())
def ohref12_Samex4 (s : Sref12_Samex4) : ESh.Ts τ hsref12_Samex4 := ()
def lpref12_Samex4 : Lp τ := { ts := tsref12_Samex4, hs := hsref12_Samex4, S := Sref12_Samex4, to := toref12_Samex4, ot := otref12_Samex4, oh := ohref12_Samex4, hk := [], tk := [], ot_to := fun _ _ => rfl, oh_to := fun _ _ => rfl }
def Fref12_Same (N : Nat) (a : List (GTreeNode)) (b : List (GTreeNode)) : Option (Bool) :=
 (bif (!(((a).length : Int) == ((b).length : Int))) then
 (some false)
 else
 (iter N (fun (s1 : Sref12_Samex4) next2 =>
 (bif (decide (s1.i < ((a).length : Int))) then
 (bif (ibB s1.i ((a).length : Int)) then
 (bif (ibB s1.i ((b).length : Int)) then
 ((Fref12_SameNode N (lget a s1.i default) (lget b s1.i default)).bind fun r3 =>
 (bif (!r3) then
 (some false)
 else
 (next2 ⟨(IntKind.i64.wrap (s1.i + 1))⟩)))
 else none)
 else none)
 else
 (some true))) ⟨0⟩))
def conref12_Same : Con τ := { args := [.ty 27, .ty 27], L := [], ret := .ty 4, L' := [], R := Bool, dflt := default, F := fun N a b => Fref12_Same N a.1 a.2.1, of := fun r => (r, ()) }
noncomputable def datref12_Same : Dat τ := { D := D0, tbl := tblOf [(132, conref12_SameNode)], lp := lpsOf [(4, lpref12_Samex4)], k0 := 0, mu := [], un := [] }
theorem okref12_Same : ConOk E C 102 conref12_Same :=
  con_ok (D := datref12_Same) ⟨d0Ok, eGood, tblOf_ok ⟨okref12_SameNode, trivial⟩, fun _ => rfl⟩ conref12_Same (fun a b => a) none (fun _ _ => rfl) rfl (fun _ _ h => nomatch h) 1000000 (fn := Try.f102) Try.func102 rfl (by kernel_rfl) (by kernel_rfl) rfl (by intro N a b; kernel_rfl)
structure Sref14_sameRowsx4 where
  i : Int
def tsref14_sameRowsx4 : List Sl := [.k, .k, .k, .k, .j, .sh (.ty 2), .k, .k, .k, .k, .k, .j, .j, .j, .j, .j, .j, .j, .j, .j, .j, .j, .j, .j, .j, .j]
def hsref14_sameRowsx4 : List ESh := []
def toref14_sameRowsx4 (a : Sl.Ts τ tsref14_sameRowsx4) (b : ESh.Ts τ hsref14_sameRowsx4) : Sref14_sameRowsx4 := ⟨a.2.2.2.2.2.1⟩
def otref14_sameRowsx4 (s : Sref14_sameRowsx4) : Sl.Ts τ tsref14_sameRowsx4 := ((), (), (), (), (), s.i, (), (), (), (), (), (), (), (), (), (), (), (), (), (), (), (), (), (), (), (), ())
def ohref14_sameRowsx4 (s : Sref14_sameRowsx4) : ESh.Ts τ hsref14_sameRowsx4 := ()
def lpref14_sameRowsx4 : Lp τ := { ts := tsref14_sameRowsx4, hs := hsref14_sameRowsx4, S := Sref14_sameRowsx4, to := toref14_sameRowsx4, ot := otref14_sameRowsx4, oh := ohref14_sameRowsx4, hk := [], tk := [], ot_to := fun _ _ => rfl, oh_to := fun _ _ => rfl }
def Fref14_sameRows (N : Nat) (a : List (GRow)) (b : List (GRow)) : Option (Bool) :=
 (bif (!(((a).length : Int) == ((b).length : Int))) then
 (some false)
 else
 (iter N (fun (s1 : Sref14_sameRowsx4) next2 =>
 (bif (decide (s1.i < ((a).length : Int))) then
 (bif (ibB s1.i ((a).length : Int)) then
 (bif (ibB s1.i ((b).length : Int)) then
 (bif (!((((lget a s1.i default).Session) == ((lget b s1.i default).Session)) && ((((lget a s1.i default).Request) == ((lget b s1.i default).Request)) && (((((lget a s1.i default).Reply).Err) == (((lget b s1.i default).Reply).Err)) && (((((((lget a s1.i default).Reply).Stamp).Time) == ((((lget b s1.i default).Reply).Stamp).Time)) && (((((lget a s1.i default).Reply).Stamp).Site) == ((((lget b s1.i default).Reply).Stamp).Site))) && ((((lget a s1.i default).Reply).Node) == (((lget b s1.i default).Reply).Node))))))) then
 (some false)
 else
 (next2 ⟨(IntKind.i64.wrap (s1.i + 1))⟩))
 else none)
 else none)
 else
 (some true))) ⟨0⟩))
def conref14_sameRows : Con τ := { args := [.ty 31, .ty 31], L := [], ret := .ty 4, L' := [], R := Bool, dflt := default, F := fun N a b => Fref14_sameRows N a.1 a.2.1, of := fun r => (r, ()) }
noncomputable def datref14_sameRows : Dat τ := { D := D0, tbl := tblOf [], lp := lpsOf [(4, lpref14_sameRowsx4)], k0 := 0, mu := [], un := [] }
theorem okref14_sameRows : ConOk E C 103 conref14_sameRows :=
  con_ok (D := datref14_sameRows) ⟨d0Ok, eGood, tblOf_ok trivial, fun _ => rfl⟩ conref14_sameRows (fun a b => a) none (fun _ _ => rfl) rfl (fun _ _ h => nomatch h) 1000000 (fn := Try.f103) Try.func103 rfl (by kernel_rfl) (by kernel_rfl) rfl (by intro N a b; kernel_rfl)
def Fref04_SamePart (N : Nat) (a : GPart) (b : GPart) : Option (Bool) :=
 (some ((((a.Snap == b.Snap) && (a.Index == b.Index)) && (a.Many == b.Many)) && ((strI a.Data) == (strI b.Data))))
def conref04_SamePart : Con τ := { args := [.ty 51, .ty 51], L := [], ret := .ty 4, L' := [], R := Bool, dflt := default, F := fun N a b => Fref04_SamePart N a.1 a.2.1, of := fun r => (r, ()) }
noncomputable def datref04_SamePart : Dat τ := { D := D0, tbl := tblOf [], lp := lpsOf [], k0 := 0, mu := [], un := [] }
theorem okref04_SamePart : ConOk E C 43 conref04_SamePart :=
  con_ok (D := datref04_SamePart) ⟨d0Ok, eGood, tblOf_ok trivial, fun _ => rfl⟩ conref04_SamePart (fun a b => a) none (fun _ _ => rfl) rfl (fun _ _ h => nomatch h) 1000000 (fn := Try.f43) Try.func43 rfl (by kernel_rfl) (by kernel_rfl) rfl (by intro N a b; kernel_rfl)
structure Sref14_samePartsx4 where
  i : Int
def tsref14_samePartsx4 : List Sl := [.k, .k, .k, .k, .j, .sh (.ty 2), .k, .k, .k, .k, .k, .j, .j, .j, .j, .j, .j, .j, .j, .j, .j, .j, .j, .j, .j, .j, .j]
def hsref14_samePartsx4 : List ESh := []
def toref14_samePartsx4 (a : Sl.Ts τ tsref14_samePartsx4) (b : ESh.Ts τ hsref14_samePartsx4) : Sref14_samePartsx4 := ⟨a.2.2.2.2.2.1⟩
def otref14_samePartsx4 (s : Sref14_samePartsx4) : Sl.Ts τ tsref14_samePartsx4 := ((), (), (), (), (), s.i, (), (), (), (), (), (), (), (), (), (), (), (), (), (), (), (), (), (), (), (), (), ())
def ohref14_samePartsx4 (s : Sref14_samePartsx4) : ESh.Ts τ hsref14_samePartsx4 := ()
def lpref14_samePartsx4 : Lp τ := { ts := tsref14_samePartsx4, hs := hsref14_samePartsx4, S := Sref14_samePartsx4, to := toref14_samePartsx4, ot := otref14_samePartsx4, oh := ohref14_samePartsx4, hk := [], tk := [], ot_to := fun _ _ => rfl, oh_to := fun _ _ => rfl }
def Fref14_sameParts (N : Nat) (a : List (GPart)) (b : List (GPart)) : Option (Bool) :=
 (bif (!(((a).length : Int) == ((b).length : Int))) then
 (some false)
 else
 (iter N (fun (s1 : Sref14_samePartsx4) next2 =>
 (bif (decide (s1.i < ((a).length : Int))) then
 (bif (ibB s1.i ((a).length : Int)) then
 (bif (ibB s1.i ((b).length : Int)) then
 ((Fref04_SamePart N (lget a s1.i default) (lget b s1.i default)).bind fun r3 =>
 (bif (!r3) then
 (some false)
 else
 (next2 ⟨(IntKind.i64.wrap (s1.i + 1))⟩)))
 else none)
 else none)
 else
 (some true))) ⟨0⟩))
def conref14_sameParts : Con τ := { args := [.ty 32, .ty 32], L := [], ret := .ty 4, L' := [], R := Bool, dflt := default, F := fun N a b => Fref14_sameParts N a.1 a.2.1, of := fun r => (r, ()) }
noncomputable def datref14_sameParts : Dat τ := { D := D0, tbl := tblOf [(43, conref04_SamePart)], lp := lpsOf [(4, lpref14_samePartsx4)], k0 := 0, mu := [], un := [] }
theorem okref14_sameParts : ConOk E C 104 conref14_sameParts :=
  con_ok (D := datref14_sameParts) ⟨d0Ok, eGood, tblOf_ok ⟨okref04_SamePart, trivial⟩, fun _ => rfl⟩ conref14_sameParts (fun a b => a) none (fun _ _ => rfl) rfl (fun _ _ h => nomatch h) 1000000 (fn := Try.f104) Try.func104 rfl (by kernel_rfl) (by kernel_rfl) rfl (by intro N a b; kernel_rfl)
structure Sref14_Differx5 where
  kept : Bool
  i : Int
def tsref14_Differx5 : List Sl := [.k, .k, .k, .k, .k, .k, .k, .sh (.ty 4), .sh (.ty 2), .k, .k, .k, .j, .j, .j, .j, .j, .j, .j, .j, .j, .j, .j, .j, .j, .j, .j, .j, .k, .k, .k, .k, .k, .k, .k, .k, .k, .k, .k, .k, .k, .k, .k, .k, .k, .k, .k, .k, .k, .k, .k, .k, .k, .k, .k, .k, .k, .k, .k, .k, .k, .k, .k, .k, .k, .k, .k, .k, .k, .k, .k, .k, .k, .k, .k, .k, .k, .k, .k, .k, .k, .k, .k, .k, .k, .k, .k, .k, .k, .k, .k, .k, .k, .k, .k, .k, .k, .k, .k, .k, .k, .k, .k, .k, .k, .k, .k, .k, .k, .k, .k, .k, .k, .k, .k, .k, .k, .k, .k, .k, .k, .k, .k, .k, .k, .k, .k, .k, .k, .k, .k, .k, .k, .k]
def hsref14_Differx5 : List ESh := [.keep, .keep]
def toref14_Differx5 (a : Sl.Ts τ tsref14_Differx5) (b : ESh.Ts τ hsref14_Differx5) : Sref14_Differx5 := ⟨a.2.2.2.2.2.2.2.1, a.2.2.2.2.2.2.2.2.1⟩
def otref14_Differx5 (s : Sref14_Differx5) : Sl.Ts τ tsref14_Differx5 := ((), (), (), (), (), (), (), s.kept, s.i, (), (), (), (), (), (), (), (), (), (), (), (), (), (), (), (), (), (), (), (), (), (), (), (), (), (), (), (), (), (), (), (), (), (), (), (), (), (), (), (), (), (), (), (), (), (), (), (), (), (), (), (), (), (), (), (), (), (), (), (), (), (), (), (), (), (), (), (), (), (), (), (), (), (), (), (), (), (), (), (), (), (), (), (), (), (), (), (), (), (), (), (), (), (), (), (), (), (), (), (), (), (), (), (), (), (), (), (), (), (), (), (), (), (), (), (), (), (), (), (), (), (), (), (), (), ())
def ohref14_Differx5 (s : Sref14_Differx5) : ESh.Ts τ hsref14_Differx5 := ((), (), ())
def lpref14_Differx5 : Lp τ := { ts := tsref14_Differx5, hs := hsref14_Differx5, S := Sref14_Differx5, to := toref14_Differx5, ot := otref14_Differx5, oh := ohref14_Differx5, hk := [2, 2], tk := [0, 0, 2, 3], ot_to := fun _ _ => rfl, oh_to := fun _ _ => rfl }
structure Sref14_Differx10 where
  l : List (List UInt8)
  i : Int
def tsref14_Differx10 : List Sl := [.k, .k, .k, .k, .k, .sh (.own 9 2), .k, .k, .k, .k, .sh (.ty 2), .k, .k, .k, .k, .k, .k, .k, .k, .k, .k, .k, .k, .k, .k, .k, .k, .k, .k, .k, .k, .k, .k, .k, .k, .k, .k, .k, .k, .k, .k, .k, .k, .k, .k, .k, .k, .k, .k, .k, .k, .k, .k, .k, .k, .k, .k, .k, .k, .k, .k, .k, .k, .k, .k, .k, .k, .k, .k, .k, .k, .k, .k, .k, .k, .k, .k, .k, .k, .k, .k, .k, .k, .k, .k, .k, .k, .k, .k, .k, .k, .k, .k, .k, .k, .k, .k, .k, .k, .k, .k, .k, .k, .k, .k, .k, .k, .k, .k, .k, .k, .k, .k, .k, .k, .j, .j, .j, .j, .j, .j, .j, .j, .j, .j, .j, .j, .j, .j, .j, .j, .j, .j, .k]
def hsref14_Differx10 : List ESh := [.keep, .keep, .tail]
def toref14_Differx10 (a : Sl.Ts τ tsref14_Differx10) (b : ESh.Ts τ hsref14_Differx10) : Sref14_Differx10 := ⟨a.2.2.2.2.2.1, a.2.2.2.2.2.2.2.2.2.2.1⟩
def otref14_Differx10 (s : Sref14_Differx10) : Sl.Ts τ tsref14_Differx10 := ((), (), (), (), (), s.l, (), (), (), (), s.i, (), (), (), (), (), (), (), (), (), (), (), (), (), (), (), (), (), (), (), (), (), (), (), (), (), (), (), (), (), (), (), (), (), (), (), (), (), (), (), (), (), (), (), (), (), (), (), (), (), (), (), (), (), (), (), (), (), (), (), (), (), (), (), (), (), (), (), (), (), (), (), (), (), (), (), (), (), (), (), (), (), (), (), (), (), (), (), (), (), (), (), (), (), (), (), (), (), (), (), (), (), (), (), (), (), (), (), (), (), (), (), (), (), (), (), (), (), (), (), (), (), (), (), ())
def ohref14_Differx10 (s : Sref14_Differx10) : ESh.Ts τ hsref14_Differx10 := ((), (), (), ())
def lpref14_Differx10 : Lp τ := { ts := tsref14_Differx10, hs := hsref14_Differx10, S := Sref14_Differx10, to := toref14_Differx10, ot := otref14_Differx10, oh := ohref14_Differx10, hk := [2, 2], tk := [0, 0, 2, 3, 0, 0, 0, 0, 0, 0, 0, 0, 0, 0, 0, 0, 0, 0, 0, 0, 0, 0, 0, 0, 0, 0, 0, 0, 2, 0, 3, 0, 0, 2, 0, 3, 0, 0, 2, 0, 3, 0, 0, 2, 0, 3, 0, 0, 2, 0, 3, 0, 0, 2, 0, 3, 0, 0, 2, 0, 3, 0, 0, 2, 0, 3, 0, 0, 2, 0, 3, 0, 0, 2, 0, 3, 0, 0, 2, 0, 3, 0, 0, 0, 2, 0, 3, 0, 0, 2, 0, 3, 0, 0, 2, 0, 3, 0, 0, 2, 0, 3, 0, 0, 2, 0, 3, 0, 0, 2, 0, 3], ot_to := fun _ _ => rfl, oh_to := fun _ _ => rfl }
def Fref14_Differ (N : Nat) (a : GSnap) (b : GSnap) : Option ((List (List UInt8))) :=
 (iter N (fun (s1 : Sref14_Differx5) next2 =>
 (bif (decide (s1.i < 8)) then
 (bif (!s1.kept || (ibB s1.i 8)) then
 (bif (!s1.kept || (ibB s1.i 8)) then
 ((bif s1.kept then Fref14_sameOps N (vget a.Kept ((s1.i).toNat) default) (vget b.Kept ((s1.i).toNat) default) else some default).bind fun r3 =>
 (next2 ⟨(s1.kept && r3), (IntKind.i64.wrap (s1.i + 1))⟩))
 else none)
 else none)
 else
 ((Fref12_Same N a.Base b.Base).bind fun r4 =>
 ((Fref14_sameOps N a.Log b.Log).bind fun r5 =>
 ((Fref14_sameRows N a.Rows b.Rows).bind fun r6 =>
 ((Fref14_sameParts N a.Parts b.Parts).bind fun r7 =>
 (iter N (fun (s8 : Sref14_Differx10) next9 =>
 (bif (decide (s8.i < (([[83, 105, 116, 101], [65, 112, 112, 108, 105, 101, 100], [66, 111, 111, 116, 101, 100], [69, 112, 111, 99, 104], [67, 108, 111, 99, 107], [86, 101, 99, 116, 111, 114], [76, 97, 115, 116], [66, 97, 115, 101], [76, 111, 103], [70, 114, 111, 110, 116, 105, 101, 114], [83, 116, 97, 114, 116, 115], [75, 101, 112, 116], [75, 110, 111, 119, 110], [84, 111, 108, 100], [67, 108, 111, 99, 107, 115], [83, 117, 114, 101], [82, 111, 119, 115], [80, 97, 114, 116, 115]]).length : Int))) then
 (bif (ibB s8.i (([(a.Site == b.Site), (a.Applied == b.Applied), (a.Booted == b.Booted), ((a.Epoch.Number == b.Epoch.Number) && ((vbeq beq3 a.Epoch.States b.Epoch.States) && ((vbeq beq2 a.Epoch.Seals b.Epoch.Seals) && (vbeq beq3 a.Epoch.Sponsor b.Epoch.Sponsor)))), (a.Clock == b.Clock), (vbeq beq2 a.Vector_ b.Vector_), (vbeq beq2 a.Last b.Last), r4, r5, (a.Frontier == b.Frontier), (vbeq beq2 a.Starts b.Starts), s1.kept, (vbeq beq24 a.Known b.Known), (vbeq beq2 a.Told b.Told), (vbeq beq2 a.Clocks b.Clocks), (vbeq beq2 a.Sure b.Sure), r6, r7]).length : Int)) then
 (bif (!(lget [(a.Site == b.Site), (a.Applied == b.Applied), (a.Booted == b.Booted), ((a.Epoch.Number == b.Epoch.Number) && ((vbeq beq3 a.Epoch.States b.Epoch.States) && ((vbeq beq2 a.Epoch.Seals b.Epoch.Seals) && (vbeq beq3 a.Epoch.Sponsor b.Epoch.Sponsor)))), (a.Clock == b.Clock), (vbeq beq2 a.Vector_ b.Vector_), (vbeq beq2 a.Last b.Last), r4, r5, (a.Frontier == b.Frontier), (vbeq beq2 a.Starts b.Starts), s1.kept, (vbeq beq24 a.Known b.Known), (vbeq beq2 a.Told b.Told), (vbeq beq2 a.Clocks b.Clocks), (vbeq beq2 a.Sure b.Sure), r6, r7] s8.i default)) then
 (bif (ibB s8.i (([[83, 105, 116, 101], [65, 112, 112, 108, 105, 101, 100], [66, 111, 111, 116, 101, 100], [69, 112, 111, 99, 104], [67, 108, 111, 99, 107], [86, 101, 99, 116, 111, 114], [76, 97, 115, 116], [66, 97, 115, 101], [76, 111, 103], [70, 114, 111, 110, 116, 105, 101, 114], [83, 116, 97, 114, 116, 115], [75, 101, 112, 116], [75, 110, 111, 119, 110], [84, 111, 108, 100], [67, 108, 111, 99, 107, 115], [83, 117, 114, 101], [82, 111, 119, 115], [80, 97, 114, 116, 115]]).length : Int)) then
 (bif (lenB ((s8.l).length + ([(lget [[83, 105, 116, 101], [65, 112, 112, 108, 105, 101, 100], [66, 111, 111, 116, 101, 100], [69, 112, 111, 99, 104], [67, 108, 111, 99, 107], [86, 101, 99, 116, 111, 114], [76, 97, 115, 116], [66, 97, 115, 101], [76, 111, 103], [70, 114, 111, 110, 116, 105, 101, 114], [83, 116, 97, 114, 116, 115], [75, 101, 112, 116], [75, 110, 111, 119, 110], [84, 111, 108, 100], [67, 108, 111, 99, 107, 115], [83, 117, 114, 101], [82, 111, 119, 115], [80, 97, 114, 116, 115]] s8.i default)]).length) 16) then
 (next9 ⟨(s8.l ++ [(lget [[83, 105, 116, 101], [65, 112, 112, 108, 105, 101, 100], [66, 111, 111, 116, 101, 100], [69, 112, 111, 99, 104], [67, 108, 111, 99, 107], [86, 101, 99, 116, 111, 114], [76, 97, 115, 116], [66, 97, 115, 101], [76, 111, 103], [70, 114, 111, 110, 116, 105, 101, 114], [83, 116, 97, 114, 116, 115], [75, 101, 112, 116], [75, 110, 111, 119, 110], [84, 111, 108, 100], [67, 108, 111, 99, 107, 115], [83, 117, 114, 101], [82, 111, 119, 115], [80, 97, 114, 116, 115]] s8.i default)]), (IntKind.i64.wrap (s8.i + 1))⟩)
 else none)
 else none)
 else
 (next9 ⟨s8.l, (IntKind.i64.wrap (s8.i + 1))⟩))
 else none)
 else
 (some s8.l))) ⟨[], 0⟩))))))) ⟨true, 0⟩)
def conref14_Differ : Con τ := { args := [.ty 34, .ty 34], L := [], ret := .ty 102, L' := [], R := (List (List UInt8)), dflt := default, F := fun N a b => Fref14_Differ N a.1 a.2.1, of := fun r => (r, ()) }
noncomputable def datref14_Differ : Dat τ := { D := D0, tbl := tblOf [(101, conref14_sameOps), (102, conref12_Same), (103, conref14_sameRows), (104, conref14_sameParts)], lp := lpsOf [(5, lpref14_Differx5), (10, lpref14_Differx10)], k0 := 0, mu := [], un := [] }
theorem okref14_Differ : ConOk E C 54 conref14_Differ :=
  con_ok (D := datref14_Differ) ⟨d0Ok, eGood, tblOf_ok ⟨okref14_sameOps, ⟨okref12_Same, ⟨okref14_sameRows, ⟨okref14_sameParts, trivial⟩⟩⟩⟩, fun _ => rfl⟩ conref14_Differ (fun a b => a) none (fun _ _ => rfl) rfl (fun _ _ h => nomatch h) 1000000 (fn := Try.f54) Try.func54 rfl (by kernel_rfl) (by kernel_rfl) rfl (by intro N a b; kernel_rfl)
def Fref14_Same (N : Nat) (a : GSnap) (b : GSnap) : Option (Bool) :=
 ((Fref14_Differ N a b).bind fun r1 =>
 (some (((r1).length : Int) == 0)))
def conref14_Same : Con τ := { args := [.ty 34, .ty 34], L := [], ret := .ty 4, L' := [], R := Bool, dflt := default, F := fun N a b => Fref14_Same N a.1 a.2.1, of := fun r => (r, ()) }
noncomputable def datref14_Same : Dat τ := { D := D0, tbl := tblOf [(54, conref14_Differ)], lp := lpsOf [], k0 := 0, mu := [], un := [] }
theorem okref14_Same : ConOk E C 32 conref14_Same :=
  con_ok (D := datref14_Same) ⟨d0Ok, eGood, tblOf_ok ⟨okref14_Differ, trivial⟩, fun _ => rfl⟩ conref14_Same (fun a b => a) none (fun _ _ => rfl) rfl (fun _ _ h => nomatch h) 1000000 (fn := Try.f32) Try.func32 rfl (by kernel_rfl) (by kernel_rfl) rfl (by intro N a b; kernel_rfl)
structure Sref04_sameOpsx4 where
  i : Int
def tsref04_sameOpsx4 : List Sl := [.k, .k, .k, .k, .j, .sh (.ty 2), .k, .k, .k, .k, .k, .j, .j, .j, .j, .j, .j, .j, .j, .j, .j, .j, .j, .j, .j, .j]
def hsref04_sameOpsx4 : List ESh := []
def toref04_sameOpsx4 (a : Sl.Ts τ tsref04_sameOpsx4) (b : ESh.Ts τ hsref04_sameOpsx4) : Sref04_sameOpsx4 := ⟨a.2.2.2.2.2.1⟩
def otref04_sameOpsx4 (s : Sref04_sameOpsx4) : Sl.Ts τ tsref04_sameOpsx4 := ((), (), (), (), (), s.i, (), (), (), (), (), (), (), (), (), (), (), (), (), (), (), (), (), (), (), (), ())
def ohref04_sameOpsx4 (s : Sref04_sameOpsx4) : ESh.Ts τ hsref04_sameOpsx4 := ()
def lpref04_sameOpsx4 : Lp τ := { ts := tsref04_sameOpsx4, hs := hsref04_sameOpsx4, S := Sref04_sameOpsx4, to := toref04_sameOpsx4, ot := otref04_sameOpsx4, oh := ohref04_sameOpsx4, hk := [], tk := [], ot_to := fun _ _ => rfl, oh_to := fun _ _ => rfl }
def Fref04_sameOps (N : Nat) (a : List (GOp)) (b : List (GOp)) : Option (Bool) :=
 (bif (!(((a).length : Int) == ((b).length : Int))) then
 (some false)
 else
 (iter N (fun (s1 : Sref04_sameOpsx4) next2 =>
 (bif (decide (s1.i < ((a).length : Int))) then
 (bif (ibB s1.i ((a).length : Int)) then
 (bif (ibB s1.i ((b).length : Int)) then
 (bif (!((((((lget a s1.i default).Stamp).Time) == (((lget b s1.i default).Stamp).Time)) && ((((lget a s1.i default).Stamp).Site) == (((lget b s1.i default).Stamp).Site))) && ((((lget a s1.i default).Kind) == ((lget b s1.i default).Kind)) && ((((lget a s1.i default).Node) == ((lget b s1.i default).Node)) && ((((lget a s1.i default).Parent) == ((lget b s1.i default).Parent)) && ((((lget a s1.i default).Name) == ((lget b s1.i default).Name)) && ((((lget a s1.i default).Key) == ((lget b s1.i default).Key)) && (((lget a s1.i default).Value) == ((lget b s1.i default).Value))))))))) then
 (some false)
 else
 (next2 ⟨(IntKind.i64.wrap (s1.i + 1))⟩))
 else none)
 else none)
 else
 (some true))) ⟨0⟩))
def conref04_sameOps : Con τ := { args := [.ty 28, .ty 28], L := [], ret := .ty 4, L' := [], R := Bool, dflt := default, F := fun N a b => Fref04_sameOps N a.1 a.2.1, of := fun r => (r, ()) }
noncomputable def datref04_sameOps : Dat τ := { D := D0, tbl := tblOf [], lp := lpsOf [(4, lpref04_sameOpsx4)], k0 := 0, mu := [], un := [] }
theorem okref04_sameOps : ConOk E C 42 conref04_sameOps :=
  con_ok (D := datref04_sameOps) ⟨d0Ok, eGood, tblOf_ok trivial, fun _ => rfl⟩ conref04_sameOps (fun a b => a) none (fun _ _ => rfl) rfl (fun _ _ h => nomatch h) 1000000 (fn := Try.f42) Try.func42 rfl (by kernel_rfl) (by kernel_rfl) rfl (by intro N a b; kernel_rfl)
def Fref04_SameEntry (N : Nat) (a : GEntry) (b : GEntry) : Option (Bool) :=
 ((bif ((((((a.Kind == b.Kind) && (a.Session == b.Session)) && (a.Request == b.Request)) && (((a.Op.Stamp.Time == b.Op.Stamp.Time) && (a.Op.Stamp.Site == b.Op.Stamp.Site)) && ((a.Op.Kind == b.Op.Kind) && ((a.Op.Node == b.Op.Node) && ((a.Op.Parent == b.Op.Parent) && ((a.Op.Name == b.Op.Name) && ((a.Op.Key == b.Op.Key) && (a.Op.Value == b.Op.Value)))))))) && (a.Origin == b.Origin)) && (a.Seq == b.Seq)) then Fref04_sameOps N a.Ops b.Ops else some default).bind fun r1 =>
 ((bif (((((((((((a.Kind == b.Kind) && (a.Session == b.Session)) && (a.Request == b.Request)) && (((a.Op.Stamp.Time == b.Op.Stamp.Time) && (a.Op.Stamp.Site == b.Op.Stamp.Site)) && ((a.Op.Kind == b.Op.Kind) && ((a.Op.Node == b.Op.Node) && ((a.Op.Parent == b.Op.Parent) && ((a.Op.Name == b.Op.Name) && ((a.Op.Key == b.Op.Key) && (a.Op.Value == b.Op.Value)))))))) && (a.Origin == b.Origin)) && (a.Seq == b.Seq)) && r1) && ((a.Epoch.Number == b.Epoch.Number) && ((vbeq beq3 a.Epoch.States b.Epoch.States) && ((vbeq beq2 a.Epoch.Seals b.Epoch.Seals) && (vbeq beq3 a.Epoch.Sponsor b.Epoch.Sponsor))))) && (a.From == b.From)) && (vbeq beq2 a.Vector_ b.Vector_)) && (a.Clock == b.Clock)) then Fref04_SamePart N a.Part b.Part else some default).bind fun r2 =>
 (some (((((((((((((((a.Kind == b.Kind) && (a.Session == b.Session)) && (a.Request == b.Request)) && (((a.Op.Stamp.Time == b.Op.Stamp.Time) && (a.Op.Stamp.Site == b.Op.Stamp.Site)) && ((a.Op.Kind == b.Op.Kind) && ((a.Op.Node == b.Op.Node) && ((a.Op.Parent == b.Op.Parent) && ((a.Op.Name == b.Op.Name) && ((a.Op.Key == b.Op.Key) && (a.Op.Value == b.Op.Value)))))))) && (a.Origin == b.Origin)) && (a.Seq == b.Seq)) && r1) && ((a.Epoch.Number == b.Epoch.Number) && ((vbeq beq3 a.Epoch.States b.Epoch.States) && ((vbeq beq2 a.Epoch.Seals b.Epoch.Seals) && (vbeq beq3 a.Epoch.Sponsor b.Epoch.Sponsor))))) && (a.From == b.From)) && (vbeq beq2 a.Vector_ b.Vector_)) && (a.Clock == b.Clock)) && r2) && (a.Site == b.Site)) && (a.Sponsor == b.Sponsor)) && (a.Length == b.Length)))))
def conref04_SameEntry : Con τ := { args := [.ty 53, .ty 53], L := [], ret := .ty 4, L' := [], R := Bool, dflt := default, F := fun N a b => Fref04_SameEntry N a.1 a.2.1, of := fun r => (r, ()) }
noncomputable def datref04_SameEntry : Dat τ := { D := D0, tbl := tblOf [(42, conref04_sameOps), (43, conref04_SamePart)], lp := lpsOf [], k0 := 0, mu := [], un := [] }
theorem okref04_SameEntry : ConOk E C 27 conref04_SameEntry :=
  con_ok (D := datref04_SameEntry) ⟨d0Ok, eGood, tblOf_ok ⟨okref04_sameOps, ⟨okref04_SamePart, trivial⟩⟩, fun _ => rfl⟩ conref04_SameEntry (fun a b => a) none (fun _ _ => rfl) rfl (fun _ _ h => nomatch h) 1000000 (fn := Try.f27) Try.func27 rfl (by kernel_rfl) (by kernel_rfl) rfl (by intro N a b; kernel_rfl)
def Fref04_SameSlotted (N : Nat) (a : GSlotted) (b : GSlotted) : Option (Bool) :=
 ((bif ((a.Slot == b.Slot) && ((a.Ballot.Round == b.Ballot.Round) && (a.Ballot.Replica == b.Ballot.Replica))) then Fref04_SameEntry N a.Entry b.Entry else some default).bind fun r1 =>
 (some (((a.Slot == b.Slot) && ((a.Ballot.Round == b.Ballot.Round) && (a.Ballot.Replica == b.Ballot.Replica))) && r1)))
def conref04_SameSlotted : Con τ := { args := [.ty 101, .ty 101], L := [], ret := .ty 4, L' := [], R := Bool, dflt := default, F := fun N a b => Fref04_SameSlotted N a.1 a.2.1, of := fun r => (r, ()) }
noncomputable def datref04_SameSlotted : Dat τ := { D := D0, tbl := tblOf [(27, conref04_SameEntry)], lp := lpsOf [], k0 := 0, mu := [], un := [] }
theorem okref04_SameSlotted : ConOk E C 66 conref04_SameSlotted :=
  con_ok (D := datref04_SameSlotted) ⟨d0Ok, eGood, tblOf_ok ⟨okref04_SameEntry, trivial⟩, fun _ => rfl⟩ conref04_SameSlotted (fun a b => a) none (fun _ _ => rfl) rfl (fun _ _ h => nomatch h) 1000000 (fn := Try.f66) Try.func66 rfl (by kernel_rfl) (by kernel_rfl) rfl (by intro N a b; kernel_rfl)
structure Sref04_SameListx4 where
  i : Int
def tsref04_SameListx4 : List Sl := [.k, .k, .k, .k, .j, .sh (.ty 2), .k, .k, .k, .k, .k, .j, .j, .j, .j, .j, .j, .j, .j, .j, .j, .j, .j, .j, .j, .j, .j]
def hsref04_SameListx4 : List ESh := []
def toref04_SameListx4 (a : Sl.Ts τ tsref04_SameListx4) (b : ESh.Ts τ hsref04_SameListx4) : Sref04_SameListx4 := ⟨a.2.2.2.2.2.1⟩
def otref04_SameListx4 (s : Sref04_SameListx4) : Sl.Ts τ tsref04_SameListx4 := ((), (), (), (), (), s.i, (), (), (), (), (), (), (), (), (), (), (), (), (), (), (), (), (), (), (), (), (), ())
def ohref04_SameListx4 (s : Sref04_SameListx4) : ESh.Ts τ hsref04_SameListx4 := ()
def lpref04_SameListx4 : Lp τ := { ts := tsref04_SameListx4, hs := hsref04_SameListx4, S := Sref04_SameListx4, to := toref04_SameListx4, ot := otref04_SameListx4, oh := ohref04_SameListx4, hk := [], tk := [], ot_to := fun _ _ => rfl, oh_to := fun _ _ => rfl }
def Fref04_SameList (N : Nat) (a : List (GSlotted)) (b : List (GSlotted)) : Option (Bool) :=
 (bif (!(((a).length : Int) == ((b).length : Int))) then
 (some false)
 else
 (iter N (fun (s1 : Sref04_SameListx4) next2 =>
 (bif (decide (s1.i < ((a).length : Int))) then
 (bif (ibB s1.i ((a).length : Int)) then
 (bif (ibB s1.i ((b).length : Int)) then
 ((Fref04_SameSlotted N (⟨(lget a s1.i default).Slot, ((lget a s1.i default).Ballot), (⟨((lget a s1.i default).Entry).Kind, ((lget a s1.i default).Entry).Session, ((lget a s1.i default).Entry).Request, (⟨((((lget a s1.i default).Entry).Op).Stamp), (((lget a s1.i default).Entry).Op).Kind, (((lget a s1.i default).Entry).Op).Node, (((lget a s1.i default).Entry).Op).Parent, (((lget a s1.i default).Entry).Op).Name, (((lget a s1.i default).Entry).Op).Key, (((lget a s1.i default).Entry).Op).Value⟩ : GOp), ((lget a s1.i default).Entry).Origin, ((lget a s1.i default).Entry).Seq, ((lget a s1.i default).Entry).Ops, (((lget a s1.i default).Entry).Epoch), ((lget a s1.i default).Entry).From, ((lget a s1.i default).Entry).Vector_, ((lget a s1.i default).Entry).Clock, (((lget a s1.i default).Entry).Part), ((lget a s1.i default).Entry).Site, ((lget a s1.i default).Entry).Sponsor, ((lget a s1.i default).Entry).Length⟩ : GEntry)⟩ : GSlotted) (⟨(lget b s1.i default).Slot, ((lget b s1.i default).Ballot), (⟨((lget b s1.i default).Entry).Kind, ((lget b s1.i default).Entry).Session, ((lget b s1.i default).Entry).Request, (⟨((((lget b s1.i default).Entry).Op).Stamp), (((lget b s1.i default).Entry).Op).Kind, (((lget b s1.i default).Entry).Op).Node, (((lget b s1.i default).Entry).Op).Parent, (((lget b s1.i default).Entry).Op).Name, (((lget b s1.i default).Entry).Op).Key, (((lget b s1.i default).Entry).Op).Value⟩ : GOp), ((lget b s1.i default).Entry).Origin, ((lget b s1.i default).Entry).Seq, ((lget b s1.i default).Entry).Ops, (((lget b s1.i default).Entry).Epoch), ((lget b s1.i default).Entry).From, ((lget b s1.i default).Entry).Vector_, ((lget b s1.i default).Entry).Clock, (((lget b s1.i default).Entry).Part), ((lget b s1.i default).Entry).Site, ((lget b s1.i default).Entry).Sponsor, ((lget b s1.i default).Entry).Length⟩ : GEntry)⟩ : GSlotted)).bind fun r3 =>
 (bif (!r3) then
 (some false)
 else
 (next2 ⟨(IntKind.i64.wrap (s1.i + 1))⟩)))
 else none)
 else none)
 else
 (some true))) ⟨0⟩))
def conref04_SameList : Con τ := { args := [.ty 48, .ty 48], L := [], ret := .ty 4, L' := [], R := Bool, dflt := default, F := fun N a b => Fref04_SameList N a.1 a.2.1, of := fun r => (r, ()) }
noncomputable def datref04_SameList : Dat τ := { D := D0, tbl := tblOf [(66, conref04_SameSlotted)], lp := lpsOf [(4, lpref04_SameListx4)], k0 := 0, mu := [], un := [] }
theorem okref04_SameList : ConOk E C 41 conref04_SameList :=
  con_ok (D := datref04_SameList) ⟨d0Ok, eGood, tblOf_ok ⟨okref04_SameSlotted, trivial⟩, fun _ => rfl⟩ conref04_SameList (fun a b => a) none (fun _ _ => rfl) rfl (fun _ _ h => nomatch h) 1000000 (fn := Try.f41) Try.func41 rfl (by kernel_rfl) (by kernel_rfl) rfl (by intro N a b; kernel_rfl)
def Fref04_SameMsg (N : Nat) (a : GMsg) (b : GMsg) : Option (Bool) :=
 ((bif (((((a.Kind == b.Kind) && ((a.From.Group == b.From.Group) && (a.From.Replica == b.From.Replica))) && ((a.To.Group == b.To.Group) && (a.To.Replica == b.To.Replica))) && ((a.Ballot.Round == b.Ballot.Round) && (a.Ballot.Replica == b.Ballot.Replica))) && (a.Slot == b.Slot)) then Fref04_SameList N a.List_ b.List_ else some default).bind fun r1 =>
 ((bif ((((((a.Kind == b.Kind) && ((a.From.Group == b.From.Group) && (a.From.Replica == b.From.Replica))) && ((a.To.Group == b.To.Group) && (a.To.Replica == b.To.Replica))) && ((a.Ballot.Round == b.Ballot.Round) && (a.Ballot.Replica == b.Ballot.Replica))) && (a.Slot == b.Slot)) && r1) then Fref04_SameEntry N a.Entry b.Entry else some default).bind fun r2 =>
 ((bif (((((((((((a.Kind == b.Kind) && ((a.From.Group == b.From.Group) && (a.From.Replica == b.From.Replica))) && ((a.To.Group == b.To.Group) && (a.To.Replica == b.To.Replica))) && ((a.Ballot.Round == b.Ballot.Round) && (a.Ballot.Replica == b.Ballot.Replica))) && (a.Slot == b.Slot)) && r1) && r2) && (a.Number == b.Number)) && (vbeq beq2 a.Vector_ b.Vector_)) && (a.Clock == b.Clock)) && (a.Origin == b.Origin)) then Fref04_sameOps N a.Ops b.Ops else some default).bind fun r3 =>
 ((bif (((((((((((((a.Kind == b.Kind) && ((a.From.Group == b.From.Group) && (a.From.Replica == b.From.Replica))) && ((a.To.Group == b.To.Group) && (a.To.Replica == b.To.Replica))) && ((a.Ballot.Round == b.Ballot.Round) && (a.Ballot.Replica == b.Ballot.Replica))) && (a.Slot == b.Slot)) && r1) && r2) && (a.Number == b.Number)) && (vbeq beq2 a.Vector_ b.Vector_)) && (a.Clock == b.Clock)) && (a.Origin == b.Origin)) && r3) && ((a.Epoch.Number == b.Epoch.Number) && ((vbeq beq3 a.Epoch.States b.Epoch.States) && ((vbeq beq2 a.Epoch.Seals b.Epoch.Seals) && (vbeq beq3 a.Epoch.Sponsor b.Epoch.Sponsor))))) then Fref04_SamePart N a.Part b.Part else some default).bind fun r4 =>
 (some ((((((((((((((a.Kind == b.Kind) && ((a.From.Group == b.From.Group) && (a.From.Replica == b.From.Replica))) && ((a.To.Group == b.To.Group) && (a.To.Replica == b.To.Replica))) && ((a.Ballot.Round == b.Ballot.Round) && (a.Ballot.Replica == b.Ballot.Replica))) && (a.Slot == b.Slot)) && r1) && r2) && (a.Number == b.Number)) && (vbeq beq2 a.Vector_ b.Vector_)) && (a.Clock == b.Clock)) && (a.Origin == b.Origin)) && r3) && ((a.Epoch.Number == b.Epoch.Number) && ((vbeq beq3 a.Epoch.States b.Epoch.States) && ((vbeq beq2 a.Epoch.Seals b.Epoch.Seals) && (vbeq beq3 a.Epoch.Sponsor b.Epoch.Sponsor))))) && r4))))))
def conref04_SameMsg : Con τ := { args := [.ty 55, .ty 55], L := [], ret := .ty 4, L' := [], R := Bool, dflt := default, F := fun N a b => Fref04_SameMsg N a.1 a.2.1, of := fun r => (r, ()) }
noncomputable def datref04_SameMsg : Dat τ := { D := D0, tbl := tblOf [(41, conref04_SameList), (27, conref04_SameEntry), (42, conref04_sameOps), (43, conref04_SamePart)], lp := lpsOf [], k0 := 0, mu := [], un := [] }
theorem okref04_SameMsg : ConOk E C 19 conref04_SameMsg :=
  con_ok (D := datref04_SameMsg) ⟨d0Ok, eGood, tblOf_ok ⟨okref04_SameList, ⟨okref04_SameEntry, ⟨okref04_sameOps, ⟨okref04_SamePart, trivial⟩⟩⟩⟩, fun _ => rfl⟩ conref04_SameMsg (fun a b => a) none (fun _ _ => rfl) rfl (fun _ _ h => nomatch h) 1000000 (fn := Try.f19) Try.func19 rfl (by kernel_rfl) (by kernel_rfl) rfl (by intro N a b; kernel_rfl)
structure Slaw16_ExchangeOwnx14 where
  t48 : Int
  g7 : List (GOp)
def tslaw16_ExchangeOwnx14 : List Sl := [.k, .k, .k, .k, .k, .k, .k, .k, .k, .k, .k, .k, .k, .j, .k, .k, .k, .k, .k, .k, .k, .k, .k, .k, .k, .k, .k, .k, .k, .k, .k, .k, .k, .k, .k, .k, .k, .k, .k, .k, .k, .k, .k, .k, .k, .k, .k, .k, .sh (.ty 2), .j, .j, .j, .j, .j, .j, .j, .j, .k, .k, .k, .k, .k, .k, .k, .k, .k, .k, .k, .k, .k, .k, .k, .k, .k, .k, .k, .k, .k, .k, .k, .k, .k, .k, .k, .k, .k, .k, .k, .k, .k, .k, .k, .k, .k, .k, .k, .k, .k, .k]
def hslaw16_ExchangeOwnx14 : List ESh := [.keep, .keep, .keep, .keep, .keep, .keep, .keep, .gbx 43, .keep, .keep]
def tolaw16_ExchangeOwnx14 (a : Sl.Ts τ tslaw16_ExchangeOwnx14) (b : ESh.Ts τ hslaw16_ExchangeOwnx14) : Slaw16_ExchangeOwnx14 := ⟨a.2.2.2.2.2.2.2.2.2.2.2.2.2.2.2.2.2.2.2.2.2.2.2.2.2.2.2.2.2.2.2.2.2.2.2.2.2.2.2.2.2.2.2.2.2.2.2.2.1, b.2.2.2.2.2.2.2.1⟩
def otlaw16_ExchangeOwnx14 (s : Slaw16_ExchangeOwnx14) : Sl.Ts τ tslaw16_ExchangeOwnx14 := ((), (), (), (), (), (), (), (), (), (), (), (), (), (), (), (), (), (), (), (), (), (), (), (), (), (), (), (), (), (), (), (), (), (), (), (), (), (), (), (), (), (), (), (), (), (), (), (), s.t48, (), (), (), (), (), (), (), (), (), (), (), (), (), (), (), (), (), (), (), (), (), (), (), (), (), (), (), (), (), (), (), (), (), (), (), (), (), (), (), (), (), (), (), (), (), (), (), (), (), (), ())
def ohlaw16_ExchangeOwnx14 (s : Slaw16_ExchangeOwnx14) : ESh.Ts τ hslaw16_ExchangeOwnx14 := ((), (), (), (), (), (), (), s.g7, (), (), ())
def lplaw16_ExchangeOwnx14 : Lp τ := { ts := tslaw16_ExchangeOwnx14, hs := hslaw16_ExchangeOwnx14, S := Slaw16_ExchangeOwnx14, to := tolaw16_ExchangeOwnx14, ot := otlaw16_ExchangeOwnx14, oh := ohlaw16_ExchangeOwnx14, hk := [2, 2, 2, 2, 2, 2, 1, 4, 4, 2], tk := [0, 0, 0, 2, 3, 4, 0, 5, 6, 0, 0, 11, 0, 0, 0, 0, 0, 0, 0, 0, 0, 0, 0, 0, 0, 0, 0, 0, 0, 0, 0, 0, 0, 0, 0, 0, 0, 0, 0, 0, 0, 0, 0, 0, 0, 11], ot_to := fun _ _ => rfl, oh_to := fun _ _ => rfl }
structure Slaw16_ExchangeOwnx19 where
  t61 : Int
  g8 : List (Int)
def tslaw16_ExchangeOwnx19 : List Sl := [.k, .k, .k, .k, .k, .k, .k, .k, .k, .k, .k, .k, .k, .k, .j, .k, .k, .k, .k, .k, .k, .k, .k, .k, .k, .k, .k, .k, .k, .k, .k, .k, .k, .k, .k, .k, .k, .k, .k, .k, .k, .k, .k, .k, .k, .k, .k, .k, .k, .k, .k, .k, .k, .k, .k, .k, .k, .k, .k, .k, .k, .sh (.ty 2), .j, .j, .j, .j, .j, .j, .j, .j, .j, .j, .j, .k, .k, .k, .k, .k, .k, .k, .k, .k, .k, .k, .k, .k, .k, .k, .k, .k, .k, .k, .k, .k, .k, .k, .k, .k, .k]
def hslaw16_ExchangeOwnx19 : List ESh := [.keep, .keep, .keep, .keep, .keep, .keep, .keep, .keep, .gbx 5, .keep]
def tolaw16_ExchangeOwnx19 (a : Sl.Ts τ tslaw16_ExchangeOwnx19) (b : ESh.Ts τ hslaw16_ExchangeOwnx19) : Slaw16_ExchangeOwnx19 := ⟨a.2.2.2.2.2.2.2.2.2.2.2.2.2.2.2.2.2.2.2.2.2.2.2.2.2.2.2.2.2.2.2.2.2.2.2.2.2.2.2.2.2.2.2.2.2.2.2.2.2.2.2.2.2.2.2.2.2.2.2.2.2.1, b.2.2.2.2.2.2.2.2.1⟩
def otlaw16_ExchangeOwnx19 (s : Slaw16_ExchangeOwnx19) : Sl.Ts τ tslaw16_ExchangeOwnx19 := ((), (), (), (), (), (), (), (), (), (), (), (), (), (), (), (), (), (), (), (), (), (), (), (), (), (), (), (), (), (), (), (), (), (), (), (), (), (), (), (), (), (), (), (), (), (), (), (), (), (), (), (), (), (), (), (), (), (), (), (), (), s.t61, (), (), (), (), (), (), (), (), (), (), (), (), (), (), (), (), (), (), (), (), (), (), (), (), (), (), (), (), (), (), (), (), (), (), (), (), (), ())
def ohlaw16_ExchangeOwnx19 (s : Slaw16_ExchangeOwnx19) : ESh.Ts τ hslaw16_ExchangeOwnx19 := ((), (), (), (), (), (), (), (), s.g8, (), ())
def lplaw16_ExchangeOwnx19 : Lp τ := { ts := tslaw16_ExchangeOwnx19, hs := hslaw16_ExchangeOwnx19, S := Slaw16_ExchangeOwnx19, to := tolaw16_ExchangeOwnx19, ot := otlaw16_ExchangeOwnx19, oh := ohlaw16_ExchangeOwnx19, hk := [2, 2, 2, 2, 2, 2, 1, 4, 4, 2], tk := [0, 0, 0, 2, 3, 4, 0, 5, 6, 0, 0, 11, 0, 0, 0, 0, 0, 0, 0, 0, 0, 0, 0, 0, 0, 0, 0, 0, 0, 0, 0, 0, 0, 0, 0, 0, 0, 0, 0, 0, 0, 0, 0, 0, 0, 11, 0, 0, 0, 0, 0, 0, 0, 0, 0, 0, 0, 11, 11], ot_to := fun _ _ => rfl, oh_to := fun _ _ => rfl }
structure Slaw16_ExchangeOwnx25 where
  t83 : Int
  g10 : List (GOp)
def tslaw16_ExchangeOwnx25 : List Sl := [.k, .k, .k, .k, .k, .k, .k, .k, .k, .k, .k, .k, .k, .k, .k, .k, .j, .k, .k, .k, .k, .k, .k, .k, .k, .k, .k, .k, .k, .k, .k, .k, .k, .k, .k, .k, .k, .k, .k, .k, .k, .k, .k, .k, .k, .k, .k, .k, .k, .k, .k, .k, .k, .k, .k, .k, .k, .k, .k, .k, .k, .k, .k, .k, .k, .k, .k, .k, .k, .k, .k, .k, .k, .k, .k, .k, .k, .k, .k, .k, .k, .k, .k, .sh (.ty 2), .j, .j, .j, .j, .j, .j, .j, .k, .k, .k, .k, .k, .k, .k, .k]
def hslaw16_ExchangeOwnx25 : List ESh := [.keep, .keep, .keep, .keep, .keep, .keep, .keep, .keep, .keep, .keep, .gbx 43]
def tolaw16_ExchangeOwnx25 (a : Sl.Ts τ tslaw16_ExchangeOwnx25) (b : ESh.Ts τ hslaw16_ExchangeOwnx25) : Slaw16_ExchangeOwnx25 := ⟨a.2.2.2.2.2.2.2.2.2.2.2.2.2.2.2.2.2.2.2.2.2.2.2.2.2.2.2.2.2.2.2.2.2.2.2.2.2.2.2.2.2.2.2.2.2.2.2.2.2.2.2.2.2.2.2.2.2.2.2.2.2.2.2.2.2.2.2.2.2.2.2.2.2.2.2.2.2.2.2.2.2.2.2.1, b.2.2.2.2.2.2.2.2.2.2.1⟩
def otlaw16_ExchangeOwnx25 (s : Slaw16_ExchangeOwnx25) : Sl.Ts τ tslaw16_ExchangeOwnx25 := ((), (), (), (), (), (), (), (), (), (), (), (), (), (), (), (), (), (), (), (), (), (), (), (), (), (), (), (), (), (), (), (), (), (), (), (), (), (), (), (), (), (), (), (), (), (), (), (), (), (), (), (), (), (), (), (), (), (), (), (), (), (), (), (), (), (), (), (), (), (), (), (), (), (), (), (), (), (), (), (), (), (), (), s.t83, (), (), (), (), (), (), (), (), (), (), (), (), (), (), (), ())
def ohlaw16_ExchangeOwnx25 (s : Slaw16_ExchangeOwnx25) : ESh.Ts τ hslaw16_ExchangeOwnx25 := ((), (), (), (), (), (), (), (), (), (), s.g10, ())
def lplaw16_ExchangeOwnx25 : Lp τ := { ts := tslaw16_ExchangeOwnx25, hs := hslaw16_ExchangeOwnx25, S := Slaw16_ExchangeOwnx25, to := tolaw16_ExchangeOwnx25, ot := otlaw16_ExchangeOwnx25, oh := ohlaw16_ExchangeOwnx25, hk := [2, 2, 2, 2, 2, 2, 1, 4, 4, 2, 4], tk := [0, 0, 0, 2, 3, 4, 0, 5, 6, 0, 0, 11, 0, 0, 0, 0, 0, 0, 0, 0, 0, 0, 0, 0, 0, 0, 0, 0, 0, 0, 0, 0, 0, 0, 0, 0, 0, 0, 0, 0, 0, 0, 0, 0, 0, 11, 0, 0, 0, 0, 0, 0, 0, 0, 0, 0, 0, 11, 11, 0, 0, 0, 0, 0, 0, 0, 0, 0, 0, 0, 0, 0, 0, 0, 3, 0, 3, 0, 3], ot_to := fun _ _ => rfl, oh_to := fun _ _ => rfl }
def Flaw16_ExchangeOwn (N : Nat) (s : GSnap) (m : GMsg) (to : GAddr) : Option (Bool) :=
 ((Flaw16_begun N).bind fun r1 =>
 (bif (!r1) then
 (some false)
 else
 ((Fref14_Clone N s).bind fun r2 =>
 ((Fref04_CloneMsg N m).bind fun r3 =>
 ((Fexchange_Push N s (⟨0, 0⟩ : GAddr) to 100).bind fun r4 =>
 ((Fexchange_Push_1_f79 N s m (⟨to.Group, to.Replica⟩ : GStamp) s r2 m r3 s (⟨0, 0⟩ : GStamp) (⟨to.Group, to.Replica⟩ : GStamp) r4).bind fun r5 =>
 ((Fexchange_Entry N m).bind fun r6 =>
 (iter N (fun (s7 : Slaw16_ExchangeOwnx14) next8 =>
 (bif (decide (s7.t48 < ((r6.2.2.2.2.2.2.1 : Nat) : Int))) then
 (bif (ibB s7.t48 ((r6.2.2.2.2.2.2.1 : Nat) : Int)) then
 (bif (decide ((s7.t48).toNat < (s7.g7).length)) then
 (next8 ⟨(IntKind.i64.wrap (s7.t48 + 1)), (s7.g7.set ((s7.t48).toNat) (⟨((s7.g7.getD ((s7.t48).toNat) default).Stamp), (s7.g7.getD ((s7.t48).toNat) default).Kind, (-9), (s7.g7.getD ((s7.t48).toNat) default).Parent, (s7.g7.getD ((s7.t48).toNat) default).Name, (s7.g7.getD ((s7.t48).toNat) default).Key, (s7.g7.getD ((s7.t48).toNat) default).Value⟩ : GOp))⟩)
 else none)
 else none)
 else
 (iter N (fun (s9 : Slaw16_ExchangeOwnx19) next10 =>
 (bif (decide (s9.t61 < ((r6.2.2.2.2.2.2.2.2.2.2.2.2.2.2.1 : Nat) : Int))) then
 (bif (ibB s9.t61 ((r6.2.2.2.2.2.2.2.2.2.2.2.2.2.2.1 : Nat) : Int)) then
 (bif (decide ((s9.t61).toNat < (s9.g8).length)) then
 (bif (ibB s9.t61 ((r6.2.2.2.2.2.2.2.2.2.2.2.2.2.2.1 : Nat) : Int)) then
 (bif (decide ((s9.t61).toNat < (s9.g8).length)) then
 (next10 ⟨(IntKind.i64.wrap (s9.t61 + 1)), (s9.g8.set ((s9.t61).toNat) (bits .xor .u8 (s9.g8.getD ((s9.t61).toNat) default) 85))⟩)
 else none)
 else none)
 else none)
 else none)
 else
 ((Fexchange_Take_38e N s m.Origin m.Slot m.Ops).bind fun r11 =>
 (iter N (fun (s12 : Slaw16_ExchangeOwnx25) next13 =>
 (bif (decide (s12.t83 < ((r11.1 : Nat) : Int))) then
 (bif (ibB s12.t83 ((r11.1 : Nat) : Int)) then
 (bif (decide ((s12.t83).toNat < (s12.g10).length)) then
 (next13 ⟨(IntKind.i64.wrap (s12.t83 + 1)), (s12.g10.set ((s12.t83).toNat) (⟨((s12.g10.getD ((s12.t83).toNat) default).Stamp), (s12.g10.getD ((s12.t83).toNat) default).Kind, (-9), (s12.g10.getD ((s12.t83).toNat) default).Parent, (s12.g10.getD ((s12.t83).toNat) default).Name, (s12.g10.getD ((s12.t83).toNat) default).Key, (s12.g10.getD ((s12.t83).toNat) default).Value⟩ : GOp))⟩)
 else none)
 else none)
 else
 ((Fref14_Same N s r2).bind fun r14 =>
 ((bif r14 then Fref04_SameMsg N m r3 else some default).bind fun r15 =>
 (some (r14 && r15)))))) ⟨0, r11.2⟩)))) ⟨0, r6.2.2.2.2.2.2.2.2.2.2.2.2.2.2.2.2.2.2.2.2⟩))) ⟨0, r6.2.2.2.2.2.2.2.2.2.2.2.2.2.2.2.2.2.2.2.1⟩))))))))
def conlaw16_ExchangeOwn : Con τ := { args := [.ty 34, .ty 55, .ty 45], L := [], ret := .ty 4, L' := [], R := Bool, dflt := default, F := fun N a b => Flaw16_ExchangeOwn N a.1 a.2.1 a.2.2.1, of := fun r => (r, ()) }
noncomputable def datlaw16_ExchangeOwn : Dat τ := { D := D0, tbl := tblOf [(10, conlaw16_begun), (30, conref14_Clone), (31, conref04_CloneMsg), (23, conexchange_Push), (47, conexchange_Push_1_f79), (25, conexchange_Entry), (12, conexchange_Take_38e), (32, conref14_Same), (19, conref04_SameMsg)], lp := lpsOf [(14, lplaw16_ExchangeOwnx14), (19, lplaw16_ExchangeOwnx19), (25, lplaw16_ExchangeOwnx25)], k0 := 0, mu := [], un := [], fid := 9, ex := [] }
theorem oklaw16_ExchangeOwn : ConOk E C 9 conlaw16_ExchangeOwn :=
  con_ok (D := datlaw16_ExchangeOwn) ⟨d0Ok, eGood, tblOf_ok ⟨oklaw16_begun, ⟨okref14_Clone, ⟨okref04_CloneMsg, ⟨okexchange_Push, ⟨okexchange_Push_1_f79, ⟨okexchange_Entry, ⟨okexchange_Take_38e, ⟨okref14_Same, ⟨okref04_SameMsg, trivial⟩⟩⟩⟩⟩⟩⟩⟩⟩, fun _ => rfl⟩ conlaw16_ExchangeOwn (fun a b => a) none (fun _ _ => rfl) rfl (fun _ _ h => nomatch h) 1000000 (fn := Try.f9) Try.func9 rfl (by kernel_rfl) (by kernel_rfl) rfl (by intro N a b; kernel_rfl) (hsub := ⟨subOk_no (by kernel_rfl), ⟨subOk_no (by kernel_rfl), ⟨subOk_no (by kernel_rfl), ⟨subOk_no (by kernel_rfl), ⟨⟨subOk_no (by kernel_rfl), (by show SiteP _ _ _ _; unfold SiteP; kernel_rfl)⟩, subOk_no (by kernel_rfl)⟩⟩⟩⟩⟩)
end Go.Proofs.Ytekpjhhbmjcbmaa
