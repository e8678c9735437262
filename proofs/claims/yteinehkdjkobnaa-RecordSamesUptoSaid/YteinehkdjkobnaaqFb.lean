/-
The functions of this seat, as plain functions over typed data, each with its contract. Printed by wip/tools/fngen.py.
-/
import Derived.Test.YteinehkdjkobnaaqFba
import Derived.Test.YteinehkdjkobnaaqTvV
import Derived.KernelRfl
set_option linter.unusedVariables false
set_option maxRecDepth 100000
namespace Go.Proofs.Yteinehkdjkobnaa
open Go Go.Ev
def Frecord_reader_entry_407 (N : Nat) (b0 : Int) (b1 : Gwire_Writer) : Option (GEntry × Int × Gwire_Writer) :=
 ((Frecord_reader_smalls_c10 N b0 (⟨0, 0, 0, (⟨(⟨0, 0⟩ : GStamp), 0, 0, 0, [], [], []⟩ : GOp), 0, 0, [], (⟨0, (Vector.replicate 8 (default : Int)), (Vector.replicate 8 (default : Int)), (Vector.replicate 8 (default : Int))⟩ : GEpoch), 0, (Vector.replicate 8 (default : Int)), 0, (⟨0, 0, 0, []⟩ : GPart), 0, 0, 0⟩ : GEntry) b1).bind fun r1 =>
 (bif (!(r1.1 == 0)) then
 (some (r1.2.1, r1.1, r1.2.2))
 else
 (bif (r1.2.1.Kind == 0) then
 (some (r1.2.1, r1.1, r1.2.2))
 else
 (bif (r1.2.1.Kind == 1) then
 ((Frecord_reader_ints_97b N r1.1 r1.2.1 r1.2.2).bind fun r2 =>
 ((Frecord_reader_op_407 N r2.1 r2.2.2).bind fun r3 =>
 (some ((⟨r2.2.1.Kind, r2.2.1.Session, r2.2.1.Request, r3.1, r2.2.1.Origin, r2.2.1.Seq, r2.2.1.Ops, r2.2.1.Epoch, r2.2.1.From, r2.2.1.Vector_, r2.2.1.Clock, r2.2.1.Part, r2.2.1.Site, r2.2.1.Sponsor, r2.2.1.Length⟩ : GEntry), r3.2.1, r3.2.2))))
 else
 (bif (r1.2.1.Kind == 2) then
 ((Frecord_reader_smalls_258 N r1.1 r1.2.1 r1.2.2).bind fun r4 =>
 ((Frecord_reader_ints_705 N r4.1 r4.2.1 r4.2.2).bind fun r5 =>
 ((Frecord_reader_ops_407 N r5.1 r5.2.2).bind fun r6 =>
 (some ((⟨r5.2.1.Kind, r5.2.1.Session, r5.2.1.Request, r5.2.1.Op, r5.2.1.Origin, r5.2.1.Seq, r6.1, r5.2.1.Epoch, r5.2.1.From, r5.2.1.Vector_, r5.2.1.Clock, r5.2.1.Part, r5.2.1.Site, r5.2.1.Sponsor, r5.2.1.Length⟩ : GEntry), r6.2.1, r6.2.2)))))
 else
 (bif (r1.2.1.Kind == 3) then
 ((Frecord_reader_epoch_407 N r1.1 r1.2.2).bind fun r7 =>
 (some ((⟨r1.2.1.Kind, r1.2.1.Session, r1.2.1.Request, r1.2.1.Op, r1.2.1.Origin, r1.2.1.Seq, r1.2.1.Ops, r7.1, r1.2.1.From, r1.2.1.Vector_, r1.2.1.Clock, r1.2.1.Part, r1.2.1.Site, r1.2.1.Sponsor, r1.2.1.Length⟩ : GEntry), r7.2.1, r7.2.2)))
 else
 (bif (r1.2.1.Kind == 4) then
 ((Frecord_reader_ints_705 N r1.1 r1.2.1 r1.2.2).bind fun r8 =>
 ((Frecord_reader_smalls_dcf N r8.1 r8.2.1 r8.2.2).bind fun r9 =>
 ((Frecord_reader_vector_a4a N r9.1 r9.2.1 r9.2.2).bind fun r10 =>
 ((Frecord_reader_ints_5e2 N r10.1 r10.2.1 r10.2.2).bind fun r11 =>
 (some (r11.2.1, r11.1, r11.2.2))))))
 else
 (bif (r1.2.1.Kind == 5) then
 ((Frecord_reader_part_407 N r1.1 r1.2.2).bind fun r12 =>
 (some ((⟨r1.2.1.Kind, r1.2.1.Session, r1.2.1.Request, r1.2.1.Op, r1.2.1.Origin, r1.2.1.Seq, r1.2.1.Ops, r1.2.1.Epoch, r1.2.1.From, r1.2.1.Vector_, r1.2.1.Clock, r12.1, r1.2.1.Site, r1.2.1.Sponsor, r1.2.1.Length⟩ : GEntry), r12.2.1, r12.2.2)))
 else
 (bif (r1.2.1.Kind == 6) then
 ((Frecord_reader_smalls_92e N r1.1 r1.2.1 r1.2.2).bind fun r13 =>
 (some (r13.2.1, r13.1, r13.2.2)))
 else
 (bif (r1.2.1.Kind == 7) then
 ((Frecord_reader_smalls_077 N r1.1 r1.2.1 r1.2.2).bind fun r14 =>
 (some (r14.2.1, r14.1, r14.2.2)))
 else
 (bif (r1.2.1.Kind == 8) then
 ((Frecord_reader_smalls_077 N r1.1 r1.2.1 r1.2.2).bind fun r15 =>
 ((Frecord_reader_ints_f35 N r15.1 r15.2.1 r15.2.2).bind fun r16 =>
 (some (r16.2.1, r16.1, r16.2.2))))
 else
 (some (r1.2.1, 40, r1.2.2)))))))))))))
def conrecord_reader_entry_407 : Con τ := { args := [.ptr 0 []], L := [.box (.agg [.ptr 1 [], .ty 38]), .box (.ty 72)], ret := .ty 36, L' := [.box (.agg [.ptr 1 [], .ty 38]), .box (.ty 72)], R := GEntry × Int × Gwire_Writer, dflt := (default, default, default), F := fun N a b => Frecord_reader_entry_407 N b.1.2.1 b.2.1, of := fun r => (r.1, (((), r.2.1, ()), r.2.2, ())) }
noncomputable def datrecord_reader_entry_407 : Dat τ := { D := D0, tbl := tblOf [(118, conrecord_reader_smalls_c10), (117, conrecord_reader_ints_97b), (85, conrecord_reader_op_407), (118, conrecord_reader_smalls_258), (117, conrecord_reader_ints_705), (132, conrecord_reader_ops_407), (87, conrecord_reader_epoch_407), (118, conrecord_reader_smalls_dcf), (121, conrecord_reader_vector_a4a), (117, conrecord_reader_ints_5e2), (133, conrecord_reader_part_407), (118, conrecord_reader_smalls_92e), (118, conrecord_reader_smalls_077), (117, conrecord_reader_ints_f35)], lp := lpsOf [], k0 := 2, mu := [], un := [] }
theorem okrecord_reader_entry_407 : ConOk E C 95 conrecord_reader_entry_407 :=
  con_ok (D := datrecord_reader_entry_407) ⟨d0Ok, eGood, tblOf_ok (l := [(118, conrecord_reader_smalls_c10), (117, conrecord_reader_ints_97b), (85, conrecord_reader_op_407), (118, conrecord_reader_smalls_258), (117, conrecord_reader_ints_705), (132, conrecord_reader_ops_407), (87, conrecord_reader_epoch_407), (118, conrecord_reader_smalls_dcf), (121, conrecord_reader_vector_a4a), (117, conrecord_reader_ints_5e2), (133, conrecord_reader_part_407), (118, conrecord_reader_smalls_92e), (118, conrecord_reader_smalls_077), (117, conrecord_reader_ints_f35)]) ⟨okrecord_reader_smalls_c10, ⟨okrecord_reader_ints_97b, ⟨okrecord_reader_op_407, ⟨okrecord_reader_smalls_258, ⟨okrecord_reader_ints_705, ⟨okrecord_reader_ops_407, ⟨okrecord_reader_epoch_407, ⟨okrecord_reader_smalls_dcf, ⟨okrecord_reader_vector_a4a, ⟨okrecord_reader_ints_5e2, ⟨okrecord_reader_part_407, ⟨okrecord_reader_smalls_92e, ⟨okrecord_reader_smalls_077, ⟨okrecord_reader_ints_f35, trivial⟩⟩⟩⟩⟩⟩⟩⟩⟩⟩⟩⟩⟩⟩⟩ conrecord_reader_entry_407 (fun a b => (a, b.1.2.1, b.2.1)) none (fun _ _ => rfl) rfl (fun _ _ h => nomatch h) 1000000 (fn := Try.f95) Try.func95 rfl (by kernel_rfl) (by kernel_rfl) rfl (by intro N a b; kernel_rfl)
def Fwire_Reader_End_d95 (N : Nat) (b0 : Gwire_Writer) : Option (Int × Gwire_Writer) :=
 ((Fwire_Reader_none_d95 N b0).bind fun r1 =>
 (bif r1.1 then
 (some (2, r1.2))
 else
 (bif (decide (0 < ((r1.2.b).length : Int))) then
 (some (13, r1.2))
 else
 (some (0, r1.2)))))
def conwire_Reader_End_d95 : Con τ := { args := [.ptr 0 []], L := [.box (.ty 72)], ret := .ty 38, L' := [.box (.ty 72)], R := Int × Gwire_Writer, dflt := (default, default), F := fun N a b => Fwire_Reader_End_d95 N b.1, of := fun r => (r.1, (r.2, ())) }
noncomputable def datwire_Reader_End_d95 : Dat τ := { D := D0, tbl := tblOf [(131, conwire_Reader_none_d95)], lp := lpsOf [], k0 := 1, mu := [], un := [] }
theorem okwire_Reader_End_d95 : ConOk E C 94 conwire_Reader_End_d95 :=
  con_ok (D := datwire_Reader_End_d95) ⟨d0Ok, eGood, tblOf_ok (l := [(131, conwire_Reader_none_d95)]) ⟨okwire_Reader_none_d95, trivial⟩⟩ conwire_Reader_End_d95 (fun a b => (a, b.1)) none (fun _ _ => rfl) rfl (fun _ _ h => nomatch h) 1000000 (fn := Try.f94) Try.func94 rfl (by kernel_rfl) (by kernel_rfl) rfl (by intro N a b; kernel_rfl)
def Frecord_TakeEntry (N : Nat) (b : List (Int)) : Option (GEntry × Int) :=
 ((Fwire_NewReader N b).bind fun r1 =>
 ((Frecord_reader_entry_407 N 0 r1).bind fun r2 =>
 ((Fwire_Reader_End_d95 N r2.2.2).bind fun r3 =>
 ((Frecord_reader_keep_bdf N r3.1 r2.2.1 r3.2).bind fun r4 =>
 (bif (r4.1 == 0) then
 ((Frecord_CheckEntry N r2.1).bind fun r5 =>
 (bif (!(r5 == 0)) then
 (some ((⟨0, 0, 0, (⟨(⟨0, 0⟩ : GStamp), 0, 0, 0, [], [], []⟩ : GOp), 0, 0, [], (⟨0, (Vector.replicate 8 (default : Int)), (Vector.replicate 8 (default : Int)), (Vector.replicate 8 (default : Int))⟩ : GEpoch), 0, (Vector.replicate 8 (default : Int)), 0, (⟨0, 0, 0, []⟩ : GPart), 0, 0, 0⟩ : GEntry), r5))
 else
 (some (r2.1, 0))))
 else
 (bif (!(r4.1 == 0)) then
 (some ((⟨0, 0, 0, (⟨(⟨0, 0⟩ : GStamp), 0, 0, 0, [], [], []⟩ : GOp), 0, 0, [], (⟨0, (Vector.replicate 8 (default : Int)), (Vector.replicate 8 (default : Int)), (Vector.replicate 8 (default : Int))⟩ : GEpoch), 0, (Vector.replicate 8 (default : Int)), 0, (⟨0, 0, 0, []⟩ : GPart), 0, 0, 0⟩ : GEntry), r4.1))
 else
 (some (r2.1, 0))))))))
def conrecord_TakeEntry : Con τ := { args := [.ty 32], L := [], ret := .tup [.ty 36, .ty 38], L' := [], R := GEntry × Int, dflt := (default, default), F := fun N a b => Frecord_TakeEntry N a.1, of := fun r => ((r.1, r.2, ()), ()) }
noncomputable def datrecord_TakeEntry : Dat τ := { D := D0, tbl := tblOf [(91, conwire_NewReader), (95, conrecord_reader_entry_407), (94, conwire_Reader_End_d95), (93, conrecord_reader_keep_bdf), (28, conrecord_CheckEntry)], lp := lpsOf [], k0 := 0, mu := [], un := [] }
theorem okrecord_TakeEntry : ConOk E C 39 conrecord_TakeEntry :=
  con_ok (D := datrecord_TakeEntry) ⟨d0Ok, eGood, tblOf_ok (l := [(91, conwire_NewReader), (95, conrecord_reader_entry_407), (94, conwire_Reader_End_d95), (93, conrecord_reader_keep_bdf), (28, conrecord_CheckEntry)]) ⟨okwire_NewReader, ⟨okrecord_reader_entry_407, ⟨okwire_Reader_End_d95, ⟨okrecord_reader_keep_bdf, ⟨okrecord_CheckEntry, trivial⟩⟩⟩⟩⟩⟩ conrecord_TakeEntry (fun a b => (a.1, a.2.1)) none (fun _ _ => rfl) rfl (fun _ _ h => nomatch h) 1000000 (fn := Try.f39) Try.func39 rfl (by kernel_rfl) (by kernel_rfl) rfl (by intro N a b; kernel_rfl)
def Fbytes_Equal (N : Nat) (a : List (Int)) (b : List (Int)) : Option (Bool) :=
 (some ((strI a) == (strI b)))
def conbytes_Equal : Con τ := { args := [.ty 32, .ty 32], L := [], ret := .ty 4, L' := [], R := Bool, dflt := default, F := fun N a b => Fbytes_Equal N a.1 a.2.1, of := fun r => (r, ()) }
noncomputable def datbytes_Equal : Dat τ := { D := D0, tbl := tblOf [], lp := lpsOf [], k0 := 0, mu := [], un := [] }
theorem okbytes_Equal : ConOk E C 13 conbytes_Equal :=
  con_ok (D := datbytes_Equal) ⟨d0Ok, eGood, tblOf_ok (l := []) trivial⟩ conbytes_Equal (fun a b => a) none (fun _ _ => rfl) rfl (fun _ _ h => nomatch h) 1000000 (fn := Try.f13) Try.func13 rfl (by kernel_rfl) (by kernel_rfl) rfl (by intro N a b; kernel_rfl)
def Flaw04_begun (N : Nat)  : Option (Bool) :=
 ((Frecord_Entry N (⟨7, 0, 0, (⟨(⟨0, 0⟩ : GStamp), 0, 0, 0, [], [], []⟩ : GOp), 0, 0, [], (⟨0, (Vector.replicate 8 (default : Int)), (Vector.replicate 8 (default : Int)), (Vector.replicate 8 (default : Int))⟩ : GEpoch), 0, (Vector.replicate 8 (default : Int)), 0, (⟨0, 0, 0, []⟩ : GPart), 3, 0, 0⟩ : GEntry)).bind fun r1 =>
 ((Frecord_TakeEntry N [14, 6]).bind fun r2 =>
 ((Fbytes_Equal N r1.1 [14, 6]).bind fun r3 =>
 (some ((((r3 && (r1.2 == 0)) && (r2.2 == 0)) && (r2.1.Kind == 7)) && (r2.1.Site == 3))))))
def conlaw04_begun : Con τ := { args := [], L := [], ret := .ty 4, L' := [], R := Bool, dflt := default, F := fun N a b => Flaw04_begun N , of := fun r => (r, ()) }
noncomputable def datlaw04_begun : Dat τ := { D := D0, tbl := tblOf [(10, conrecord_Entry), (39, conrecord_TakeEntry), (13, conbytes_Equal)], lp := lpsOf [], k0 := 0, mu := [], un := [] }
theorem oklaw04_begun : ConOk E C 9 conlaw04_begun :=
  con_ok (D := datlaw04_begun) ⟨d0Ok, eGood, tblOf_ok (l := [(10, conrecord_Entry), (39, conrecord_TakeEntry), (13, conbytes_Equal)]) ⟨okrecord_Entry, ⟨okrecord_TakeEntry, ⟨okbytes_Equal, trivial⟩⟩⟩⟩ conlaw04_begun (fun a b => a) none (fun _ _ => rfl) rfl (fun _ _ h => nomatch h) 1000000 (fn := Try.f9) Try.func9 rfl (by kernel_rfl) (by kernel_rfl) rfl (by intro N a b; kernel_rfl)
structure Sref04_sameOpsx4 where
  i : Int
def tsref04_sameOpsx4 : List Sl := [.keep, .keep, .keep, .keep, .junk, .sh (.ty 2), .keep, .keep, .keep, .keep, .keep, .junk, .junk, .junk, .junk, .junk, .junk, .junk, .junk, .junk, .junk, .junk, .junk, .junk, .junk, .junk]
def hsref04_sameOpsx4 : List ESh := []
def toref04_sameOpsx4 (a : Sl.Ts τ tsref04_sameOpsx4) (b : ESh.Ts τ hsref04_sameOpsx4) : Sref04_sameOpsx4 := ⟨a.2.2.2.2.2.1⟩
def otref04_sameOpsx4 (s : Sref04_sameOpsx4) : Sl.Ts τ tsref04_sameOpsx4 := ((), (), (), (), (), s.i, (), (), (), (), (), (), (), (), (), (), (), (), (), (), (), (), (), (), (), (), ())
def ohref04_sameOpsx4 (s : Sref04_sameOpsx4) : ESh.Ts τ hsref04_sameOpsx4 := ()
def lpref04_sameOpsx4 : Lp τ := { ts := tsref04_sameOpsx4, hs := hsref04_sameOpsx4, S := Sref04_sameOpsx4, to := toref04_sameOpsx4, ot := otref04_sameOpsx4, oh := ohref04_sameOpsx4, hk := [], tk := [], ot_to := fun _ _ => rfl, oh_to := fun _ _ => rfl }
def Fref04_sameOps (N : Nat) (a : List (GOp)) (b : List (GOp)) : Option (Bool) :=
 (bif (!(((a).length : Int) == ((b).length : Int))) then
 (some false)
 else
 (iter N (fun (s1 : Sref04_sameOpsx4) next2 =>
 (bif (decide (s1.i < ((a).length : Int))) then
 (bif (ibB s1.i ((a).length : Int)) then
 (bif (ibB s1.i ((b).length : Int)) then
 (bif (!((((((lget a s1.i default).Stamp).Time) == (((lget b s1.i default).Stamp).Time)) && ((((lget a s1.i default).Stamp).Site) == (((lget b s1.i default).Stamp).Site))) && ((((lget a s1.i default).Kind) == ((lget b s1.i default).Kind)) && ((((lget a s1.i default).Node) == ((lget b s1.i default).Node)) && ((((lget a s1.i default).Parent) == ((lget b s1.i default).Parent)) && ((((lget a s1.i default).Name) == ((lget b s1.i default).Name)) && ((((lget a s1.i default).Key) == ((lget b s1.i default).Key)) && (((lget a s1.i default).Value) == ((lget b s1.i default).Value))))))))) then
 (some false)
 else
 (next2 ⟨(IntKind.i64.wrap (s1.i + 1))⟩))
 else none)
 else none)
 else
 (some true))) ⟨0⟩))
def conref04_sameOps : Con τ := { args := [.ty 26, .ty 26], L := [], ret := .ty 4, L' := [], R := Bool, dflt := default, F := fun N a b => Fref04_sameOps N a.1 a.2.1, of := fun r => (r, ()) }
noncomputable def datref04_sameOps : Dat τ := { D := D0, tbl := tblOf [], lp := lpsOf [(4, lpref04_sameOpsx4)], k0 := 0, mu := [], un := [] }
theorem okref04_sameOps : ConOk E C 50 conref04_sameOps :=
  con_ok (D := datref04_sameOps) ⟨d0Ok, eGood, tblOf_ok (l := []) trivial⟩ conref04_sameOps (fun a b => a) none (fun _ _ => rfl) rfl (fun _ _ h => nomatch h) 1000000 (fn := Try.f50) Try.func50 rfl (by kernel_rfl) (by kernel_rfl) rfl (by intro N a b; kernel_rfl)
def Fref04_SamePart (N : Nat) (a : GPart) (b : GPart) : Option (Bool) :=
 (some ((((a.Snap == b.Snap) && (a.Index == b.Index)) && (a.Many == b.Many)) && ((strI a.Data) == (strI b.Data))))
def conref04_SamePart : Con τ := { args := [.ty 34, .ty 34], L := [], ret := .ty 4, L' := [], R := Bool, dflt := default, F := fun N a b => Fref04_SamePart N a.1 a.2.1, of := fun r => (r, ()) }
noncomputable def datref04_SamePart : Dat τ := { D := D0, tbl := tblOf [], lp := lpsOf [], k0 := 0, mu := [], un := [] }
theorem okref04_SamePart : ConOk E C 51 conref04_SamePart :=
  con_ok (D := datref04_SamePart) ⟨d0Ok, eGood, tblOf_ok (l := []) trivial⟩ conref04_SamePart (fun a b => a) none (fun _ _ => rfl) rfl (fun _ _ h => nomatch h) 1000000 (fn := Try.f51) Try.func51 rfl (by kernel_rfl) (by kernel_rfl) rfl (by intro N a b; kernel_rfl)
def Fref04_SameEntry (N : Nat) (a : GEntry) (b : GEntry) : Option (Bool) :=
 ((bif ((((((a.Kind == b.Kind) && (a.Session == b.Session)) && (a.Request == b.Request)) && (((a.Op.Stamp.Time == b.Op.Stamp.Time) && (a.Op.Stamp.Site == b.Op.Stamp.Site)) && ((a.Op.Kind == b.Op.Kind) && ((a.Op.Node == b.Op.Node) && ((a.Op.Parent == b.Op.Parent) && ((a.Op.Name == b.Op.Name) && ((a.Op.Key == b.Op.Key) && (a.Op.Value == b.Op.Value)))))))) && (a.Origin == b.Origin)) && (a.Seq == b.Seq)) then Fref04_sameOps N a.Ops b.Ops else some default).bind fun r1 =>
 ((bif (((((((((((a.Kind == b.Kind) && (a.Session == b.Session)) && (a.Request == b.Request)) && (((a.Op.Stamp.Time == b.Op.Stamp.Time) && (a.Op.Stamp.Site == b.Op.Stamp.Site)) && ((a.Op.Kind == b.Op.Kind) && ((a.Op.Node == b.Op.Node) && ((a.Op.Parent == b.Op.Parent) && ((a.Op.Name == b.Op.Name) && ((a.Op.Key == b.Op.Key) && (a.Op.Value == b.Op.Value)))))))) && (a.Origin == b.Origin)) && (a.Seq == b.Seq)) && r1) && ((a.Epoch.Number == b.Epoch.Number) && ((vbeq beq3 a.Epoch.States b.Epoch.States) && ((vbeq beq2 a.Epoch.Seals b.Epoch.Seals) && (vbeq beq3 a.Epoch.Sponsor b.Epoch.Sponsor))))) && (a.From == b.From)) && (vbeq beq2 a.Vector_ b.Vector_)) && (a.Clock == b.Clock)) then Fref04_SamePart N a.Part b.Part else some default).bind fun r2 =>
 (some (((((((((((((((a.Kind == b.Kind) && (a.Session == b.Session)) && (a.Request == b.Request)) && (((a.Op.Stamp.Time == b.Op.Stamp.Time) && (a.Op.Stamp.Site == b.Op.Stamp.Site)) && ((a.Op.Kind == b.Op.Kind) && ((a.Op.Node == b.Op.Node) && ((a.Op.Parent == b.Op.Parent) && ((a.Op.Name == b.Op.Name) && ((a.Op.Key == b.Op.Key) && (a.Op.Value == b.Op.Value)))))))) && (a.Origin == b.Origin)) && (a.Seq == b.Seq)) && r1) && ((a.Epoch.Number == b.Epoch.Number) && ((vbeq beq3 a.Epoch.States b.Epoch.States) && ((vbeq beq2 a.Epoch.Seals b.Epoch.Seals) && (vbeq beq3 a.Epoch.Sponsor b.Epoch.Sponsor))))) && (a.From == b.From)) && (vbeq beq2 a.Vector_ b.Vector_)) && (a.Clock == b.Clock)) && r2) && (a.Site == b.Site)) && (a.Sponsor == b.Sponsor)) && (a.Length == b.Length)))))
def conref04_SameEntry : Con τ := { args := [.ty 36, .ty 36], L := [], ret := .ty 4, L' := [], R := Bool, dflt := default, F := fun N a b => Fref04_SameEntry N a.1 a.2.1, of := fun r => (r, ()) }
noncomputable def datref04_SameEntry : Dat τ := { D := D0, tbl := tblOf [(50, conref04_sameOps), (51, conref04_SamePart)], lp := lpsOf [], k0 := 0, mu := [], un := [] }
theorem okref04_SameEntry : ConOk E C 12 conref04_SameEntry :=
  con_ok (D := datref04_SameEntry) ⟨d0Ok, eGood, tblOf_ok (l := [(50, conref04_sameOps), (51, conref04_SamePart)]) ⟨okref04_sameOps, ⟨okref04_SamePart, trivial⟩⟩⟩ conref04_SameEntry (fun a b => a) none (fun _ _ => rfl) rfl (fun _ _ h => nomatch h) 1000000 (fn := Try.f12) Try.func12 rfl (by kernel_rfl) (by kernel_rfl) rfl (by intro N a b; kernel_rfl)
def Frecord_sameSlotted (N : Nat) (a : GSlotted) (b : GSlotted) : Option (Bool) :=
 ((bif ((a.Slot == b.Slot) && ((a.Ballot.Round == b.Ballot.Round) && (a.Ballot.Replica == b.Ballot.Replica))) then Frecord_SameEntry N a.Entry b.Entry else some default).bind fun r1 =>
 (some (((a.Slot == b.Slot) && ((a.Ballot.Round == b.Ballot.Round) && (a.Ballot.Replica == b.Ballot.Replica))) && r1)))
def conrecord_sameSlotted : Con τ := { args := [.ty 80, .ty 80], L := [], ret := .ty 4, L' := [], R := Bool, dflt := default, F := fun N a b => Frecord_sameSlotted N a.1 a.2.1, of := fun r => (r, ()) }
noncomputable def datrecord_sameSlotted : Dat τ := { D := D0, tbl := tblOf [(14, conrecord_SameEntry)], lp := lpsOf [], k0 := 0, mu := [], un := [] }
theorem okrecord_sameSlotted : ConOk E C 55 conrecord_sameSlotted :=
  con_ok (D := datrecord_sameSlotted) ⟨d0Ok, eGood, tblOf_ok (l := [(14, conrecord_SameEntry)]) ⟨okrecord_SameEntry, trivial⟩⟩ conrecord_sameSlotted (fun a b => a) none (fun _ _ => rfl) rfl (fun _ _ h => nomatch h) 1000000 (fn := Try.f55) Try.func55 rfl (by kernel_rfl) (by kernel_rfl) rfl (by intro N a b; kernel_rfl)
structure Sslices_EqualFunc_Slotted_117x4 where
  t17 : Int
def tsslices_EqualFunc_Slotted_117x4 : List Sl := [.keep, .keep, .keep, .keep, .keep, .keep, .junk, .junk, .junk, .junk, .keep, .keep, .keep, .keep, .keep, .keep, .keep, .sh (.ty 2), .junk, .junk, .junk, .junk, .junk, .junk, .junk, .junk, .junk, .junk, .junk, .junk, .junk, .junk]
def hsslices_EqualFunc_Slotted_117x4 : List ESh := []
def toslices_EqualFunc_Slotted_117x4 (a : Sl.Ts τ tsslices_EqualFunc_Slotted_117x4) (b : ESh.Ts τ hsslices_EqualFunc_Slotted_117x4) : Sslices_EqualFunc_Slotted_117x4 := ⟨a.2.2.2.2.2.2.2.2.2.2.2.2.2.2.2.2.2.1⟩
def otslices_EqualFunc_Slotted_117x4 (s : Sslices_EqualFunc_Slotted_117x4) : Sl.Ts τ tsslices_EqualFunc_Slotted_117x4 := ((), (), (), (), (), (), (), (), (), (), (), (), (), (), (), (), (), s.t17, (), (), (), (), (), (), (), (), (), (), (), (), (), (), ())
def ohslices_EqualFunc_Slotted_117x4 (s : Sslices_EqualFunc_Slotted_117x4) : ESh.Ts τ hsslices_EqualFunc_Slotted_117x4 := ()
def lpslices_EqualFunc_Slotted_117x4 : Lp τ := { ts := tsslices_EqualFunc_Slotted_117x4, hs := hsslices_EqualFunc_Slotted_117x4, S := Sslices_EqualFunc_Slotted_117x4, to := toslices_EqualFunc_Slotted_117x4, ot := otslices_EqualFunc_Slotted_117x4, oh := ohslices_EqualFunc_Slotted_117x4, hk := [], tk := [], ot_to := fun _ _ => rfl, oh_to := fun _ _ => rfl }
def Fslices_EqualFunc_Slotted_117 (N : Nat) (s1_ : List (GSlotted)) (s2_ : List (GSlotted)) : Option (Bool) :=
 (bif (!(((s1_).length : Int) == ((s2_).length : Int))) then
 (some false)
 else
 (iter N (fun (s1 : Sslices_EqualFunc_Slotted_117x4) next2 =>
 (bif (decide (s1.t17 < ((s1_).length : Int))) then
 (bif (ibB s1.t17 ((s1_).length : Int)) then
 (bif (ibB s1.t17 ((s2_).length : Int)) then
 ((Frecord_sameSlotted N (⟨(lget s1_ s1.t17 default).Slot, ((lget s1_ s1.t17 default).Ballot), (⟨((lget s1_ s1.t17 default).Entry).Kind, ((lget s1_ s1.t17 default).Entry).Session, ((lget s1_ s1.t17 default).Entry).Request, (⟨((((lget s1_ s1.t17 default).Entry).Op).Stamp), (((lget s1_ s1.t17 default).Entry).Op).Kind, (((lget s1_ s1.t17 default).Entry).Op).Node, (((lget s1_ s1.t17 default).Entry).Op).Parent, (((lget s1_ s1.t17 default).Entry).Op).Name, (((lget s1_ s1.t17 default).Entry).Op).Key, (((lget s1_ s1.t17 default).Entry).Op).Value⟩ : GOp), ((lget s1_ s1.t17 default).Entry).Origin, ((lget s1_ s1.t17 default).Entry).Seq, ((lget s1_ s1.t17 default).Entry).Ops, (((lget s1_ s1.t17 default).Entry).Epoch), ((lget s1_ s1.t17 default).Entry).From, ((lget s1_ s1.t17 default).Entry).Vector_, ((lget s1_ s1.t17 default).Entry).Clock, (((lget s1_ s1.t17 default).Entry).Part), ((lget s1_ s1.t17 default).Entry).Site, ((lget s1_ s1.t17 default).Entry).Sponsor, ((lget s1_ s1.t17 default).Entry).Length⟩ : GEntry)⟩ : GSlotted) (⟨(lget s2_ s1.t17 default).Slot, ((lget s2_ s1.t17 default).Ballot), (⟨((lget s2_ s1.t17 default).Entry).Kind, ((lget s2_ s1.t17 default).Entry).Session, ((lget s2_ s1.t17 default).Entry).Request, (⟨((((lget s2_ s1.t17 default).Entry).Op).Stamp), (((lget s2_ s1.t17 default).Entry).Op).Kind, (((lget s2_ s1.t17 default).Entry).Op).Node, (((lget s2_ s1.t17 default).Entry).Op).Parent, (((lget s2_ s1.t17 default).Entry).Op).Name, (((lget s2_ s1.t17 default).Entry).Op).Key, (((lget s2_ s1.t17 default).Entry).Op).Value⟩ : GOp), ((lget s2_ s1.t17 default).Entry).Origin, ((lget s2_ s1.t17 default).Entry).Seq, ((lget s2_ s1.t17 default).Entry).Ops, (((lget s2_ s1.t17 default).Entry).Epoch), ((lget s2_ s1.t17 default).Entry).From, ((lget s2_ s1.t17 default).Entry).Vector_, ((lget s2_ s1.t17 default).Entry).Clock, (((lget s2_ s1.t17 default).Entry).Part), ((lget s2_ s1.t17 default).Entry).Site, ((lget s2_ s1.t17 default).Entry).Sponsor, ((lget s2_ s1.t17 default).Entry).Length⟩ : GEntry)⟩ : GSlotted)).bind fun r3 =>
 (bif (!r3) then
 (some false)
 else
 (next2 ⟨(IntKind.i64.wrap (s1.t17 + 1))⟩)))
 else none)
 else none)
 else
 (some true))) ⟨0⟩))
def conslices_EqualFunc_Slotted_117 : Con τ := { args := [.ty 48, .ty 48, .fn 55 []], L := [], ret := .ty 4, L' := [], R := Bool, dflt := default, F := fun N a b => Fslices_EqualFunc_Slotted_117 N a.1 a.2.1, of := fun r => (r, ()) }
noncomputable def datslices_EqualFunc_Slotted_117 : Dat τ := { D := D0, tbl := tblOf [(55, conrecord_sameSlotted)], lp := lpsOf [(4, lpslices_EqualFunc_Slotted_117x4)], k0 := 0, mu := [], un := [] }
theorem okslices_EqualFunc_Slotted_117 : ConOk E C 54 conslices_EqualFunc_Slotted_117 :=
  con_ok (D := datslices_EqualFunc_Slotted_117) ⟨d0Ok, eGood, tblOf_ok (l := [(55, conrecord_sameSlotted)]) ⟨okrecord_sameSlotted, trivial⟩⟩ conslices_EqualFunc_Slotted_117 (fun a b => a) none (fun _ _ => rfl) rfl (fun _ _ h => nomatch h) 1000000 (fn := Try.f54) Try.func54 rfl (by kernel_rfl) (by kernel_rfl) rfl (by intro N a b; kernel_rfl)
def Frecord_SameMsg (N : Nat) (a : GMsg) (b : GMsg) : Option (Bool) :=
 ((bif (((((a.Kind == b.Kind) && ((a.From.Group == b.From.Group) && (a.From.Replica == b.From.Replica))) && ((a.To.Group == b.To.Group) && (a.To.Replica == b.To.Replica))) && ((a.Ballot.Round == b.Ballot.Round) && (a.Ballot.Replica == b.Ballot.Replica))) && (a.Slot == b.Slot)) then Fslices_EqualFunc_Slotted_117 N a.List_ b.List_ else some default).bind fun r1 =>
 ((bif ((((((a.Kind == b.Kind) && ((a.From.Group == b.From.Group) && (a.From.Replica == b.From.Replica))) && ((a.To.Group == b.To.Group) && (a.To.Replica == b.To.Replica))) && ((a.Ballot.Round == b.Ballot.Round) && (a.Ballot.Replica == b.Ballot.Replica))) && (a.Slot == b.Slot)) && r1) then Frecord_SameEntry N a.Entry b.Entry else some default).bind fun r2 =>
 ((bif (((((((((((a.Kind == b.Kind) && ((a.From.Group == b.From.Group) && (a.From.Replica == b.From.Replica))) && ((a.To.Group == b.To.Group) && (a.To.Replica == b.To.Replica))) && ((a.Ballot.Round == b.Ballot.Round) && (a.Ballot.Replica == b.Ballot.Replica))) && (a.Slot == b.Slot)) && r1) && r2) && (a.Number == b.Number)) && (vbeq beq2 a.Vector_ b.Vector_)) && (a.Clock == b.Clock)) && (a.Origin == b.Origin)) then Fslices_Equal_Op N a.Ops b.Ops else some default).bind fun r3 =>
 ((bif (((((((((((((a.Kind == b.Kind) && ((a.From.Group == b.From.Group) && (a.From.Replica == b.From.Replica))) && ((a.To.Group == b.To.Group) && (a.To.Replica == b.To.Replica))) && ((a.Ballot.Round == b.Ballot.Round) && (a.Ballot.Replica == b.Ballot.Replica))) && (a.Slot == b.Slot)) && r1) && r2) && (a.Number == b.Number)) && (vbeq beq2 a.Vector_ b.Vector_)) && (a.Clock == b.Clock)) && (a.Origin == b.Origin)) && r3) && ((a.Epoch.Number == b.Epoch.Number) && ((vbeq beq3 a.Epoch.States b.Epoch.States) && ((vbeq beq2 a.Epoch.Seals b.Epoch.Seals) && (vbeq beq3 a.Epoch.Sponsor b.Epoch.Sponsor))))) then Frecord_samePart N a.Part b.Part else some default).bind fun r4 =>
 (some ((((((((((((((a.Kind == b.Kind) && ((a.From.Group == b.From.Group) && (a.From.Replica == b.From.Replica))) && ((a.To.Group == b.To.Group) && (a.To.Replica == b.To.Replica))) && ((a.Ballot.Round == b.Ballot.Round) && (a.Ballot.Replica == b.Ballot.Replica))) && (a.Slot == b.Slot)) && r1) && r2) && (a.Number == b.Number)) && (vbeq beq2 a.Vector_ b.Vector_)) && (a.Clock == b.Clock)) && (a.Origin == b.Origin)) && r3) && ((a.Epoch.Number == b.Epoch.Number) && ((vbeq beq3 a.Epoch.States b.Epoch.States) && ((vbeq beq2 a.Epoch.Seals b.Epoch.Seals) && (vbeq beq3 a.Epoch.Sponsor b.Epoch.Sponsor))))) && r4))))))
def conrecord_SameMsg : Con τ := { args := [.ty 50, .ty 50], L := [], ret := .ty 4, L' := [], R := Bool, dflt := default, F := fun N a b => Frecord_SameMsg N a.1 a.2.1, of := fun r => (r, ()) }
noncomputable def datrecord_SameMsg : Dat τ := { D := D0, tbl := tblOf [(54, conslices_EqualFunc_Slotted_117), (14, conrecord_SameEntry), (52, conslices_Equal_Op), (53, conrecord_samePart)], lp := lpsOf [], k0 := 0, mu := [], un := [] }
theorem okrecord_SameMsg : ConOk E C 15 conrecord_SameMsg :=
  con_ok (D := datrecord_SameMsg) ⟨d0Ok, eGood, tblOf_ok (l := [(54, conslices_EqualFunc_Slotted_117), (14, conrecord_SameEntry), (52, conslices_Equal_Op), (53, conrecord_samePart)]) ⟨okslices_EqualFunc_Slotted_117, ⟨okrecord_SameEntry, ⟨okslices_Equal_Op, ⟨okrecord_samePart, trivial⟩⟩⟩⟩⟩ conrecord_SameMsg (fun a b => a) none (fun _ _ => rfl) rfl (fun _ _ h => nomatch h) 1000000 (fn := Try.f15) Try.func15 rfl (by kernel_rfl) (by kernel_rfl) rfl (by intro N a b; kernel_rfl)
def Fref04_SameSlotted (N : Nat) (a : GSlotted) (b : GSlotted) : Option (Bool) :=
 ((bif ((a.Slot == b.Slot) && ((a.Ballot.Round == b.Ballot.Round) && (a.Ballot.Replica == b.Ballot.Replica))) then Fref04_SameEntry N a.Entry b.Entry else some default).bind fun r1 =>
 (some (((a.Slot == b.Slot) && ((a.Ballot.Round == b.Ballot.Round) && (a.Ballot.Replica == b.Ballot.Replica))) && r1)))
def conref04_SameSlotted : Con τ := { args := [.ty 80, .ty 80], L := [], ret := .ty 4, L' := [], R := Bool, dflt := default, F := fun N a b => Fref04_SameSlotted N a.1 a.2.1, of := fun r => (r, ()) }
noncomputable def datref04_SameSlotted : Dat τ := { D := D0, tbl := tblOf [(12, conref04_SameEntry)], lp := lpsOf [], k0 := 0, mu := [], un := [] }
theorem okref04_SameSlotted : ConOk E C 102 conref04_SameSlotted :=
  con_ok (D := datref04_SameSlotted) ⟨d0Ok, eGood, tblOf_ok (l := [(12, conref04_SameEntry)]) ⟨okref04_SameEntry, trivial⟩⟩ conref04_SameSlotted (fun a b => a) none (fun _ _ => rfl) rfl (fun _ _ h => nomatch h) 1000000 (fn := Try.f102) Try.func102 rfl (by kernel_rfl) (by kernel_rfl) rfl (by intro N a b; kernel_rfl)
structure Sref04_SameListx4 where
  i : Int
def tsref04_SameListx4 : List Sl := [.keep, .keep, .keep, .keep, .junk, .sh (.ty 2), .keep, .keep, .keep, .keep, .keep, .junk, .junk, .junk, .junk, .junk, .junk, .junk, .junk, .junk, .junk, .junk, .junk, .junk, .junk, .junk, .junk]
def hsref04_SameListx4 : List ESh := []
def toref04_SameListx4 (a : Sl.Ts τ tsref04_SameListx4) (b : ESh.Ts τ hsref04_SameListx4) : Sref04_SameListx4 := ⟨a.2.2.2.2.2.1⟩
def otref04_SameListx4 (s : Sref04_SameListx4) : Sl.Ts τ tsref04_SameListx4 := ((), (), (), (), (), s.i, (), (), (), (), (), (), (), (), (), (), (), (), (), (), (), (), (), (), (), (), (), ())
def ohref04_SameListx4 (s : Sref04_SameListx4) : ESh.Ts τ hsref04_SameListx4 := ()
def lpref04_SameListx4 : Lp τ := { ts := tsref04_SameListx4, hs := hsref04_SameListx4, S := Sref04_SameListx4, to := toref04_SameListx4, ot := otref04_SameListx4, oh := ohref04_SameListx4, hk := [], tk := [], ot_to := fun _ _ => rfl, oh_to := fun _ _ => rfl }
def Fref04_SameList (N : Nat) (a : List (GSlotted)) (b : List (GSlotted)) : Option (Bool) :=
 (bif (!(((a).length : Int) == ((b).length : Int))) then
 (some false)
 else
 (iter N (fun (s1 : Sref04_SameListx4) next2 =>
 (bif (decide (s1.i < ((a).length : Int))) then
 (bif (ibB s1.i ((a).length : Int)) then
 (bif (ibB s1.i ((b).length : Int)) then
 ((Fref04_SameSlotted N (⟨(lget a s1.i default).Slot, ((lget a s1.i default).Ballot), (⟨((lget a s1.i default).Entry).Kind, ((lget a s1.i default).Entry).Session, ((lget a s1.i default).Entry).Request, (⟨((((lget a s1.i default).Entry).Op).Stamp), (((lget a s1.i default).Entry).Op).Kind, (((lget a s1.i default).Entry).Op).Node, (((lget a s1.i default).Entry).Op).Parent, (((lget a s1.i default).Entry).Op).Name, (((lget a s1.i default).Entry).Op).Key, (((lget a s1.i default).Entry).Op).Value⟩ : GOp), ((lget a s1.i default).Entry).Origin, ((lget a s1.i default).Entry).Seq, ((lget a s1.i default).Entry).Ops, (((lget a s1.i default).Entry).Epoch), ((lget a s1.i default).Entry).From, ((lget a s1.i default).Entry).Vector_, ((lget a s1.i default).Entry).Clock, (((lget a s1.i default).Entry).Part), ((lget a s1.i default).Entry).Site, ((lget a s1.i default).Entry).Sponsor, ((lget a s1.i default).Entry).Length⟩ : GEntry)⟩ : GSlotted) (⟨(lget b s1.i default).Slot, ((lget b s1.i default).Ballot), (⟨((lget b s1.i default).Entry).Kind, ((lget b s1.i default).Entry).Session, ((lget b s1.i default).Entry).Request, (⟨((((lget b s1.i default).Entry).Op).Stamp), (((lget b s1.i default).Entry).Op).Kind, (((lget b s1.i default).Entry).Op).Node, (((lget b s1.i default).Entry).Op).Parent, (((lget b s1.i default).Entry).Op).Name, (((lget b s1.i default).Entry).Op).Key, (((lget b s1.i default).Entry).Op).Value⟩ : GOp), ((lget b s1.i default).Entry).Origin, ((lget b s1.i default).Entry).Seq, ((lget b s1.i default).Entry).Ops, (((lget b s1.i default).Entry).Epoch), ((lget b s1.i default).Entry).From, ((lget b s1.i default).Entry).Vector_, ((lget b s1.i default).Entry).Clock, (((lget b s1.i default).Entry).Part), ((lget b s1.i default).Entry).Site, ((lget b s1.i default).Entry).Sponsor, ((lget b s1.i default).Entry).Length⟩ : GEntry)⟩ : GSlotted)).bind fun r3 =>
 (bif (!r3) then
 (some false)
 else
 (next2 ⟨(IntKind.i64.wrap (s1.i + 1))⟩)))
 else none)
 else none)
 else
 (some true))) ⟨0⟩))
def conref04_SameList : Con τ := { args := [.ty 48, .ty 48], L := [], ret := .ty 4, L' := [], R := Bool, dflt := default, F := fun N a b => Fref04_SameList N a.1 a.2.1, of := fun r => (r, ()) }
noncomputable def datref04_SameList : Dat τ := { D := D0, tbl := tblOf [(102, conref04_SameSlotted)], lp := lpsOf [(4, lpref04_SameListx4)], k0 := 0, mu := [], un := [] }
theorem okref04_SameList : ConOk E C 56 conref04_SameList :=
  con_ok (D := datref04_SameList) ⟨d0Ok, eGood, tblOf_ok (l := [(102, conref04_SameSlotted)]) ⟨okref04_SameSlotted, trivial⟩⟩ conref04_SameList (fun a b => a) none (fun _ _ => rfl) rfl (fun _ _ h => nomatch h) 1000000 (fn := Try.f56) Try.func56 rfl (by kernel_rfl) (by kernel_rfl) rfl (by intro N a b; kernel_rfl)
def Fref04_SameMsg (N : Nat) (a : GMsg) (b : GMsg) : Option (Bool) :=
 ((bif (((((a.Kind == b.Kind) && ((a.From.Group == b.From.Group) && (a.From.Replica == b.From.Replica))) && ((a.To.Group == b.To.Group) && (a.To.Replica == b.To.Replica))) && ((a.Ballot.Round == b.Ballot.Round) && (a.Ballot.Replica == b.Ballot.Replica))) && (a.Slot == b.Slot)) then Fref04_SameList N a.List_ b.List_ else some default).bind fun r1 =>
 ((bif ((((((a.Kind == b.Kind) && ((a.From.Group == b.From.Group) && (a.From.Replica == b.From.Replica))) && ((a.To.Group == b.To.Group) && (a.To.Replica == b.To.Replica))) && ((a.Ballot.Round == b.Ballot.Round) && (a.Ballot.Replica == b.Ballot.Replica))) && (a.Slot == b.Slot)) && r1) then Fref04_SameEntry N a.Entry b.Entry else some default).bind fun r2 =>
 ((bif (((((((((((a.Kind == b.Kind) && ((a.From.Group == b.From.Group) && (a.From.Replica == b.From.Replica))) && ((a.To.Group == b.To.Group) && (a.To.Replica == b.To.Replica))) && ((a.Ballot.Round == b.Ballot.Round) && (a.Ballot.Replica == b.Ballot.Replica))) && (a.Slot == b.Slot)) && r1) && r2) && (a.Number == b.Number)) && (vbeq beq2 a.Vector_ b.Vector_)) && (a.Clock == b.Clock)) && (a.Origin == b.Origin)) then Fref04_sameOps N a.Ops b.Ops else some default).bind fun r3 =>
 ((bif (((((((((((((a.Kind == b.Kind) && ((a.From.Group == b.From.Group) && (a.From.Replica == b.From.Replica))) && ((a.To.Group == b.To.Group) && (a.To.Replica == b.To.Replica))) && ((a.Ballot.Round == b.Ballot.Round) && (a.Ballot.Replica == b.Ballot.Replica))) && (a.Slot == b.Slot)) && r1) && r2) && (a.Number == b.Number)) && (vbeq beq2 a.Vector_ b.Vector_)) && (a.Clock == b.Clock)) && (a.Origin == b.Origin)) && r3) && ((a.Epoch.Number == b.Epoch.Number) && ((vbeq beq3 a.Epoch.States b.Epoch.States) && ((vbeq beq2 a.Epoch.Seals b.Epoch.Seals) && (vbeq beq3 a.Epoch.Sponsor b.Epoch.Sponsor))))) then Fref04_SamePart N a.Part b.Part else some default).bind fun r4 =>
 (some ((((((((((((((a.Kind == b.Kind) && ((a.From.Group == b.From.Group) && (a.From.Replica == b.From.Replica))) && ((a.To.Group == b.To.Group) && (a.To.Replica == b.To.Replica))) && ((a.Ballot.Round == b.Ballot.Round) && (a.Ballot.Replica == b.Ballot.Replica))) && (a.Slot == b.Slot)) && r1) && r2) && (a.Number == b.Number)) && (vbeq beq2 a.Vector_ b.Vector_)) && (a.Clock == b.Clock)) && (a.Origin == b.Origin)) && r3) && ((a.Epoch.Number == b.Epoch.Number) && ((vbeq beq3 a.Epoch.States b.Epoch.States) && ((vbeq beq2 a.Epoch.Seals b.Epoch.Seals) && (vbeq beq3 a.Epoch.Sponsor b.Epoch.Sponsor))))) && r4))))))
def conref04_SameMsg : Con τ := { args := [.ty 50, .ty 50], L := [], ret := .ty 4, L' := [], R := Bool, dflt := default, F := fun N a b => Fref04_SameMsg N a.1 a.2.1, of := fun r => (r, ()) }
noncomputable def datref04_SameMsg : Dat τ := { D := D0, tbl := tblOf [(56, conref04_SameList), (12, conref04_SameEntry), (50, conref04_sameOps), (51, conref04_SamePart)], lp := lpsOf [], k0 := 0, mu := [], un := [] }
theorem okref04_SameMsg : ConOk E C 16 conref04_SameMsg :=
  con_ok (D := datref04_SameMsg) ⟨d0Ok, eGood, tblOf_ok (l := [(56, conref04_SameList), (12, conref04_SameEntry), (50, conref04_sameOps), (51, conref04_SamePart)]) ⟨okref04_SameList, ⟨okref04_SameEntry, ⟨okref04_sameOps, ⟨okref04_SamePart, trivial⟩⟩⟩⟩⟩ conref04_SameMsg (fun a b => a) none (fun _ _ => rfl) rfl (fun _ _ h => nomatch h) 1000000 (fn := Try.f16) Try.func16 rfl (by kernel_rfl) (by kernel_rfl) rfl (by intro N a b; kernel_rfl)
def Fslices_Clone_Op_367 (N : Nat) (s : List (GOp)) : Option ((List (GOp))) :=
 (bif (lenB (0 + (s).length) 88) then
 (some ([] ++ s))
 else none)
def conslices_Clone_Op_367 : Con τ := { args := [.nn 25], L := [], ret := .ty 26, L' := [], R := (List (GOp)), dflt := default, F := fun N a b => Fslices_Clone_Op_367 N a.1, of := fun r => (r, ()) }
noncomputable def datslices_Clone_Op_367 : Dat τ := { D := D0, tbl := tblOf [], lp := lpsOf [], k0 := 0, mu := [], un := [] }
theorem okslices_Clone_Op_367 : ConOk E C 57 conslices_Clone_Op_367 :=
  con_ok (D := datslices_Clone_Op_367) ⟨d0Ok, eGood, tblOf_ok (l := []) trivial⟩ conslices_Clone_Op_367 (fun a b => a) none (fun _ _ => rfl) rfl (fun _ _ h => nomatch h) 1000000 (fn := Try.f57) Try.func57 rfl (by kernel_rfl) (by kernel_rfl) rfl (by intro N a b; kernel_rfl)
def Fslices_Clone_Op_932 (N : Nat)  : Option ((List (GOp))) :=
 (some [])
def conslices_Clone_Op_932 : Con τ := { args := [.nil .slice], L := [], ret := .ty 26, L' := [], R := (List (GOp)), dflt := default, F := fun N a b => Fslices_Clone_Op_932 N , of := fun r => (r, ()) }
noncomputable def datslices_Clone_Op_932 : Dat τ := { D := D0, tbl := tblOf [], lp := lpsOf [], k0 := 0, mu := [], un := [] }
theorem okslices_Clone_Op_932 : ConOk E C 57 conslices_Clone_Op_932 :=
  con_ok (D := datslices_Clone_Op_932) ⟨d0Ok, eGood, tblOf_ok (l := []) trivial⟩ conslices_Clone_Op_932 (fun a b => a) none (fun _ _ => rfl) rfl (fun _ _ h => nomatch h) 1000000 (fn := Try.f57) Try.func57 rfl (by kernel_rfl) (by kernel_rfl) rfl (by intro N a b; kernel_rfl)
def Fslices_Clone_Op (N : Nat) (s : List (GOp)) : Option ((List (GOp))) := Fslices_Clone_Op_367 N s
def conslices_Clone_Op : Con τ := { args := [.ty 26], L := [], ret := .ty 26, L' := [], R := (List (GOp)), dflt := default, F := fun N a b => Fslices_Clone_Op N a.1, of := fun r => (r, ()) }
theorem okslices_Clone_Op : ConOk E C 57 conslices_Clone_Op := by
  intro N a b r h
  obtain ⟨x0, u⟩ := a
  refine FnSpec.split (pre := []) (post := []) (fun h0 => ?_) (okslices_Clone_Op_367 N (x0, u) b r h)
  have h0 : x0 = [] := List.map_eq_nil_iff.1 h0
  subst h0
  exact okslices_Clone_Op_932 N ((), u) b r ((show conslices_Clone_Op_932.F N ((), u) b = conslices_Clone_Op.F N ([], u) b from by kernel_rfl).trans h)
def Frecord_CloneEntry (N : Nat) (e : GEntry) : Option (GEntry) :=
 ((Fslices_Clone_Op N e.Ops).bind fun r1 =>
 ((Fslices_Clone_byte N e.Part.Data).bind fun r2 =>
 (some (⟨e.Kind, e.Session, e.Request, e.Op, e.Origin, e.Seq, r1, e.Epoch, e.From, e.Vector_, e.Clock, (⟨e.Part.Snap, e.Part.Index, e.Part.Many, r2⟩ : GPart), e.Site, e.Sponsor, e.Length⟩ : GEntry))))
def conrecord_CloneEntry : Con τ := { args := [.ty 36], L := [], ret := .ty 36, L' := [], R := GEntry, dflt := default, F := fun N a b => Frecord_CloneEntry N a.1, of := fun r => (r, ()) }
noncomputable def datrecord_CloneEntry : Dat τ := { D := D0, tbl := tblOf [(57, conslices_Clone_Op), (58, conslices_Clone_byte)], lp := lpsOf [], k0 := 0, mu := [], un := [] }
theorem okrecord_CloneEntry : ConOk E C 17 conrecord_CloneEntry :=
  con_ok (D := datrecord_CloneEntry) ⟨d0Ok, eGood, tblOf_ok (l := [(57, conslices_Clone_Op), (58, conslices_Clone_byte)]) ⟨okslices_Clone_Op, ⟨okslices_Clone_byte, trivial⟩⟩⟩ conrecord_CloneEntry (fun a b => a) none (fun _ _ => rfl) rfl (fun _ _ h => nomatch h) 1000000 (fn := Try.f17) Try.func17 rfl (by kernel_rfl) (by kernel_rfl) rfl (by intro N a b; kernel_rfl)
def Fslices_Clone_Slotted_439 (N : Nat) (s : List (GSlotted)) : Option (Nat × (List (GSlotted))) :=
 (bif (lenB ((s).length) 528) then
 (some ((s).length, s))
 else none)
def conslices_Clone_Slotted_439 : Con τ := { args := [.nn 80], L := [], ret := .msl 80 0, L' := [.gbx 80], R := Nat × (List (GSlotted)), dflt := (default, default), F := fun N a b => Fslices_Clone_Slotted_439 N a.1, of := fun r => (r.1, (r.2, ())) }
noncomputable def datslices_Clone_Slotted_439 : Dat τ := { D := D0, tbl := tblOf [], lp := lpsOf [], k0 := 0, mu := [7], un := [] }
theorem okslices_Clone_Slotted_439 : ConOk E C 59 conslices_Clone_Slotted_439 :=
  con_ok (D := datslices_Clone_Slotted_439) ⟨d0Ok, eGood, tblOf_ok (l := []) trivial⟩ conslices_Clone_Slotted_439 (fun a b => (a, b.1)) none (fun _ _ => rfl) rfl (fun _ _ h => nomatch h) 1000000 (fn := Try.f59) Try.func59 rfl (by kernel_rfl) (by kernel_rfl) rfl (by intro N a b; kernel_rfl)
def Fslices_Clone_Slotted_476 (N : Nat)  : Option (Nat × (List (GSlotted))) :=
 (some (0, []))
def conslices_Clone_Slotted_476 : Con τ := { args := [.nil .slice], L := [], ret := .msl 80 0, L' := [.gbx 80], R := Nat × (List (GSlotted)), dflt := (default, default), F := fun N a b => Fslices_Clone_Slotted_476 N , of := fun r => (r.1, (r.2, ())) }
noncomputable def datslices_Clone_Slotted_476 : Dat τ := { D := D0, tbl := tblOf [], lp := lpsOf [], k0 := 0, mu := [7], un := [] }
theorem okslices_Clone_Slotted_476 : ConOk E C 59 conslices_Clone_Slotted_476 :=
  con_ok (D := datslices_Clone_Slotted_476) ⟨d0Ok, eGood, tblOf_ok (l := []) trivial⟩ conslices_Clone_Slotted_476 (fun a b => (a, b.1)) none (fun _ _ => rfl) rfl (fun _ _ h => nomatch h) 1000000 (fn := Try.f59) Try.func59 rfl (by kernel_rfl) (by kernel_rfl) rfl (by intro N a b; kernel_rfl)
def Fslices_Clone_Slotted_560 (N : Nat) (s : List (GSlotted)) : Option (Nat × (List (GSlotted))) := Fslices_Clone_Slotted_439 N s
def conslices_Clone_Slotted_560 : Con τ := { args := [.ty 48], L := [], ret := .msl 80 0, L' := [.gbx 80], R := Nat × (List (GSlotted)), dflt := (default, default), F := fun N a b => Fslices_Clone_Slotted_560 N a.1, of := fun r => (r.1, (r.2, ())) }
theorem okslices_Clone_Slotted_560 : ConOk E C 59 conslices_Clone_Slotted_560 := by
  intro N a b r h
  obtain ⟨x0, u⟩ := a
  refine FnSpec.split (pre := []) (post := []) (fun h0 => ?_) (okslices_Clone_Slotted_439 N (x0, u) b r h)
  have h0 : x0 = [] := List.map_eq_nil_iff.1 h0
  subst h0
  exact okslices_Clone_Slotted_476 N ((), u) b r ((show conslices_Clone_Slotted_476.F N ((), u) b = conslices_Clone_Slotted_560.F N ([], u) b from by kernel_rfl).trans h)
structure Srecord_CloneMsgx3 where
  t11 : Int
  g2 : List (GSlotted)
def tsrecord_CloneMsgx3 : List Sl := [.keep, .keep, .keep, .junk, .keep, .keep, .keep, .keep, .keep, .keep, .keep, .sh (.ty 2), .junk, .junk, .junk, .junk, .junk, .junk, .junk, .junk, .junk, .junk, .junk, .junk, .junk, .junk, .junk, .keep, .keep, .keep, .keep, .keep, .keep, .keep, .keep, .keep, .keep, .keep, .keep, .keep, .keep, .keep]
def hsrecord_CloneMsgx3 : List ESh := [.keep, .keep, .gbx 80]
def torecord_CloneMsgx3 (a : Sl.Ts τ tsrecord_CloneMsgx3) (b : ESh.Ts τ hsrecord_CloneMsgx3) : Srecord_CloneMsgx3 := ⟨a.2.2.2.2.2.2.2.2.2.2.2.1, b.2.2.1⟩
def otrecord_CloneMsgx3 (s : Srecord_CloneMsgx3) : Sl.Ts τ tsrecord_CloneMsgx3 := ((), (), (), (), (), (), (), (), (), (), (), s.t11, (), (), (), (), (), (), (), (), (), (), (), (), (), (), (), (), (), (), (), (), (), (), (), (), (), (), (), (), (), (), ())
def ohrecord_CloneMsgx3 (s : Srecord_CloneMsgx3) : ESh.Ts τ hsrecord_CloneMsgx3 := ((), (), s.g2, ())
def lprecord_CloneMsgx3 : Lp τ := { ts := tsrecord_CloneMsgx3, hs := hsrecord_CloneMsgx3, S := Srecord_CloneMsgx3, to := torecord_CloneMsgx3, ot := otrecord_CloneMsgx3, oh := ohrecord_CloneMsgx3, hk := [2, 2, 4], tk := [0, 2, 3, 0, 2, 0, 0, 2, 2], ot_to := fun _ _ => rfl, oh_to := fun _ _ => rfl }
def Frecord_CloneMsg (N : Nat) (m : GMsg) : Option (Int × GAddr × GAddr × GBallot × Int × Nat × GEntry × Int × (Vector (Int) 8) × Int × Int × (List (GOp)) × GEpoch × GPart × (List (GSlotted))) :=
 ((Fslices_Clone_Slotted_560 N m.List_).bind fun r1 =>
 (iter N (fun (s2 : Srecord_CloneMsgx3) next3 =>
 (bif (decide (s2.t11 < ((r1.1 : Nat) : Int))) then
 (bif (ibB s2.t11 ((r1.1 : Nat) : Int)) then
 (bif (decide ((s2.t11).toNat < (s2.g2).length)) then
 ((Frecord_CloneEntry N (⟨((s2.g2.getD ((s2.t11).toNat) default).Entry).Kind, ((s2.g2.getD ((s2.t11).toNat) default).Entry).Session, ((s2.g2.getD ((s2.t11).toNat) default).Entry).Request, (⟨((((s2.g2.getD ((s2.t11).toNat) default).Entry).Op).Stamp), (((s2.g2.getD ((s2.t11).toNat) default).Entry).Op).Kind, (((s2.g2.getD ((s2.t11).toNat) default).Entry).Op).Node, (((s2.g2.getD ((s2.t11).toNat) default).Entry).Op).Parent, (((s2.g2.getD ((s2.t11).toNat) default).Entry).Op).Name, (((s2.g2.getD ((s2.t11).toNat) default).Entry).Op).Key, (((s2.g2.getD ((s2.t11).toNat) default).Entry).Op).Value⟩ : GOp), ((s2.g2.getD ((s2.t11).toNat) default).Entry).Origin, ((s2.g2.getD ((s2.t11).toNat) default).Entry).Seq, ((s2.g2.getD ((s2.t11).toNat) default).Entry).Ops, (((s2.g2.getD ((s2.t11).toNat) default).Entry).Epoch), ((s2.g2.getD ((s2.t11).toNat) default).Entry).From, ((s2.g2.getD ((s2.t11).toNat) default).Entry).Vector_, ((s2.g2.getD ((s2.t11).toNat) default).Entry).Clock, (((s2.g2.getD ((s2.t11).toNat) default).Entry).Part), ((s2.g2.getD ((s2.t11).toNat) default).Entry).Site, ((s2.g2.getD ((s2.t11).toNat) default).Entry).Sponsor, ((s2.g2.getD ((s2.t11).toNat) default).Entry).Length⟩ : GEntry)).bind fun r4 =>
 (bif (ibB s2.t11 ((r1.1 : Nat) : Int)) then
 (bif (decide ((s2.t11).toNat < (s2.g2).length)) then
 (next3 ⟨(IntKind.i64.wrap (s2.t11 + 1)), (s2.g2.set ((s2.t11).toNat) (⟨(s2.g2.getD ((s2.t11).toNat) default).Slot, ((s2.g2.getD ((s2.t11).toNat) default).Ballot), r4⟩ : GSlotted))⟩)
 else none)
 else none))
 else none)
 else none)
 else
 ((Frecord_CloneEntry N m.Entry).bind fun r5 =>
 ((Fslices_Clone_Op N m.Ops).bind fun r6 =>
 ((Fslices_Clone_byte N m.Part.Data).bind fun r7 =>
 (some (m.Kind, m.From, m.To, m.Ballot, m.Slot, r1.1, r5, m.Number, m.Vector_, m.Clock, m.Origin, r6, m.Epoch, (⟨m.Part.Snap, m.Part.Index, m.Part.Many, r7⟩ : GPart), s2.g2))))))) ⟨0, r1.2⟩))
def conrecord_CloneMsg : Con τ := { args := [.ty 50], L := [], ret := .agg [.ty 3, .ty 45, .ty 45, .ty 47, .ty 2, .msl 80 0, .ty 36, .ty 2, .ty 29, .ty 2, .ty 3, .ty 26, .ty 31, .ty 34], L' := [.gbx 80], R := Int × GAddr × GAddr × GBallot × Int × Nat × GEntry × Int × (Vector (Int) 8) × Int × Int × (List (GOp)) × GEpoch × GPart × (List (GSlotted)), dflt := (default, default, default, default, default, default, default, default, default, default, default, default, default, default, default), F := fun N a b => Frecord_CloneMsg N a.1, of := fun r => ((r.1, r.2.1, r.2.2.1, r.2.2.2.1, r.2.2.2.2.1, r.2.2.2.2.2.1, r.2.2.2.2.2.2.1, r.2.2.2.2.2.2.2.1, r.2.2.2.2.2.2.2.2.1, r.2.2.2.2.2.2.2.2.2.1, r.2.2.2.2.2.2.2.2.2.2.1, r.2.2.2.2.2.2.2.2.2.2.2.1, r.2.2.2.2.2.2.2.2.2.2.2.2.1, r.2.2.2.2.2.2.2.2.2.2.2.2.2.1, ()), (r.2.2.2.2.2.2.2.2.2.2.2.2.2.2, ())) }
noncomputable def datrecord_CloneMsg : Dat τ := { D := D0, tbl := tblOf [(59, conslices_Clone_Slotted_560), (17, conrecord_CloneEntry), (57, conslices_Clone_Op), (58, conslices_Clone_byte)], lp := lpsOf [(3, lprecord_CloneMsgx3)], k0 := 0, mu := [], un := [] }
theorem okrecord_CloneMsg : ConOk E C 18 conrecord_CloneMsg :=
  con_ok (D := datrecord_CloneMsg) ⟨d0Ok, eGood, tblOf_ok (l := [(59, conslices_Clone_Slotted_560), (17, conrecord_CloneEntry), (57, conslices_Clone_Op), (58, conslices_Clone_byte)]) ⟨okslices_Clone_Slotted_560, ⟨okrecord_CloneEntry, ⟨okslices_Clone_Op, ⟨okslices_Clone_byte, trivial⟩⟩⟩⟩⟩ conrecord_CloneMsg (fun a b => (a.1, a.2.1, a.2.2.1, a.2.2.2.1, a.2.2.2.2.1, a.2.2.2.2.2.1, a.2.2.2.2.2.2.1, a.2.2.2.2.2.2.2.1, a.2.2.2.2.2.2.2.2.1, a.2.2.2.2.2.2.2.2.2.1, a.2.2.2.2.2.2.2.2.2.2.1, a.2.2.2.2.2.2.2.2.2.2.2.1, a.2.2.2.2.2.2.2.2.2.2.2.2.1, a.2.2.2.2.2.2.2.2.2.2.2.2.2.1, b.1)) none (fun _ _ => rfl) rfl (fun _ _ h => nomatch h) 1000000 (fn := Try.f18) Try.func18 rfl (by kernel_rfl) (by kernel_rfl) rfl (by intro N a b; kernel_rfl)
def Frecord_CloneMsgz (N : Nat) (m : GMsg) : Option (GMsg) := (Frecord_CloneMsg N m).bind fun r => bif Nat.ble r.2.2.2.2.2.1 (r.2.2.2.2.2.2.2.2.2.2.2.2.2.2).length then some (⟨r.1, r.2.1, r.2.2.1, r.2.2.2.1, r.2.2.2.2.1, (r.2.2.2.2.2.2.2.2.2.2.2.2.2.2.take r.2.2.2.2.2.1), r.2.2.2.2.2.2.1, r.2.2.2.2.2.2.2.1, r.2.2.2.2.2.2.2.2.1, r.2.2.2.2.2.2.2.2.2.1, r.2.2.2.2.2.2.2.2.2.2.1, r.2.2.2.2.2.2.2.2.2.2.2.1, r.2.2.2.2.2.2.2.2.2.2.2.2.1, r.2.2.2.2.2.2.2.2.2.2.2.2.2.1⟩ : GMsg) else none
def conrecord_CloneMsgz : Con τ := { args := [.ty 50], L := [], ret := .ty 50, L' := [.dead], R := GMsg, dflt := default, F := fun N a b => Frecord_CloneMsgz N a.1, of := fun r => (r, ((), ())) }
theorem okrecord_CloneMsgz : ConOk E C 18 conrecord_CloneMsgz := by
  intro N a b r h
  have h : (conrecord_CloneMsg.F N a b).bind (fun r => bif Nat.ble r.2.2.2.2.2.1 (r.2.2.2.2.2.2.2.2.2.2.2.2.2.2).length then some (⟨r.1, r.2.1, r.2.2.1, r.2.2.2.1, r.2.2.2.2.1, (r.2.2.2.2.2.2.2.2.2.2.2.2.2.2.take r.2.2.2.2.2.1), r.2.2.2.2.2.2.1, r.2.2.2.2.2.2.2.1, r.2.2.2.2.2.2.2.2.1, r.2.2.2.2.2.2.2.2.2.1, r.2.2.2.2.2.2.2.2.2.2.1, r.2.2.2.2.2.2.2.2.2.2.2.1, r.2.2.2.2.2.2.2.2.2.2.2.2.1, r.2.2.2.2.2.2.2.2.2.2.2.2.2.1⟩ : GMsg) else none) = some r := h
  obtain ⟨q, h0, h1⟩ := Option.bind_eq_some_iff.1 h
  cases hb : Nat.ble q.2.2.2.2.2.1 (q.2.2.2.2.2.2.2.2.2.2.2.2.2.2).length with
  | false => rw [hb] at h1; cases h1
  | true =>
    rw [hb] at h1
    have h2 : (⟨q.1, q.2.1, q.2.2.1, q.2.2.2.1, q.2.2.2.2.1, (q.2.2.2.2.2.2.2.2.2.2.2.2.2.2.take q.2.2.2.2.2.1), q.2.2.2.2.2.2.1, q.2.2.2.2.2.2.2.1, q.2.2.2.2.2.2.2.2.1, q.2.2.2.2.2.2.2.2.2.1, q.2.2.2.2.2.2.2.2.2.2.1, q.2.2.2.2.2.2.2.2.2.2.2.1, q.2.2.2.2.2.2.2.2.2.2.2.2.1, q.2.2.2.2.2.2.2.2.2.2.2.2.2.1⟩ : GMsg) = r := Option.some.inj h1
    subst h2
    exact FnSpec.mslA (ents := [.gbx 80 q.2.2.2.2.2.2.2.2.2.2.2.2.2.2]) (id := 0) (p := 8) cOk (okrecord_CloneMsg N a b q h0) rfl rfl (Nat.le_of_ble_eq_true hb)
def Flaw04_RecordSames (N : Nat) (a : GEntry) (b : GEntry) (m : GMsg) (n : GMsg) : Option (Bool) :=
 ((Flaw04_begun N).bind fun r1 =>
 ((bif r1 then Frecord_SameEntry N a b else some default).bind fun r2 =>
 ((bif r1 then Fref04_SameEntry N a b else some default).bind fun r3 =>
 ((bif (r1 && (r2 == r3)) then Frecord_SameMsg N m n else some default).bind fun r4 =>
 ((bif (r1 && (r2 == r3)) then Fref04_SameMsg N m n else some default).bind fun r5 =>
 ((bif ((r1 && (r2 == r3)) && (r4 == r5)) then Frecord_SameEntry N a a else some default).bind fun r6 =>
 ((bif (((r1 && (r2 == r3)) && (r4 == r5)) && r6) then Frecord_SameMsg N m m else some default).bind fun r7 =>
 ((bif ((((r1 && (r2 == r3)) && (r4 == r5)) && r6) && r7) then Frecord_CloneEntry N a else some default).bind fun r8 =>
 ((bif ((((r1 && (r2 == r3)) && (r4 == r5)) && r6) && r7) then Fref04_SameEntry N r8 a else some default).bind fun r9 =>
 (bif (((((r1 && (r2 == r3)) && (r4 == r5)) && r6) && r7) && r9) then
 ((Frecord_CloneMsgz N m).bind fun r10 =>
 ((bif (((((r1 && (r2 == r3)) && (r4 == r5)) && r6) && r7) && r9) then Fref04_SameMsg N r10 m else some default).bind fun r11 =>
 (some ((((((r1 && (r2 == r3)) && (r4 == r5)) && r6) && r7) && r9) && r11))))
 else
 (some false)))))))))))
def conlaw04_RecordSames : Con τ := { args := [.ty 36, .ty 36, .ty 50, .ty 50], L := [], ret := .ty 4, L' := [], R := Bool, dflt := default, F := fun N a b => Flaw04_RecordSames N a.1 a.2.1 a.2.2.1 a.2.2.2.1, of := fun r => (r, ()) }
noncomputable def datlaw04_RecordSames : Dat τ := { D := D0, tbl := tblOf [(9, conlaw04_begun), (14, conrecord_SameEntry), (12, conref04_SameEntry), (15, conrecord_SameMsg), (16, conref04_SameMsg), (17, conrecord_CloneEntry), (18, conrecord_CloneMsgz)], lp := lpsOf [], k0 := 0, mu := [], un := [] }
theorem oklaw04_RecordSames : ConOk E C 4 conlaw04_RecordSames :=
  con_ok (D := datlaw04_RecordSames) ⟨d0Ok, eGood, tblOf_ok (l := [(9, conlaw04_begun), (14, conrecord_SameEntry), (12, conref04_SameEntry), (15, conrecord_SameMsg), (16, conref04_SameMsg), (17, conrecord_CloneEntry), (18, conrecord_CloneMsgz)]) ⟨oklaw04_begun, ⟨okrecord_SameEntry, ⟨okref04_SameEntry, ⟨okrecord_SameMsg, ⟨okref04_SameMsg, ⟨okrecord_CloneEntry, ⟨okrecord_CloneMsgz, trivial⟩⟩⟩⟩⟩⟩⟩⟩ conlaw04_RecordSames (fun a b => a) none (fun _ _ => rfl) rfl (fun _ _ h => nomatch h) 1000000 (fn := Try.f4) Try.func4 rfl (by kernel_rfl) (by kernel_rfl) rfl (by intro N a b; kernel_rfl)
end Go.Proofs.Yteinehkdjkobnaa
