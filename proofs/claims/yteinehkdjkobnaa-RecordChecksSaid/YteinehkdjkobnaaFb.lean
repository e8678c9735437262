/-
The functions of this seat, as plain functions over typed data, each with its contract. Printed by wip/tools/fngen.py.
-/
import Derived.Test.YteinehkdjkobnaaFba
import Derived.Test.YteinehkdjkobnaaTvV
import Derived.KernelRfl
set_option linter.unusedVariables false
set_option maxRecDepth 100000
namespace Go.Proofs.Yteinehkdjkobnaa
open Go Go.Ev

/-- (*orchard/record.reader).bytes -/
def Frecord_reader_bytes_407 (N : Nat) (b0 : Int) (b1 : Gwire_Writer) : Option ((List (Int)) × Int × Gwire_Writer) :=
 (bif (!(b0 == 0)) then
 (some ([], b0, b1))
 else
 ((Fwire_Reader_Bytes_d95 N b1).bind fun r1 =>
 ((Frecord_reader_keep_bdf N r1.2.1 b0 r1.2.2).bind fun r2 =>
 (some (r1.1, r2.1, r2.2)))))
def conrecord_reader_bytes_407 : Con τ := { args := [.ptr 0 []], L := [.box (.agg [.ptr 1 [], .ty 38]), .box (.ty 72)], ret := .ty 32, L' := [.box (.agg [.ptr 1 [], .ty 38]), .box (.ty 72)], R := (List (Int)) × Int × Gwire_Writer, dflt := (default, default, default), F := fun N a b => Frecord_reader_bytes_407 N b.1.2.1 b.2.1, of := fun r => (r.1, (((), r.2.1, ()), r.2.2, ())) }
noncomputable def datrecord_reader_bytes_407 : Dat τ := { D := D0, tbl := tblOf [(146, conwire_Reader_Bytes_d95), (93, conrecord_reader_keep_bdf)], lp := lpsOf [], k0 := 2, mu := [], un := [] }
theorem okrecord_reader_bytes_407 : ConOk E C 144 conrecord_reader_bytes_407 :=
  con_ok (D := datrecord_reader_bytes_407) ⟨d0Ok, eGood, tblOf_ok (l := [(146, conwire_Reader_Bytes_d95), (93, conrecord_reader_keep_bdf)]) ⟨okwire_Reader_Bytes_d95, ⟨okrecord_reader_keep_bdf, trivial⟩⟩⟩ conrecord_reader_bytes_407 (fun a b => (a, b.1.2.1, b.2.1)) none (fun _ _ => rfl) rfl (fun _ _ h => nomatch h) 1000000 (fn := Try.f144) Try.func144 rfl (by kernel_rfl) (by kernel_rfl) rfl (by intro N a b; kernel_rfl)

/-- (*orchard/record.reader).part -/
def Frecord_reader_part_407 (N : Nat) (b0 : Int) (b1 : Gwire_Writer) : Option (GPart × Int × Gwire_Writer) :=
 ((Frecord_reader_ints_e53 N b0 (⟨0, 0, 0, []⟩ : GPart) b1).bind fun r1 =>
 ((Frecord_reader_smalls_2de N r1.1 r1.2.1 r1.2.2).bind fun r2 =>
 ((Frecord_reader_bytes_407 N r2.1 r2.2.2).bind fun r3 =>
 (some ((⟨r2.2.1.Snap, r2.2.1.Index, r2.2.1.Many, r3.1⟩ : GPart), r3.2.1, r3.2.2)))))
def conrecord_reader_part_407 : Con τ := { args := [.ptr 0 []], L := [.box (.agg [.ptr 1 [], .ty 38]), .box (.ty 72)], ret := .ty 34, L' := [.box (.agg [.ptr 1 [], .ty 38]), .box (.ty 72)], R := GPart × Int × Gwire_Writer, dflt := (default, default, default), F := fun N a b => Frecord_reader_part_407 N b.1.2.1 b.2.1, of := fun r => (r.1, (((), r.2.1, ()), r.2.2, ())) }
noncomputable def datrecord_reader_part_407 : Dat τ := { D := D0, tbl := tblOf [(117, conrecord_reader_ints_e53), (118, conrecord_reader_smalls_2de), (144, conrecord_reader_bytes_407)], lp := lpsOf [], k0 := 2, mu := [], un := [] }
theorem okrecord_reader_part_407 : ConOk E C 133 conrecord_reader_part_407 :=
  con_ok (D := datrecord_reader_part_407) ⟨d0Ok, eGood, tblOf_ok (l := [(117, conrecord_reader_ints_e53), (118, conrecord_reader_smalls_2de), (144, conrecord_reader_bytes_407)]) ⟨okrecord_reader_ints_e53, ⟨okrecord_reader_smalls_2de, ⟨okrecord_reader_bytes_407, trivial⟩⟩⟩⟩ conrecord_reader_part_407 (fun a b => (a, b.1.2.1, b.2.1)) none (fun _ _ => rfl) rfl (fun _ _ h => nomatch h) 1000000 (fn := Try.f133) Try.func133 rfl (by kernel_rfl) (by kernel_rfl) rfl (by intro N a b; kernel_rfl)

/-- (*orchard/record.reader).smalls -/
def Frecord_reader_smalls_92e (N : Nat) (b0 : Int) (b1 : GEntry) (b2 : Gwire_Writer) : Option (Int × GEntry × Gwire_Writer) :=
 ((Frecord_reader_small_407 N b0 b2).bind fun r1 =>
 ((Frecord_reader_small_407 N r1.2.1 r1.2.2).bind fun r2 =>
 (some (r2.2.1, (⟨b1.Kind, b1.Session, b1.Request, b1.Op, b1.Origin, b1.Seq, b1.Ops, b1.Epoch, b1.From, b1.Vector_, b1.Clock, b1.Part, r1.1, r2.1, b1.Length⟩ : GEntry), r2.2.2))))
def conrecord_reader_smalls_92e : Con τ := { args := [.ptr 0 [], .ls 1 [.ptr 1 [.fld 12 53], .ptr 1 [.fld 13 54]]], L := [.box (.agg [.ptr 2 [], .ty 38]), .box (.ty 36), .box (.ty 72)], ret := .tup [], L' := [.box (.agg [.ptr 2 [], .ty 38]), .box (.ty 36), .box (.ty 72)], R := Int × GEntry × Gwire_Writer, dflt := (default, default, default), F := fun N a b => Frecord_reader_smalls_92e N b.1.2.1 b.2.1 b.2.2.1, of := fun r => ((), (((), r.1, ()), r.2.1, r.2.2, ())) }
noncomputable def datrecord_reader_smalls_92e : Dat τ := { D := D0, tbl := tblOf [(120, conrecord_reader_small_407)], lp := lpsOf [], k0 := 3, mu := [], un := [(1, 4)] }
theorem okrecord_reader_smalls_92e : ConOk E C 118 conrecord_reader_smalls_92e :=
  con_ok (D := datrecord_reader_smalls_92e) ⟨d0Ok, eGood, tblOf_ok (l := [(120, conrecord_reader_small_407)]) ⟨okrecord_reader_small_407, trivial⟩⟩ conrecord_reader_smalls_92e (fun a b => (b.1.2.1, b.2.1, b.2.2.1)) none (fun _ _ => rfl) rfl (fun _ _ h => nomatch h) 1000000 (fn := Try.f118) Try.func118 rfl (by kernel_rfl) (by kernel_rfl) rfl (by intro N a b; kernel_rfl)

/-- (*orchard/record.reader).smalls -/
def Frecord_reader_smalls_077 (N : Nat) (b0 : Int) (b1 : GEntry) (b2 : Gwire_Writer) : Option (Int × GEntry × Gwire_Writer) :=
 ((Frecord_reader_small_407 N b0 b2).bind fun r1 =>
 (some (r1.2.1, (⟨b1.Kind, b1.Session, b1.Request, b1.Op, b1.Origin, b1.Seq, b1.Ops, b1.Epoch, b1.From, b1.Vector_, b1.Clock, b1.Part, r1.1, b1.Sponsor, b1.Length⟩ : GEntry), r1.2.2)))
def conrecord_reader_smalls_077 : Con τ := { args := [.ptr 0 [], .ls 1 [.ptr 1 [.fld 12 53]]], L := [.box (.agg [.ptr 2 [], .ty 38]), .box (.ty 36), .box (.ty 72)], ret := .tup [], L' := [.box (.agg [.ptr 2 [], .ty 38]), .box (.ty 36), .box (.ty 72)], R := Int × GEntry × Gwire_Writer, dflt := (default, default, default), F := fun N a b => Frecord_reader_smalls_077 N b.1.2.1 b.2.1 b.2.2.1, of := fun r => ((), (((), r.1, ()), r.2.1, r.2.2, ())) }
noncomputable def datrecord_reader_smalls_077 : Dat τ := { D := D0, tbl := tblOf [(120, conrecord_reader_small_407)], lp := lpsOf [], k0 := 3, mu := [], un := [(1, 3)] }
theorem okrecord_reader_smalls_077 : ConOk E C 118 conrecord_reader_smalls_077 :=
  con_ok (D := datrecord_reader_smalls_077) ⟨d0Ok, eGood, tblOf_ok (l := [(120, conrecord_reader_small_407)]) ⟨okrecord_reader_small_407, trivial⟩⟩ conrecord_reader_smalls_077 (fun a b => (b.1.2.1, b.2.1, b.2.2.1)) none (fun _ _ => rfl) rfl (fun _ _ h => nomatch h) 1000000 (fn := Try.f118) Try.func118 rfl (by kernel_rfl) (by kernel_rfl) rfl (by intro N a b; kernel_rfl)

/-- (*orchard/record.reader).ints -/
def Frecord_reader_ints_f35 (N : Nat) (b0 : Int) (b1 : GEntry) (b2 : Gwire_Writer) : Option (Int × GEntry × Gwire_Writer) :=
 ((Frecord_reader_int_407 N b0 b2).bind fun r1 =>
 (some (r1.2.1, (⟨b1.Kind, b1.Session, b1.Request, b1.Op, b1.Origin, b1.Seq, b1.Ops, b1.Epoch, b1.From, b1.Vector_, b1.Clock, b1.Part, b1.Site, b1.Sponsor, r1.1⟩ : GEntry), r1.2.2)))
def conrecord_reader_ints_f35 : Con τ := { args := [.ptr 0 [], .ls 1 [.ptr 1 [.fld 14 55]]], L := [.box (.agg [.ptr 2 [], .ty 38]), .box (.ty 36), .box (.ty 72)], ret := .tup [], L' := [.box (.agg [.ptr 2 [], .ty 38]), .box (.ty 36), .box (.ty 72)], R := Int × GEntry × Gwire_Writer, dflt := (default, default, default), F := fun N a b => Frecord_reader_ints_f35 N b.1.2.1 b.2.1 b.2.2.1, of := fun r => ((), (((), r.1, ()), r.2.1, r.2.2, ())) }
noncomputable def datrecord_reader_ints_f35 : Dat τ := { D := D0, tbl := tblOf [(138, conrecord_reader_int_407)], lp := lpsOf [], k0 := 3, mu := [], un := [(1, 3)] }
theorem okrecord_reader_ints_f35 : ConOk E C 117 conrecord_reader_ints_f35 :=
  con_ok (D := datrecord_reader_ints_f35) ⟨d0Ok, eGood, tblOf_ok (l := [(138, conrecord_reader_int_407)]) ⟨okrecord_reader_int_407, trivial⟩⟩ conrecord_reader_ints_f35 (fun a b => (b.1.2.1, b.2.1, b.2.2.1)) none (fun _ _ => rfl) rfl (fun _ _ h => nomatch h) 1000000 (fn := Try.f117) Try.func117 rfl (by kernel_rfl) (by kernel_rfl) rfl (by intro N a b; kernel_rfl)

/-- (*orchard/record.reader).entry -/
def Frecord_reader_entry_407 (N : Nat) (b0 : Int) (b1 : Gwire_Writer) : Option (GEntry × Int × Gwire_Writer) :=
 ((Frecord_reader_smalls_c10 N b0 (⟨0, 0, 0, (⟨(⟨0, 0⟩ : GStamp), 0, 0, 0, [], [], []⟩ : GOp), 0, 0, [], (⟨0, (Vector.replicate 8 (default : Int)), (Vector.replicate 8 (default : Int)), (Vector.replicate 8 (default : Int))⟩ : GEpoch), 0, (Vector.replicate 8 (default : Int)), 0, (⟨0, 0, 0, []⟩ : GPart), 0, 0, 0⟩ : GEntry) b1).bind fun r1 =>
 (bif (!(r1.1 == 0)) then
 (some (r1.2.1, r1.1, r1.2.2))
 else
 (bif (r1.2.1.Kind == 0) then
 (some (r1.2.1, r1.1, r1.2.2))
 else
 (bif (r1.2.1.Kind == 1) then
 ((Frecord_reader_ints_97b N r1.1 r1.2.1 r1.2.2).bind fun r2 =>
 ((Frecord_reader_op_407 N r2.1 r2.2.2).bind fun r3 =>
 (some ((⟨r2.2.1.Kind, r2.2.1.Session, r2.2.1.Request, r3.1, r2.2.1.Origin, r2.2.1.Seq, r2.2.1.Ops, r2.2.1.Epoch, r2.2.1.From, r2.2.1.Vector_, r2.2.1.Clock, r2.2.1.Part, r2.2.1.Site, r2.2.1.Sponsor, r2.2.1.Length⟩ : GEntry), r3.2.1, r3.2.2))))
 else
 (bif (r1.2.1.Kind == 2) then
 ((Frecord_reader_smalls_258 N r1.1 r1.2.1 r1.2.2).bind fun r4 =>
 ((Frecord_reader_ints_705 N r4.1 r4.2.1 r4.2.2).bind fun r5 =>
 ((Frecord_reader_ops_407 N r5.1 r5.2.2).bind fun r6 =>
 (some ((⟨r5.2.1.Kind, r5.2.1.Session, r5.2.1.Request, r5.2.1.Op, r5.2.1.Origin, r5.2.1.Seq, r6.1, r5.2.1.Epoch, r5.2.1.From, r5.2.1.Vector_, r5.2.1.Clock, r5.2.1.Part, r5.2.1.Site, r5.2.1.Sponsor, r5.2.1.Length⟩ : GEntry), r6.2.1, r6.2.2)))))
 else
 (bif (r1.2.1.Kind == 3) then
 ((Frecord_reader_epoch_407 N r1.1 r1.2.2).bind fun r7 =>
 (some ((⟨r1.2.1.Kind, r1.2.1.Session, r1.2.1.Request, r1.2.1.Op, r1.2.1.Origin, r1.2.1.Seq, r1.2.1.Ops, r7.1, r1.2.1.From, r1.2.1.Vector_, r1.2.1.Clock, r1.2.1.Part, r1.2.1.Site, r1.2.1.Sponsor, r1.2.1.Length⟩ : GEntry), r7.2.1, r7.2.2)))
 else
 (bif (r1.2.1.Kind == 4) then
 ((Frecord_reader_ints_705 N r1.1 r1.2.1 r1.2.2).bind fun r8 =>
 ((Frecord_reader_smalls_dcf N r8.1 r8.2.1 r8.2.2).bind fun r9 =>
 ((Frecord_reader_vector_a4a N r9.1 r9.2.1 r9.2.2).bind fun r10 =>
 ((Frecord_reader_ints_5e2 N r10.1 r10.2.1 r10.2.2).bind fun r11 =>
 (some (r11.2.1, r11.1, r11.2.2))))))
 else
 (bif (r1.2.1.Kind == 5) then
 ((Frecord_reader_part_407 N r1.1 r1.2.2).bind fun r12 =>
 (some ((⟨r1.2.1.Kind, r1.2.1.Session, r1.2.1.Request, r1.2.1.Op, r1.2.1.Origin, r1.2.1.Seq, r1.2.1.Ops, r1.2.1.Epoch, r1.2.1.From, r1.2.1.Vector_, r1.2.1.Clock, r12.1, r1.2.1.Site, r1.2.1.Sponsor, r1.2.1.Length⟩ : GEntry), r12.2.1, r12.2.2)))
 else
 (bif (r1.2.1.Kind == 6) then
 ((Frecord_reader_smalls_92e N r1.1 r1.2.1 r1.2.2).bind fun r13 =>
 (some (r13.2.1, r13.1, r13.2.2)))
 else
 (bif (r1.2.1.Kind == 7) then
 ((Frecord_reader_smalls_077 N r1.1 r1.2.1 r1.2.2).bind fun r14 =>
 (some (r14.2.1, r14.1, r14.2.2)))
 else
 (bif (r1.2.1.Kind == 8) then
 ((Frecord_reader_smalls_077 N r1.1 r1.2.1 r1.2.2).bind fun r15 =>
 ((Frecord_reader_ints_f35 N r15.1 r15.2.1 r15.2.2).bind fun r16 =>
 (some (r16.2.1, r16.1, r16.2.2))))
 else
 (some (r1.2.1, 40, r1.2.2)))))))))))))
def conrecord_reader_entry_407 : Con τ := { args := [.ptr 0 []], L := [.box (.agg [.ptr 1 [], .ty 38]), .box (.ty 72)], ret := .ty 36, L' := [.box (.agg [.ptr 1 [], .ty 38]), .box (.ty 72)], R := GEntry × Int × Gwire_Writer, dflt := (default, default, default), F := fun N a b => Frecord_reader_entry_407 N b.1.2.1 b.2.1, of := fun r => (r.1, (((), r.2.1, ()), r.2.2, ())) }
noncomputable def datrecord_reader_entry_407 : Dat τ := { D := D0, tbl := tblOf [(118, conrecord_reader_smalls_c10), (117, conrecord_reader_ints_97b), (85, conrecord_reader_op_407), (118, conrecord_reader_smalls_258), (117, conrecord_reader_ints_705), (132, conrecord_reader_ops_407), (87, conrecord_reader_epoch_407), (118, conrecord_reader_smalls_dcf), (121, conrecord_reader_vector_a4a), (117, conrecord_reader_ints_5e2), (133, conrecord_reader_part_407), (118, conrecord_reader_smalls_92e), (118, conrecord_reader_smalls_077), (117, conrecord_reader_ints_f35)], lp := lpsOf [], k0 := 2, mu := [], un := [] }
theorem okrecord_reader_entry_407 : ConOk E C 95 conrecord_reader_entry_407 :=
  con_ok (D := datrecord_reader_entry_407) ⟨d0Ok, eGood, tblOf_ok (l := [(118, conrecord_reader_smalls_c10), (117, conrecord_reader_ints_97b), (85, conrecord_reader_op_407), (118, conrecord_reader_smalls_258), (117, conrecord_reader_ints_705), (132, conrecord_reader_ops_407), (87, conrecord_reader_epoch_407), (118, conrecord_reader_smalls_dcf), (121, conrecord_reader_vector_a4a), (117, conrecord_reader_ints_5e2), (133, conrecord_reader_part_407), (118, conrecord_reader_smalls_92e), (118, conrecord_reader_smalls_077), (117, conrecord_reader_ints_f35)]) ⟨okrecord_reader_smalls_c10, ⟨okrecord_reader_ints_97b, ⟨okrecord_reader_op_407, ⟨okrecord_reader_smalls_258, ⟨okrecord_reader_ints_705, ⟨okrecord_reader_ops_407, ⟨okrecord_reader_epoch_407, ⟨okrecord_reader_smalls_dcf, ⟨okrecord_reader_vector_a4a, ⟨okrecord_reader_ints_5e2, ⟨okrecord_reader_part_407, ⟨okrecord_reader_smalls_92e, ⟨okrecord_reader_smalls_077, ⟨okrecord_reader_ints_f35, trivial⟩⟩⟩⟩⟩⟩⟩⟩⟩⟩⟩⟩⟩⟩⟩ conrecord_reader_entry_407 (fun a b => (a, b.1.2.1, b.2.1)) none (fun _ _ => rfl) rfl (fun _ _ h => nomatch h) 1000000 (fn := Try.f95) Try.func95 rfl (by kernel_rfl) (by kernel_rfl) rfl (by intro N a b; kernel_rfl)

/-- (*orchard/wire.Reader).End -/
def Fwire_Reader_End_d95 (N : Nat) (b0 : Gwire_Writer) : Option (Int × Gwire_Writer) :=
 ((Fwire_Reader_none_d95 N b0).bind fun r1 =>
 (bif r1.1 then
 (some (2, r1.2))
 else
 (bif (decide (0 < ((r1.2.b).length : Int))) then
 (some (13, r1.2))
 else
 (some (0, r1.2)))))
def conwire_Reader_End_d95 : Con τ := { args := [.ptr 0 []], L := [.box (.ty 72)], ret := .ty 38, L' := [.box (.ty 72)], R := Int × Gwire_Writer, dflt := (default, default), F := fun N a b => Fwire_Reader_End_d95 N b.1, of := fun r => (r.1, (r.2, ())) }
noncomputable def datwire_Reader_End_d95 : Dat τ := { D := D0, tbl := tblOf [(131, conwire_Reader_none_d95)], lp := lpsOf [], k0 := 1, mu := [], un := [] }
theorem okwire_Reader_End_d95 : ConOk E C 94 conwire_Reader_End_d95 :=
  con_ok (D := datwire_Reader_End_d95) ⟨d0Ok, eGood, tblOf_ok (l := [(131, conwire_Reader_none_d95)]) ⟨okwire_Reader_none_d95, trivial⟩⟩ conwire_Reader_End_d95 (fun a b => (a, b.1)) none (fun _ _ => rfl) rfl (fun _ _ h => nomatch h) 1000000 (fn := Try.f94) Try.func94 rfl (by kernel_rfl) (by kernel_rfl) rfl (by intro N a b; kernel_rfl)

/-- orchard/record.TakeEntry -/
def Frecord_TakeEntry (N : Nat) (b : List (Int)) : Option (GEntry × Int) :=
 ((Fwire_NewReader N b).bind fun r1 =>
 ((Frecord_reader_entry_407 N 0 r1).bind fun r2 =>
 ((Fwire_Reader_End_d95 N r2.2.2).bind fun r3 =>
 ((Frecord_reader_keep_bdf N r3.1 r2.2.1 r3.2).bind fun r4 =>
 (bif (r4.1 == 0) then
 ((Frecord_CheckEntry N r2.1).bind fun r5 =>
 (bif (!(r5 == 0)) then
 (some ((⟨0, 0, 0, (⟨(⟨0, 0⟩ : GStamp), 0, 0, 0, [], [], []⟩ : GOp), 0, 0, [], (⟨0, (Vector.replicate 8 (default : Int)), (Vector.replicate 8 (default : Int)), (Vector.replicate 8 (default : Int))⟩ : GEpoch), 0, (Vector.replicate 8 (default : Int)), 0, (⟨0, 0, 0, []⟩ : GPart), 0, 0, 0⟩ : GEntry), r5))
 else
 (some (r2.1, 0))))
 else
 (bif (!(r4.1 == 0)) then
 (some ((⟨0, 0, 0, (⟨(⟨0, 0⟩ : GStamp), 0, 0, 0, [], [], []⟩ : GOp), 0, 0, [], (⟨0, (Vector.replicate 8 (default : Int)), (Vector.replicate 8 (default : Int)), (Vector.replicate 8 (default : Int))⟩ : GEpoch), 0, (Vector.replicate 8 (default : Int)), 0, (⟨0, 0, 0, []⟩ : GPart), 0, 0, 0⟩ : GEntry), r4.1))
 else
 (some (r2.1, 0))))))))
def conrecord_TakeEntry : Con τ := { args := [.ty 32], L := [], ret := .tup [.ty 36, .ty 38], L' := [], R := GEntry × Int, dflt := (default, default), F := fun N a b => Frecord_TakeEntry N a.1, of := fun r => ((r.1, r.2, ()), ()) }
noncomputable def datrecord_TakeEntry : Dat τ := { D := D0, tbl := tblOf [(91, conwire_NewReader), (95, conrecord_reader_entry_407), (94, conwire_Reader_End_d95), (93, conrecord_reader_keep_bdf), (28, conrecord_CheckEntry)], lp := lpsOf [], k0 := 0, mu := [], un := [] }
theorem okrecord_TakeEntry : ConOk E C 39 conrecord_TakeEntry :=
  con_ok (D := datrecord_TakeEntry) ⟨d0Ok, eGood, tblOf_ok (l := [(91, conwire_NewReader), (95, conrecord_reader_entry_407), (94, conwire_Reader_End_d95), (93, conrecord_reader_keep_bdf), (28, conrecord_CheckEntry)]) ⟨okwire_NewReader, ⟨okrecord_reader_entry_407, ⟨okwire_Reader_End_d95, ⟨okrecord_reader_keep_bdf, ⟨okrecord_CheckEntry, trivial⟩⟩⟩⟩⟩⟩ conrecord_TakeEntry (fun a b => (a.1, a.2.1)) none (fun _ _ => rfl) rfl (fun _ _ h => nomatch h) 1000000 (fn := Try.f39) Try.func39 rfl (by kernel_rfl) (by kernel_rfl) rfl (by intro N a b; kernel_rfl)

/-- bytes.Equal -/
def Fbytes_Equal (N : Nat) (a : List (Int)) (b : List (Int)) : Option (Bool) :=
 (some ((strI a) == (strI b)))
def conbytes_Equal : Con τ := { args := [.ty 32, .ty 32], L := [], ret := .ty 4, L' := [], R := Bool, dflt := default, F := fun N a b => Fbytes_Equal N a.1 a.2.1, of := fun r => (r, ()) }
noncomputable def datbytes_Equal : Dat τ := { D := D0, tbl := tblOf [], lp := lpsOf [], k0 := 0, mu := [], un := [] }
theorem okbytes_Equal : ConOk E C 13 conbytes_Equal :=
  con_ok (D := datbytes_Equal) ⟨d0Ok, eGood, tblOf_ok (l := []) trivial⟩ conbytes_Equal (fun a b => a) none (fun _ _ => rfl) rfl (fun _ _ h => nomatch h) 1000000 (fn := Try.f13) Try.func13 rfl (by kernel_rfl) (by kernel_rfl) rfl (by intro N a b; kernel_rfl)

/-- orchard/orchardlaw04.begun -/
def Flaw04_begun (N : Nat)  : Option (Bool) :=
 ((Frecord_Entry N (⟨7, 0, 0, (⟨(⟨0, 0⟩ : GStamp), 0, 0, 0, [], [], []⟩ : GOp), 0, 0, [], (⟨0, (Vector.replicate 8 (default : Int)), (Vector.replicate 8 (default : Int)), (Vector.replicate 8 (default : Int))⟩ : GEpoch), 0, (Vector.replicate 8 (default : Int)), 0, (⟨0, 0, 0, []⟩ : GPart), 3, 0, 0⟩ : GEntry)).bind fun r1 =>
 ((Frecord_TakeEntry N [14, 6]).bind fun r2 =>
 ((Fbytes_Equal N r1.1 [14, 6]).bind fun r3 =>
 (some ((((r3 && (r1.2 == 0)) && (r2.2 == 0)) && (r2.1.Kind == 7)) && (r2.1.Site == 3))))))
def conlaw04_begun : Con τ := { args := [], L := [], ret := .ty 4, L' := [], R := Bool, dflt := default, F := fun N a b => Flaw04_begun N , of := fun r => (r, ()) }
noncomputable def datlaw04_begun : Dat τ := { D := D0, tbl := tblOf [(10, conrecord_Entry), (39, conrecord_TakeEntry), (13, conbytes_Equal)], lp := lpsOf [], k0 := 0, mu := [], un := [] }
theorem oklaw04_begun : ConOk E C 9 conlaw04_begun :=
  con_ok (D := datlaw04_begun) ⟨d0Ok, eGood, tblOf_ok (l := [(10, conrecord_Entry), (39, conrecord_TakeEntry), (13, conbytes_Equal)]) ⟨okrecord_Entry, ⟨okrecord_TakeEntry, ⟨okbytes_Equal, trivial⟩⟩⟩⟩ conlaw04_begun (fun a b => a) none (fun _ _ => rfl) rfl (fun _ _ h => nomatch h) 1000000 (fn := Try.f9) Try.func9 rfl (by kernel_rfl) (by kernel_rfl) rfl (by intro N a b; kernel_rfl)

/-- (*orchard/wire.Writer).Len -/
def Fwire_Writer_Len_052 (N : Nat) (b0 : Bool) (b02 : List (Int)) : Option (Int × Bool × (List (Int))) :=
 ((Fwire_Writer_none_052 N b0 b02).bind fun r1 =>
 (bif r1.1 then
 (some (0, r1.2.1, r1.2.2))
 else
 (some (((r1.2.2).length : Int), r1.2.1, r1.2.2))))
def conwire_Writer_Len_052 : Con τ := { args := [.ptr 0 []], L := [.box (.agg [.ty 4, .own 5 1]), .tail], ret := .ty 3, L' := [.box (.agg [.ty 4, .own 5 1]), .tail], R := Int × Bool × (List (Int)), dflt := (default, default, default), F := fun N a b => Fwire_Writer_Len_052 N b.1.1 b.1.2.1, of := fun r => (r.1, ((r.2.1, r.2.2, ()), (), ())) }
noncomputable def datwire_Writer_Len_052 : Dat τ := { D := D0, tbl := tblOf [(62, conwire_Writer_none_052)], lp := lpsOf [], k0 := 2, mu := [], un := [] }
theorem okwire_Writer_Len_052 : ConOk E C 21 conwire_Writer_Len_052 :=
  con_ok (D := datwire_Writer_Len_052) ⟨d0Ok, eGood, tblOf_ok (l := [(62, conwire_Writer_none_052)]) ⟨okwire_Writer_none_052, trivial⟩⟩ conwire_Writer_Len_052 (fun a b => (a, b.1.1, b.1.2.1)) none (fun _ _ => rfl) rfl (fun _ _ h => nomatch h) 1000000 (fn := Try.f21) Try.func21 rfl (by kernel_rfl) (by kernel_rfl) rfl (by intro N a b; kernel_rfl)

/-- (*orchard/wire.Writer).none -/
def Fwire_Writer_none_384 (N : Nat) (b0 : Bool) (b02 : List (Int)) : Option (Bool × Bool × (List (Int))) :=
 (some ((!b0), b0, b02))
def conwire_Writer_none_384 : Con τ := { args := [.ptr 0 []], L := [.box (.agg [.ty 4, .brw 5 1]), .tail], ret := .ty 4, L' := [.box (.agg [.ty 4, .brw 5 1]), .tail], R := Bool × Bool × (List (Int)), dflt := (default, default, default), F := fun N a b => Fwire_Writer_none_384 N b.1.1 b.1.2.1, of := fun r => (r.1, ((r.2.1, r.2.2, ()), (), ())) }
noncomputable def datwire_Writer_none_384 : Dat τ := { D := D0, tbl := tblOf [], lp := lpsOf [], k0 := 2, mu := [], un := [] }
theorem okwire_Writer_none_384 : ConOk E C 62 conwire_Writer_none_384 :=
  con_ok (D := datwire_Writer_none_384) ⟨d0Ok, eGood, tblOf_ok (l := []) trivial⟩ conwire_Writer_none_384 (fun a b => (a, b.1.1, b.1.2.1)) none (fun _ _ => rfl) rfl (fun _ _ h => nomatch h) 1000000 (fn := Try.f62) Try.func62 rfl (by kernel_rfl) (by kernel_rfl) rfl (by intro N a b; kernel_rfl)

/-- (*orchard/wire.Writer).put -/
def Fwire_Writer_put_521 (N : Nat) (l : List (Int)) (b0 : Bool) (b02 : List (Int)) : Option (Int × Bool) :=
 ((Fwire_Writer_none_384 N b0 b02).bind fun r1 =>
 (bif r1.1 then
 (some (2, r1.2.1))
 else
 (bif (decide ((IntKind.i64.wrap (1048576 - ((r1.2.2).length : Int))) < ((l).length : Int))) then
 (some (3, r1.2.1))
 else
 (bif (lenB ((r1.2.2).length + (l).length) 1) then
 (some (0, r1.2.1))
 else none))))
def conwire_Writer_put_521 : Con τ := { args := [.ptr 0 [], .ls 1 [.own 5 1]], L := [.box (.agg [.ty 4, .brw 5 2]), .tail, .tail], ret := .ty 38, L' := [.box (.agg [.ty 4, .any1]), .tail, .tail], R := Int × Bool, dflt := (default, default), F := fun N a b => Fwire_Writer_put_521 N a.2.1.1 b.1.1 b.1.2.1, of := fun r => (r.1, ((r.2, (), ()), (), (), ())) }
noncomputable def datwire_Writer_put_521 : Dat τ := { D := D0, tbl := tblOf [(62, conwire_Writer_none_384)], lp := lpsOf [], k0 := 3, mu := [], un := [(5, 3), (12, 3)] }
theorem okwire_Writer_put_521 : ConOk E C 60 conwire_Writer_put_521 :=
  con_ok (D := datwire_Writer_put_521) ⟨d0Ok, eGood, tblOf_ok (l := [(62, conwire_Writer_none_384)]) ⟨okwire_Writer_none_384, trivial⟩⟩ conwire_Writer_put_521 (fun a b => (a, b.1.1)) none (fun _ _ => rfl) rfl (fun _ _ h => nomatch h) 1000000 (fn := Try.f60) Try.func60 rfl (by kernel_rfl) (by kernel_rfl) rfl (by intro N a b; kernel_rfl)

/-- (*orchard/wire.Writer).Int -/
def Fwire_Writer_Int_204 (N : Nat) (n : Int) (b0 : Bool) (b02 : List (Int)) : Option (Int × Bool) :=
 ((Fwire_number N n).bind fun r1 =>
 ((Fwire_Writer_put_521 N r1 b0 b02).bind fun r2 =>
 (some (r2.1, r2.2))))
def conwire_Writer_Int_204 : Con τ := { args := [.ptr 0 [], .ty 2], L := [.box (.agg [.ty 4, .brw 5 1]), .tail], ret := .ty 38, L' := [.box (.agg [.ty 4, .any1]), .tail], R := Int × Bool, dflt := (default, default), F := fun N a b => Fwire_Writer_Int_204 N a.2.1 b.1.1 b.1.2.1, of := fun r => (r.1, ((r.2, (), ()), (), ())) }
noncomputable def datwire_Writer_Int_204 : Dat τ := { D := D0, tbl := tblOf [(61, conwire_number), (60, conwire_Writer_put_521)], lp := lpsOf [], k0 := 2, mu := [8], un := [] }
theorem okwire_Writer_Int_204 : ConOk E C 103 conwire_Writer_Int_204 :=
  con_ok (D := datwire_Writer_Int_204) ⟨d0Ok, eGood, tblOf_ok (l := [(61, conwire_number), (60, conwire_Writer_put_521)]) ⟨okwire_number, ⟨okwire_Writer_put_521, trivial⟩⟩⟩ conwire_Writer_Int_204 (fun a b => (a, b.1.1)) none (fun _ _ => rfl) rfl (fun _ _ h => nomatch h) 1000000 (fn := Try.f103) Try.func103 rfl (by kernel_rfl) (by kernel_rfl) rfl (by intro N a b; kernel_rfl)

/-- orchard/record.made -/
def Frecord_made_052 (N : Nat) (b0 : Bool) (b02 : List (Int)) : Option (Int × Bool × (List (Int))) :=
 ((Fwire_Writer_Int_204 N 0 b0 b02).bind fun r1 =>
 (bif (r1.1 == 2) then
 (some (2, b0, b02))
 else
 (some (0, b0, b02))))
def conrecord_made_052 : Con τ := { args := [.ptr 0 []], L := [.box (.agg [.ty 4, .own 5 1]), .tail], ret := .ty 38, L' := [.box (.agg [.ty 4, .own 5 1]), .tail], R := Int × Bool × (List (Int)), dflt := (default, default, default), F := fun N a b => Frecord_made_052 N b.1.1 b.1.2.1, of := fun r => (r.1, ((r.2.1, r.2.2, ()), (), ())) }
noncomputable def datrecord_made_052 : Dat τ := { D := D0, tbl := tblOf [(103, conwire_Writer_Int_204)], lp := lpsOf [], k0 := 2, mu := [], un := [] }
theorem okrecord_made_052 : ConOk E C 63 conrecord_made_052 :=
  con_ok (D := datrecord_made_052) ⟨d0Ok, eGood, tblOf_ok (l := [(103, conwire_Writer_Int_204)]) ⟨okwire_Writer_Int_204, trivial⟩⟩ conrecord_made_052 (fun a b => (a, b.1.1, b.1.2.1)) none (fun _ _ => rfl) rfl (fun _ _ h => nomatch h) 1000000 (fn := Try.f63) Try.func63 rfl (by kernel_rfl) (by kernel_rfl) rfl (by intro N a b; kernel_rfl)

/-- orchard/record.CheckOp -/
def Frecord_CheckOp (N : Nat) (op : GOp) : Option (Int) :=
 ((Frecord_mayOp N op).bind fun r1 =>
 ((Frecord_verdict N r1).bind fun r2 =>
 (some r2)))
def conrecord_CheckOp : Con τ := { args := [.ty 25], L := [], ret := .ty 38, L' := [], R := Int, dflt := default, F := fun N a b => Frecord_CheckOp N a.1, of := fun r => (r, ()) }
noncomputable def datrecord_CheckOp : Dat τ := { D := D0, tbl := tblOf [(71, conrecord_mayOp), (70, conrecord_verdict)], lp := lpsOf [], k0 := 0, mu := [], un := [] }
theorem okrecord_CheckOp : ConOk E C 25 conrecord_CheckOp :=
  con_ok (D := datrecord_CheckOp) ⟨d0Ok, eGood, tblOf_ok (l := [(71, conrecord_mayOp), (70, conrecord_verdict)]) ⟨okrecord_mayOp, ⟨okrecord_verdict, trivial⟩⟩⟩ conrecord_CheckOp (fun a b => a) none (fun _ _ => rfl) rfl (fun _ _ h => nomatch h) 1000000 (fn := Try.f25) Try.func25 rfl (by kernel_rfl) (by kernel_rfl) rfl (by intro N a b; kernel_rfl)

/-- orchard/record.PutOp$1 -/
def Frecord_PutOp_1_64d (N : Nat) (b0 : Int) (b1 : GOp) (b2 : Bool) (b22 : List (Int)) : Option (Int × GOp × Bool × (List (Int))) :=
 ((Frecord_writer_op_e6d N b1 b0 b2 b22).bind fun r1 =>
 (some (r1.1, b1, r1.2.1, r1.2.2)))
def conrecord_PutOp_1_64d : Con τ := { args := [.ptr 0 [], .ptr 1 []], L := [.box (.agg [.ptr 2 [], .ty 38]), .box (.ty 25), .box (.agg [.ty 4, .own 5 3]), .tail], ret := .tup [], L' := [.box (.agg [.ptr 2 [], .ty 38]), .box (.ty 25), .box (.agg [.ty 4, .own 5 4]), .dead, .tail], R := Int × GOp × Bool × (List (Int)), dflt := (default, default, default, default), F := fun N a b => Frecord_PutOp_1_64d N b.1.2.1 b.2.1 b.2.2.1.1 b.2.2.1.2.1, of := fun r => ((), (((), r.1, ()), r.2.1, (r.2.2.1, r.2.2.2, ()), (), (), ())) }
noncomputable def datrecord_PutOp_1_64d : Dat τ := { D := D0, tbl := tblOf [(66, conrecord_writer_op_e6d)], lp := lpsOf [], k0 := 4, mu := [], un := [] }
theorem okrecord_PutOp_1_64d : ConOk E C 65 conrecord_PutOp_1_64d :=
  con_ok (D := datrecord_PutOp_1_64d) ⟨d0Ok, eGood, tblOf_ok (l := [(66, conrecord_writer_op_e6d)]) ⟨okrecord_writer_op_e6d, trivial⟩⟩ conrecord_PutOp_1_64d (fun a b => (b.1.2.1, b.2.1, b.2.2.1.1, b.2.2.1.2.1)) none (fun _ _ => rfl) rfl (fun _ _ h => nomatch h) 1000000 (fn := Try.f65) Try.func65 rfl (by kernel_rfl) (by kernel_rfl) rfl (by intro N a b; kernel_rfl)

/-- orchard/record.whole -/
def Frecord_whole_a34 (N : Nat) (b0 : Bool) (b02 : List (Int)) (b1 : GOp) : Option (Int × Bool × (List (Int)) × GOp) :=
 ((Fwire_NewWriter N).bind fun r1 =>
 ((Frecord_PutOp_1_64d N 0 b1 r1.1 r1.2).bind fun r2 =>
 (bif (!(!(r2.1 == 0))) then
 ((Fwire_Writer_Len_052 N r2.2.2.1 r2.2.2.2).bind fun r3 =>
 (bif (!(!(r2.1 == 0))) then
 ((Fwire_Writer_Len_052 N b0 b02).bind fun r4 =>
 (bif ((!(r2.1 == 0)) || (decide ((IntKind.i64.wrap (1048576 - r4.1)) < r3.1))) then
 (some (3, r4.2.1, r4.2.2, r2.2.1))
 else
 ((Frecord_PutOp_1_64d N 0 r2.2.1 r4.2.1 r4.2.2).bind fun r5 =>
 (some (0, r5.2.2.1, r5.2.2.2, r5.2.1)))))
 else
 (some (3, b0, b02, r2.2.1))))
 else
 (some (3, b0, b02, r2.2.1)))))
def conrecord_whole_a34 : Con τ := { args := [.ptr 0 [], .fn 65 [.ptr 1 []]], L := [.box (.agg [.ty 4, .own 5 2]), .box (.ty 25), .tail], ret := .ty 38, L' := [.box (.agg [.ty 4, .own 5 3]), .box (.ty 25), .dead, .tail], R := Int × Bool × (List (Int)) × GOp, dflt := (default, default, default, default), F := fun N a b => Frecord_whole_a34 N b.1.1 b.1.2.1 b.2.1, of := fun r => (r.1, ((r.2.1, r.2.2.1, ()), r.2.2.2, (), (), ())) }
noncomputable def datrecord_whole_a34 : Dat τ := { D := D0, tbl := tblOf [(19, conwire_NewWriter), (65, conrecord_PutOp_1_64d), (21, conwire_Writer_Len_052)], lp := lpsOf [], k0 := 3, mu := [], un := [] }
theorem okrecord_whole_a34 : ConOk E C 64 conrecord_whole_a34 :=
  con_ok (D := datrecord_whole_a34) ⟨d0Ok, eGood, tblOf_ok (l := [(19, conwire_NewWriter), (65, conrecord_PutOp_1_64d), (21, conwire_Writer_Len_052)]) ⟨okwire_NewWriter, ⟨okrecord_PutOp_1_64d, ⟨okwire_Writer_Len_052, trivial⟩⟩⟩⟩ conrecord_whole_a34 (fun a b => (a, b.1.1, b.1.2.1, b.2.1)) none (fun _ _ => rfl) rfl (fun _ _ h => nomatch h) 1000000 (fn := Try.f64) Try.func64 rfl (by kernel_rfl) (by kernel_rfl) rfl (by intro N a b; kernel_rfl)

/-- orchard/record.PutOp -/
def Frecord_PutOp_66b (N : Nat) (op : GOp) (b0 : Bool) (b02 : List (Int)) : Option (Int × Bool × (List (Int))) :=
 ((Frecord_made_052 N b0 b02).bind fun r1 =>
 (bif (!(r1.1 == 0)) then
 (some (2, r1.2.1, r1.2.2))
 else
 ((Frecord_CheckOp N op).bind fun r2 =>
 (bif (!(r2 == 0)) then
 (some (r2, r1.2.1, r1.2.2))
 else
 ((Frecord_whole_a34 N r1.2.1 r1.2.2 op).bind fun r3 =>
 (some (r3.1, r3.2.1, r3.2.2.1)))))))
def conrecord_PutOp_66b : Con τ := { args := [.ptr 0 [], .ty 25], L := [.box (.agg [.ty 4, .own 5 1]), .tail], ret := .ty 38, L' := [.box (.agg [.ty 4, .own 5 2]), .dead, .tail], R := Int × Bool × (List (Int)), dflt := (default, default, default), F := fun N a b => Frecord_PutOp_66b N a.2.1 b.1.1 b.1.2.1, of := fun r => (r.1, ((r.2.1, r.2.2, ()), (), (), ())) }
noncomputable def datrecord_PutOp_66b : Dat τ := { D := D0, tbl := tblOf [(63, conrecord_made_052), (25, conrecord_CheckOp), (64, conrecord_whole_a34)], lp := lpsOf [], k0 := 2, mu := [], un := [] }
theorem okrecord_PutOp_66b : ConOk E C 22 conrecord_PutOp_66b :=
  con_ok (D := datrecord_PutOp_66b) ⟨d0Ok, eGood, tblOf_ok (l := [(63, conrecord_made_052), (25, conrecord_CheckOp), (64, conrecord_whole_a34)]) ⟨okrecord_made_052, ⟨okrecord_CheckOp, ⟨okrecord_whole_a34, trivial⟩⟩⟩⟩ conrecord_PutOp_66b (fun a b => (a, b.1.1, b.1.2.1)) none (fun _ _ => rfl) rfl (fun _ _ h => nomatch h) 1000000 (fn := Try.f22) Try.func22 rfl (by kernel_rfl) (by kernel_rfl) rfl (by intro N a b; kernel_rfl)

/-- orchard/orchardref04.count -/
def Fref04_count (N : Nat) (n : Int) : Option (Bool) :=
 (some ((decide (0 ≤ n)) && (decide (n ≤ 1099511627776))))
def conref04_count : Con τ := { args := [.ty 2], L := [], ret := .ty 4, L' := [], R := Bool, dflt := default, F := fun N a b => Fref04_count N a.1, of := fun r => (r, ()) }
noncomputable def datref04_count : Dat τ := { D := D0, tbl := tblOf [], lp := lpsOf [], k0 := 0, mu := [], un := [] }
theorem okref04_count : ConOk E C 43 conref04_count :=
  con_ok (D := datref04_count) ⟨d0Ok, eGood, tblOf_ok (l := []) trivial⟩ conref04_count (fun a b => a) none (fun _ _ => rfl) rfl (fun _ _ h => nomatch h) 1000000 (fn := Try.f43) Try.func43 rfl (by kernel_rfl) (by kernel_rfl) rfl (by intro N a b; kernel_rfl)

/-- orchard/orchardref04.site -/
def Fref04_site (N : Nat) (n : Int) : Option (Bool) :=
 (some ((decide (0 ≤ n)) && (decide (n < 8))))
def conref04_site : Con τ := { args := [.ty 3], L := [], ret := .ty 4, L' := [], R := Bool, dflt := default, F := fun N a b => Fref04_site N a.1, of := fun r => (r, ()) }
noncomputable def datref04_site : Dat τ := { D := D0, tbl := tblOf [], lp := lpsOf [], k0 := 0, mu := [], un := [] }
theorem okref04_site : ConOk E C 45 conref04_site :=
  con_ok (D := datref04_site) ⟨d0Ok, eGood, tblOf_ok (l := []) trivial⟩ conref04_site (fun a b => a) none (fun _ _ => rfl) rfl (fun _ _ h => nomatch h) 1000000 (fn := Try.f45) Try.func45 rfl (by kernel_rfl) (by kernel_rfl) rfl (by intro N a b; kernel_rfl)

/-- orchard/orchardref04.MayStamp -/
def Fref04_MayStamp (N : Nat) (s : GStamp) : Option (Bool) :=
 ((Fref04_count N s.Time).bind fun r1 =>
 ((bif r1 then Fref04_site N s.Site else some default).bind fun r2 =>
 (some (r1 && r2))))
def conref04_MayStamp : Con τ := { args := [.ty 23], L := [], ret := .ty 4, L' := [], R := Bool, dflt := default, F := fun N a b => Fref04_MayStamp N a.1, of := fun r => (r, ()) }
noncomputable def datref04_MayStamp : Dat τ := { D := D0, tbl := tblOf [(43, conref04_count), (45, conref04_site)], lp := lpsOf [], k0 := 0, mu := [], un := [] }
theorem okref04_MayStamp : ConOk E C 100 conref04_MayStamp :=
  con_ok (D := datref04_MayStamp) ⟨d0Ok, eGood, tblOf_ok (l := [(43, conref04_count), (45, conref04_site)]) ⟨okref04_count, ⟨okref04_site, trivial⟩⟩⟩ conref04_MayStamp (fun a b => a) none (fun _ _ => rfl) rfl (fun _ _ h => nomatch h) 1000000 (fn := Try.f100) Try.func100 rfl (by kernel_rfl) (by kernel_rfl) rfl (by intro N a b; kernel_rfl)

/-- orchard/orchardref04.node -/
def Fref04_node (N : Nat) (n : Int) : Option (Bool) :=
 (some ((decide (0 ≤ n)) && (decide (n ≤ 1125899906842624))))
def conref04_node : Con τ := { args := [.ty 2], L := [], ret := .ty 4, L' := [], R := Bool, dflt := default, F := fun N a b => Fref04_node N a.1, of := fun r => (r, ()) }
noncomputable def datref04_node : Dat τ := { D := D0, tbl := tblOf [], lp := lpsOf [], k0 := 0, mu := [], un := [] }
theorem okref04_node : ConOk E C 101 conref04_node :=
  con_ok (D := datref04_node) ⟨d0Ok, eGood, tblOf_ok (l := []) trivial⟩ conref04_node (fun a b => a) none (fun _ _ => rfl) rfl (fun _ _ h => nomatch h) 1000000 (fn := Try.f101) Try.func101 rfl (by kernel_rfl) (by kernel_rfl) rfl (by intro N a b; kernel_rfl)

/-- orchard/orchardref04.MayOp -/
def Fref04_MayOp (N : Nat) (op : GOp) : Option (Bool) :=
 ((Fref04_MayStamp N op.Stamp).bind fun r1 =>
 ((bif ((r1 && (decide (1 ≤ op.Kind))) && (decide (op.Kind ≤ 3))) then Fref04_node N op.Node else some default).bind fun r2 =>
 ((bif (((r1 && (decide (1 ≤ op.Kind))) && (decide (op.Kind ≤ 3))) && r2) then Fref04_node N op.Parent else some default).bind fun r3 =>
 (some (((((((r1 && (decide (1 ≤ op.Kind))) && (decide (op.Kind ≤ 3))) && r2) && r3) && (decide (((op.Name).length : Int) ≤ 255))) && (decide (((op.Key).length : Int) ≤ 255))) && (decide (((op.Value).length : Int) ≤ 255)))))))
def conref04_MayOp : Con τ := { args := [.ty 25], L := [], ret := .ty 4, L' := [], R := Bool, dflt := default, F := fun N a b => Fref04_MayOp N a.1, of := fun r => (r, ()) }
noncomputable def datref04_MayOp : Dat τ := { D := D0, tbl := tblOf [(100, conref04_MayStamp), (101, conref04_node)], lp := lpsOf [], k0 := 0, mu := [], un := [] }
theorem okref04_MayOp : ConOk E C 44 conref04_MayOp :=
  con_ok (D := datref04_MayOp) ⟨d0Ok, eGood, tblOf_ok (l := [(100, conref04_MayStamp), (101, conref04_node)]) ⟨okref04_MayStamp, ⟨okref04_node, trivial⟩⟩⟩ conref04_MayOp (fun a b => a) none (fun _ _ => rfl) rfl (fun _ _ h => nomatch h) 1000000 (fn := Try.f44) Try.func44 rfl (by kernel_rfl) (by kernel_rfl) rfl (by intro N a b; kernel_rfl)

/-- orchard/orchardref04.Errno -/
def Fref04_Errno (N : Nat) (may : Bool) : Option (Int) :=
 (bif may then
 (some 0)
 else
 (some 40))
def conref04_Errno : Con τ := { args := [.ty 4], L := [], ret := .ty 38, L' := [], R := Int, dflt := default, F := fun N a b => Fref04_Errno N a.1, of := fun r => (r, ()) }
noncomputable def datref04_Errno : Dat τ := { D := D0, tbl := tblOf [], lp := lpsOf [], k0 := 0, mu := [], un := [] }
theorem okref04_Errno : ConOk E C 67 conref04_Errno :=
  con_ok (D := datref04_Errno) ⟨d0Ok, eGood, tblOf_ok (l := []) trivial⟩ conref04_Errno (fun a b => a) none (fun _ _ => rfl) rfl (fun _ _ h => nomatch h) 1000000 (fn := Try.f67) Try.func67 rfl (by kernel_rfl) (by kernel_rfl) rfl (by intro N a b; kernel_rfl)

/-- orchard/orchardref04.CheckOp -/
def Fref04_CheckOp (N : Nat) (op : GOp) : Option (Int) :=
 ((Fref04_MayOp N op).bind fun r1 =>
 ((Fref04_Errno N r1).bind fun r2 =>
 (some r2)))
def conref04_CheckOp : Con τ := { args := [.ty 25], L := [], ret := .ty 38, L' := [], R := Int, dflt := default, F := fun N a b => Fref04_CheckOp N a.1, of := fun r => (r, ()) }
noncomputable def datref04_CheckOp : Dat τ := { D := D0, tbl := tblOf [(44, conref04_MayOp), (67, conref04_Errno)], lp := lpsOf [], k0 := 0, mu := [], un := [] }
theorem okref04_CheckOp : ConOk E C 23 conref04_CheckOp :=
  con_ok (D := datref04_CheckOp) ⟨d0Ok, eGood, tblOf_ok (l := [(44, conref04_MayOp), (67, conref04_Errno)]) ⟨okref04_MayOp, ⟨okref04_Errno, trivial⟩⟩⟩ conref04_CheckOp (fun a b => a) none (fun _ _ => rfl) rfl (fun _ _ h => nomatch h) 1000000 (fn := Try.f23) Try.func23 rfl (by kernel_rfl) (by kernel_rfl) rfl (by intro N a b; kernel_rfl)

structure Sref01_Intx5 where
  u : Int
  b : List (Int)
def tsref01_Intx5 : List Sl := [.keep, .keep, .keep, .sh (.ty 12), .sh (.own 5 0), .keep, .keep, .keep, .keep, .keep, .keep, .keep, .keep, .keep, .keep, .keep, .junk, .junk, .junk, .junk, .junk, .junk, .junk, .junk, .junk, .junk, .junk, .keep, .keep, .keep, .keep, .keep]
def hsref01_Intx5 : List ESh := [.tail]
def toref01_Intx5 (a : Sl.Ts τ tsref01_Intx5) (b : ESh.Ts τ hsref01_Intx5) : Sref01_Intx5 := ⟨a.2.2.2.1, a.2.2.2.2.1⟩
def otref01_Intx5 (s : Sref01_Intx5) : Sl.Ts τ tsref01_Intx5 := ((), (), (), s.u, s.b, (), (), (), (), (), (), (), (), (), (), (), (), (), (), (), (), (), (), (), (), (), (), (), (), (), (), (), ())
def ohref01_Intx5 (s : Sref01_Intx5) : ESh.Ts τ hsref01_Intx5 := ((), ())
def lpref01_Intx5 : Lp τ := { ts := tsref01_Intx5, hs := hsref01_Intx5, S := Sref01_Intx5, to := toref01_Intx5, ot := otref01_Intx5, oh := ohref01_Intx5, hk := [], tk := [], ot_to := fun _ _ => rfl, oh_to := fun _ _ => rfl }
/-- orchard/orchardref01.Int -/
def Fref01_Int (N : Nat) (n : Int) : Option ((List (Int))) :=
 (bif (decide (n < 0)) then
 (iter N (fun (s1 : Sref01_Intx5) next2 =>
 (bif (decide (128 ≤ s1.u)) then
 (bif (lenB ((s1.b).length + ([(IntKind.u8.wrap ((IntKind.u8.wrap (Int.tmod s1.u 128)) + 128))]).length) 1) then
 (next2 ⟨(IntKind.u64.wrap (Int.tdiv s1.u 128)), (s1.b ++ [(IntKind.u8.wrap ((IntKind.u8.wrap (Int.tmod s1.u 128)) + 128))])⟩)
 else none)
 else
 (bif (lenB ((s1.b).length + ([(IntKind.u8.wrap s1.u)]).length) 1) then
 (some (s1.b ++ [(IntKind.u8.wrap s1.u)]))
 else none))) ⟨(IntKind.u64.wrap ((IntKind.u64.wrap ((IntKind.u64.wrap (IntKind.i64.wrap (0 - (IntKind.i64.wrap (n + 1))))) * 2)) + 1)), []⟩)
 else
 (iter N (fun (s3 : Sref01_Intx5) next4 =>
 (bif (decide (128 ≤ s3.u)) then
 (bif (lenB ((s3.b).length + ([(IntKind.u8.wrap ((IntKind.u8.wrap (Int.tmod s3.u 128)) + 128))]).length) 1) then
 (next4 ⟨(IntKind.u64.wrap (Int.tdiv s3.u 128)), (s3.b ++ [(IntKind.u8.wrap ((IntKind.u8.wrap (Int.tmod s3.u 128)) + 128))])⟩)
 else none)
 else
 (bif (lenB ((s3.b).length + ([(IntKind.u8.wrap s3.u)]).length) 1) then
 (some (s3.b ++ [(IntKind.u8.wrap s3.u)]))
 else none))) ⟨(IntKind.u64.wrap ((IntKind.u64.wrap n) * 2)), []⟩))
def conref01_Int : Con τ := { args := [.ty 2], L := [], ret := .own 5 0, L' := [.tail], R := (List (Int)), dflt := default, F := fun N a b => Fref01_Int N a.1, of := fun r => (r, ((), ())) }
noncomputable def datref01_Int : Dat τ := { D := D0, tbl := tblOf [], lp := lpsOf [(5, lpref01_Intx5)], k0 := 0, mu := [], un := [] }
theorem okref01_Int : ConOk E C 105 conref01_Int :=
  con_ok (D := datref01_Int) ⟨d0Ok, eGood, tblOf_ok (l := []) trivial⟩ conref01_Int (fun a b => a) none (fun _ _ => rfl) rfl (fun _ _ h => nomatch h) 1000000 (fn := Try.f105) Try.func105 rfl (by kernel_rfl) (by kernel_rfl) rfl (by intro N a b; kernel_rfl)

structure Sref04_num_b16x2 where
  b : List (Int)
  i : Int
def tsref04_num_b16x2 : List Sl := [.sh (.own 5 0), .keep, .keep, .keep, .keep, .sh (.ty 2), .junk, .junk, .junk, .junk, .junk, .junk, .junk, .junk, .junk, .junk, .junk, .junk, .junk, .keep]
def hsref04_num_b16x2 : List ESh := [.tail]
def toref04_num_b16x2 (a : Sl.Ts τ tsref04_num_b16x2) (b : ESh.Ts τ hsref04_num_b16x2) : Sref04_num_b16x2 := ⟨a.1, a.2.2.2.2.2.1⟩
def otref04_num_b16x2 (s : Sref04_num_b16x2) : Sl.Ts τ tsref04_num_b16x2 := (s.b, (), (), (), (), s.i, (), (), (), (), (), (), (), (), (), (), (), (), (), (), ())
def ohref04_num_b16x2 (s : Sref04_num_b16x2) : ESh.Ts τ hsref04_num_b16x2 := ((), ())
def lpref04_num_b16x2 : Lp τ := { ts := tsref04_num_b16x2, hs := hsref04_num_b16x2, S := Sref04_num_b16x2, to := toref04_num_b16x2, ot := otref04_num_b16x2, oh := ohref04_num_b16x2, hk := [], tk := [], ot_to := fun _ _ => rfl, oh_to := fun _ _ => rfl }
/-- orchard/orchardref04.num -/
def Fref04_num_b16 (N : Nat) (l : List (Int)) : Option ((List (Int))) :=
 (iter N (fun (s1 : Sref04_num_b16x2) next2 =>
 (bif (decide (s1.i < ((l).length : Int))) then
 (bif (ibB s1.i ((l).length : Int)) then
 ((Fref01_Int N (lget l s1.i default)).bind fun r3 =>
 (bif (lenB ((s1.b).length + (r3).length) 1) then
 (next2 ⟨(s1.b ++ r3), (IntKind.i64.wrap (s1.i + 1))⟩)
 else none))
 else none)
 else
 (some s1.b))) ⟨[], 0⟩)
def conref04_num_b16 : Con τ := { args := [.nil .slice, .ty 121], L := [], ret := .own 5 0, L' := [.tail], R := (List (Int)), dflt := default, F := fun N a b => Fref04_num_b16 N a.2.1, of := fun r => (r, ((), ())) }
noncomputable def datref04_num_b16 : Dat τ := { D := D0, tbl := tblOf [(105, conref01_Int)], lp := lpsOf [(2, lpref04_num_b16x2)], k0 := 0, mu := [], un := [] }
theorem okref04_num_b16 : ConOk E C 68 conref04_num_b16 :=
  con_ok (D := datref04_num_b16) ⟨d0Ok, eGood, tblOf_ok (l := [(105, conref01_Int)]) ⟨okref01_Int, trivial⟩⟩ conref04_num_b16 (fun a b => a) none (fun _ _ => rfl) rfl (fun _ _ h => nomatch h) 1000000 (fn := Try.f68) Try.func68 rfl (by kernel_rfl) (by kernel_rfl) rfl (by intro N a b; kernel_rfl)

/-- orchard/orchardref01.Bytes -/
def Fref01_Bytes (N : Nat) (l : List (Int)) : Option ((List (Int))) :=
 ((Fref01_Int N ((l).length : Int)).bind fun r1 =>
 (bif (lenB ((r1).length + (l).length) 1) then
 (some (r1 ++ l))
 else none))
def conref01_Bytes : Con τ := { args := [.ty 32], L := [], ret := .own 5 0, L' := [.tail], R := (List (Int)), dflt := default, F := fun N a b => Fref01_Bytes N a.1, of := fun r => (r, ((), ())) }
noncomputable def datref01_Bytes : Dat τ := { D := D0, tbl := tblOf [(105, conref01_Int)], lp := lpsOf [], k0 := 0, mu := [], un := [] }
theorem okref01_Bytes : ConOk E C 106 conref01_Bytes :=
  con_ok (D := datref01_Bytes) ⟨d0Ok, eGood, tblOf_ok (l := [(105, conref01_Int)]) ⟨okref01_Int, trivial⟩⟩ conref01_Bytes (fun a b => a) none (fun _ _ => rfl) rfl (fun _ _ h => nomatch h) 1000000 (fn := Try.f106) Try.func106 rfl (by kernel_rfl) (by kernel_rfl) rfl (by intro N a b; kernel_rfl)

/-- orchard/orchardref04.text -/
def Fref04_text_aa6 (N : Nat) (b : List (Int)) (s : List UInt8) : Option ((List (Int))) :=
 ((Fref01_Bytes N (bytesI s)).bind fun r1 =>
 (bif (lenB ((b).length + (r1).length) 1) then
 (some (b ++ r1))
 else none))
def conref04_text_aa6 : Con τ := { args := [.own 5 0, .ty 9], L := [.tail], ret := .own 5 1, L' := [.dead, .tail], R := (List (Int)), dflt := default, F := fun N a b => Fref04_text_aa6 N a.1 a.2.1, of := fun r => (r, ((), (), ())) }
noncomputable def datref04_text_aa6 : Dat τ := { D := D0, tbl := tblOf [(106, conref01_Bytes)], lp := lpsOf [], k0 := 1, mu := [], un := [] }
theorem okref04_text_aa6 : ConOk E C 69 conref04_text_aa6 :=
  con_ok (D := datref04_text_aa6) ⟨d0Ok, eGood, tblOf_ok (l := [(106, conref01_Bytes)]) ⟨okref01_Bytes, trivial⟩⟩ conref04_text_aa6 (fun a b => a) none (fun _ _ => rfl) rfl (fun _ _ h => nomatch h) 1000000 (fn := Try.f69) Try.func69 rfl (by kernel_rfl) (by kernel_rfl) rfl (by intro N a b; kernel_rfl)

/-- orchard/orchardref04.OpForm -/
def Fref04_OpForm (N : Nat) (op : GOp) : Option ((List (Int))) :=
 ((Fref04_num_b16 N [op.Stamp.Time, op.Stamp.Site, op.Kind, op.Node, op.Parent]).bind fun r1 =>
 ((Fref04_text_aa6 N r1 op.Name).bind fun r2 =>
 ((Fref04_text_aa6 N r2 op.Key).bind fun r3 =>
 ((Fref04_text_aa6 N r3 op.Value).bind fun r4 =>
 (some r4)))))
def conref04_OpForm : Con τ := { args := [.ty 25], L := [], ret := .own 5 0, L' := [.tail], R := (List (Int)), dflt := default, F := fun N a b => Fref04_OpForm N a.1, of := fun r => (r, ((), ())) }
noncomputable def datref04_OpForm : Dat τ := { D := D0, tbl := tblOf [(68, conref04_num_b16), (69, conref04_text_aa6)], lp := lpsOf [], k0 := 0, mu := [], un := [] }
theorem okref04_OpForm : ConOk E C 24 conref04_OpForm :=
  con_ok (D := datref04_OpForm) ⟨d0Ok, eGood, tblOf_ok (l := [(68, conref04_num_b16), (69, conref04_text_aa6)]) ⟨okref04_num_b16, ⟨okref04_text_aa6, trivial⟩⟩⟩ conref04_OpForm (fun a b => a) none (fun _ _ => rfl) rfl (fun _ _ h => nomatch h) 1000000 (fn := Try.f24) Try.func24 rfl (by kernel_rfl) (by kernel_rfl) rfl (by intro N a b; kernel_rfl)

/-- orchard/orchardlaw04.RecordFull -/
def Flaw04_RecordFull (N : Nat) (op : GOp) (left : Int) : Option (Bool) :=
 ((Fwire_NewWriter N).bind fun r1 =>
 ((Flaw04_begun N).bind fun r2 =>
 (bif ((((!r2) && true) || (decide (left < 0))) || (decide (1024 < left))) then
 ((Flaw04_begun N).bind fun r3 =>
 (some r3))
 else
 (bif (mkB (IntKind.i64.wrap ((IntKind.i64.wrap (1048576 - left)) - 3)) 1) then
 ((Fwire_Writer_Bytes_eea N (List.replicate (((IntKind.i64.wrap ((IntKind.i64.wrap (1048576 - left)) - 3))).toNat) 0) r1.1 r1.2).bind fun r4 =>
 (bif (!(r4.1 == 0)) then
 (some false)
 else
 ((Fwire_Writer_Len_052 N r4.2.1 r4.2.2).bind fun r5 =>
 ((Frecord_PutOp_66b N op r5.2.1 r5.2.2).bind fun r6 =>
 ((Fref04_CheckOp N op).bind fun r7 =>
 (bif (!(r7 == 0)) then
 (bif (r6.1 == r7) then
 ((Fwire_Writer_Len_052 N r6.2.1 r6.2.2).bind fun r8 =>
 (some ((r6.1 == r7) && (r8.1 == r5.1))))
 else
 (some false))
 else
 ((Fref04_OpForm N op).bind fun r9 =>
 (bif (decide ((IntKind.i64.wrap (1048576 - r5.1)) < ((r9).length : Int))) then
 (bif (r6.1 == 3) then
 ((Fwire_Writer_Len_052 N r6.2.1 r6.2.2).bind fun r10 =>
 (some ((r6.1 == 3) && (r10.1 == r5.1))))
 else
 (some false))
 else
 (bif (r6.1 == 0) then
 ((Fwire_Writer_Len_052 N r6.2.1 r6.2.2).bind fun r11 =>
 (some ((r6.1 == 0) && (r11.1 == (IntKind.i64.wrap (r5.1 + ((r9).length : Int)))))))
 else
 (some false))))))))))
 else none))))
def conlaw04_RecordFull : Con τ := { args := [.ty 25, .ty 3], L := [], ret := .ty 4, L' := [], R := Bool, dflt := default, F := fun N a b => Flaw04_RecordFull N a.1 a.2.1, of := fun r => (r, ()) }
noncomputable def datlaw04_RecordFull : Dat τ := { D := D0, tbl := tblOf [(19, conwire_NewWriter), (9, conlaw04_begun), (20, conwire_Writer_Bytes_eea), (21, conwire_Writer_Len_052), (22, conrecord_PutOp_66b), (23, conref04_CheckOp), (24, conref04_OpForm)], lp := lpsOf [], k0 := 0, mu := [], un := [] }
theorem oklaw04_RecordFull : ConOk E C 5 conlaw04_RecordFull :=
  con_ok (D := datlaw04_RecordFull) ⟨d0Ok, eGood, tblOf_ok (l := [(19, conwire_NewWriter), (9, conlaw04_begun), (20, conwire_Writer_Bytes_eea), (21, conwire_Writer_Len_052), (22, conrecord_PutOp_66b), (23, conref04_CheckOp), (24, conref04_OpForm)]) ⟨okwire_NewWriter, ⟨oklaw04_begun, ⟨okwire_Writer_Bytes_eea, ⟨okwire_Writer_Len_052, ⟨okrecord_PutOp_66b, ⟨okref04_CheckOp, ⟨okref04_OpForm, trivial⟩⟩⟩⟩⟩⟩⟩⟩ conlaw04_RecordFull (fun a b => a) none (fun _ _ => rfl) rfl (fun _ _ h => nomatch h) 1000000 (fn := Try.f5) Try.func5 rfl (by kernel_rfl) (by kernel_rfl) rfl (by intro N a b; kernel_rfl)

/-- orchard/orchardref04.bare -/
def Fref04_bare (N : Nat) (e : GEntry) : Option (GEntry × Bool) :=
 (bif (e.Kind == 0) then
 (some ((⟨e.Kind, 0, 0, (⟨(⟨0, 0⟩ : GStamp), 0, 0, 0, [], [], []⟩ : GOp), 0, 0, [], (⟨0, (Vector.replicate 8 (default : Int)), (Vector.replicate 8 (default : Int)), (Vector.replicate 8 (default : Int))⟩ : GEpoch), 0, (Vector.replicate 8 (default : Int)), 0, (⟨0, 0, 0, []⟩ : GPart), 0, 0, 0⟩ : GEntry), true))
 else
 (bif (e.Kind == 1) then
 (some ((⟨e.Kind, e.Session, e.Request, e.Op, 0, 0, [], (⟨0, (Vector.replicate 8 (default : Int)), (Vector.replicate 8 (default : Int)), (Vector.replicate 8 (default : Int))⟩ : GEpoch), 0, (Vector.replicate 8 (default : Int)), 0, (⟨0, 0, 0, []⟩ : GPart), 0, 0, 0⟩ : GEntry), true))
 else
 (bif (e.Kind == 2) then
 (some ((⟨e.Kind, 0, 0, (⟨(⟨0, 0⟩ : GStamp), 0, 0, 0, [], [], []⟩ : GOp), e.Origin, e.Seq, e.Ops, (⟨0, (Vector.replicate 8 (default : Int)), (Vector.replicate 8 (default : Int)), (Vector.replicate 8 (default : Int))⟩ : GEpoch), 0, (Vector.replicate 8 (default : Int)), 0, (⟨0, 0, 0, []⟩ : GPart), 0, 0, 0⟩ : GEntry), true))
 else
 (bif (e.Kind == 3) then
 (some ((⟨e.Kind, 0, 0, (⟨(⟨0, 0⟩ : GStamp), 0, 0, 0, [], [], []⟩ : GOp), 0, 0, [], e.Epoch, 0, (Vector.replicate 8 (default : Int)), 0, (⟨0, 0, 0, []⟩ : GPart), 0, 0, 0⟩ : GEntry), true))
 else
 (bif (e.Kind == 4) then
 (some ((⟨e.Kind, 0, 0, (⟨(⟨0, 0⟩ : GStamp), 0, 0, 0, [], [], []⟩ : GOp), 0, e.Seq, [], (⟨0, (Vector.replicate 8 (default : Int)), (Vector.replicate 8 (default : Int)), (Vector.replicate 8 (default : Int))⟩ : GEpoch), e.From, e.Vector_, e.Clock, (⟨0, 0, 0, []⟩ : GPart), 0, 0, 0⟩ : GEntry), true))
 else
 (bif (e.Kind == 5) then
 (some ((⟨e.Kind, 0, 0, (⟨(⟨0, 0⟩ : GStamp), 0, 0, 0, [], [], []⟩ : GOp), 0, 0, [], (⟨0, (Vector.replicate 8 (default : Int)), (Vector.replicate 8 (default : Int)), (Vector.replicate 8 (default : Int))⟩ : GEpoch), 0, (Vector.replicate 8 (default : Int)), 0, e.Part, 0, 0, 0⟩ : GEntry), true))
 else
 (bif (e.Kind == 6) then
 (some ((⟨e.Kind, 0, 0, (⟨(⟨0, 0⟩ : GStamp), 0, 0, 0, [], [], []⟩ : GOp), 0, 0, [], (⟨0, (Vector.replicate 8 (default : Int)), (Vector.replicate 8 (default : Int)), (Vector.replicate 8 (default : Int))⟩ : GEpoch), 0, (Vector.replicate 8 (default : Int)), 0, (⟨0, 0, 0, []⟩ : GPart), e.Site, e.Sponsor, 0⟩ : GEntry), true))
 else
 (bif (e.Kind == 7) then
 (some ((⟨e.Kind, 0, 0, (⟨(⟨0, 0⟩ : GStamp), 0, 0, 0, [], [], []⟩ : GOp), 0, 0, [], (⟨0, (Vector.replicate 8 (default : Int)), (Vector.replicate 8 (default : Int)), (Vector.replicate 8 (default : Int))⟩ : GEpoch), 0, (Vector.replicate 8 (default : Int)), 0, (⟨0, 0, 0, []⟩ : GPart), e.Site, 0, 0⟩ : GEntry), true))
 else
 (bif (e.Kind == 8) then
 (some ((⟨e.Kind, 0, 0, (⟨(⟨0, 0⟩ : GStamp), 0, 0, 0, [], [], []⟩ : GOp), 0, 0, [], (⟨0, (Vector.replicate 8 (default : Int)), (Vector.replicate 8 (default : Int)), (Vector.replicate 8 (default : Int))⟩ : GEpoch), 0, (Vector.replicate 8 (default : Int)), 0, (⟨0, 0, 0, []⟩ : GPart), e.Site, 0, e.Length⟩ : GEntry), true))
 else
 (some ((⟨e.Kind, 0, 0, (⟨(⟨0, 0⟩ : GStamp), 0, 0, 0, [], [], []⟩ : GOp), 0, 0, [], (⟨0, (Vector.replicate 8 (default : Int)), (Vector.replicate 8 (default : Int)), (Vector.replicate 8 (default : Int))⟩ : GEpoch), 0, (Vector.replicate 8 (default : Int)), 0, (⟨0, 0, 0, []⟩ : GPart), 0, 0, 0⟩ : GEntry), false)))))))))))
def conref04_bare : Con τ := { args := [.ty 36], L := [], ret := .tup [.ty 36, .ty 4], L' := [], R := GEntry × Bool, dflt := (default, default), F := fun N a b => Fref04_bare N a.1, of := fun r => ((r.1, r.2, ()), ()) }
noncomputable def datref04_bare : Dat τ := { D := D0, tbl := tblOf [], lp := lpsOf [], k0 := 0, mu := [], un := [] }
theorem okref04_bare : ConOk E C 42 conref04_bare :=
  con_ok (D := datref04_bare) ⟨d0Ok, eGood, tblOf_ok (l := []) trivial⟩ conref04_bare (fun a b => (a.1, a.2.1)) none (fun _ _ => rfl) rfl (fun _ _ h => nomatch h) 1000000 (fn := Try.f42) Try.func42 rfl (by kernel_rfl) (by kernel_rfl) rfl (by intro N a b; kernel_rfl)

structure Sref04_sameOpsx4 where
  i : Int
def tsref04_sameOpsx4 : List Sl := [.keep, .keep, .keep, .keep, .junk, .sh (.ty 2), .keep, .keep, .keep, .keep, .keep, .junk, .junk, .junk, .junk, .junk, .junk, .junk, .junk, .junk, .junk, .junk, .junk, .junk, .junk, .junk]
def hsref04_sameOpsx4 : List ESh := []
def toref04_sameOpsx4 (a : Sl.Ts τ tsref04_sameOpsx4) (b : ESh.Ts τ hsref04_sameOpsx4) : Sref04_sameOpsx4 := ⟨a.2.2.2.2.2.1⟩
def otref04_sameOpsx4 (s : Sref04_sameOpsx4) : Sl.Ts τ tsref04_sameOpsx4 := ((), (), (), (), (), s.i, (), (), (), (), (), (), (), (), (), (), (), (), (), (), (), (), (), (), (), (), ())
def ohref04_sameOpsx4 (s : Sref04_sameOpsx4) : ESh.Ts τ hsref04_sameOpsx4 := ()
def lpref04_sameOpsx4 : Lp τ := { ts := tsref04_sameOpsx4, hs := hsref04_sameOpsx4, S := Sref04_sameOpsx4, to := toref04_sameOpsx4, ot := otref04_sameOpsx4, oh := ohref04_sameOpsx4, hk := [], tk := [], ot_to := fun _ _ => rfl, oh_to := fun _ _ => rfl }
/-- orchard/orchardref04.sameOps -/
def Fref04_sameOps (N : Nat) (a : List (GOp)) (b : List (GOp)) : Option (Bool) :=
 (bif (!(((a).length : Int) == ((b).length : Int))) then
 (some false)
 else
 (iter N (fun (s1 : Sref04_sameOpsx4) next2 =>
 (bif (decide (s1.i < ((a).length : Int))) then
 (bif (ibB s1.i ((a).length : Int)) then
 (bif (ibB s1.i ((b).length : Int)) then
 (bif (!((((((lget a s1.i default).Stamp).Time) == (((lget b s1.i default).Stamp).Time)) && ((((lget a s1.i default).Stamp).Site) == (((lget b s1.i default).Stamp).Site))) && ((((lget a s1.i default).Kind) == ((lget b s1.i default).Kind)) && ((((lget a s1.i default).Node) == ((lget b s1.i default).Node)) && ((((lget a s1.i default).Parent) == ((lget b s1.i default).Parent)) && ((((lget a s1.i default).Name) == ((lget b s1.i default).Name)) && ((((lget a s1.i default).Key) == ((lget b s1.i default).Key)) && (((lget a s1.i default).Value) == ((lget b s1.i default).Value))))))))) then
 (some false)
 else
 (next2 ⟨(IntKind.i64.wrap (s1.i + 1))⟩))
 else none)
 else none)
 else
 (some true))) ⟨0⟩))
def conref04_sameOps : Con τ := { args := [.ty 26, .ty 26], L := [], ret := .ty 4, L' := [], R := Bool, dflt := default, F := fun N a b => Fref04_sameOps N a.1 a.2.1, of := fun r => (r, ()) }
noncomputable def datref04_sameOps : Dat τ := { D := D0, tbl := tblOf [], lp := lpsOf [(4, lpref04_sameOpsx4)], k0 := 0, mu := [], un := [] }
theorem okref04_sameOps : ConOk E C 50 conref04_sameOps :=
  con_ok (D := datref04_sameOps) ⟨d0Ok, eGood, tblOf_ok (l := []) trivial⟩ conref04_sameOps (fun a b => a) none (fun _ _ => rfl) rfl (fun _ _ h => nomatch h) 1000000 (fn := Try.f50) Try.func50 rfl (by kernel_rfl) (by kernel_rfl) rfl (by intro N a b; kernel_rfl)

/-- orchard/orchardref04.SamePart -/
def Fref04_SamePart (N : Nat) (a : GPart) (b : GPart) : Option (Bool) :=
 (some ((((a.Snap == b.Snap) && (a.Index == b.Index)) && (a.Many == b.Many)) && ((strI a.Data) == (strI b.Data))))
def conref04_SamePart : Con τ := { args := [.ty 34, .ty 34], L := [], ret := .ty 4, L' := [], R := Bool, dflt := default, F := fun N a b => Fref04_SamePart N a.1 a.2.1, of := fun r => (r, ()) }
noncomputable def datref04_SamePart : Dat τ := { D := D0, tbl := tblOf [], lp := lpsOf [], k0 := 0, mu := [], un := [] }
theorem okref04_SamePart : ConOk E C 51 conref04_SamePart :=
  con_ok (D := datref04_SamePart) ⟨d0Ok, eGood, tblOf_ok (l := []) trivial⟩ conref04_SamePart (fun a b => a) none (fun _ _ => rfl) rfl (fun _ _ h => nomatch h) 1000000 (fn := Try.f51) Try.func51 rfl (by kernel_rfl) (by kernel_rfl) rfl (by intro N a b; kernel_rfl)

/-- orchard/orchardref04.SameEntry -/
def Fref04_SameEntry (N : Nat) (a : GEntry) (b : GEntry) : Option (Bool) :=
 ((bif ((((((a.Kind == b.Kind) && (a.Session == b.Session)) && (a.Request == b.Request)) && (((a.Op.Stamp.Time == b.Op.Stamp.Time) && (a.Op.Stamp.Site == b.Op.Stamp.Site)) && ((a.Op.Kind == b.Op.Kind) && ((a.Op.Node == b.Op.Node) && ((a.Op.Parent == b.Op.Parent) && ((a.Op.Name == b.Op.Name) && ((a.Op.Key == b.Op.Key) && (a.Op.Value == b.Op.Value)))))))) && (a.Origin == b.Origin)) && (a.Seq == b.Seq)) then Fref04_sameOps N a.Ops b.Ops else some default).bind fun r1 =>
 ((bif (((((((((((a.Kind == b.Kind) && (a.Session == b.Session)) && (a.Request == b.Request)) && (((a.Op.Stamp.Time == b.Op.Stamp.Time) && (a.Op.Stamp.Site == b.Op.Stamp.Site)) && ((a.Op.Kind == b.Op.Kind) && ((a.Op.Node == b.Op.Node) && ((a.Op.Parent == b.Op.Parent) && ((a.Op.Name == b.Op.Name) && ((a.Op.Key == b.Op.Key) && (a.Op.Value == b.Op.Value)))))))) && (a.Origin == b.Origin)) && (a.Seq == b.Seq)) && r1) && ((a.Epoch.Number == b.Epoch.Number) && ((vbeq beq3 a.Epoch.States b.Epoch.States) && ((vbeq beq2 a.Epoch.Seals b.Epoch.Seals) && (vbeq beq3 a.Epoch.Sponsor b.Epoch.Sponsor))))) && (a.From == b.From)) && (vbeq beq2 a.Vector_ b.Vector_)) && (a.Clock == b.Clock)) then Fref04_SamePart N a.Part b.Part else some default).bind fun r2 =>
 (some (((((((((((((((a.Kind == b.Kind) && (a.Session == b.Session)) && (a.Request == b.Request)) && (((a.Op.Stamp.Time == b.Op.Stamp.Time) && (a.Op.Stamp.Site == b.Op.Stamp.Site)) && ((a.Op.Kind == b.Op.Kind) && ((a.Op.Node == b.Op.Node) && ((a.Op.Parent == b.Op.Parent) && ((a.Op.Name == b.Op.Name) && ((a.Op.Key == b.Op.Key) && (a.Op.Value == b.Op.Value)))))))) && (a.Origin == b.Origin)) && (a.Seq == b.Seq)) && r1) && ((a.Epoch.Number == b.Epoch.Number) && ((vbeq beq3 a.Epoch.States b.Epoch.States) && ((vbeq beq2 a.Epoch.Seals b.Epoch.Seals) && (vbeq beq3 a.Epoch.Sponsor b.Epoch.Sponsor))))) && (a.From == b.From)) && (vbeq beq2 a.Vector_ b.Vector_)) && (a.Clock == b.Clock)) && r2) && (a.Site == b.Site)) && (a.Sponsor == b.Sponsor)) && (a.Length == b.Length)))))
def conref04_SameEntry : Con τ := { args := [.ty 36, .ty 36], L := [], ret := .ty 4, L' := [], R := Bool, dflt := default, F := fun N a b => Fref04_SameEntry N a.1 a.2.1, of := fun r => (r, ()) }
noncomputable def datref04_SameEntry : Dat τ := { D := D0, tbl := tblOf [(50, conref04_sameOps), (51, conref04_SamePart)], lp := lpsOf [], k0 := 0, mu := [], un := [] }
theorem okref04_SameEntry : ConOk E C 12 conref04_SameEntry :=
  con_ok (D := datref04_SameEntry) ⟨d0Ok, eGood, tblOf_ok (l := [(50, conref04_sameOps), (51, conref04_SamePart)]) ⟨okref04_sameOps, ⟨okref04_SamePart, trivial⟩⟩⟩ conref04_SameEntry (fun a b => a) none (fun _ _ => rfl) rfl (fun _ _ h => nomatch h) 1000000 (fn := Try.f12) Try.func12 rfl (by kernel_rfl) (by kernel_rfl) rfl (by intro N a b; kernel_rfl)

structure Sref04_opsx2 where
  i : Int
def tsref04_opsx2 : List Sl := [.keep, .keep, .junk, .sh (.ty 2), .junk, .junk, .junk, .junk, .junk, .junk, .junk, .junk, .junk, .junk, .junk, .junk, .keep, .keep, .keep, .keep, .keep, .keep, .keep, .keep]
def hsref04_opsx2 : List ESh := []
def toref04_opsx2 (a : Sl.Ts τ tsref04_opsx2) (b : ESh.Ts τ hsref04_opsx2) : Sref04_opsx2 := ⟨a.2.2.2.1⟩
def otref04_opsx2 (s : Sref04_opsx2) : Sl.Ts τ tsref04_opsx2 := ((), (), (), s.i, (), (), (), (), (), (), (), (), (), (), (), (), (), (), (), (), (), (), (), (), ())
def ohref04_opsx2 (s : Sref04_opsx2) : ESh.Ts τ hsref04_opsx2 := ()
def lpref04_opsx2 : Lp τ := { ts := tsref04_opsx2, hs := hsref04_opsx2, S := Sref04_opsx2, to := toref04_opsx2, ot := otref04_opsx2, oh := ohref04_opsx2, hk := [], tk := [], ot_to := fun _ _ => rfl, oh_to := fun _ _ => rfl }
/-- orchard/orchardref04.ops -/
def Fref04_ops (N : Nat) (l : List (GOp)) : Option (Bool) :=
 (iter N (fun (s1 : Sref04_opsx2) next2 =>
 (bif (decide (s1.i < ((l).length : Int))) then
 (bif (ibB s1.i ((l).length : Int)) then
 ((Fref04_MayOp N (⟨((lget l s1.i default).Stamp), (lget l s1.i default).Kind, (lget l s1.i default).Node, (lget l s1.i default).Parent, (lget l s1.i default).Name, (lget l s1.i default).Key, (lget l s1.i default).Value⟩ : GOp)).bind fun r3 =>
 (bif (!r3) then
 (some false)
 else
 (next2 ⟨(IntKind.i64.wrap (s1.i + 1))⟩)))
 else none)
 else
 (some ((decide (0 < ((l).length : Int))) && (decide (((l).length : Int) ≤ 4096)))))) ⟨0⟩)
def conref04_ops : Con τ := { args := [.ty 26], L := [], ret := .ty 4, L' := [], R := Bool, dflt := default, F := fun N a b => Fref04_ops N a.1, of := fun r => (r, ()) }
noncomputable def datref04_ops : Dat τ := { D := D0, tbl := tblOf [(44, conref04_MayOp)], lp := lpsOf [(2, lpref04_opsx2)], k0 := 0, mu := [], un := [] }
theorem okref04_ops : ConOk E C 46 conref04_ops :=
  con_ok (D := datref04_ops) ⟨d0Ok, eGood, tblOf_ok (l := [(44, conref04_MayOp)]) ⟨okref04_MayOp, trivial⟩⟩ conref04_ops (fun a b => a) none (fun _ _ => rfl) rfl (fun _ _ h => nomatch h) 1000000 (fn := Try.f46) Try.func46 rfl (by kernel_rfl) (by kernel_rfl) rfl (by intro N a b; kernel_rfl)

structure Sref04_MayVectorx2 where
  i : Int
def tsref04_MayVectorx2 : List Sl := [.keep, .keep, .junk, .sh (.ty 2), .junk, .junk, .junk, .junk, .junk, .junk, .junk, .junk, .junk]
def hsref04_MayVectorx2 : List ESh := [.keep]
def toref04_MayVectorx2 (a : Sl.Ts τ tsref04_MayVectorx2) (b : ESh.Ts τ hsref04_MayVectorx2) : Sref04_MayVectorx2 := ⟨a.2.2.2.1⟩
def otref04_MayVectorx2 (s : Sref04_MayVectorx2) : Sl.Ts τ tsref04_MayVectorx2 := ((), (), (), s.i, (), (), (), (), (), (), (), (), (), ())
def ohref04_MayVectorx2 (s : Sref04_MayVectorx2) : ESh.Ts τ hsref04_MayVectorx2 := ((), ())
def lpref04_MayVectorx2 : Lp τ := { ts := tsref04_MayVectorx2, hs := hsref04_MayVectorx2, S := Sref04_MayVectorx2, to := toref04_MayVectorx2, ot := otref04_MayVectorx2, oh := ohref04_MayVectorx2, hk := [2], tk := [0, 2], ot_to := fun _ _ => rfl, oh_to := fun _ _ => rfl }
/-- orchard/orchardref04.MayVector -/
def Fref04_MayVector (N : Nat) (v : Vector (Int) 8) : Option (Bool) :=
 (iter N (fun (s1 : Sref04_MayVectorx2) next2 =>
 (bif (decide (s1.i < 8)) then
 (bif (ibB s1.i 8) then
 ((Fref04_count N (vget v ((s1.i).toNat) default)).bind fun r3 =>
 (bif (!r3) then
 (some false)
 else
 (next2 ⟨(IntKind.i64.wrap (s1.i + 1))⟩)))
 else none)
 else
 (some true))) ⟨0⟩)
def conref04_MayVector : Con τ := { args := [.ty 29], L := [], ret := .ty 4, L' := [], R := Bool, dflt := default, F := fun N a b => Fref04_MayVector N a.1, of := fun r => (r, ()) }
noncomputable def datref04_MayVector : Dat τ := { D := D0, tbl := tblOf [(43, conref04_count)], lp := lpsOf [(2, lpref04_MayVectorx2)], k0 := 0, mu := [], un := [] }
theorem okref04_MayVector : ConOk E C 48 conref04_MayVector :=
  con_ok (D := datref04_MayVector) ⟨d0Ok, eGood, tblOf_ok (l := [(43, conref04_count)]) ⟨okref04_count, trivial⟩⟩ conref04_MayVector (fun a b => a) none (fun _ _ => rfl) rfl (fun _ _ h => nomatch h) 1000000 (fn := Try.f48) Try.func48 rfl (by kernel_rfl) (by kernel_rfl) rfl (by intro N a b; kernel_rfl)

structure Sref04_MayEpochx2 where
  i : Int
def tsref04_MayEpochx2 : List Sl := [.keep, .keep, .junk, .sh (.ty 2), .junk, .junk, .junk, .junk, .junk, .junk, .junk, .junk, .junk, .junk, .junk, .junk, .junk, .junk, .junk, .junk, .junk, .junk, .junk, .junk, .junk, .junk, .junk, .junk, .junk, .junk, .junk, .junk, .junk, .junk, .keep, .keep, .keep, .keep, .keep, .keep, .keep, .keep]
def hsref04_MayEpochx2 : List ESh := [.keep]
def toref04_MayEpochx2 (a : Sl.Ts τ tsref04_MayEpochx2) (b : ESh.Ts τ hsref04_MayEpochx2) : Sref04_MayEpochx2 := ⟨a.2.2.2.1⟩
def otref04_MayEpochx2 (s : Sref04_MayEpochx2) : Sl.Ts τ tsref04_MayEpochx2 := ((), (), (), s.i, (), (), (), (), (), (), (), (), (), (), (), (), (), (), (), (), (), (), (), (), (), (), (), (), (), (), (), (), (), (), (), (), (), (), (), (), (), (), ())
def ohref04_MayEpochx2 (s : Sref04_MayEpochx2) : ESh.Ts τ hsref04_MayEpochx2 := ((), ())
def lpref04_MayEpochx2 : Lp τ := { ts := tsref04_MayEpochx2, hs := hsref04_MayEpochx2, S := Sref04_MayEpochx2, to := toref04_MayEpochx2, ot := otref04_MayEpochx2, oh := ohref04_MayEpochx2, hk := [2], tk := [0, 2], ot_to := fun _ _ => rfl, oh_to := fun _ _ => rfl }
/-- orchard/orchardref04.MayEpoch -/
def Fref04_MayEpoch (N : Nat) (e : GEpoch) : Option (Bool) :=
 (iter N (fun (s1 : Sref04_MayEpochx2) next2 =>
 (bif (decide (s1.i < 8)) then
 (bif (ibB s1.i 8) then
 (bif (!(!(decide ((vget e.States ((s1.i).toNat) default) < 0))) || (ibB s1.i 8)) then
 (bif (!(!((decide ((vget e.States ((s1.i).toNat) default) < 0)) || (decide (3 < (vget e.States ((s1.i).toNat) default))))) || (ibB s1.i 8)) then
 (bif (!(!(((decide ((vget e.States ((s1.i).toNat) default) < 0)) || (decide (3 < (vget e.States ((s1.i).toNat) default)))) || (decide ((vget e.Sponsor ((s1.i).toNat) default) < (-1))))) || (ibB s1.i 8)) then
 (bif ((((decide ((vget e.States ((s1.i).toNat) default) < 0)) || (decide (3 < (vget e.States ((s1.i).toNat) default)))) || (decide ((vget e.Sponsor ((s1.i).toNat) default) < (-1)))) || (decide (8 ≤ (vget e.Sponsor ((s1.i).toNat) default)))) then
 (some false)
 else
 (next2 ⟨(IntKind.i64.wrap (s1.i + 1))⟩))
 else none)
 else none)
 else none)
 else none)
 else
 ((Fref04_count N e.Number).bind fun r3 =>
 ((bif r3 then Fref04_MayVector N e.Seals else some default).bind fun r4 =>
 (some (r3 && r4)))))) ⟨0⟩)
def conref04_MayEpoch : Con τ := { args := [.ty 31], L := [], ret := .ty 4, L' := [], R := Bool, dflt := default, F := fun N a b => Fref04_MayEpoch N a.1, of := fun r => (r, ()) }
noncomputable def datref04_MayEpoch : Dat τ := { D := D0, tbl := tblOf [(43, conref04_count), (48, conref04_MayVector)], lp := lpsOf [(2, lpref04_MayEpochx2)], k0 := 0, mu := [], un := [] }
theorem okref04_MayEpoch : ConOk E C 47 conref04_MayEpoch :=
  con_ok (D := datref04_MayEpoch) ⟨d0Ok, eGood, tblOf_ok (l := [(43, conref04_count), (48, conref04_MayVector)]) ⟨okref04_count, ⟨okref04_MayVector, trivial⟩⟩⟩ conref04_MayEpoch (fun a b => a) none (fun _ _ => rfl) rfl (fun _ _ h => nomatch h) 1000000 (fn := Try.f47) Try.func47 rfl (by kernel_rfl) (by kernel_rfl) rfl (by intro N a b; kernel_rfl)

/-- orchard/orchardref04.MayPart -/
def Fref04_MayPart (N : Nat) (p : GPart) : Option (Bool) :=
 ((Fref04_count N p.Snap).bind fun r1 =>
 (some (((((r1 && (decide (1 ≤ p.Many))) && (decide (p.Many ≤ 4096))) && (decide (0 ≤ p.Index))) && (decide (p.Index < p.Many))) && (decide (((p.Data).length : Int) ≤ 16384)))))
def conref04_MayPart : Con τ := { args := [.ty 34], L := [], ret := .ty 4, L' := [], R := Bool, dflt := default, F := fun N a b => Fref04_MayPart N a.1, of := fun r => (r, ()) }
noncomputable def datref04_MayPart : Dat τ := { D := D0, tbl := tblOf [(43, conref04_count)], lp := lpsOf [], k0 := 0, mu := [], un := [] }
theorem okref04_MayPart : ConOk E C 49 conref04_MayPart :=
  con_ok (D := datref04_MayPart) ⟨d0Ok, eGood, tblOf_ok (l := [(43, conref04_count)]) ⟨okref04_count, trivial⟩⟩ conref04_MayPart (fun a b => a) none (fun _ _ => rfl) rfl (fun _ _ h => nomatch h) 1000000 (fn := Try.f49) Try.func49 rfl (by kernel_rfl) (by kernel_rfl) rfl (by intro N a b; kernel_rfl)

/-- orchard/orchardref04.MayEntry -/
def Fref04_MayEntry (N : Nat) (e : GEntry) : Option (Bool) :=
 ((Fref04_bare N e).bind fun r1 =>
 ((bif (!(!r1.2)) then Fref04_SameEntry N e r1.1 else some default).bind fun r2 =>
 (bif ((!r1.2) || (!r2)) then
 (some false)
 else
 (bif (e.Kind == 1) then
 ((Fref04_count N e.Session).bind fun r3 =>
 ((bif (r3 && (decide (0 < e.Session))) then Fref04_count N e.Request else some default).bind fun r4 =>
 ((bif (((r3 && (decide (0 < e.Session))) && r4) && (decide (0 < e.Request))) then Fref04_MayOp N e.Op else some default).bind fun r5 =>
 (some ((((r3 && (decide (0 < e.Session))) && r4) && (decide (0 < e.Request))) && r5)))))
 else
 (bif (e.Kind == 2) then
 ((Fref04_site N e.Origin).bind fun r6 =>
 ((bif r6 then Fref04_count N e.Seq else some default).bind fun r7 =>
 ((bif (r6 && r7) then Fref04_ops N e.Ops else some default).bind fun r8 =>
 (some ((r6 && r7) && r8)))))
 else
 (bif (e.Kind == 3) then
 ((Fref04_MayEpoch N e.Epoch).bind fun r9 =>
 (some r9))
 else
 (bif (e.Kind == 4) then
 ((Fref04_count N e.Seq).bind fun r10 =>
 ((bif r10 then Fref04_site N e.From else some default).bind fun r11 =>
 ((bif (r10 && r11) then Fref04_MayVector N e.Vector_ else some default).bind fun r12 =>
 ((bif ((r10 && r11) && r12) then Fref04_count N e.Clock else some default).bind fun r13 =>
 (some (((r10 && r11) && r12) && r13))))))
 else
 (bif (e.Kind == 5) then
 ((Fref04_MayPart N e.Part).bind fun r14 =>
 (some r14))
 else
 ((Fref04_site N e.Site).bind fun r15 =>
 ((bif r15 then Fref04_site N e.Sponsor else some default).bind fun r16 =>
 ((bif (r15 && r16) then Fref04_count N e.Length else some default).bind fun r17 =>
 (some ((r15 && r16) && r17)))))))))))))
def conref04_MayEntry : Con τ := { args := [.ty 36], L := [], ret := .ty 4, L' := [], R := Bool, dflt := default, F := fun N a b => Fref04_MayEntry N a.1, of := fun r => (r, ()) }
noncomputable def datref04_MayEntry : Dat τ := { D := D0, tbl := tblOf [(42, conref04_bare), (12, conref04_SameEntry), (43, conref04_count), (44, conref04_MayOp), (45, conref04_site), (46, conref04_ops), (47, conref04_MayEpoch), (48, conref04_MayVector), (49, conref04_MayPart)], lp := lpsOf [], k0 := 0, mu := [], un := [] }
theorem okref04_MayEntry : ConOk E C 11 conref04_MayEntry :=
  con_ok (D := datref04_MayEntry) ⟨d0Ok, eGood, tblOf_ok (l := [(42, conref04_bare), (12, conref04_SameEntry), (43, conref04_count), (44, conref04_MayOp), (45, conref04_site), (46, conref04_ops), (47, conref04_MayEpoch), (48, conref04_MayVector), (49, conref04_MayPart)]) ⟨okref04_bare, ⟨okref04_SameEntry, ⟨okref04_count, ⟨okref04_MayOp, ⟨okref04_site, ⟨okref04_ops, ⟨okref04_MayEpoch, ⟨okref04_MayVector, ⟨okref04_MayPart, trivial⟩⟩⟩⟩⟩⟩⟩⟩⟩⟩ conref04_MayEntry (fun a b => a) none (fun _ _ => rfl) rfl (fun _ _ h => nomatch h) 1000000 (fn := Try.f11) Try.func11 rfl (by kernel_rfl) (by kernel_rfl) rfl (by intro N a b; kernel_rfl)

/-- orchard/orchardlaw04.RecordApart -/
def Flaw04_RecordApart (N : Nat) (x : GEntry) (y : GEntry) : Option (Bool) :=
 ((Flaw04_begun N).bind fun r1 =>
 (bif (!r1) then
 (some false)
 else
 ((Frecord_Entry N x).bind fun r2 =>
 ((Frecord_Entry N y).bind fun r3 =>
 (bif ((!(r2.2 == 0)) || (!(r3.2 == 0))) then
 ((bif (!((r2.2 == 0) || (r2.2 == 3))) then Fref04_MayEntry N x else some default).bind fun r4 =>
 ((bif ((((r2.2 == 0) || (r2.2 == 3)) || (!r4)) && (!((r3.2 == 0) || (r3.2 == 3)))) then Fref04_MayEntry N y else some default).bind fun r5 =>
 (some ((((r2.2 == 0) || (r2.2 == 3)) || (!r4)) && (((r3.2 == 0) || (r3.2 == 3)) || (!r5))))))
 else
 ((Fref04_SameEntry N x y).bind fun r6 =>
 ((Fbytes_Equal N r2.1 r3.1).bind fun r7 =>
 (some (r6 == r7)))))))))
def conlaw04_RecordApart : Con τ := { args := [.ty 36, .ty 36], L := [], ret := .ty 4, L' := [], R := Bool, dflt := default, F := fun N a b => Flaw04_RecordApart N a.1 a.2.1, of := fun r => (r, ()) }
noncomputable def datlaw04_RecordApart : Dat τ := { D := D0, tbl := tblOf [(9, conlaw04_begun), (10, conrecord_Entry), (11, conref04_MayEntry), (12, conref04_SameEntry), (13, conbytes_Equal)], lp := lpsOf [], k0 := 0, mu := [], un := [] }
theorem oklaw04_RecordApart : ConOk E C 3 conlaw04_RecordApart :=
  con_ok (D := datlaw04_RecordApart) ⟨d0Ok, eGood, tblOf_ok (l := [(9, conlaw04_begun), (10, conrecord_Entry), (11, conref04_MayEntry), (12, conref04_SameEntry), (13, conbytes_Equal)]) ⟨oklaw04_begun, ⟨okrecord_Entry, ⟨okref04_MayEntry, ⟨okref04_SameEntry, ⟨okbytes_Equal, trivial⟩⟩⟩⟩⟩⟩ conlaw04_RecordApart (fun a b => a) none (fun _ _ => rfl) rfl (fun _ _ h => nomatch h) 1000000 (fn := Try.f3) Try.func3 rfl (by kernel_rfl) (by kernel_rfl) rfl (by intro N a b; kernel_rfl)

/-- orchard/record.CheckEpoch -/
def Frecord_CheckEpoch (N : Nat) (e : GEpoch) : Option (Int) :=
 ((Frecord_mayEpoch N e).bind fun r1 =>
 ((Frecord_verdict N r1).bind fun r2 =>
 (some r2)))
def conrecord_CheckEpoch : Con τ := { args := [.ty 31], L := [], ret := .ty 38, L' := [], R := Int, dflt := default, F := fun N a b => Frecord_CheckEpoch N a.1, of := fun r => (r, ()) }
noncomputable def datrecord_CheckEpoch : Dat τ := { D := D0, tbl := tblOf [(72, conrecord_mayEpoch), (70, conrecord_verdict)], lp := lpsOf [], k0 := 0, mu := [], un := [] }
theorem okrecord_CheckEpoch : ConOk E C 26 conrecord_CheckEpoch :=
  con_ok (D := datrecord_CheckEpoch) ⟨d0Ok, eGood, tblOf_ok (l := [(72, conrecord_mayEpoch), (70, conrecord_verdict)]) ⟨okrecord_mayEpoch, ⟨okrecord_verdict, trivial⟩⟩⟩ conrecord_CheckEpoch (fun a b => a) none (fun _ _ => rfl) rfl (fun _ _ h => nomatch h) 1000000 (fn := Try.f26) Try.func26 rfl (by kernel_rfl) (by kernel_rfl) rfl (by intro N a b; kernel_rfl)

/-- orchard/orchardref04.CheckEpoch -/
def Fref04_CheckEpoch (N : Nat) (e : GEpoch) : Option (Int) :=
 ((Fref04_MayEpoch N e).bind fun r1 =>
 ((Fref04_Errno N r1).bind fun r2 =>
 (some r2)))
def conref04_CheckEpoch : Con τ := { args := [.ty 31], L := [], ret := .ty 38, L' := [], R := Int, dflt := default, F := fun N a b => Fref04_CheckEpoch N a.1, of := fun r => (r, ()) }
noncomputable def datref04_CheckEpoch : Dat τ := { D := D0, tbl := tblOf [(47, conref04_MayEpoch), (67, conref04_Errno)], lp := lpsOf [], k0 := 0, mu := [], un := [] }
theorem okref04_CheckEpoch : ConOk E C 27 conref04_CheckEpoch :=
  con_ok (D := datref04_CheckEpoch) ⟨d0Ok, eGood, tblOf_ok (l := [(47, conref04_MayEpoch), (67, conref04_Errno)]) ⟨okref04_MayEpoch, ⟨okref04_Errno, trivial⟩⟩⟩ conref04_CheckEpoch (fun a b => a) none (fun _ _ => rfl) rfl (fun _ _ h => nomatch h) 1000000 (fn := Try.f27) Try.func27 rfl (by kernel_rfl) (by kernel_rfl) rfl (by intro N a b; kernel_rfl)

/-- orchard/orchardref04.CheckEntry -/
def Fref04_CheckEntry (N : Nat) (e : GEntry) : Option (Int) :=
 ((Fref04_MayEntry N e).bind fun r1 =>
 ((Fref04_Errno N r1).bind fun r2 =>
 (some r2)))
def conref04_CheckEntry : Con τ := { args := [.ty 36], L := [], ret := .ty 38, L' := [], R := Int, dflt := default, F := fun N a b => Fref04_CheckEntry N a.1, of := fun r => (r, ()) }
noncomputable def datref04_CheckEntry : Dat τ := { D := D0, tbl := tblOf [(11, conref04_MayEntry), (67, conref04_Errno)], lp := lpsOf [], k0 := 0, mu := [], un := [] }
theorem okref04_CheckEntry : ConOk E C 29 conref04_CheckEntry :=
  con_ok (D := datref04_CheckEntry) ⟨d0Ok, eGood, tblOf_ok (l := [(11, conref04_MayEntry), (67, conref04_Errno)]) ⟨okref04_MayEntry, ⟨okref04_Errno, trivial⟩⟩⟩ conref04_CheckEntry (fun a b => a) none (fun _ _ => rfl) rfl (fun _ _ h => nomatch h) 1000000 (fn := Try.f29) Try.func29 rfl (by kernel_rfl) (by kernel_rfl) rfl (by intro N a b; kernel_rfl)

structure Srecord_mayAddrx2 where
  t7 : Int
def tsrecord_mayAddrx2 : List Sl := [.keep, .keep, .junk, .keep, .junk, .keep, .keep, .sh (.ty 2), .junk, .junk, .junk, .junk, .junk, .junk, .junk, .junk, .junk, .junk, .junk, .junk, .junk, .junk, .junk, .junk, .junk, .junk, .junk, .junk, .junk, .junk]
def hsrecord_mayAddrx2 : List ESh := []
def torecord_mayAddrx2 (a : Sl.Ts τ tsrecord_mayAddrx2) (b : ESh.Ts τ hsrecord_mayAddrx2) : Srecord_mayAddrx2 := ⟨a.2.2.2.2.2.2.2.1⟩
def otrecord_mayAddrx2 (s : Srecord_mayAddrx2) : Sl.Ts τ tsrecord_mayAddrx2 := ((), (), (), (), (), (), (), s.t7, (), (), (), (), (), (), (), (), (), (), (), (), (), (), (), (), (), (), (), (), (), (), ())
def ohrecord_mayAddrx2 (s : Srecord_mayAddrx2) : ESh.Ts τ hsrecord_mayAddrx2 := ()
def lprecord_mayAddrx2 : Lp τ := { ts := tsrecord_mayAddrx2, hs := hsrecord_mayAddrx2, S := Srecord_mayAddrx2, to := torecord_mayAddrx2, ot := otrecord_mayAddrx2, oh := ohrecord_mayAddrx2, hk := [], tk := [], ot_to := fun _ _ => rfl, oh_to := fun _ _ => rfl }
/-- orchard/record.mayAddr -/
def Frecord_mayAddr (N : Nat) (l : List (GAddr)) : Option (Bool) :=
 (iter N (fun (s1 : Srecord_mayAddrx2) next2 =>
 (bif (decide (s1.t7 < ((l).length : Int))) then
 (bif (ibB s1.t7 ((l).length : Int)) then
 (bif ((((decide (((lget l s1.t7 default).Group) < 0)) || (decide (9 ≤ ((lget l s1.t7 default).Group)))) || (decide (((lget l s1.t7 default).Replica) < 0))) || (decide (5 ≤ ((lget l s1.t7 default).Replica)))) then
 (some false)
 else
 (next2 ⟨(IntKind.i64.wrap (s1.t7 + 1))⟩))
 else none)
 else
 (some true))) ⟨0⟩)
def conrecord_mayAddr : Con τ := { args := [.ty 156], L := [], ret := .ty 4, L' := [], R := Bool, dflt := default, F := fun N a b => Frecord_mayAddr N a.1, of := fun r => (r, ()) }
noncomputable def datrecord_mayAddr : Dat τ := { D := D0, tbl := tblOf [], lp := lpsOf [(2, lprecord_mayAddrx2)], k0 := 0, mu := [], un := [] }
theorem okrecord_mayAddr : ConOk E C 77 conrecord_mayAddr :=
  con_ok (D := datrecord_mayAddr) ⟨d0Ok, eGood, tblOf_ok (l := []) trivial⟩ conrecord_mayAddr (fun a b => a) none (fun _ _ => rfl) rfl (fun _ _ h => nomatch h) 1000000 (fn := Try.f77) Try.func77 rfl (by kernel_rfl) (by kernel_rfl) rfl (by intro N a b; kernel_rfl)

/-- orchard/record.mayBallot -/
def Frecord_mayBallot (N : Nat) (b : GBallot) : Option (Bool) :=
 ((Frecord_count N [b.Round]).bind fun r1 =>
 (some ((r1 && (decide (0 ≤ b.Replica))) && (decide (b.Replica < 5)))))
def conrecord_mayBallot : Con τ := { args := [.ty 47], L := [], ret := .ty 4, L' := [], R := Bool, dflt := default, F := fun N a b => Frecord_mayBallot N a.1, of := fun r => (r, ()) }
noncomputable def datrecord_mayBallot : Dat τ := { D := D0, tbl := tblOf [(73, conrecord_count)], lp := lpsOf [], k0 := 0, mu := [], un := [] }
theorem okrecord_mayBallot : ConOk E C 78 conrecord_mayBallot :=
  con_ok (D := datrecord_mayBallot) ⟨d0Ok, eGood, tblOf_ok (l := [(73, conrecord_count)]) ⟨okrecord_count, trivial⟩⟩ conrecord_mayBallot (fun a b => a) none (fun _ _ => rfl) rfl (fun _ _ h => nomatch h) 1000000 (fn := Try.f78) Try.func78 rfl (by kernel_rfl) (by kernel_rfl) rfl (by intro N a b; kernel_rfl)

/-- orchard/record.maySlotted$1 -/
def Frecord_maySlotted_1 (N : Nat) (x : GSlotted) : Option (Bool) :=
 ((Frecord_count N [x.Slot]).bind fun r1 =>
 ((bif (!(!r1)) then Frecord_mayBallot N x.Ballot else some default).bind fun r2 =>
 ((bif (!((!r1) || (!r2))) then Frecord_CheckEntry N x.Entry else some default).bind fun r3 =>
 (some (((!r1) || (!r2)) || (!(r3 == 0)))))))
def conrecord_maySlotted_1 : Con τ := { args := [.ty 80], L := [], ret := .ty 4, L' := [], R := Bool, dflt := default, F := fun N a b => Frecord_maySlotted_1 N a.1, of := fun r => (r, ()) }
noncomputable def datrecord_maySlotted_1 : Dat τ := { D := D0, tbl := tblOf [(73, conrecord_count), (78, conrecord_mayBallot), (28, conrecord_CheckEntry)], lp := lpsOf [], k0 := 0, mu := [], un := [] }
theorem okrecord_maySlotted_1 : ConOk E C 112 conrecord_maySlotted_1 :=
  con_ok (D := datrecord_maySlotted_1) ⟨d0Ok, eGood, tblOf_ok (l := [(73, conrecord_count), (78, conrecord_mayBallot), (28, conrecord_CheckEntry)]) ⟨okrecord_count, ⟨okrecord_mayBallot, ⟨okrecord_CheckEntry, trivial⟩⟩⟩⟩ conrecord_maySlotted_1 (fun a b => a) none (fun _ _ => rfl) rfl (fun _ _ h => nomatch h) 1000000 (fn := Try.f112) Try.func112 rfl (by kernel_rfl) (by kernel_rfl) rfl (by intro N a b; kernel_rfl)

structure Sslices_IndexFunc_Slotted_283x2 where
  t8 : Int
def tsslices_IndexFunc_Slotted_283x2 : List Sl := [.keep, .keep, .keep, .keep, .junk, .junk, .keep, .keep, .sh (.ty 2), .junk, .junk, .junk, .junk, .junk, .junk, .junk, .junk, .junk, .junk]
def hsslices_IndexFunc_Slotted_283x2 : List ESh := []
def toslices_IndexFunc_Slotted_283x2 (a : Sl.Ts τ tsslices_IndexFunc_Slotted_283x2) (b : ESh.Ts τ hsslices_IndexFunc_Slotted_283x2) : Sslices_IndexFunc_Slotted_283x2 := ⟨a.2.2.2.2.2.2.2.2.1⟩
def otslices_IndexFunc_Slotted_283x2 (s : Sslices_IndexFunc_Slotted_283x2) : Sl.Ts τ tsslices_IndexFunc_Slotted_283x2 := ((), (), (), (), (), (), (), (), s.t8, (), (), (), (), (), (), (), (), (), (), ())
def ohslices_IndexFunc_Slotted_283x2 (s : Sslices_IndexFunc_Slotted_283x2) : ESh.Ts τ hsslices_IndexFunc_Slotted_283x2 := ()
def lpslices_IndexFunc_Slotted_283x2 : Lp τ := { ts := tsslices_IndexFunc_Slotted_283x2, hs := hsslices_IndexFunc_Slotted_283x2, S := Sslices_IndexFunc_Slotted_283x2, to := toslices_IndexFunc_Slotted_283x2, ot := otslices_IndexFunc_Slotted_283x2, oh := ohslices_IndexFunc_Slotted_283x2, hk := [], tk := [], ot_to := fun _ _ => rfl, oh_to := fun _ _ => rfl }
/-- slices.IndexFunc[[]orchard/api.Slotted,orchard/api.Slotted] -/
def Fslices_IndexFunc_Slotted_283 (N : Nat) (s : List (GSlotted)) : Option (Int) :=
 (iter N (fun (s1 : Sslices_IndexFunc_Slotted_283x2) next2 =>
 (bif (decide (s1.t8 < ((s).length : Int))) then
 (bif (ibB s1.t8 ((s).length : Int)) then
 ((Frecord_maySlotted_1 N (⟨(lget s s1.t8 default).Slot, ((lget s s1.t8 default).Ballot), (⟨((lget s s1.t8 default).Entry).Kind, ((lget s s1.t8 default).Entry).Session, ((lget s s1.t8 default).Entry).Request, (⟨((((lget s s1.t8 default).Entry).Op).Stamp), (((lget s s1.t8 default).Entry).Op).Kind, (((lget s s1.t8 default).Entry).Op).Node, (((lget s s1.t8 default).Entry).Op).Parent, (((lget s s1.t8 default).Entry).Op).Name, (((lget s s1.t8 default).Entry).Op).Key, (((lget s s1.t8 default).Entry).Op).Value⟩ : GOp), ((lget s s1.t8 default).Entry).Origin, ((lget s s1.t8 default).Entry).Seq, ((lget s s1.t8 default).Entry).Ops, (((lget s s1.t8 default).Entry).Epoch), ((lget s s1.t8 default).Entry).From, ((lget s s1.t8 default).Entry).Vector_, ((lget s s1.t8 default).Entry).Clock, (((lget s s1.t8 default).Entry).Part), ((lget s s1.t8 default).Entry).Site, ((lget s s1.t8 default).Entry).Sponsor, ((lget s s1.t8 default).Entry).Length⟩ : GEntry)⟩ : GSlotted)).bind fun r3 =>
 (bif r3 then
 (some s1.t8)
 else
 (next2 ⟨(IntKind.i64.wrap (s1.t8 + 1))⟩)))
 else none)
 else
 (some (-1)))) ⟨0⟩)
def conslices_IndexFunc_Slotted_283 : Con τ := { args := [.ty 48, .fn 112 []], L := [], ret := .ty 3, L' := [], R := Int, dflt := default, F := fun N a b => Fslices_IndexFunc_Slotted_283 N a.1, of := fun r => (r, ()) }
noncomputable def datslices_IndexFunc_Slotted_283 : Dat τ := { D := D0, tbl := tblOf [(112, conrecord_maySlotted_1)], lp := lpsOf [(2, lpslices_IndexFunc_Slotted_283x2)], k0 := 0, mu := [], un := [] }
theorem okslices_IndexFunc_Slotted_283 : ConOk E C 137 conslices_IndexFunc_Slotted_283 :=
  con_ok (D := datslices_IndexFunc_Slotted_283) ⟨d0Ok, eGood, tblOf_ok (l := [(112, conrecord_maySlotted_1)]) ⟨okrecord_maySlotted_1, trivial⟩⟩ conslices_IndexFunc_Slotted_283 (fun a b => a) none (fun _ _ => rfl) rfl (fun _ _ h => nomatch h) 1000000 (fn := Try.f137) Try.func137 rfl (by kernel_rfl) (by kernel_rfl) rfl (by intro N a b; kernel_rfl)

/-- slices.ContainsFunc[[]orchard/api.Slotted,orchard/api.Slotted] -/
def Fslices_ContainsFunc_Slotted_283 (N : Nat) (s : List (GSlotted)) : Option (Bool) :=
 ((Fslices_IndexFunc_Slotted_283 N s).bind fun r1 =>
 (some (decide (0 ≤ r1))))
def conslices_ContainsFunc_Slotted_283 : Con τ := { args := [.ty 48, .fn 112 []], L := [], ret := .ty 4, L' := [], R := Bool, dflt := default, F := fun N a b => Fslices_ContainsFunc_Slotted_283 N a.1, of := fun r => (r, ()) }
noncomputable def datslices_ContainsFunc_Slotted_283 : Dat τ := { D := D0, tbl := tblOf [(137, conslices_IndexFunc_Slotted_283)], lp := lpsOf [], k0 := 0, mu := [], un := [] }
theorem okslices_ContainsFunc_Slotted_283 : ConOk E C 111 conslices_ContainsFunc_Slotted_283 :=
  con_ok (D := datslices_ContainsFunc_Slotted_283) ⟨d0Ok, eGood, tblOf_ok (l := [(137, conslices_IndexFunc_Slotted_283)]) ⟨okslices_IndexFunc_Slotted_283, trivial⟩⟩ conslices_ContainsFunc_Slotted_283 (fun a b => a) none (fun _ _ => rfl) rfl (fun _ _ h => nomatch h) 1000000 (fn := Try.f111) Try.func111 rfl (by kernel_rfl) (by kernel_rfl) rfl (by intro N a b; kernel_rfl)

/-- orchard/record.maySlotted -/
def Frecord_maySlotted (N : Nat) (l : List (GSlotted)) (least : Int) (most : Int) : Option (Bool) :=
 ((bif ((decide (least ≤ ((l).length : Int))) && (decide (((l).length : Int) ≤ most))) then Fslices_ContainsFunc_Slotted_283 N l else some default).bind fun r1 =>
 (some (((decide (least ≤ ((l).length : Int))) && (decide (((l).length : Int) ≤ most))) && (!r1))))
def conrecord_maySlotted : Con τ := { args := [.ty 48, .ty 3, .ty 3], L := [], ret := .ty 4, L' := [], R := Bool, dflt := default, F := fun N a b => Frecord_maySlotted N a.1 a.2.1 a.2.2.1, of := fun r => (r, ()) }
noncomputable def datrecord_maySlotted : Dat τ := { D := D0, tbl := tblOf [(111, conslices_ContainsFunc_Slotted_283)], lp := lpsOf [], k0 := 0, mu := [], un := [] }
theorem okrecord_maySlotted : ConOk E C 79 conrecord_maySlotted :=
  con_ok (D := datrecord_maySlotted) ⟨d0Ok, eGood, tblOf_ok (l := [(111, conslices_ContainsFunc_Slotted_283)]) ⟨okslices_ContainsFunc_Slotted_283, trivial⟩⟩ conrecord_maySlotted (fun a b => a) none (fun _ _ => rfl) rfl (fun _ _ h => nomatch h) 1000000 (fn := Try.f79) Try.func79 rfl (by kernel_rfl) (by kernel_rfl) rfl (by intro N a b; kernel_rfl)

/-- orchard/record.sameSlotted -/
def Frecord_sameSlotted (N : Nat) (a : GSlotted) (b : GSlotted) : Option (Bool) :=
 ((bif ((a.Slot == b.Slot) && ((a.Ballot.Round == b.Ballot.Round) && (a.Ballot.Replica == b.Ballot.Replica))) then Frecord_SameEntry N a.Entry b.Entry else some default).bind fun r1 =>
 (some (((a.Slot == b.Slot) && ((a.Ballot.Round == b.Ballot.Round) && (a.Ballot.Replica == b.Ballot.Replica))) && r1)))
def conrecord_sameSlotted : Con τ := { args := [.ty 80, .ty 80], L := [], ret := .ty 4, L' := [], R := Bool, dflt := default, F := fun N a b => Frecord_sameSlotted N a.1 a.2.1, of := fun r => (r, ()) }
noncomputable def datrecord_sameSlotted : Dat τ := { D := D0, tbl := tblOf [(14, conrecord_SameEntry)], lp := lpsOf [], k0 := 0, mu := [], un := [] }
theorem okrecord_sameSlotted : ConOk E C 55 conrecord_sameSlotted :=
  con_ok (D := datrecord_sameSlotted) ⟨d0Ok, eGood, tblOf_ok (l := [(14, conrecord_SameEntry)]) ⟨okrecord_SameEntry, trivial⟩⟩ conrecord_sameSlotted (fun a b => a) none (fun _ _ => rfl) rfl (fun _ _ h => nomatch h) 1000000 (fn := Try.f55) Try.func55 rfl (by kernel_rfl) (by kernel_rfl) rfl (by intro N a b; kernel_rfl)

structure Sslices_EqualFunc_Slotted_117x4 where
  t17 : Int
def tsslices_EqualFunc_Slotted_117x4 : List Sl := [.keep, .keep, .keep, .keep, .keep, .keep, .junk, .junk, .junk, .junk, .keep, .keep, .keep, .keep, .keep, .keep, .keep, .sh (.ty 2), .junk, .junk, .junk, .junk, .junk, .junk, .junk, .junk, .junk, .junk, .junk, .junk, .junk, .junk]
def hsslices_EqualFunc_Slotted_117x4 : List ESh := []
def toslices_EqualFunc_Slotted_117x4 (a : Sl.Ts τ tsslices_EqualFunc_Slotted_117x4) (b : ESh.Ts τ hsslices_EqualFunc_Slotted_117x4) : Sslices_EqualFunc_Slotted_117x4 := ⟨a.2.2.2.2.2.2.2.2.2.2.2.2.2.2.2.2.2.1⟩
def otslices_EqualFunc_Slotted_117x4 (s : Sslices_EqualFunc_Slotted_117x4) : Sl.Ts τ tsslices_EqualFunc_Slotted_117x4 := ((), (), (), (), (), (), (), (), (), (), (), (), (), (), (), (), (), s.t17, (), (), (), (), (), (), (), (), (), (), (), (), (), (), ())
def ohslices_EqualFunc_Slotted_117x4 (s : Sslices_EqualFunc_Slotted_117x4) : ESh.Ts τ hsslices_EqualFunc_Slotted_117x4 := ()
def lpslices_EqualFunc_Slotted_117x4 : Lp τ := { ts := tsslices_EqualFunc_Slotted_117x4, hs := hsslices_EqualFunc_Slotted_117x4, S := Sslices_EqualFunc_Slotted_117x4, to := toslices_EqualFunc_Slotted_117x4, ot := otslices_EqualFunc_Slotted_117x4, oh := ohslices_EqualFunc_Slotted_117x4, hk := [], tk := [], ot_to := fun _ _ => rfl, oh_to := fun _ _ => rfl }
/-- slices.EqualFunc[[]orchard/api.Slotted,[]orchard/api.Slotted,orchard/api.Slotted,orchard/api.Slotted] -/
def Fslices_EqualFunc_Slotted_117 (N : Nat) (s1_ : List (GSlotted)) (s2_ : List (GSlotted)) : Option (Bool) :=
 (bif (!(((s1_).length : Int) == ((s2_).length : Int))) then
 (some false)
 else
 (iter N (fun (s1 : Sslices_EqualFunc_Slotted_117x4) next2 =>
 (bif (decide (s1.t17 < ((s1_).length : Int))) then
 (bif (ibB s1.t17 ((s1_).length : Int)) then
 (bif (ibB s1.t17 ((s2_).length : Int)) then
 ((Frecord_sameSlotted N (⟨(lget s1_ s1.t17 default).Slot, ((lget s1_ s1.t17 default).Ballot), (⟨((lget s1_ s1.t17 default).Entry).Kind, ((lget s1_ s1.t17 default).Entry).Session, ((lget s1_ s1.t17 default).Entry).Request, (⟨((((lget s1_ s1.t17 default).Entry).Op).Stamp), (((lget s1_ s1.t17 default).Entry).Op).Kind, (((lget s1_ s1.t17 default).Entry).Op).Node, (((lget s1_ s1.t17 default).Entry).Op).Parent, (((lget s1_ s1.t17 default).Entry).Op).Name, (((lget s1_ s1.t17 default).Entry).Op).Key, (((lget s1_ s1.t17 default).Entry).Op).Value⟩ : GOp), ((lget s1_ s1.t17 default).Entry).Origin, ((lget s1_ s1.t17 default).Entry).Seq, ((lget s1_ s1.t17 default).Entry).Ops, (((lget s1_ s1.t17 default).Entry).Epoch), ((lget s1_ s1.t17 default).Entry).From, ((lget s1_ s1.t17 default).Entry).Vector_, ((lget s1_ s1.t17 default).Entry).Clock, (((lget s1_ s1.t17 default).Entry).Part), ((lget s1_ s1.t17 default).Entry).Site, ((lget s1_ s1.t17 default).Entry).Sponsor, ((lget s1_ s1.t17 default).Entry).Length⟩ : GEntry)⟩ : GSlotted) (⟨(lget s2_ s1.t17 default).Slot, ((lget s2_ s1.t17 default).Ballot), (⟨((lget s2_ s1.t17 default).Entry).Kind, ((lget s2_ s1.t17 default).Entry).Session, ((lget s2_ s1.t17 default).Entry).Request, (⟨((((lget s2_ s1.t17 default).Entry).Op).Stamp), (((lget s2_ s1.t17 default).Entry).Op).Kind, (((lget s2_ s1.t17 default).Entry).Op).Node, (((lget s2_ s1.t17 default).Entry).Op).Parent, (((lget s2_ s1.t17 default).Entry).Op).Name, (((lget s2_ s1.t17 default).Entry).Op).Key, (((lget s2_ s1.t17 default).Entry).Op).Value⟩ : GOp), ((lget s2_ s1.t17 default).Entry).Origin, ((lget s2_ s1.t17 default).Entry).Seq, ((lget s2_ s1.t17 default).Entry).Ops, (((lget s2_ s1.t17 default).Entry).Epoch), ((lget s2_ s1.t17 default).Entry).From, ((lget s2_ s1.t17 default).Entry).Vector_, ((lget s2_ s1.t17 default).Entry).Clock, (((lget s2_ s1.t17 default).Entry).Part), ((lget s2_ s1.t17 default).Entry).Site, ((lget s2_ s1.t17 default).Entry).Sponsor, ((lget s2_ s1.t17 default).Entry).Length⟩ : GEntry)⟩ : GSlotted)).bind fun r3 =>
 (bif (!r3) then
 (some false)
 else
 (next2 ⟨(IntKind.i64.wrap (s1.t17 + 1))⟩)))
 else none)
 else none)
 else
 (some true))) ⟨0⟩))
def conslices_EqualFunc_Slotted_117 : Con τ := { args := [.ty 48, .ty 48, .fn 55 []], L := [], ret := .ty 4, L' := [], R := Bool, dflt := default, F := fun N a b => Fslices_EqualFunc_Slotted_117 N a.1 a.2.1, of := fun r => (r, ()) }
noncomputable def datslices_EqualFunc_Slotted_117 : Dat τ := { D := D0, tbl := tblOf [(55, conrecord_sameSlotted)], lp := lpsOf [(4, lpslices_EqualFunc_Slotted_117x4)], k0 := 0, mu := [], un := [] }
theorem okslices_EqualFunc_Slotted_117 : ConOk E C 54 conslices_EqualFunc_Slotted_117 :=
  con_ok (D := datslices_EqualFunc_Slotted_117) ⟨d0Ok, eGood, tblOf_ok (l := [(55, conrecord_sameSlotted)]) ⟨okrecord_sameSlotted, trivial⟩⟩ conslices_EqualFunc_Slotted_117 (fun a b => a) none (fun _ _ => rfl) rfl (fun _ _ h => nomatch h) 1000000 (fn := Try.f54) Try.func54 rfl (by kernel_rfl) (by kernel_rfl) rfl (by intro N a b; kernel_rfl)

/-- orchard/record.SameMsg -/
def Frecord_SameMsg (N : Nat) (a : GMsg) (b : GMsg) : Option (Bool) :=
 ((bif (((((a.Kind == b.Kind) && ((a.From.Group == b.From.Group) && (a.From.Replica == b.From.Replica))) && ((a.To.Group == b.To.Group) && (a.To.Replica == b.To.Replica))) && ((a.Ballot.Round == b.Ballot.Round) && (a.Ballot.Replica == b.Ballot.Replica))) && (a.Slot == b.Slot)) then Fslices_EqualFunc_Slotted_117 N a.List_ b.List_ else some default).bind fun r1 =>
 ((bif ((((((a.Kind == b.Kind) && ((a.From.Group == b.From.Group) && (a.From.Replica == b.From.Replica))) && ((a.To.Group == b.To.Group) && (a.To.Replica == b.To.Replica))) && ((a.Ballot.Round == b.Ballot.Round) && (a.Ballot.Replica == b.Ballot.Replica))) && (a.Slot == b.Slot)) && r1) then Frecord_SameEntry N a.Entry b.Entry else some default).bind fun r2 =>
 ((bif (((((((((((a.Kind == b.Kind) && ((a.From.Group == b.From.Group) && (a.From.Replica == b.From.Replica))) && ((a.To.Group == b.To.Group) && (a.To.Replica == b.To.Replica))) && ((a.Ballot.Round == b.Ballot.Round) && (a.Ballot.Replica == b.Ballot.Replica))) && (a.Slot == b.Slot)) && r1) && r2) && (a.Number == b.Number)) && (vbeq beq2 a.Vector_ b.Vector_)) && (a.Clock == b.Clock)) && (a.Origin == b.Origin)) then Fslices_Equal_Op N a.Ops b.Ops else some default).bind fun r3 =>
 ((bif (((((((((((((a.Kind == b.Kind) && ((a.From.Group == b.From.Group) && (a.From.Replica == b.From.Replica))) && ((a.To.Group == b.To.Group) && (a.To.Replica == b.To.Replica))) && ((a.Ballot.Round == b.Ballot.Round) && (a.Ballot.Replica == b.Ballot.Replica))) && (a.Slot == b.Slot)) && r1) && r2) && (a.Number == b.Number)) && (vbeq beq2 a.Vector_ b.Vector_)) && (a.Clock == b.Clock)) && (a.Origin == b.Origin)) && r3) && ((a.Epoch.Number == b.Epoch.Number) && ((vbeq beq3 a.Epoch.States b.Epoch.States) && ((vbeq beq2 a.Epoch.Seals b.Epoch.Seals) && (vbeq beq3 a.Epoch.Sponsor b.Epoch.Sponsor))))) then Frecord_samePart N a.Part b.Part else some default).bind fun r4 =>
 (some ((((((((((((((a.Kind == b.Kind) && ((a.From.Group == b.From.Group) && (a.From.Replica == b.From.Replica))) && ((a.To.Group == b.To.Group) && (a.To.Replica == b.To.Replica))) && ((a.Ballot.Round == b.Ballot.Round) && (a.Ballot.Replica == b.Ballot.Replica))) && (a.Slot == b.Slot)) && r1) && r2) && (a.Number == b.Number)) && (vbeq beq2 a.Vector_ b.Vector_)) && (a.Clock == b.Clock)) && (a.Origin == b.Origin)) && r3) && ((a.Epoch.Number == b.Epoch.Number) && ((vbeq beq3 a.Epoch.States b.Epoch.States) && ((vbeq beq2 a.Epoch.Seals b.Epoch.Seals) && (vbeq beq3 a.Epoch.Sponsor b.Epoch.Sponsor))))) && r4))))))
def conrecord_SameMsg : Con τ := { args := [.ty 50, .ty 50], L := [], ret := .ty 4, L' := [], R := Bool, dflt := default, F := fun N a b => Frecord_SameMsg N a.1 a.2.1, of := fun r => (r, ()) }
noncomputable def datrecord_SameMsg : Dat τ := { D := D0, tbl := tblOf [(54, conslices_EqualFunc_Slotted_117), (14, conrecord_SameEntry), (52, conslices_Equal_Op), (53, conrecord_samePart)], lp := lpsOf [], k0 := 0, mu := [], un := [] }
theorem okrecord_SameMsg : ConOk E C 15 conrecord_SameMsg :=
  con_ok (D := datrecord_SameMsg) ⟨d0Ok, eGood, tblOf_ok (l := [(54, conslices_EqualFunc_Slotted_117), (14, conrecord_SameEntry), (52, conslices_Equal_Op), (53, conrecord_samePart)]) ⟨okslices_EqualFunc_Slotted_117, ⟨okrecord_SameEntry, ⟨okslices_Equal_Op, ⟨okrecord_samePart, trivial⟩⟩⟩⟩⟩ conrecord_SameMsg (fun a b => a) none (fun _ _ => rfl) rfl (fun _ _ h => nomatch h) 1000000 (fn := Try.f15) Try.func15 rfl (by kernel_rfl) (by kernel_rfl) rfl (by intro N a b; kernel_rfl)

structure Srecord_CheckMsgxc where
  ok : Bool
  b0 : GMsg
  b1 : GMsg
def tsrecord_CheckMsgxc : List Sl := [.keep, .sh (.ptr 0 []), .junk, .sh (.ptr 1 []), .sh (.ty 4), .junk, .junk, .junk, .junk, .junk, .junk, .junk, .junk, .junk, .junk, .junk, .junk, .junk, .junk, .junk, .junk, .junk, .junk, .junk, .junk, .junk, .junk, .junk, .junk, .junk, .junk, .junk, .junk, .junk, .junk, .junk, .junk, .junk, .junk, .junk, .junk, .junk, .junk, .junk, .junk, .junk, .junk, .junk, .junk, .junk, .junk, .junk, .junk, .junk, .junk, .junk, .junk, .junk, .junk, .junk, .junk, .junk, .junk, .junk, .junk, .junk, .junk, .junk, .junk, .junk, .junk, .junk, .junk, .junk, .junk, .junk, .junk, .junk, .junk, .junk, .junk, .junk, .junk, .junk, .junk, .junk, .junk, .junk, .junk, .junk, .junk, .junk, .junk, .junk, .junk, .junk, .junk, .junk, .junk, .junk, .junk, .junk, .junk, .junk, .junk, .junk, .junk, .junk, .junk, .junk, .junk, .junk, .junk, .junk, .junk, .junk, .junk, .junk, .junk, .junk, .junk, .junk, .junk, .junk, .junk, .junk, .junk, .junk, .junk, .junk, .junk, .junk, .junk, .junk, .junk, .junk, .junk, .junk, .junk, .junk, .junk, .junk, .junk, .junk, .junk, .junk, .junk, .junk, .junk, .junk, .junk, .junk, .junk, .junk, .junk, .junk, .junk, .junk, .junk, .junk, .junk, .junk, .junk, .junk, .keep, .keep, .keep, .keep, .keep, .keep, .keep, .keep, .keep, .keep, .keep, .keep, .keep, .keep, .keep, .keep, .keep, .keep, .keep, .keep, .keep, .keep, .keep, .keep, .keep, .keep, .keep, .keep, .keep, .keep, .keep, .keep, .keep, .keep, .keep, .keep, .keep, .keep, .keep]
def hsrecord_CheckMsgxc : List ESh := [.box (.ty 49), .box (.ty 49)]
def torecord_CheckMsgxc (a : Sl.Ts τ tsrecord_CheckMsgxc) (b : ESh.Ts τ hsrecord_CheckMsgxc) : Srecord_CheckMsgxc := ⟨a.2.2.2.2.1, b.1, b.2.1⟩
def otrecord_CheckMsgxc (s : Srecord_CheckMsgxc) : Sl.Ts τ tsrecord_CheckMsgxc := ((), (), (), (), s.ok, (), (), (), (), (), (), (), (), (), (), (), (), (), (), (), (), (), (), (), (), (), (), (), (), (), (), (), (), (), (), (), (), (), (), (), (), (), (), (), (), (), (), (), (), (), (), (), (), (), (), (), (), (), (), (), (), (), (), (), (), (), (), (), (), (), (), (), (), (), (), (), (), (), (), (), (), (), (), (), (), (), (), (), (), (), (), (), (), (), (), (), (), (), (), (), (), (), (), (), (), (), (), (), (), (), (), (), (), (), (), (), (), (), (), (), (), (), (), (), (), (), (), (), (), (), (), (), (), (), (), (), (), (), (), (), (), (), (), (), (), (), (), (), (), (), (), (), (), (), (), (), (), (), (), (), (), (), (), (), (), (), (), (), (), (), (), (), (), (), (), (), (), (), (), (), (), (), (), (), (), (), (), (), (), (), (), (), (), (), (), (), (), (), (), (), (), (), (), ())
def ohrecord_CheckMsgxc (s : Srecord_CheckMsgxc) : ESh.Ts τ hsrecord_CheckMsgxc := (s.b0, s.b1, ())
def lprecord_CheckMsgxc : Lp τ := { ts := tsrecord_CheckMsgxc, hs := hsrecord_CheckMsgxc, S := Srecord_CheckMsgxc, to := torecord_CheckMsgxc, ot := otrecord_CheckMsgxc, oh := ohrecord_CheckMsgxc, hk := [], tk := [], ot_to := fun _ _ => rfl, oh_to := fun _ _ => rfl }
def Grecord_CheckMsg (N : Nat) (m : GMsg) : Option (Srecord_CheckMsgxc ⊕ (Int)) :=
 ((Frecord_mayAddr N [m.From, m.To]).bind fun r1 =>
 (bif (m.Kind == 1) then
 (bif (m.Kind == 1) then
 (some (.inl (⟨r1, m, (⟨m.Kind, m.From, m.To, m.Ballot, m.Slot, [], (⟨0, 0, 0, (⟨(⟨0, 0⟩ : GStamp), 0, 0, 0, [], [], []⟩ : GOp), 0, 0, [], (⟨0, (Vector.replicate 8 (default : Int)), (Vector.replicate 8 (default : Int)), (Vector.replicate 8 (default : Int))⟩ : GEpoch), 0, (Vector.replicate 8 (default : Int)), 0, (⟨0, 0, 0, []⟩ : GPart), 0, 0, 0⟩ : GEntry), 0, (Vector.replicate 8 (default : Int)), 0, 0, [], (⟨0, (Vector.replicate 8 (default : Int)), (Vector.replicate 8 (default : Int)), (Vector.replicate 8 (default : Int))⟩ : GEpoch), (⟨0, 0, 0, []⟩ : GPart)⟩ : GMsg)⟩ : Srecord_CheckMsgxc)))
 else
 (bif (m.Kind == 2) then
 (some (.inl (⟨r1, m, (⟨m.Kind, m.From, m.To, m.Ballot, m.Slot, m.List_, (⟨0, 0, 0, (⟨(⟨0, 0⟩ : GStamp), 0, 0, 0, [], [], []⟩ : GOp), 0, 0, [], (⟨0, (Vector.replicate 8 (default : Int)), (Vector.replicate 8 (default : Int)), (Vector.replicate 8 (default : Int))⟩ : GEpoch), 0, (Vector.replicate 8 (default : Int)), 0, (⟨0, 0, 0, []⟩ : GPart), 0, 0, 0⟩ : GEntry), 0, (Vector.replicate 8 (default : Int)), 0, 0, [], (⟨0, (Vector.replicate 8 (default : Int)), (Vector.replicate 8 (default : Int)), (Vector.replicate 8 (default : Int))⟩ : GEpoch), (⟨0, 0, 0, []⟩ : GPart)⟩ : GMsg)⟩ : Srecord_CheckMsgxc)))
 else
 (bif (m.Kind == 3) then
 (some (.inl (⟨(r1 && (((m.List_).length : Int) == 1)), m, (⟨m.Kind, m.From, m.To, m.Ballot, 0, m.List_, (⟨0, 0, 0, (⟨(⟨0, 0⟩ : GStamp), 0, 0, 0, [], [], []⟩ : GOp), 0, 0, [], (⟨0, (Vector.replicate 8 (default : Int)), (Vector.replicate 8 (default : Int)), (Vector.replicate 8 (default : Int))⟩ : GEpoch), 0, (Vector.replicate 8 (default : Int)), 0, (⟨0, 0, 0, []⟩ : GPart), 0, 0, 0⟩ : GEntry), 0, (Vector.replicate 8 (default : Int)), 0, 0, [], (⟨0, (Vector.replicate 8 (default : Int)), (Vector.replicate 8 (default : Int)), (Vector.replicate 8 (default : Int))⟩ : GEpoch), (⟨0, 0, 0, []⟩ : GPart)⟩ : GMsg)⟩ : Srecord_CheckMsgxc)))
 else
 (bif (m.Kind == 5) then
 (some (.inl (⟨r1, m, (⟨m.Kind, m.From, m.To, m.Ballot, 0, [], (⟨0, 0, 0, (⟨(⟨0, 0⟩ : GStamp), 0, 0, 0, [], [], []⟩ : GOp), 0, 0, [], (⟨0, (Vector.replicate 8 (default : Int)), (Vector.replicate 8 (default : Int)), (Vector.replicate 8 (default : Int))⟩ : GEpoch), 0, (Vector.replicate 8 (default : Int)), 0, (⟨0, 0, 0, []⟩ : GPart), 0, 0, 0⟩ : GEntry), 0, (Vector.replicate 8 (default : Int)), 0, 0, [], (⟨0, (Vector.replicate 8 (default : Int)), (Vector.replicate 8 (default : Int)), (Vector.replicate 8 (default : Int))⟩ : GEpoch), (⟨0, 0, 0, []⟩ : GPart)⟩ : GMsg)⟩ : Srecord_CheckMsgxc)))
 else
 (bif (m.Kind == 6) then
 (some (.inl (⟨(r1 && (decide (1 ≤ ((m.List_).length : Int)))), m, (⟨m.Kind, m.From, m.To, (⟨0, 0⟩ : GBallot), 0, m.List_, (⟨0, 0, 0, (⟨(⟨0, 0⟩ : GStamp), 0, 0, 0, [], [], []⟩ : GOp), 0, 0, [], (⟨0, (Vector.replicate 8 (default : Int)), (Vector.replicate 8 (default : Int)), (Vector.replicate 8 (default : Int))⟩ : GEpoch), 0, (Vector.replicate 8 (default : Int)), 0, (⟨0, 0, 0, []⟩ : GPart), 0, 0, 0⟩ : GEntry), 0, (Vector.replicate 8 (default : Int)), 0, 0, [], (⟨0, (Vector.replicate 8 (default : Int)), (Vector.replicate 8 (default : Int)), (Vector.replicate 8 (default : Int))⟩ : GEpoch), (⟨0, 0, 0, []⟩ : GPart)⟩ : GMsg)⟩ : Srecord_CheckMsgxc)))
 else
 (bif (m.Kind == 8) then
 (some (.inl (⟨r1, m, (⟨m.Kind, m.From, m.To, (⟨0, 0⟩ : GBallot), m.Slot, [], (⟨0, 0, 0, (⟨(⟨0, 0⟩ : GStamp), 0, 0, 0, [], [], []⟩ : GOp), 0, 0, [], (⟨0, (Vector.replicate 8 (default : Int)), (Vector.replicate 8 (default : Int)), (Vector.replicate 8 (default : Int))⟩ : GEpoch), 0, (Vector.replicate 8 (default : Int)), 0, (⟨0, 0, 0, []⟩ : GPart), 0, 0, 0⟩ : GEntry), 0, (Vector.replicate 8 (default : Int)), 0, 0, [], (⟨0, (Vector.replicate 8 (default : Int)), (Vector.replicate 8 (default : Int)), (Vector.replicate 8 (default : Int))⟩ : GEpoch), (⟨0, 0, 0, []⟩ : GPart)⟩ : GMsg)⟩ : Srecord_CheckMsgxc)))
 else
 (bif (m.Kind == 9) then
 (some (.inl (⟨r1, m, (⟨m.Kind, m.From, m.To, (⟨0, 0⟩ : GBallot), 0, [], m.Entry, 0, (Vector.replicate 8 (default : Int)), 0, 0, [], (⟨0, (Vector.replicate 8 (default : Int)), (Vector.replicate 8 (default : Int)), (Vector.replicate 8 (default : Int))⟩ : GEpoch), (⟨0, 0, 0, []⟩ : GPart)⟩ : GMsg)⟩ : Srecord_CheckMsgxc)))
 else
 (bif (m.Kind == 10) then
 (some (.inl (⟨r1, m, (⟨m.Kind, m.From, m.To, (⟨0, 0⟩ : GBallot), 0, [], (⟨0, 0, 0, (⟨(⟨0, 0⟩ : GStamp), 0, 0, 0, [], [], []⟩ : GOp), 0, 0, [], (⟨0, (Vector.replicate 8 (default : Int)), (Vector.replicate 8 (default : Int)), (Vector.replicate 8 (default : Int))⟩ : GEpoch), 0, (Vector.replicate 8 (default : Int)), 0, (⟨0, 0, 0, []⟩ : GPart), 0, 0, 0⟩ : GEntry), m.Number, m.Vector_, m.Clock, 0, [], (⟨0, (Vector.replicate 8 (default : Int)), (Vector.replicate 8 (default : Int)), (Vector.replicate 8 (default : Int))⟩ : GEpoch), (⟨0, 0, 0, []⟩ : GPart)⟩ : GMsg)⟩ : Srecord_CheckMsgxc)))
 else
 (bif (m.Kind == 11) then
 ((bif r1 then Frecord_site N [m.Origin] else some default).bind fun r2 =>
 ((bif (r1 && r2) then Frecord_mayOps N m.Ops 1 else some default).bind fun r3 =>
 (some (.inl (⟨((r1 && r2) && r3), m, (⟨m.Kind, m.From, m.To, (⟨0, 0⟩ : GBallot), m.Slot, [], (⟨0, 0, 0, (⟨(⟨0, 0⟩ : GStamp), 0, 0, 0, [], [], []⟩ : GOp), 0, 0, [], (⟨0, (Vector.replicate 8 (default : Int)), (Vector.replicate 8 (default : Int)), (Vector.replicate 8 (default : Int))⟩ : GEpoch), 0, (Vector.replicate 8 (default : Int)), 0, (⟨0, 0, 0, []⟩ : GPart), 0, 0, 0⟩ : GEntry), m.Number, (Vector.replicate 8 (default : Int)), 0, m.Origin, m.Ops, (⟨0, (Vector.replicate 8 (default : Int)), (Vector.replicate 8 (default : Int)), (Vector.replicate 8 (default : Int))⟩ : GEpoch), (⟨0, 0, 0, []⟩ : GPart)⟩ : GMsg)⟩ : Srecord_CheckMsgxc)))))
 else
 (bif (m.Kind == 12) then
 ((bif r1 then Frecord_mayEpoch N m.Epoch else some default).bind fun r4 =>
 (some (.inl (⟨(r1 && r4), m, (⟨m.Kind, m.From, m.To, (⟨0, 0⟩ : GBallot), 0, [], (⟨0, 0, 0, (⟨(⟨0, 0⟩ : GStamp), 0, 0, 0, [], [], []⟩ : GOp), 0, 0, [], (⟨0, (Vector.replicate 8 (default : Int)), (Vector.replicate 8 (default : Int)), (Vector.replicate 8 (default : Int))⟩ : GEpoch), 0, (Vector.replicate 8 (default : Int)), 0, (⟨0, 0, 0, []⟩ : GPart), 0, 0, 0⟩ : GEntry), 0, (Vector.replicate 8 (default : Int)), 0, 0, [], m.Epoch, (⟨0, 0, 0, []⟩ : GPart)⟩ : GMsg)⟩ : Srecord_CheckMsgxc))))
 else
 (bif (m.Kind == 13) then
 ((bif r1 then Frecord_mayPart N m.Part else some default).bind fun r5 =>
 (some (.inl (⟨(r1 && r5), m, (⟨m.Kind, m.From, m.To, (⟨0, 0⟩ : GBallot), 0, [], (⟨0, 0, 0, (⟨(⟨0, 0⟩ : GStamp), 0, 0, 0, [], [], []⟩ : GOp), 0, 0, [], (⟨0, (Vector.replicate 8 (default : Int)), (Vector.replicate 8 (default : Int)), (Vector.replicate 8 (default : Int))⟩ : GEpoch), 0, (Vector.replicate 8 (default : Int)), 0, (⟨0, 0, 0, []⟩ : GPart), 0, 0, 0⟩ : GEntry), 0, (Vector.replicate 8 (default : Int)), 0, 0, [], (⟨0, (Vector.replicate 8 (default : Int)), (Vector.replicate 8 (default : Int)), (Vector.replicate 8 (default : Int))⟩ : GEpoch), m.Part⟩ : GMsg)⟩ : Srecord_CheckMsgxc))))
 else
 (bif (m.Kind == 14) then
 (some (.inl (⟨r1, m, (⟨m.Kind, m.From, m.To, (⟨0, 0⟩ : GBallot), 0, [], (⟨0, 0, 0, (⟨(⟨0, 0⟩ : GStamp), 0, 0, 0, [], [], []⟩ : GOp), 0, 0, [], (⟨0, (Vector.replicate 8 (default : Int)), (Vector.replicate 8 (default : Int)), (Vector.replicate 8 (default : Int))⟩ : GEpoch), 0, (Vector.replicate 8 (default : Int)), 0, (⟨0, 0, 0, []⟩ : GPart), 0, 0, 0⟩ : GEntry), m.Number, m.Vector_, 0, 0, [], (⟨0, (Vector.replicate 8 (default : Int)), (Vector.replicate 8 (default : Int)), (Vector.replicate 8 (default : Int))⟩ : GEpoch), (⟨0, 0, 0, []⟩ : GPart)⟩ : GMsg)⟩ : Srecord_CheckMsgxc)))
 else
 (bif (m.Kind == 15) then
 ((bif r1 then Frecord_mayPart N m.Part else some default).bind fun r6 =>
 (some (.inl (⟨(r1 && r6), m, (⟨m.Kind, m.From, m.To, (⟨0, 0⟩ : GBallot), m.Slot, [], (⟨0, 0, 0, (⟨(⟨0, 0⟩ : GStamp), 0, 0, 0, [], [], []⟩ : GOp), 0, 0, [], (⟨0, (Vector.replicate 8 (default : Int)), (Vector.replicate 8 (default : Int)), (Vector.replicate 8 (default : Int))⟩ : GEpoch), 0, (Vector.replicate 8 (default : Int)), 0, (⟨0, 0, 0, []⟩ : GPart), 0, 0, 0⟩ : GEntry), 0, (Vector.replicate 8 (default : Int)), 0, 0, [], (⟨0, (Vector.replicate 8 (default : Int)), (Vector.replicate 8 (default : Int)), (Vector.replicate 8 (default : Int))⟩ : GEpoch), m.Part⟩ : GMsg)⟩ : Srecord_CheckMsgxc))))
 else
 (some (.inl (⟨false, m, (⟨m.Kind, m.From, m.To, (⟨0, 0⟩ : GBallot), 0, [], (⟨0, 0, 0, (⟨(⟨0, 0⟩ : GStamp), 0, 0, 0, [], [], []⟩ : GOp), 0, 0, [], (⟨0, (Vector.replicate 8 (default : Int)), (Vector.replicate 8 (default : Int)), (Vector.replicate 8 (default : Int))⟩ : GEpoch), 0, (Vector.replicate 8 (default : Int)), 0, (⟨0, 0, 0, []⟩ : GPart), 0, 0, 0⟩ : GEntry), 0, (Vector.replicate 8 (default : Int)), 0, 0, [], (⟨0, (Vector.replicate 8 (default : Int)), (Vector.replicate 8 (default : Int)), (Vector.replicate 8 (default : Int))⟩ : GEpoch), (⟨0, 0, 0, []⟩ : GPart)⟩ : GMsg)⟩ : Srecord_CheckMsgxc))))))))))))))))
 else
 (bif (m.Kind == 4) then
 (bif (m.Kind == 4) then
 (some (.inl (⟨r1, m, (⟨m.Kind, m.From, m.To, m.Ballot, m.Slot, [], (⟨0, 0, 0, (⟨(⟨0, 0⟩ : GStamp), 0, 0, 0, [], [], []⟩ : GOp), 0, 0, [], (⟨0, (Vector.replicate 8 (default : Int)), (Vector.replicate 8 (default : Int)), (Vector.replicate 8 (default : Int))⟩ : GEpoch), 0, (Vector.replicate 8 (default : Int)), 0, (⟨0, 0, 0, []⟩ : GPart), 0, 0, 0⟩ : GEntry), 0, (Vector.replicate 8 (default : Int)), 0, 0, [], (⟨0, (Vector.replicate 8 (default : Int)), (Vector.replicate 8 (default : Int)), (Vector.replicate 8 (default : Int))⟩ : GEpoch), (⟨0, 0, 0, []⟩ : GPart)⟩ : GMsg)⟩ : Srecord_CheckMsgxc)))
 else
 (bif (m.Kind == 2) then
 (some (.inl (⟨r1, m, (⟨m.Kind, m.From, m.To, m.Ballot, m.Slot, m.List_, (⟨0, 0, 0, (⟨(⟨0, 0⟩ : GStamp), 0, 0, 0, [], [], []⟩ : GOp), 0, 0, [], (⟨0, (Vector.replicate 8 (default : Int)), (Vector.replicate 8 (default : Int)), (Vector.replicate 8 (default : Int))⟩ : GEpoch), 0, (Vector.replicate 8 (default : Int)), 0, (⟨0, 0, 0, []⟩ : GPart), 0, 0, 0⟩ : GEntry), 0, (Vector.replicate 8 (default : Int)), 0, 0, [], (⟨0, (Vector.replicate 8 (default : Int)), (Vector.replicate 8 (default : Int)), (Vector.replicate 8 (default : Int))⟩ : GEpoch), (⟨0, 0, 0, []⟩ : GPart)⟩ : GMsg)⟩ : Srecord_CheckMsgxc)))
 else
 (bif (m.Kind == 3) then
 (some (.inl (⟨(r1 && (((m.List_).length : Int) == 1)), m, (⟨m.Kind, m.From, m.To, m.Ballot, 0, m.List_, (⟨0, 0, 0, (⟨(⟨0, 0⟩ : GStamp), 0, 0, 0, [], [], []⟩ : GOp), 0, 0, [], (⟨0, (Vector.replicate 8 (default : Int)), (Vector.replicate 8 (default : Int)), (Vector.replicate 8 (default : Int))⟩ : GEpoch), 0, (Vector.replicate 8 (default : Int)), 0, (⟨0, 0, 0, []⟩ : GPart), 0, 0, 0⟩ : GEntry), 0, (Vector.replicate 8 (default : Int)), 0, 0, [], (⟨0, (Vector.replicate 8 (default : Int)), (Vector.replicate 8 (default : Int)), (Vector.replicate 8 (default : Int))⟩ : GEpoch), (⟨0, 0, 0, []⟩ : GPart)⟩ : GMsg)⟩ : Srecord_CheckMsgxc)))
 else
 (bif (m.Kind == 5) then
 (some (.inl (⟨r1, m, (⟨m.Kind, m.From, m.To, m.Ballot, 0, [], (⟨0, 0, 0, (⟨(⟨0, 0⟩ : GStamp), 0, 0, 0, [], [], []⟩ : GOp), 0, 0, [], (⟨0, (Vector.replicate 8 (default : Int)), (Vector.replicate 8 (default : Int)), (Vector.replicate 8 (default : Int))⟩ : GEpoch), 0, (Vector.replicate 8 (default : Int)), 0, (⟨0, 0, 0, []⟩ : GPart), 0, 0, 0⟩ : GEntry), 0, (Vector.replicate 8 (default : Int)), 0, 0, [], (⟨0, (Vector.replicate 8 (default : Int)), (Vector.replicate 8 (default : Int)), (Vector.replicate 8 (default : Int))⟩ : GEpoch), (⟨0, 0, 0, []⟩ : GPart)⟩ : GMsg)⟩ : Srecord_CheckMsgxc)))
 else
 (bif (m.Kind == 6) then
 (some (.inl (⟨(r1 && (decide (1 ≤ ((m.List_).length : Int)))), m, (⟨m.Kind, m.From, m.To, (⟨0, 0⟩ : GBallot), 0, m.List_, (⟨0, 0, 0, (⟨(⟨0, 0⟩ : GStamp), 0, 0, 0, [], [], []⟩ : GOp), 0, 0, [], (⟨0, (Vector.replicate 8 (default : Int)), (Vector.replicate 8 (default : Int)), (Vector.replicate 8 (default : Int))⟩ : GEpoch), 0, (Vector.replicate 8 (default : Int)), 0, (⟨0, 0, 0, []⟩ : GPart), 0, 0, 0⟩ : GEntry), 0, (Vector.replicate 8 (default : Int)), 0, 0, [], (⟨0, (Vector.replicate 8 (default : Int)), (Vector.replicate 8 (default : Int)), (Vector.replicate 8 (default : Int))⟩ : GEpoch), (⟨0, 0, 0, []⟩ : GPart)⟩ : GMsg)⟩ : Srecord_CheckMsgxc)))
 else
 (bif (m.Kind == 8) then
 (some (.inl (⟨r1, m, (⟨m.Kind, m.From, m.To, (⟨0, 0⟩ : GBallot), m.Slot, [], (⟨0, 0, 0, (⟨(⟨0, 0⟩ : GStamp), 0, 0, 0, [], [], []⟩ : GOp), 0, 0, [], (⟨0, (Vector.replicate 8 (default : Int)), (Vector.replicate 8 (default : Int)), (Vector.replicate 8 (default : Int))⟩ : GEpoch), 0, (Vector.replicate 8 (default : Int)), 0, (⟨0, 0, 0, []⟩ : GPart), 0, 0, 0⟩ : GEntry), 0, (Vector.replicate 8 (default : Int)), 0, 0, [], (⟨0, (Vector.replicate 8 (default : Int)), (Vector.replicate 8 (default : Int)), (Vector.replicate 8 (default : Int))⟩ : GEpoch), (⟨0, 0, 0, []⟩ : GPart)⟩ : GMsg)⟩ : Srecord_CheckMsgxc)))
 else
 (bif (m.Kind == 9) then
 (some (.inl (⟨r1, m, (⟨m.Kind, m.From, m.To, (⟨0, 0⟩ : GBallot), 0, [], m.Entry, 0, (Vector.replicate 8 (default : Int)), 0, 0, [], (⟨0, (Vector.replicate 8 (default : Int)), (Vector.replicate 8 (default : Int)), (Vector.replicate 8 (default : Int))⟩ : GEpoch), (⟨0, 0, 0, []⟩ : GPart)⟩ : GMsg)⟩ : Srecord_CheckMsgxc)))
 else
 (bif (m.Kind == 10) then
 (some (.inl (⟨r1, m, (⟨m.Kind, m.From, m.To, (⟨0, 0⟩ : GBallot), 0, [], (⟨0, 0, 0, (⟨(⟨0, 0⟩ : GStamp), 0, 0, 0, [], [], []⟩ : GOp), 0, 0, [], (⟨0, (Vector.replicate 8 (default : Int)), (Vector.replicate 8 (default : Int)), (Vector.replicate 8 (default : Int))⟩ : GEpoch), 0, (Vector.replicate 8 (default : Int)), 0, (⟨0, 0, 0, []⟩ : GPart), 0, 0, 0⟩ : GEntry), m.Number, m.Vector_, m.Clock, 0, [], (⟨0, (Vector.replicate 8 (default : Int)), (Vector.replicate 8 (default : Int)), (Vector.replicate 8 (default : Int))⟩ : GEpoch), (⟨0, 0, 0, []⟩ : GPart)⟩ : GMsg)⟩ : Srecord_CheckMsgxc)))
 else
 (bif (m.Kind == 11) then
 ((bif r1 then Frecord_site N [m.Origin] else some default).bind fun r7 =>
 ((bif (r1 && r7) then Frecord_mayOps N m.Ops 1 else some default).bind fun r8 =>
 (some (.inl (⟨((r1 && r7) && r8), m, (⟨m.Kind, m.From, m.To, (⟨0, 0⟩ : GBallot), m.Slot, [], (⟨0, 0, 0, (⟨(⟨0, 0⟩ : GStamp), 0, 0, 0, [], [], []⟩ : GOp), 0, 0, [], (⟨0, (Vector.replicate 8 (default : Int)), (Vector.replicate 8 (default : Int)), (Vector.replicate 8 (default : Int))⟩ : GEpoch), 0, (Vector.replicate 8 (default : Int)), 0, (⟨0, 0, 0, []⟩ : GPart), 0, 0, 0⟩ : GEntry), m.Number, (Vector.replicate 8 (default : Int)), 0, m.Origin, m.Ops, (⟨0, (Vector.replicate 8 (default : Int)), (Vector.replicate 8 (default : Int)), (Vector.replicate 8 (default : Int))⟩ : GEpoch), (⟨0, 0, 0, []⟩ : GPart)⟩ : GMsg)⟩ : Srecord_CheckMsgxc)))))
 else
 (bif (m.Kind == 12) then
 ((bif r1 then Frecord_mayEpoch N m.Epoch else some default).bind fun r9 =>
 (some (.inl (⟨(r1 && r9), m, (⟨m.Kind, m.From, m.To, (⟨0, 0⟩ : GBallot), 0, [], (⟨0, 0, 0, (⟨(⟨0, 0⟩ : GStamp), 0, 0, 0, [], [], []⟩ : GOp), 0, 0, [], (⟨0, (Vector.replicate 8 (default : Int)), (Vector.replicate 8 (default : Int)), (Vector.replicate 8 (default : Int))⟩ : GEpoch), 0, (Vector.replicate 8 (default : Int)), 0, (⟨0, 0, 0, []⟩ : GPart), 0, 0, 0⟩ : GEntry), 0, (Vector.replicate 8 (default : Int)), 0, 0, [], m.Epoch, (⟨0, 0, 0, []⟩ : GPart)⟩ : GMsg)⟩ : Srecord_CheckMsgxc))))
 else
 (bif (m.Kind == 13) then
 ((bif r1 then Frecord_mayPart N m.Part else some default).bind fun r10 =>
 (some (.inl (⟨(r1 && r10), m, (⟨m.Kind, m.From, m.To, (⟨0, 0⟩ : GBallot), 0, [], (⟨0, 0, 0, (⟨(⟨0, 0⟩ : GStamp), 0, 0, 0, [], [], []⟩ : GOp), 0, 0, [], (⟨0, (Vector.replicate 8 (default : Int)), (Vector.replicate 8 (default : Int)), (Vector.replicate 8 (default : Int))⟩ : GEpoch), 0, (Vector.replicate 8 (default : Int)), 0, (⟨0, 0, 0, []⟩ : GPart), 0, 0, 0⟩ : GEntry), 0, (Vector.replicate 8 (default : Int)), 0, 0, [], (⟨0, (Vector.replicate 8 (default : Int)), (Vector.replicate 8 (default : Int)), (Vector.replicate 8 (default : Int))⟩ : GEpoch), m.Part⟩ : GMsg)⟩ : Srecord_CheckMsgxc))))
 else
 (bif (m.Kind == 14) then
 (some (.inl (⟨r1, m, (⟨m.Kind, m.From, m.To, (⟨0, 0⟩ : GBallot), 0, [], (⟨0, 0, 0, (⟨(⟨0, 0⟩ : GStamp), 0, 0, 0, [], [], []⟩ : GOp), 0, 0, [], (⟨0, (Vector.replicate 8 (default : Int)), (Vector.replicate 8 (default : Int)), (Vector.replicate 8 (default : Int))⟩ : GEpoch), 0, (Vector.replicate 8 (default : Int)), 0, (⟨0, 0, 0, []⟩ : GPart), 0, 0, 0⟩ : GEntry), m.Number, m.Vector_, 0, 0, [], (⟨0, (Vector.replicate 8 (default : Int)), (Vector.replicate 8 (default : Int)), (Vector.replicate 8 (default : Int))⟩ : GEpoch), (⟨0, 0, 0, []⟩ : GPart)⟩ : GMsg)⟩ : Srecord_CheckMsgxc)))
 else
 (bif (m.Kind == 15) then
 ((bif r1 then Frecord_mayPart N m.Part else some default).bind fun r11 =>
 (some (.inl (⟨(r1 && r11), m, (⟨m.Kind, m.From, m.To, (⟨0, 0⟩ : GBallot), m.Slot, [], (⟨0, 0, 0, (⟨(⟨0, 0⟩ : GStamp), 0, 0, 0, [], [], []⟩ : GOp), 0, 0, [], (⟨0, (Vector.replicate 8 (default : Int)), (Vector.replicate 8 (default : Int)), (Vector.replicate 8 (default : Int))⟩ : GEpoch), 0, (Vector.replicate 8 (default : Int)), 0, (⟨0, 0, 0, []⟩ : GPart), 0, 0, 0⟩ : GEntry), 0, (Vector.replicate 8 (default : Int)), 0, 0, [], (⟨0, (Vector.replicate 8 (default : Int)), (Vector.replicate 8 (default : Int)), (Vector.replicate 8 (default : Int))⟩ : GEpoch), m.Part⟩ : GMsg)⟩ : Srecord_CheckMsgxc))))
 else
 (some (.inl (⟨false, m, (⟨m.Kind, m.From, m.To, (⟨0, 0⟩ : GBallot), 0, [], (⟨0, 0, 0, (⟨(⟨0, 0⟩ : GStamp), 0, 0, 0, [], [], []⟩ : GOp), 0, 0, [], (⟨0, (Vector.replicate 8 (default : Int)), (Vector.replicate 8 (default : Int)), (Vector.replicate 8 (default : Int))⟩ : GEpoch), 0, (Vector.replicate 8 (default : Int)), 0, (⟨0, 0, 0, []⟩ : GPart), 0, 0, 0⟩ : GEntry), 0, (Vector.replicate 8 (default : Int)), 0, 0, [], (⟨0, (Vector.replicate 8 (default : Int)), (Vector.replicate 8 (default : Int)), (Vector.replicate 8 (default : Int))⟩ : GEpoch), (⟨0, 0, 0, []⟩ : GPart)⟩ : GMsg)⟩ : Srecord_CheckMsgxc))))))))))))))))
 else
 (bif (m.Kind == 7) then
 (some (.inl (⟨r1, m, (⟨m.Kind, m.From, m.To, m.Ballot, m.Slot, [], (⟨0, 0, 0, (⟨(⟨0, 0⟩ : GStamp), 0, 0, 0, [], [], []⟩ : GOp), 0, 0, [], (⟨0, (Vector.replicate 8 (default : Int)), (Vector.replicate 8 (default : Int)), (Vector.replicate 8 (default : Int))⟩ : GEpoch), 0, (Vector.replicate 8 (default : Int)), 0, (⟨0, 0, 0, []⟩ : GPart), 0, 0, 0⟩ : GEntry), 0, (Vector.replicate 8 (default : Int)), 0, 0, [], (⟨0, (Vector.replicate 8 (default : Int)), (Vector.replicate 8 (default : Int)), (Vector.replicate 8 (default : Int))⟩ : GEpoch), (⟨0, 0, 0, []⟩ : GPart)⟩ : GMsg)⟩ : Srecord_CheckMsgxc)))
 else
 (bif (m.Kind == 2) then
 (some (.inl (⟨r1, m, (⟨m.Kind, m.From, m.To, m.Ballot, m.Slot, m.List_, (⟨0, 0, 0, (⟨(⟨0, 0⟩ : GStamp), 0, 0, 0, [], [], []⟩ : GOp), 0, 0, [], (⟨0, (Vector.replicate 8 (default : Int)), (Vector.replicate 8 (default : Int)), (Vector.replicate 8 (default : Int))⟩ : GEpoch), 0, (Vector.replicate 8 (default : Int)), 0, (⟨0, 0, 0, []⟩ : GPart), 0, 0, 0⟩ : GEntry), 0, (Vector.replicate 8 (default : Int)), 0, 0, [], (⟨0, (Vector.replicate 8 (default : Int)), (Vector.replicate 8 (default : Int)), (Vector.replicate 8 (default : Int))⟩ : GEpoch), (⟨0, 0, 0, []⟩ : GPart)⟩ : GMsg)⟩ : Srecord_CheckMsgxc)))
 else
 (bif (m.Kind == 3) then
 (some (.inl (⟨(r1 && (((m.List_).length : Int) == 1)), m, (⟨m.Kind, m.From, m.To, m.Ballot, 0, m.List_, (⟨0, 0, 0, (⟨(⟨0, 0⟩ : GStamp), 0, 0, 0, [], [], []⟩ : GOp), 0, 0, [], (⟨0, (Vector.replicate 8 (default : Int)), (Vector.replicate 8 (default : Int)), (Vector.replicate 8 (default : Int))⟩ : GEpoch), 0, (Vector.replicate 8 (default : Int)), 0, (⟨0, 0, 0, []⟩ : GPart), 0, 0, 0⟩ : GEntry), 0, (Vector.replicate 8 (default : Int)), 0, 0, [], (⟨0, (Vector.replicate 8 (default : Int)), (Vector.replicate 8 (default : Int)), (Vector.replicate 8 (default : Int))⟩ : GEpoch), (⟨0, 0, 0, []⟩ : GPart)⟩ : GMsg)⟩ : Srecord_CheckMsgxc)))
 else
 (bif (m.Kind == 5) then
 (some (.inl (⟨r1, m, (⟨m.Kind, m.From, m.To, m.Ballot, 0, [], (⟨0, 0, 0, (⟨(⟨0, 0⟩ : GStamp), 0, 0, 0, [], [], []⟩ : GOp), 0, 0, [], (⟨0, (Vector.replicate 8 (default : Int)), (Vector.replicate 8 (default : Int)), (Vector.replicate 8 (default : Int))⟩ : GEpoch), 0, (Vector.replicate 8 (default : Int)), 0, (⟨0, 0, 0, []⟩ : GPart), 0, 0, 0⟩ : GEntry), 0, (Vector.replicate 8 (default : Int)), 0, 0, [], (⟨0, (Vector.replicate 8 (default : Int)), (Vector.replicate 8 (default : Int)), (Vector.replicate 8 (default : Int))⟩ : GEpoch), (⟨0, 0, 0, []⟩ : GPart)⟩ : GMsg)⟩ : Srecord_CheckMsgxc)))
 else
 (bif (m.Kind == 6) then
 (some (.inl (⟨(r1 && (decide (1 ≤ ((m.List_).length : Int)))), m, (⟨m.Kind, m.From, m.To, (⟨0, 0⟩ : GBallot), 0, m.List_, (⟨0, 0, 0, (⟨(⟨0, 0⟩ : GStamp), 0, 0, 0, [], [], []⟩ : GOp), 0, 0, [], (⟨0, (Vector.replicate 8 (default : Int)), (Vector.replicate 8 (default : Int)), (Vector.replicate 8 (default : Int))⟩ : GEpoch), 0, (Vector.replicate 8 (default : Int)), 0, (⟨0, 0, 0, []⟩ : GPart), 0, 0, 0⟩ : GEntry), 0, (Vector.replicate 8 (default : Int)), 0, 0, [], (⟨0, (Vector.replicate 8 (default : Int)), (Vector.replicate 8 (default : Int)), (Vector.replicate 8 (default : Int))⟩ : GEpoch), (⟨0, 0, 0, []⟩ : GPart)⟩ : GMsg)⟩ : Srecord_CheckMsgxc)))
 else
 (bif (m.Kind == 8) then
 (some (.inl (⟨r1, m, (⟨m.Kind, m.From, m.To, (⟨0, 0⟩ : GBallot), m.Slot, [], (⟨0, 0, 0, (⟨(⟨0, 0⟩ : GStamp), 0, 0, 0, [], [], []⟩ : GOp), 0, 0, [], (⟨0, (Vector.replicate 8 (default : Int)), (Vector.replicate 8 (default : Int)), (Vector.replicate 8 (default : Int))⟩ : GEpoch), 0, (Vector.replicate 8 (default : Int)), 0, (⟨0, 0, 0, []⟩ : GPart), 0, 0, 0⟩ : GEntry), 0, (Vector.replicate 8 (default : Int)), 0, 0, [], (⟨0, (Vector.replicate 8 (default : Int)), (Vector.replicate 8 (default : Int)), (Vector.replicate 8 (default : Int))⟩ : GEpoch), (⟨0, 0, 0, []⟩ : GPart)⟩ : GMsg)⟩ : Srecord_CheckMsgxc)))
 else
 (bif (m.Kind == 9) then
 (some (.inl (⟨r1, m, (⟨m.Kind, m.From, m.To, (⟨0, 0⟩ : GBallot), 0, [], m.Entry, 0, (Vector.replicate 8 (default : Int)), 0, 0, [], (⟨0, (Vector.replicate 8 (default : Int)), (Vector.replicate 8 (default : Int)), (Vector.replicate 8 (default : Int))⟩ : GEpoch), (⟨0, 0, 0, []⟩ : GPart)⟩ : GMsg)⟩ : Srecord_CheckMsgxc)))
 else
 (bif (m.Kind == 10) then
 (some (.inl (⟨r1, m, (⟨m.Kind, m.From, m.To, (⟨0, 0⟩ : GBallot), 0, [], (⟨0, 0, 0, (⟨(⟨0, 0⟩ : GStamp), 0, 0, 0, [], [], []⟩ : GOp), 0, 0, [], (⟨0, (Vector.replicate 8 (default : Int)), (Vector.replicate 8 (default : Int)), (Vector.replicate 8 (default : Int))⟩ : GEpoch), 0, (Vector.replicate 8 (default : Int)), 0, (⟨0, 0, 0, []⟩ : GPart), 0, 0, 0⟩ : GEntry), m.Number, m.Vector_, m.Clock, 0, [], (⟨0, (Vector.replicate 8 (default : Int)), (Vector.replicate 8 (default : Int)), (Vector.replicate 8 (default : Int))⟩ : GEpoch), (⟨0, 0, 0, []⟩ : GPart)⟩ : GMsg)⟩ : Srecord_CheckMsgxc)))
 else
 (bif (m.Kind == 11) then
 ((bif r1 then Frecord_site N [m.Origin] else some default).bind fun r12 =>
 ((bif (r1 && r12) then Frecord_mayOps N m.Ops 1 else some default).bind fun r13 =>
 (some (.inl (⟨((r1 && r12) && r13), m, (⟨m.Kind, m.From, m.To, (⟨0, 0⟩ : GBallot), m.Slot, [], (⟨0, 0, 0, (⟨(⟨0, 0⟩ : GStamp), 0, 0, 0, [], [], []⟩ : GOp), 0, 0, [], (⟨0, (Vector.replicate 8 (default : Int)), (Vector.replicate 8 (default : Int)), (Vector.replicate 8 (default : Int))⟩ : GEpoch), 0, (Vector.replicate 8 (default : Int)), 0, (⟨0, 0, 0, []⟩ : GPart), 0, 0, 0⟩ : GEntry), m.Number, (Vector.replicate 8 (default : Int)), 0, m.Origin, m.Ops, (⟨0, (Vector.replicate 8 (default : Int)), (Vector.replicate 8 (default : Int)), (Vector.replicate 8 (default : Int))⟩ : GEpoch), (⟨0, 0, 0, []⟩ : GPart)⟩ : GMsg)⟩ : Srecord_CheckMsgxc)))))
 else
 (bif (m.Kind == 12) then
 ((bif r1 then Frecord_mayEpoch N m.Epoch else some default).bind fun r14 =>
 (some (.inl (⟨(r1 && r14), m, (⟨m.Kind, m.From, m.To, (⟨0, 0⟩ : GBallot), 0, [], (⟨0, 0, 0, (⟨(⟨0, 0⟩ : GStamp), 0, 0, 0, [], [], []⟩ : GOp), 0, 0, [], (⟨0, (Vector.replicate 8 (default : Int)), (Vector.replicate 8 (default : Int)), (Vector.replicate 8 (default : Int))⟩ : GEpoch), 0, (Vector.replicate 8 (default : Int)), 0, (⟨0, 0, 0, []⟩ : GPart), 0, 0, 0⟩ : GEntry), 0, (Vector.replicate 8 (default : Int)), 0, 0, [], m.Epoch, (⟨0, 0, 0, []⟩ : GPart)⟩ : GMsg)⟩ : Srecord_CheckMsgxc))))
 else
 (bif (m.Kind == 13) then
 ((bif r1 then Frecord_mayPart N m.Part else some default).bind fun r15 =>
 (some (.inl (⟨(r1 && r15), m, (⟨m.Kind, m.From, m.To, (⟨0, 0⟩ : GBallot), 0, [], (⟨0, 0, 0, (⟨(⟨0, 0⟩ : GStamp), 0, 0, 0, [], [], []⟩ : GOp), 0, 0, [], (⟨0, (Vector.replicate 8 (default : Int)), (Vector.replicate 8 (default : Int)), (Vector.replicate 8 (default : Int))⟩ : GEpoch), 0, (Vector.replicate 8 (default : Int)), 0, (⟨0, 0, 0, []⟩ : GPart), 0, 0, 0⟩ : GEntry), 0, (Vector.replicate 8 (default : Int)), 0, 0, [], (⟨0, (Vector.replicate 8 (default : Int)), (Vector.replicate 8 (default : Int)), (Vector.replicate 8 (default : Int))⟩ : GEpoch), m.Part⟩ : GMsg)⟩ : Srecord_CheckMsgxc))))
 else
 (bif (m.Kind == 14) then
 (some (.inl (⟨r1, m, (⟨m.Kind, m.From, m.To, (⟨0, 0⟩ : GBallot), 0, [], (⟨0, 0, 0, (⟨(⟨0, 0⟩ : GStamp), 0, 0, 0, [], [], []⟩ : GOp), 0, 0, [], (⟨0, (Vector.replicate 8 (default : Int)), (Vector.replicate 8 (default : Int)), (Vector.replicate 8 (default : Int))⟩ : GEpoch), 0, (Vector.replicate 8 (default : Int)), 0, (⟨0, 0, 0, []⟩ : GPart), 0, 0, 0⟩ : GEntry), m.Number, m.Vector_, 0, 0, [], (⟨0, (Vector.replicate 8 (default : Int)), (Vector.replicate 8 (default : Int)), (Vector.replicate 8 (default : Int))⟩ : GEpoch), (⟨0, 0, 0, []⟩ : GPart)⟩ : GMsg)⟩ : Srecord_CheckMsgxc)))
 else
 (bif (m.Kind == 15) then
 ((bif r1 then Frecord_mayPart N m.Part else some default).bind fun r16 =>
 (some (.inl (⟨(r1 && r16), m, (⟨m.Kind, m.From, m.To, (⟨0, 0⟩ : GBallot), m.Slot, [], (⟨0, 0, 0, (⟨(⟨0, 0⟩ : GStamp), 0, 0, 0, [], [], []⟩ : GOp), 0, 0, [], (⟨0, (Vector.replicate 8 (default : Int)), (Vector.replicate 8 (default : Int)), (Vector.replicate 8 (default : Int))⟩ : GEpoch), 0, (Vector.replicate 8 (default : Int)), 0, (⟨0, 0, 0, []⟩ : GPart), 0, 0, 0⟩ : GEntry), 0, (Vector.replicate 8 (default : Int)), 0, 0, [], (⟨0, (Vector.replicate 8 (default : Int)), (Vector.replicate 8 (default : Int)), (Vector.replicate 8 (default : Int))⟩ : GEpoch), m.Part⟩ : GMsg)⟩ : Srecord_CheckMsgxc))))
 else
 (some (.inl (⟨false, m, (⟨m.Kind, m.From, m.To, (⟨0, 0⟩ : GBallot), 0, [], (⟨0, 0, 0, (⟨(⟨0, 0⟩ : GStamp), 0, 0, 0, [], [], []⟩ : GOp), 0, 0, [], (⟨0, (Vector.replicate 8 (default : Int)), (Vector.replicate 8 (default : Int)), (Vector.replicate 8 (default : Int))⟩ : GEpoch), 0, (Vector.replicate 8 (default : Int)), 0, (⟨0, 0, 0, []⟩ : GPart), 0, 0, 0⟩ : GEntry), 0, (Vector.replicate 8 (default : Int)), 0, 0, [], (⟨0, (Vector.replicate 8 (default : Int)), (Vector.replicate 8 (default : Int)), (Vector.replicate 8 (default : Int))⟩ : GEpoch), (⟨0, 0, 0, []⟩ : GPart)⟩ : GMsg)⟩ : Srecord_CheckMsgxc)))))))))))))))))))
def Hrecord_CheckMsg (N : Nat) (m : GMsg) (s : Srecord_CheckMsgxc) : Option (Int) :=
 ((bif s.ok then Frecord_mayBallot N s.b1.Ballot else some default).bind fun r17 =>
 ((bif (s.ok && r17) then Frecord_count N [s.b1.Slot, s.b1.Number, s.b1.Clock] else some default).bind fun r18 =>
 (bif ((s.ok && r17) && r18) then
 ((bif ((s.ok && r17) && r18) then Frecord_count N (s.b1.Vector_.toList) else some default).bind fun r19 =>
 ((bif (((s.ok && r17) && r18) && r19) then Frecord_maySlotted N s.b1.List_ 0 4096 else some default).bind fun r20 =>
 ((bif ((((s.ok && r17) && r18) && r19) && r20) then Frecord_CheckEntry N s.b1.Entry else some default).bind fun r21 =>
 ((bif (((((s.ok && r17) && r18) && r19) && r20) && (r21 == 0)) then Frecord_SameMsg N s.b1 s.b0 else some default).bind fun r22 =>
 ((Frecord_verdict N ((((((s.ok && r17) && r18) && r19) && r20) && (r21 == 0)) && r22)).bind fun r23 =>
 (some r23))))))
 else
 ((bif false then Frecord_maySlotted N s.b1.List_ 0 4096 else some default).bind fun r24 =>
 ((bif false then Frecord_CheckEntry N s.b1.Entry else some default).bind fun r25 =>
 ((bif false then Frecord_SameMsg N s.b1 s.b0 else some default).bind fun r26 =>
 ((Frecord_verdict N false).bind fun r27 =>
 (some r27))))))))
/-- orchard/record.CheckMsg -/
def Frecord_CheckMsg (N : Nat) (m : GMsg) : Option (Int) :=
 (Grecord_CheckMsg N m).bind fun z => match z with | .inl s => Hrecord_CheckMsg N m s | .inr r => some r
def conrecord_CheckMsg : Con τ := { args := [.ty 50], L := [], ret := .ty 38, L' := [], R := Int, dflt := default, F := fun N a b => Frecord_CheckMsg N a.1, of := fun r => (r, ()) }
noncomputable def datrecord_CheckMsg : Dat τ := { D := D0, tbl := tblOf [(77, conrecord_mayAddr), (74, conrecord_site), (75, conrecord_mayOps), (72, conrecord_mayEpoch), (76, conrecord_mayPart), (78, conrecord_mayBallot), (73, conrecord_count), (79, conrecord_maySlotted), (28, conrecord_CheckEntry), (15, conrecord_SameMsg), (70, conrecord_verdict)], lp := lpsOf [], k0 := 0, mu := [], un := [] }
theorem okrecord_CheckMsg : ConOk E C 30 conrecord_CheckMsg :=
  con_cut (D := datrecord_CheckMsg) ⟨d0Ok, eGood, tblOf_ok (l := [(77, conrecord_mayAddr), (74, conrecord_site), (75, conrecord_mayOps), (72, conrecord_mayEpoch), (76, conrecord_mayPart), (78, conrecord_mayBallot), (73, conrecord_count), (79, conrecord_maySlotted), (28, conrecord_CheckEntry), (15, conrecord_SameMsg), (70, conrecord_verdict)]) ⟨okrecord_mayAddr, ⟨okrecord_site, ⟨okrecord_mayOps, ⟨okrecord_mayEpoch, ⟨okrecord_mayPart, ⟨okrecord_mayBallot, ⟨okrecord_count, ⟨okrecord_maySlotted, ⟨okrecord_CheckEntry, ⟨okrecord_SameMsg, ⟨okrecord_verdict, trivial⟩⟩⟩⟩⟩⟩⟩⟩⟩⟩⟩⟩ conrecord_CheckMsg (fun a b => a) none (fun _ _ => rfl) rfl (fun _ _ h => nomatch h) 1000000 [true, true, true, true, false] lprecord_CheckMsgxc (fun N a b => Grecord_CheckMsg N a.1) (fun N a b s => Hrecord_CheckMsg N a.1 s) (by intro N a b; kernel_rfl) (fn := Try.f30) Try.func30 rfl (by kernel_rfl) (by kernel_rfl) rfl (by kernel_rfl) (by intro a b s; kernel_rfl) (by intro N a b; kernel_rfl) (by intro N a b s; kernel_rfl)

/-- orchard/orchardref04.plain -/
def Fref04_plain (N : Nat) (m : GMsg) : Option (GMsg × Bool) :=
 (bif (m.Kind == 1) then
 (bif (m.Kind == 1) then
 (some ((⟨m.Kind, m.From, m.To, m.Ballot, m.Slot, [], (⟨0, 0, 0, (⟨(⟨0, 0⟩ : GStamp), 0, 0, 0, [], [], []⟩ : GOp), 0, 0, [], (⟨0, (Vector.replicate 8 (default : Int)), (Vector.replicate 8 (default : Int)), (Vector.replicate 8 (default : Int))⟩ : GEpoch), 0, (Vector.replicate 8 (default : Int)), 0, (⟨0, 0, 0, []⟩ : GPart), 0, 0, 0⟩ : GEntry), 0, (Vector.replicate 8 (default : Int)), 0, 0, [], (⟨0, (Vector.replicate 8 (default : Int)), (Vector.replicate 8 (default : Int)), (Vector.replicate 8 (default : Int))⟩ : GEpoch), (⟨0, 0, 0, []⟩ : GPart)⟩ : GMsg), true))
 else
 (bif (m.Kind == 2) then
 (some ((⟨m.Kind, m.From, m.To, m.Ballot, m.Slot, m.List_, (⟨0, 0, 0, (⟨(⟨0, 0⟩ : GStamp), 0, 0, 0, [], [], []⟩ : GOp), 0, 0, [], (⟨0, (Vector.replicate 8 (default : Int)), (Vector.replicate 8 (default : Int)), (Vector.replicate 8 (default : Int))⟩ : GEpoch), 0, (Vector.replicate 8 (default : Int)), 0, (⟨0, 0, 0, []⟩ : GPart), 0, 0, 0⟩ : GEntry), 0, (Vector.replicate 8 (default : Int)), 0, 0, [], (⟨0, (Vector.replicate 8 (default : Int)), (Vector.replicate 8 (default : Int)), (Vector.replicate 8 (default : Int))⟩ : GEpoch), (⟨0, 0, 0, []⟩ : GPart)⟩ : GMsg), true))
 else
 (bif (m.Kind == 3) then
 (some ((⟨m.Kind, m.From, m.To, m.Ballot, 0, m.List_, (⟨0, 0, 0, (⟨(⟨0, 0⟩ : GStamp), 0, 0, 0, [], [], []⟩ : GOp), 0, 0, [], (⟨0, (Vector.replicate 8 (default : Int)), (Vector.replicate 8 (default : Int)), (Vector.replicate 8 (default : Int))⟩ : GEpoch), 0, (Vector.replicate 8 (default : Int)), 0, (⟨0, 0, 0, []⟩ : GPart), 0, 0, 0⟩ : GEntry), 0, (Vector.replicate 8 (default : Int)), 0, 0, [], (⟨0, (Vector.replicate 8 (default : Int)), (Vector.replicate 8 (default : Int)), (Vector.replicate 8 (default : Int))⟩ : GEpoch), (⟨0, 0, 0, []⟩ : GPart)⟩ : GMsg), true))
 else
 (bif (m.Kind == 5) then
 (some ((⟨m.Kind, m.From, m.To, m.Ballot, 0, [], (⟨0, 0, 0, (⟨(⟨0, 0⟩ : GStamp), 0, 0, 0, [], [], []⟩ : GOp), 0, 0, [], (⟨0, (Vector.replicate 8 (default : Int)), (Vector.replicate 8 (default : Int)), (Vector.replicate 8 (default : Int))⟩ : GEpoch), 0, (Vector.replicate 8 (default : Int)), 0, (⟨0, 0, 0, []⟩ : GPart), 0, 0, 0⟩ : GEntry), 0, (Vector.replicate 8 (default : Int)), 0, 0, [], (⟨0, (Vector.replicate 8 (default : Int)), (Vector.replicate 8 (default : Int)), (Vector.replicate 8 (default : Int))⟩ : GEpoch), (⟨0, 0, 0, []⟩ : GPart)⟩ : GMsg), true))
 else
 (bif (m.Kind == 6) then
 (some ((⟨m.Kind, m.From, m.To, (⟨0, 0⟩ : GBallot), 0, m.List_, (⟨0, 0, 0, (⟨(⟨0, 0⟩ : GStamp), 0, 0, 0, [], [], []⟩ : GOp), 0, 0, [], (⟨0, (Vector.replicate 8 (default : Int)), (Vector.replicate 8 (default : Int)), (Vector.replicate 8 (default : Int))⟩ : GEpoch), 0, (Vector.replicate 8 (default : Int)), 0, (⟨0, 0, 0, []⟩ : GPart), 0, 0, 0⟩ : GEntry), 0, (Vector.replicate 8 (default : Int)), 0, 0, [], (⟨0, (Vector.replicate 8 (default : Int)), (Vector.replicate 8 (default : Int)), (Vector.replicate 8 (default : Int))⟩ : GEpoch), (⟨0, 0, 0, []⟩ : GPart)⟩ : GMsg), true))
 else
 (bif (m.Kind == 8) then
 (some ((⟨m.Kind, m.From, m.To, (⟨0, 0⟩ : GBallot), m.Slot, [], (⟨0, 0, 0, (⟨(⟨0, 0⟩ : GStamp), 0, 0, 0, [], [], []⟩ : GOp), 0, 0, [], (⟨0, (Vector.replicate 8 (default : Int)), (Vector.replicate 8 (default : Int)), (Vector.replicate 8 (default : Int))⟩ : GEpoch), 0, (Vector.replicate 8 (default : Int)), 0, (⟨0, 0, 0, []⟩ : GPart), 0, 0, 0⟩ : GEntry), 0, (Vector.replicate 8 (default : Int)), 0, 0, [], (⟨0, (Vector.replicate 8 (default : Int)), (Vector.replicate 8 (default : Int)), (Vector.replicate 8 (default : Int))⟩ : GEpoch), (⟨0, 0, 0, []⟩ : GPart)⟩ : GMsg), true))
 else
 (bif (m.Kind == 9) then
 (some ((⟨m.Kind, m.From, m.To, (⟨0, 0⟩ : GBallot), 0, [], m.Entry, 0, (Vector.replicate 8 (default : Int)), 0, 0, [], (⟨0, (Vector.replicate 8 (default : Int)), (Vector.replicate 8 (default : Int)), (Vector.replicate 8 (default : Int))⟩ : GEpoch), (⟨0, 0, 0, []⟩ : GPart)⟩ : GMsg), true))
 else
 (bif (m.Kind == 10) then
 (some ((⟨m.Kind, m.From, m.To, (⟨0, 0⟩ : GBallot), 0, [], (⟨0, 0, 0, (⟨(⟨0, 0⟩ : GStamp), 0, 0, 0, [], [], []⟩ : GOp), 0, 0, [], (⟨0, (Vector.replicate 8 (default : Int)), (Vector.replicate 8 (default : Int)), (Vector.replicate 8 (default : Int))⟩ : GEpoch), 0, (Vector.replicate 8 (default : Int)), 0, (⟨0, 0, 0, []⟩ : GPart), 0, 0, 0⟩ : GEntry), m.Number, m.Vector_, m.Clock, 0, [], (⟨0, (Vector.replicate 8 (default : Int)), (Vector.replicate 8 (default : Int)), (Vector.replicate 8 (default : Int))⟩ : GEpoch), (⟨0, 0, 0, []⟩ : GPart)⟩ : GMsg), true))
 else
 (bif (m.Kind == 11) then
 (some ((⟨m.Kind, m.From, m.To, (⟨0, 0⟩ : GBallot), m.Slot, [], (⟨0, 0, 0, (⟨(⟨0, 0⟩ : GStamp), 0, 0, 0, [], [], []⟩ : GOp), 0, 0, [], (⟨0, (Vector.replicate 8 (default : Int)), (Vector.replicate 8 (default : Int)), (Vector.replicate 8 (default : Int))⟩ : GEpoch), 0, (Vector.replicate 8 (default : Int)), 0, (⟨0, 0, 0, []⟩ : GPart), 0, 0, 0⟩ : GEntry), m.Number, (Vector.replicate 8 (default : Int)), 0, m.Origin, m.Ops, (⟨0, (Vector.replicate 8 (default : Int)), (Vector.replicate 8 (default : Int)), (Vector.replicate 8 (default : Int))⟩ : GEpoch), (⟨0, 0, 0, []⟩ : GPart)⟩ : GMsg), true))
 else
 (bif (m.Kind == 12) then
 (some ((⟨m.Kind, m.From, m.To, (⟨0, 0⟩ : GBallot), 0, [], (⟨0, 0, 0, (⟨(⟨0, 0⟩ : GStamp), 0, 0, 0, [], [], []⟩ : GOp), 0, 0, [], (⟨0, (Vector.replicate 8 (default : Int)), (Vector.replicate 8 (default : Int)), (Vector.replicate 8 (default : Int))⟩ : GEpoch), 0, (Vector.replicate 8 (default : Int)), 0, (⟨0, 0, 0, []⟩ : GPart), 0, 0, 0⟩ : GEntry), 0, (Vector.replicate 8 (default : Int)), 0, 0, [], m.Epoch, (⟨0, 0, 0, []⟩ : GPart)⟩ : GMsg), true))
 else
 (bif (m.Kind == 13) then
 (some ((⟨m.Kind, m.From, m.To, (⟨0, 0⟩ : GBallot), 0, [], (⟨0, 0, 0, (⟨(⟨0, 0⟩ : GStamp), 0, 0, 0, [], [], []⟩ : GOp), 0, 0, [], (⟨0, (Vector.replicate 8 (default : Int)), (Vector.replicate 8 (default : Int)), (Vector.replicate 8 (default : Int))⟩ : GEpoch), 0, (Vector.replicate 8 (default : Int)), 0, (⟨0, 0, 0, []⟩ : GPart), 0, 0, 0⟩ : GEntry), 0, (Vector.replicate 8 (default : Int)), 0, 0, [], (⟨0, (Vector.replicate 8 (default : Int)), (Vector.replicate 8 (default : Int)), (Vector.replicate 8 (default : Int))⟩ : GEpoch), m.Part⟩ : GMsg), true))
 else
 (bif (m.Kind == 14) then
 (some ((⟨m.Kind, m.From, m.To, (⟨0, 0⟩ : GBallot), 0, [], (⟨0, 0, 0, (⟨(⟨0, 0⟩ : GStamp), 0, 0, 0, [], [], []⟩ : GOp), 0, 0, [], (⟨0, (Vector.replicate 8 (default : Int)), (Vector.replicate 8 (default : Int)), (Vector.replicate 8 (default : Int))⟩ : GEpoch), 0, (Vector.replicate 8 (default : Int)), 0, (⟨0, 0, 0, []⟩ : GPart), 0, 0, 0⟩ : GEntry), m.Number, m.Vector_, 0, 0, [], (⟨0, (Vector.replicate 8 (default : Int)), (Vector.replicate 8 (default : Int)), (Vector.replicate 8 (default : Int))⟩ : GEpoch), (⟨0, 0, 0, []⟩ : GPart)⟩ : GMsg), true))
 else
 (bif (m.Kind == 15) then
 (some ((⟨m.Kind, m.From, m.To, (⟨0, 0⟩ : GBallot), m.Slot, [], (⟨0, 0, 0, (⟨(⟨0, 0⟩ : GStamp), 0, 0, 0, [], [], []⟩ : GOp), 0, 0, [], (⟨0, (Vector.replicate 8 (default : Int)), (Vector.replicate 8 (default : Int)), (Vector.replicate 8 (default : Int))⟩ : GEpoch), 0, (Vector.replicate 8 (default : Int)), 0, (⟨0, 0, 0, []⟩ : GPart), 0, 0, 0⟩ : GEntry), 0, (Vector.replicate 8 (default : Int)), 0, 0, [], (⟨0, (Vector.replicate 8 (default : Int)), (Vector.replicate 8 (default : Int)), (Vector.replicate 8 (default : Int))⟩ : GEpoch), m.Part⟩ : GMsg), true))
 else
 (some ((⟨m.Kind, m.From, m.To, (⟨0, 0⟩ : GBallot), 0, [], (⟨0, 0, 0, (⟨(⟨0, 0⟩ : GStamp), 0, 0, 0, [], [], []⟩ : GOp), 0, 0, [], (⟨0, (Vector.replicate 8 (default : Int)), (Vector.replicate 8 (default : Int)), (Vector.replicate 8 (default : Int))⟩ : GEpoch), 0, (Vector.replicate 8 (default : Int)), 0, (⟨0, 0, 0, []⟩ : GPart), 0, 0, 0⟩ : GEntry), 0, (Vector.replicate 8 (default : Int)), 0, 0, [], (⟨0, (Vector.replicate 8 (default : Int)), (Vector.replicate 8 (default : Int)), (Vector.replicate 8 (default : Int))⟩ : GEpoch), (⟨0, 0, 0, []⟩ : GPart)⟩ : GMsg), false)))))))))))))))
 else
 (bif (m.Kind == 4) then
 (bif (m.Kind == 4) then
 (some ((⟨m.Kind, m.From, m.To, m.Ballot, m.Slot, [], (⟨0, 0, 0, (⟨(⟨0, 0⟩ : GStamp), 0, 0, 0, [], [], []⟩ : GOp), 0, 0, [], (⟨0, (Vector.replicate 8 (default : Int)), (Vector.replicate 8 (default : Int)), (Vector.replicate 8 (default : Int))⟩ : GEpoch), 0, (Vector.replicate 8 (default : Int)), 0, (⟨0, 0, 0, []⟩ : GPart), 0, 0, 0⟩ : GEntry), 0, (Vector.replicate 8 (default : Int)), 0, 0, [], (⟨0, (Vector.replicate 8 (default : Int)), (Vector.replicate 8 (default : Int)), (Vector.replicate 8 (default : Int))⟩ : GEpoch), (⟨0, 0, 0, []⟩ : GPart)⟩ : GMsg), true))
 else
 (bif (m.Kind == 2) then
 (some ((⟨m.Kind, m.From, m.To, m.Ballot, m.Slot, m.List_, (⟨0, 0, 0, (⟨(⟨0, 0⟩ : GStamp), 0, 0, 0, [], [], []⟩ : GOp), 0, 0, [], (⟨0, (Vector.replicate 8 (default : Int)), (Vector.replicate 8 (default : Int)), (Vector.replicate 8 (default : Int))⟩ : GEpoch), 0, (Vector.replicate 8 (default : Int)), 0, (⟨0, 0, 0, []⟩ : GPart), 0, 0, 0⟩ : GEntry), 0, (Vector.replicate 8 (default : Int)), 0, 0, [], (⟨0, (Vector.replicate 8 (default : Int)), (Vector.replicate 8 (default : Int)), (Vector.replicate 8 (default : Int))⟩ : GEpoch), (⟨0, 0, 0, []⟩ : GPart)⟩ : GMsg), true))
 else
 (bif (m.Kind == 3) then
 (some ((⟨m.Kind, m.From, m.To, m.Ballot, 0, m.List_, (⟨0, 0, 0, (⟨(⟨0, 0⟩ : GStamp), 0, 0, 0, [], [], []⟩ : GOp), 0, 0, [], (⟨0, (Vector.replicate 8 (default : Int)), (Vector.replicate 8 (default : Int)), (Vector.replicate 8 (default : Int))⟩ : GEpoch), 0, (Vector.replicate 8 (default : Int)), 0, (⟨0, 0, 0, []⟩ : GPart), 0, 0, 0⟩ : GEntry), 0, (Vector.replicate 8 (default : Int)), 0, 0, [], (⟨0, (Vector.replicate 8 (default : Int)), (Vector.replicate 8 (default : Int)), (Vector.replicate 8 (default : Int))⟩ : GEpoch), (⟨0, 0, 0, []⟩ : GPart)⟩ : GMsg), true))
 else
 (bif (m.Kind == 5) then
 (some ((⟨m.Kind, m.From, m.To, m.Ballot, 0, [], (⟨0, 0, 0, (⟨(⟨0, 0⟩ : GStamp), 0, 0, 0, [], [], []⟩ : GOp), 0, 0, [], (⟨0, (Vector.replicate 8 (default : Int)), (Vector.replicate 8 (default : Int)), (Vector.replicate 8 (default : Int))⟩ : GEpoch), 0, (Vector.replicate 8 (default : Int)), 0, (⟨0, 0, 0, []⟩ : GPart), 0, 0, 0⟩ : GEntry), 0, (Vector.replicate 8 (default : Int)), 0, 0, [], (⟨0, (Vector.replicate 8 (default : Int)), (Vector.replicate 8 (default : Int)), (Vector.replicate 8 (default : Int))⟩ : GEpoch), (⟨0, 0, 0, []⟩ : GPart)⟩ : GMsg), true))
 else
 (bif (m.Kind == 6) then
 (some ((⟨m.Kind, m.From, m.To, (⟨0, 0⟩ : GBallot), 0, m.List_, (⟨0, 0, 0, (⟨(⟨0, 0⟩ : GStamp), 0, 0, 0, [], [], []⟩ : GOp), 0, 0, [], (⟨0, (Vector.replicate 8 (default : Int)), (Vector.replicate 8 (default : Int)), (Vector.replicate 8 (default : Int))⟩ : GEpoch), 0, (Vector.replicate 8 (default : Int)), 0, (⟨0, 0, 0, []⟩ : GPart), 0, 0, 0⟩ : GEntry), 0, (Vector.replicate 8 (default : Int)), 0, 0, [], (⟨0, (Vector.replicate 8 (default : Int)), (Vector.replicate 8 (default : Int)), (Vector.replicate 8 (default : Int))⟩ : GEpoch), (⟨0, 0, 0, []⟩ : GPart)⟩ : GMsg), true))
 else
 (bif (m.Kind == 8) then
 (some ((⟨m.Kind, m.From, m.To, (⟨0, 0⟩ : GBallot), m.Slot, [], (⟨0, 0, 0, (⟨(⟨0, 0⟩ : GStamp), 0, 0, 0, [], [], []⟩ : GOp), 0, 0, [], (⟨0, (Vector.replicate 8 (default : Int)), (Vector.replicate 8 (default : Int)), (Vector.replicate 8 (default : Int))⟩ : GEpoch), 0, (Vector.replicate 8 (default : Int)), 0, (⟨0, 0, 0, []⟩ : GPart), 0, 0, 0⟩ : GEntry), 0, (Vector.replicate 8 (default : Int)), 0, 0, [], (⟨0, (Vector.replicate 8 (default : Int)), (Vector.replicate 8 (default : Int)), (Vector.replicate 8 (default : Int))⟩ : GEpoch), (⟨0, 0, 0, []⟩ : GPart)⟩ : GMsg), true))
 else
 (bif (m.Kind == 9) then
 (some ((⟨m.Kind, m.From, m.To, (⟨0, 0⟩ : GBallot), 0, [], m.Entry, 0, (Vector.replicate 8 (default : Int)), 0, 0, [], (⟨0, (Vector.replicate 8 (default : Int)), (Vector.replicate 8 (default : Int)), (Vector.replicate 8 (default : Int))⟩ : GEpoch), (⟨0, 0, 0, []⟩ : GPart)⟩ : GMsg), true))
 else
 (bif (m.Kind == 10) then
 (some ((⟨m.Kind, m.From, m.To, (⟨0, 0⟩ : GBallot), 0, [], (⟨0, 0, 0, (⟨(⟨0, 0⟩ : GStamp), 0, 0, 0, [], [], []⟩ : GOp), 0, 0, [], (⟨0, (Vector.replicate 8 (default : Int)), (Vector.replicate 8 (default : Int)), (Vector.replicate 8 (default : Int))⟩ : GEpoch), 0, (Vector.replicate 8 (default : Int)), 0, (⟨0, 0, 0, []⟩ : GPart), 0, 0, 0⟩ : GEntry), m.Number, m.Vector_, m.Clock, 0, [], (⟨0, (Vector.replicate 8 (default : Int)), (Vector.replicate 8 (default : Int)), (Vector.replicate 8 (default : Int))⟩ : GEpoch), (⟨0, 0, 0, []⟩ : GPart)⟩ : GMsg), true))
 else
 (bif (m.Kind == 11) then
 (some ((⟨m.Kind, m.From, m.To, (⟨0, 0⟩ : GBallot), m.Slot, [], (⟨0, 0, 0, (⟨(⟨0, 0⟩ : GStamp), 0, 0, 0, [], [], []⟩ : GOp), 0, 0, [], (⟨0, (Vector.replicate 8 (default : Int)), (Vector.replicate 8 (default : Int)), (Vector.replicate 8 (default : Int))⟩ : GEpoch), 0, (Vector.replicate 8 (default : Int)), 0, (⟨0, 0, 0, []⟩ : GPart), 0, 0, 0⟩ : GEntry), m.Number, (Vector.replicate 8 (default : Int)), 0, m.Origin, m.Ops, (⟨0, (Vector.replicate 8 (default : Int)), (Vector.replicate 8 (default : Int)), (Vector.replicate 8 (default : Int))⟩ : GEpoch), (⟨0, 0, 0, []⟩ : GPart)⟩ : GMsg), true))
 else
 (bif (m.Kind == 12) then
 (some ((⟨m.Kind, m.From, m.To, (⟨0, 0⟩ : GBallot), 0, [], (⟨0, 0, 0, (⟨(⟨0, 0⟩ : GStamp), 0, 0, 0, [], [], []⟩ : GOp), 0, 0, [], (⟨0, (Vector.replicate 8 (default : Int)), (Vector.replicate 8 (default : Int)), (Vector.replicate 8 (default : Int))⟩ : GEpoch), 0, (Vector.replicate 8 (default : Int)), 0, (⟨0, 0, 0, []⟩ : GPart), 0, 0, 0⟩ : GEntry), 0, (Vector.replicate 8 (default : Int)), 0, 0, [], m.Epoch, (⟨0, 0, 0, []⟩ : GPart)⟩ : GMsg), true))
 else
 (bif (m.Kind == 13) then
 (some ((⟨m.Kind, m.From, m.To, (⟨0, 0⟩ : GBallot), 0, [], (⟨0, 0, 0, (⟨(⟨0, 0⟩ : GStamp), 0, 0, 0, [], [], []⟩ : GOp), 0, 0, [], (⟨0, (Vector.replicate 8 (default : Int)), (Vector.replicate 8 (default : Int)), (Vector.replicate 8 (default : Int))⟩ : GEpoch), 0, (Vector.replicate 8 (default : Int)), 0, (⟨0, 0, 0, []⟩ : GPart), 0, 0, 0⟩ : GEntry), 0, (Vector.replicate 8 (default : Int)), 0, 0, [], (⟨0, (Vector.replicate 8 (default : Int)), (Vector.replicate 8 (default : Int)), (Vector.replicate 8 (default : Int))⟩ : GEpoch), m.Part⟩ : GMsg), true))
 else
 (bif (m.Kind == 14) then
 (some ((⟨m.Kind, m.From, m.To, (⟨0, 0⟩ : GBallot), 0, [], (⟨0, 0, 0, (⟨(⟨0, 0⟩ : GStamp), 0, 0, 0, [], [], []⟩ : GOp), 0, 0, [], (⟨0, (Vector.replicate 8 (default : Int)), (Vector.replicate 8 (default : Int)), (Vector.replicate 8 (default : Int))⟩ : GEpoch), 0, (Vector.replicate 8 (default : Int)), 0, (⟨0, 0, 0, []⟩ : GPart), 0, 0, 0⟩ : GEntry), m.Number, m.Vector_, 0, 0, [], (⟨0, (Vector.replicate 8 (default : Int)), (Vector.replicate 8 (default : Int)), (Vector.replicate 8 (default : Int))⟩ : GEpoch), (⟨0, 0, 0, []⟩ : GPart)⟩ : GMsg), true))
 else
 (bif (m.Kind == 15) then
 (some ((⟨m.Kind, m.From, m.To, (⟨0, 0⟩ : GBallot), m.Slot, [], (⟨0, 0, 0, (⟨(⟨0, 0⟩ : GStamp), 0, 0, 0, [], [], []⟩ : GOp), 0, 0, [], (⟨0, (Vector.replicate 8 (default : Int)), (Vector.replicate 8 (default : Int)), (Vector.replicate 8 (default : Int))⟩ : GEpoch), 0, (Vector.replicate 8 (default : Int)), 0, (⟨0, 0, 0, []⟩ : GPart), 0, 0, 0⟩ : GEntry), 0, (Vector.replicate 8 (default : Int)), 0, 0, [], (⟨0, (Vector.replicate 8 (default : Int)), (Vector.replicate 8 (default : Int)), (Vector.replicate 8 (default : Int))⟩ : GEpoch), m.Part⟩ : GMsg), true))
 else
 (some ((⟨m.Kind, m.From, m.To, (⟨0, 0⟩ : GBallot), 0, [], (⟨0, 0, 0, (⟨(⟨0, 0⟩ : GStamp), 0, 0, 0, [], [], []⟩ : GOp), 0, 0, [], (⟨0, (Vector.replicate 8 (default : Int)), (Vector.replicate 8 (default : Int)), (Vector.replicate 8 (default : Int))⟩ : GEpoch), 0, (Vector.replicate 8 (default : Int)), 0, (⟨0, 0, 0, []⟩ : GPart), 0, 0, 0⟩ : GEntry), 0, (Vector.replicate 8 (default : Int)), 0, 0, [], (⟨0, (Vector.replicate 8 (default : Int)), (Vector.replicate 8 (default : Int)), (Vector.replicate 8 (default : Int))⟩ : GEpoch), (⟨0, 0, 0, []⟩ : GPart)⟩ : GMsg), false)))))))))))))))
 else
 (bif (m.Kind == 7) then
 (some ((⟨m.Kind, m.From, m.To, m.Ballot, m.Slot, [], (⟨0, 0, 0, (⟨(⟨0, 0⟩ : GStamp), 0, 0, 0, [], [], []⟩ : GOp), 0, 0, [], (⟨0, (Vector.replicate 8 (default : Int)), (Vector.replicate 8 (default : Int)), (Vector.replicate 8 (default : Int))⟩ : GEpoch), 0, (Vector.replicate 8 (default : Int)), 0, (⟨0, 0, 0, []⟩ : GPart), 0, 0, 0⟩ : GEntry), 0, (Vector.replicate 8 (default : Int)), 0, 0, [], (⟨0, (Vector.replicate 8 (default : Int)), (Vector.replicate 8 (default : Int)), (Vector.replicate 8 (default : Int))⟩ : GEpoch), (⟨0, 0, 0, []⟩ : GPart)⟩ : GMsg), true))
 else
 (bif (m.Kind == 2) then
 (some ((⟨m.Kind, m.From, m.To, m.Ballot, m.Slot, m.List_, (⟨0, 0, 0, (⟨(⟨0, 0⟩ : GStamp), 0, 0, 0, [], [], []⟩ : GOp), 0, 0, [], (⟨0, (Vector.replicate 8 (default : Int)), (Vector.replicate 8 (default : Int)), (Vector.replicate 8 (default : Int))⟩ : GEpoch), 0, (Vector.replicate 8 (default : Int)), 0, (⟨0, 0, 0, []⟩ : GPart), 0, 0, 0⟩ : GEntry), 0, (Vector.replicate 8 (default : Int)), 0, 0, [], (⟨0, (Vector.replicate 8 (default : Int)), (Vector.replicate 8 (default : Int)), (Vector.replicate 8 (default : Int))⟩ : GEpoch), (⟨0, 0, 0, []⟩ : GPart)⟩ : GMsg), true))
 else
 (bif (m.Kind == 3) then
 (some ((⟨m.Kind, m.From, m.To, m.Ballot, 0, m.List_, (⟨0, 0, 0, (⟨(⟨0, 0⟩ : GStamp), 0, 0, 0, [], [], []⟩ : GOp), 0, 0, [], (⟨0, (Vector.replicate 8 (default : Int)), (Vector.replicate 8 (default : Int)), (Vector.replicate 8 (default : Int))⟩ : GEpoch), 0, (Vector.replicate 8 (default : Int)), 0, (⟨0, 0, 0, []⟩ : GPart), 0, 0, 0⟩ : GEntry), 0, (Vector.replicate 8 (default : Int)), 0, 0, [], (⟨0, (Vector.replicate 8 (default : Int)), (Vector.replicate 8 (default : Int)), (Vector.replicate 8 (default : Int))⟩ : GEpoch), (⟨0, 0, 0, []⟩ : GPart)⟩ : GMsg), true))
 else
 (bif (m.Kind == 5) then
 (some ((⟨m.Kind, m.From, m.To, m.Ballot, 0, [], (⟨0, 0, 0, (⟨(⟨0, 0⟩ : GStamp), 0, 0, 0, [], [], []⟩ : GOp), 0, 0, [], (⟨0, (Vector.replicate 8 (default : Int)), (Vector.replicate 8 (default : Int)), (Vector.replicate 8 (default : Int))⟩ : GEpoch), 0, (Vector.replicate 8 (default : Int)), 0, (⟨0, 0, 0, []⟩ : GPart), 0, 0, 0⟩ : GEntry), 0, (Vector.replicate 8 (default : Int)), 0, 0, [], (⟨0, (Vector.replicate 8 (default : Int)), (Vector.replicate 8 (default : Int)), (Vector.replicate 8 (default : Int))⟩ : GEpoch), (⟨0, 0, 0, []⟩ : GPart)⟩ : GMsg), true))
 else
 (bif (m.Kind == 6) then
 (some ((⟨m.Kind, m.From, m.To, (⟨0, 0⟩ : GBallot), 0, m.List_, (⟨0, 0, 0, (⟨(⟨0, 0⟩ : GStamp), 0, 0, 0, [], [], []⟩ : GOp), 0, 0, [], (⟨0, (Vector.replicate 8 (default : Int)), (Vector.replicate 8 (default : Int)), (Vector.replicate 8 (default : Int))⟩ : GEpoch), 0, (Vector.replicate 8 (default : Int)), 0, (⟨0, 0, 0, []⟩ : GPart), 0, 0, 0⟩ : GEntry), 0, (Vector.replicate 8 (default : Int)), 0, 0, [], (⟨0, (Vector.replicate 8 (default : Int)), (Vector.replicate 8 (default : Int)), (Vector.replicate 8 (default : Int))⟩ : GEpoch), (⟨0, 0, 0, []⟩ : GPart)⟩ : GMsg), true))
 else
 (bif (m.Kind == 8) then
 (some ((⟨m.Kind, m.From, m.To, (⟨0, 0⟩ : GBallot), m.Slot, [], (⟨0, 0, 0, (⟨(⟨0, 0⟩ : GStamp), 0, 0, 0, [], [], []⟩ : GOp), 0, 0, [], (⟨0, (Vector.replicate 8 (default : Int)), (Vector.replicate 8 (default : Int)), (Vector.replicate 8 (default : Int))⟩ : GEpoch), 0, (Vector.replicate 8 (default : Int)), 0, (⟨0, 0, 0, []⟩ : GPart), 0, 0, 0⟩ : GEntry), 0, (Vector.replicate 8 (default : Int)), 0, 0, [], (⟨0, (Vector.replicate 8 (default : Int)), (Vector.replicate 8 (default : Int)), (Vector.replicate 8 (default : Int))⟩ : GEpoch), (⟨0, 0, 0, []⟩ : GPart)⟩ : GMsg), true))
 else
 (bif (m.Kind == 9) then
 (some ((⟨m.Kind, m.From, m.To, (⟨0, 0⟩ : GBallot), 0, [], m.Entry, 0, (Vector.replicate 8 (default : Int)), 0, 0, [], (⟨0, (Vector.replicate 8 (default : Int)), (Vector.replicate 8 (default : Int)), (Vector.replicate 8 (default : Int))⟩ : GEpoch), (⟨0, 0, 0, []⟩ : GPart)⟩ : GMsg), true))
 else
 (bif (m.Kind == 10) then
 (some ((⟨m.Kind, m.From, m.To, (⟨0, 0⟩ : GBallot), 0, [], (⟨0, 0, 0, (⟨(⟨0, 0⟩ : GStamp), 0, 0, 0, [], [], []⟩ : GOp), 0, 0, [], (⟨0, (Vector.replicate 8 (default : Int)), (Vector.replicate 8 (default : Int)), (Vector.replicate 8 (default : Int))⟩ : GEpoch), 0, (Vector.replicate 8 (default : Int)), 0, (⟨0, 0, 0, []⟩ : GPart), 0, 0, 0⟩ : GEntry), m.Number, m.Vector_, m.Clock, 0, [], (⟨0, (Vector.replicate 8 (default : Int)), (Vector.replicate 8 (default : Int)), (Vector.replicate 8 (default : Int))⟩ : GEpoch), (⟨0, 0, 0, []⟩ : GPart)⟩ : GMsg), true))
 else
 (bif (m.Kind == 11) then
 (some ((⟨m.Kind, m.From, m.To, (⟨0, 0⟩ : GBallot), m.Slot, [], (⟨0, 0, 0, (⟨(⟨0, 0⟩ : GStamp), 0, 0, 0, [], [], []⟩ : GOp), 0, 0, [], (⟨0, (Vector.replicate 8 (default : Int)), (Vector.replicate 8 (default : Int)), (Vector.replicate 8 (default : Int))⟩ : GEpoch), 0, (Vector.replicate 8 (default : Int)), 0, (⟨0, 0, 0, []⟩ : GPart), 0, 0, 0⟩ : GEntry), m.Number, (Vector.replicate 8 (default : Int)), 0, m.Origin, m.Ops, (⟨0, (Vector.replicate 8 (default : Int)), (Vector.replicate 8 (default : Int)), (Vector.replicate 8 (default : Int))⟩ : GEpoch), (⟨0, 0, 0, []⟩ : GPart)⟩ : GMsg), true))
 else
 (bif (m.Kind == 12) then
 (some ((⟨m.Kind, m.From, m.To, (⟨0, 0⟩ : GBallot), 0, [], (⟨0, 0, 0, (⟨(⟨0, 0⟩ : GStamp), 0, 0, 0, [], [], []⟩ : GOp), 0, 0, [], (⟨0, (Vector.replicate 8 (default : Int)), (Vector.replicate 8 (default : Int)), (Vector.replicate 8 (default : Int))⟩ : GEpoch), 0, (Vector.replicate 8 (default : Int)), 0, (⟨0, 0, 0, []⟩ : GPart), 0, 0, 0⟩ : GEntry), 0, (Vector.replicate 8 (default : Int)), 0, 0, [], m.Epoch, (⟨0, 0, 0, []⟩ : GPart)⟩ : GMsg), true))
 else
 (bif (m.Kind == 13) then
 (some ((⟨m.Kind, m.From, m.To, (⟨0, 0⟩ : GBallot), 0, [], (⟨0, 0, 0, (⟨(⟨0, 0⟩ : GStamp), 0, 0, 0, [], [], []⟩ : GOp), 0, 0, [], (⟨0, (Vector.replicate 8 (default : Int)), (Vector.replicate 8 (default : Int)), (Vector.replicate 8 (default : Int))⟩ : GEpoch), 0, (Vector.replicate 8 (default : Int)), 0, (⟨0, 0, 0, []⟩ : GPart), 0, 0, 0⟩ : GEntry), 0, (Vector.replicate 8 (default : Int)), 0, 0, [], (⟨0, (Vector.replicate 8 (default : Int)), (Vector.replicate 8 (default : Int)), (Vector.replicate 8 (default : Int))⟩ : GEpoch), m.Part⟩ : GMsg), true))
 else
 (bif (m.Kind == 14) then
 (some ((⟨m.Kind, m.From, m.To, (⟨0, 0⟩ : GBallot), 0, [], (⟨0, 0, 0, (⟨(⟨0, 0⟩ : GStamp), 0, 0, 0, [], [], []⟩ : GOp), 0, 0, [], (⟨0, (Vector.replicate 8 (default : Int)), (Vector.replicate 8 (default : Int)), (Vector.replicate 8 (default : Int))⟩ : GEpoch), 0, (Vector.replicate 8 (default : Int)), 0, (⟨0, 0, 0, []⟩ : GPart), 0, 0, 0⟩ : GEntry), m.Number, m.Vector_, 0, 0, [], (⟨0, (Vector.replicate 8 (default : Int)), (Vector.replicate 8 (default : Int)), (Vector.replicate 8 (default : Int))⟩ : GEpoch), (⟨0, 0, 0, []⟩ : GPart)⟩ : GMsg), true))
 else
 (bif (m.Kind == 15) then
 (some ((⟨m.Kind, m.From, m.To, (⟨0, 0⟩ : GBallot), m.Slot, [], (⟨0, 0, 0, (⟨(⟨0, 0⟩ : GStamp), 0, 0, 0, [], [], []⟩ : GOp), 0, 0, [], (⟨0, (Vector.replicate 8 (default : Int)), (Vector.replicate 8 (default : Int)), (Vector.replicate 8 (default : Int))⟩ : GEpoch), 0, (Vector.replicate 8 (default : Int)), 0, (⟨0, 0, 0, []⟩ : GPart), 0, 0, 0⟩ : GEntry), 0, (Vector.replicate 8 (default : Int)), 0, 0, [], (⟨0, (Vector.replicate 8 (default : Int)), (Vector.replicate 8 (default : Int)), (Vector.replicate 8 (default : Int))⟩ : GEpoch), m.Part⟩ : GMsg), true))
 else
 (some ((⟨m.Kind, m.From, m.To, (⟨0, 0⟩ : GBallot), 0, [], (⟨0, 0, 0, (⟨(⟨0, 0⟩ : GStamp), 0, 0, 0, [], [], []⟩ : GOp), 0, 0, [], (⟨0, (Vector.replicate 8 (default : Int)), (Vector.replicate 8 (default : Int)), (Vector.replicate 8 (default : Int))⟩ : GEpoch), 0, (Vector.replicate 8 (default : Int)), 0, (⟨0, 0, 0, []⟩ : GPart), 0, 0, 0⟩ : GEntry), 0, (Vector.replicate 8 (default : Int)), 0, 0, [], (⟨0, (Vector.replicate 8 (default : Int)), (Vector.replicate 8 (default : Int)), (Vector.replicate 8 (default : Int))⟩ : GEpoch), (⟨0, 0, 0, []⟩ : GPart)⟩ : GMsg), false)))))))))))))))))
def conref04_plain : Con τ := { args := [.ty 50], L := [], ret := .tup [.ty 50, .ty 4], L' := [], R := GMsg × Bool, dflt := (default, default), F := fun N a b => Fref04_plain N a.1, of := fun r => ((r.1, r.2, ()), ()) }
noncomputable def datref04_plain : Dat τ := { D := D0, tbl := tblOf [], lp := lpsOf [], k0 := 0, mu := [], un := [] }
theorem okref04_plain : ConOk E C 113 conref04_plain :=
  con_ok (D := datref04_plain) ⟨d0Ok, eGood, tblOf_ok (l := []) trivial⟩ conref04_plain (fun a b => (a.1, a.2.1)) none (fun _ _ => rfl) rfl (fun _ _ h => nomatch h) 1000000 (fn := Try.f113) Try.func113 rfl (by kernel_rfl) (by kernel_rfl) rfl (by intro N a b; kernel_rfl)

/-- orchard/orchardref04.SameSlotted -/
def Fref04_SameSlotted (N : Nat) (a : GSlotted) (b : GSlotted) : Option (Bool) :=
 ((bif ((a.Slot == b.Slot) && ((a.Ballot.Round == b.Ballot.Round) && (a.Ballot.Replica == b.Ballot.Replica))) then Fref04_SameEntry N a.Entry b.Entry else some default).bind fun r1 =>
 (some (((a.Slot == b.Slot) && ((a.Ballot.Round == b.Ballot.Round) && (a.Ballot.Replica == b.Ballot.Replica))) && r1)))
def conref04_SameSlotted : Con τ := { args := [.ty 80, .ty 80], L := [], ret := .ty 4, L' := [], R := Bool, dflt := default, F := fun N a b => Fref04_SameSlotted N a.1 a.2.1, of := fun r => (r, ()) }
noncomputable def datref04_SameSlotted : Dat τ := { D := D0, tbl := tblOf [(12, conref04_SameEntry)], lp := lpsOf [], k0 := 0, mu := [], un := [] }
theorem okref04_SameSlotted : ConOk E C 102 conref04_SameSlotted :=
  con_ok (D := datref04_SameSlotted) ⟨d0Ok, eGood, tblOf_ok (l := [(12, conref04_SameEntry)]) ⟨okref04_SameEntry, trivial⟩⟩ conref04_SameSlotted (fun a b => a) none (fun _ _ => rfl) rfl (fun _ _ h => nomatch h) 1000000 (fn := Try.f102) Try.func102 rfl (by kernel_rfl) (by kernel_rfl) rfl (by intro N a b; kernel_rfl)

structure Sref04_SameListx4 where
  i : Int
def tsref04_SameListx4 : List Sl := [.keep, .keep, .keep, .keep, .junk, .sh (.ty 2), .keep, .keep, .keep, .keep, .keep, .junk, .junk, .junk, .junk, .junk, .junk, .junk, .junk, .junk, .junk, .junk, .junk, .junk, .junk, .junk, .junk]
def hsref04_SameListx4 : List ESh := []
def toref04_SameListx4 (a : Sl.Ts τ tsref04_SameListx4) (b : ESh.Ts τ hsref04_SameListx4) : Sref04_SameListx4 := ⟨a.2.2.2.2.2.1⟩
def otref04_SameListx4 (s : Sref04_SameListx4) : Sl.Ts τ tsref04_SameListx4 := ((), (), (), (), (), s.i, (), (), (), (), (), (), (), (), (), (), (), (), (), (), (), (), (), (), (), (), (), ())
def ohref04_SameListx4 (s : Sref04_SameListx4) : ESh.Ts τ hsref04_SameListx4 := ()
def lpref04_SameListx4 : Lp τ := { ts := tsref04_SameListx4, hs := hsref04_SameListx4, S := Sref04_SameListx4, to := toref04_SameListx4, ot := otref04_SameListx4, oh := ohref04_SameListx4, hk := [], tk := [], ot_to := fun _ _ => rfl, oh_to := fun _ _ => rfl }
/-- orchard/orchardref04.SameList -/
def Fref04_SameList (N : Nat) (a : List (GSlotted)) (b : List (GSlotted)) : Option (Bool) :=
 (bif (!(((a).length : Int) == ((b).length : Int))) then
 (some false)
 else
 (iter N (fun (s1 : Sref04_SameListx4) next2 =>
 (bif (decide (s1.i < ((a).length : Int))) then
 (bif (ibB s1.i ((a).length : Int)) then
 (bif (ibB s1.i ((b).length : Int)) then
 ((Fref04_SameSlotted N (⟨(lget a s1.i default).Slot, ((lget a s1.i default).Ballot), (⟨((lget a s1.i default).Entry).Kind, ((lget a s1.i default).Entry).Session, ((lget a s1.i default).Entry).Request, (⟨((((lget a s1.i default).Entry).Op).Stamp), (((lget a s1.i default).Entry).Op).Kind, (((lget a s1.i default).Entry).Op).Node, (((lget a s1.i default).Entry).Op).Parent, (((lget a s1.i default).Entry).Op).Name, (((lget a s1.i default).Entry).Op).Key, (((lget a s1.i default).Entry).Op).Value⟩ : GOp), ((lget a s1.i default).Entry).Origin, ((lget a s1.i default).Entry).Seq, ((lget a s1.i default).Entry).Ops, (((lget a s1.i default).Entry).Epoch), ((lget a s1.i default).Entry).From, ((lget a s1.i default).Entry).Vector_, ((lget a s1.i default).Entry).Clock, (((lget a s1.i default).Entry).Part), ((lget a s1.i default).Entry).Site, ((lget a s1.i default).Entry).Sponsor, ((lget a s1.i default).Entry).Length⟩ : GEntry)⟩ : GSlotted) (⟨(lget b s1.i default).Slot, ((lget b s1.i default).Ballot), (⟨((lget b s1.i default).Entry).Kind, ((lget b s1.i default).Entry).Session, ((lget b s1.i default).Entry).Request, (⟨((((lget b s1.i default).Entry).Op).Stamp), (((lget b s1.i default).Entry).Op).Kind, (((lget b s1.i default).Entry).Op).Node, (((lget b s1.i default).Entry).Op).Parent, (((lget b s1.i default).Entry).Op).Name, (((lget b s1.i default).Entry).Op).Key, (((lget b s1.i default).Entry).Op).Value⟩ : GOp), ((lget b s1.i default).Entry).Origin, ((lget b s1.i default).Entry).Seq, ((lget b s1.i default).Entry).Ops, (((lget b s1.i default).Entry).Epoch), ((lget b s1.i default).Entry).From, ((lget b s1.i default).Entry).Vector_, ((lget b s1.i default).Entry).Clock, (((lget b s1.i default).Entry).Part), ((lget b s1.i default).Entry).Site, ((lget b s1.i default).Entry).Sponsor, ((lget b s1.i default).Entry).Length⟩ : GEntry)⟩ : GSlotted)).bind fun r3 =>
 (bif (!r3) then
 (some false)
 else
 (next2 ⟨(IntKind.i64.wrap (s1.i + 1))⟩)))
 else none)
 else none)
 else
 (some true))) ⟨0⟩))
def conref04_SameList : Con τ := { args := [.ty 48, .ty 48], L := [], ret := .ty 4, L' := [], R := Bool, dflt := default, F := fun N a b => Fref04_SameList N a.1 a.2.1, of := fun r => (r, ()) }
noncomputable def datref04_SameList : Dat τ := { D := D0, tbl := tblOf [(102, conref04_SameSlotted)], lp := lpsOf [(4, lpref04_SameListx4)], k0 := 0, mu := [], un := [] }
theorem okref04_SameList : ConOk E C 56 conref04_SameList :=
  con_ok (D := datref04_SameList) ⟨d0Ok, eGood, tblOf_ok (l := [(102, conref04_SameSlotted)]) ⟨okref04_SameSlotted, trivial⟩⟩ conref04_SameList (fun a b => a) none (fun _ _ => rfl) rfl (fun _ _ h => nomatch h) 1000000 (fn := Try.f56) Try.func56 rfl (by kernel_rfl) (by kernel_rfl) rfl (by intro N a b; kernel_rfl)

/-- orchard/orchardref04.SameMsg -/
def Fref04_SameMsg (N : Nat) (a : GMsg) (b : GMsg) : Option (Bool) :=
 ((bif (((((a.Kind == b.Kind) && ((a.From.Group == b.From.Group) && (a.From.Replica == b.From.Replica))) && ((a.To.Group == b.To.Group) && (a.To.Replica == b.To.Replica))) && ((a.Ballot.Round == b.Ballot.Round) && (a.Ballot.Replica == b.Ballot.Replica))) && (a.Slot == b.Slot)) then Fref04_SameList N a.List_ b.List_ else some default).bind fun r1 =>
 ((bif ((((((a.Kind == b.Kind) && ((a.From.Group == b.From.Group) && (a.From.Replica == b.From.Replica))) && ((a.To.Group == b.To.Group) && (a.To.Replica == b.To.Replica))) && ((a.Ballot.Round == b.Ballot.Round) && (a.Ballot.Replica == b.Ballot.Replica))) && (a.Slot == b.Slot)) && r1) then Fref04_SameEntry N a.Entry b.Entry else some default).bind fun r2 =>
 ((bif (((((((((((a.Kind == b.Kind) && ((a.From.Group == b.From.Group) && (a.From.Replica == b.From.Replica))) && ((a.To.Group == b.To.Group) && (a.To.Replica == b.To.Replica))) && ((a.Ballot.Round == b.Ballot.Round) && (a.Ballot.Replica == b.Ballot.Replica))) && (a.Slot == b.Slot)) && r1) && r2) && (a.Number == b.Number)) && (vbeq beq2 a.Vector_ b.Vector_)) && (a.Clock == b.Clock)) && (a.Origin == b.Origin)) then Fref04_sameOps N a.Ops b.Ops else some default).bind fun r3 =>
 ((bif (((((((((((((a.Kind == b.Kind) && ((a.From.Group == b.From.Group) && (a.From.Replica == b.From.Replica))) && ((a.To.Group == b.To.Group) && (a.To.Replica == b.To.Replica))) && ((a.Ballot.Round == b.Ballot.Round) && (a.Ballot.Replica == b.Ballot.Replica))) && (a.Slot == b.Slot)) && r1) && r2) && (a.Number == b.Number)) && (vbeq beq2 a.Vector_ b.Vector_)) && (a.Clock == b.Clock)) && (a.Origin == b.Origin)) && r3) && ((a.Epoch.Number == b.Epoch.Number) && ((vbeq beq3 a.Epoch.States b.Epoch.States) && ((vbeq beq2 a.Epoch.Seals b.Epoch.Seals) && (vbeq beq3 a.Epoch.Sponsor b.Epoch.Sponsor))))) then Fref04_SamePart N a.Part b.Part else some default).bind fun r4 =>
 (some ((((((((((((((a.Kind == b.Kind) && ((a.From.Group == b.From.Group) && (a.From.Replica == b.From.Replica))) && ((a.To.Group == b.To.Group) && (a.To.Replica == b.To.Replica))) && ((a.Ballot.Round == b.Ballot.Round) && (a.Ballot.Replica == b.Ballot.Replica))) && (a.Slot == b.Slot)) && r1) && r2) && (a.Number == b.Number)) && (vbeq beq2 a.Vector_ b.Vector_)) && (a.Clock == b.Clock)) && (a.Origin == b.Origin)) && r3) && ((a.Epoch.Number == b.Epoch.Number) && ((vbeq beq3 a.Epoch.States b.Epoch.States) && ((vbeq beq2 a.Epoch.Seals b.Epoch.Seals) && (vbeq beq3 a.Epoch.Sponsor b.Epoch.Sponsor))))) && r4))))))
def conref04_SameMsg : Con τ := { args := [.ty 50, .ty 50], L := [], ret := .ty 4, L' := [], R := Bool, dflt := default, F := fun N a b => Fref04_SameMsg N a.1 a.2.1, of := fun r => (r, ()) }
noncomputable def datref04_SameMsg : Dat τ := { D := D0, tbl := tblOf [(56, conref04_SameList), (12, conref04_SameEntry), (50, conref04_sameOps), (51, conref04_SamePart)], lp := lpsOf [], k0 := 0, mu := [], un := [] }
theorem okref04_SameMsg : ConOk E C 16 conref04_SameMsg :=
  con_ok (D := datref04_SameMsg) ⟨d0Ok, eGood, tblOf_ok (l := [(56, conref04_SameList), (12, conref04_SameEntry), (50, conref04_sameOps), (51, conref04_SamePart)]) ⟨okref04_SameList, ⟨okref04_SameEntry, ⟨okref04_sameOps, ⟨okref04_SamePart, trivial⟩⟩⟩⟩⟩ conref04_SameMsg (fun a b => a) none (fun _ _ => rfl) rfl (fun _ _ h => nomatch h) 1000000 (fn := Try.f16) Try.func16 rfl (by kernel_rfl) (by kernel_rfl) rfl (by intro N a b; kernel_rfl)

/-- orchard/orchardref04.MayAddr -/
def Fref04_MayAddr (N : Nat) (a : GAddr) : Option (Bool) :=
 (some ((((decide (0 ≤ a.Group)) && (decide (a.Group < 9))) && (decide (0 ≤ a.Replica))) && (decide (a.Replica < 5))))
def conref04_MayAddr : Con τ := { args := [.ty 45], L := [], ret := .ty 4, L' := [], R := Bool, dflt := default, F := fun N a b => Fref04_MayAddr N a.1, of := fun r => (r, ()) }
noncomputable def datref04_MayAddr : Dat τ := { D := D0, tbl := tblOf [], lp := lpsOf [], k0 := 0, mu := [], un := [] }
theorem okref04_MayAddr : ConOk E C 114 conref04_MayAddr :=
  con_ok (D := datref04_MayAddr) ⟨d0Ok, eGood, tblOf_ok (l := []) trivial⟩ conref04_MayAddr (fun a b => a) none (fun _ _ => rfl) rfl (fun _ _ h => nomatch h) 1000000 (fn := Try.f114) Try.func114 rfl (by kernel_rfl) (by kernel_rfl) rfl (by intro N a b; kernel_rfl)

/-- orchard/orchardref04.ballot -/
def Fref04_ballot (N : Nat) (b : GBallot) : Option (Bool) :=
 ((Fref04_count N b.Round).bind fun r1 =>
 (some ((r1 && (decide (0 ≤ b.Replica))) && (decide (b.Replica < 5)))))
def conref04_ballot : Con τ := { args := [.ty 47], L := [], ret := .ty 4, L' := [], R := Bool, dflt := default, F := fun N a b => Fref04_ballot N a.1, of := fun r => (r, ()) }
noncomputable def datref04_ballot : Dat τ := { D := D0, tbl := tblOf [(43, conref04_count)], lp := lpsOf [], k0 := 0, mu := [], un := [] }
theorem okref04_ballot : ConOk E C 115 conref04_ballot :=
  con_ok (D := datref04_ballot) ⟨d0Ok, eGood, tblOf_ok (l := [(43, conref04_count)]) ⟨okref04_count, trivial⟩⟩ conref04_ballot (fun a b => a) none (fun _ _ => rfl) rfl (fun _ _ h => nomatch h) 1000000 (fn := Try.f115) Try.func115 rfl (by kernel_rfl) (by kernel_rfl) rfl (by intro N a b; kernel_rfl)

structure Sref04_listx2 where
  i : Int
def tsref04_listx2 : List Sl := [.keep, .keep, .keep, .keep, .keep, .keep, .junk, .sh (.ty 2), .junk, .junk, .junk, .junk, .junk, .junk, .junk, .junk, .junk, .junk, .junk, .junk, .junk, .junk, .junk, .junk, .junk, .junk, .junk, .junk, .junk, .junk, .junk, .junk, .junk, .junk, .junk, .junk, .junk, .junk, .junk, .keep, .keep, .keep, .keep, .keep, .keep, .keep, .keep, .keep, .keep]
def hsref04_listx2 : List ESh := []
def toref04_listx2 (a : Sl.Ts τ tsref04_listx2) (b : ESh.Ts τ hsref04_listx2) : Sref04_listx2 := ⟨a.2.2.2.2.2.2.2.1⟩
def otref04_listx2 (s : Sref04_listx2) : Sl.Ts τ tsref04_listx2 := ((), (), (), (), (), (), (), s.i, (), (), (), (), (), (), (), (), (), (), (), (), (), (), (), (), (), (), (), (), (), (), (), (), (), (), (), (), (), (), (), (), (), (), (), (), (), (), (), (), (), ())
def ohref04_listx2 (s : Sref04_listx2) : ESh.Ts τ hsref04_listx2 := ()
def lpref04_listx2 : Lp τ := { ts := tsref04_listx2, hs := hsref04_listx2, S := Sref04_listx2, to := toref04_listx2, ot := otref04_listx2, oh := ohref04_listx2, hk := [], tk := [], ot_to := fun _ _ => rfl, oh_to := fun _ _ => rfl }
/-- orchard/orchardref04.list -/
def Fref04_list (N : Nat) (l : List (GSlotted)) (least : Int) (most : Int) : Option (Bool) :=
 (iter N (fun (s1 : Sref04_listx2) next2 =>
 (bif (decide (s1.i < ((l).length : Int))) then
 (bif (ibB s1.i ((l).length : Int)) then
 ((Fref04_count N ((lget l s1.i default).Slot)).bind fun r3 =>
 (bif (!(!(!r3)) || (ibB s1.i ((l).length : Int))) then
 ((bif (!(!r3)) then Fref04_ballot N ((lget l s1.i default).Ballot) else some default).bind fun r4 =>
 (bif (!(!((!r3) || (!r4))) || (ibB s1.i ((l).length : Int))) then
 ((bif (!((!r3) || (!r4))) then Fref04_MayEntry N (⟨((lget l s1.i default).Entry).Kind, ((lget l s1.i default).Entry).Session, ((lget l s1.i default).Entry).Request, (⟨((((lget l s1.i default).Entry).Op).Stamp), (((lget l s1.i default).Entry).Op).Kind, (((lget l s1.i default).Entry).Op).Node, (((lget l s1.i default).Entry).Op).Parent, (((lget l s1.i default).Entry).Op).Name, (((lget l s1.i default).Entry).Op).Key, (((lget l s1.i default).Entry).Op).Value⟩ : GOp), ((lget l s1.i default).Entry).Origin, ((lget l s1.i default).Entry).Seq, ((lget l s1.i default).Entry).Ops, (((lget l s1.i default).Entry).Epoch), ((lget l s1.i default).Entry).From, ((lget l s1.i default).Entry).Vector_, ((lget l s1.i default).Entry).Clock, (((lget l s1.i default).Entry).Part), ((lget l s1.i default).Entry).Site, ((lget l s1.i default).Entry).Sponsor, ((lget l s1.i default).Entry).Length⟩ : GEntry) else some default).bind fun r5 =>
 (bif (((!r3) || (!r4)) || (!r5)) then
 (some false)
 else
 (next2 ⟨(IntKind.i64.wrap (s1.i + 1))⟩)))
 else none))
 else none))
 else none)
 else
 (some ((decide (least ≤ ((l).length : Int))) && (decide (((l).length : Int) ≤ most)))))) ⟨0⟩)
def conref04_list : Con τ := { args := [.ty 48, .ty 3, .ty 3], L := [], ret := .ty 4, L' := [], R := Bool, dflt := default, F := fun N a b => Fref04_list N a.1 a.2.1 a.2.2.1, of := fun r => (r, ()) }
noncomputable def datref04_list : Dat τ := { D := D0, tbl := tblOf [(43, conref04_count), (115, conref04_ballot), (11, conref04_MayEntry)], lp := lpsOf [(2, lpref04_listx2)], k0 := 0, mu := [], un := [] }
theorem okref04_list : ConOk E C 116 conref04_list :=
  con_ok (D := datref04_list) ⟨d0Ok, eGood, tblOf_ok (l := [(43, conref04_count), (115, conref04_ballot), (11, conref04_MayEntry)]) ⟨okref04_count, ⟨okref04_ballot, ⟨okref04_MayEntry, trivial⟩⟩⟩⟩ conref04_list (fun a b => a) none (fun _ _ => rfl) rfl (fun _ _ h => nomatch h) 1000000 (fn := Try.f116) Try.func116 rfl (by kernel_rfl) (by kernel_rfl) rfl (by intro N a b; kernel_rfl)

/-- orchard/orchardref04.MayMsg -/
def Fref04_MayMsg (N : Nat) (m : GMsg) : Option (Bool) :=
 ((Fref04_plain N m).bind fun r1 =>
 ((bif (!(!r1.2)) then Fref04_SameMsg N m r1.1 else some default).bind fun r2 =>
 ((bif (!((!r1.2) || (!r2))) then Fref04_MayAddr N m.From else some default).bind fun r3 =>
 ((bif (!(((!r1.2) || (!r2)) || (!r3))) then Fref04_MayAddr N m.To else some default).bind fun r4 =>
 (bif ((((!r1.2) || (!r2)) || (!r3)) || (!r4)) then
 (some false)
 else
 ((Fref04_ballot N m.Ballot).bind fun r5 =>
 ((bif (!(!r5)) then Fref04_count N m.Slot else some default).bind fun r6 =>
 ((bif (!((!r5) || (!r6))) then Fref04_count N m.Number else some default).bind fun r7 =>
 ((bif (!(((!r5) || (!r6)) || (!r7))) then Fref04_MayVector N m.Vector_ else some default).bind fun r8 =>
 ((bif (!((((!r5) || (!r6)) || (!r7)) || (!r8))) then Fref04_count N m.Clock else some default).bind fun r9 =>
 (bif (((((!r5) || (!r6)) || (!r7)) || (!r8)) || (!r9)) then
 (some false)
 else
 (bif (m.Kind == 2) then
 ((Fref04_list N m.List_ 0 4096).bind fun r10 =>
 (some r10))
 else
 (bif (m.Kind == 3) then
 ((Fref04_list N m.List_ 1 1).bind fun r11 =>
 (some r11))
 else
 (bif (m.Kind == 6) then
 ((Fref04_list N m.List_ 1 4096).bind fun r12 =>
 (some r12))
 else
 (bif (m.Kind == 9) then
 ((Fref04_MayEntry N m.Entry).bind fun r13 =>
 (some r13))
 else
 (bif (m.Kind == 11) then
 ((Fref04_site N m.Origin).bind fun r14 =>
 ((bif r14 then Fref04_ops N m.Ops else some default).bind fun r15 =>
 (some (r14 && r15))))
 else
 (bif (m.Kind == 12) then
 ((Fref04_MayEpoch N m.Epoch).bind fun r16 =>
 (some r16))
 else
 (bif (m.Kind == 13) then
 (bif (m.Kind == 13) then
 ((Fref04_MayPart N m.Part).bind fun r17 =>
 (some r17))
 else
 (some true))
 else
 (bif (m.Kind == 15) then
 ((Fref04_MayPart N m.Part).bind fun r18 =>
 (some r18))
 else
 (some true))))))))))))))))))))
def conref04_MayMsg : Con τ := { args := [.ty 50], L := [], ret := .ty 4, L' := [], R := Bool, dflt := default, F := fun N a b => Fref04_MayMsg N a.1, of := fun r => (r, ()) }
noncomputable def datref04_MayMsg : Dat τ := { D := D0, tbl := tblOf [(113, conref04_plain), (16, conref04_SameMsg), (114, conref04_MayAddr), (115, conref04_ballot), (43, conref04_count), (48, conref04_MayVector), (116, conref04_list), (11, conref04_MayEntry), (45, conref04_site), (46, conref04_ops), (47, conref04_MayEpoch), (49, conref04_MayPart)], lp := lpsOf [], k0 := 0, mu := [], un := [] }
theorem okref04_MayMsg : ConOk E C 80 conref04_MayMsg :=
  con_ok (D := datref04_MayMsg) ⟨d0Ok, eGood, tblOf_ok (l := [(113, conref04_plain), (16, conref04_SameMsg), (114, conref04_MayAddr), (115, conref04_ballot), (43, conref04_count), (48, conref04_MayVector), (116, conref04_list), (11, conref04_MayEntry), (45, conref04_site), (46, conref04_ops), (47, conref04_MayEpoch), (49, conref04_MayPart)]) ⟨okref04_plain, ⟨okref04_SameMsg, ⟨okref04_MayAddr, ⟨okref04_ballot, ⟨okref04_count, ⟨okref04_MayVector, ⟨okref04_list, ⟨okref04_MayEntry, ⟨okref04_site, ⟨okref04_ops, ⟨okref04_MayEpoch, ⟨okref04_MayPart, trivial⟩⟩⟩⟩⟩⟩⟩⟩⟩⟩⟩⟩⟩ conref04_MayMsg (fun a b => a) none (fun _ _ => rfl) rfl (fun _ _ h => nomatch h) 1000000 (fn := Try.f80) Try.func80 rfl (by kernel_rfl) (by kernel_rfl) rfl (by intro N a b; kernel_rfl)

/-- orchard/orchardref04.CheckMsg -/
def Fref04_CheckMsg (N : Nat) (m : GMsg) : Option (Int) :=
 ((Fref04_MayMsg N m).bind fun r1 =>
 ((Fref04_Errno N r1).bind fun r2 =>
 (some r2)))
def conref04_CheckMsg : Con τ := { args := [.ty 50], L := [], ret := .ty 38, L' := [], R := Int, dflt := default, F := fun N a b => Fref04_CheckMsg N a.1, of := fun r => (r, ()) }
noncomputable def datref04_CheckMsg : Dat τ := { D := D0, tbl := tblOf [(80, conref04_MayMsg), (67, conref04_Errno)], lp := lpsOf [], k0 := 0, mu := [], un := [] }
theorem okref04_CheckMsg : ConOk E C 31 conref04_CheckMsg :=
  con_ok (D := datref04_CheckMsg) ⟨d0Ok, eGood, tblOf_ok (l := [(80, conref04_MayMsg), (67, conref04_Errno)]) ⟨okref04_MayMsg, ⟨okref04_Errno, trivial⟩⟩⟩ conref04_CheckMsg (fun a b => a) none (fun _ _ => rfl) rfl (fun _ _ h => nomatch h) 1000000 (fn := Try.f31) Try.func31 rfl (by kernel_rfl) (by kernel_rfl) rfl (by intro N a b; kernel_rfl)

/-- orchard/orchardlaw04.RecordChecks -/
def Flaw04_RecordChecks (N : Nat) (op : GOp) (e : GEpoch) (x : GEntry) (m : GMsg) : Option (Bool) :=
 ((Flaw04_begun N).bind fun r1 =>
 ((bif r1 then Frecord_CheckOp N op else some default).bind fun r2 =>
 ((bif r1 then Fref04_CheckOp N op else some default).bind fun r3 =>
 ((bif (r1 && (r2 == r3)) then Frecord_CheckEpoch N e else some default).bind fun r4 =>
 ((bif (r1 && (r2 == r3)) then Fref04_CheckEpoch N e else some default).bind fun r5 =>
 ((bif ((r1 && (r2 == r3)) && (r4 == r5)) then Frecord_CheckEntry N x else some default).bind fun r6 =>
 ((bif ((r1 && (r2 == r3)) && (r4 == r5)) then Fref04_CheckEntry N x else some default).bind fun r7 =>
 ((bif (((r1 && (r2 == r3)) && (r4 == r5)) && (r6 == r7)) then Frecord_CheckMsg N m else some default).bind fun r8 =>
 ((bif (((r1 && (r2 == r3)) && (r4 == r5)) && (r6 == r7)) then Fref04_CheckMsg N m else some default).bind fun r9 =>
 (some ((((r1 && (r2 == r3)) && (r4 == r5)) && (r6 == r7)) && (r8 == r9))))))))))))
def conlaw04_RecordChecks : Con τ := { args := [.ty 25, .ty 31, .ty 36, .ty 50], L := [], ret := .ty 4, L' := [], R := Bool, dflt := default, F := fun N a b => Flaw04_RecordChecks N a.1 a.2.1 a.2.2.1 a.2.2.2.1, of := fun r => (r, ()) }
noncomputable def datlaw04_RecordChecks : Dat τ := { D := D0, tbl := tblOf [(9, conlaw04_begun), (25, conrecord_CheckOp), (23, conref04_CheckOp), (26, conrecord_CheckEpoch), (27, conref04_CheckEpoch), (28, conrecord_CheckEntry), (29, conref04_CheckEntry), (30, conrecord_CheckMsg), (31, conref04_CheckMsg)], lp := lpsOf [], k0 := 0, mu := [], un := [] }
theorem oklaw04_RecordChecks : ConOk E C 6 conlaw04_RecordChecks :=
  con_ok (D := datlaw04_RecordChecks) ⟨d0Ok, eGood, tblOf_ok (l := [(9, conlaw04_begun), (25, conrecord_CheckOp), (23, conref04_CheckOp), (26, conrecord_CheckEpoch), (27, conref04_CheckEpoch), (28, conrecord_CheckEntry), (29, conref04_CheckEntry), (30, conrecord_CheckMsg), (31, conref04_CheckMsg)]) ⟨oklaw04_begun, ⟨okrecord_CheckOp, ⟨okref04_CheckOp, ⟨okrecord_CheckEpoch, ⟨okref04_CheckEpoch, ⟨okrecord_CheckEntry, ⟨okref04_CheckEntry, ⟨okrecord_CheckMsg, ⟨okref04_CheckMsg, trivial⟩⟩⟩⟩⟩⟩⟩⟩⟩⟩ conlaw04_RecordChecks (fun a b => a) none (fun _ _ => rfl) rfl (fun _ _ h => nomatch h) 1000000 (fn := Try.f6) Try.func6 rfl (by kernel_rfl) (by kernel_rfl) rfl (by intro N a b; kernel_rfl)

end Go.Proofs.Yteinehkdjkobnaa
