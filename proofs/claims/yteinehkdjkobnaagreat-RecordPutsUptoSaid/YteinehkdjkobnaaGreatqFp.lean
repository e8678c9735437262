/-
The functions of this seat, as plain functions over typed data, each with its contract. Printed by wip/tools/fngen.py.
-/
import Derived.Test.YteinehkdjkobnaaGreatqFpa
import Derived.Test.YteinehkdjkobnaaGreatqTvX
import Derived.KernelRfl
set_option linter.unusedVariables false
set_option maxRecDepth 100000
namespace Go.Proofs.YteinehkdjkobnaaGreat
open Go Go.Ev
def Frecord_reader_ints_5e2 (N : Nat) (b0 : Int) (b1 : GEntry) (b2 : Gwire_Writer) : Option (Int × GEntry × Gwire_Writer) :=
 ((Frecord_reader_int_407 N b0 b2).bind fun r1 =>
 (some (r1.2.1, (⟨b1.Kind, b1.Session, b1.Request, b1.Op, b1.Origin, b1.Seq, b1.Ops, b1.Epoch, b1.From, b1.Vector_, r1.1, b1.Part, b1.Site, b1.Sponsor, b1.Length⟩ : GEntry), r1.2.2)))
def conrecord_reader_ints_5e2 : Con τ := { args := [.ptr 0 [], .ls 1 [.ptr 1 [.fld 10 48]]], L := [.box (.agg [.ptr 2 [], .ty 35]), .box (.ty 64), .box (.ty 99)], ret := .tup [], L' := [.box (.agg [.ptr 2 [], .ty 35]), .box (.ty 64), .box (.ty 99)], R := Int × GEntry × Gwire_Writer, dflt := (default, default, default), F := fun N a b => Frecord_reader_ints_5e2 N b.1.2.1 b.2.1 b.2.2.1, of := fun r => ((), (((), r.1, ()), r.2.1, r.2.2, ())) }
noncomputable def datrecord_reader_ints_5e2 : Dat τ := { D := D0, tbl := tblOf [(139, conrecord_reader_int_407)], lp := lpsOf [], k0 := 3, mu := [], un := [(1, 3)] }
theorem okrecord_reader_ints_5e2 : ConOk E C 98 conrecord_reader_ints_5e2 :=
  con_ok (D := datrecord_reader_ints_5e2) ⟨d0Ok, eGood, tblOf_ok ⟨okrecord_reader_int_407, trivial⟩, fun _ => rfl⟩ conrecord_reader_ints_5e2 (fun a b => (b.1.2.1, b.2.1, b.2.2.1)) none (fun _ _ => rfl) rfl (fun _ _ h => nomatch h) 1000000 (fn := Tryz.f98) Tryz.func98 rfl (by kernel_rfl) (by kernel_rfl) rfl (by intro N a b; kernel_rfl)
def Frecord_reader_ints_e53 (N : Nat) (b0 : Int) (b1 : GPart) (b2 : Gwire_Writer) : Option (Int × GPart × Gwire_Writer) :=
 ((Frecord_reader_int_407 N b0 b2).bind fun r1 =>
 (some (r1.2.1, (⟨r1.1, b1.Index, b1.Many, b1.Data⟩ : GPart), r1.2.2)))
def conrecord_reader_ints_e53 : Con τ := { args := [.ptr 0 [], .ls 1 [.ptr 1 [.fld 0 0]]], L := [.box (.agg [.ptr 2 [], .ty 35]), .box (.ty 62), .box (.ty 99)], ret := .tup [], L' := [.box (.agg [.ptr 2 [], .ty 35]), .box (.ty 62), .box (.ty 99)], R := Int × GPart × Gwire_Writer, dflt := (default, default, default), F := fun N a b => Frecord_reader_ints_e53 N b.1.2.1 b.2.1 b.2.2.1, of := fun r => ((), (((), r.1, ()), r.2.1, r.2.2, ())) }
noncomputable def datrecord_reader_ints_e53 : Dat τ := { D := D0, tbl := tblOf [(139, conrecord_reader_int_407)], lp := lpsOf [], k0 := 3, mu := [], un := [(1, 3)] }
theorem okrecord_reader_ints_e53 : ConOk E C 98 conrecord_reader_ints_e53 :=
  con_ok (D := datrecord_reader_ints_e53) ⟨d0Ok, eGood, tblOf_ok ⟨okrecord_reader_int_407, trivial⟩, fun _ => rfl⟩ conrecord_reader_ints_e53 (fun a b => (b.1.2.1, b.2.1, b.2.2.1)) none (fun _ _ => rfl) rfl (fun _ _ h => nomatch h) 1000000 (fn := Tryz.f98) Tryz.func98 rfl (by kernel_rfl) (by kernel_rfl) rfl (by intro N a b; kernel_rfl)
def Frecord_reader_smalls_2de (N : Nat) (b0 : Int) (b1 : GPart) (b2 : Gwire_Writer) : Option (Int × GPart × Gwire_Writer) :=
 ((Frecord_reader_small_407 N b0 b2).bind fun r1 =>
 ((Frecord_reader_small_407 N r1.2.1 r1.2.2).bind fun r2 =>
 (some (r2.2.1, (⟨b1.Snap, r1.1, r2.1, b1.Data⟩ : GPart), r2.2.2))))
def conrecord_reader_smalls_2de : Con τ := { args := [.ptr 0 [], .ls 1 [.ptr 1 [.fld 1 1], .ptr 1 [.fld 2 2]]], L := [.box (.agg [.ptr 2 [], .ty 35]), .box (.ty 62), .box (.ty 99)], ret := .tup [], L' := [.box (.agg [.ptr 2 [], .ty 35]), .box (.ty 62), .box (.ty 99)], R := Int × GPart × Gwire_Writer, dflt := (default, default, default), F := fun N a b => Frecord_reader_smalls_2de N b.1.2.1 b.2.1 b.2.2.1, of := fun r => ((), (((), r.1, ()), r.2.1, r.2.2, ())) }
noncomputable def datrecord_reader_smalls_2de : Dat τ := { D := D0, tbl := tblOf [(104, conrecord_reader_small_407)], lp := lpsOf [], k0 := 3, mu := [], un := [(1, 4)] }
theorem okrecord_reader_smalls_2de : ConOk E C 99 conrecord_reader_smalls_2de :=
  con_ok (D := datrecord_reader_smalls_2de) ⟨d0Ok, eGood, tblOf_ok ⟨okrecord_reader_small_407, trivial⟩, fun _ => rfl⟩ conrecord_reader_smalls_2de (fun a b => (b.1.2.1, b.2.1, b.2.2.1)) none (fun _ _ => rfl) rfl (fun _ _ h => nomatch h) 1000000 (fn := Tryz.f99) Tryz.func99 rfl (by kernel_rfl) (by kernel_rfl) rfl (by intro N a b; kernel_rfl)
def Frecord_reader_bytes_407 (N : Nat) (b0 : Int) (b1 : Gwire_Writer) : Option ((List (Int)) × Int × Gwire_Writer) :=
 (bif (!(b0 == 0)) then
 (some ([], b0, b1))
 else
 ((Fwire_Reader_Bytes_d95 N b1).bind fun r1 =>
 ((Frecord_reader_keep_bdf N r1.2.1 b0 r1.2.2).bind fun r2 =>
 (some (r1.1, r2.1, r2.2)))))
def conrecord_reader_bytes_407 : Con τ := { args := [.ptr 0 []], L := [.box (.agg [.ptr 1 [], .ty 35]), .box (.ty 99)], ret := .ty 31, L' := [.box (.agg [.ptr 1 [], .ty 35]), .box (.ty 99)], R := (List (Int)) × Int × Gwire_Writer, dflt := (default, default, default), F := fun N a b => Frecord_reader_bytes_407 N b.1.2.1 b.2.1, of := fun r => (r.1, (((), r.2.1, ()), r.2.2, ())) }
noncomputable def datrecord_reader_bytes_407 : Dat τ := { D := D0, tbl := tblOf [(157, conwire_Reader_Bytes_d95), (73, conrecord_reader_keep_bdf)], lp := lpsOf [], k0 := 2, mu := [], un := [] }
theorem okrecord_reader_bytes_407 : ConOk E C 153 conrecord_reader_bytes_407 :=
  con_ok (D := datrecord_reader_bytes_407) ⟨d0Ok, eGood, tblOf_ok ⟨okwire_Reader_Bytes_d95, ⟨okrecord_reader_keep_bdf, trivial⟩⟩, fun _ => rfl⟩ conrecord_reader_bytes_407 (fun a b => (a, b.1.2.1, b.2.1)) none (fun _ _ => rfl) rfl (fun _ _ h => nomatch h) 1000000 (fn := Tryz.f153) Tryz.func153 rfl (by kernel_rfl) (by kernel_rfl) rfl (by intro N a b; kernel_rfl)
def Frecord_reader_part_407 (N : Nat) (b0 : Int) (b1 : Gwire_Writer) : Option (GPart × Int × Gwire_Writer) :=
 ((Frecord_reader_ints_e53 N b0 (⟨0, 0, 0, []⟩ : GPart) b1).bind fun r1 =>
 ((Frecord_reader_smalls_2de N r1.1 r1.2.1 r1.2.2).bind fun r2 =>
 ((Frecord_reader_bytes_407 N r2.1 r2.2.2).bind fun r3 =>
 (some ((⟨r2.2.1.Snap, r2.2.1.Index, r2.2.1.Many, r3.1⟩ : GPart), r3.2.1, r3.2.2)))))
def conrecord_reader_part_407 : Con τ := { args := [.ptr 0 []], L := [.box (.agg [.ptr 1 [], .ty 35]), .box (.ty 99)], ret := .ty 62, L' := [.box (.agg [.ptr 1 [], .ty 35]), .box (.ty 99)], R := GPart × Int × Gwire_Writer, dflt := (default, default, default), F := fun N a b => Frecord_reader_part_407 N b.1.2.1 b.2.1, of := fun r => (r.1, (((), r.2.1, ()), r.2.2, ())) }
noncomputable def datrecord_reader_part_407 : Dat τ := { D := D0, tbl := tblOf [(98, conrecord_reader_ints_e53), (99, conrecord_reader_smalls_2de), (153, conrecord_reader_bytes_407)], lp := lpsOf [], k0 := 2, mu := [], un := [] }
theorem okrecord_reader_part_407 : ConOk E C 129 conrecord_reader_part_407 :=
  con_ok (D := datrecord_reader_part_407) ⟨d0Ok, eGood, tblOf_ok ⟨okrecord_reader_ints_e53, ⟨okrecord_reader_smalls_2de, ⟨okrecord_reader_bytes_407, trivial⟩⟩⟩, fun _ => rfl⟩ conrecord_reader_part_407 (fun a b => (a, b.1.2.1, b.2.1)) none (fun _ _ => rfl) rfl (fun _ _ h => nomatch h) 1000000 (fn := Tryz.f129) Tryz.func129 rfl (by kernel_rfl) (by kernel_rfl) rfl (by intro N a b; kernel_rfl)
def Frecord_reader_smalls_92e (N : Nat) (b0 : Int) (b1 : GEntry) (b2 : Gwire_Writer) : Option (Int × GEntry × Gwire_Writer) :=
 ((Frecord_reader_small_407 N b0 b2).bind fun r1 =>
 ((Frecord_reader_small_407 N r1.2.1 r1.2.2).bind fun r2 =>
 (some (r2.2.1, (⟨b1.Kind, b1.Session, b1.Request, b1.Op, b1.Origin, b1.Seq, b1.Ops, b1.Epoch, b1.From, b1.Vector_, b1.Clock, b1.Part, r1.1, r2.1, b1.Length⟩ : GEntry), r2.2.2))))
def conrecord_reader_smalls_92e : Con τ := { args := [.ptr 0 [], .ls 1 [.ptr 1 [.fld 12 53], .ptr 1 [.fld 13 54]]], L := [.box (.agg [.ptr 2 [], .ty 35]), .box (.ty 64), .box (.ty 99)], ret := .tup [], L' := [.box (.agg [.ptr 2 [], .ty 35]), .box (.ty 64), .box (.ty 99)], R := Int × GEntry × Gwire_Writer, dflt := (default, default, default), F := fun N a b => Frecord_reader_smalls_92e N b.1.2.1 b.2.1 b.2.2.1, of := fun r => ((), (((), r.1, ()), r.2.1, r.2.2, ())) }
noncomputable def datrecord_reader_smalls_92e : Dat τ := { D := D0, tbl := tblOf [(104, conrecord_reader_small_407)], lp := lpsOf [], k0 := 3, mu := [], un := [(1, 4)] }
theorem okrecord_reader_smalls_92e : ConOk E C 99 conrecord_reader_smalls_92e :=
  con_ok (D := datrecord_reader_smalls_92e) ⟨d0Ok, eGood, tblOf_ok ⟨okrecord_reader_small_407, trivial⟩, fun _ => rfl⟩ conrecord_reader_smalls_92e (fun a b => (b.1.2.1, b.2.1, b.2.2.1)) none (fun _ _ => rfl) rfl (fun _ _ h => nomatch h) 1000000 (fn := Tryz.f99) Tryz.func99 rfl (by kernel_rfl) (by kernel_rfl) rfl (by intro N a b; kernel_rfl)
def Frecord_reader_smalls_077 (N : Nat) (b0 : Int) (b1 : GEntry) (b2 : Gwire_Writer) : Option (Int × GEntry × Gwire_Writer) :=
 ((Frecord_reader_small_407 N b0 b2).bind fun r1 =>
 (some (r1.2.1, (⟨b1.Kind, b1.Session, b1.Request, b1.Op, b1.Origin, b1.Seq, b1.Ops, b1.Epoch, b1.From, b1.Vector_, b1.Clock, b1.Part, r1.1, b1.Sponsor, b1.Length⟩ : GEntry), r1.2.2)))
def conrecord_reader_smalls_077 : Con τ := { args := [.ptr 0 [], .ls 1 [.ptr 1 [.fld 12 53]]], L := [.box (.agg [.ptr 2 [], .ty 35]), .box (.ty 64), .box (.ty 99)], ret := .tup [], L' := [.box (.agg [.ptr 2 [], .ty 35]), .box (.ty 64), .box (.ty 99)], R := Int × GEntry × Gwire_Writer, dflt := (default, default, default), F := fun N a b => Frecord_reader_smalls_077 N b.1.2.1 b.2.1 b.2.2.1, of := fun r => ((), (((), r.1, ()), r.2.1, r.2.2, ())) }
noncomputable def datrecord_reader_smalls_077 : Dat τ := { D := D0, tbl := tblOf [(104, conrecord_reader_small_407)], lp := lpsOf [], k0 := 3, mu := [], un := [(1, 3)] }
theorem okrecord_reader_smalls_077 : ConOk E C 99 conrecord_reader_smalls_077 :=
  con_ok (D := datrecord_reader_smalls_077) ⟨d0Ok, eGood, tblOf_ok ⟨okrecord_reader_small_407, trivial⟩, fun _ => rfl⟩ conrecord_reader_smalls_077 (fun a b => (b.1.2.1, b.2.1, b.2.2.1)) none (fun _ _ => rfl) rfl (fun _ _ h => nomatch h) 1000000 (fn := Tryz.f99) Tryz.func99 rfl (by kernel_rfl) (by kernel_rfl) rfl (by intro N a b; kernel_rfl)
def Frecord_reader_ints_f35 (N : Nat) (b0 : Int) (b1 : GEntry) (b2 : Gwire_Writer) : Option (Int × GEntry × Gwire_Writer) :=
 ((Frecord_reader_int_407 N b0 b2).bind fun r1 =>
 (some (r1.2.1, (⟨b1.Kind, b1.Session, b1.Request, b1.Op, b1.Origin, b1.Seq, b1.Ops, b1.Epoch, b1.From, b1.Vector_, b1.Clock, b1.Part, b1.Site, b1.Sponsor, r1.1⟩ : GEntry), r1.2.2)))
def conrecord_reader_ints_f35 : Con τ := { args := [.ptr 0 [], .ls 1 [.ptr 1 [.fld 14 55]]], L := [.box (.agg [.ptr 2 [], .ty 35]), .box (.ty 64), .box (.ty 99)], ret := .tup [], L' := [.box (.agg [.ptr 2 [], .ty 35]), .box (.ty 64), .box (.ty 99)], R := Int × GEntry × Gwire_Writer, dflt := (default, default, default), F := fun N a b => Frecord_reader_ints_f35 N b.1.2.1 b.2.1 b.2.2.1, of := fun r => ((), (((), r.1, ()), r.2.1, r.2.2, ())) }
noncomputable def datrecord_reader_ints_f35 : Dat τ := { D := D0, tbl := tblOf [(139, conrecord_reader_int_407)], lp := lpsOf [], k0 := 3, mu := [], un := [(1, 3)] }
theorem okrecord_reader_ints_f35 : ConOk E C 98 conrecord_reader_ints_f35 :=
  con_ok (D := datrecord_reader_ints_f35) ⟨d0Ok, eGood, tblOf_ok ⟨okrecord_reader_int_407, trivial⟩, fun _ => rfl⟩ conrecord_reader_ints_f35 (fun a b => (b.1.2.1, b.2.1, b.2.2.1)) none (fun _ _ => rfl) rfl (fun _ _ h => nomatch h) 1000000 (fn := Tryz.f98) Tryz.func98 rfl (by kernel_rfl) (by kernel_rfl) rfl (by intro N a b; kernel_rfl)
def Frecord_reader_entry_407 (N : Nat) (b0 : Int) (b1 : Gwire_Writer) : Option (GEntry × Int × Gwire_Writer) :=
 ((Frecord_reader_smalls_c10 N b0 (⟨0, 0, 0, (⟨(⟨0, 0⟩ : GStamp), 0, 0, 0, [], [], []⟩ : GOp), 0, 0, [], (⟨0, (Vector.replicate 8 (default : Int)), (Vector.replicate 8 (default : Int)), (Vector.replicate 8 (default : Int))⟩ : GEpoch), 0, (Vector.replicate 8 (default : Int)), 0, (⟨0, 0, 0, []⟩ : GPart), 0, 0, 0⟩ : GEntry) b1).bind fun r1 =>
 (bif (!(r1.1 == 0)) then
 (some (r1.2.1, r1.1, r1.2.2))
 else
 (bif (r1.2.1.Kind == 0) then
 (some (r1.2.1, r1.1, r1.2.2))
 else
 (bif (r1.2.1.Kind == 1) then
 ((Frecord_reader_ints_97b N r1.1 r1.2.1 r1.2.2).bind fun r2 =>
 ((Frecord_reader_op_407 N r2.1 r2.2.2).bind fun r3 =>
 (some ((⟨r2.2.1.Kind, r2.2.1.Session, r2.2.1.Request, r3.1, r2.2.1.Origin, r2.2.1.Seq, r2.2.1.Ops, r2.2.1.Epoch, r2.2.1.From, r2.2.1.Vector_, r2.2.1.Clock, r2.2.1.Part, r2.2.1.Site, r2.2.1.Sponsor, r2.2.1.Length⟩ : GEntry), r3.2.1, r3.2.2))))
 else
 (bif (r1.2.1.Kind == 2) then
 ((Frecord_reader_smalls_258 N r1.1 r1.2.1 r1.2.2).bind fun r4 =>
 ((Frecord_reader_ints_705 N r4.1 r4.2.1 r4.2.2).bind fun r5 =>
 ((Frecord_reader_ops_407 N r5.1 r5.2.2).bind fun r6 =>
 (some ((⟨r5.2.1.Kind, r5.2.1.Session, r5.2.1.Request, r5.2.1.Op, r5.2.1.Origin, r5.2.1.Seq, r6.1, r5.2.1.Epoch, r5.2.1.From, r5.2.1.Vector_, r5.2.1.Clock, r5.2.1.Part, r5.2.1.Site, r5.2.1.Sponsor, r5.2.1.Length⟩ : GEntry), r6.2.1, r6.2.2)))))
 else
 (bif (r1.2.1.Kind == 3) then
 ((Frecord_reader_epoch_407 N r1.1 r1.2.2).bind fun r7 =>
 (some ((⟨r1.2.1.Kind, r1.2.1.Session, r1.2.1.Request, r1.2.1.Op, r1.2.1.Origin, r1.2.1.Seq, r1.2.1.Ops, r7.1, r1.2.1.From, r1.2.1.Vector_, r1.2.1.Clock, r1.2.1.Part, r1.2.1.Site, r1.2.1.Sponsor, r1.2.1.Length⟩ : GEntry), r7.2.1, r7.2.2)))
 else
 (bif (r1.2.1.Kind == 4) then
 ((Frecord_reader_ints_705 N r1.1 r1.2.1 r1.2.2).bind fun r8 =>
 ((Frecord_reader_smalls_dcf N r8.1 r8.2.1 r8.2.2).bind fun r9 =>
 ((Frecord_reader_vector_a4a N r9.1 r9.2.1 r9.2.2).bind fun r10 =>
 ((Frecord_reader_ints_5e2 N r10.1 r10.2.1 r10.2.2).bind fun r11 =>
 (some (r11.2.1, r11.1, r11.2.2))))))
 else
 (bif (r1.2.1.Kind == 5) then
 ((Frecord_reader_part_407 N r1.1 r1.2.2).bind fun r12 =>
 (some ((⟨r1.2.1.Kind, r1.2.1.Session, r1.2.1.Request, r1.2.1.Op, r1.2.1.Origin, r1.2.1.Seq, r1.2.1.Ops, r1.2.1.Epoch, r1.2.1.From, r1.2.1.Vector_, r1.2.1.Clock, r12.1, r1.2.1.Site, r1.2.1.Sponsor, r1.2.1.Length⟩ : GEntry), r12.2.1, r12.2.2)))
 else
 (bif (r1.2.1.Kind == 6) then
 ((Frecord_reader_smalls_92e N r1.1 r1.2.1 r1.2.2).bind fun r13 =>
 (some (r13.2.1, r13.1, r13.2.2)))
 else
 (bif (r1.2.1.Kind == 7) then
 ((Frecord_reader_smalls_077 N r1.1 r1.2.1 r1.2.2).bind fun r14 =>
 (some (r14.2.1, r14.1, r14.2.2)))
 else
 (bif (r1.2.1.Kind == 8) then
 ((Frecord_reader_smalls_077 N r1.1 r1.2.1 r1.2.2).bind fun r15 =>
 ((Frecord_reader_ints_f35 N r15.1 r15.2.1 r15.2.2).bind fun r16 =>
 (some (r16.2.1, r16.1, r16.2.2))))
 else
 (some (r1.2.1, 40, r1.2.2)))))))))))))
def conrecord_reader_entry_407 : Con τ := { args := [.ptr 0 []], L := [.box (.agg [.ptr 1 [], .ty 35]), .box (.ty 99)], ret := .ty 64, L' := [.box (.agg [.ptr 1 [], .ty 35]), .box (.ty 99)], R := GEntry × Int × Gwire_Writer, dflt := (default, default, default), F := fun N a b => Frecord_reader_entry_407 N b.1.2.1 b.2.1, of := fun r => (r.1, (((), r.2.1, ()), r.2.2, ())) }
noncomputable def datrecord_reader_entry_407 : Dat τ := { D := D0, tbl := tblOf [(99, conrecord_reader_smalls_c10), (98, conrecord_reader_ints_97b), (52, conrecord_reader_op_407), (99, conrecord_reader_smalls_258), (98, conrecord_reader_ints_705), (128, conrecord_reader_ops_407), (59, conrecord_reader_epoch_407), (99, conrecord_reader_smalls_dcf), (105, conrecord_reader_vector_a4a), (98, conrecord_reader_ints_5e2), (129, conrecord_reader_part_407), (99, conrecord_reader_smalls_92e), (99, conrecord_reader_smalls_077), (98, conrecord_reader_ints_f35)], lp := lpsOf [], k0 := 2, mu := [], un := [] }
theorem okrecord_reader_entry_407 : ConOk E C 72 conrecord_reader_entry_407 :=
  con_ok (D := datrecord_reader_entry_407) ⟨d0Ok, eGood, tblOf_ok ⟨okrecord_reader_smalls_c10, ⟨okrecord_reader_ints_97b, ⟨okrecord_reader_op_407, ⟨okrecord_reader_smalls_258, ⟨okrecord_reader_ints_705, ⟨okrecord_reader_ops_407, ⟨okrecord_reader_epoch_407, ⟨okrecord_reader_smalls_dcf, ⟨okrecord_reader_vector_a4a, ⟨okrecord_reader_ints_5e2, ⟨okrecord_reader_part_407, ⟨okrecord_reader_smalls_92e, ⟨okrecord_reader_smalls_077, ⟨okrecord_reader_ints_f35, trivial⟩⟩⟩⟩⟩⟩⟩⟩⟩⟩⟩⟩⟩⟩, fun _ => rfl⟩ conrecord_reader_entry_407 (fun a b => (a, b.1.2.1, b.2.1)) none (fun _ _ => rfl) rfl (fun _ _ h => nomatch h) 1000000 (fn := Tryz.f72) Tryz.func72 rfl (by kernel_rfl) (by kernel_rfl) rfl (by intro N a b; kernel_rfl)
def Fwire_Reader_End_d95 (N : Nat) (b0 : Gwire_Writer) : Option (Int × Gwire_Writer) :=
 ((Fwire_Reader_none_d95 N b0).bind fun r1 =>
 (bif r1.1 then
 (some (2, r1.2))
 else
 (bif (decide (0 < ((r1.2.b).length : Int))) then
 (some (13, r1.2))
 else
 (some (0, r1.2)))))
def conwire_Reader_End_d95 : Con τ := { args := [.ptr 0 []], L := [.box (.ty 99)], ret := .ty 35, L' := [.box (.ty 99)], R := Int × Gwire_Writer, dflt := (default, default), F := fun N a b => Fwire_Reader_End_d95 N b.1, of := fun r => (r.1, (r.2, ())) }
noncomputable def datwire_Reader_End_d95 : Dat τ := { D := D0, tbl := tblOf [(63, conwire_Reader_none_d95)], lp := lpsOf [], k0 := 1, mu := [], un := [] }
theorem okwire_Reader_End_d95 : ConOk E C 74 conwire_Reader_End_d95 :=
  con_ok (D := datwire_Reader_End_d95) ⟨d0Ok, eGood, tblOf_ok ⟨okwire_Reader_none_d95, trivial⟩, fun _ => rfl⟩ conwire_Reader_End_d95 (fun a b => (a, b.1)) none (fun _ _ => rfl) rfl (fun _ _ h => nomatch h) 1000000 (fn := Tryz.f74) Tryz.func74 rfl (by kernel_rfl) (by kernel_rfl) rfl (by intro N a b; kernel_rfl)
def Frecord_TakeEntry (N : Nat) (b : List (Int)) : Option (GEntry × Int) :=
 ((Fwire_NewReader N b).bind fun r1 =>
 ((Frecord_reader_entry_407 N 0 r1).bind fun r2 =>
 ((Fwire_Reader_End_d95 N r2.2.2).bind fun r3 =>
 ((Frecord_reader_keep_bdf N r3.1 r2.2.1 r3.2).bind fun r4 =>
 (bif (r4.1 == 0) then
 ((Frecord_CheckEntry N r2.1).bind fun r5 =>
 (bif (!(r5 == 0)) then
 (some ((⟨0, 0, 0, (⟨(⟨0, 0⟩ : GStamp), 0, 0, 0, [], [], []⟩ : GOp), 0, 0, [], (⟨0, (Vector.replicate 8 (default : Int)), (Vector.replicate 8 (default : Int)), (Vector.replicate 8 (default : Int))⟩ : GEpoch), 0, (Vector.replicate 8 (default : Int)), 0, (⟨0, 0, 0, []⟩ : GPart), 0, 0, 0⟩ : GEntry), r5))
 else
 (some (r2.1, 0))))
 else
 (bif (!(r4.1 == 0)) then
 (some ((⟨0, 0, 0, (⟨(⟨0, 0⟩ : GStamp), 0, 0, 0, [], [], []⟩ : GOp), 0, 0, [], (⟨0, (Vector.replicate 8 (default : Int)), (Vector.replicate 8 (default : Int)), (Vector.replicate 8 (default : Int))⟩ : GEpoch), 0, (Vector.replicate 8 (default : Int)), 0, (⟨0, 0, 0, []⟩ : GPart), 0, 0, 0⟩ : GEntry), r4.1))
 else
 (some (r2.1, 0))))))))
def conrecord_TakeEntry : Con τ := { args := [.ty 31], L := [], ret := .tup [.ty 64, .ty 35], L' := [], R := GEntry × Int, dflt := (default, default), F := fun N a b => Frecord_TakeEntry N a.1, of := fun r => ((r.1, r.2, ()), ()) }
noncomputable def datrecord_TakeEntry : Dat τ := { D := D0, tbl := tblOf [(17, conwire_NewReader), (72, conrecord_reader_entry_407), (74, conwire_Reader_End_d95), (73, conrecord_reader_keep_bdf), (64, conrecord_CheckEntry)], lp := lpsOf [], k0 := 0, mu := [], un := [] }
theorem okrecord_TakeEntry : ConOk E C 30 conrecord_TakeEntry :=
  con_ok (D := datrecord_TakeEntry) ⟨d0Ok, eGood, tblOf_ok ⟨okwire_NewReader, ⟨okrecord_reader_entry_407, ⟨okwire_Reader_End_d95, ⟨okrecord_reader_keep_bdf, ⟨okrecord_CheckEntry, trivial⟩⟩⟩⟩⟩, fun _ => rfl⟩ conrecord_TakeEntry (fun a b => (a.1, a.2.1)) none (fun _ _ => rfl) rfl (fun _ _ h => nomatch h) 1000000 (fn := Tryz.f30) Tryz.func30 rfl (by kernel_rfl) (by kernel_rfl) rfl (by intro N a b; kernel_rfl)
def Fbytes_Equal (N : Nat) (a : List (Int)) (b : List (Int)) : Option (Bool) :=
 (some ((strI a) == (strI b)))
def conbytes_Equal : Con τ := { args := [.ty 31, .ty 31], L := [], ret := .ty 4, L' := [], R := Bool, dflt := default, F := fun N a b => Fbytes_Equal N a.1 a.2.1, of := fun r => (r, ()) }
noncomputable def datbytes_Equal : Dat τ := { D := D0, tbl := tblOf [], lp := lpsOf [], k0 := 0, mu := [], un := [] }
theorem okbytes_Equal : ConOk E C 15 conbytes_Equal :=
  con_ok (D := datbytes_Equal) ⟨d0Ok, eGood, tblOf_ok trivial, fun _ => rfl⟩ conbytes_Equal (fun a b => a) none (fun _ _ => rfl) rfl (fun _ _ h => nomatch h) 1000000 (fn := Tryz.f15) Tryz.func15 rfl (by kernel_rfl) (by kernel_rfl) rfl (by intro N a b; kernel_rfl)
def Flaw04_begun (N : Nat)  : Option (Bool) :=
 ((Frecord_Entry N (⟨7, 0, 0, (⟨(⟨0, 0⟩ : GStamp), 0, 0, 0, [], [], []⟩ : GOp), 0, 0, [], (⟨0, (Vector.replicate 8 (default : Int)), (Vector.replicate 8 (default : Int)), (Vector.replicate 8 (default : Int))⟩ : GEpoch), 0, (Vector.replicate 8 (default : Int)), 0, (⟨0, 0, 0, []⟩ : GPart), 3, 0, 0⟩ : GEntry)).bind fun r1 =>
 ((Frecord_TakeEntry N [14, 6]).bind fun r2 =>
 ((Fbytes_Equal N r1.1 [14, 6]).bind fun r3 =>
 (some ((((r3 && (r1.2 == 0)) && (r2.2 == 0)) && (r2.1.Kind == 7)) && (r2.1.Site == 3))))))
def conlaw04_begun : Con τ := { args := [], L := [], ret := .ty 4, L' := [], R := Bool, dflt := default, F := fun N a b => Flaw04_begun N , of := fun r => (r, ()) }
noncomputable def datlaw04_begun : Dat τ := { D := D0, tbl := tblOf [(26, conrecord_Entry), (30, conrecord_TakeEntry), (15, conbytes_Equal)], lp := lpsOf [], k0 := 0, mu := [], un := [] }
theorem oklaw04_begun : ConOk E C 8 conlaw04_begun :=
  con_ok (D := datlaw04_begun) ⟨d0Ok, eGood, tblOf_ok ⟨okrecord_Entry, ⟨okrecord_TakeEntry, ⟨okbytes_Equal, trivial⟩⟩⟩, fun _ => rfl⟩ conlaw04_begun (fun a b => a) none (fun _ _ => rfl) rfl (fun _ _ h => nomatch h) 1000000 (fn := Tryz.f8) Tryz.func8 rfl (by kernel_rfl) (by kernel_rfl) rfl (by intro N a b; kernel_rfl)
def Fwire_Writer_none_384 (N : Nat) (b0 : Bool) (b02 : List (Int)) : Option (Bool × Bool × (List (Int))) :=
 (some ((!b0), b0, b02))
def conwire_Writer_none_384 : Con τ := { args := [.ptr 0 []], L := [.box (.agg [.ty 4, .brw 5 1]), .tail], ret := .ty 4, L' := [.box (.agg [.ty 4, .brw 5 1]), .tail], R := Bool × Bool × (List (Int)), dflt := (default, default, default), F := fun N a b => Fwire_Writer_none_384 N b.1.1 b.1.2.1, of := fun r => (r.1, ((r.2.1, r.2.2, ()), (), ())) }
noncomputable def datwire_Writer_none_384 : Dat τ := { D := D0, tbl := tblOf [], lp := lpsOf [], k0 := 2, mu := [], un := [] }
theorem okwire_Writer_none_384 : ConOk E C 48 conwire_Writer_none_384 :=
  con_ok (D := datwire_Writer_none_384) ⟨d0Ok, eGood, tblOf_ok trivial, fun _ => rfl⟩ conwire_Writer_none_384 (fun a b => (a, b.1.1, b.1.2.1)) none (fun _ _ => rfl) rfl (fun _ _ h => nomatch h) 1000000 (fn := Tryz.f48) Tryz.func48 rfl (by kernel_rfl) (by kernel_rfl) rfl (by intro N a b; kernel_rfl)
def Fwire_Writer_put_521 (N : Nat) (l : List (Int)) (b0 : Bool) (b02 : List (Int)) : Option (Int × Bool) :=
 ((Fwire_Writer_none_384 N b0 b02).bind fun r1 =>
 (bif r1.1 then
 (some (2, r1.2.1))
 else
 (bif (decide ((IntKind.i64.wrap (1048576 - ((r1.2.2).length : Int))) < ((l).length : Int))) then
 (some (3, r1.2.1))
 else
 (bif (lenB ((r1.2.2).length + (l).length) 1) then
 (some (0, r1.2.1))
 else none))))
def conwire_Writer_put_521 : Con τ := { args := [.ptr 0 [], .ls 1 [.own 5 1]], L := [.box (.agg [.ty 4, .brw 5 2]), .tail, .tail], ret := .ty 35, L' := [.box (.agg [.ty 4, .any1]), .tail, .tail], R := Int × Bool, dflt := (default, default), F := fun N a b => Fwire_Writer_put_521 N a.2.1.1 b.1.1 b.1.2.1, of := fun r => (r.1, ((r.2, (), ()), (), (), ())) }
noncomputable def datwire_Writer_put_521 : Dat τ := { D := D0, tbl := tblOf [(48, conwire_Writer_none_384)], lp := lpsOf [], k0 := 3, mu := [], un := [(5, 3), (12, 3)] }
theorem okwire_Writer_put_521 : ConOk E C 134 conwire_Writer_put_521 :=
  con_ok (D := datwire_Writer_put_521) ⟨d0Ok, eGood, tblOf_ok ⟨okwire_Writer_none_384, trivial⟩, fun _ => rfl⟩ conwire_Writer_put_521 (fun a b => (a, b.1.1)) none (fun _ _ => rfl) rfl (fun _ _ h => nomatch h) 1000000 (fn := Tryz.f134) Tryz.func134 rfl (by kernel_rfl) (by kernel_rfl) rfl (by intro N a b; kernel_rfl)
def Fwire_Writer_Int_204 (N : Nat) (n : Int) (b0 : Bool) (b02 : List (Int)) : Option (Int × Bool) :=
 ((Fwire_number N n).bind fun r1 =>
 ((Fwire_Writer_put_521 N r1 b0 b02).bind fun r2 =>
 (some (r2.1, r2.2))))
def conwire_Writer_Int_204 : Con τ := { args := [.ptr 0 [], .ty 2], L := [.box (.agg [.ty 4, .brw 5 1]), .tail], ret := .ty 35, L' := [.box (.agg [.ty 4, .any1]), .tail], R := Int × Bool, dflt := (default, default), F := fun N a b => Fwire_Writer_Int_204 N a.2.1 b.1.1 b.1.2.1, of := fun r => (r.1, ((r.2, (), ()), (), ())) }
noncomputable def datwire_Writer_Int_204 : Dat τ := { D := D0, tbl := tblOf [(123, conwire_number), (134, conwire_Writer_put_521)], lp := lpsOf [], k0 := 2, mu := [8], un := [] }
theorem okwire_Writer_Int_204 : ConOk E C 88 conwire_Writer_Int_204 :=
  con_ok (D := datwire_Writer_Int_204) ⟨d0Ok, eGood, tblOf_ok ⟨okwire_number, ⟨okwire_Writer_put_521, trivial⟩⟩, fun _ => rfl⟩ conwire_Writer_Int_204 (fun a b => (a, b.1.1)) none (fun _ _ => rfl) rfl (fun _ _ h => nomatch h) 1000000 (fn := Tryz.f88) Tryz.func88 rfl (by kernel_rfl) (by kernel_rfl) rfl (by intro N a b; kernel_rfl)
def Frecord_made_052 (N : Nat) (b0 : Bool) (b02 : List (Int)) : Option (Int × Bool × (List (Int))) :=
 ((Fwire_Writer_Int_204 N 0 b0 b02).bind fun r1 =>
 (bif (r1.1 == 2) then
 (some (2, b0, b02))
 else
 (some (0, b0, b02))))
def conrecord_made_052 : Con τ := { args := [.ptr 0 []], L := [.box (.agg [.ty 4, .own 5 1]), .tail], ret := .ty 35, L' := [.box (.agg [.ty 4, .own 5 1]), .tail], R := Int × Bool × (List (Int)), dflt := (default, default, default), F := fun N a b => Frecord_made_052 N b.1.1 b.1.2.1, of := fun r => (r.1, ((r.2.1, r.2.2, ()), (), ())) }
noncomputable def datrecord_made_052 : Dat τ := { D := D0, tbl := tblOf [(88, conwire_Writer_Int_204)], lp := lpsOf [], k0 := 2, mu := [], un := [] }
theorem okrecord_made_052 : ConOk E C 36 conrecord_made_052 :=
  con_ok (D := datrecord_made_052) ⟨d0Ok, eGood, tblOf_ok ⟨okwire_Writer_Int_204, trivial⟩, fun _ => rfl⟩ conrecord_made_052 (fun a b => (a, b.1.1, b.1.2.1)) none (fun _ _ => rfl) rfl (fun _ _ h => nomatch h) 1000000 (fn := Tryz.f36) Tryz.func36 rfl (by kernel_rfl) (by kernel_rfl) rfl (by intro N a b; kernel_rfl)
def Frecord_CheckOp (N : Nat) (op : GOp) : Option (Int) :=
 ((Frecord_mayOp N op).bind fun r1 =>
 ((Frecord_verdict N r1).bind fun r2 =>
 (some r2)))
def conrecord_CheckOp : Con τ := { args := [.ty 25], L := [], ret := .ty 35, L' := [], R := Int, dflt := default, F := fun N a b => Frecord_CheckOp N a.1, of := fun r => (r, ()) }
noncomputable def datrecord_CheckOp : Dat τ := { D := D0, tbl := tblOf [(90, conrecord_mayOp), (89, conrecord_verdict)], lp := lpsOf [], k0 := 0, mu := [], un := [] }
theorem okrecord_CheckOp : ConOk E C 37 conrecord_CheckOp :=
  con_ok (D := datrecord_CheckOp) ⟨d0Ok, eGood, tblOf_ok ⟨okrecord_mayOp, ⟨okrecord_verdict, trivial⟩⟩, fun _ => rfl⟩ conrecord_CheckOp (fun a b => a) none (fun _ _ => rfl) rfl (fun _ _ h => nomatch h) 1000000 (fn := Tryz.f37) Tryz.func37 rfl (by kernel_rfl) (by kernel_rfl) rfl (by intro N a b; kernel_rfl)
def Frecord_PutOp_1_64d (N : Nat) (b0 : Int) (b1 : GOp) (b2 : Bool) (b22 : List (Int)) : Option (Int × GOp × Bool × (List (Int))) :=
 ((Frecord_writer_op_e6d N b1 b0 b2 b22).bind fun r1 =>
 (some (r1.1, b1, r1.2.1, r1.2.2)))
def conrecord_PutOp_1_64d : Con τ := { args := [.ptr 0 [], .ptr 1 []], L := [.box (.agg [.ptr 2 [], .ty 35]), .box (.ty 25), .box (.agg [.ty 4, .own 5 3]), .tail], ret := .tup [], L' := [.box (.agg [.ptr 2 [], .ty 35]), .box (.ty 25), .box (.agg [.ty 4, .own 5 4]), .dead, .tail], R := Int × GOp × Bool × (List (Int)), dflt := (default, default, default, default), F := fun N a b => Frecord_PutOp_1_64d N b.1.2.1 b.2.1 b.2.2.1.1 b.2.2.1.2.1, of := fun r => ((), (((), r.1, ()), r.2.1, (r.2.2.1, r.2.2.2, ()), (), (), ())) }
noncomputable def datrecord_PutOp_1_64d : Dat τ := { D := D0, tbl := tblOf [(40, conrecord_writer_op_e6d)], lp := lpsOf [], k0 := 4, mu := [], un := [] }
theorem okrecord_PutOp_1_64d : ConOk E C 39 conrecord_PutOp_1_64d :=
  con_ok (D := datrecord_PutOp_1_64d) ⟨d0Ok, eGood, tblOf_ok ⟨okrecord_writer_op_e6d, trivial⟩, fun _ => rfl⟩ conrecord_PutOp_1_64d (fun a b => (b.1.2.1, b.2.1, b.2.2.1.1, b.2.2.1.2.1)) none (fun _ _ => rfl) rfl (fun _ _ h => nomatch h) 1000000 (fn := Tryz.f39) Tryz.func39 rfl (by kernel_rfl) (by kernel_rfl) rfl (by intro N a b; kernel_rfl)
def Fwire_Writer_Len_052 (N : Nat) (b0 : Bool) (b02 : List (Int)) : Option (Int × Bool × (List (Int))) :=
 ((Fwire_Writer_none_052 N b0 b02).bind fun r1 =>
 (bif r1.1 then
 (some (0, r1.2.1, r1.2.2))
 else
 (some (((r1.2.2).length : Int), r1.2.1, r1.2.2))))
def conwire_Writer_Len_052 : Con τ := { args := [.ptr 0 []], L := [.box (.agg [.ty 4, .own 5 1]), .tail], ret := .ty 3, L' := [.box (.agg [.ty 4, .own 5 1]), .tail], R := Int × Bool × (List (Int)), dflt := (default, default, default), F := fun N a b => Fwire_Writer_Len_052 N b.1.1 b.1.2.1, of := fun r => (r.1, ((r.2.1, r.2.2, ()), (), ())) }
noncomputable def datwire_Writer_Len_052 : Dat τ := { D := D0, tbl := tblOf [(48, conwire_Writer_none_052)], lp := lpsOf [], k0 := 2, mu := [], un := [] }
theorem okwire_Writer_Len_052 : ConOk E C 91 conwire_Writer_Len_052 :=
  con_ok (D := datwire_Writer_Len_052) ⟨d0Ok, eGood, tblOf_ok ⟨okwire_Writer_none_052, trivial⟩, fun _ => rfl⟩ conwire_Writer_Len_052 (fun a b => (a, b.1.1, b.1.2.1)) none (fun _ _ => rfl) rfl (fun _ _ h => nomatch h) 1000000 (fn := Tryz.f91) Tryz.func91 rfl (by kernel_rfl) (by kernel_rfl) rfl (by intro N a b; kernel_rfl)
def Frecord_whole_a34 (N : Nat) (b0 : Bool) (b02 : List (Int)) (b1 : GOp) : Option (Int × Bool × (List (Int)) × GOp) :=
 ((Fwire_NewWriter N).bind fun r1 =>
 ((Frecord_PutOp_1_64d N 0 b1 r1.1 r1.2).bind fun r2 =>
 (bif (!(!(r2.1 == 0))) then
 ((Fwire_Writer_Len_052 N r2.2.2.1 r2.2.2.2).bind fun r3 =>
 (bif (!(!(r2.1 == 0))) then
 ((Fwire_Writer_Len_052 N b0 b02).bind fun r4 =>
 (bif ((!(r2.1 == 0)) || (decide ((IntKind.i64.wrap (1048576 - r4.1)) < r3.1))) then
 (some (3, r4.2.1, r4.2.2, r2.2.1))
 else
 ((Frecord_PutOp_1_64d N 0 r2.2.1 r4.2.1 r4.2.2).bind fun r5 =>
 (some (0, r5.2.2.1, r5.2.2.2, r5.2.1)))))
 else
 (some (3, b0, b02, r2.2.1))))
 else
 (some (3, b0, b02, r2.2.1)))))
def conrecord_whole_a34 : Con τ := { args := [.ptr 0 [], .fn 39 [.ptr 1 []]], L := [.box (.agg [.ty 4, .own 5 2]), .box (.ty 25), .tail], ret := .ty 35, L' := [.box (.agg [.ty 4, .own 5 3]), .box (.ty 25), .dead, .tail], R := Int × Bool × (List (Int)) × GOp, dflt := (default, default, default, default), F := fun N a b => Frecord_whole_a34 N b.1.1 b.1.2.1 b.2.1, of := fun r => (r.1, ((r.2.1, r.2.2.1, ()), r.2.2.2, (), (), ())) }
noncomputable def datrecord_whole_a34 : Dat τ := { D := D0, tbl := tblOf [(7, conwire_NewWriter), (39, conrecord_PutOp_1_64d), (91, conwire_Writer_Len_052)], lp := lpsOf [], k0 := 3, mu := [], un := [] }
theorem okrecord_whole_a34 : ConOk E C 38 conrecord_whole_a34 :=
  con_ok (D := datrecord_whole_a34) ⟨d0Ok, eGood, tblOf_ok ⟨okwire_NewWriter, ⟨okrecord_PutOp_1_64d, ⟨okwire_Writer_Len_052, trivial⟩⟩⟩, fun _ => rfl⟩ conrecord_whole_a34 (fun a b => (a, b.1.1, b.1.2.1, b.2.1)) none (fun _ _ => rfl) rfl (fun _ _ h => nomatch h) 1000000 (fn := Tryz.f38) Tryz.func38 rfl (by kernel_rfl) (by kernel_rfl) rfl (by intro N a b; kernel_rfl)
def Frecord_PutOp_66b (N : Nat) (op : GOp) (b0 : Bool) (b02 : List (Int)) : Option (Int × Bool × (List (Int))) :=
 ((Frecord_made_052 N b0 b02).bind fun r1 =>
 (bif (!(r1.1 == 0)) then
 (some (2, r1.2.1, r1.2.2))
 else
 ((Frecord_CheckOp N op).bind fun r2 =>
 (bif (!(r2 == 0)) then
 (some (r2, r1.2.1, r1.2.2))
 else
 ((Frecord_whole_a34 N r1.2.1 r1.2.2 op).bind fun r3 =>
 (some (r3.1, r3.2.1, r3.2.2.1)))))))
def conrecord_PutOp_66b : Con τ := { args := [.ptr 0 [], .ty 25], L := [.box (.agg [.ty 4, .own 5 1]), .tail], ret := .ty 35, L' := [.box (.agg [.ty 4, .own 5 2]), .dead, .tail], R := Int × Bool × (List (Int)), dflt := (default, default, default), F := fun N a b => Frecord_PutOp_66b N a.2.1 b.1.1 b.1.2.1, of := fun r => (r.1, ((r.2.1, r.2.2, ()), (), (), ())) }
noncomputable def datrecord_PutOp_66b : Dat τ := { D := D0, tbl := tblOf [(36, conrecord_made_052), (37, conrecord_CheckOp), (38, conrecord_whole_a34)], lp := lpsOf [], k0 := 2, mu := [], un := [] }
theorem okrecord_PutOp_66b : ConOk E C 9 conrecord_PutOp_66b :=
  con_ok (D := datrecord_PutOp_66b) ⟨d0Ok, eGood, tblOf_ok ⟨okrecord_made_052, ⟨okrecord_CheckOp, ⟨okrecord_whole_a34, trivial⟩⟩⟩, fun _ => rfl⟩ conrecord_PutOp_66b (fun a b => (a, b.1.1, b.1.2.1)) none (fun _ _ => rfl) rfl (fun _ _ h => nomatch h) 1000000 (fn := Tryz.f9) Tryz.func9 rfl (by kernel_rfl) (by kernel_rfl) rfl (by intro N a b; kernel_rfl)
def Fref04_count (N : Nat) (n : Int) : Option (Bool) :=
 (some ((decide (0 ≤ n)) && (decide (n ≤ 1099511627776))))
def conref04_count : Con τ := { args := [.ty 2], L := [], ret := .ty 4, L' := [], R := Bool, dflt := default, F := fun N a b => Fref04_count N a.1, of := fun r => (r, ()) }
noncomputable def datref04_count : Dat τ := { D := D0, tbl := tblOf [], lp := lpsOf [], k0 := 0, mu := [], un := [] }
theorem okref04_count : ConOk E C 61 conref04_count :=
  con_ok (D := datref04_count) ⟨d0Ok, eGood, tblOf_ok trivial, fun _ => rfl⟩ conref04_count (fun a b => a) none (fun _ _ => rfl) rfl (fun _ _ h => nomatch h) 1000000 (fn := Tryz.f61) Tryz.func61 rfl (by kernel_rfl) (by kernel_rfl) rfl (by intro N a b; kernel_rfl)
def Fref04_site (N : Nat) (n : Int) : Option (Bool) :=
 (some ((decide (0 ≤ n)) && (decide (n < 8))))
def conref04_site : Con τ := { args := [.ty 3], L := [], ret := .ty 4, L' := [], R := Bool, dflt := default, F := fun N a b => Fref04_site N a.1, of := fun r => (r, ()) }
noncomputable def datref04_site : Dat τ := { D := D0, tbl := tblOf [], lp := lpsOf [], k0 := 0, mu := [], un := [] }
theorem okref04_site : ConOk E C 78 conref04_site :=
  con_ok (D := datref04_site) ⟨d0Ok, eGood, tblOf_ok trivial, fun _ => rfl⟩ conref04_site (fun a b => a) none (fun _ _ => rfl) rfl (fun _ _ h => nomatch h) 1000000 (fn := Tryz.f78) Tryz.func78 rfl (by kernel_rfl) (by kernel_rfl) rfl (by intro N a b; kernel_rfl)
def Fref04_MayStamp (N : Nat) (s : GStamp) : Option (Bool) :=
 ((Fref04_count N s.Time).bind fun r1 =>
 ((bif r1 then Fref04_site N s.Site else some default).bind fun r2 =>
 (some (r1 && r2))))
def conref04_MayStamp : Con τ := { args := [.ty 23], L := [], ret := .ty 4, L' := [], R := Bool, dflt := default, F := fun N a b => Fref04_MayStamp N a.1, of := fun r => (r, ()) }
noncomputable def datref04_MayStamp : Dat τ := { D := D0, tbl := tblOf [(61, conref04_count), (78, conref04_site)], lp := lpsOf [], k0 := 0, mu := [], un := [] }
theorem okref04_MayStamp : ConOk E C 56 conref04_MayStamp :=
  con_ok (D := datref04_MayStamp) ⟨d0Ok, eGood, tblOf_ok ⟨okref04_count, ⟨okref04_site, trivial⟩⟩, fun _ => rfl⟩ conref04_MayStamp (fun a b => a) none (fun _ _ => rfl) rfl (fun _ _ h => nomatch h) 1000000 (fn := Tryz.f56) Tryz.func56 rfl (by kernel_rfl) (by kernel_rfl) rfl (by intro N a b; kernel_rfl)
def Fref04_node (N : Nat) (n : Int) : Option (Bool) :=
 (some ((decide (0 ≤ n)) && (decide (n ≤ 1125899906842624))))
def conref04_node : Con τ := { args := [.ty 2], L := [], ret := .ty 4, L' := [], R := Bool, dflt := default, F := fun N a b => Fref04_node N a.1, of := fun r => (r, ()) }
noncomputable def datref04_node : Dat τ := { D := D0, tbl := tblOf [], lp := lpsOf [], k0 := 0, mu := [], un := [] }
theorem okref04_node : ConOk E C 57 conref04_node :=
  con_ok (D := datref04_node) ⟨d0Ok, eGood, tblOf_ok trivial, fun _ => rfl⟩ conref04_node (fun a b => a) none (fun _ _ => rfl) rfl (fun _ _ h => nomatch h) 1000000 (fn := Tryz.f57) Tryz.func57 rfl (by kernel_rfl) (by kernel_rfl) rfl (by intro N a b; kernel_rfl)
def Fref04_MayOp (N : Nat) (op : GOp) : Option (Bool) :=
 ((Fref04_MayStamp N op.Stamp).bind fun r1 =>
 ((bif ((r1 && (decide (1 ≤ op.Kind))) && (decide (op.Kind ≤ 3))) then Fref04_node N op.Node else some default).bind fun r2 =>
 ((bif (((r1 && (decide (1 ≤ op.Kind))) && (decide (op.Kind ≤ 3))) && r2) then Fref04_node N op.Parent else some default).bind fun r3 =>
 (some (((((((r1 && (decide (1 ≤ op.Kind))) && (decide (op.Kind ≤ 3))) && r2) && r3) && (decide (((op.Name).length : Int) ≤ 255))) && (decide (((op.Key).length : Int) ≤ 255))) && (decide (((op.Value).length : Int) ≤ 255)))))))
def conref04_MayOp : Con τ := { args := [.ty 25], L := [], ret := .ty 4, L' := [], R := Bool, dflt := default, F := fun N a b => Fref04_MayOp N a.1, of := fun r => (r, ()) }
noncomputable def datref04_MayOp : Dat τ := { D := D0, tbl := tblOf [(56, conref04_MayStamp), (57, conref04_node)], lp := lpsOf [], k0 := 0, mu := [], un := [] }
theorem okref04_MayOp : ConOk E C 21 conref04_MayOp :=
  con_ok (D := datref04_MayOp) ⟨d0Ok, eGood, tblOf_ok ⟨okref04_MayStamp, ⟨okref04_node, trivial⟩⟩, fun _ => rfl⟩ conref04_MayOp (fun a b => a) none (fun _ _ => rfl) rfl (fun _ _ h => nomatch h) 1000000 (fn := Tryz.f21) Tryz.func21 rfl (by kernel_rfl) (by kernel_rfl) rfl (by intro N a b; kernel_rfl)
def Fref04_Errno (N : Nat) (may : Bool) : Option (Int) :=
 (bif may then
 (some 0)
 else
 (some 40))
def conref04_Errno : Con τ := { args := [.ty 4], L := [], ret := .ty 35, L' := [], R := Int, dflt := default, F := fun N a b => Fref04_Errno N a.1, of := fun r => (r, ()) }
noncomputable def datref04_Errno : Dat τ := { D := D0, tbl := tblOf [], lp := lpsOf [], k0 := 0, mu := [], un := [] }
theorem okref04_Errno : ConOk E C 41 conref04_Errno :=
  con_ok (D := datref04_Errno) ⟨d0Ok, eGood, tblOf_ok trivial, fun _ => rfl⟩ conref04_Errno (fun a b => a) none (fun _ _ => rfl) rfl (fun _ _ h => nomatch h) 1000000 (fn := Tryz.f41) Tryz.func41 rfl (by kernel_rfl) (by kernel_rfl) rfl (by intro N a b; kernel_rfl)
def Fref04_CheckOp (N : Nat) (op : GOp) : Option (Int) :=
 ((Fref04_MayOp N op).bind fun r1 =>
 ((Fref04_Errno N r1).bind fun r2 =>
 (some r2)))
def conref04_CheckOp : Con τ := { args := [.ty 25], L := [], ret := .ty 35, L' := [], R := Int, dflt := default, F := fun N a b => Fref04_CheckOp N a.1, of := fun r => (r, ()) }
noncomputable def datref04_CheckOp : Dat τ := { D := D0, tbl := tblOf [(21, conref04_MayOp), (41, conref04_Errno)], lp := lpsOf [], k0 := 0, mu := [], un := [] }
theorem okref04_CheckOp : ConOk E C 10 conref04_CheckOp :=
  con_ok (D := datref04_CheckOp) ⟨d0Ok, eGood, tblOf_ok ⟨okref04_MayOp, ⟨okref04_Errno, trivial⟩⟩, fun _ => rfl⟩ conref04_CheckOp (fun a b => a) none (fun _ _ => rfl) rfl (fun _ _ h => nomatch h) 1000000 (fn := Tryz.f10) Tryz.func10 rfl (by kernel_rfl) (by kernel_rfl) rfl (by intro N a b; kernel_rfl)
structure Sref01_Intx5 where
  u : Int
  b : List (Int)
def tsref01_Intx5 : List Sl := [.k, .k, .k, .sh (.ty 12), .sh (.own 5 0), .k, .k, .k, .k, .k, .k, .k, .k, .k, .k, .k, .j, .j, .j, .j, .j, .j, .j, .j, .j, .j, .j, .k, .k, .k, .k, .k]
def hsref01_Intx5 : List ESh := [.tail]
def toref01_Intx5 (a : Sl.Ts τ tsref01_Intx5) (b : ESh.Ts τ hsref01_Intx5) : Sref01_Intx5 := ⟨a.2.2.2.1, a.2.2.2.2.1⟩
def otref01_Intx5 (s : Sref01_Intx5) : Sl.Ts τ tsref01_Intx5 := ((), (), (), s.u, s.b, (), (), (), (), (), (), (), (), (), (), (), (), (), (), (), (), (), (), (), (), (), (), (), (), (), (), (), ())
def ohref01_Intx5 (s : Sref01_Intx5) : ESh.Ts τ hsref01_Intx5 := ((), ())
def lpref01_Intx5 : Lp τ := { ts := tsref01_Intx5, hs := hsref01_Intx5, S := Sref01_Intx5, to := toref01_Intx5, ot := otref01_Intx5, oh := ohref01_Intx5, hk := [], tk := [], ot_to := fun _ _ => rfl, oh_to := fun _ _ => rfl }
def Fref01_Int (N : Nat) (n : Int) : Option ((List (Int))) :=
 (bif (decide (n < 0)) then
 (iter N (fun (s1 : Sref01_Intx5) next2 =>
 (bif (decide (128 ≤ s1.u)) then
 (bif (lenB ((s1.b).length + ([(IntKind.u8.wrap ((IntKind.u8.wrap (Int.tmod s1.u 128)) + 128))]).length) 1) then
 (next2 ⟨(IntKind.u64.wrap (Int.tdiv s1.u 128)), (s1.b ++ [(IntKind.u8.wrap ((IntKind.u8.wrap (Int.tmod s1.u 128)) + 128))])⟩)
 else none)
 else
 (bif (lenB ((s1.b).length + ([(IntKind.u8.wrap s1.u)]).length) 1) then
 (some (s1.b ++ [(IntKind.u8.wrap s1.u)]))
 else none))) ⟨(IntKind.u64.wrap ((IntKind.u64.wrap ((IntKind.u64.wrap (IntKind.i64.wrap (0 - (IntKind.i64.wrap (n + 1))))) * 2)) + 1)), []⟩)
 else
 (iter N (fun (s3 : Sref01_Intx5) next4 =>
 (bif (decide (128 ≤ s3.u)) then
 (bif (lenB ((s3.b).length + ([(IntKind.u8.wrap ((IntKind.u8.wrap (Int.tmod s3.u 128)) + 128))]).length) 1) then
 (next4 ⟨(IntKind.u64.wrap (Int.tdiv s3.u 128)), (s3.b ++ [(IntKind.u8.wrap ((IntKind.u8.wrap (Int.tmod s3.u 128)) + 128))])⟩)
 else none)
 else
 (bif (lenB ((s3.b).length + ([(IntKind.u8.wrap s3.u)]).length) 1) then
 (some (s3.b ++ [(IntKind.u8.wrap s3.u)]))
 else none))) ⟨(IntKind.u64.wrap ((IntKind.u64.wrap n) * 2)), []⟩))
def conref01_Int : Con τ := { args := [.ty 2], L := [], ret := .own 5 0, L' := [.tail], R := (List (Int)), dflt := default, F := fun N a b => Fref01_Int N a.1, of := fun r => (r, ((), ())) }
noncomputable def datref01_Int : Dat τ := { D := D0, tbl := tblOf [], lp := lpsOf [(5, lpref01_Intx5)], k0 := 0, mu := [], un := [] }
theorem okref01_Int : ConOk E C 95 conref01_Int :=
  con_ok (D := datref01_Int) ⟨d0Ok, eGood, tblOf_ok trivial, fun _ => rfl⟩ conref01_Int (fun a b => a) none (fun _ _ => rfl) rfl (fun _ _ h => nomatch h) 1000000 (fn := Tryz.f95) Tryz.func95 rfl (by kernel_rfl) (by kernel_rfl) rfl (by intro N a b; kernel_rfl)
structure Sref04_num_b16x2 where
  b : List (Int)
  i : Int
def tsref04_num_b16x2 : List Sl := [.sh (.own 5 0), .k, .k, .k, .k, .sh (.ty 2), .j, .j, .j, .j, .j, .j, .j, .j, .j, .j, .j, .j, .j, .k]
def hsref04_num_b16x2 : List ESh := [.tail]
def toref04_num_b16x2 (a : Sl.Ts τ tsref04_num_b16x2) (b : ESh.Ts τ hsref04_num_b16x2) : Sref04_num_b16x2 := ⟨a.1, a.2.2.2.2.2.1⟩
def otref04_num_b16x2 (s : Sref04_num_b16x2) : Sl.Ts τ tsref04_num_b16x2 := (s.b, (), (), (), (), s.i, (), (), (), (), (), (), (), (), (), (), (), (), (), (), ())
def ohref04_num_b16x2 (s : Sref04_num_b16x2) : ESh.Ts τ hsref04_num_b16x2 := ((), ())
def lpref04_num_b16x2 : Lp τ := { ts := tsref04_num_b16x2, hs := hsref04_num_b16x2, S := Sref04_num_b16x2, to := toref04_num_b16x2, ot := otref04_num_b16x2, oh := ohref04_num_b16x2, hk := [], tk := [], ot_to := fun _ _ => rfl, oh_to := fun _ _ => rfl }
def Fref04_num_b16 (N : Nat) (l : List (Int)) : Option ((List (Int))) :=
 (iter N (fun (s1 : Sref04_num_b16x2) next2 =>
 (bif (decide (s1.i < ((l).length : Int))) then
 (bif (ibB s1.i ((l).length : Int)) then
 ((Fref01_Int N (lget l s1.i default)).bind fun r3 =>
 (bif (lenB ((s1.b).length + (r3).length) 1) then
 (next2 ⟨(s1.b ++ r3), (IntKind.i64.wrap (s1.i + 1))⟩)
 else none))
 else none)
 else
 (some s1.b))) ⟨[], 0⟩)
def conref04_num_b16 : Con τ := { args := [.nil .slice, .ty 143], L := [], ret := .own 5 0, L' := [.tail], R := (List (Int)), dflt := default, F := fun N a b => Fref04_num_b16 N a.2.1, of := fun r => (r, ((), ())) }
noncomputable def datref04_num_b16 : Dat τ := { D := D0, tbl := tblOf [(95, conref01_Int)], lp := lpsOf [(2, lpref04_num_b16x2)], k0 := 0, mu := [], un := [] }
theorem okref04_num_b16 : ConOk E C 42 conref04_num_b16 :=
  con_ok (D := datref04_num_b16) ⟨d0Ok, eGood, tblOf_ok ⟨okref01_Int, trivial⟩, fun _ => rfl⟩ conref04_num_b16 (fun a b => a) none (fun _ _ => rfl) rfl (fun _ _ h => nomatch h) 1000000 (fn := Tryz.f42) Tryz.func42 rfl (by kernel_rfl) (by kernel_rfl) rfl (by intro N a b; kernel_rfl)
def Fref01_Bytes (N : Nat) (l : List (Int)) : Option ((List (Int))) :=
 ((Fref01_Int N ((l).length : Int)).bind fun r1 =>
 (bif (lenB ((r1).length + (l).length) 1) then
 (some (r1 ++ l))
 else none))
def conref01_Bytes : Con τ := { args := [.ty 31], L := [], ret := .own 5 0, L' := [.tail], R := (List (Int)), dflt := default, F := fun N a b => Fref01_Bytes N a.1, of := fun r => (r, ((), ())) }
noncomputable def datref01_Bytes : Dat τ := { D := D0, tbl := tblOf [(95, conref01_Int)], lp := lpsOf [], k0 := 0, mu := [], un := [] }
theorem okref01_Bytes : ConOk E C 96 conref01_Bytes :=
  con_ok (D := datref01_Bytes) ⟨d0Ok, eGood, tblOf_ok ⟨okref01_Int, trivial⟩, fun _ => rfl⟩ conref01_Bytes (fun a b => a) none (fun _ _ => rfl) rfl (fun _ _ h => nomatch h) 1000000 (fn := Tryz.f96) Tryz.func96 rfl (by kernel_rfl) (by kernel_rfl) rfl (by intro N a b; kernel_rfl)
def Fref04_text_aa6 (N : Nat) (b : List (Int)) (s : List UInt8) : Option ((List (Int))) :=
 ((Fref01_Bytes N (bytesI s)).bind fun r1 =>
 (bif (lenB ((b).length + (r1).length) 1) then
 (some (b ++ r1))
 else none))
def conref04_text_aa6 : Con τ := { args := [.own 5 0, .ty 9], L := [.tail], ret := .own 5 1, L' := [.dead, .tail], R := (List (Int)), dflt := default, F := fun N a b => Fref04_text_aa6 N a.1 a.2.1, of := fun r => (r, ((), (), ())) }
noncomputable def datref04_text_aa6 : Dat τ := { D := D0, tbl := tblOf [(96, conref01_Bytes)], lp := lpsOf [], k0 := 1, mu := [], un := [] }
theorem okref04_text_aa6 : ConOk E C 43 conref04_text_aa6 :=
  con_ok (D := datref04_text_aa6) ⟨d0Ok, eGood, tblOf_ok ⟨okref01_Bytes, trivial⟩, fun _ => rfl⟩ conref04_text_aa6 (fun a b => a) none (fun _ _ => rfl) rfl (fun _ _ h => nomatch h) 1000000 (fn := Tryz.f43) Tryz.func43 rfl (by kernel_rfl) (by kernel_rfl) rfl (by intro N a b; kernel_rfl)
def Fref04_OpForm (N : Nat) (op : GOp) : Option ((List (Int))) :=
 ((Fref04_num_b16 N [op.Stamp.Time, op.Stamp.Site, op.Kind, op.Node, op.Parent]).bind fun r1 =>
 ((Fref04_text_aa6 N r1 op.Name).bind fun r2 =>
 ((Fref04_text_aa6 N r2 op.Key).bind fun r3 =>
 ((Fref04_text_aa6 N r3 op.Value).bind fun r4 =>
 (some r4)))))
def conref04_OpForm : Con τ := { args := [.ty 25], L := [], ret := .own 5 0, L' := [.tail], R := (List (Int)), dflt := default, F := fun N a b => Fref04_OpForm N a.1, of := fun r => (r, ((), ())) }
noncomputable def datref04_OpForm : Dat τ := { D := D0, tbl := tblOf [(42, conref04_num_b16), (43, conref04_text_aa6)], lp := lpsOf [], k0 := 0, mu := [], un := [] }
theorem okref04_OpForm : ConOk E C 11 conref04_OpForm :=
  con_ok (D := datref04_OpForm) ⟨d0Ok, eGood, tblOf_ok ⟨okref04_num_b16, ⟨okref04_text_aa6, trivial⟩⟩, fun _ => rfl⟩ conref04_OpForm (fun a b => a) none (fun _ _ => rfl) rfl (fun _ _ h => nomatch h) 1000000 (fn := Tryz.f11) Tryz.func11 rfl (by kernel_rfl) (by kernel_rfl) rfl (by intro N a b; kernel_rfl)
def Frecord_CheckEpoch (N : Nat) (e : GEpoch) : Option (Int) :=
 ((Frecord_mayEpoch N e).bind fun r1 =>
 ((Frecord_verdict N r1).bind fun r2 =>
 (some r2)))
def conrecord_CheckEpoch : Con τ := { args := [.ty 30], L := [], ret := .ty 35, L' := [], R := Int, dflt := default, F := fun N a b => Frecord_CheckEpoch N a.1, of := fun r => (r, ()) }
noncomputable def datrecord_CheckEpoch : Dat τ := { D := D0, tbl := tblOf [(97, conrecord_mayEpoch), (89, conrecord_verdict)], lp := lpsOf [], k0 := 0, mu := [], un := [] }
theorem okrecord_CheckEpoch : ConOk E C 44 conrecord_CheckEpoch :=
  con_ok (D := datrecord_CheckEpoch) ⟨d0Ok, eGood, tblOf_ok ⟨okrecord_mayEpoch, ⟨okrecord_verdict, trivial⟩⟩, fun _ => rfl⟩ conrecord_CheckEpoch (fun a b => a) none (fun _ _ => rfl) rfl (fun _ _ h => nomatch h) 1000000 (fn := Tryz.f44) Tryz.func44 rfl (by kernel_rfl) (by kernel_rfl) rfl (by intro N a b; kernel_rfl)
def Frecord_PutEpoch_1_1be (N : Nat) (b0 : Int) (b1 : GEpoch) (b2 : Bool) (b22 : List (Int)) : Option (Int × GEpoch × Bool × (List (Int))) :=
 ((Frecord_writer_epoch_b53 N b1 b0 b2 b22).bind fun r1 =>
 (some (r1.1, b1, r1.2.1, r1.2.2)))
def conrecord_PutEpoch_1_1be : Con τ := { args := [.ptr 0 [], .ptr 1 []], L := [.box (.agg [.ptr 2 [], .ty 35]), .box (.ty 30), .box (.agg [.ty 4, .own 5 3]), .tail], ret := .tup [], L' := [.box (.agg [.ptr 2 [], .ty 35]), .box (.ty 30), .box (.agg [.ty 4, .own 5 4]), .dead, .tail], R := Int × GEpoch × Bool × (List (Int)), dflt := (default, default, default, default), F := fun N a b => Frecord_PutEpoch_1_1be N b.1.2.1 b.2.1 b.2.2.1.1 b.2.2.1.2.1, of := fun r => ((), (((), r.1, ()), r.2.1, (r.2.2.1, r.2.2.2, ()), (), (), ())) }
noncomputable def datrecord_PutEpoch_1_1be : Dat τ := { D := D0, tbl := tblOf [(46, conrecord_writer_epoch_b53)], lp := lpsOf [], k0 := 4, mu := [], un := [] }
theorem okrecord_PutEpoch_1_1be : ConOk E C 45 conrecord_PutEpoch_1_1be :=
  con_ok (D := datrecord_PutEpoch_1_1be) ⟨d0Ok, eGood, tblOf_ok ⟨okrecord_writer_epoch_b53, trivial⟩, fun _ => rfl⟩ conrecord_PutEpoch_1_1be (fun a b => (b.1.2.1, b.2.1, b.2.2.1.1, b.2.2.1.2.1)) none (fun _ _ => rfl) rfl (fun _ _ h => nomatch h) 1000000 (fn := Tryz.f45) Tryz.func45 rfl (by kernel_rfl) (by kernel_rfl) rfl (by intro N a b; kernel_rfl)
def Frecord_whole_94e (N : Nat) (b0 : Bool) (b02 : List (Int)) (b1 : GEpoch) : Option (Int × Bool × (List (Int)) × GEpoch) :=
 ((Fwire_NewWriter N).bind fun r1 =>
 ((Frecord_PutEpoch_1_1be N 0 b1 r1.1 r1.2).bind fun r2 =>
 (bif (!(!(r2.1 == 0))) then
 ((Fwire_Writer_Len_052 N r2.2.2.1 r2.2.2.2).bind fun r3 =>
 (bif (!(!(r2.1 == 0))) then
 ((Fwire_Writer_Len_052 N b0 b02).bind fun r4 =>
 (bif ((!(r2.1 == 0)) || (decide ((IntKind.i64.wrap (1048576 - r4.1)) < r3.1))) then
 (some (3, r4.2.1, r4.2.2, r2.2.1))
 else
 ((Frecord_PutEpoch_1_1be N 0 r2.2.1 r4.2.1 r4.2.2).bind fun r5 =>
 (some (0, r5.2.2.1, r5.2.2.2, r5.2.1)))))
 else
 (some (3, b0, b02, r2.2.1))))
 else
 (some (3, b0, b02, r2.2.1)))))
def conrecord_whole_94e : Con τ := { args := [.ptr 0 [], .fn 45 [.ptr 1 []]], L := [.box (.agg [.ty 4, .own 5 2]), .box (.ty 30), .tail], ret := .ty 35, L' := [.box (.agg [.ty 4, .own 5 3]), .box (.ty 30), .dead, .tail], R := Int × Bool × (List (Int)) × GEpoch, dflt := (default, default, default, default), F := fun N a b => Frecord_whole_94e N b.1.1 b.1.2.1 b.2.1, of := fun r => (r.1, ((r.2.1, r.2.2.1, ()), r.2.2.2, (), (), ())) }
noncomputable def datrecord_whole_94e : Dat τ := { D := D0, tbl := tblOf [(7, conwire_NewWriter), (45, conrecord_PutEpoch_1_1be), (91, conwire_Writer_Len_052)], lp := lpsOf [], k0 := 3, mu := [], un := [] }
theorem okrecord_whole_94e : ConOk E C 38 conrecord_whole_94e :=
  con_ok (D := datrecord_whole_94e) ⟨d0Ok, eGood, tblOf_ok ⟨okwire_NewWriter, ⟨okrecord_PutEpoch_1_1be, ⟨okwire_Writer_Len_052, trivial⟩⟩⟩, fun _ => rfl⟩ conrecord_whole_94e (fun a b => (a, b.1.1, b.1.2.1, b.2.1)) none (fun _ _ => rfl) rfl (fun _ _ h => nomatch h) 1000000 (fn := Tryz.f38) Tryz.func38 rfl (by kernel_rfl) (by kernel_rfl) rfl (by intro N a b; kernel_rfl)
def Frecord_PutEpoch_26c (N : Nat) (e : GEpoch) (b0 : Bool) (b02 : List (Int)) : Option (Int × Bool × (List (Int))) :=
 ((Frecord_made_052 N b0 b02).bind fun r1 =>
 (bif (!(r1.1 == 0)) then
 (some (2, r1.2.1, r1.2.2))
 else
 ((Frecord_CheckEpoch N e).bind fun r2 =>
 (bif (!(r2 == 0)) then
 (some (r2, r1.2.1, r1.2.2))
 else
 ((Frecord_whole_94e N r1.2.1 r1.2.2 e).bind fun r3 =>
 (some (r3.1, r3.2.1, r3.2.2.1)))))))
def conrecord_PutEpoch_26c : Con τ := { args := [.ptr 0 [], .ty 30], L := [.box (.agg [.ty 4, .own 5 1]), .tail], ret := .ty 35, L' := [.box (.agg [.ty 4, .own 5 2]), .dead, .tail], R := Int × Bool × (List (Int)), dflt := (default, default, default), F := fun N a b => Frecord_PutEpoch_26c N a.2.1 b.1.1 b.1.2.1, of := fun r => (r.1, ((r.2.1, r.2.2, ()), (), (), ())) }
noncomputable def datrecord_PutEpoch_26c : Dat τ := { D := D0, tbl := tblOf [(36, conrecord_made_052), (44, conrecord_CheckEpoch), (38, conrecord_whole_94e)], lp := lpsOf [], k0 := 2, mu := [], un := [] }
theorem okrecord_PutEpoch_26c : ConOk E C 12 conrecord_PutEpoch_26c :=
  con_ok (D := datrecord_PutEpoch_26c) ⟨d0Ok, eGood, tblOf_ok ⟨okrecord_made_052, ⟨okrecord_CheckEpoch, ⟨okrecord_whole_94e, trivial⟩⟩⟩, fun _ => rfl⟩ conrecord_PutEpoch_26c (fun a b => (a, b.1.1, b.1.2.1)) none (fun _ _ => rfl) rfl (fun _ _ h => nomatch h) 1000000 (fn := Tryz.f12) Tryz.func12 rfl (by kernel_rfl) (by kernel_rfl) rfl (by intro N a b; kernel_rfl)
structure Sref04_MayVectorx2 where
  i : Int
def tsref04_MayVectorx2 : List Sl := [.k, .k, .j, .sh (.ty 2), .j, .j, .j, .j, .j, .j, .j, .j, .j]
def hsref04_MayVectorx2 : List ESh := [.keep]
def toref04_MayVectorx2 (a : Sl.Ts τ tsref04_MayVectorx2) (b : ESh.Ts τ hsref04_MayVectorx2) : Sref04_MayVectorx2 := ⟨a.2.2.2.1⟩
def otref04_MayVectorx2 (s : Sref04_MayVectorx2) : Sl.Ts τ tsref04_MayVectorx2 := ((), (), (), s.i, (), (), (), (), (), (), (), (), (), ())
def ohref04_MayVectorx2 (s : Sref04_MayVectorx2) : ESh.Ts τ hsref04_MayVectorx2 := ((), ())
def lpref04_MayVectorx2 : Lp τ := { ts := tsref04_MayVectorx2, hs := hsref04_MayVectorx2, S := Sref04_MayVectorx2, to := toref04_MayVectorx2, ot := otref04_MayVectorx2, oh := ohref04_MayVectorx2, hk := [2], tk := [0, 2], ot_to := fun _ _ => rfl, oh_to := fun _ _ => rfl }
def Fref04_MayVector (N : Nat) (v : Vector (Int) 8) : Option (Bool) :=
 (iter N (fun (s1 : Sref04_MayVectorx2) next2 =>
 (bif (decide (s1.i < 8)) then
 (bif (ibB s1.i 8) then
 ((Fref04_count N (vget v ((s1.i).toNat) default)).bind fun r3 =>
 (bif (!r3) then
 (some false)
 else
 (next2 ⟨(IntKind.i64.wrap (s1.i + 1))⟩)))
 else none)
 else
 (some true))) ⟨0⟩)
def conref04_MayVector : Con τ := { args := [.ty 28], L := [], ret := .ty 4, L' := [], R := Bool, dflt := default, F := fun N a b => Fref04_MayVector N a.1, of := fun r => (r, ()) }
noncomputable def datref04_MayVector : Dat τ := { D := D0, tbl := tblOf [(61, conref04_count)], lp := lpsOf [(2, lpref04_MayVectorx2)], k0 := 0, mu := [], un := [] }
theorem okref04_MayVector : ConOk E C 62 conref04_MayVector :=
  con_ok (D := datref04_MayVector) ⟨d0Ok, eGood, tblOf_ok ⟨okref04_count, trivial⟩, fun _ => rfl⟩ conref04_MayVector (fun a b => a) none (fun _ _ => rfl) rfl (fun _ _ h => nomatch h) 1000000 (fn := Tryz.f62) Tryz.func62 rfl (by kernel_rfl) (by kernel_rfl) rfl (by intro N a b; kernel_rfl)
structure Sref04_MayEpochx2 where
  i : Int
def tsref04_MayEpochx2 : List Sl := [.k, .k, .j, .sh (.ty 2), .j, .j, .j, .j, .j, .j, .j, .j, .j, .j, .j, .j, .j, .j, .j, .j, .j, .j, .j, .j, .j, .j, .j, .j, .j, .j, .j, .j, .j, .j, .k, .k, .k, .k, .k, .k, .k, .k]
def hsref04_MayEpochx2 : List ESh := [.keep]
def toref04_MayEpochx2 (a : Sl.Ts τ tsref04_MayEpochx2) (b : ESh.Ts τ hsref04_MayEpochx2) : Sref04_MayEpochx2 := ⟨a.2.2.2.1⟩
def otref04_MayEpochx2 (s : Sref04_MayEpochx2) : Sl.Ts τ tsref04_MayEpochx2 := ((), (), (), s.i, (), (), (), (), (), (), (), (), (), (), (), (), (), (), (), (), (), (), (), (), (), (), (), (), (), (), (), (), (), (), (), (), (), (), (), (), (), (), ())
def ohref04_MayEpochx2 (s : Sref04_MayEpochx2) : ESh.Ts τ hsref04_MayEpochx2 := ((), ())
def lpref04_MayEpochx2 : Lp τ := { ts := tsref04_MayEpochx2, hs := hsref04_MayEpochx2, S := Sref04_MayEpochx2, to := toref04_MayEpochx2, ot := otref04_MayEpochx2, oh := ohref04_MayEpochx2, hk := [2], tk := [0, 2], ot_to := fun _ _ => rfl, oh_to := fun _ _ => rfl }
def Fref04_MayEpoch (N : Nat) (e : GEpoch) : Option (Bool) :=
 (iter N (fun (s1 : Sref04_MayEpochx2) next2 =>
 (bif (decide (s1.i < 8)) then
 (bif (ibB s1.i 8) then
 (bif (!(!(decide ((vget e.States ((s1.i).toNat) default) < 0))) || (ibB s1.i 8)) then
 (bif (!(!((decide ((vget e.States ((s1.i).toNat) default) < 0)) || (decide (3 < (vget e.States ((s1.i).toNat) default))))) || (ibB s1.i 8)) then
 (bif (!(!(((decide ((vget e.States ((s1.i).toNat) default) < 0)) || (decide (3 < (vget e.States ((s1.i).toNat) default)))) || (decide ((vget e.Sponsor ((s1.i).toNat) default) < (-1))))) || (ibB s1.i 8)) then
 (bif ((((decide ((vget e.States ((s1.i).toNat) default) < 0)) || (decide (3 < (vget e.States ((s1.i).toNat) default)))) || (decide ((vget e.Sponsor ((s1.i).toNat) default) < (-1)))) || (decide (8 ≤ (vget e.Sponsor ((s1.i).toNat) default)))) then
 (some false)
 else
 (next2 ⟨(IntKind.i64.wrap (s1.i + 1))⟩))
 else none)
 else none)
 else none)
 else none)
 else
 ((Fref04_count N e.Number).bind fun r3 =>
 ((bif r3 then Fref04_MayVector N e.Seals else some default).bind fun r4 =>
 (some (r3 && r4)))))) ⟨0⟩)
def conref04_MayEpoch : Con τ := { args := [.ty 30], L := [], ret := .ty 4, L' := [], R := Bool, dflt := default, F := fun N a b => Fref04_MayEpoch N a.1, of := fun r => (r, ()) }
noncomputable def datref04_MayEpoch : Dat τ := { D := D0, tbl := tblOf [(61, conref04_count), (62, conref04_MayVector)], lp := lpsOf [(2, lpref04_MayEpochx2)], k0 := 0, mu := [], un := [] }
theorem okref04_MayEpoch : ConOk E C 24 conref04_MayEpoch :=
  con_ok (D := datref04_MayEpoch) ⟨d0Ok, eGood, tblOf_ok ⟨okref04_count, ⟨okref04_MayVector, trivial⟩⟩, fun _ => rfl⟩ conref04_MayEpoch (fun a b => a) none (fun _ _ => rfl) rfl (fun _ _ h => nomatch h) 1000000 (fn := Tryz.f24) Tryz.func24 rfl (by kernel_rfl) (by kernel_rfl) rfl (by intro N a b; kernel_rfl)
def Fref04_CheckEpoch (N : Nat) (e : GEpoch) : Option (Int) :=
 ((Fref04_MayEpoch N e).bind fun r1 =>
 ((Fref04_Errno N r1).bind fun r2 =>
 (some r2)))
def conref04_CheckEpoch : Con τ := { args := [.ty 30], L := [], ret := .ty 35, L' := [], R := Int, dflt := default, F := fun N a b => Fref04_CheckEpoch N a.1, of := fun r => (r, ()) }
noncomputable def datref04_CheckEpoch : Dat τ := { D := D0, tbl := tblOf [(24, conref04_MayEpoch), (41, conref04_Errno)], lp := lpsOf [], k0 := 0, mu := [], un := [] }
theorem okref04_CheckEpoch : ConOk E C 13 conref04_CheckEpoch :=
  con_ok (D := datref04_CheckEpoch) ⟨d0Ok, eGood, tblOf_ok ⟨okref04_MayEpoch, ⟨okref04_Errno, trivial⟩⟩, fun _ => rfl⟩ conref04_CheckEpoch (fun a b => a) none (fun _ _ => rfl) rfl (fun _ _ h => nomatch h) 1000000 (fn := Tryz.f13) Tryz.func13 rfl (by kernel_rfl) (by kernel_rfl) rfl (by intro N a b; kernel_rfl)
structure Sref04_num_f08x2 where
  b : List (Int)
  i : Int
def tsref04_num_f08x2 : List Sl := [.sh (.own 5 1), .k, .k, .k, .k, .sh (.ty 2), .j, .j, .j, .j, .j, .j, .j, .j, .j, .j, .j, .j, .j, .k]
def hsref04_num_f08x2 : List ESh := [.dead, .tail]
def toref04_num_f08x2 (a : Sl.Ts τ tsref04_num_f08x2) (b : ESh.Ts τ hsref04_num_f08x2) : Sref04_num_f08x2 := ⟨a.1, a.2.2.2.2.2.1⟩
def otref04_num_f08x2 (s : Sref04_num_f08x2) : Sl.Ts τ tsref04_num_f08x2 := (s.b, (), (), (), (), s.i, (), (), (), (), (), (), (), (), (), (), (), (), (), (), ())
def ohref04_num_f08x2 (s : Sref04_num_f08x2) : ESh.Ts τ hsref04_num_f08x2 := ((), (), ())
def lpref04_num_f08x2 : Lp τ := { ts := tsref04_num_f08x2, hs := hsref04_num_f08x2, S := Sref04_num_f08x2, to := toref04_num_f08x2, ot := otref04_num_f08x2, oh := ohref04_num_f08x2, hk := [5], tk := [], ot_to := fun _ _ => rfl, oh_to := fun _ _ => rfl }
def Fref04_num_f08 (N : Nat) (b : List (Int)) (l : List (Int)) : Option ((List (Int))) :=
 (iter N (fun (s1 : Sref04_num_f08x2) next2 =>
 (bif (decide (s1.i < ((l).length : Int))) then
 (bif (ibB s1.i ((l).length : Int)) then
 ((Fref01_Int N (lget l s1.i default)).bind fun r3 =>
 (bif (lenB ((s1.b).length + (r3).length) 1) then
 (next2 ⟨(s1.b ++ r3), (IntKind.i64.wrap (s1.i + 1))⟩)
 else none))
 else none)
 else
 (some s1.b))) ⟨b, 0⟩)
def conref04_num_f08 : Con τ := { args := [.own 5 0, .ty 143], L := [.tail], ret := .own 5 1, L' := [.dead, .tail], R := (List (Int)), dflt := default, F := fun N a b => Fref04_num_f08 N a.1 a.2.1, of := fun r => (r, ((), (), ())) }
noncomputable def datref04_num_f08 : Dat τ := { D := D0, tbl := tblOf [(95, conref01_Int)], lp := lpsOf [(2, lpref04_num_f08x2)], k0 := 1, mu := [], un := [] }
theorem okref04_num_f08 : ConOk E C 42 conref04_num_f08 :=
  con_ok (D := datref04_num_f08) ⟨d0Ok, eGood, tblOf_ok ⟨okref01_Int, trivial⟩, fun _ => rfl⟩ conref04_num_f08 (fun a b => a) none (fun _ _ => rfl) rfl (fun _ _ h => nomatch h) 1000000 (fn := Tryz.f42) Tryz.func42 rfl (by kernel_rfl) (by kernel_rfl) rfl (by intro N a b; kernel_rfl)
structure Sref04_VectorFormx3 where
  b : List (Int)
  i : Int
def tsref04_VectorFormx3 : List Sl := [.k, .k, .k, .sh (.own 5 1), .sh (.ty 2), .j, .j, .j, .j, .j, .j, .j, .j, .j, .j, .k]
def hsref04_VectorFormx3 : List ESh := [.keep, .tail]
def toref04_VectorFormx3 (a : Sl.Ts τ tsref04_VectorFormx3) (b : ESh.Ts τ hsref04_VectorFormx3) : Sref04_VectorFormx3 := ⟨a.2.2.2.1, a.2.2.2.2.1⟩
def otref04_VectorFormx3 (s : Sref04_VectorFormx3) : Sl.Ts τ tsref04_VectorFormx3 := ((), (), (), s.b, s.i, (), (), (), (), (), (), (), (), (), (), (), ())
def ohref04_VectorFormx3 (s : Sref04_VectorFormx3) : ESh.Ts τ hsref04_VectorFormx3 := ((), (), ())
def lpref04_VectorFormx3 : Lp τ := { ts := tsref04_VectorFormx3, hs := hsref04_VectorFormx3, S := Sref04_VectorFormx3, to := toref04_VectorFormx3, ot := otref04_VectorFormx3, oh := ohref04_VectorFormx3, hk := [2], tk := [0, 2], ot_to := fun _ _ => rfl, oh_to := fun _ _ => rfl }
def Fref04_VectorForm (N : Nat) (v : Vector (Int) 8) : Option ((List (Int))) :=
 (iter N (fun (s1 : Sref04_VectorFormx3) next2 =>
 (bif (decide (s1.i < 8)) then
 (bif (ibB s1.i 8) then
 ((Fref04_num_f08 N s1.b [(vget v ((s1.i).toNat) default)]).bind fun r3 =>
 (next2 ⟨r3, (IntKind.i64.wrap (s1.i + 1))⟩))
 else none)
 else
 (some s1.b))) ⟨[], 0⟩)
def conref04_VectorForm : Con τ := { args := [.ty 28], L := [], ret := .own 5 0, L' := [.tail], R := (List (Int)), dflt := default, F := fun N a b => Fref04_VectorForm N a.1, of := fun r => (r, ((), ())) }
noncomputable def datref04_VectorForm : Dat τ := { D := D0, tbl := tblOf [(42, conref04_num_f08)], lp := lpsOf [(3, lpref04_VectorFormx3)], k0 := 0, mu := [], un := [] }
theorem okref04_VectorForm : ConOk E C 47 conref04_VectorForm :=
  con_ok (D := datref04_VectorForm) ⟨d0Ok, eGood, tblOf_ok ⟨okref04_num_f08, trivial⟩, fun _ => rfl⟩ conref04_VectorForm (fun a b => a) none (fun _ _ => rfl) rfl (fun _ _ h => nomatch h) 1000000 (fn := Tryz.f47) Tryz.func47 rfl (by kernel_rfl) (by kernel_rfl) rfl (by intro N a b; kernel_rfl)
structure Sref04_EpochFormx3 where
  b : List (Int)
  i : Int
def tsref04_EpochFormx3 : List Sl := [.k, .k, .k, .sh (.own 5 2), .sh (.ty 2), .k, .k, .k, .k, .k, .j, .j, .j, .j, .j, .j, .j, .j, .j, .j, .j, .k, .k, .k, .k, .k, .k, .k, .k, .k, .k, .k, .k, .k, .k, .k, .k, .k]
def hsref04_EpochFormx3 : List ESh := [.keep, .dead, .tail]
def toref04_EpochFormx3 (a : Sl.Ts τ tsref04_EpochFormx3) (b : ESh.Ts τ hsref04_EpochFormx3) : Sref04_EpochFormx3 := ⟨a.2.2.2.1, a.2.2.2.2.1⟩
def otref04_EpochFormx3 (s : Sref04_EpochFormx3) : Sl.Ts τ tsref04_EpochFormx3 := ((), (), (), s.b, s.i, (), (), (), (), (), (), (), (), (), (), (), (), (), (), (), (), (), (), (), (), (), (), (), (), (), (), (), (), (), (), (), (), (), ())
def ohref04_EpochFormx3 (s : Sref04_EpochFormx3) : ESh.Ts τ hsref04_EpochFormx3 := ((), (), (), ())
def lpref04_EpochFormx3 : Lp τ := { ts := tsref04_EpochFormx3, hs := hsref04_EpochFormx3, S := Sref04_EpochFormx3, to := toref04_EpochFormx3, ot := otref04_EpochFormx3, oh := ohref04_EpochFormx3, hk := [2, 5], tk := [0, 2, 0, 0, 0, 0, 2], ot_to := fun _ _ => rfl, oh_to := fun _ _ => rfl }
structure Sref04_EpochFormx8 where
  b : List (Int)
  i : Int
def tsref04_EpochFormx8 : List Sl := [.k, .k, .k, .sh (.own 5 5), .k, .sh (.ty 2), .k, .k, .k, .k, .k, .k, .k, .k, .k, .k, .k, .k, .k, .k, .k, .k, .k, .k, .k, .k, .j, .j, .j, .j, .j, .j, .j, .j, .j, .j, .j, .k]
def hsref04_EpochFormx8 : List ESh := [.keep, .keep, .keep, .keep, .dead, .tail]
def toref04_EpochFormx8 (a : Sl.Ts τ tsref04_EpochFormx8) (b : ESh.Ts τ hsref04_EpochFormx8) : Sref04_EpochFormx8 := ⟨a.2.2.2.1, a.2.2.2.2.2.1⟩
def otref04_EpochFormx8 (s : Sref04_EpochFormx8) : Sl.Ts τ tsref04_EpochFormx8 := ((), (), (), s.b, (), s.i, (), (), (), (), (), (), (), (), (), (), (), (), (), (), (), (), (), (), (), (), (), (), (), (), (), (), (), (), (), (), (), (), ())
def ohref04_EpochFormx8 (s : Sref04_EpochFormx8) : ESh.Ts τ hsref04_EpochFormx8 := ((), (), (), (), (), (), ())
def lpref04_EpochFormx8 : Lp τ := { ts := tsref04_EpochFormx8, hs := hsref04_EpochFormx8, S := Sref04_EpochFormx8, to := toref04_EpochFormx8, ot := otref04_EpochFormx8, oh := ohref04_EpochFormx8, hk := [2, 1, 1, 5, 5], tk := [0, 2, 0, 0, 0, 0, 2, 0, 0, 0, 0, 0, 0, 0, 0, 0, 0, 0, 0, 0, 0, 0, 2], ot_to := fun _ _ => rfl, oh_to := fun _ _ => rfl }
def Fref04_EpochForm (N : Nat) (e : GEpoch) : Option ((List (Int))) :=
 ((Fref04_num_b16 N [e.Number]).bind fun r1 =>
 (iter N (fun (s2 : Sref04_EpochFormx3) next3 =>
 (bif (decide (s2.i < 8)) then
 (bif (ibB s2.i 8) then
 ((Fref04_num_f08 N s2.b [(vget e.States ((s2.i).toNat) default)]).bind fun r4 =>
 (next3 ⟨r4, (IntKind.i64.wrap (s2.i + 1))⟩))
 else none)
 else
 ((Fref04_VectorForm N e.Seals).bind fun r5 =>
 (bif (lenB ((s2.b).length + (r5).length) 1) then
 (iter N (fun (s6 : Sref04_EpochFormx8) next7 =>
 (bif (decide (s6.i < 8)) then
 (bif (ibB s6.i 8) then
 ((Fref04_num_f08 N s6.b [(vget e.Sponsor ((s6.i).toNat) default)]).bind fun r8 =>
 (next7 ⟨r8, (IntKind.i64.wrap (s6.i + 1))⟩))
 else none)
 else
 (some s6.b))) ⟨(s2.b ++ r5), 0⟩)
 else none)))) ⟨r1, 0⟩))
def conref04_EpochForm : Con τ := { args := [.ty 30], L := [], ret := .own 5 0, L' := [.tail], R := (List (Int)), dflt := default, F := fun N a b => Fref04_EpochForm N a.1, of := fun r => (r, ((), ())) }
noncomputable def datref04_EpochForm : Dat τ := { D := D0, tbl := tblOf [(42, conref04_num_b16), (42, conref04_num_f08), (47, conref04_VectorForm)], lp := lpsOf [(3, lpref04_EpochFormx3), (8, lpref04_EpochFormx8)], k0 := 0, mu := [], un := [] }
theorem okref04_EpochForm : ConOk E C 14 conref04_EpochForm :=
  con_ok (D := datref04_EpochForm) ⟨d0Ok, eGood, tblOf_ok ⟨okref04_num_b16, ⟨okref04_num_f08, ⟨okref04_VectorForm, trivial⟩⟩⟩, fun _ => rfl⟩ conref04_EpochForm (fun a b => a) none (fun _ _ => rfl) rfl (fun _ _ h => nomatch h) 1000000 (fn := Tryz.f14) Tryz.func14 rfl (by kernel_rfl) (by kernel_rfl) rfl (by intro N a b; kernel_rfl)
def Frecord_TakeOp_1_a5c (N : Nat) (b0 : Int) (b1 : GOp) (b2 : Gwire_Writer) : Option (Int × Int × GOp × Gwire_Writer) :=
 ((Frecord_reader_op_407 N b0 b2).bind fun r1 =>
 ((Frecord_CheckOp N r1.1).bind fun r2 =>
 (some (r2, r1.2.1, r1.1, r1.2.2))))
def conrecord_TakeOp_1_a5c : Con τ := { args := [.ptr 0 [], .ptr 1 []], L := [.box (.agg [.ptr 2 [], .ty 35]), .box (.ty 25), .box (.ty 99)], ret := .ty 35, L' := [.box (.agg [.ptr 2 [], .ty 35]), .box (.ty 25), .box (.ty 99)], R := Int × Int × GOp × Gwire_Writer, dflt := (default, default, default, default), F := fun N a b => Frecord_TakeOp_1_a5c N b.1.2.1 b.2.1 b.2.2.1, of := fun r => (r.1, (((), r.2.1, ()), r.2.2.1, r.2.2.2, ())) }
noncomputable def datrecord_TakeOp_1_a5c : Dat τ := { D := D0, tbl := tblOf [(52, conrecord_reader_op_407), (37, conrecord_CheckOp)], lp := lpsOf [], k0 := 3, mu := [], un := [] }
theorem okrecord_TakeOp_1_a5c : ConOk E C 51 conrecord_TakeOp_1_a5c :=
  con_ok (D := datrecord_TakeOp_1_a5c) ⟨d0Ok, eGood, tblOf_ok ⟨okrecord_reader_op_407, ⟨okrecord_CheckOp, trivial⟩⟩, fun _ => rfl⟩ conrecord_TakeOp_1_a5c (fun a b => (a, b.1.2.1, b.2.1, b.2.2.1)) none (fun _ _ => rfl) rfl (fun _ _ h => nomatch h) 1000000 (fn := Tryz.f51) Tryz.func51 rfl (by kernel_rfl) (by kernel_rfl) rfl (by intro N a b; kernel_rfl)
def Frecord_taken_bd1 (N : Nat) (b0 : Gwire_Writer) (b1 : GOp) : Option (Int × Gwire_Writer × GOp) :=
 ((Fwire_Reader_End_d95 N b0).bind fun r1 =>
 (bif (r1.1 == 2) then
 (some (2, r1.2, b1))
 else
 ((Frecord_TakeOp_1_a5c N 0 b1 r1.2).bind fun r2 =>
 (bif (!(r2.2.1 == 0)) then
 (bif (!(r2.2.1 == 0)) then
 (some (r2.2.1, r1.2, r2.2.2.1))
 else
 (some (r2.2.1, r2.2.2.2, r2.2.2.1)))
 else
 (bif (!(r2.1 == 0)) then
 (some (r2.1, r1.2, r2.2.2.1))
 else
 (some (r2.1, r2.2.2.2, r2.2.2.1)))))))
def conrecord_taken_bd1 : Con τ := { args := [.ptr 0 [], .fn 51 [.ptr 1 []]], L := [.box (.ty 99), .box (.ty 25)], ret := .ty 35, L' := [.box (.ty 99), .box (.ty 25)], R := Int × Gwire_Writer × GOp, dflt := (default, default, default), F := fun N a b => Frecord_taken_bd1 N b.1 b.2.1, of := fun r => (r.1, (r.2.1, r.2.2, ())) }
noncomputable def datrecord_taken_bd1 : Dat τ := { D := D0, tbl := tblOf [(74, conwire_Reader_End_d95), (51, conrecord_TakeOp_1_a5c)], lp := lpsOf [], k0 := 2, mu := [], un := [] }
theorem okrecord_taken_bd1 : ConOk E C 50 conrecord_taken_bd1 :=
  con_ok (D := datrecord_taken_bd1) ⟨d0Ok, eGood, tblOf_ok ⟨okwire_Reader_End_d95, ⟨okrecord_TakeOp_1_a5c, trivial⟩⟩, fun _ => rfl⟩ conrecord_taken_bd1 (fun a b => (a, b.1, b.2.1)) none (fun _ _ => rfl) rfl (fun _ _ h => nomatch h) 1000000 (fn := Tryz.f50) Tryz.func50 rfl (by kernel_rfl) (by kernel_rfl) rfl (by intro N a b; kernel_rfl)
def Frecord_TakeOp_d95 (N : Nat) (b0 : Gwire_Writer) : Option (GOp × Int × Gwire_Writer) :=
 ((Frecord_taken_bd1 N b0 (⟨(⟨0, 0⟩ : GStamp), 0, 0, 0, [], [], []⟩ : GOp)).bind fun r1 =>
 (bif (!(r1.1 == 0)) then
 (some ((⟨(⟨0, 0⟩ : GStamp), 0, 0, 0, [], [], []⟩ : GOp), r1.1, r1.2.1))
 else
 (some (r1.2.2, r1.1, r1.2.1))))
def conrecord_TakeOp_d95 : Con τ := { args := [.ptr 0 []], L := [.box (.ty 99)], ret := .tup [.ty 25, .ty 35], L' := [.box (.ty 99)], R := GOp × Int × Gwire_Writer, dflt := (default, default, default), F := fun N a b => Frecord_TakeOp_d95 N b.1, of := fun r => ((r.1, r.2.1, ()), (r.2.2, ())) }
noncomputable def datrecord_TakeOp_d95 : Dat τ := { D := D0, tbl := tblOf [(50, conrecord_taken_bd1)], lp := lpsOf [], k0 := 1, mu := [], un := [] }
theorem okrecord_TakeOp_d95 : ConOk E C 18 conrecord_TakeOp_d95 :=
  con_ok (D := datrecord_TakeOp_d95) ⟨d0Ok, eGood, tblOf_ok ⟨okrecord_taken_bd1, trivial⟩, fun _ => rfl⟩ conrecord_TakeOp_d95 (fun a b => (a.1, a.2.1, b.1)) none (fun _ _ => rfl) rfl (fun _ _ h => nomatch h) 1000000 (fn := Tryz.f18) Tryz.func18 rfl (by kernel_rfl) (by kernel_rfl) rfl (by intro N a b; kernel_rfl)
structure Sref01_ParseIntx3 where
  u : Int
  i : Int
def tsref01_ParseIntx3 : List Sl := [.k, .k, .j, .j, .j, .sh (.ty 12), .sh (.ty 2), .j, .j, .j, .j, .j, .j, .j, .j, .j, .j, .j, .j, .j, .j, .j, .j, .j, .j, .j, .j, .j, .j, .j, .j, .j, .j, .j, .j, .j, .j, .j, .j, .j, .j, .j, .j, .j, .j, .j, .j, .j, .j, .j, .j, .j, .j, .j, .j]
def hsref01_ParseIntx3 : List ESh := []
def toref01_ParseIntx3 (a : Sl.Ts τ tsref01_ParseIntx3) (b : ESh.Ts τ hsref01_ParseIntx3) : Sref01_ParseIntx3 := ⟨a.2.2.2.2.2.1, a.2.2.2.2.2.2.1⟩
def otref01_ParseIntx3 (s : Sref01_ParseIntx3) : Sl.Ts τ tsref01_ParseIntx3 := ((), (), (), (), (), s.u, s.i, (), (), (), (), (), (), (), (), (), (), (), (), (), (), (), (), (), (), (), (), (), (), (), (), (), (), (), (), (), (), (), (), (), (), (), (), (), (), (), (), (), (), (), (), (), (), (), (), ())
def ohref01_ParseIntx3 (s : Sref01_ParseIntx3) : ESh.Ts τ hsref01_ParseIntx3 := ()
def lpref01_ParseIntx3 : Lp τ := { ts := tsref01_ParseIntx3, hs := hsref01_ParseIntx3, S := Sref01_ParseIntx3, to := toref01_ParseIntx3, ot := otref01_ParseIntx3, oh := ohref01_ParseIntx3, hk := [], tk := [], ot_to := fun _ _ => rfl, oh_to := fun _ _ => rfl }
def Fref01_ParseInt (N : Nat) (b : List (Int)) : Option (Int × Int × Int) :=
 (iter N (fun (s1 : Sref01_ParseIntx3) next2 =>
 (bif (decide (s1.i < ((b).length : Int))) then
 (bif (ibB s1.i ((b).length : Int)) then
 (bif ((s1.i == 9) && (decide (1 < (IntKind.u64.wrap (lget b s1.i default))))) then
 (some (0, 0, 11))
 else
 (bif (decide (0 ≤ (IntKind.i64.wrap (7 * s1.i)))) then
 (bif (decide (128 ≤ (IntKind.u64.wrap (lget b s1.i default)))) then
 (next2 ⟨(IntKind.u64.wrap (s1.u + (shl .u64 (Int.tmod (IntKind.u64.wrap (lget b s1.i default)) 128) (IntKind.i64.wrap (7 * s1.i))))), (IntKind.i64.wrap (s1.i + 1))⟩)
 else
 (bif (((IntKind.u64.wrap (lget b s1.i default)) == 0) && (decide (0 < s1.i))) then
 (some (0, 0, 11))
 else
 (bif ((Int.tmod (IntKind.u64.wrap (s1.u + (shl .u64 (Int.tmod (IntKind.u64.wrap (lget b s1.i default)) 128) (IntKind.i64.wrap (7 * s1.i))))) 2) == 1) then
 (some ((IntKind.i64.wrap ((IntKind.i64.wrap (0 - (IntKind.i64.wrap (IntKind.u64.wrap (Int.tdiv (IntKind.u64.wrap (s1.u + (shl .u64 (Int.tmod (IntKind.u64.wrap (lget b s1.i default)) 128) (IntKind.i64.wrap (7 * s1.i))))) 2))))) - 1)), (IntKind.i64.wrap (s1.i + 1)), 0))
 else
 (some ((IntKind.i64.wrap (IntKind.u64.wrap (Int.tdiv (IntKind.u64.wrap (s1.u + (shl .u64 (Int.tmod (IntKind.u64.wrap (lget b s1.i default)) 128) (IntKind.i64.wrap (7 * s1.i))))) 2))), (IntKind.i64.wrap (s1.i + 1)), 0)))))
 else none))
 else none)
 else
 (some (0, 0, 10)))) ⟨0, 0⟩)
def conref01_ParseInt : Con τ := { args := [.ty 31], L := [], ret := .tup [.ty 2, .ty 3, .ty 35], L' := [], R := Int × Int × Int, dflt := (default, default, default), F := fun N a b => Fref01_ParseInt N a.1, of := fun r => ((r.1, r.2.1, r.2.2, ()), ()) }
noncomputable def datref01_ParseInt : Dat τ := { D := D0, tbl := tblOf [], lp := lpsOf [(3, lpref01_ParseIntx3)], k0 := 0, mu := [], un := [] }
theorem okref01_ParseInt : ConOk E C 101 conref01_ParseInt :=
  con_ok (D := datref01_ParseInt) ⟨d0Ok, eGood, tblOf_ok trivial, fun _ => rfl⟩ conref01_ParseInt (fun a b => (a.1, a.2.1, a.2.2.1)) none (fun _ _ => rfl) rfl (fun _ _ h => nomatch h) 1000000 (fn := Tryz.f101) Tryz.func101 rfl (by kernel_rfl) (by kernel_rfl) rfl (by intro N a b; kernel_rfl)
def Fref04_Reader_Fail_d51 (N : Nat) (e : Int) (b0 : Gorchardref04_Reader) : Option (Gorchardref04_Reader) :=
 (bif (b0.E == 0) then
 (some (⟨b0.B, b0.At, e⟩ : Gorchardref04_Reader))
 else
 (some b0))
def conref04_Reader_Fail_d51 : Con τ := { args := [.ptr 0 [], .ty 35], L := [.box (.ty 48)], ret := .tup [], L' := [.box (.ty 48)], R := Gorchardref04_Reader, dflt := default, F := fun N a b => Fref04_Reader_Fail_d51 N a.2.1 b.1, of := fun r => ((), (r, ())) }
noncomputable def datref04_Reader_Fail_d51 : Dat τ := { D := D0, tbl := tblOf [], lp := lpsOf [], k0 := 1, mu := [], un := [] }
theorem okref04_Reader_Fail_d51 : ConOk E C 102 conref04_Reader_Fail_d51 :=
  con_ok (D := datref04_Reader_Fail_d51) ⟨d0Ok, eGood, tblOf_ok trivial, fun _ => rfl⟩ conref04_Reader_Fail_d51 (fun a b => b.1) none (fun _ _ => rfl) rfl (fun _ _ h => nomatch h) 1000000 (fn := Tryz.f102) Tryz.func102 rfl (by kernel_rfl) (by kernel_rfl) rfl (by intro N a b; kernel_rfl)
def Fref04_Reader_Num_4b9 (N : Nat) (b0 : Gorchardref04_Reader) : Option (Int × Gorchardref04_Reader) :=
 (bif (!(b0.E == 0)) then
 (some (0, b0))
 else
 (bif (cutB b0.At ((b0.B).length : Int) ((b0.B).length : Int)) then
 ((Fref01_ParseInt N (cut b0.B b0.At ((b0.B).length : Int))).bind fun r1 =>
 (bif (!(r1.2.2 == 0)) then
 ((Fref04_Reader_Fail_d51 N r1.2.2 b0).bind fun r2 =>
 (some (0, r2)))
 else
 (some (r1.1, (⟨b0.B, (IntKind.i64.wrap (b0.At + r1.2.1)), b0.E⟩ : Gorchardref04_Reader)))))
 else none))
def conref04_Reader_Num_4b9 : Con τ := { args := [.ptr 0 []], L := [.box (.ty 48)], ret := .ty 2, L' := [.box (.ty 48)], R := Int × Gorchardref04_Reader, dflt := (default, default), F := fun N a b => Fref04_Reader_Num_4b9 N b.1, of := fun r => (r.1, (r.2, ())) }
noncomputable def datref04_Reader_Num_4b9 : Dat τ := { D := D0, tbl := tblOf [(101, conref01_ParseInt), (102, conref04_Reader_Fail_d51)], lp := lpsOf [], k0 := 1, mu := [], un := [] }
theorem okref04_Reader_Num_4b9 : ConOk E C 53 conref04_Reader_Num_4b9 :=
  con_ok (D := datref04_Reader_Num_4b9) ⟨d0Ok, eGood, tblOf_ok ⟨okref01_ParseInt, ⟨okref04_Reader_Fail_d51, trivial⟩⟩, fun _ => rfl⟩ conref04_Reader_Num_4b9 (fun a b => (a, b.1)) none (fun _ _ => rfl) rfl (fun _ _ h => nomatch h) 1000000 (fn := Tryz.f53) Tryz.func53 rfl (by kernel_rfl) (by kernel_rfl) rfl (by intro N a b; kernel_rfl)
def Fref04_Reader_Small_4b9 (N : Nat) (b0 : Gorchardref04_Reader) : Option (Int × Gorchardref04_Reader) :=
 ((Fref04_Reader_Num_4b9 N b0).bind fun r1 =>
 (bif ((decide (r1.1 < (-2147483648))) || (decide (2147483648 < r1.1))) then
 (some ((-2147483648), r1.2))
 else
 (some (r1.1, r1.2))))
def conref04_Reader_Small_4b9 : Con τ := { args := [.ptr 0 []], L := [.box (.ty 48)], ret := .ty 3, L' := [.box (.ty 48)], R := Int × Gorchardref04_Reader, dflt := (default, default), F := fun N a b => Fref04_Reader_Small_4b9 N b.1, of := fun r => (r.1, (r.2, ())) }
noncomputable def datref04_Reader_Small_4b9 : Dat τ := { D := D0, tbl := tblOf [(53, conref04_Reader_Num_4b9)], lp := lpsOf [], k0 := 1, mu := [], un := [] }
theorem okref04_Reader_Small_4b9 : ConOk E C 54 conref04_Reader_Small_4b9 :=
  con_ok (D := datref04_Reader_Small_4b9) ⟨d0Ok, eGood, tblOf_ok ⟨okref04_Reader_Num_4b9, trivial⟩, fun _ => rfl⟩ conref04_Reader_Small_4b9 (fun a b => (a, b.1)) none (fun _ _ => rfl) rfl (fun _ _ h => nomatch h) 1000000 (fn := Tryz.f54) Tryz.func54 rfl (by kernel_rfl) (by kernel_rfl) rfl (by intro N a b; kernel_rfl)
def Fref01_ParseBytes (N : Nat) (b : List (Int)) : Option ((List (Int)) × Int × Int) :=
 ((Fref01_ParseInt N b).bind fun r1 =>
 (bif (!(r1.2.2 == 0)) then
 (some ([], 0, r1.2.2))
 else
 (bif (decide (r1.1 < 0)) then
 (some ([], 0, 11))
 else
 (bif (decide ((IntKind.i64.wrap (((b).length : Int) - r1.2.1)) < r1.1)) then
 (some ([], 0, 10))
 else
 (bif (cutB r1.2.1 (IntKind.i64.wrap (r1.2.1 + r1.1)) ((b).length : Int)) then
 (bif (lenB (((cut b r1.2.1 (IntKind.i64.wrap (r1.2.1 + r1.1)))).length) 1) then
 (some ((cut b r1.2.1 (IntKind.i64.wrap (r1.2.1 + r1.1))), (IntKind.i64.wrap (r1.2.1 + r1.1)), 0))
 else none)
 else none)))))
def conref01_ParseBytes : Con τ := { args := [.ty 31], L := [], ret := .tup [.ty 31, .ty 3, .ty 35], L' := [], R := (List (Int)) × Int × Int, dflt := (default, default, default), F := fun N a b => Fref01_ParseBytes N a.1, of := fun r => ((r.1, r.2.1, r.2.2, ()), ()) }
noncomputable def datref01_ParseBytes : Dat τ := { D := D0, tbl := tblOf [(101, conref01_ParseInt)], lp := lpsOf [], k0 := 0, mu := [], un := [] }
theorem okref01_ParseBytes : ConOk E C 141 conref01_ParseBytes :=
  con_ok (D := datref01_ParseBytes) ⟨d0Ok, eGood, tblOf_ok ⟨okref01_ParseInt, trivial⟩, fun _ => rfl⟩ conref01_ParseBytes (fun a b => (a.1, a.2.1, a.2.2.1)) none (fun _ _ => rfl) rfl (fun _ _ h => nomatch h) 1000000 (fn := Tryz.f141) Tryz.func141 rfl (by kernel_rfl) (by kernel_rfl) rfl (by intro N a b; kernel_rfl)
def Fref04_Reader_Data_4b9 (N : Nat) (b0 : Gorchardref04_Reader) : Option ((List (Int)) × Gorchardref04_Reader) :=
 (bif (!(b0.E == 0)) then
 (some ([], b0))
 else
 (bif (cutB b0.At ((b0.B).length : Int) ((b0.B).length : Int)) then
 ((Fref01_ParseBytes N (cut b0.B b0.At ((b0.B).length : Int))).bind fun r1 =>
 (bif (!(r1.2.2 == 0)) then
 ((Fref04_Reader_Fail_d51 N r1.2.2 b0).bind fun r2 =>
 (some ([], r2)))
 else
 (bif (lenB ((r1.1).length) 1) then
 (some (r1.1, (⟨b0.B, (IntKind.i64.wrap (b0.At + r1.2.1)), b0.E⟩ : Gorchardref04_Reader)))
 else none)))
 else none))
def conref04_Reader_Data_4b9 : Con τ := { args := [.ptr 0 []], L := [.box (.ty 48)], ret := .ty 31, L' := [.box (.ty 48)], R := (List (Int)) × Gorchardref04_Reader, dflt := (default, default), F := fun N a b => Fref04_Reader_Data_4b9 N b.1, of := fun r => (r.1, (r.2, ())) }
noncomputable def datref04_Reader_Data_4b9 : Dat τ := { D := D0, tbl := tblOf [(141, conref01_ParseBytes), (102, conref04_Reader_Fail_d51)], lp := lpsOf [], k0 := 1, mu := [], un := [] }
theorem okref04_Reader_Data_4b9 : ConOk E C 103 conref04_Reader_Data_4b9 :=
  con_ok (D := datref04_Reader_Data_4b9) ⟨d0Ok, eGood, tblOf_ok ⟨okref01_ParseBytes, ⟨okref04_Reader_Fail_d51, trivial⟩⟩, fun _ => rfl⟩ conref04_Reader_Data_4b9 (fun a b => (a, b.1)) none (fun _ _ => rfl) rfl (fun _ _ h => nomatch h) 1000000 (fn := Tryz.f103) Tryz.func103 rfl (by kernel_rfl) (by kernel_rfl) rfl (by intro N a b; kernel_rfl)
def Fref04_Reader_Text_4b9 (N : Nat) (b0 : Gorchardref04_Reader) : Option ((List UInt8) × Gorchardref04_Reader) :=
 ((Fref04_Reader_Data_4b9 N b0).bind fun r1 =>
 (some ((strI r1.1), r1.2)))
def conref04_Reader_Text_4b9 : Con τ := { args := [.ptr 0 []], L := [.box (.ty 48)], ret := .ty 9, L' := [.box (.ty 48)], R := (List UInt8) × Gorchardref04_Reader, dflt := (default, default), F := fun N a b => Fref04_Reader_Text_4b9 N b.1, of := fun r => (r.1, (r.2, ())) }
noncomputable def datref04_Reader_Text_4b9 : Dat τ := { D := D0, tbl := tblOf [(103, conref04_Reader_Data_4b9)], lp := lpsOf [], k0 := 1, mu := [], un := [] }
theorem okref04_Reader_Text_4b9 : ConOk E C 55 conref04_Reader_Text_4b9 :=
  con_ok (D := datref04_Reader_Text_4b9) ⟨d0Ok, eGood, tblOf_ok ⟨okref04_Reader_Data_4b9, trivial⟩, fun _ => rfl⟩ conref04_Reader_Text_4b9 (fun a b => (a, b.1)) none (fun _ _ => rfl) rfl (fun _ _ h => nomatch h) 1000000 (fn := Tryz.f55) Tryz.func55 rfl (by kernel_rfl) (by kernel_rfl) rfl (by intro N a b; kernel_rfl)
def Fref04_Reader_Op_4b9 (N : Nat) (b0 : Gorchardref04_Reader) : Option (GOp × Gorchardref04_Reader) :=
 ((Fref04_Reader_Num_4b9 N b0).bind fun r1 =>
 ((Fref04_Reader_Small_4b9 N r1.2).bind fun r2 =>
 ((Fref04_Reader_Small_4b9 N r2.2).bind fun r3 =>
 ((Fref04_Reader_Num_4b9 N r3.2).bind fun r4 =>
 ((Fref04_Reader_Num_4b9 N r4.2).bind fun r5 =>
 ((Fref04_Reader_Text_4b9 N r5.2).bind fun r6 =>
 ((Fref04_Reader_Text_4b9 N r6.2).bind fun r7 =>
 ((Fref04_Reader_Text_4b9 N r7.2).bind fun r8 =>
 (some ((⟨(⟨r1.1, r2.1⟩ : GStamp), r3.1, r4.1, r5.1, r6.1, r7.1, r8.1⟩ : GOp), r8.2))))))))))
def conref04_Reader_Op_4b9 : Con τ := { args := [.ptr 0 []], L := [.box (.ty 48)], ret := .ty 25, L' := [.box (.ty 48)], R := GOp × Gorchardref04_Reader, dflt := (default, default), F := fun N a b => Fref04_Reader_Op_4b9 N b.1, of := fun r => (r.1, (r.2, ())) }
noncomputable def datref04_Reader_Op_4b9 : Dat τ := { D := D0, tbl := tblOf [(53, conref04_Reader_Num_4b9), (54, conref04_Reader_Small_4b9), (55, conref04_Reader_Text_4b9)], lp := lpsOf [], k0 := 1, mu := [], un := [] }
theorem okref04_Reader_Op_4b9 : ConOk E C 19 conref04_Reader_Op_4b9 :=
  con_ok (D := datref04_Reader_Op_4b9) ⟨d0Ok, eGood, tblOf_ok ⟨okref04_Reader_Num_4b9, ⟨okref04_Reader_Small_4b9, ⟨okref04_Reader_Text_4b9, trivial⟩⟩⟩, fun _ => rfl⟩ conref04_Reader_Op_4b9 (fun a b => (a, b.1)) none (fun _ _ => rfl) rfl (fun _ _ h => nomatch h) 1000000 (fn := Tryz.f19) Tryz.func19 rfl (by kernel_rfl) (by kernel_rfl) rfl (by intro N a b; kernel_rfl)
def Flaw04_errno_735 (N : Nat) (may : Bool) (b0 : Gorchardref04_Reader) : Option (Int × Gorchardref04_Reader) :=
 (bif ((b0.E == 0) && (!may)) then
 (some (40, b0))
 else
 (some (b0.E, b0)))
def conlaw04_errno_735 : Con τ := { args := [.ptr 0 [], .ty 4], L := [.box (.ty 48)], ret := .ty 35, L' := [.box (.ty 48)], R := Int × Gorchardref04_Reader, dflt := (default, default), F := fun N a b => Flaw04_errno_735 N a.2.1 b.1, of := fun r => (r.1, (r.2, ())) }
noncomputable def datlaw04_errno_735 : Dat τ := { D := D0, tbl := tblOf [], lp := lpsOf [], k0 := 1, mu := [], un := [] }
theorem oklaw04_errno_735 : ConOk E C 20 conlaw04_errno_735 :=
  con_ok (D := datlaw04_errno_735) ⟨d0Ok, eGood, tblOf_ok trivial, fun _ => rfl⟩ conlaw04_errno_735 (fun a b => (a, b.1)) none (fun _ _ => rfl) rfl (fun _ _ h => nomatch h) 1000000 (fn := Tryz.f20) Tryz.func20 rfl (by kernel_rfl) (by kernel_rfl) rfl (by intro N a b; kernel_rfl)
def Frecord_TakeEpoch_1_219 (N : Nat) (b0 : Int) (b1 : GEpoch) (b2 : Gwire_Writer) : Option (Int × Int × GEpoch × Gwire_Writer) :=
 ((Frecord_reader_epoch_407 N b0 b2).bind fun r1 =>
 ((Frecord_CheckEpoch N r1.1).bind fun r2 =>
 (some (r2, r1.2.1, r1.1, r1.2.2))))
def conrecord_TakeEpoch_1_219 : Con τ := { args := [.ptr 0 [], .ptr 1 []], L := [.box (.agg [.ptr 2 [], .ty 35]), .box (.ty 30), .box (.ty 99)], ret := .ty 35, L' := [.box (.agg [.ptr 2 [], .ty 35]), .box (.ty 30), .box (.ty 99)], R := Int × Int × GEpoch × Gwire_Writer, dflt := (default, default, default, default), F := fun N a b => Frecord_TakeEpoch_1_219 N b.1.2.1 b.2.1 b.2.2.1, of := fun r => (r.1, (((), r.2.1, ()), r.2.2.1, r.2.2.2, ())) }
noncomputable def datrecord_TakeEpoch_1_219 : Dat τ := { D := D0, tbl := tblOf [(59, conrecord_reader_epoch_407), (44, conrecord_CheckEpoch)], lp := lpsOf [], k0 := 3, mu := [], un := [] }
theorem okrecord_TakeEpoch_1_219 : ConOk E C 58 conrecord_TakeEpoch_1_219 :=
  con_ok (D := datrecord_TakeEpoch_1_219) ⟨d0Ok, eGood, tblOf_ok ⟨okrecord_reader_epoch_407, ⟨okrecord_CheckEpoch, trivial⟩⟩, fun _ => rfl⟩ conrecord_TakeEpoch_1_219 (fun a b => (a, b.1.2.1, b.2.1, b.2.2.1)) none (fun _ _ => rfl) rfl (fun _ _ h => nomatch h) 1000000 (fn := Tryz.f58) Tryz.func58 rfl (by kernel_rfl) (by kernel_rfl) rfl (by intro N a b; kernel_rfl)
def Frecord_taken_550 (N : Nat) (b0 : Gwire_Writer) (b1 : GEpoch) : Option (Int × Gwire_Writer × GEpoch) :=
 ((Fwire_Reader_End_d95 N b0).bind fun r1 =>
 (bif (r1.1 == 2) then
 (some (2, r1.2, b1))
 else
 ((Frecord_TakeEpoch_1_219 N 0 b1 r1.2).bind fun r2 =>
 (bif (!(r2.2.1 == 0)) then
 (bif (!(r2.2.1 == 0)) then
 (some (r2.2.1, r1.2, r2.2.2.1))
 else
 (some (r2.2.1, r2.2.2.2, r2.2.2.1)))
 else
 (bif (!(r2.1 == 0)) then
 (some (r2.1, r1.2, r2.2.2.1))
 else
 (some (r2.1, r2.2.2.2, r2.2.2.1)))))))
def conrecord_taken_550 : Con τ := { args := [.ptr 0 [], .fn 58 [.ptr 1 []]], L := [.box (.ty 99), .box (.ty 30)], ret := .ty 35, L' := [.box (.ty 99), .box (.ty 30)], R := Int × Gwire_Writer × GEpoch, dflt := (default, default, default), F := fun N a b => Frecord_taken_550 N b.1 b.2.1, of := fun r => (r.1, (r.2.1, r.2.2, ())) }
noncomputable def datrecord_taken_550 : Dat τ := { D := D0, tbl := tblOf [(74, conwire_Reader_End_d95), (58, conrecord_TakeEpoch_1_219)], lp := lpsOf [], k0 := 2, mu := [], un := [] }
theorem okrecord_taken_550 : ConOk E C 50 conrecord_taken_550 :=
  con_ok (D := datrecord_taken_550) ⟨d0Ok, eGood, tblOf_ok ⟨okwire_Reader_End_d95, ⟨okrecord_TakeEpoch_1_219, trivial⟩⟩, fun _ => rfl⟩ conrecord_taken_550 (fun a b => (a, b.1, b.2.1)) none (fun _ _ => rfl) rfl (fun _ _ h => nomatch h) 1000000 (fn := Tryz.f50) Tryz.func50 rfl (by kernel_rfl) (by kernel_rfl) rfl (by intro N a b; kernel_rfl)
def Frecord_TakeEpoch_d95 (N : Nat) (b0 : Gwire_Writer) : Option (GEpoch × Int × Gwire_Writer) :=
 ((Frecord_taken_550 N b0 (⟨0, (Vector.replicate 8 (default : Int)), (Vector.replicate 8 (default : Int)), (Vector.replicate 8 (default : Int))⟩ : GEpoch)).bind fun r1 =>
 (bif (!(r1.1 == 0)) then
 (some ((⟨0, (Vector.replicate 8 (default : Int)), (Vector.replicate 8 (default : Int)), (Vector.replicate 8 (default : Int))⟩ : GEpoch), r1.1, r1.2.1))
 else
 (some (r1.2.2, r1.1, r1.2.1))))
def conrecord_TakeEpoch_d95 : Con τ := { args := [.ptr 0 []], L := [.box (.ty 99)], ret := .tup [.ty 30, .ty 35], L' := [.box (.ty 99)], R := GEpoch × Int × Gwire_Writer, dflt := (default, default, default), F := fun N a b => Frecord_TakeEpoch_d95 N b.1, of := fun r => ((r.1, r.2.1, ()), (r.2.2, ())) }
noncomputable def datrecord_TakeEpoch_d95 : Dat τ := { D := D0, tbl := tblOf [(50, conrecord_taken_550)], lp := lpsOf [], k0 := 1, mu := [], un := [] }
theorem okrecord_TakeEpoch_d95 : ConOk E C 22 conrecord_TakeEpoch_d95 :=
  con_ok (D := datrecord_TakeEpoch_d95) ⟨d0Ok, eGood, tblOf_ok ⟨okrecord_taken_550, trivial⟩, fun _ => rfl⟩ conrecord_TakeEpoch_d95 (fun a b => (a.1, a.2.1, b.1)) none (fun _ _ => rfl) rfl (fun _ _ h => nomatch h) 1000000 (fn := Tryz.f22) Tryz.func22 rfl (by kernel_rfl) (by kernel_rfl) rfl (by intro N a b; kernel_rfl)
structure Sref04_Reader_Vector_4b9x3 where
  i : Int
  b0 : Gorchardref04_Reader
  b2 : Vector (Int) 8
def tsref04_Reader_Vector_4b9x3 : List Sl := [.k, .k, .k, .k, .sh (.ty 2), .j, .j, .j, .j, .j, .j, .j, .j, .k]
def hsref04_Reader_Vector_4b9x3 : List ESh := [.box (.ty 47), .keep, .box (.ty 27)]
def toref04_Reader_Vector_4b9x3 (a : Sl.Ts τ tsref04_Reader_Vector_4b9x3) (b : ESh.Ts τ hsref04_Reader_Vector_4b9x3) : Sref04_Reader_Vector_4b9x3 := ⟨a.2.2.2.2.1, b.1, b.2.2.1⟩
def otref04_Reader_Vector_4b9x3 (s : Sref04_Reader_Vector_4b9x3) : Sl.Ts τ tsref04_Reader_Vector_4b9x3 := ((), (), (), (), s.i, (), (), (), (), (), (), (), (), (), ())
def ohref04_Reader_Vector_4b9x3 (s : Sref04_Reader_Vector_4b9x3) : ESh.Ts τ hsref04_Reader_Vector_4b9x3 := (s.b0, (), s.b2, ())
def lpref04_Reader_Vector_4b9x3 : Lp τ := { ts := tsref04_Reader_Vector_4b9x3, hs := hsref04_Reader_Vector_4b9x3, S := Sref04_Reader_Vector_4b9x3, to := toref04_Reader_Vector_4b9x3, ot := otref04_Reader_Vector_4b9x3, oh := ohref04_Reader_Vector_4b9x3, hk := [2, 2, 2], tk := [2, 0, 3, 4], ot_to := fun _ _ => rfl, oh_to := fun _ _ => rfl }
def Fref04_Reader_Vector_4b9 (N : Nat) (b0 : Gorchardref04_Reader) : Option ((Vector (Int) 8) × Gorchardref04_Reader) :=
 (iter N (fun (s1 : Sref04_Reader_Vector_4b9x3) next2 =>
 (bif (decide (s1.i < 8)) then
 ((Fref04_Reader_Num_4b9 N s1.b0).bind fun r3 =>
 (bif (ibB s1.i 8) then
 (next2 ⟨(IntKind.i64.wrap (s1.i + 1)), r3.2, (vset s1.b2 ((s1.i).toNat) r3.1)⟩)
 else none))
 else
 (some (s1.b2, s1.b0)))) ⟨0, b0, (Vector.replicate 8 (default : Int))⟩)
def conref04_Reader_Vector_4b9 : Con τ := { args := [.ptr 0 []], L := [.box (.ty 48)], ret := .ty 28, L' := [.box (.ty 48)], R := (Vector (Int) 8) × Gorchardref04_Reader, dflt := (default, default), F := fun N a b => Fref04_Reader_Vector_4b9 N b.1, of := fun r => (r.1, (r.2, ())) }
noncomputable def datref04_Reader_Vector_4b9 : Dat τ := { D := D0, tbl := tblOf [(53, conref04_Reader_Num_4b9)], lp := lpsOf [(3, lpref04_Reader_Vector_4b9x3)], k0 := 1, mu := [], un := [] }
theorem okref04_Reader_Vector_4b9 : ConOk E C 60 conref04_Reader_Vector_4b9 :=
  con_ok (D := datref04_Reader_Vector_4b9) ⟨d0Ok, eGood, tblOf_ok ⟨okref04_Reader_Num_4b9, trivial⟩, fun _ => rfl⟩ conref04_Reader_Vector_4b9 (fun a b => (a, b.1)) none (fun _ _ => rfl) rfl (fun _ _ h => nomatch h) 1000000 (fn := Tryz.f60) Tryz.func60 rfl (by kernel_rfl) (by kernel_rfl) rfl (by intro N a b; kernel_rfl)
structure Sref04_Reader_Epoch_4b9x4 where
  i : Int
  b0 : Gorchardref04_Reader
  b2 : GEpoch
def tsref04_Reader_Epoch_4b9x4 : List Sl := [.k, .k, .k, .k, .sh (.ty 2), .k, .k, .k, .k, .j, .j, .j, .j, .j, .j, .j, .j, .j, .k, .k, .k, .k, .k, .k, .k, .k, .k, .k, .k, .k, .k]
def hsref04_Reader_Epoch_4b9x4 : List ESh := [.box (.ty 47), .keep, .box (.ty 29)]
def toref04_Reader_Epoch_4b9x4 (a : Sl.Ts τ tsref04_Reader_Epoch_4b9x4) (b : ESh.Ts τ hsref04_Reader_Epoch_4b9x4) : Sref04_Reader_Epoch_4b9x4 := ⟨a.2.2.2.2.1, b.1, b.2.2.1⟩
def otref04_Reader_Epoch_4b9x4 (s : Sref04_Reader_Epoch_4b9x4) : Sl.Ts τ tsref04_Reader_Epoch_4b9x4 := ((), (), (), (), s.i, (), (), (), (), (), (), (), (), (), (), (), (), (), (), (), (), (), (), (), (), (), (), (), (), (), (), ())
def ohref04_Reader_Epoch_4b9x4 (s : Sref04_Reader_Epoch_4b9x4) : ESh.Ts τ hsref04_Reader_Epoch_4b9x4 := (s.b0, (), s.b2, ())
def lpref04_Reader_Epoch_4b9x4 : Lp τ := { ts := tsref04_Reader_Epoch_4b9x4, hs := hsref04_Reader_Epoch_4b9x4, S := Sref04_Reader_Epoch_4b9x4, to := toref04_Reader_Epoch_4b9x4, ot := otref04_Reader_Epoch_4b9x4, oh := ohref04_Reader_Epoch_4b9x4, hk := [2, 2, 2], tk := [2, 0, 3, 4, 0, 0, 2, 0, 4], ot_to := fun _ _ => rfl, oh_to := fun _ _ => rfl }
structure Sref04_Reader_Epoch_4b9x9 where
  i : Int
  b0 : Gorchardref04_Reader
  b2 : GEpoch
def tsref04_Reader_Epoch_4b9x9 : List Sl := [.k, .k, .k, .k, .k, .sh (.ty 2), .k, .k, .k, .k, .k, .k, .k, .k, .k, .k, .k, .k, .k, .k, .k, .j, .j, .j, .j, .j, .j, .j, .j, .j, .k]
def hsref04_Reader_Epoch_4b9x9 : List ESh := [.box (.ty 47), .keep, .box (.ty 29)]
def toref04_Reader_Epoch_4b9x9 (a : Sl.Ts τ tsref04_Reader_Epoch_4b9x9) (b : ESh.Ts τ hsref04_Reader_Epoch_4b9x9) : Sref04_Reader_Epoch_4b9x9 := ⟨a.2.2.2.2.2.1, b.1, b.2.2.1⟩
def otref04_Reader_Epoch_4b9x9 (s : Sref04_Reader_Epoch_4b9x9) : Sl.Ts τ tsref04_Reader_Epoch_4b9x9 := ((), (), (), (), (), s.i, (), (), (), (), (), (), (), (), (), (), (), (), (), (), (), (), (), (), (), (), (), (), (), (), (), ())
def ohref04_Reader_Epoch_4b9x9 (s : Sref04_Reader_Epoch_4b9x9) : ESh.Ts τ hsref04_Reader_Epoch_4b9x9 := (s.b0, (), s.b2, ())
def lpref04_Reader_Epoch_4b9x9 : Lp τ := { ts := tsref04_Reader_Epoch_4b9x9, hs := hsref04_Reader_Epoch_4b9x9, S := Sref04_Reader_Epoch_4b9x9, to := toref04_Reader_Epoch_4b9x9, ot := otref04_Reader_Epoch_4b9x9, oh := ohref04_Reader_Epoch_4b9x9, hk := [2, 2, 2], tk := [2, 0, 3, 4, 0, 0, 2, 0, 4, 0, 0, 0, 0, 0, 0, 0, 0, 0, 2, 0, 4], ot_to := fun _ _ => rfl, oh_to := fun _ _ => rfl }
def Fref04_Reader_Epoch_4b9 (N : Nat) (b0 : Gorchardref04_Reader) : Option (GEpoch × Gorchardref04_Reader) :=
 ((Fref04_Reader_Num_4b9 N b0).bind fun r1 =>
 (iter N (fun (s2 : Sref04_Reader_Epoch_4b9x4) next3 =>
 (bif (decide (s2.i < 8)) then
 ((Fref04_Reader_Small_4b9 N s2.b0).bind fun r4 =>
 (bif (ibB s2.i 8) then
 (next3 ⟨(IntKind.i64.wrap (s2.i + 1)), r4.2, (⟨s2.b2.Number, (vset s2.b2.States ((s2.i).toNat) r4.1), s2.b2.Seals, s2.b2.Sponsor⟩ : GEpoch)⟩)
 else none))
 else
 ((Fref04_Reader_Vector_4b9 N s2.b0).bind fun r5 =>
 (iter N (fun (s6 : Sref04_Reader_Epoch_4b9x9) next7 =>
 (bif (decide (s6.i < 8)) then
 ((Fref04_Reader_Small_4b9 N s6.b0).bind fun r8 =>
 (bif (ibB s6.i 8) then
 (next7 ⟨(IntKind.i64.wrap (s6.i + 1)), r8.2, (⟨s6.b2.Number, s6.b2.States, s6.b2.Seals, (vset s6.b2.Sponsor ((s6.i).toNat) r8.1)⟩ : GEpoch)⟩)
 else none))
 else
 (some (s6.b2, s6.b0)))) ⟨0, r5.2, (⟨s2.b2.Number, s2.b2.States, r5.1, s2.b2.Sponsor⟩ : GEpoch)⟩)))) ⟨0, r1.2, (⟨r1.1, (Vector.replicate 8 (default : Int)), (Vector.replicate 8 (default : Int)), (Vector.replicate 8 (default : Int))⟩ : GEpoch)⟩))
def conref04_Reader_Epoch_4b9 : Con τ := { args := [.ptr 0 []], L := [.box (.ty 48)], ret := .ty 30, L' := [.box (.ty 48)], R := GEpoch × Gorchardref04_Reader, dflt := (default, default), F := fun N a b => Fref04_Reader_Epoch_4b9 N b.1, of := fun r => (r.1, (r.2, ())) }
noncomputable def datref04_Reader_Epoch_4b9 : Dat τ := { D := D0, tbl := tblOf [(53, conref04_Reader_Num_4b9), (54, conref04_Reader_Small_4b9), (60, conref04_Reader_Vector_4b9)], lp := lpsOf [(4, lpref04_Reader_Epoch_4b9x4), (9, lpref04_Reader_Epoch_4b9x9)], k0 := 1, mu := [], un := [] }
theorem okref04_Reader_Epoch_4b9 : ConOk E C 23 conref04_Reader_Epoch_4b9 :=
  con_ok (D := datref04_Reader_Epoch_4b9) ⟨d0Ok, eGood, tblOf_ok ⟨okref04_Reader_Num_4b9, ⟨okref04_Reader_Small_4b9, ⟨okref04_Reader_Vector_4b9, trivial⟩⟩⟩, fun _ => rfl⟩ conref04_Reader_Epoch_4b9 (fun a b => (a, b.1)) none (fun _ _ => rfl) rfl (fun _ _ h => nomatch h) 1000000 (fn := Tryz.f23) Tryz.func23 rfl (by kernel_rfl) (by kernel_rfl) rfl (by intro N a b; kernel_rfl)
def Fwire_Reader_Left_d95 (N : Nat) (b0 : Gwire_Writer) : Option (Int × Gwire_Writer) :=
 ((Fwire_Reader_none_d95 N b0).bind fun r1 =>
 (bif r1.1 then
 (some (0, r1.2))
 else
 (some (((r1.2.b).length : Int), r1.2))))
def conwire_Reader_Left_d95 : Con τ := { args := [.ptr 0 []], L := [.box (.ty 99)], ret := .ty 3, L' := [.box (.ty 99)], R := Int × Gwire_Writer, dflt := (default, default), F := fun N a b => Fwire_Reader_Left_d95 N b.1, of := fun r => (r.1, (r.2, ())) }
noncomputable def datwire_Reader_Left_d95 : Dat τ := { D := D0, tbl := tblOf [(63, conwire_Reader_none_d95)], lp := lpsOf [], k0 := 1, mu := [], un := [] }
theorem okwire_Reader_Left_d95 : ConOk E C 25 conwire_Reader_Left_d95 :=
  con_ok (D := datwire_Reader_Left_d95) ⟨d0Ok, eGood, tblOf_ok ⟨okwire_Reader_none_d95, trivial⟩, fun _ => rfl⟩ conwire_Reader_Left_d95 (fun a b => (a, b.1)) none (fun _ _ => rfl) rfl (fun _ _ h => nomatch h) 1000000 (fn := Tryz.f25) Tryz.func25 rfl (by kernel_rfl) (by kernel_rfl) rfl (by intro N a b; kernel_rfl)
def Flaw04_RecordPuts (N : Nat) (op : GOp) (x : GEpoch) (b : List (Int)) : Option (Bool) :=
 ((Fwire_NewWriter N).bind fun r1 =>
 ((Flaw04_begun N).bind fun r2 =>
 (bif ((!r2) && true) then
 (some false)
 else
 ((Frecord_PutOp_66b N op r1.1 r1.2).bind fun r3 =>
 ((Fref04_CheckOp N op).bind fun r4 =>
 (bif (!(r3.1 == r4)) then
 (some false)
 else
 (bif (r3.1 == 0) then
 ((Fref04_OpForm N op).bind fun r5 =>
 (bif (lenB ((r5).length) 1) then
 ((Frecord_PutEpoch_26c N x r3.2.1 r3.2.2).bind fun r6 =>
 ((Fref04_CheckEpoch N x).bind fun r7 =>
 (bif (!(r6.1 == r7)) then
 (some false)
 else
 (bif (r6.1 == 0) then
 ((Fref04_EpochForm N x).bind fun r8 =>
 (bif (lenB ((r5).length + (r8).length) 1) then
 ((Fwire_Writer_Out_052 N r6.2.1 r6.2.2).bind fun r9 =>
 ((Fbytes_Equal N r9.1 (r5 ++ r8)).bind fun r10 =>
 (bif (!r10) then
 (some false)
 else
 ((Fwire_NewReader N b).bind fun r11 =>
 ((Frecord_TakeOp_d95 N r11).bind fun r12 =>
 ((Fref04_Reader_Op_4b9 N (⟨b, 0, 0⟩ : Gorchardref04_Reader)).bind fun r13 =>
 ((Fref04_MayOp N r13.1).bind fun r14 =>
 ((Flaw04_errno_735 N r14 r13.2).bind fun r15 =>
 (bif (!(r12.2.1 == r15.1)) then
 (some false)
 else
 (bif (!(r12.2.1 == 0)) then
 ((Frecord_TakeEpoch_d95 N r12.2.2).bind fun r16 =>
 ((Fref04_Reader_Epoch_4b9 N (⟨b, 0, 0⟩ : Gorchardref04_Reader)).bind fun r17 =>
 ((Fref04_MayEpoch N r17.1).bind fun r18 =>
 ((Flaw04_errno_735 N r18 r17.2).bind fun r19 =>
 (bif (!(r16.2.1 == r19.1)) then
 (some false)
 else
 (bif (!(r16.2.1 == 0)) then
 (bif ((((r12.1.Stamp.Time == 0) && (r12.1.Stamp.Site == 0)) && ((r12.1.Kind == 0) && ((r12.1.Node == 0) && ((r12.1.Parent == 0) && ((r12.1.Name == []) && ((r12.1.Key == []) && (r12.1.Value == []))))))) && ((r16.1.Number == 0) && ((vbeq beq3 r16.1.States (Vector.replicate 8 (default : Int))) && ((vbeq beq2 r16.1.Seals (Vector.replicate 8 (default : Int))) && (vbeq beq3 r16.1.Sponsor (Vector.replicate 8 (default : Int))))))) then
 ((Fwire_Reader_Left_d95 N r16.2.2).bind fun r20 =>
 (some (((((r12.1.Stamp.Time == 0) && (r12.1.Stamp.Site == 0)) && ((r12.1.Kind == 0) && ((r12.1.Node == 0) && ((r12.1.Parent == 0) && ((r12.1.Name == []) && ((r12.1.Key == []) && (r12.1.Value == []))))))) && ((r16.1.Number == 0) && ((vbeq beq3 r16.1.States (Vector.replicate 8 (default : Int))) && ((vbeq beq2 r16.1.Seals (Vector.replicate 8 (default : Int))) && (vbeq beq3 r16.1.Sponsor (Vector.replicate 8 (default : Int))))))) && (r20.1 == (IntKind.i64.wrap (((b).length : Int) - 0))))))
 else
 (some false))
 else
 (bif ((((r12.1.Stamp.Time == 0) && (r12.1.Stamp.Site == 0)) && ((r12.1.Kind == 0) && ((r12.1.Node == 0) && ((r12.1.Parent == 0) && ((r12.1.Name == []) && ((r12.1.Key == []) && (r12.1.Value == []))))))) && ((r16.1.Number == r17.1.Number) && ((vbeq beq3 r16.1.States r17.1.States) && ((vbeq beq2 r16.1.Seals r17.1.Seals) && (vbeq beq3 r16.1.Sponsor r17.1.Sponsor))))) then
 ((Fwire_Reader_Left_d95 N r16.2.2).bind fun r21 =>
 (some (((((r12.1.Stamp.Time == 0) && (r12.1.Stamp.Site == 0)) && ((r12.1.Kind == 0) && ((r12.1.Node == 0) && ((r12.1.Parent == 0) && ((r12.1.Name == []) && ((r12.1.Key == []) && (r12.1.Value == []))))))) && ((r16.1.Number == r17.1.Number) && ((vbeq beq3 r16.1.States r17.1.States) && ((vbeq beq2 r16.1.Seals r17.1.Seals) && (vbeq beq3 r16.1.Sponsor r17.1.Sponsor))))) && (r21.1 == (IntKind.i64.wrap (((b).length : Int) - r19.2.At))))))
 else
 (some false))))))))
 else
 ((Frecord_TakeEpoch_d95 N r12.2.2).bind fun r22 =>
 ((Fref04_Reader_Epoch_4b9 N r15.2).bind fun r23 =>
 ((Fref04_MayEpoch N r23.1).bind fun r24 =>
 ((Flaw04_errno_735 N r24 r23.2).bind fun r25 =>
 (bif (!(r22.2.1 == r25.1)) then
 (some false)
 else
 (bif (!(r22.2.1 == 0)) then
 (bif ((((r12.1.Stamp.Time == r13.1.Stamp.Time) && (r12.1.Stamp.Site == r13.1.Stamp.Site)) && ((r12.1.Kind == r13.1.Kind) && ((r12.1.Node == r13.1.Node) && ((r12.1.Parent == r13.1.Parent) && ((r12.1.Name == r13.1.Name) && ((r12.1.Key == r13.1.Key) && (r12.1.Value == r13.1.Value))))))) && ((r22.1.Number == 0) && ((vbeq beq3 r22.1.States (Vector.replicate 8 (default : Int))) && ((vbeq beq2 r22.1.Seals (Vector.replicate 8 (default : Int))) && (vbeq beq3 r22.1.Sponsor (Vector.replicate 8 (default : Int))))))) then
 ((Fwire_Reader_Left_d95 N r22.2.2).bind fun r26 =>
 (some (((((r12.1.Stamp.Time == r13.1.Stamp.Time) && (r12.1.Stamp.Site == r13.1.Stamp.Site)) && ((r12.1.Kind == r13.1.Kind) && ((r12.1.Node == r13.1.Node) && ((r12.1.Parent == r13.1.Parent) && ((r12.1.Name == r13.1.Name) && ((r12.1.Key == r13.1.Key) && (r12.1.Value == r13.1.Value))))))) && ((r22.1.Number == 0) && ((vbeq beq3 r22.1.States (Vector.replicate 8 (default : Int))) && ((vbeq beq2 r22.1.Seals (Vector.replicate 8 (default : Int))) && (vbeq beq3 r22.1.Sponsor (Vector.replicate 8 (default : Int))))))) && (r26.1 == (IntKind.i64.wrap (((b).length : Int) - r15.2.At))))))
 else
 (some false))
 else
 (bif ((((r12.1.Stamp.Time == r13.1.Stamp.Time) && (r12.1.Stamp.Site == r13.1.Stamp.Site)) && ((r12.1.Kind == r13.1.Kind) && ((r12.1.Node == r13.1.Node) && ((r12.1.Parent == r13.1.Parent) && ((r12.1.Name == r13.1.Name) && ((r12.1.Key == r13.1.Key) && (r12.1.Value == r13.1.Value))))))) && ((r22.1.Number == r23.1.Number) && ((vbeq beq3 r22.1.States r23.1.States) && ((vbeq beq2 r22.1.Seals r23.1.Seals) && (vbeq beq3 r22.1.Sponsor r23.1.Sponsor))))) then
 ((Fwire_Reader_Left_d95 N r22.2.2).bind fun r27 =>
 (some (((((r12.1.Stamp.Time == r13.1.Stamp.Time) && (r12.1.Stamp.Site == r13.1.Stamp.Site)) && ((r12.1.Kind == r13.1.Kind) && ((r12.1.Node == r13.1.Node) && ((r12.1.Parent == r13.1.Parent) && ((r12.1.Name == r13.1.Name) && ((r12.1.Key == r13.1.Key) && (r12.1.Value == r13.1.Value))))))) && ((r22.1.Number == r23.1.Number) && ((vbeq beq3 r22.1.States r23.1.States) && ((vbeq beq2 r22.1.Seals r23.1.Seals) && (vbeq beq3 r22.1.Sponsor r23.1.Sponsor))))) && (r27.1 == (IntKind.i64.wrap (((b).length : Int) - r25.2.At))))))
 else
 (some false))))))))))))))))))
 else none))
 else
 ((Fwire_Writer_Out_052 N r6.2.1 r6.2.2).bind fun r28 =>
 ((Fbytes_Equal N r28.1 r5).bind fun r29 =>
 (bif (!r29) then
 (some false)
 else
 ((Fwire_NewReader N b).bind fun r30 =>
 ((Frecord_TakeOp_d95 N r30).bind fun r31 =>
 ((Fref04_Reader_Op_4b9 N (⟨b, 0, 0⟩ : Gorchardref04_Reader)).bind fun r32 =>
 ((Fref04_MayOp N r32.1).bind fun r33 =>
 ((Flaw04_errno_735 N r33 r32.2).bind fun r34 =>
 (bif (!(r31.2.1 == r34.1)) then
 (some false)
 else
 (bif (!(r31.2.1 == 0)) then
 ((Frecord_TakeEpoch_d95 N r31.2.2).bind fun r35 =>
 ((Fref04_Reader_Epoch_4b9 N (⟨b, 0, 0⟩ : Gorchardref04_Reader)).bind fun r36 =>
 ((Fref04_MayEpoch N r36.1).bind fun r37 =>
 ((Flaw04_errno_735 N r37 r36.2).bind fun r38 =>
 (bif (!(r35.2.1 == r38.1)) then
 (some false)
 else
 (bif (!(r35.2.1 == 0)) then
 (bif ((((r31.1.Stamp.Time == 0) && (r31.1.Stamp.Site == 0)) && ((r31.1.Kind == 0) && ((r31.1.Node == 0) && ((r31.1.Parent == 0) && ((r31.1.Name == []) && ((r31.1.Key == []) && (r31.1.Value == []))))))) && ((r35.1.Number == 0) && ((vbeq beq3 r35.1.States (Vector.replicate 8 (default : Int))) && ((vbeq beq2 r35.1.Seals (Vector.replicate 8 (default : Int))) && (vbeq beq3 r35.1.Sponsor (Vector.replicate 8 (default : Int))))))) then
 ((Fwire_Reader_Left_d95 N r35.2.2).bind fun r39 =>
 (some (((((r31.1.Stamp.Time == 0) && (r31.1.Stamp.Site == 0)) && ((r31.1.Kind == 0) && ((r31.1.Node == 0) && ((r31.1.Parent == 0) && ((r31.1.Name == []) && ((r31.1.Key == []) && (r31.1.Value == []))))))) && ((r35.1.Number == 0) && ((vbeq beq3 r35.1.States (Vector.replicate 8 (default : Int))) && ((vbeq beq2 r35.1.Seals (Vector.replicate 8 (default : Int))) && (vbeq beq3 r35.1.Sponsor (Vector.replicate 8 (default : Int))))))) && (r39.1 == (IntKind.i64.wrap (((b).length : Int) - 0))))))
 else
 (some false))
 else
 (bif ((((r31.1.Stamp.Time == 0) && (r31.1.Stamp.Site == 0)) && ((r31.1.Kind == 0) && ((r31.1.Node == 0) && ((r31.1.Parent == 0) && ((r31.1.Name == []) && ((r31.1.Key == []) && (r31.1.Value == []))))))) && ((r35.1.Number == r36.1.Number) && ((vbeq beq3 r35.1.States r36.1.States) && ((vbeq beq2 r35.1.Seals r36.1.Seals) && (vbeq beq3 r35.1.Sponsor r36.1.Sponsor))))) then
 ((Fwire_Reader_Left_d95 N r35.2.2).bind fun r40 =>
 (some (((((r31.1.Stamp.Time == 0) && (r31.1.Stamp.Site == 0)) && ((r31.1.Kind == 0) && ((r31.1.Node == 0) && ((r31.1.Parent == 0) && ((r31.1.Name == []) && ((r31.1.Key == []) && (r31.1.Value == []))))))) && ((r35.1.Number == r36.1.Number) && ((vbeq beq3 r35.1.States r36.1.States) && ((vbeq beq2 r35.1.Seals r36.1.Seals) && (vbeq beq3 r35.1.Sponsor r36.1.Sponsor))))) && (r40.1 == (IntKind.i64.wrap (((b).length : Int) - r38.2.At))))))
 else
 (some false))))))))
 else
 ((Frecord_TakeEpoch_d95 N r31.2.2).bind fun r41 =>
 ((Fref04_Reader_Epoch_4b9 N r34.2).bind fun r42 =>
 ((Fref04_MayEpoch N r42.1).bind fun r43 =>
 ((Flaw04_errno_735 N r43 r42.2).bind fun r44 =>
 (bif (!(r41.2.1 == r44.1)) then
 (some false)
 else
 (bif (!(r41.2.1 == 0)) then
 (bif ((((r31.1.Stamp.Time == r32.1.Stamp.Time) && (r31.1.Stamp.Site == r32.1.Stamp.Site)) && ((r31.1.Kind == r32.1.Kind) && ((r31.1.Node == r32.1.Node) && ((r31.1.Parent == r32.1.Parent) && ((r31.1.Name == r32.1.Name) && ((r31.1.Key == r32.1.Key) && (r31.1.Value == r32.1.Value))))))) && ((r41.1.Number == 0) && ((vbeq beq3 r41.1.States (Vector.replicate 8 (default : Int))) && ((vbeq beq2 r41.1.Seals (Vector.replicate 8 (default : Int))) && (vbeq beq3 r41.1.Sponsor (Vector.replicate 8 (default : Int))))))) then
 ((Fwire_Reader_Left_d95 N r41.2.2).bind fun r45 =>
 (some (((((r31.1.Stamp.Time == r32.1.Stamp.Time) && (r31.1.Stamp.Site == r32.1.Stamp.Site)) && ((r31.1.Kind == r32.1.Kind) && ((r31.1.Node == r32.1.Node) && ((r31.1.Parent == r32.1.Parent) && ((r31.1.Name == r32.1.Name) && ((r31.1.Key == r32.1.Key) && (r31.1.Value == r32.1.Value))))))) && ((r41.1.Number == 0) && ((vbeq beq3 r41.1.States (Vector.replicate 8 (default : Int))) && ((vbeq beq2 r41.1.Seals (Vector.replicate 8 (default : Int))) && (vbeq beq3 r41.1.Sponsor (Vector.replicate 8 (default : Int))))))) && (r45.1 == (IntKind.i64.wrap (((b).length : Int) - r34.2.At))))))
 else
 (some false))
 else
 (bif ((((r31.1.Stamp.Time == r32.1.Stamp.Time) && (r31.1.Stamp.Site == r32.1.Stamp.Site)) && ((r31.1.Kind == r32.1.Kind) && ((r31.1.Node == r32.1.Node) && ((r31.1.Parent == r32.1.Parent) && ((r31.1.Name == r32.1.Name) && ((r31.1.Key == r32.1.Key) && (r31.1.Value == r32.1.Value))))))) && ((r41.1.Number == r42.1.Number) && ((vbeq beq3 r41.1.States r42.1.States) && ((vbeq beq2 r41.1.Seals r42.1.Seals) && (vbeq beq3 r41.1.Sponsor r42.1.Sponsor))))) then
 ((Fwire_Reader_Left_d95 N r41.2.2).bind fun r46 =>
 (some (((((r31.1.Stamp.Time == r32.1.Stamp.Time) && (r31.1.Stamp.Site == r32.1.Stamp.Site)) && ((r31.1.Kind == r32.1.Kind) && ((r31.1.Node == r32.1.Node) && ((r31.1.Parent == r32.1.Parent) && ((r31.1.Name == r32.1.Name) && ((r31.1.Key == r32.1.Key) && (r31.1.Value == r32.1.Value))))))) && ((r41.1.Number == r42.1.Number) && ((vbeq beq3 r41.1.States r42.1.States) && ((vbeq beq2 r41.1.Seals r42.1.Seals) && (vbeq beq3 r41.1.Sponsor r42.1.Sponsor))))) && (r46.1 == (IntKind.i64.wrap (((b).length : Int) - r44.2.At))))))
 else
 (some false))))))))))))))))))))))
 else none))
 else
 ((Frecord_PutEpoch_26c N x r3.2.1 r3.2.2).bind fun r47 =>
 ((Fref04_CheckEpoch N x).bind fun r48 =>
 (bif (!(r47.1 == r48)) then
 (some false)
 else
 (bif (r47.1 == 0) then
 ((Fref04_EpochForm N x).bind fun r49 =>
 (bif (lenB ((r49).length) 1) then
 ((Fwire_Writer_Out_052 N r47.2.1 r47.2.2).bind fun r50 =>
 ((Fbytes_Equal N r50.1 r49).bind fun r51 =>
 (bif (!r51) then
 (some false)
 else
 ((Fwire_NewReader N b).bind fun r52 =>
 ((Frecord_TakeOp_d95 N r52).bind fun r53 =>
 ((Fref04_Reader_Op_4b9 N (⟨b, 0, 0⟩ : Gorchardref04_Reader)).bind fun r54 =>
 ((Fref04_MayOp N r54.1).bind fun r55 =>
 ((Flaw04_errno_735 N r55 r54.2).bind fun r56 =>
 (bif (!(r53.2.1 == r56.1)) then
 (some false)
 else
 (bif (!(r53.2.1 == 0)) then
 ((Frecord_TakeEpoch_d95 N r53.2.2).bind fun r57 =>
 ((Fref04_Reader_Epoch_4b9 N (⟨b, 0, 0⟩ : Gorchardref04_Reader)).bind fun r58 =>
 ((Fref04_MayEpoch N r58.1).bind fun r59 =>
 ((Flaw04_errno_735 N r59 r58.2).bind fun r60 =>
 (bif (!(r57.2.1 == r60.1)) then
 (some false)
 else
 (bif (!(r57.2.1 == 0)) then
 (bif ((((r53.1.Stamp.Time == 0) && (r53.1.Stamp.Site == 0)) && ((r53.1.Kind == 0) && ((r53.1.Node == 0) && ((r53.1.Parent == 0) && ((r53.1.Name == []) && ((r53.1.Key == []) && (r53.1.Value == []))))))) && ((r57.1.Number == 0) && ((vbeq beq3 r57.1.States (Vector.replicate 8 (default : Int))) && ((vbeq beq2 r57.1.Seals (Vector.replicate 8 (default : Int))) && (vbeq beq3 r57.1.Sponsor (Vector.replicate 8 (default : Int))))))) then
 ((Fwire_Reader_Left_d95 N r57.2.2).bind fun r61 =>
 (some (((((r53.1.Stamp.Time == 0) && (r53.1.Stamp.Site == 0)) && ((r53.1.Kind == 0) && ((r53.1.Node == 0) && ((r53.1.Parent == 0) && ((r53.1.Name == []) && ((r53.1.Key == []) && (r53.1.Value == []))))))) && ((r57.1.Number == 0) && ((vbeq beq3 r57.1.States (Vector.replicate 8 (default : Int))) && ((vbeq beq2 r57.1.Seals (Vector.replicate 8 (default : Int))) && (vbeq beq3 r57.1.Sponsor (Vector.replicate 8 (default : Int))))))) && (r61.1 == (IntKind.i64.wrap (((b).length : Int) - 0))))))
 else
 (some false))
 else
 (bif ((((r53.1.Stamp.Time == 0) && (r53.1.Stamp.Site == 0)) && ((r53.1.Kind == 0) && ((r53.1.Node == 0) && ((r53.1.Parent == 0) && ((r53.1.Name == []) && ((r53.1.Key == []) && (r53.1.Value == []))))))) && ((r57.1.Number == r58.1.Number) && ((vbeq beq3 r57.1.States r58.1.States) && ((vbeq beq2 r57.1.Seals r58.1.Seals) && (vbeq beq3 r57.1.Sponsor r58.1.Sponsor))))) then
 ((Fwire_Reader_Left_d95 N r57.2.2).bind fun r62 =>
 (some (((((r53.1.Stamp.Time == 0) && (r53.1.Stamp.Site == 0)) && ((r53.1.Kind == 0) && ((r53.1.Node == 0) && ((r53.1.Parent == 0) && ((r53.1.Name == []) && ((r53.1.Key == []) && (r53.1.Value == []))))))) && ((r57.1.Number == r58.1.Number) && ((vbeq beq3 r57.1.States r58.1.States) && ((vbeq beq2 r57.1.Seals r58.1.Seals) && (vbeq beq3 r57.1.Sponsor r58.1.Sponsor))))) && (r62.1 == (IntKind.i64.wrap (((b).length : Int) - r60.2.At))))))
 else
 (some false))))))))
 else
 ((Frecord_TakeEpoch_d95 N r53.2.2).bind fun r63 =>
 ((Fref04_Reader_Epoch_4b9 N r56.2).bind fun r64 =>
 ((Fref04_MayEpoch N r64.1).bind fun r65 =>
 ((Flaw04_errno_735 N r65 r64.2).bind fun r66 =>
 (bif (!(r63.2.1 == r66.1)) then
 (some false)
 else
 (bif (!(r63.2.1 == 0)) then
 (bif ((((r53.1.Stamp.Time == r54.1.Stamp.Time) && (r53.1.Stamp.Site == r54.1.Stamp.Site)) && ((r53.1.Kind == r54.1.Kind) && ((r53.1.Node == r54.1.Node) && ((r53.1.Parent == r54.1.Parent) && ((r53.1.Name == r54.1.Name) && ((r53.1.Key == r54.1.Key) && (r53.1.Value == r54.1.Value))))))) && ((r63.1.Number == 0) && ((vbeq beq3 r63.1.States (Vector.replicate 8 (default : Int))) && ((vbeq beq2 r63.1.Seals (Vector.replicate 8 (default : Int))) && (vbeq beq3 r63.1.Sponsor (Vector.replicate 8 (default : Int))))))) then
 ((Fwire_Reader_Left_d95 N r63.2.2).bind fun r67 =>
 (some (((((r53.1.Stamp.Time == r54.1.Stamp.Time) && (r53.1.Stamp.Site == r54.1.Stamp.Site)) && ((r53.1.Kind == r54.1.Kind) && ((r53.1.Node == r54.1.Node) && ((r53.1.Parent == r54.1.Parent) && ((r53.1.Name == r54.1.Name) && ((r53.1.Key == r54.1.Key) && (r53.1.Value == r54.1.Value))))))) && ((r63.1.Number == 0) && ((vbeq beq3 r63.1.States (Vector.replicate 8 (default : Int))) && ((vbeq beq2 r63.1.Seals (Vector.replicate 8 (default : Int))) && (vbeq beq3 r63.1.Sponsor (Vector.replicate 8 (default : Int))))))) && (r67.1 == (IntKind.i64.wrap (((b).length : Int) - r56.2.At))))))
 else
 (some false))
 else
 (bif ((((r53.1.Stamp.Time == r54.1.Stamp.Time) && (r53.1.Stamp.Site == r54.1.Stamp.Site)) && ((r53.1.Kind == r54.1.Kind) && ((r53.1.Node == r54.1.Node) && ((r53.1.Parent == r54.1.Parent) && ((r53.1.Name == r54.1.Name) && ((r53.1.Key == r54.1.Key) && (r53.1.Value == r54.1.Value))))))) && ((r63.1.Number == r64.1.Number) && ((vbeq beq3 r63.1.States r64.1.States) && ((vbeq beq2 r63.1.Seals r64.1.Seals) && (vbeq beq3 r63.1.Sponsor r64.1.Sponsor))))) then
 ((Fwire_Reader_Left_d95 N r63.2.2).bind fun r68 =>
 (some (((((r53.1.Stamp.Time == r54.1.Stamp.Time) && (r53.1.Stamp.Site == r54.1.Stamp.Site)) && ((r53.1.Kind == r54.1.Kind) && ((r53.1.Node == r54.1.Node) && ((r53.1.Parent == r54.1.Parent) && ((r53.1.Name == r54.1.Name) && ((r53.1.Key == r54.1.Key) && (r53.1.Value == r54.1.Value))))))) && ((r63.1.Number == r64.1.Number) && ((vbeq beq3 r63.1.States r64.1.States) && ((vbeq beq2 r63.1.Seals r64.1.Seals) && (vbeq beq3 r63.1.Sponsor r64.1.Sponsor))))) && (r68.1 == (IntKind.i64.wrap (((b).length : Int) - r66.2.At))))))
 else
 (some false))))))))))))))))))
 else none))
 else
 ((Fwire_Writer_Out_052 N r47.2.1 r47.2.2).bind fun r69 =>
 ((Fbytes_Equal N r69.1 []).bind fun r70 =>
 (bif (!r70) then
 (some false)
 else
 ((Fwire_NewReader N b).bind fun r71 =>
 ((Frecord_TakeOp_d95 N r71).bind fun r72 =>
 ((Fref04_Reader_Op_4b9 N (⟨b, 0, 0⟩ : Gorchardref04_Reader)).bind fun r73 =>
 ((Fref04_MayOp N r73.1).bind fun r74 =>
 ((Flaw04_errno_735 N r74 r73.2).bind fun r75 =>
 (bif (!(r72.2.1 == r75.1)) then
 (some false)
 else
 (bif (!(r72.2.1 == 0)) then
 ((Frecord_TakeEpoch_d95 N r72.2.2).bind fun r76 =>
 ((Fref04_Reader_Epoch_4b9 N (⟨b, 0, 0⟩ : Gorchardref04_Reader)).bind fun r77 =>
 ((Fref04_MayEpoch N r77.1).bind fun r78 =>
 ((Flaw04_errno_735 N r78 r77.2).bind fun r79 =>
 (bif (!(r76.2.1 == r79.1)) then
 (some false)
 else
 (bif (!(r76.2.1 == 0)) then
 (bif ((((r72.1.Stamp.Time == 0) && (r72.1.Stamp.Site == 0)) && ((r72.1.Kind == 0) && ((r72.1.Node == 0) && ((r72.1.Parent == 0) && ((r72.1.Name == []) && ((r72.1.Key == []) && (r72.1.Value == []))))))) && ((r76.1.Number == 0) && ((vbeq beq3 r76.1.States (Vector.replicate 8 (default : Int))) && ((vbeq beq2 r76.1.Seals (Vector.replicate 8 (default : Int))) && (vbeq beq3 r76.1.Sponsor (Vector.replicate 8 (default : Int))))))) then
 ((Fwire_Reader_Left_d95 N r76.2.2).bind fun r80 =>
 (some (((((r72.1.Stamp.Time == 0) && (r72.1.Stamp.Site == 0)) && ((r72.1.Kind == 0) && ((r72.1.Node == 0) && ((r72.1.Parent == 0) && ((r72.1.Name == []) && ((r72.1.Key == []) && (r72.1.Value == []))))))) && ((r76.1.Number == 0) && ((vbeq beq3 r76.1.States (Vector.replicate 8 (default : Int))) && ((vbeq beq2 r76.1.Seals (Vector.replicate 8 (default : Int))) && (vbeq beq3 r76.1.Sponsor (Vector.replicate 8 (default : Int))))))) && (r80.1 == (IntKind.i64.wrap (((b).length : Int) - 0))))))
 else
 (some false))
 else
 (bif ((((r72.1.Stamp.Time == 0) && (r72.1.Stamp.Site == 0)) && ((r72.1.Kind == 0) && ((r72.1.Node == 0) && ((r72.1.Parent == 0) && ((r72.1.Name == []) && ((r72.1.Key == []) && (r72.1.Value == []))))))) && ((r76.1.Number == r77.1.Number) && ((vbeq beq3 r76.1.States r77.1.States) && ((vbeq beq2 r76.1.Seals r77.1.Seals) && (vbeq beq3 r76.1.Sponsor r77.1.Sponsor))))) then
 ((Fwire_Reader_Left_d95 N r76.2.2).bind fun r81 =>
 (some (((((r72.1.Stamp.Time == 0) && (r72.1.Stamp.Site == 0)) && ((r72.1.Kind == 0) && ((r72.1.Node == 0) && ((r72.1.Parent == 0) && ((r72.1.Name == []) && ((r72.1.Key == []) && (r72.1.Value == []))))))) && ((r76.1.Number == r77.1.Number) && ((vbeq beq3 r76.1.States r77.1.States) && ((vbeq beq2 r76.1.Seals r77.1.Seals) && (vbeq beq3 r76.1.Sponsor r77.1.Sponsor))))) && (r81.1 == (IntKind.i64.wrap (((b).length : Int) - r79.2.At))))))
 else
 (some false))))))))
 else
 ((Frecord_TakeEpoch_d95 N r72.2.2).bind fun r82 =>
 ((Fref04_Reader_Epoch_4b9 N r75.2).bind fun r83 =>
 ((Fref04_MayEpoch N r83.1).bind fun r84 =>
 ((Flaw04_errno_735 N r84 r83.2).bind fun r85 =>
 (bif (!(r82.2.1 == r85.1)) then
 (some false)
 else
 (bif (!(r82.2.1 == 0)) then
 (bif ((((r72.1.Stamp.Time == r73.1.Stamp.Time) && (r72.1.Stamp.Site == r73.1.Stamp.Site)) && ((r72.1.Kind == r73.1.Kind) && ((r72.1.Node == r73.1.Node) && ((r72.1.Parent == r73.1.Parent) && ((r72.1.Name == r73.1.Name) && ((r72.1.Key == r73.1.Key) && (r72.1.Value == r73.1.Value))))))) && ((r82.1.Number == 0) && ((vbeq beq3 r82.1.States (Vector.replicate 8 (default : Int))) && ((vbeq beq2 r82.1.Seals (Vector.replicate 8 (default : Int))) && (vbeq beq3 r82.1.Sponsor (Vector.replicate 8 (default : Int))))))) then
 ((Fwire_Reader_Left_d95 N r82.2.2).bind fun r86 =>
 (some (((((r72.1.Stamp.Time == r73.1.Stamp.Time) && (r72.1.Stamp.Site == r73.1.Stamp.Site)) && ((r72.1.Kind == r73.1.Kind) && ((r72.1.Node == r73.1.Node) && ((r72.1.Parent == r73.1.Parent) && ((r72.1.Name == r73.1.Name) && ((r72.1.Key == r73.1.Key) && (r72.1.Value == r73.1.Value))))))) && ((r82.1.Number == 0) && ((vbeq beq3 r82.1.States (Vector.replicate 8 (default : Int))) && ((vbeq beq2 r82.1.Seals (Vector.replicate 8 (default : Int))) && (vbeq beq3 r82.1.Sponsor (Vector.replicate 8 (default : Int))))))) && (r86.1 == (IntKind.i64.wrap (((b).length : Int) - r75.2.At))))))
 else
 (some false))
 else
 (bif ((((r72.1.Stamp.Time == r73.1.Stamp.Time) && (r72.1.Stamp.Site == r73.1.Stamp.Site)) && ((r72.1.Kind == r73.1.Kind) && ((r72.1.Node == r73.1.Node) && ((r72.1.Parent == r73.1.Parent) && ((r72.1.Name == r73.1.Name) && ((r72.1.Key == r73.1.Key) && (r72.1.Value == r73.1.Value))))))) && ((r82.1.Number == r83.1.Number) && ((vbeq beq3 r82.1.States r83.1.States) && ((vbeq beq2 r82.1.Seals r83.1.Seals) && (vbeq beq3 r82.1.Sponsor r83.1.Sponsor))))) then
 ((Fwire_Reader_Left_d95 N r82.2.2).bind fun r87 =>
 (some (((((r72.1.Stamp.Time == r73.1.Stamp.Time) && (r72.1.Stamp.Site == r73.1.Stamp.Site)) && ((r72.1.Kind == r73.1.Kind) && ((r72.1.Node == r73.1.Node) && ((r72.1.Parent == r73.1.Parent) && ((r72.1.Name == r73.1.Name) && ((r72.1.Key == r73.1.Key) && (r72.1.Value == r73.1.Value))))))) && ((r82.1.Number == r83.1.Number) && ((vbeq beq3 r82.1.States r83.1.States) && ((vbeq beq2 r82.1.Seals r83.1.Seals) && (vbeq beq3 r82.1.Sponsor r83.1.Sponsor))))) && (r87.1 == (IntKind.i64.wrap (((b).length : Int) - r85.2.At))))))
 else
 (some false)))))))))))))))))))))))))))))
def conlaw04_RecordPuts : Con τ := { args := [.ty 25, .ty 30, .ty 31], L := [], ret := .ty 4, L' := [], R := Bool, dflt := default, F := fun N a b => Flaw04_RecordPuts N a.1 a.2.1 a.2.2.1, of := fun r => (r, ()) }
noncomputable def datlaw04_RecordPuts : Dat τ := { D := D0, tbl := tblOf [(7, conwire_NewWriter), (8, conlaw04_begun), (9, conrecord_PutOp_66b), (10, conref04_CheckOp), (11, conref04_OpForm), (12, conrecord_PutEpoch_26c), (13, conref04_CheckEpoch), (14, conref04_EpochForm), (16, conwire_Writer_Out_052), (15, conbytes_Equal), (17, conwire_NewReader), (18, conrecord_TakeOp_d95), (19, conref04_Reader_Op_4b9), (21, conref04_MayOp), (20, conlaw04_errno_735), (22, conrecord_TakeEpoch_d95), (23, conref04_Reader_Epoch_4b9), (24, conref04_MayEpoch), (25, conwire_Reader_Left_d95)], lp := lpsOf [], k0 := 0, mu := [], un := [] }
theorem oklaw04_RecordPuts : ConOk E C 3 conlaw04_RecordPuts :=
  con_ok (D := datlaw04_RecordPuts) ⟨d0Ok, eGood, tblOf_ok ⟨okwire_NewWriter, ⟨oklaw04_begun, ⟨okrecord_PutOp_66b, ⟨okref04_CheckOp, ⟨okref04_OpForm, ⟨okrecord_PutEpoch_26c, ⟨okref04_CheckEpoch, ⟨okref04_EpochForm, ⟨okwire_Writer_Out_052, ⟨okbytes_Equal, ⟨okwire_NewReader, ⟨okrecord_TakeOp_d95, ⟨okref04_Reader_Op_4b9, ⟨okref04_MayOp, ⟨oklaw04_errno_735, ⟨okrecord_TakeEpoch_d95, ⟨okref04_Reader_Epoch_4b9, ⟨okref04_MayEpoch, ⟨okwire_Reader_Left_d95, trivial⟩⟩⟩⟩⟩⟩⟩⟩⟩⟩⟩⟩⟩⟩⟩⟩⟩⟩⟩, fun _ => rfl⟩ conlaw04_RecordPuts (fun a b => a) none (fun _ _ => rfl) rfl (fun _ _ h => nomatch h) 1000000 (fn := Tryz.f3) Tryz.func3 rfl (by kernel_rfl) (by kernel_rfl) rfl (by intro N a b; kernel_rfl)
end Go.Proofs.YteinehkdjkobnaaGreat
