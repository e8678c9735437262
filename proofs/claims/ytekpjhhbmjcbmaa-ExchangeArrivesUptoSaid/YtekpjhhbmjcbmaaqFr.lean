/-
The functions of this seat, as plain functions over typed data, each with its contract. Printed by wip/tools/fngen.py.
-/
import Derived.Test.YtekpjhhbmjcbmaaqCod
import Derived.Test.YtekpjhhbmjcbmaaqTvX
import Derived.KernelRfl
set_option linter.unusedVariables false
set_option maxRecDepth 100000
namespace Go.Proofs.Ytekpjhhbmjcbmaa
open Go Go.Ev
def Fexchange_peers (N : Nat) (s : GSnap) : Option (GSnap) :=
 (some s)
def conexchange_peers : Con τ := { args := [.ty 34], L := [], ret := .fn 65 [.ptr 0 []], L' := [.box (.ty 34)], R := GSnap, dflt := default, F := fun N a b => Fexchange_peers N a.1, of := fun r => (((), ()), (r, ())) }
noncomputable def datexchange_peers : Dat τ := { D := D0, tbl := tblOf [], lp := lpsOf [], k0 := 0, mu := [], un := [] }
theorem okexchange_peers : ConOk E C 39 conexchange_peers :=
  con_ok (D := datexchange_peers) ⟨d0Ok, eGood, tblOf_ok trivial, fun _ => rfl⟩ conexchange_peers (fun a b => b.1) none (fun _ _ => rfl) rfl (fun _ _ h => nomatch h) 1000000 (fn := Try.f39) Try.func39 rfl (by kernel_rfl) (by kernel_rfl) rfl (by intro N a b; kernel_rfl)
def Fexchange_site (N : Nat) (n : Int) : Option (Bool) :=
 (some ((decide (0 ≤ n)) && (decide (n < 8))))
def conexchange_site : Con τ := { args := [.ty 3], L := [], ret := .ty 4, L' := [], R := Bool, dflt := default, F := fun N a b => Fexchange_site N a.1, of := fun r => (r, ()) }
noncomputable def datexchange_site : Dat τ := { D := D0, tbl := tblOf [], lp := lpsOf [], k0 := 0, mu := [], un := [] }
theorem okexchange_site : ConOk E C 33 conexchange_site :=
  con_ok (D := datexchange_site) ⟨d0Ok, eGood, tblOf_ok trivial, fun _ => rfl⟩ conexchange_site (fun a b => a) none (fun _ _ => rfl) rfl (fun _ _ h => nomatch h) 1000000 (fn := Try.f33) Try.func33 rfl (by kernel_rfl) (by kernel_rfl) rfl (by intro N a b; kernel_rfl)
def Fexchange_member (N : Nat) (s : GSnap) (i : Int) : Option (Bool) :=
 ((Fexchange_site N i).bind fun r1 =>
 (bif (!r1 || (ibB i 8)) then
 (bif (!(r1 && (!((vget s.Epoch.States ((i).toNat) default) == 1))) || (ibB i 8)) then
 (some (r1 && (((vget s.Epoch.States ((i).toNat) default) == 1) || ((vget s.Epoch.States ((i).toNat) default) == 2))))
 else none)
 else none))
def conexchange_member : Con τ := { args := [.ty 34, .ty 3], L := [], ret := .ty 4, L' := [], R := Bool, dflt := default, F := fun N a b => Fexchange_member N a.1 a.2.1, of := fun r => (r, ()) }
noncomputable def datexchange_member : Dat τ := { D := D0, tbl := tblOf [(33, conexchange_site)], lp := lpsOf [], k0 := 0, mu := [], un := [] }
theorem okexchange_member : ConOk E C 52 conexchange_member :=
  con_ok (D := datexchange_member) ⟨d0Ok, eGood, tblOf_ok ⟨okexchange_site, trivial⟩, fun _ => rfl⟩ conexchange_member (fun a b => a) none (fun _ _ => rfl) rfl (fun _ _ h => nomatch h) 1000000 (fn := Try.f52) Try.func52 rfl (by kernel_rfl) (by kernel_rfl) rfl (by intro N a b; kernel_rfl)
def Fexchange_Peers_3e4 (N : Nat) (x : Int) (s : GSnap) (x2 : GSnap) (b1 : List (Int)) : Option (GSnap × GSnap × (List (Int))) :=
 (bif (lenB ((b1).length + ([x]).length) 8) then
 (some (s, x2, (b1 ++ [x])))
 else none)
def eLexchange_Peers_3e4 : List ESh := [.rcd 17 4 [.ty 33, .junk, .junk, .ptr 1 [], .junk, .ty 33, .junk, .junk, .junk, .junk, .junk, .junk, .junk], .box (.own 3 2), .tail]
def eMexchange_Peers_3e4 : List ESh := [.rcd 17 4 [.ty 33, .junk, .junk, .ptr 1 [], .junk, .ty 33, .junk, .junk, .junk, .junk, .junk, .junk, .junk], .box (.own 3 3), .dead, .tail]
def conexchange_Peers_3e4 : Con τ := { args := [.yld 0, .ty 2], L := eLexchange_Peers_3e4, ret := .bo true, L' := eMexchange_Peers_3e4, R := GSnap × GSnap × (List (Int)), dflt := (default, default, default), F := fun N a b => Fexchange_Peers_3e4 N a.2.1 b.1.1 b.1.2.2.2.2.2.1 b.2.1, of := fun r => ((), ((r.1, (), (), (), (), r.2.1, (), (), (), (), (), (), (), ()), r.2.2, (), (), ())) }
noncomputable def datexchange_Peers_3e4 : Dat τ := { D := D0, tbl := tblOf [], lp := lpsOf [], k0 := 3, mu := [], un := [], fid := 17 }
theorem okexchange_Peers_3e4 : ConOk E C yieldF conexchange_Peers_3e4 :=
  con_round (D := datexchange_Peers_3e4) ⟨d0Ok, eGood, tblOf_ok trivial, fun _ => rfl⟩ (f := 17) (k := 4) (ps := [7]) (by kernel_rfl) rfl (fun a b => (b.1.1, b.1.2.2.2.2.2.1, b.2.1)) none (fun _ _ => rfl) rfl (fun _ _ h => nomatch h) 1000000 (by kernel_rfl) (by kernel_rfl) (by kernel_rfl) (by kernel_rfl) rfl (by intro l N a b; kernel_rfl)
structure Sexchange_peers_1_dfax1 where
  t4 : Int
  z0 : GSnap
  z02 : GSnap
  b2 : List (Int)
def tsexchange_peers_1_dfax1 : List Sl := [.k, .k, .k, .j, .sh (.ty 2), .j, .j, .j, .j, .j, .j, .j, .j, .j, .j, .j, .j, .j, .j, .j, .j, .j, .j]
def hsexchange_peers_1_dfax1 : List ESh := [.rcd 17 4 [.ty 33, .junk, .junk, .ptr 2 [], .junk, .ty 33, .junk, .junk, .junk, .junk, .junk, .junk, .junk], .keep, .box (.own 3 3), .tail]
def toexchange_peers_1_dfax1 (a : Sl.Ts τ tsexchange_peers_1_dfax1) (b : ESh.Ts τ hsexchange_peers_1_dfax1) : Sexchange_peers_1_dfax1 := ⟨a.2.2.2.2.1, b.1.1, b.1.2.2.2.2.2.1, b.2.2.1⟩
def otexchange_peers_1_dfax1 (s : Sexchange_peers_1_dfax1) : Sl.Ts τ tsexchange_peers_1_dfax1 := ((), (), (), (), s.t4, (), (), (), (), (), (), (), (), (), (), (), (), (), (), (), (), (), (), ())
def ohexchange_peers_1_dfax1 (s : Sexchange_peers_1_dfax1) : ESh.Ts τ hsexchange_peers_1_dfax1 := ((s.z0, (), (), (), (), s.z02, (), (), (), (), (), (), (), ()), (), s.b2, (), ())
def lpexchange_peers_1_dfax1 : Lp τ := { ts := tsexchange_peers_1_dfax1, hs := hsexchange_peers_1_dfax1, S := Sexchange_peers_1_dfax1, to := toexchange_peers_1_dfax1, ot := otexchange_peers_1_dfax1, oh := ohexchange_peers_1_dfax1, hk := [6, 2, 2], tk := [0, 3], ot_to := fun _ _ => rfl, oh_to := fun _ _ => rfl }
def Fexchange_peers_1_dfa (N : Nat) (z0 : GSnap) (z02 : GSnap) (b1 : GSnap) : Option (GSnap × GSnap × GSnap × (List (Int))) :=
 (iter N (fun (s1 : Sexchange_peers_1_dfax1) next2 =>
 (bif (decide (s1.t4 < 8)) then
 ((bif (!(s1.t4 == b1.Site)) then Fexchange_member N b1 s1.t4 else some default).bind fun r3 =>
 (bif ((!(s1.t4 == b1.Site)) && r3) then
 ((Fexchange_Peers_3e4 N s1.t4 s1.z0 s1.z02 s1.b2).bind fun r4 =>
 (bif (((!(s1.t4 == b1.Site)) && r3) && false) then
 (some (r4.1, r4.2.1, b1, r4.2.2))
 else
 (next2 ⟨(IntKind.i64.wrap (s1.t4 + 1)), r4.1, r4.2.1, r4.2.2⟩)))
 else
 (next2 ⟨(IntKind.i64.wrap (s1.t4 + 1)), s1.z0, s1.z02, s1.b2⟩)))
 else
 (some (s1.z0, s1.z02, b1, s1.b2)))) ⟨0, z0, z02, []⟩)
def eLexchange_peers_1_dfa : List ESh := [.rcd 17 4 [.ty 33, .junk, .junk, .ptr 2 [], .junk, .ty 33, .junk, .junk, .junk, .junk, .junk, .junk, .junk], .box (.ty 34), .box (.nil .slice)]
def eMexchange_peers_1_dfa : List ESh := [.rcd 17 4 [.ty 33, .junk, .junk, .ptr 2 [], .junk, .ty 33, .junk, .junk, .junk, .junk, .junk, .junk, .junk], .box (.ty 34), .box (.own 3 3), .tail]
def conexchange_peers_1_dfa : Con τ := { args := [.yld 0, .ptr 1 []], L := eLexchange_peers_1_dfa, ret := .tup [], L' := eMexchange_peers_1_dfa, R := GSnap × GSnap × GSnap × (List (Int)), dflt := (default, default, default, default), F := fun N a b => Fexchange_peers_1_dfa N b.1.1 b.1.2.2.2.2.2.1 b.2.1, of := fun r => ((), ((r.1, (), (), (), (), r.2.1, (), (), (), (), (), (), (), ()), r.2.2.1, r.2.2.2, (), ())) }
noncomputable def datexchange_peers_1_dfa : Dat τ := { D := D0, tbl := tblOf [(52, conexchange_member), (1000000, conexchange_Peers_3e4)], lp := lpsOf [(1, lpexchange_peers_1_dfax1)], k0 := 3, mu := [], un := [] }
theorem okexchange_peers_1_dfa : ConOk E C 65 conexchange_peers_1_dfa :=
  con_ok (D := datexchange_peers_1_dfa) ⟨d0Ok, eGood, tblOf_ok ⟨okexchange_member, ⟨okexchange_Peers_3e4, trivial⟩⟩, fun _ => rfl⟩ conexchange_peers_1_dfa (fun a b => (b.1.1, b.1.2.2.2.2.2.1, b.2.1, b.2.2.1)) none (fun _ _ => rfl) rfl (fun _ _ h => nomatch h) 1000000 (fn := Try.f65) Try.func65 rfl (by kernel_rfl) (by kernel_rfl) rfl (by intro N a b; kernel_rfl)
def Fexchange_Peers (N : Nat) (s : GSnap) : Option ((List (Int))) :=
 ((Fexchange_peers N s).bind fun r1 =>
 ((Fexchange_peers_1_dfa N s s r1).bind fun r2 =>
 (some r2.2.2.2)))
def conexchange_Peers : Con τ := { args := [.ty 34], L := [], ret := .ty 60, L' := [], R := (List (Int)), dflt := default, F := fun N a b => Fexchange_Peers N a.1, of := fun r => (r, ()) }
noncomputable def datexchange_Peers : Dat τ := { D := D0, tbl := tblOf [(39, conexchange_peers), (65, conexchange_peers_1_dfa)], lp := lpsOf [], k0 := 0, mu := [], un := [], fid := 17, ex := [] }
theorem okexchange_Peers : ConOk E C 17 conexchange_Peers :=
  con_ok (D := datexchange_Peers) ⟨d0Ok, eGood, tblOf_ok ⟨okexchange_peers, ⟨okexchange_peers_1_dfa, trivial⟩⟩, fun _ => rfl⟩ conexchange_Peers (fun a b => a) none (fun _ _ => rfl) rfl (fun _ _ h => nomatch h) 1000000 (fn := Try.f17) Try.func17 rfl (by kernel_rfl) (by kernel_rfl) rfl (by intro N a b; kernel_rfl) (hsub := ⟨subOk_no (by kernel_rfl), ⟨subOk_no (by kernel_rfl), ⟨⟨subOk_no (by kernel_rfl), (by show SiteP _ _ _ _; unfold SiteP; kernel_rfl)⟩, subOk_no (by kernel_rfl)⟩⟩⟩)
def Fstamp_Check (N : Nat) (s : GStamp) : Option (Bool) :=
 (some ((((decide (1 ≤ s.Time)) && (decide (s.Time ≤ 1099511627776))) && (decide (0 ≤ s.Site))) && (decide (s.Site < 8))))
def constamp_Check : Con τ := { args := [.ty 41], L := [], ret := .ty 4, L' := [], R := Bool, dflt := default, F := fun N a b => Fstamp_Check N a.1, of := fun r => (r, ()) }
noncomputable def datstamp_Check : Dat τ := { D := D0, tbl := tblOf [], lp := lpsOf [], k0 := 0, mu := [], un := [] }
theorem okstamp_Check : ConOk E C 55 constamp_Check :=
  con_ok (D := datstamp_Check) ⟨d0Ok, eGood, tblOf_ok trivial, fun _ => rfl⟩ constamp_Check (fun a b => a) none (fun _ _ => rfl) rfl (fun _ _ h => nomatch h) 1000000 (fn := Try.f55) Try.func55 rfl (by kernel_rfl) (by kernel_rfl) rfl (by intro N a b; kernel_rfl)
def Fstamp_Node (N : Nat) (s : GStamp) : Option (Int) :=
 ((Fstamp_Check N s).bind fun r1 =>
 (bif (!r1) then
 (some 0)
 else
 (some (IntKind.i64.wrap ((IntKind.i64.wrap (16 + (IntKind.i64.wrap (s.Time * 8)))) + s.Site)))))
def constamp_Node : Con τ := { args := [.ty 41], L := [], ret := .ty 2, L' := [], R := Int, dflt := default, F := fun N a b => Fstamp_Node N a.1, of := fun r => (r, ()) }
noncomputable def datstamp_Node : Dat τ := { D := D0, tbl := tblOf [(55, constamp_Check)], lp := lpsOf [], k0 := 0, mu := [], un := [] }
theorem okstamp_Node : ConOk E C 56 constamp_Node :=
  con_ok (D := datstamp_Node) ⟨d0Ok, eGood, tblOf_ok ⟨okstamp_Check, trivial⟩, fun _ => rfl⟩ constamp_Node (fun a b => a) none (fun _ _ => rfl) rfl (fun _ _ h => nomatch h) 1000000 (fn := Try.f56) Try.func56 rfl (by kernel_rfl) (by kernel_rfl) rfl (by intro N a b; kernel_rfl)
def Fstamp_top (N : Nat) (node : Int) : Option (Bool) :=
 (some ((node == 1) || (node == 2)))
def constamp_top : Con τ := { args := [.ty 2], L := [], ret := .ty 4, L' := [], R := Bool, dflt := default, F := fun N a b => Fstamp_top N a.1, of := fun r => (r, ()) }
noncomputable def datstamp_top : Dat τ := { D := D0, tbl := tblOf [], lp := lpsOf [], k0 := 0, mu := [], un := [] }
theorem okstamp_top : ConOk E C 59 constamp_top :=
  con_ok (D := datstamp_top) ⟨d0Ok, eGood, tblOf_ok trivial, fun _ => rfl⟩ constamp_top (fun a b => a) none (fun _ _ => rfl) rfl (fun _ _ h => nomatch h) 1000000 (fn := Try.f59) Try.func59 rfl (by kernel_rfl) (by kernel_rfl) rfl (by intro N a b; kernel_rfl)
def Fstamp_Of (N : Nat) (node : Int) : Option (GStamp × Bool) :=
 (bif (decide (node < 16)) then
 (some ((⟨0, 0⟩ : GStamp), false))
 else
 ((Fstamp_Check N (⟨(IntKind.i64.wrap (Int.tdiv (IntKind.i64.wrap (node - 16)) 8)), (Int.tmod (IntKind.i64.wrap (node - 16)) 8)⟩ : GStamp)).bind fun r1 =>
 (bif (!r1) then
 (some ((⟨0, 0⟩ : GStamp), false))
 else
 (some ((⟨(IntKind.i64.wrap (Int.tdiv (IntKind.i64.wrap (node - 16)) 8)), (Int.tmod (IntKind.i64.wrap (node - 16)) 8)⟩ : GStamp), true)))))
def constamp_Of : Con τ := { args := [.ty 2], L := [], ret := .tup [.ty 41, .ty 4], L' := [], R := GStamp × Bool, dflt := (default, default), F := fun N a b => Fstamp_Of N a.1, of := fun r => ((r.1, r.2, ()), ()) }
noncomputable def datstamp_Of : Dat τ := { D := D0, tbl := tblOf [(55, constamp_Check)], lp := lpsOf [], k0 := 0, mu := [], un := [] }
theorem okstamp_Of : ConOk E C 106 constamp_Of :=
  con_ok (D := datstamp_Of) ⟨d0Ok, eGood, tblOf_ok ⟨okstamp_Check, trivial⟩, fun _ => rfl⟩ constamp_Of (fun a b => (a.1, a.2.1)) none (fun _ _ => rfl) rfl (fun _ _ h => nomatch h) 1000000 (fn := Try.f106) Try.func106 rfl (by kernel_rfl) (by kernel_rfl) rfl (by intro N a b; kernel_rfl)
def Fstamp_made (N : Nat) (node : Int) : Option (Bool) :=
 ((Fstamp_Of N node).bind fun r1 =>
 (some r1.2))
def constamp_made : Con τ := { args := [.ty 2], L := [], ret := .ty 4, L' := [], R := Bool, dflt := default, F := fun N a b => Fstamp_made N a.1, of := fun r => (r, ()) }
noncomputable def datstamp_made : Dat τ := { D := D0, tbl := tblOf [(106, constamp_Of)], lp := lpsOf [], k0 := 0, mu := [], un := [] }
theorem okstamp_made : ConOk E C 58 constamp_made :=
  con_ok (D := datstamp_made) ⟨d0Ok, eGood, tblOf_ok ⟨okstamp_Of, trivial⟩, fun _ => rfl⟩ constamp_made (fun a b => a) none (fun _ _ => rfl) rfl (fun _ _ h => nomatch h) 1000000 (fn := Try.f58) Try.func58 rfl (by kernel_rfl) (by kernel_rfl) rfl (by intro N a b; kernel_rfl)
def Finternal_bytealg_IndexByteString (N : Nat) (s : List UInt8) (c : Int) : Option (Int) :=
 (some (Lib.indexByte s c.toNat.toUInt8))
def coninternal_bytealg_IndexByteString : Con τ := { args := [.ty 9, .ty 5], L := [], ret := .ty 3, L' := [], R := Int, dflt := default, F := fun N a b => Finternal_bytealg_IndexByteString N a.1 a.2.1, of := fun r => (r, ()), ext := true }
theorem okinternal_bytealg_IndexByteString : ConOk E C 144 coninternal_bytealg_IndexByteString :=
  con_ibs (fn := Try.f144) Try.func144 (by kernel_rfl) (by kernel_rfl) (by kernel_rfl) (by kernel_rfl) coninternal_bytealg_IndexByteString rfl rfl (fun a => a.1) (fun a => a.2.1) (fun _ => rfl) (fun _ => rfl) (fun N a b r h => by have h' : some (Lib.indexByte a.1 a.2.1.toNat.toUInt8) = some r := h; cases h'; exact ⟨rfl, rfl⟩)
def Finternal_stringslite_IndexByte (N : Nat) (s : List UInt8) (c : Int) : Option (Int) :=
 ((Finternal_bytealg_IndexByteString N s c).bind fun r1 =>
 (some r1))
def coninternal_stringslite_IndexByte : Con τ := { args := [.ty 9, .ty 5], L := [], ret := .ty 3, L' := [], R := Int, dflt := default, F := fun N a b => Finternal_stringslite_IndexByte N a.1 a.2.1, of := fun r => (r, ()) }
noncomputable def datinternal_stringslite_IndexByte : Dat τ := { D := D0, tbl := tblOf [(144, coninternal_bytealg_IndexByteString)], lp := lpsOf [], k0 := 0, mu := [], un := [] }
theorem okinternal_stringslite_IndexByte : ConOk E C 140 coninternal_stringslite_IndexByte :=
  con_ok (D := datinternal_stringslite_IndexByte) ⟨d0Ok, eGood, tblOf_ok ⟨okinternal_bytealg_IndexByteString, trivial⟩, fun _ => rfl⟩ coninternal_stringslite_IndexByte (fun a b => a) none (fun _ _ => rfl) rfl (fun _ _ h => nomatch h) 1000000 (fn := Try.f140) Try.func140 rfl (by kernel_rfl) (by kernel_rfl) rfl (by intro N a b; kernel_rfl)
def Finternal_stringslite_Index (N : Nat) (s : List UInt8) (substr : List UInt8) : Option (Int) :=
 (bif ((((substr).length : Int) == 0) || (substr == s)) then
 (some 0)
 else
 (bif (((substr).length : Int) == 1) then
 (bif (ibB 0 ((substr).length : Int)) then
 ((Finternal_stringslite_IndexByte N s (((substr).getD 0 0).toNat : Int)).bind fun r1 =>
 (some r1))
 else none)
 else
 (bif (decide (((s).length : Int) ≤ ((substr).length : Int))) then
 (some (-1))
 else
 none)))
def coninternal_stringslite_Index : Con τ := { args := [.ty 9, .ty 9], L := [], ret := .ty 3, L' := [], R := Int, dflt := default, F := fun N a b => Finternal_stringslite_Index N a.1 a.2.1, of := fun r => (r, ()) }
noncomputable def datinternal_stringslite_Index : Dat τ := { D := D0, tbl := tblOf [(140, coninternal_stringslite_IndexByte)], lp := lpsOf [], k0 := 0, mu := [], un := [] }
theorem okinternal_stringslite_Index : ConOk E C 139 coninternal_stringslite_Index :=
  con_ok (D := datinternal_stringslite_Index) ⟨d0Ok, eGood, tblOf_ok ⟨okinternal_stringslite_IndexByte, trivial⟩, fun _ => rfl⟩ coninternal_stringslite_Index (fun a b => a) none (fun _ _ => rfl) rfl (fun _ _ h => nomatch h) 1000000 (fn := Try.f139) Try.func139 rfl (by kernel_rfl) (by kernel_rfl) rfl (by intro N a b; kernel_rfl)
def Fstrings_Index (N : Nat) (s : List UInt8) (substr : List UInt8) : Option (Int) :=
 ((Finternal_stringslite_Index N s substr).bind fun r1 =>
 (some r1))
def constrings_Index : Con τ := { args := [.ty 9, .ty 9], L := [], ret := .ty 3, L' := [], R := Int, dflt := default, F := fun N a b => Fstrings_Index N a.1 a.2.1, of := fun r => (r, ()) }
noncomputable def datstrings_Index : Dat τ := { D := D0, tbl := tblOf [(139, coninternal_stringslite_Index)], lp := lpsOf [], k0 := 0, mu := [], un := [] }
theorem okstrings_Index : ConOk E C 133 constrings_Index :=
  con_ok (D := datstrings_Index) ⟨d0Ok, eGood, tblOf_ok ⟨okinternal_stringslite_Index, trivial⟩, fun _ => rfl⟩ constrings_Index (fun a b => a) none (fun _ _ => rfl) rfl (fun _ _ h => nomatch h) 1000000 (fn := Try.f133) Try.func133 rfl (by kernel_rfl) (by kernel_rfl) rfl (by intro N a b; kernel_rfl)
def Fstrings_Contains (N : Nat) (s : List UInt8) (substr : List UInt8) : Option (Bool) :=
 ((Fstrings_Index N s substr).bind fun r1 =>
 (some (decide (0 ≤ r1))))
def constrings_Contains : Con τ := { args := [.ty 9, .ty 9], L := [], ret := .ty 4, L' := [], R := Bool, dflt := default, F := fun N a b => Fstrings_Contains N a.1 a.2.1, of := fun r => (r, ()) }
noncomputable def datstrings_Contains : Dat τ := { D := D0, tbl := tblOf [(133, constrings_Index)], lp := lpsOf [], k0 := 0, mu := [], un := [] }
theorem okstrings_Contains : ConOk E C 105 constrings_Contains :=
  con_ok (D := datstrings_Contains) ⟨d0Ok, eGood, tblOf_ok ⟨okstrings_Index, trivial⟩, fun _ => rfl⟩ constrings_Contains (fun a b => a) none (fun _ _ => rfl) rfl (fun _ _ h => nomatch h) 1000000 (fn := Try.f105) Try.func105 rfl (by kernel_rfl) (by kernel_rfl) rfl (by intro N a b; kernel_rfl)
def Fstamp_place (N : Nat) (op : GOp) : Option (Int) :=
 ((Fstamp_top N op.Parent).bind fun r1 =>
 ((bif (!r1) then Fstamp_made N op.Parent else some default).bind fun r2 =>
 (bif ((!r1) && (!r2)) then
 (some 1)
 else
 (bif (decide (255 < ((op.Name).length : Int))) then
 (some 3)
 else
 ((bif (!(((op.Name == []) || (op.Name == [46])) || (op.Name == [46, 46]))) then Fstrings_Contains N op.Name [47] else some default).bind fun r3 =>
 (bif ((((((op.Name == []) || (op.Name == [46])) || (op.Name == [46, 46])) || r3) || (!(op.Key == []))) || (!(op.Value == []))) then
 (some 1)
 else
 (some 0)))))))
def constamp_place : Con τ := { args := [.ty 43], L := [], ret := .ty 56, L' := [], R := Int, dflt := default, F := fun N a b => Fstamp_place N a.1, of := fun r => (r, ()) }
noncomputable def datstamp_place : Dat τ := { D := D0, tbl := tblOf [(59, constamp_top), (58, constamp_made), (105, constrings_Contains)], lp := lpsOf [], k0 := 0, mu := [], un := [] }
theorem okstamp_place : ConOk E C 57 constamp_place :=
  con_ok (D := datstamp_place) ⟨d0Ok, eGood, tblOf_ok ⟨okstamp_top, ⟨okstamp_made, ⟨okstrings_Contains, trivial⟩⟩⟩, fun _ => rfl⟩ constamp_place (fun a b => a) none (fun _ _ => rfl) rfl (fun _ _ h => nomatch h) 1000000 (fn := Try.f57) Try.func57 rfl (by kernel_rfl) (by kernel_rfl) rfl (by intro N a b; kernel_rfl)
def Fstamp_CheckOp (N : Nat) (op : GOp) : Option (Int) :=
 ((Fstamp_Check N op.Stamp).bind fun r1 =>
 ((bif ((!(((!r1) || (decide (op.Kind < 1))) || (decide (3 < op.Kind)))) && (op.Kind == 1)) then Fstamp_Node N op.Stamp else some default).bind fun r2 =>
 (bif ((((!r1) || (decide (op.Kind < 1))) || (decide (3 < op.Kind))) || ((op.Kind == 1) && (!(op.Node == r2)))) then
 (some 1)
 else
 (bif (!(op.Kind == 3)) then
 ((Fstamp_place N op).bind fun r3 =>
 (bif (!(r3 == 0)) then
 (some r3)
 else
 (bif (op.Kind == 2) then
 ((Fstamp_made N op.Node).bind fun r4 =>
 (bif (!r4) then
 (some 1)
 else
 (some 0)))
 else
 (bif (op.Kind == 3) then
 ((Fstamp_made N op.Node).bind fun r5 =>
 ((bif (!r5) then Fstamp_top N op.Node else some default).bind fun r6 =>
 (bif ((!r5) && (!r6)) then
 (some 1)
 else
 (bif ((decide (255 < ((op.Key).length : Int))) || (decide (255 < ((op.Value).length : Int)))) then
 (some 3)
 else
 (bif (((op.Key == []) || (!(op.Parent == 0))) || (!(op.Name == []))) then
 (some 1)
 else
 (some 0))))))
 else
 (some 0)))))
 else
 (bif (op.Kind == 2) then
 ((Fstamp_made N op.Node).bind fun r7 =>
 (bif (!r7) then
 (some 1)
 else
 (some 0)))
 else
 (bif (op.Kind == 3) then
 ((Fstamp_made N op.Node).bind fun r8 =>
 ((bif (!r8) then Fstamp_top N op.Node else some default).bind fun r9 =>
 (bif ((!r8) && (!r9)) then
 (some 1)
 else
 (bif ((decide (255 < ((op.Key).length : Int))) || (decide (255 < ((op.Value).length : Int)))) then
 (some 3)
 else
 (bif (((op.Key == []) || (!(op.Parent == 0))) || (!(op.Name == []))) then
 (some 1)
 else
 (some 0))))))
 else
 (some 0)))))))
def constamp_CheckOp : Con τ := { args := [.ty 43], L := [], ret := .ty 56, L' := [], R := Int, dflt := default, F := fun N a b => Fstamp_CheckOp N a.1, of := fun r => (r, ()) }
noncomputable def datstamp_CheckOp : Dat τ := { D := D0, tbl := tblOf [(55, constamp_Check), (56, constamp_Node), (57, constamp_place), (58, constamp_made), (59, constamp_top)], lp := lpsOf [], k0 := 0, mu := [], un := [] }
theorem okstamp_CheckOp : ConOk E C 34 constamp_CheckOp :=
  con_ok (D := datstamp_CheckOp) ⟨d0Ok, eGood, tblOf_ok ⟨okstamp_Check, ⟨okstamp_Node, ⟨okstamp_place, ⟨okstamp_made, ⟨okstamp_top, trivial⟩⟩⟩⟩⟩, fun _ => rfl⟩ constamp_CheckOp (fun a b => a) none (fun _ _ => rfl) rfl (fun _ _ h => nomatch h) 1000000 (fn := Try.f34) Try.func34 rfl (by kernel_rfl) (by kernel_rfl) rfl (by intro N a b; kernel_rfl)
structure Sexchange_Takex9 where
  l : List (GOp)
  last : Int
  t66 : Int
def tsexchange_Takex9 : List Sl := [.k, .k, .k, .k, .k, .k, .k, .k, .k, .k, .sh (.own 43 1), .sh (.ty 2), .k, .j, .j, .j, .k, .k, .k, .k, .j, .j, .j, .j, .k, .k, .j, .j, .j, .j, .j, .j, .k, .k, .k, .k, .k, .k, .k, .k, .j, .j, .j, .k, .k, .j, .j, .k, .k, .j, .j, .j, .j, .j, .j, .k, .k, .k, .k, .k, .k, .k, .k, .k, .k, .k, .sh (.ty 2), .j, .j, .j, .j, .j, .j, .j, .j, .j, .j, .j, .j, .j, .j, .j, .j, .j, .j, .j, .j, .j, .j, .j, .j, .j, .j, .j, .j, .j, .j, .j, .j, .j, .j, .j, .j, .j, .j, .j, .j, .j, .j, .j, .j, .j, .j, .j, .j, .j, .j, .j, .j, .j, .j, .j, .j, .j, .j, .j, .j, .j, .j, .k]
def hsexchange_Takex9 : List ESh := [.keep, .tail]
def toexchange_Takex9 (a : Sl.Ts τ tsexchange_Takex9) (b : ESh.Ts τ hsexchange_Takex9) : Sexchange_Takex9 := ⟨a.2.2.2.2.2.2.2.2.2.2.1, a.2.2.2.2.2.2.2.2.2.2.2.1, a.2.2.2.2.2.2.2.2.2.2.2.2.2.2.2.2.2.2.2.2.2.2.2.2.2.2.2.2.2.2.2.2.2.2.2.2.2.2.2.2.2.2.2.2.2.2.2.2.2.2.2.2.2.2.2.2.2.2.2.2.2.2.2.2.2.2.1⟩
def otexchange_Takex9 (s : Sexchange_Takex9) : Sl.Ts τ tsexchange_Takex9 := ((), (), (), (), (), (), (), (), (), (), s.l, s.last, (), (), (), (), (), (), (), (), (), (), (), (), (), (), (), (), (), (), (), (), (), (), (), (), (), (), (), (), (), (), (), (), (), (), (), (), (), (), (), (), (), (), (), (), (), (), (), (), (), (), (), (), (), (), s.t66, (), (), (), (), (), (), (), (), (), (), (), (), (), (), (), (), (), (), (), (), (), (), (), (), (), (), (), (), (), (), (), (), (), (), (), (), (), (), (), (), (), (), (), (), (), (), (), (), (), (), (), (), (), (), (), (), (), (), (), (), (), (), (), ())
def ohexchange_Takex9 (s : Sexchange_Takex9) : ESh.Ts τ hsexchange_Takex9 := ((), (), ())
def lpexchange_Takex9 : Lp τ := { ts := tsexchange_Takex9, hs := hsexchange_Takex9, S := Sexchange_Takex9, to := toexchange_Takex9, ot := otexchange_Takex9, oh := ohexchange_Takex9, hk := [2], tk := [0, 0, 0, 0, 2, 0, 0, 0, 0, 0, 0, 0, 0, 0, 0, 0, 0, 0, 0, 0, 0, 0, 0, 0, 0, 0, 0, 0, 0, 0, 0, 0, 0, 0, 2, 2, 0, 0, 0, 0, 0, 0, 0, 0, 0, 0, 0, 0, 0, 0, 0, 0, 0, 0, 0, 0, 0, 2, 2], ot_to := fun _ _ => rfl, oh_to := fun _ _ => rfl }
def Fexchange_Take (N : Nat) (s : GSnap) (origin : Int) (seq : Int) (ops : List (GOp)) : Option ((List (GOp))) :=
 ((Fexchange_site N origin).bind fun r1 =>
 (bif (!(!((!r1) || (origin == s.Site))) || (ibB origin 8)) then
 (bif (((!r1) || (origin == s.Site)) || ((vget s.Epoch.States ((origin).toNat) default) == 0)) then
 (some [])
 else
 (bif (ibB origin 8) then
 (bif ((((decide (seq < 0)) || (decide ((vget s.Vector_ ((origin).toNat) default) < seq))) || (decide (1099511627776 < (vget s.Vector_ ((origin).toNat) default)))) || (decide (((ops).length : Int) ≤ (IntKind.i64.wrap ((vget s.Vector_ ((origin).toNat) default) - seq))))) then
 (some [])
 else
 (bif (ibB origin 8) then
 (bif (cutB (IntKind.i64.wrap ((vget s.Vector_ ((origin).toNat) default) - seq)) ((ops).length : Int) ((ops).length : Int)) then
 (iter N (fun (s2 : Sexchange_Takex9) next3 =>
 (bif (decide (s2.t66 < (((cut ops (IntKind.i64.wrap ((vget s.Vector_ ((origin).toNat) default) - seq)) ((ops).length : Int))).length : Int))) then
 (bif (ibB s2.t66 (((cut ops (IntKind.i64.wrap ((vget s.Vector_ ((origin).toNat) default) - seq)) ((ops).length : Int))).length : Int)) then
 (bif (ibB origin 8) then
 (bif (!((vget s.Epoch.States ((origin).toNat) default) == 3) || (ibB origin 8)) then
 ((bif (!((decide (1099511627776 ≤ (IntKind.i64.wrap ((vget s.Vector_ ((origin).toNat) default) + ((s2.l).length : Int))))) || (((vget s.Epoch.States ((origin).toNat) default) == 3) && (decide ((vget s.Epoch.Seals ((origin).toNat) default) ≤ (IntKind.i64.wrap ((vget s.Vector_ ((origin).toNat) default) + ((s2.l).length : Int)))))))) then Fstamp_CheckOp N (⟨((lget (cut ops (IntKind.i64.wrap ((vget s.Vector_ ((origin).toNat) default) - seq)) ((ops).length : Int)) s2.t66 default).Stamp), (lget (cut ops (IntKind.i64.wrap ((vget s.Vector_ ((origin).toNat) default) - seq)) ((ops).length : Int)) s2.t66 default).Kind, (lget (cut ops (IntKind.i64.wrap ((vget s.Vector_ ((origin).toNat) default) - seq)) ((ops).length : Int)) s2.t66 default).Node, (lget (cut ops (IntKind.i64.wrap ((vget s.Vector_ ((origin).toNat) default) - seq)) ((ops).length : Int)) s2.t66 default).Parent, (lget (cut ops (IntKind.i64.wrap ((vget s.Vector_ ((origin).toNat) default) - seq)) ((ops).length : Int)) s2.t66 default).Name, (lget (cut ops (IntKind.i64.wrap ((vget s.Vector_ ((origin).toNat) default) - seq)) ((ops).length : Int)) s2.t66 default).Key, (lget (cut ops (IntKind.i64.wrap ((vget s.Vector_ ((origin).toNat) default) - seq)) ((ops).length : Int)) s2.t66 default).Value⟩ : GOp) else some default).bind fun r4 =>
 (bif ((((((decide (1099511627776 ≤ (IntKind.i64.wrap ((vget s.Vector_ ((origin).toNat) default) + ((s2.l).length : Int))))) || (((vget s.Epoch.States ((origin).toNat) default) == 3) && (decide ((vget s.Epoch.Seals ((origin).toNat) default) ≤ (IntKind.i64.wrap ((vget s.Vector_ ((origin).toNat) default) + ((s2.l).length : Int))))))) || (!(r4 == 0))) || (!((((lget (cut ops (IntKind.i64.wrap ((vget s.Vector_ ((origin).toNat) default) - seq)) ((ops).length : Int)) s2.t66 default).Stamp).Site) == origin))) || (decide ((((lget (cut ops (IntKind.i64.wrap ((vget s.Vector_ ((origin).toNat) default) - seq)) ((ops).length : Int)) s2.t66 default).Stamp).Time) ≤ s2.last))) || (decide ((((lget (cut ops (IntKind.i64.wrap ((vget s.Vector_ ((origin).toNat) default) - seq)) ((ops).length : Int)) s2.t66 default).Stamp).Time) ≤ s.Frontier))) then
 (some s2.l)
 else
 (bif (lenB ((s2.l).length + ([(⟨((lget (cut ops (IntKind.i64.wrap ((vget s.Vector_ ((origin).toNat) default) - seq)) ((ops).length : Int)) s2.t66 default).Stamp), (lget (cut ops (IntKind.i64.wrap ((vget s.Vector_ ((origin).toNat) default) - seq)) ((ops).length : Int)) s2.t66 default).Kind, (lget (cut ops (IntKind.i64.wrap ((vget s.Vector_ ((origin).toNat) default) - seq)) ((ops).length : Int)) s2.t66 default).Node, (lget (cut ops (IntKind.i64.wrap ((vget s.Vector_ ((origin).toNat) default) - seq)) ((ops).length : Int)) s2.t66 default).Parent, (lget (cut ops (IntKind.i64.wrap ((vget s.Vector_ ((origin).toNat) default) - seq)) ((ops).length : Int)) s2.t66 default).Name, (lget (cut ops (IntKind.i64.wrap ((vget s.Vector_ ((origin).toNat) default) - seq)) ((ops).length : Int)) s2.t66 default).Key, (lget (cut ops (IntKind.i64.wrap ((vget s.Vector_ ((origin).toNat) default) - seq)) ((ops).length : Int)) s2.t66 default).Value⟩ : GOp)]).length) 88) then
 (next3 ⟨(s2.l ++ [(⟨((lget (cut ops (IntKind.i64.wrap ((vget s.Vector_ ((origin).toNat) default) - seq)) ((ops).length : Int)) s2.t66 default).Stamp), (lget (cut ops (IntKind.i64.wrap ((vget s.Vector_ ((origin).toNat) default) - seq)) ((ops).length : Int)) s2.t66 default).Kind, (lget (cut ops (IntKind.i64.wrap ((vget s.Vector_ ((origin).toNat) default) - seq)) ((ops).length : Int)) s2.t66 default).Node, (lget (cut ops (IntKind.i64.wrap ((vget s.Vector_ ((origin).toNat) default) - seq)) ((ops).length : Int)) s2.t66 default).Parent, (lget (cut ops (IntKind.i64.wrap ((vget s.Vector_ ((origin).toNat) default) - seq)) ((ops).length : Int)) s2.t66 default).Name, (lget (cut ops (IntKind.i64.wrap ((vget s.Vector_ ((origin).toNat) default) - seq)) ((ops).length : Int)) s2.t66 default).Key, (lget (cut ops (IntKind.i64.wrap ((vget s.Vector_ ((origin).toNat) default) - seq)) ((ops).length : Int)) s2.t66 default).Value⟩ : GOp)]), ((lget (cut ops (IntKind.i64.wrap ((vget s.Vector_ ((origin).toNat) default) - seq)) ((ops).length : Int)) s2.t66 default).Stamp).Time, (IntKind.i64.wrap (s2.t66 + 1))⟩)
 else none)))
 else none)
 else none)
 else none)
 else
 (some s2.l))) ⟨[], (vget s.Last ((origin).toNat) default), 0⟩)
 else none)
 else none))
 else none))
 else none))
def conexchange_Take : Con τ := { args := [.ty 34, .ty 3, .ty 2, .ty 28], L := [], ret := .ty 28, L' := [], R := (List (GOp)), dflt := default, F := fun N a b => Fexchange_Take N a.1 a.2.1 a.2.2.1 a.2.2.2.1, of := fun r => (r, ()) }
noncomputable def datexchange_Take : Dat τ := { D := D0, tbl := tblOf [(33, conexchange_site), (34, constamp_CheckOp)], lp := lpsOf [(9, lpexchange_Takex9)], k0 := 0, mu := [], un := [] }
theorem okexchange_Take : ConOk E C 12 conexchange_Take :=
  con_ok (D := datexchange_Take) ⟨d0Ok, eGood, tblOf_ok ⟨okexchange_site, ⟨okstamp_CheckOp, trivial⟩⟩, fun _ => rfl⟩ conexchange_Take (fun a b => a) none (fun _ _ => rfl) rfl (fun _ _ h => nomatch h) 1000000 (fn := Try.f12) Try.func12 rfl (by kernel_rfl) (by kernel_rfl) rfl (by intro N a b; kernel_rfl)
def Flaw16_begun (N : Nat)  : Option (Bool) :=
 ((Fexchange_Peers N (⟨0, 0, false, (⟨0, (vset (Vector.replicate 8 (default : Int)) 1 1), (Vector.replicate 8 (default : Int)), (Vector.replicate 8 (default : Int))⟩ : GEpoch), 0, (Vector.replicate 8 (default : Int)), (Vector.replicate 8 (default : Int)), [], [], 0, (Vector.replicate 8 (default : Int)), (Vector.replicate 8 (default : List (GOp))), (Vector.replicate 8 (default : Vector (Int) 8)), (Vector.replicate 8 (default : Int)), (Vector.replicate 8 (default : Int)), (Vector.replicate 8 (default : Int)), [], []⟩ : GSnap)).bind fun r1 =>
 (bif (!(((r1).length : Int) == 1) || (ibB 0 ((r1).length : Int))) then
 ((bif ((((r1).length : Int) == 1) && ((lget r1 0 default) == 1)) then Fexchange_Take N (⟨0, 0, false, (⟨0, (vset (Vector.replicate 8 (default : Int)) 1 1), (Vector.replicate 8 (default : Int)), (Vector.replicate 8 (default : Int))⟩ : GEpoch), 0, (Vector.replicate 8 (default : Int)), (Vector.replicate 8 (default : Int)), [], [], 0, (Vector.replicate 8 (default : Int)), (Vector.replicate 8 (default : List (GOp))), (Vector.replicate 8 (default : Vector (Int) 8)), (Vector.replicate 8 (default : Int)), (Vector.replicate 8 (default : Int)), (Vector.replicate 8 (default : Int)), [], []⟩ : GSnap) 1 0 [(⟨(⟨1, 1⟩ : GStamp), 1, 25, 1, [97], [], []⟩ : GOp)] else some default).bind fun r2 =>
 (some (((((r1).length : Int) == 1) && ((lget r1 0 default) == 1)) && (((r2).length : Int) == 1))))
 else none))
def conlaw16_begun : Con τ := { args := [], L := [], ret := .ty 4, L' := [], R := Bool, dflt := default, F := fun N a b => Flaw16_begun N , of := fun r => (r, ()) }
noncomputable def datlaw16_begun : Dat τ := { D := D0, tbl := tblOf [(17, conexchange_Peers), (12, conexchange_Take)], lp := lpsOf [], k0 := 0, mu := [], un := [] }
theorem oklaw16_begun : ConOk E C 10 conlaw16_begun :=
  con_ok (D := datlaw16_begun) ⟨d0Ok, eGood, tblOf_ok ⟨okexchange_Peers, ⟨okexchange_Take, trivial⟩⟩, fun _ => rfl⟩ conlaw16_begun (fun a b => a) none (fun _ _ => rfl) rfl (fun _ _ h => nomatch h) 1000000 (fn := Try.f10) Try.func10 rfl (by kernel_rfl) (by kernel_rfl) rfl (by intro N a b; kernel_rfl)
def Fref14_site (N : Nat) (n : Int) : Option (Bool) :=
 (some ((decide (0 ≤ n)) && (decide (n < 8))))
def conref14_site : Con τ := { args := [.ty 3], L := [], ret := .ty 4, L' := [], R := Bool, dflt := default, F := fun N a b => Fref14_site N a.1, of := fun r => (r, ()) }
noncomputable def datref14_site : Dat τ := { D := D0, tbl := tblOf [], lp := lpsOf [], k0 := 0, mu := [], un := [] }
theorem okref14_site : ConOk E C 73 conref14_site :=
  con_ok (D := datref14_site) ⟨d0Ok, eGood, tblOf_ok trivial, fun _ => rfl⟩ conref14_site (fun a b => a) none (fun _ _ => rfl) rfl (fun _ _ h => nomatch h) 1000000 (fn := Try.f73) Try.func73 rfl (by kernel_rfl) (by kernel_rfl) rfl (by intro N a b; kernel_rfl)
def Fref04_count (N : Nat) (n : Int) : Option (Bool) :=
 (some ((decide (0 ≤ n)) && (decide (n ≤ 1099511627776))))
def conref04_count : Con τ := { args := [.ty 2], L := [], ret := .ty 4, L' := [], R := Bool, dflt := default, F := fun N a b => Fref04_count N a.1, of := fun r => (r, ()) }
noncomputable def datref04_count : Dat τ := { D := D0, tbl := tblOf [], lp := lpsOf [], k0 := 0, mu := [], un := [] }
theorem okref04_count : ConOk E C 95 conref04_count :=
  con_ok (D := datref04_count) ⟨d0Ok, eGood, tblOf_ok trivial, fun _ => rfl⟩ conref04_count (fun a b => a) none (fun _ _ => rfl) rfl (fun _ _ h => nomatch h) 1000000 (fn := Try.f95) Try.func95 rfl (by kernel_rfl) (by kernel_rfl) rfl (by intro N a b; kernel_rfl)
structure Sref04_MayVectorx2 where
  i : Int
def tsref04_MayVectorx2 : List Sl := [.k, .k, .j, .sh (.ty 2), .j, .j, .j, .j, .j, .j, .j, .j, .j]
def hsref04_MayVectorx2 : List ESh := [.keep]
def toref04_MayVectorx2 (a : Sl.Ts τ tsref04_MayVectorx2) (b : ESh.Ts τ hsref04_MayVectorx2) : Sref04_MayVectorx2 := ⟨a.2.2.2.1⟩
def otref04_MayVectorx2 (s : Sref04_MayVectorx2) : Sl.Ts τ tsref04_MayVectorx2 := ((), (), (), s.i, (), (), (), (), (), (), (), (), (), ())
def ohref04_MayVectorx2 (s : Sref04_MayVectorx2) : ESh.Ts τ hsref04_MayVectorx2 := ((), ())
def lpref04_MayVectorx2 : Lp τ := { ts := tsref04_MayVectorx2, hs := hsref04_MayVectorx2, S := Sref04_MayVectorx2, to := toref04_MayVectorx2, ot := otref04_MayVectorx2, oh := ohref04_MayVectorx2, hk := [2], tk := [0, 2], ot_to := fun _ _ => rfl, oh_to := fun _ _ => rfl }
def Fref04_MayVector (N : Nat) (v : Vector (Int) 8) : Option (Bool) :=
 (iter N (fun (s1 : Sref04_MayVectorx2) next2 =>
 (bif (decide (s1.i < 8)) then
 (bif (ibB s1.i 8) then
 ((Fref04_count N (vget v ((s1.i).toNat) default)).bind fun r3 =>
 (bif (!r3) then
 (some false)
 else
 (next2 ⟨(IntKind.i64.wrap (s1.i + 1))⟩)))
 else none)
 else
 (some true))) ⟨0⟩)
def conref04_MayVector : Con τ := { args := [.ty 24], L := [], ret := .ty 4, L' := [], R := Bool, dflt := default, F := fun N a b => Fref04_MayVector N a.1, of := fun r => (r, ()) }
noncomputable def datref04_MayVector : Dat τ := { D := D0, tbl := tblOf [(95, conref04_count)], lp := lpsOf [(2, lpref04_MayVectorx2)], k0 := 0, mu := [], un := [] }
theorem okref04_MayVector : ConOk E C 96 conref04_MayVector :=
  con_ok (D := datref04_MayVector) ⟨d0Ok, eGood, tblOf_ok ⟨okref04_count, trivial⟩, fun _ => rfl⟩ conref04_MayVector (fun a b => a) none (fun _ _ => rfl) rfl (fun _ _ h => nomatch h) 1000000 (fn := Try.f96) Try.func96 rfl (by kernel_rfl) (by kernel_rfl) rfl (by intro N a b; kernel_rfl)
structure Sref04_MayEpochx2 where
  i : Int
def tsref04_MayEpochx2 : List Sl := [.k, .k, .j, .sh (.ty 2), .j, .j, .j, .j, .j, .j, .j, .j, .j, .j, .j, .j, .j, .j, .j, .j, .j, .j, .j, .j, .j, .j, .j, .j, .j, .j, .j, .j, .j, .j, .k, .k, .k, .k, .k, .k, .k, .k]
def hsref04_MayEpochx2 : List ESh := [.keep]
def toref04_MayEpochx2 (a : Sl.Ts τ tsref04_MayEpochx2) (b : ESh.Ts τ hsref04_MayEpochx2) : Sref04_MayEpochx2 := ⟨a.2.2.2.1⟩
def otref04_MayEpochx2 (s : Sref04_MayEpochx2) : Sl.Ts τ tsref04_MayEpochx2 := ((), (), (), s.i, (), (), (), (), (), (), (), (), (), (), (), (), (), (), (), (), (), (), (), (), (), (), (), (), (), (), (), (), (), (), (), (), (), (), (), (), (), (), ())
def ohref04_MayEpochx2 (s : Sref04_MayEpochx2) : ESh.Ts τ hsref04_MayEpochx2 := ((), ())
def lpref04_MayEpochx2 : Lp τ := { ts := tsref04_MayEpochx2, hs := hsref04_MayEpochx2, S := Sref04_MayEpochx2, to := toref04_MayEpochx2, ot := otref04_MayEpochx2, oh := ohref04_MayEpochx2, hk := [2], tk := [0, 2], ot_to := fun _ _ => rfl, oh_to := fun _ _ => rfl }
def Fref04_MayEpoch (N : Nat) (e : GEpoch) : Option (Bool) :=
 (iter N (fun (s1 : Sref04_MayEpochx2) next2 =>
 (bif (decide (s1.i < 8)) then
 (bif (ibB s1.i 8) then
 (bif (!(!(decide ((vget e.States ((s1.i).toNat) default) < 0))) || (ibB s1.i 8)) then
 (bif (!(!((decide ((vget e.States ((s1.i).toNat) default) < 0)) || (decide (3 < (vget e.States ((s1.i).toNat) default))))) || (ibB s1.i 8)) then
 (bif (!(!(((decide ((vget e.States ((s1.i).toNat) default) < 0)) || (decide (3 < (vget e.States ((s1.i).toNat) default)))) || (decide ((vget e.Sponsor ((s1.i).toNat) default) < (-1))))) || (ibB s1.i 8)) then
 (bif ((((decide ((vget e.States ((s1.i).toNat) default) < 0)) || (decide (3 < (vget e.States ((s1.i).toNat) default)))) || (decide ((vget e.Sponsor ((s1.i).toNat) default) < (-1)))) || (decide (8 ≤ (vget e.Sponsor ((s1.i).toNat) default)))) then
 (some false)
 else
 (next2 ⟨(IntKind.i64.wrap (s1.i + 1))⟩))
 else none)
 else none)
 else none)
 else none)
 else
 ((Fref04_count N e.Number).bind fun r3 =>
 ((bif r3 then Fref04_MayVector N e.Seals else some default).bind fun r4 =>
 (some (r3 && r4)))))) ⟨0⟩)
def conref04_MayEpoch : Con τ := { args := [.ty 26], L := [], ret := .ty 4, L' := [], R := Bool, dflt := default, F := fun N a b => Fref04_MayEpoch N a.1, of := fun r => (r, ()) }
noncomputable def datref04_MayEpoch : Dat τ := { D := D0, tbl := tblOf [(95, conref04_count), (96, conref04_MayVector)], lp := lpsOf [(2, lpref04_MayEpochx2)], k0 := 0, mu := [], un := [] }
theorem okref04_MayEpoch : ConOk E C 74 conref04_MayEpoch :=
  con_ok (D := datref04_MayEpoch) ⟨d0Ok, eGood, tblOf_ok ⟨okref04_count, ⟨okref04_MayVector, trivial⟩⟩, fun _ => rfl⟩ conref04_MayEpoch (fun a b => a) none (fun _ _ => rfl) rfl (fun _ _ h => nomatch h) 1000000 (fn := Try.f74) Try.func74 rfl (by kernel_rfl) (by kernel_rfl) rfl (by intro N a b; kernel_rfl)
def Fref14_count (N : Nat) (n : Int) : Option (Bool) :=
 (some ((decide (0 ≤ n)) && (decide (n ≤ 1099511627776))))
def conref14_count : Con τ := { args := [.ty 2], L := [], ret := .ty 4, L' := [], R := Bool, dflt := default, F := fun N a b => Fref14_count N a.1, of := fun r => (r, ()) }
noncomputable def datref14_count : Dat τ := { D := D0, tbl := tblOf [], lp := lpsOf [], k0 := 0, mu := [], un := [] }
theorem okref14_count : ConOk E C 75 conref14_count :=
  con_ok (D := datref14_count) ⟨d0Ok, eGood, tblOf_ok trivial, fun _ => rfl⟩ conref14_count (fun a b => a) none (fun _ _ => rfl) rfl (fun _ _ h => nomatch h) 1000000 (fn := Try.f75) Try.func75 rfl (by kernel_rfl) (by kernel_rfl) rfl (by intro N a b; kernel_rfl)
structure Sref14_vectorsx2 where
  i : Int
def tsref14_vectorsx2 : List Sl := [.k, .k, .j, .sh (.ty 2), .j, .j, .j, .j, .j, .j, .j, .j, .j, .j, .j, .j]
def hsref14_vectorsx2 : List ESh := []
def toref14_vectorsx2 (a : Sl.Ts τ tsref14_vectorsx2) (b : ESh.Ts τ hsref14_vectorsx2) : Sref14_vectorsx2 := ⟨a.2.2.2.1⟩
def otref14_vectorsx2 (s : Sref14_vectorsx2) : Sl.Ts τ tsref14_vectorsx2 := ((), (), (), s.i, (), (), (), (), (), (), (), (), (), (), (), (), ())
def ohref14_vectorsx2 (s : Sref14_vectorsx2) : ESh.Ts τ hsref14_vectorsx2 := ()
def lpref14_vectorsx2 : Lp τ := { ts := tsref14_vectorsx2, hs := hsref14_vectorsx2, S := Sref14_vectorsx2, to := toref14_vectorsx2, ot := otref14_vectorsx2, oh := ohref14_vectorsx2, hk := [], tk := [], ot_to := fun _ _ => rfl, oh_to := fun _ _ => rfl }
def Fref14_vectors (N : Nat) (l : List (Vector (Int) 8)) : Option (Bool) :=
 (iter N (fun (s1 : Sref14_vectorsx2) next2 =>
 (bif (decide (s1.i < ((l).length : Int))) then
 (bif (ibB s1.i ((l).length : Int)) then
 ((Fref04_MayVector N (lget l s1.i default)).bind fun r3 =>
 (bif (!r3) then
 (some false)
 else
 (next2 ⟨(IntKind.i64.wrap (s1.i + 1))⟩)))
 else none)
 else
 (some true))) ⟨0⟩)
def conref14_vectors : Con τ := { args := [.ty 115], L := [], ret := .ty 4, L' := [], R := Bool, dflt := default, F := fun N a b => Fref14_vectors N a.1, of := fun r => (r, ()) }
noncomputable def datref14_vectors : Dat τ := { D := D0, tbl := tblOf [(96, conref04_MayVector)], lp := lpsOf [(2, lpref14_vectorsx2)], k0 := 0, mu := [], un := [] }
theorem okref14_vectors : ConOk E C 76 conref14_vectors :=
  con_ok (D := datref14_vectors) ⟨d0Ok, eGood, tblOf_ok ⟨okref04_MayVector, trivial⟩, fun _ => rfl⟩ conref14_vectors (fun a b => a) none (fun _ _ => rfl) rfl (fun _ _ h => nomatch h) 1000000 (fn := Try.f76) Try.func76 rfl (by kernel_rfl) (by kernel_rfl) rfl (by intro N a b; kernel_rfl)
def Fref12_New_06d (N : Nat)  : Option (Nat × (List (List (GTreeNode))) × (List (GTreeNode))) :=
 (some (2, [], [(⟨1, 0, [], []⟩ : GTreeNode), (⟨2, 0, [], []⟩ : GTreeNode)]))
def conref12_New_06d : Con τ := { args := [], L := [], ret := .ptr 0 [], L' := [.box (.agg [.msl 98 1, .ty 150]), .gbx 98], R := Nat × (List (List (GTreeNode))) × (List (GTreeNode)), dflt := (default, default, default), F := fun N a b => Fref12_New_06d N , of := fun r => ((), ((r.1, r.2.1, ()), r.2.2, ())) }
noncomputable def datref12_New_06d : Dat τ := { D := D0, tbl := tblOf [], lp := lpsOf [], k0 := 0, mu := [3], un := [] }
theorem okref12_New_06d : ConOk E C 112 conref12_New_06d :=
  con_ok (D := datref12_New_06d) ⟨d0Ok, eGood, tblOf_ok trivial, fun _ => rfl⟩ conref12_New_06d (fun a b => (b.1.1, b.1.2.1, b.2.1)) none (fun _ _ => rfl) rfl (fun _ _ h => nomatch h) 1000000 (fn := Try.f112) Try.func112 rfl (by kernel_rfl) (by kernel_rfl) rfl (by intro N a b; kernel_rfl)
structure Sref12_attrsx2 where
  i : Int
def tsref12_attrsx2 : List Sl := [.k, .k, .j, .sh (.ty 2), .j, .j, .j, .j, .j, .j, .j, .j, .j, .j, .j, .j, .j, .j, .j, .j, .j, .j, .j, .j, .j, .j, .j, .j, .j, .j, .j, .j, .j, .j, .j, .j, .j, .j, .j, .j, .j, .j, .j, .j, .j, .j, .j, .j, .j, .j, .j, .j, .j, .j, .j, .j, .j, .j, .j, .j]
def hsref12_attrsx2 : List ESh := []
def toref12_attrsx2 (a : Sl.Ts τ tsref12_attrsx2) (b : ESh.Ts τ hsref12_attrsx2) : Sref12_attrsx2 := ⟨a.2.2.2.1⟩
def otref12_attrsx2 (s : Sref12_attrsx2) : Sl.Ts τ tsref12_attrsx2 := ((), (), (), s.i, (), (), (), (), (), (), (), (), (), (), (), (), (), (), (), (), (), (), (), (), (), (), (), (), (), (), (), (), (), (), (), (), (), (), (), (), (), (), (), (), (), (), (), (), (), (), (), (), (), (), (), (), (), (), (), (), ())
def ohref12_attrsx2 (s : Sref12_attrsx2) : ESh.Ts τ hsref12_attrsx2 := ()
def lpref12_attrsx2 : Lp τ := { ts := tsref12_attrsx2, hs := hsref12_attrsx2, S := Sref12_attrsx2, to := toref12_attrsx2, ot := otref12_attrsx2, oh := ohref12_attrsx2, hk := [], tk := [], ot_to := fun _ _ => rfl, oh_to := fun _ _ => rfl }
def Fref12_attrs (N : Nat) (l : List (GAttr)) : Option (Bool) :=
 (iter N (fun (s1 : Sref12_attrsx2) next2 =>
 (bif (decide (s1.i < ((l).length : Int))) then
 (bif (ibB s1.i ((l).length : Int)) then
 (bif (!(!(((lget l s1.i default).Key) == [])) || (ibB s1.i ((l).length : Int))) then
 (bif (!(!((((lget l s1.i default).Key) == []) || (decide (255 < (((lget l s1.i default).Key).length : Int))))) || (ibB s1.i ((l).length : Int))) then
 (bif (!(!(((((lget l s1.i default).Key) == []) || (decide (255 < (((lget l s1.i default).Key).length : Int)))) || (((lget l s1.i default).Value) == []))) || (ibB s1.i ((l).length : Int))) then
 (bif (!((!((((((lget l s1.i default).Key) == []) || (decide (255 < (((lget l s1.i default).Key).length : Int)))) || (((lget l s1.i default).Value) == [])) || (decide (255 < (((lget l s1.i default).Value).length : Int))))) && (decide (0 < s1.i))) || (ibB s1.i ((l).length : Int))) then
 (bif (!((!((((((lget l s1.i default).Key) == []) || (decide (255 < (((lget l s1.i default).Key).length : Int)))) || (((lget l s1.i default).Value) == [])) || (decide (255 < (((lget l s1.i default).Value).length : Int))))) && (decide (0 < s1.i))) || (ibB (IntKind.i64.wrap (s1.i - 1)) ((l).length : Int))) then
 (bif (((((((lget l s1.i default).Key) == []) || (decide (255 < (((lget l s1.i default).Key).length : Int)))) || (((lget l s1.i default).Value) == [])) || (decide (255 < (((lget l s1.i default).Value).length : Int)))) || ((decide (0 < s1.i)) && (ltS ((lget l s1.i default).Key) ((lget l (IntKind.i64.wrap (s1.i - 1)) default).Key) || ((lget l s1.i default).Key) == ((lget l (IntKind.i64.wrap (s1.i - 1)) default).Key)))) then
 (some false)
 else
 (next2 ⟨(IntKind.i64.wrap (s1.i + 1))⟩))
 else none)
 else none)
 else none)
 else none)
 else none)
 else none)
 else
 (some true))) ⟨0⟩)
def conref12_attrs : Con τ := { args := [.ty 96], L := [], ret := .ty 4, L' := [], R := Bool, dflt := default, F := fun N a b => Fref12_attrs N a.1, of := fun r => (r, ()) }
noncomputable def datref12_attrs : Dat τ := { D := D0, tbl := tblOf [], lp := lpsOf [(2, lpref12_attrsx2)], k0 := 0, mu := [], un := [] }
theorem okref12_attrs : ConOk E C 113 conref12_attrs :=
  con_ok (D := datref12_attrs) ⟨d0Ok, eGood, tblOf_ok trivial, fun _ => rfl⟩ conref12_attrs (fun a b => a) none (fun _ _ => rfl) rfl (fun _ _ h => nomatch h) 1000000 (fn := Try.f113) Try.func113 rfl (by kernel_rfl) (by kernel_rfl) rfl (by intro N a b; kernel_rfl)
structure Sref12_Namex4 where
  i : Int
def tsref12_Namex4 : List Sl := [.k, .k, .j, .sh (.ty 2), .k, .k, .k, .j, .j, .j, .k, .k, .j, .j, .k, .k, .j, .j, .k, .j, .j, .j, .j, .j, .j, .j, .j, .j, .j]
def hsref12_Namex4 : List ESh := []
def toref12_Namex4 (a : Sl.Ts τ tsref12_Namex4) (b : ESh.Ts τ hsref12_Namex4) : Sref12_Namex4 := ⟨a.2.2.2.1⟩
def otref12_Namex4 (s : Sref12_Namex4) : Sl.Ts τ tsref12_Namex4 := ((), (), (), s.i, (), (), (), (), (), (), (), (), (), (), (), (), (), (), (), (), (), (), (), (), (), (), (), (), (), ())
def ohref12_Namex4 (s : Sref12_Namex4) : ESh.Ts τ hsref12_Namex4 := ()
def lpref12_Namex4 : Lp τ := { ts := tsref12_Namex4, hs := hsref12_Namex4, S := Sref12_Namex4, to := toref12_Namex4, ot := otref12_Namex4, oh := ohref12_Namex4, hk := [], tk := [], ot_to := fun _ _ => rfl, oh_to := fun _ _ => rfl }
def Fref12_Name (N : Nat) (s : List UInt8) : Option (Bool) :=
 (bif ((((s == []) || (decide (255 < ((s).length : Int)))) || (s == [46])) || (s == [46, 46])) then
 (some false)
 else
 (iter N (fun (s1 : Sref12_Namex4) next2 =>
 (bif (decide (s1.i < ((s).length : Int))) then
 (bif (ibB s1.i ((s).length : Int)) then
 (bif ((((s).getD ((s1.i).toNat) 0).toNat : Int) == 47) then
 (some false)
 else
 (next2 ⟨(IntKind.i64.wrap (s1.i + 1))⟩))
 else none)
 else
 (some true))) ⟨0⟩))
def conref12_Name : Con τ := { args := [.ty 9], L := [], ret := .ty 4, L' := [], R := Bool, dflt := default, F := fun N a b => Fref12_Name N a.1, of := fun r => (r, ()) }
noncomputable def datref12_Name : Dat τ := { D := D0, tbl := tblOf [], lp := lpsOf [(4, lpref12_Namex4)], k0 := 0, mu := [], un := [] }
theorem okref12_Name : ConOk E C 114 conref12_Name :=
  con_ok (D := datref12_Name) ⟨d0Ok, eGood, tblOf_ok trivial, fun _ => rfl⟩ conref12_Name (fun a b => a) none (fun _ _ => rfl) rfl (fun _ _ h => nomatch h) 1000000 (fn := Try.f114) Try.func114 rfl (by kernel_rfl) (by kernel_rfl) rfl (by intro N a b; kernel_rfl)
structure Sref12_Tree_find_cf7x2 where
  i : Int
def tsref12_Tree_find_cf7x2 : List Sl := [.k, .k, .k, .k, .k, .k, .sh (.ty 2), .j, .j, .j, .j, .j, .j, .j, .j, .j, .j, .j, .j, .j, .j, .j, .j, .j, .j, .j, .j, .j, .k, .k, .k, .k, .k, .k, .k, .k, .k, .k, .k, .k, .k, .k, .k, .k, .k, .k, .k, .k]
def hsref12_Tree_find_cf7x2 : List ESh := [.keep, .keep]
def toref12_Tree_find_cf7x2 (a : Sl.Ts τ tsref12_Tree_find_cf7x2) (b : ESh.Ts τ hsref12_Tree_find_cf7x2) : Sref12_Tree_find_cf7x2 := ⟨a.2.2.2.2.2.2.1⟩
def otref12_Tree_find_cf7x2 (s : Sref12_Tree_find_cf7x2) : Sl.Ts τ tsref12_Tree_find_cf7x2 := ((), (), (), (), (), (), s.i, (), (), (), (), (), (), (), (), (), (), (), (), (), (), (), (), (), (), (), (), (), (), (), (), (), (), (), (), (), (), (), (), (), (), (), (), (), (), (), (), (), ())
def ohref12_Tree_find_cf7x2 (s : Sref12_Tree_find_cf7x2) : ESh.Ts τ hsref12_Tree_find_cf7x2 := ((), (), ())
def lpref12_Tree_find_cf7x2 : Lp τ := { ts := tsref12_Tree_find_cf7x2, hs := hsref12_Tree_find_cf7x2, S := Sref12_Tree_find_cf7x2, to := toref12_Tree_find_cf7x2, ot := otref12_Tree_find_cf7x2, oh := ohref12_Tree_find_cf7x2, hk := [2, 4], tk := [2], ot_to := fun _ _ => rfl, oh_to := fun _ _ => rfl }
def Fref12_Tree_find_cf7 (N : Nat) (n : Int) (b0 : Nat) (b02 : List (List (GTreeNode))) (g1 : List (GTreeNode)) : Option (Int × Bool × Nat × (List (List (GTreeNode))) × (List (GTreeNode))) :=
 (iter N (fun (s1 : Sref12_Tree_find_cf7x2) next2 =>
 (bif (!(decide (s1.i < ((b0 : Nat) : Int))) || (ibB s1.i ((b0 : Nat) : Int))) then
 (bif (!(decide (s1.i < ((b0 : Nat) : Int))) || (decide ((s1.i).toNat < (g1).length))) then
 (bif ((decide (s1.i < ((b0 : Nat) : Int))) && (decide (((g1.getD ((s1.i).toNat) default).Node) < n))) then
 (next2 ⟨(IntKind.i64.wrap (s1.i + 1))⟩)
 else
 (bif (!(decide (s1.i < ((b0 : Nat) : Int))) || (ibB s1.i ((b0 : Nat) : Int))) then
 (bif (!(decide (s1.i < ((b0 : Nat) : Int))) || (decide ((s1.i).toNat < (g1).length))) then
 (some (s1.i, ((decide (s1.i < ((b0 : Nat) : Int))) && (((g1.getD ((s1.i).toNat) default).Node) == n)), b0, b02, g1))
 else none)
 else none))
 else none)
 else none)) ⟨0⟩)
def conref12_Tree_find_cf7 : Con τ := { args := [.ptr 0 [], .ty 2], L := [.box (.agg [.msl 98 1, .ty 150]), .gbx 98], ret := .tup [.ty 3, .ty 4], L' := [.box (.agg [.msl 98 1, .ty 150]), .gbx 98], R := Int × Bool × Nat × (List (List (GTreeNode))) × (List (GTreeNode)), dflt := (default, default, default, default, default), F := fun N a b => Fref12_Tree_find_cf7 N a.2.1 b.1.1 b.1.2.1 b.2.1, of := fun r => ((r.1, r.2.1, ()), ((r.2.2.1, r.2.2.2.1, ()), r.2.2.2.2, ())) }
noncomputable def datref12_Tree_find_cf7 : Dat τ := { D := D0, tbl := tblOf [], lp := lpsOf [(2, lpref12_Tree_find_cf7x2)], k0 := 2, mu := [], un := [] }
theorem okref12_Tree_find_cf7 : ConOk E C 117 conref12_Tree_find_cf7 :=
  con_ok (D := datref12_Tree_find_cf7) ⟨d0Ok, eGood, tblOf_ok trivial, fun _ => rfl⟩ conref12_Tree_find_cf7 (fun a b => (a.1, a.2.1, b.1.1, b.1.2.1, b.2.1)) none (fun _ _ => rfl) rfl (fun _ _ h => nomatch h) 1000000 (fn := Try.f117) Try.func117 rfl (by kernel_rfl) (by kernel_rfl) rfl (by intro N a b; kernel_rfl)
def Fref12_Tree_put_7c5 (N : Nat) (x : GTreeNode) (b0 : Nat) (b02 : List (List (GTreeNode))) (g1 : List (GTreeNode)) : Option (Nat × (List (List (GTreeNode))) × (List (GTreeNode))) :=
 ((Fref12_Tree_find_cf7 N x.Node b0 b02 g1).bind fun r1 =>
 (bif r1.2.1 then
 (bif (ibB r1.1 ((r1.2.2.1 : Nat) : Int)) then
 (bif (decide ((r1.1).toNat < (r1.2.2.2.2).length)) then
 (some (r1.2.2.1, r1.2.2.2.1, (r1.2.2.2.2.set ((r1.1).toNat) x)))
 else none)
 else none)
 else
 (bif (cutW 0 r1.1 ((r1.2.2.1 : Nat) : Int) ((r1.2.2.1 : Nat) : Int)) then
 (bif ((lenB ((((r1.2.2.2.2.drop 0).take ((r1.1).toNat))).length) 56) && (Nat.ble (0 + (r1.1).toNat) (r1.2.2.2.2).length)) then
 (bif ((lenB ((((r1.2.2.2.2.drop 0).take ((r1.1).toNat))).length + ([x]).length) 56) && (Nat.ble ((((r1.2.2.2.2.drop 0).take ((r1.1).toNat))).length) (((r1.2.2.2.2.drop 0).take ((r1.1).toNat))).length)) then
 (bif (cutW r1.1 ((r1.2.2.1 : Nat) : Int) ((r1.2.2.1 : Nat) : Int) ((r1.2.2.1 : Nat) : Int)) then
 (bif (((lenB (((((r1.2.2.2.2.drop 0).take ((r1.1).toNat))).length + ([x]).length) + (((r1.2.2.2.2.drop (0 + (r1.1).toNat)).take (r1.2.2.1 - (r1.1).toNat))).length) 56) && (Nat.ble ((((r1.2.2.2.2.drop 0).take ((r1.1).toNat))).length + ([x]).length) ((((r1.2.2.2.2.drop 0).take ((r1.1).toNat)).take ((((r1.2.2.2.2.drop 0).take ((r1.1).toNat))).length) ++ [x])).length)) && (Nat.ble ((0 + (r1.1).toNat) + (r1.2.2.1 - (r1.1).toNat)) (r1.2.2.2.2).length)) then
 (some ((((((r1.2.2.2.2.drop 0).take ((r1.1).toNat))).length + ([x]).length) + (((r1.2.2.2.2.drop (0 + (r1.1).toNat)).take (r1.2.2.1 - (r1.1).toNat))).length), r1.2.2.2.1, ((((r1.2.2.2.2.drop 0).take ((r1.1).toNat)).take ((((r1.2.2.2.2.drop 0).take ((r1.1).toNat))).length) ++ [x]).take ((((r1.2.2.2.2.drop 0).take ((r1.1).toNat))).length + ([x]).length) ++ ((r1.2.2.2.2.drop (0 + (r1.1).toNat)).take (r1.2.2.1 - (r1.1).toNat)))))
 else none)
 else none)
 else none)
 else none)
 else none)))
def conref12_Tree_put_7c5 : Con τ := { args := [.ptr 0 [], .ty 98], L := [.box (.agg [.msl 98 1, .ty 150]), .gbx 98], ret := .tup [], L' := [.box (.agg [.msl 98 2, .ty 150]), .dead, .gbx 98], R := Nat × (List (List (GTreeNode))) × (List (GTreeNode)), dflt := (default, default, default), F := fun N a b => Fref12_Tree_put_7c5 N a.2.1 b.1.1 b.1.2.1 b.2.1, of := fun r => ((), ((r.1, r.2.1, ()), (), r.2.2, ())) }
noncomputable def datref12_Tree_put_7c5 : Dat τ := { D := D0, tbl := tblOf [(117, conref12_Tree_find_cf7)], lp := lpsOf [], k0 := 2, mu := [27, 28, 32, 40, 41], un := [] }
theorem okref12_Tree_put_7c5 : ConOk E C 115 conref12_Tree_put_7c5 :=
  con_ok (D := datref12_Tree_put_7c5) ⟨d0Ok, eGood, tblOf_ok ⟨okref12_Tree_find_cf7, trivial⟩, fun _ => rfl⟩ conref12_Tree_put_7c5 (fun a b => (b.1.1, b.1.2.1, b.2.2.1)) none (fun _ _ => rfl) rfl (fun _ _ h => nomatch h) 1000000 (fn := Try.f115) Try.func115 rfl (by kernel_rfl) (by kernel_rfl) rfl (by intro N a b; kernel_rfl)
structure Sref12_clone_228x3 where
  out : List (GTreeNode)
  i : Int
def tsref12_clone_228x3 : List Sl := [.k, .k, .k, .sh (.own 98 1), .sh (.ty 2), .j, .j, .j, .j, .j, .j, .j, .j, .j, .j, .j, .j, .j, .j, .j, .j, .j, .j, .j, .k]
def hsref12_clone_228x3 : List ESh := [.keep, .tail]
def toref12_clone_228x3 (a : Sl.Ts τ tsref12_clone_228x3) (b : ESh.Ts τ hsref12_clone_228x3) : Sref12_clone_228x3 := ⟨a.2.2.2.1, a.2.2.2.2.1⟩
def otref12_clone_228x3 (s : Sref12_clone_228x3) : Sl.Ts τ tsref12_clone_228x3 := ((), (), (), s.out, s.i, (), (), (), (), (), (), (), (), (), (), (), (), (), (), (), (), (), (), (), (), ())
def ohref12_clone_228x3 (s : Sref12_clone_228x3) : ESh.Ts τ hsref12_clone_228x3 := ((), (), ())
def lpref12_clone_228x3 : Lp τ := { ts := tsref12_clone_228x3, hs := hsref12_clone_228x3, S := Sref12_clone_228x3, to := toref12_clone_228x3, ot := otref12_clone_228x3, oh := ohref12_clone_228x3, hk := [4], tk := [], ot_to := fun _ _ => rfl, oh_to := fun _ _ => rfl }
def Fref12_clone_228 (N : Nat) (l : Nat) (g0 : List (GTreeNode)) : Option ((List (GTreeNode)) × (List (GTreeNode))) :=
 (iter N (fun (s1 : Sref12_clone_228x3) next2 =>
 (bif (decide (s1.i < ((l : Nat) : Int))) then
 (bif (ibB s1.i ((l : Nat) : Int)) then
 (bif (decide ((s1.i).toNat < (g0).length)) then
 (bif (lenB (((g0.getD ((s1.i).toNat) default).Attrs).length) 32) then
 (bif (lenB ((s1.out).length + ([(g0.getD ((s1.i).toNat) default)]).length) 56) then
 (next2 ⟨(s1.out ++ [(g0.getD ((s1.i).toNat) default)]), (IntKind.i64.wrap (s1.i + 1))⟩)
 else none)
 else none)
 else none)
 else none)
 else
 (some (s1.out, g0)))) ⟨[], 0⟩)
def conref12_clone_228 : Con τ := { args := [.msl 98 0], L := [.gbx 98], ret := .ty 27, L' := [.gbx 98], R := (List (GTreeNode)) × (List (GTreeNode)), dflt := (default, default), F := fun N a b => Fref12_clone_228 N a.1 b.1, of := fun r => (r.1, (r.2, ())) }
noncomputable def datref12_clone_228 : Dat τ := { D := D0, tbl := tblOf [], lp := lpsOf [(3, lpref12_clone_228x3)], k0 := 1, mu := [], un := [] }
theorem okref12_clone_228 : ConOk E C 116 conref12_clone_228 :=
  con_ok (D := datref12_clone_228) ⟨d0Ok, eGood, tblOf_ok trivial, fun _ => rfl⟩ conref12_clone_228 (fun a b => (a, b.1)) none (fun _ _ => rfl) rfl (fun _ _ h => nomatch h) 1000000 (fn := Try.f116) Try.func116 rfl (by kernel_rfl) (by kernel_rfl) rfl (by intro N a b; kernel_rfl)
structure Sref12_Tree_find_5cex2 where
  i : Int
def tsref12_Tree_find_5cex2 : List Sl := [.k, .k, .k, .k, .k, .k, .sh (.ty 2), .j, .j, .j, .j, .j, .j, .j, .j, .j, .j, .j, .j, .j, .j, .j, .j, .j, .j, .j, .j, .j, .k, .k, .k, .k, .k, .k, .k, .k, .k, .k, .k, .k, .k, .k, .k, .k, .k, .k, .k, .k]
def hsref12_Tree_find_5cex2 : List ESh := [.keep]
def toref12_Tree_find_5cex2 (a : Sl.Ts τ tsref12_Tree_find_5cex2) (b : ESh.Ts τ hsref12_Tree_find_5cex2) : Sref12_Tree_find_5cex2 := ⟨a.2.2.2.2.2.2.1⟩
def otref12_Tree_find_5cex2 (s : Sref12_Tree_find_5cex2) : Sl.Ts τ tsref12_Tree_find_5cex2 := ((), (), (), (), (), (), s.i, (), (), (), (), (), (), (), (), (), (), (), (), (), (), (), (), (), (), (), (), (), (), (), (), (), (), (), (), (), (), (), (), (), (), (), (), (), (), (), (), (), ())
def ohref12_Tree_find_5cex2 (s : Sref12_Tree_find_5cex2) : ESh.Ts τ hsref12_Tree_find_5cex2 := ((), ())
def lpref12_Tree_find_5cex2 : Lp τ := { ts := tsref12_Tree_find_5cex2, hs := hsref12_Tree_find_5cex2, S := Sref12_Tree_find_5cex2, to := toref12_Tree_find_5cex2, ot := otref12_Tree_find_5cex2, oh := ohref12_Tree_find_5cex2, hk := [2], tk := [2], ot_to := fun _ _ => rfl, oh_to := fun _ _ => rfl }
def Fref12_Tree_find_5ce (N : Nat) (n : Int) (b0 : Gorchardref12_Tree) : Option (Int × Bool × Gorchardref12_Tree) :=
 (iter N (fun (s1 : Sref12_Tree_find_5cex2) next2 =>
 (bif (!(decide (s1.i < ((b0.nodes).length : Int))) || (ibB s1.i ((b0.nodes).length : Int))) then
 (bif ((decide (s1.i < ((b0.nodes).length : Int))) && (decide (((lget b0.nodes s1.i default).Node) < n))) then
 (next2 ⟨(IntKind.i64.wrap (s1.i + 1))⟩)
 else
 (bif (!(decide (s1.i < ((b0.nodes).length : Int))) || (ibB s1.i ((b0.nodes).length : Int))) then
 (some (s1.i, ((decide (s1.i < ((b0.nodes).length : Int))) && (((lget b0.nodes s1.i default).Node) == n)), b0))
 else none))
 else none)) ⟨0⟩)
def conref12_Tree_find_5ce : Con τ := { args := [.ptr 0 [], .ty 2], L := [.box (.ty 152)], ret := .tup [.ty 3, .ty 4], L' := [.box (.ty 152)], R := Int × Bool × Gorchardref12_Tree, dflt := (default, default, default), F := fun N a b => Fref12_Tree_find_5ce N a.2.1 b.1, of := fun r => ((r.1, r.2.1, ()), (r.2.2, ())) }
noncomputable def datref12_Tree_find_5ce : Dat τ := { D := D0, tbl := tblOf [], lp := lpsOf [(2, lpref12_Tree_find_5cex2)], k0 := 1, mu := [], un := [] }
theorem okref12_Tree_find_5ce : ConOk E C 117 conref12_Tree_find_5ce :=
  con_ok (D := datref12_Tree_find_5ce) ⟨d0Ok, eGood, tblOf_ok trivial, fun _ => rfl⟩ conref12_Tree_find_5ce (fun a b => (a.1, a.2.1, b.1)) none (fun _ _ => rfl) rfl (fun _ _ h => nomatch h) 1000000 (fn := Try.f117) Try.func117 rfl (by kernel_rfl) (by kernel_rfl) rfl (by intro N a b; kernel_rfl)
structure Sref12_Fromx3 where
  i : Int
  b0 : Nat
  b02 : List (List (GTreeNode))
  g2 : List (GTreeNode)
def tsref12_Fromx3 : List Sl := [.k, .k, .j, .j, .k, .sh (.ty 2), .j, .j, .k, .k, .k, .k, .k, .k, .j, .j, .j, .j, .j, .j, .j, .j, .j, .j, .j, .j, .j, .j, .j, .j, .j, .j, .j, .j, .j, .j, .j, .j, .j, .j, .j, .j, .j, .j, .j, .j, .j, .j, .j, .j, .j, .j, .j, .j, .j, .j, .j, .j, .j, .j, .j, .j, .j, .j, .j, .j, .j, .j, .j, .j, .j, .j, .j, .j, .j, .j, .j, .j, .j, .j, .j, .j, .k, .k, .k, .k, .k, .k, .k, .k, .k, .k, .k, .k, .k, .k, .k, .k, .k, .k, .k, .k, .k, .k, .k, .k, .k, .k, .k, .k, .k, .k, .k, .k, .k, .k, .k, .k, .k, .k, .k, .k, .k, .k, .k, .k, .k, .k, .k, .k, .k, .k, .k, .k, .k, .k, .k, .k, .k, .k, .k]
def hsref12_Fromx3 : List ESh := [.box (.agg [.msl 98 2, .ty 150]), .dead, .gbx 98]
def toref12_Fromx3 (a : Sl.Ts τ tsref12_Fromx3) (b : ESh.Ts τ hsref12_Fromx3) : Sref12_Fromx3 := ⟨a.2.2.2.2.2.1, b.1.1, b.1.2.1, b.2.2.1⟩
def otref12_Fromx3 (s : Sref12_Fromx3) : Sl.Ts τ tsref12_Fromx3 := ((), (), (), (), (), s.i, (), (), (), (), (), (), (), (), (), (), (), (), (), (), (), (), (), (), (), (), (), (), (), (), (), (), (), (), (), (), (), (), (), (), (), (), (), (), (), (), (), (), (), (), (), (), (), (), (), (), (), (), (), (), (), (), (), (), (), (), (), (), (), (), (), (), (), (), (), (), (), (), (), (), (), (), (), (), (), (), (), (), (), (), (), (), (), (), (), (), (), (), (), (), (), (), (), (), (), (), (), (), (), (), (), (), (), (), (), (), (), (), (), (), (), (), (), (), (), (), (), (), (), (), (), (), (), (), (), (), (), (), (), (), (), ())
def ohref12_Fromx3 (s : Sref12_Fromx3) : ESh.Ts τ hsref12_Fromx3 := ((s.b0, s.b02, ()), (), s.g2, ())
def lpref12_Fromx3 : Lp τ := { ts := tsref12_Fromx3, hs := hsref12_Fromx3, S := Sref12_Fromx3, to := toref12_Fromx3, ot := otref12_Fromx3, oh := ohref12_Fromx3, hk := [2, 4], tk := [0, 0, 1, 0, 2, 0, 0, 0, 0, 0, 0, 0, 0, 2], ot_to := fun _ _ => rfl, oh_to := fun _ _ => rfl }
structure Sref12_Fromx12 where
  i : Int
  b0 : Gorchardref12_Tree
def tsref12_Fromx12 : List Sl := [.k, .k, .j, .j, .k, .k, .k, .k, .sh (.ty 2), .j, .j, .j, .j, .k, .k, .k, .k, .k, .k, .k, .k, .k, .k, .k, .k, .k, .k, .k, .k, .k, .k, .k, .k, .k, .k, .k, .k, .k, .k, .k, .k, .k, .k, .k, .k, .k, .k, .k, .k, .k, .k, .k, .k, .k, .k, .k, .k, .k, .k, .k, .k, .k, .k, .k, .k, .k, .k, .k, .k, .k, .k, .k, .k, .k, .k, .k, .k, .k, .k, .k, .k, .k, .k, .k, .k, .k, .k, .k, .k, .k, .j, .j, .j, .j, .j, .j, .j, .j, .j, .j, .j, .j, .j, .j, .j, .j, .j, .j, .j, .j, .j, .j, .j, .j, .j, .j, .j, .j, .j, .j, .j, .j, .j, .j, .j, .j, .j, .j, .j, .j, .j, .j, .j, .j, .j, .j, .j, .j, .j, .j, .k]
def hsref12_Fromx12 : List ESh := [.box (.ty 151), .keep, .keep]
def toref12_Fromx12 (a : Sl.Ts τ tsref12_Fromx12) (b : ESh.Ts τ hsref12_Fromx12) : Sref12_Fromx12 := ⟨a.2.2.2.2.2.2.2.2.1, b.1⟩
def otref12_Fromx12 (s : Sref12_Fromx12) : Sl.Ts τ tsref12_Fromx12 := ((), (), (), (), (), (), (), (), s.i, (), (), (), (), (), (), (), (), (), (), (), (), (), (), (), (), (), (), (), (), (), (), (), (), (), (), (), (), (), (), (), (), (), (), (), (), (), (), (), (), (), (), (), (), (), (), (), (), (), (), (), (), (), (), (), (), (), (), (), (), (), (), (), (), (), (), (), (), (), (), (), (), (), (), (), (), (), (), (), (), (), (), (), (), (), (), (), (), (), (), (), (), (), (), (), (), (), (), (), (), (), (), (), (), (), (), (), (), (), (), (), (), (), (), (), (), (), (), (), (), (), (), (), (), (), (), (), (), (), (), (), (), ())
def ohref12_Fromx12 (s : Sref12_Fromx12) : ESh.Ts τ hsref12_Fromx12 := (s.b0, (), (), ())
def lpref12_Fromx12 : Lp τ := { ts := tsref12_Fromx12, hs := hsref12_Fromx12, S := Sref12_Fromx12, to := toref12_Fromx12, ot := otref12_Fromx12, oh := ohref12_Fromx12, hk := [2, 1, 4], tk := [0, 0, 0, 0, 2, 0, 0, 0, 0, 0, 0, 0, 0, 2, 0, 0, 0, 0, 0, 0, 0, 0, 0, 0, 0, 0, 0, 0, 0, 0, 0, 0, 0, 0, 0, 0, 0, 0, 0, 0, 0, 0, 0, 0, 0, 0, 0, 0, 0, 0, 0, 0, 0, 0, 0, 0, 0, 0, 0, 0, 0, 0, 0, 0, 0, 0, 0, 0, 0, 0, 0, 0, 0, 0, 0, 0, 0, 0, 0, 0, 0, 0, 2, 2, 2, 2, 0, 0, 2, 2], ot_to := fun _ _ => rfl, oh_to := fun _ _ => rfl }
structure Sref12_Fromx16 where
  n : Int
  k : Int
  b0 : Gorchardref12_Tree
def tsref12_Fromx16 : List Sl := [.k, .k, .j, .j, .k, .k, .k, .k, .k, .sh (.ty 2), .sh (.ty 2), .j, .j, .k, .k, .k, .k, .k, .k, .k, .k, .k, .k, .k, .k, .k, .k, .k, .k, .k, .k, .k, .k, .k, .k, .k, .k, .k, .k, .k, .k, .k, .k, .k, .k, .k, .k, .k, .k, .k, .k, .k, .k, .k, .k, .k, .k, .k, .k, .k, .k, .k, .k, .k, .k, .k, .k, .k, .k, .k, .k, .k, .k, .k, .k, .k, .k, .k, .k, .k, .k, .k, .k, .k, .k, .k, .k, .k, .k, .k, .k, .k, .k, .k, .k, .k, .k, .k, .k, .k, .k, .k, .k, .k, .k, .k, .k, .j, .j, .j, .j, .j, .j, .j, .j, .j, .j, .j, .j, .j, .j, .j, .j, .j, .j, .j, .j, .j, .j, .j, .j, .j, .j, .j, .j, .j, .j, .j, .j, .j, .k]
def hsref12_Fromx16 : List ESh := [.box (.ty 151), .keep, .keep]
def toref12_Fromx16 (a : Sl.Ts τ tsref12_Fromx16) (b : ESh.Ts τ hsref12_Fromx16) : Sref12_Fromx16 := ⟨a.2.2.2.2.2.2.2.2.2.1, a.2.2.2.2.2.2.2.2.2.2.1, b.1⟩
def otref12_Fromx16 (s : Sref12_Fromx16) : Sl.Ts τ tsref12_Fromx16 := ((), (), (), (), (), (), (), (), (), s.n, s.k, (), (), (), (), (), (), (), (), (), (), (), (), (), (), (), (), (), (), (), (), (), (), (), (), (), (), (), (), (), (), (), (), (), (), (), (), (), (), (), (), (), (), (), (), (), (), (), (), (), (), (), (), (), (), (), (), (), (), (), (), (), (), (), (), (), (), (), (), (), (), (), (), (), (), (), (), (), (), (), (), (), (), (), (), (), (), (), (), (), (), (), (), (), (), (), (), (), (), (), (), (), (), (), (), (), (), (), (), (), (), (), (), (), (), (), (), (), (), (), (), (), (), (), (), (), (), (), (), (), (), ())
def ohref12_Fromx16 (s : Sref12_Fromx16) : ESh.Ts τ hsref12_Fromx16 := (s.b0, (), (), ())
def lpref12_Fromx16 : Lp τ := { ts := tsref12_Fromx16, hs := hsref12_Fromx16, S := Sref12_Fromx16, to := toref12_Fromx16, ot := otref12_Fromx16, oh := ohref12_Fromx16, hk := [2, 1, 4], tk := [0, 0, 0, 0, 2, 0, 0, 0, 0, 0, 0, 0, 0, 2, 0, 0, 0, 0, 0, 0, 0, 0, 0, 0, 0, 0, 0, 0, 0, 0, 0, 0, 0, 0, 0, 0, 0, 0, 0, 0, 0, 0, 0, 0, 0, 0, 0, 0, 0, 0, 0, 0, 0, 0, 0, 0, 0, 0, 0, 0, 0, 0, 0, 0, 0, 0, 0, 0, 0, 0, 0, 0, 0, 0, 0, 0, 0, 0, 0, 0, 0, 0, 2, 2, 2, 2, 0, 0, 2, 2, 0, 2, 2, 2, 0, 0, 0, 0, 0, 2, 2, 2], ot_to := fun _ _ => rfl, oh_to := fun _ _ => rfl }
def Fref12_From (N : Nat) (l : List (GTreeNode)) : Option (Bool × Bool × (List (GTreeNode)) × (List (List (GTreeNode))) × Bool) :=
 ((Fref12_New_06d N).bind fun r1 =>
 (iter N (fun (s2 : Sref12_Fromx3) next3 =>
 (bif (decide (s2.i < ((l).length : Int))) then
 (bif (ibB s2.i ((l).length : Int)) then
 (bif (!((!(decide (((lget l s2.i default).Node) < 1))) && (decide (0 < s2.i))) || (ibB (IntKind.i64.wrap (s2.i - 1)) ((l).length : Int))) then
 ((bif (!((decide (((lget l s2.i default).Node) < 1)) || ((decide (0 < s2.i)) && (decide (((lget l s2.i default).Node) ≤ ((lget l (IntKind.i64.wrap (s2.i - 1)) default).Node)))))) then Fref12_attrs N ((lget l s2.i default).Attrs) else some default).bind fun r4 =>
 ((bif ((!((((decide (((lget l s2.i default).Node) < 1)) || ((decide (0 < s2.i)) && (decide (((lget l s2.i default).Node) ≤ ((lget l (IntKind.i64.wrap (s2.i - 1)) default).Node))))) || (!r4)) || (((((lget l s2.i default).Node) == 1) || (((lget l s2.i default).Node) == 2)) && ((!(((lget l s2.i default).Parent) == 0)) || (!(((lget l s2.i default).Name) == [])))))) && (!((((lget l s2.i default).Node) == 1) || (((lget l s2.i default).Node) == 2)))) then Fref12_Name N ((lget l s2.i default).Name) else some default).bind fun r5 =>
 (bif (((((decide (((lget l s2.i default).Node) < 1)) || ((decide (0 < s2.i)) && (decide (((lget l s2.i default).Node) ≤ ((lget l (IntKind.i64.wrap (s2.i - 1)) default).Node))))) || (!r4)) || (((((lget l s2.i default).Node) == 1) || (((lget l s2.i default).Node) == 2)) && ((!(((lget l s2.i default).Parent) == 0)) || (!(((lget l s2.i default).Name) == []))))) || ((!((((lget l s2.i default).Node) == 1) || (((lget l s2.i default).Node) == 2))) && (!r5))) then
 (some (true, default, default, default, false))
 else
 ((Fref12_Tree_put_7c5 N (lget l s2.i default) s2.b0 s2.b02 s2.g2).bind fun r6 =>
 (next3 ⟨(IntKind.i64.wrap (s2.i + 1)), r6.1, r6.2.1, r6.2.2⟩)))))
 else none)
 else none)
 else
 ((Fref12_clone_228 N s2.b0 s2.g2).bind fun r7 =>
 (iter N (fun (s8 : Sref12_Fromx12) next9 =>
 (bif (decide (s8.i < ((s8.b0.nodes).length : Int))) then
 (bif (ibB s8.i ((s8.b0.nodes).length : Int)) then
 (iter N (fun (s10 : Sref12_Fromx16) next11 =>
 (bif ((!(s10.n == 1)) && (!(s10.n == 2))) then
 ((Fref12_Tree_find_5ce N s10.n s10.b0).bind fun r12 =>
 (bif ((!r12.2.1) || (decide (((r12.2.2.nodes).length : Int) < s10.k))) then
 (some (true, default, default, default, false))
 else
 (bif (ibB r12.1 ((r12.2.2.nodes).length : Int)) then
 (next11 ⟨(lget r12.2.2.nodes r12.1 default).Parent, (IntKind.i64.wrap (s10.k + 1)), r12.2.2⟩)
 else none)))
 else
 (next9 ⟨(IntKind.i64.wrap (s8.i + 1)), s10.b0⟩))) ⟨(lget s8.b0.nodes s8.i default).Node, 0, s8.b0⟩)
 else none)
 else
 (some (false, true, s8.b0.nodes, s8.b0.was, default)))) ⟨0, (⟨r7.1, s2.b02⟩ : Gorchardref12_Tree)⟩)))) ⟨0, r1.1, r1.2.1, r1.2.2⟩))
def altref12_From : Alt τ (Bool × Bool × (List (GTreeNode)) × (List (List (GTreeNode))) × Bool) := { ret := .tup [.nil .ptr, .ty 4], L' := [], of := fun r => (((), r.2.2.2.2, ()), ()) }
def conref12_From : Con τ := { args := [.ty 27], L := [], ret := .tup [.ptr 0 [], .ty 4], L' := [.box (.agg [.ty 27, .ty 150])], R := Bool × Bool × (List (GTreeNode)) × (List (List (GTreeNode))) × Bool, dflt := (default, default, default, default, default), F := fun N a b => Fref12_From N a.1, of := fun r => (((), r.2.1, ()), ((r.2.2.1, r.2.2.2.1, ()), ())), alt := some altref12_From, sel := fun r => r.1 }
noncomputable def datref12_From : Dat τ := { D := D0, tbl := tblOf [(112, conref12_New_06d), (113, conref12_attrs), (114, conref12_Name), (115, conref12_Tree_put_7c5), (116, conref12_clone_228), (117, conref12_Tree_find_5ce)], lp := lpsOf [(3, lpref12_Fromx3), (12, lpref12_Fromx12), (16, lpref12_Fromx16)], k0 := 0, mu := [], un := [] }
theorem okref12_From : ConOk E C 77 conref12_From :=
  con_ok (D := datref12_From) ⟨d0Ok, eGood, tblOf_ok ⟨okref12_New_06d, ⟨okref12_attrs, ⟨okref12_Name, ⟨okref12_Tree_put_7c5, ⟨okref12_clone_228, ⟨okref12_Tree_find_5ce, trivial⟩⟩⟩⟩⟩⟩, fun _ => rfl⟩ conref12_From (fun a b => (false, a.2.1, b.1.1, b.1.2.1, default)) (some ⟨altref12_From, fun a b => (true, default, default, default, a.2.1)⟩) (fun _ _ => rfl) rfl (fun A t h => by cases h; exact ⟨fun _ _ => rfl, fun _ _ => rfl, fun _ _ => rfl⟩) 1000000 (fn := Try.f77) Try.func77 rfl (by kernel_rfl) (by kernel_rfl) rfl (by intro N a b; kernel_rfl)
def Fref11_Site (N : Nat) (n : Int) : Option (Bool) :=
 (some ((decide (0 ≤ n)) && (decide (n < 8))))
def conref11_Site : Con τ := { args := [.ty 3], L := [], ret := .ty 4, L' := [], R := Bool, dflt := default, F := fun N a b => Fref11_Site N a.1, of := fun r => (r, ()) }
noncomputable def datref11_Site : Dat τ := { D := D0, tbl := tblOf [], lp := lpsOf [], k0 := 0, mu := [], un := [] }
theorem okref11_Site : ConOk E C 107 conref11_Site :=
  con_ok (D := datref11_Site) ⟨d0Ok, eGood, tblOf_ok trivial, fun _ => rfl⟩ conref11_Site (fun a b => a) none (fun _ _ => rfl) rfl (fun _ _ h => nomatch h) 1000000 (fn := Try.f107) Try.func107 rfl (by kernel_rfl) (by kernel_rfl) rfl (by intro N a b; kernel_rfl)
def Fref11_Check (N : Nat) (s : GStamp) : Option (Bool) :=
 ((bif ((decide (1 ≤ s.Time)) && (decide (s.Time ≤ 1099511627776))) then Fref11_Site N s.Site else some default).bind fun r1 =>
 (some (((decide (1 ≤ s.Time)) && (decide (s.Time ≤ 1099511627776))) && r1)))
def conref11_Check : Con τ := { args := [.ty 41], L := [], ret := .ty 4, L' := [], R := Bool, dflt := default, F := fun N a b => Fref11_Check N a.1, of := fun r => (r, ()) }
noncomputable def datref11_Check : Dat τ := { D := D0, tbl := tblOf [(107, conref11_Site)], lp := lpsOf [], k0 := 0, mu := [], un := [] }
theorem okref11_Check : ConOk E C 60 conref11_Check :=
  con_ok (D := datref11_Check) ⟨d0Ok, eGood, tblOf_ok ⟨okref11_Site, trivial⟩, fun _ => rfl⟩ conref11_Check (fun a b => a) none (fun _ _ => rfl) rfl (fun _ _ h => nomatch h) 1000000 (fn := Try.f60) Try.func60 rfl (by kernel_rfl) (by kernel_rfl) rfl (by intro N a b; kernel_rfl)
def Fref11_Node (N : Nat) (s : GStamp) : Option (Int) :=
 ((Fref11_Check N s).bind fun r1 =>
 (bif (!r1) then
 (some 0)
 else
 (some (IntKind.i64.wrap ((IntKind.i64.wrap (16 + (IntKind.i64.wrap (s.Time * 8)))) + s.Site)))))
def conref11_Node : Con τ := { args := [.ty 41], L := [], ret := .ty 2, L' := [], R := Int, dflt := default, F := fun N a b => Fref11_Node N a.1, of := fun r => (r, ()) }
noncomputable def datref11_Node : Dat τ := { D := D0, tbl := tblOf [(60, conref11_Check)], lp := lpsOf [], k0 := 0, mu := [], un := [] }
theorem okref11_Node : ConOk E C 61 conref11_Node :=
  con_ok (D := datref11_Node) ⟨d0Ok, eGood, tblOf_ok ⟨okref11_Check, trivial⟩, fun _ => rfl⟩ conref11_Node (fun a b => a) none (fun _ _ => rfl) rfl (fun _ _ h => nomatch h) 1000000 (fn := Try.f61) Try.func61 rfl (by kernel_rfl) (by kernel_rfl) rfl (by intro N a b; kernel_rfl)
def Fref11_top (N : Nat) (node : Int) : Option (Bool) :=
 (some ((node == 1) || (node == 2)))
def conref11_top : Con τ := { args := [.ty 2], L := [], ret := .ty 4, L' := [], R := Bool, dflt := default, F := fun N a b => Fref11_top N a.1, of := fun r => (r, ()) }
noncomputable def datref11_top : Dat τ := { D := D0, tbl := tblOf [], lp := lpsOf [], k0 := 0, mu := [], un := [] }
theorem okref11_top : ConOk E C 64 conref11_top :=
  con_ok (D := datref11_top) ⟨d0Ok, eGood, tblOf_ok trivial, fun _ => rfl⟩ conref11_top (fun a b => a) none (fun _ _ => rfl) rfl (fun _ _ h => nomatch h) 1000000 (fn := Try.f64) Try.func64 rfl (by kernel_rfl) (by kernel_rfl) rfl (by intro N a b; kernel_rfl)
def Fref11_Of (N : Nat) (node : Int) : Option (GStamp × Bool) :=
 (bif (decide (node < 16)) then
 (some ((⟨0, 0⟩ : GStamp), false))
 else
 ((Fref11_Check N (⟨(IntKind.i64.wrap (Int.tdiv (IntKind.i64.wrap (node - 16)) 8)), (Int.tmod (IntKind.i64.wrap (node - 16)) 8)⟩ : GStamp)).bind fun r1 =>
 (bif (!r1) then
 (some ((⟨0, 0⟩ : GStamp), false))
 else
 (some ((⟨(IntKind.i64.wrap (Int.tdiv (IntKind.i64.wrap (node - 16)) 8)), (Int.tmod (IntKind.i64.wrap (node - 16)) 8)⟩ : GStamp), true)))))
def conref11_Of : Con τ := { args := [.ty 2], L := [], ret := .tup [.ty 41, .ty 4], L' := [], R := GStamp × Bool, dflt := (default, default), F := fun N a b => Fref11_Of N a.1, of := fun r => ((r.1, r.2, ()), ()) }
noncomputable def datref11_Of : Dat τ := { D := D0, tbl := tblOf [(60, conref11_Check)], lp := lpsOf [], k0 := 0, mu := [], un := [] }
theorem okref11_Of : ConOk E C 109 conref11_Of :=
  con_ok (D := datref11_Of) ⟨d0Ok, eGood, tblOf_ok ⟨okref11_Check, trivial⟩, fun _ => rfl⟩ conref11_Of (fun a b => (a.1, a.2.1)) none (fun _ _ => rfl) rfl (fun _ _ h => nomatch h) 1000000 (fn := Try.f109) Try.func109 rfl (by kernel_rfl) (by kernel_rfl) rfl (by intro N a b; kernel_rfl)
def Fref11_made (N : Nat) (node : Int) : Option (Bool) :=
 ((Fref11_Of N node).bind fun r1 =>
 (some r1.2))
def conref11_made : Con τ := { args := [.ty 2], L := [], ret := .ty 4, L' := [], R := Bool, dflt := default, F := fun N a b => Fref11_made N a.1, of := fun r => (r, ()) }
noncomputable def datref11_made : Dat τ := { D := D0, tbl := tblOf [(109, conref11_Of)], lp := lpsOf [], k0 := 0, mu := [], un := [] }
theorem okref11_made : ConOk E C 63 conref11_made :=
  con_ok (D := datref11_made) ⟨d0Ok, eGood, tblOf_ok ⟨okref11_Of, trivial⟩, fun _ => rfl⟩ conref11_made (fun a b => a) none (fun _ _ => rfl) rfl (fun _ _ h => nomatch h) 1000000 (fn := Try.f63) Try.func63 rfl (by kernel_rfl) (by kernel_rfl) rfl (by intro N a b; kernel_rfl)
structure Sref11_namex6 where
  i : Int
def tsref11_namex6 : List Sl := [.k, .k, .j, .sh (.ty 2), .k, .k, .k, .k, .k, .k, .j, .j, .k, .k, .j, .j, .k, .j, .j, .j, .j, .j, .j, .j, .j, .j, .j]
def hsref11_namex6 : List ESh := []
def toref11_namex6 (a : Sl.Ts τ tsref11_namex6) (b : ESh.Ts τ hsref11_namex6) : Sref11_namex6 := ⟨a.2.2.2.1⟩
def otref11_namex6 (s : Sref11_namex6) : Sl.Ts τ tsref11_namex6 := ((), (), (), s.i, (), (), (), (), (), (), (), (), (), (), (), (), (), (), (), (), (), (), (), (), (), (), (), ())
def ohref11_namex6 (s : Sref11_namex6) : ESh.Ts τ hsref11_namex6 := ()
def lpref11_namex6 : Lp τ := { ts := tsref11_namex6, hs := hsref11_namex6, S := Sref11_namex6, to := toref11_namex6, ot := otref11_namex6, oh := ohref11_namex6, hk := [], tk := [], ot_to := fun _ _ => rfl, oh_to := fun _ _ => rfl }
def Fref11_name (N : Nat) (s : List UInt8) : Option (Int) :=
 (bif (decide (255 < ((s).length : Int))) then
 (some 3)
 else
 (bif (((s == []) || (s == [46])) || (s == [46, 46])) then
 (some 1)
 else
 (iter N (fun (s1 : Sref11_namex6) next2 =>
 (bif (decide (s1.i < ((s).length : Int))) then
 (bif (ibB s1.i ((s).length : Int)) then
 (bif ((((s).getD ((s1.i).toNat) 0).toNat : Int) == 47) then
 (some 1)
 else
 (next2 ⟨(IntKind.i64.wrap (s1.i + 1))⟩))
 else none)
 else
 (some 0))) ⟨0⟩)))
def conref11_name : Con τ := { args := [.ty 9], L := [], ret := .ty 56, L' := [], R := Int, dflt := default, F := fun N a b => Fref11_name N a.1, of := fun r => (r, ()) }
noncomputable def datref11_name : Dat τ := { D := D0, tbl := tblOf [], lp := lpsOf [(6, lpref11_namex6)], k0 := 0, mu := [], un := [] }
theorem okref11_name : ConOk E C 108 conref11_name :=
  con_ok (D := datref11_name) ⟨d0Ok, eGood, tblOf_ok trivial, fun _ => rfl⟩ conref11_name (fun a b => a) none (fun _ _ => rfl) rfl (fun _ _ h => nomatch h) 1000000 (fn := Try.f108) Try.func108 rfl (by kernel_rfl) (by kernel_rfl) rfl (by intro N a b; kernel_rfl)
def Fref11_place (N : Nat) (op : GOp) : Option (Int) :=
 ((Fref11_top N op.Parent).bind fun r1 =>
 ((bif (!r1) then Fref11_made N op.Parent else some default).bind fun r2 =>
 (bif ((!r1) && (!r2)) then
 (some 1)
 else
 ((Fref11_name N op.Name).bind fun r3 =>
 (bif (!(r3 == 0)) then
 (some r3)
 else
 (bif ((!(op.Key == [])) || (!(op.Value == []))) then
 (some 1)
 else
 (some 0)))))))
def conref11_place : Con τ := { args := [.ty 43], L := [], ret := .ty 56, L' := [], R := Int, dflt := default, F := fun N a b => Fref11_place N a.1, of := fun r => (r, ()) }
noncomputable def datref11_place : Dat τ := { D := D0, tbl := tblOf [(64, conref11_top), (63, conref11_made), (108, conref11_name)], lp := lpsOf [], k0 := 0, mu := [], un := [] }
theorem okref11_place : ConOk E C 62 conref11_place :=
  con_ok (D := datref11_place) ⟨d0Ok, eGood, tblOf_ok ⟨okref11_top, ⟨okref11_made, ⟨okref11_name, trivial⟩⟩⟩, fun _ => rfl⟩ conref11_place (fun a b => a) none (fun _ _ => rfl) rfl (fun _ _ h => nomatch h) 1000000 (fn := Try.f62) Try.func62 rfl (by kernel_rfl) (by kernel_rfl) rfl (by intro N a b; kernel_rfl)
def Fref11_CheckOp (N : Nat) (op : GOp) : Option (Int) :=
 ((Fref11_Check N op.Stamp).bind fun r1 =>
 (bif (((!r1) || (decide (op.Kind < 1))) || (decide (3 < op.Kind))) then
 (some 1)
 else
 ((bif (op.Kind == 1) then Fref11_Node N op.Stamp else some default).bind fun r2 =>
 (bif ((op.Kind == 1) && (!(op.Node == r2))) then
 (some 1)
 else
 (bif (!(op.Kind == 3)) then
 ((Fref11_place N op).bind fun r3 =>
 (bif (!(r3 == 0)) then
 (some r3)
 else
 ((bif (op.Kind == 2) then Fref11_made N op.Node else some default).bind fun r4 =>
 ((bif ((!((op.Kind == 2) && (!r4))) && (op.Kind == 3)) then Fref11_made N op.Node else some default).bind fun r5 =>
 ((bif ((!((op.Kind == 2) && (!r4))) && ((op.Kind == 3) && (!r5))) then Fref11_top N op.Node else some default).bind fun r6 =>
 (bif (((op.Kind == 2) && (!r4)) || (((op.Kind == 3) && (!r5)) && (!r6))) then
 (some 1)
 else
 (bif (!(op.Kind == 3)) then
 (some 0)
 else
 (bif ((decide (255 < ((op.Key).length : Int))) || (decide (255 < ((op.Value).length : Int)))) then
 (some 3)
 else
 (bif (((op.Key == []) || (!(op.Parent == 0))) || (!(op.Name == []))) then
 (some 1)
 else
 (some 0))))))))))
 else
 ((bif (op.Kind == 2) then Fref11_made N op.Node else some default).bind fun r7 =>
 ((bif ((!((op.Kind == 2) && (!r7))) && (op.Kind == 3)) then Fref11_made N op.Node else some default).bind fun r8 =>
 ((bif ((!((op.Kind == 2) && (!r7))) && ((op.Kind == 3) && (!r8))) then Fref11_top N op.Node else some default).bind fun r9 =>
 (bif (((op.Kind == 2) && (!r7)) || (((op.Kind == 3) && (!r8)) && (!r9))) then
 (some 1)
 else
 (bif (!(op.Kind == 3)) then
 (some 0)
 else
 (bif ((decide (255 < ((op.Key).length : Int))) || (decide (255 < ((op.Value).length : Int)))) then
 (some 3)
 else
 (bif (((op.Key == []) || (!(op.Parent == 0))) || (!(op.Name == []))) then
 (some 1)
 else
 (some 0)))))))))))))
def conref11_CheckOp : Con τ := { args := [.ty 43], L := [], ret := .ty 56, L' := [], R := Int, dflt := default, F := fun N a b => Fref11_CheckOp N a.1, of := fun r => (r, ()) }
noncomputable def datref11_CheckOp : Dat τ := { D := D0, tbl := tblOf [(60, conref11_Check), (61, conref11_Node), (62, conref11_place), (63, conref11_made), (64, conref11_top)], lp := lpsOf [], k0 := 0, mu := [], un := [] }
theorem okref11_CheckOp : ConOk E C 36 conref11_CheckOp :=
  con_ok (D := datref11_CheckOp) ⟨d0Ok, eGood, tblOf_ok ⟨okref11_Check, ⟨okref11_Node, ⟨okref11_place, ⟨okref11_made, ⟨okref11_top, trivial⟩⟩⟩⟩⟩, fun _ => rfl⟩ conref11_CheckOp (fun a b => a) none (fun _ _ => rfl) rfl (fun _ _ h => nomatch h) 1000000 (fn := Try.f36) Try.func36 rfl (by kernel_rfl) (by kernel_rfl) rfl (by intro N a b; kernel_rfl)
def Fref14_less (N : Nat) (a : GStamp) (b : GStamp) : Option (Bool) :=
 (some ((decide (a.Time < b.Time)) || ((a.Time == b.Time) && (decide (a.Site < b.Site)))))
def conref14_less : Con τ := { args := [.ty 41, .ty 41], L := [], ret := .ty 4, L' := [], R := Bool, dflt := default, F := fun N a b => Fref14_less N a.1 a.2.1, of := fun r => (r, ()) }
noncomputable def datref14_less : Dat τ := { D := D0, tbl := tblOf [], lp := lpsOf [], k0 := 0, mu := [], un := [] }
theorem okref14_less : ConOk E C 118 conref14_less :=
  con_ok (D := datref14_less) ⟨d0Ok, eGood, tblOf_ok trivial, fun _ => rfl⟩ conref14_less (fun a b => a) none (fun _ _ => rfl) rfl (fun _ _ h => nomatch h) 1000000 (fn := Try.f118) Try.func118 rfl (by kernel_rfl) (by kernel_rfl) rfl (by intro N a b; kernel_rfl)
structure Sref14_logx2 where
  i : Int
def tsref14_logx2 : List Sl := [.k, .k, .k, .k, .j, .sh (.ty 2), .j, .j, .j, .j, .j, .j, .j, .j, .j, .j, .j, .j, .j, .j, .j, .j, .j, .j, .j, .j, .j, .j, .j, .j, .j, .j, .j, .j, .j, .j, .j, .j, .j, .j, .j, .j, .j, .j, .j, .j, .j, .k, .k, .k]
def hsref14_logx2 : List ESh := []
def toref14_logx2 (a : Sl.Ts τ tsref14_logx2) (b : ESh.Ts τ hsref14_logx2) : Sref14_logx2 := ⟨a.2.2.2.2.2.1⟩
def otref14_logx2 (s : Sref14_logx2) : Sl.Ts τ tsref14_logx2 := ((), (), (), (), (), s.i, (), (), (), (), (), (), (), (), (), (), (), (), (), (), (), (), (), (), (), (), (), (), (), (), (), (), (), (), (), (), (), (), (), (), (), (), (), (), (), (), (), (), (), (), ())
def ohref14_logx2 (s : Sref14_logx2) : ESh.Ts τ hsref14_logx2 := ()
def lpref14_logx2 : Lp τ := { ts := tsref14_logx2, hs := hsref14_logx2, S := Sref14_logx2, to := toref14_logx2, ot := otref14_logx2, oh := ohref14_logx2, hk := [], tk := [], ot_to := fun _ _ => rfl, oh_to := fun _ _ => rfl }
def Fref14_log (N : Nat) (l : List (GOp)) (above : Int) : Option (Bool) :=
 (iter N (fun (s1 : Sref14_logx2) next2 =>
 (bif (decide (s1.i < ((l).length : Int))) then
 (bif (ibB s1.i ((l).length : Int)) then
 ((Fref11_CheckOp N (⟨((lget l s1.i default).Stamp), (lget l s1.i default).Kind, (lget l s1.i default).Node, (lget l s1.i default).Parent, (lget l s1.i default).Name, (lget l s1.i default).Key, (lget l s1.i default).Value⟩ : GOp)).bind fun r3 =>
 (bif (!(!(!(r3 == 0))) || (ibB s1.i ((l).length : Int))) then
 (bif (!((!((!(r3 == 0)) || (decide ((((lget l s1.i default).Stamp).Time) ≤ above)))) && (decide (0 < s1.i))) || (ibB (IntKind.i64.wrap (s1.i - 1)) ((l).length : Int))) then
 (bif (!((!((!(r3 == 0)) || (decide ((((lget l s1.i default).Stamp).Time) ≤ above)))) && (decide (0 < s1.i))) || (ibB s1.i ((l).length : Int))) then
 ((bif ((!((!(r3 == 0)) || (decide ((((lget l s1.i default).Stamp).Time) ≤ above)))) && (decide (0 < s1.i))) then Fref14_less N ((lget l (IntKind.i64.wrap (s1.i - 1)) default).Stamp) ((lget l s1.i default).Stamp) else some default).bind fun r4 =>
 (bif (((!(r3 == 0)) || (decide ((((lget l s1.i default).Stamp).Time) ≤ above))) || ((decide (0 < s1.i)) && (!r4))) then
 (some false)
 else
 (next2 ⟨(IntKind.i64.wrap (s1.i + 1))⟩)))
 else none)
 else none)
 else none))
 else none)
 else
 (some (decide (((l).length : Int) ≤ 65536))))) ⟨0⟩)
def conref14_log : Con τ := { args := [.ty 28, .ty 2], L := [], ret := .ty 4, L' := [], R := Bool, dflt := default, F := fun N a b => Fref14_log N a.1 a.2.1, of := fun r => (r, ()) }
noncomputable def datref14_log : Dat τ := { D := D0, tbl := tblOf [(36, conref11_CheckOp), (118, conref14_less)], lp := lpsOf [(2, lpref14_logx2)], k0 := 0, mu := [], un := [] }
theorem okref14_log : ConOk E C 78 conref14_log :=
  con_ok (D := datref14_log) ⟨d0Ok, eGood, tblOf_ok ⟨okref11_CheckOp, ⟨okref14_less, trivial⟩⟩, fun _ => rfl⟩ conref14_log (fun a b => a) none (fun _ _ => rfl) rfl (fun _ _ h => nomatch h) 1000000 (fn := Try.f78) Try.func78 rfl (by kernel_rfl) (by kernel_rfl) rfl (by intro N a b; kernel_rfl)
def Fref04_site (N : Nat) (n : Int) : Option (Bool) :=
 (some ((decide (0 ≤ n)) && (decide (n < 8))))
def conref04_site : Con τ := { args := [.ty 3], L := [], ret := .ty 4, L' := [], R := Bool, dflt := default, F := fun N a b => Fref04_site N a.1, of := fun r => (r, ()) }
noncomputable def datref04_site : Dat τ := { D := D0, tbl := tblOf [], lp := lpsOf [], k0 := 0, mu := [], un := [] }
theorem okref04_site : ConOk E C 99 conref04_site :=
  con_ok (D := datref04_site) ⟨d0Ok, eGood, tblOf_ok trivial, fun _ => rfl⟩ conref04_site (fun a b => a) none (fun _ _ => rfl) rfl (fun _ _ h => nomatch h) 1000000 (fn := Try.f99) Try.func99 rfl (by kernel_rfl) (by kernel_rfl) rfl (by intro N a b; kernel_rfl)
def Fref04_MayStamp (N : Nat) (s : GStamp) : Option (Bool) :=
 ((Fref04_count N s.Time).bind fun r1 =>
 ((bif r1 then Fref04_site N s.Site else some default).bind fun r2 =>
 (some (r1 && r2))))
def conref04_MayStamp : Con τ := { args := [.ty 41], L := [], ret := .ty 4, L' := [], R := Bool, dflt := default, F := fun N a b => Fref04_MayStamp N a.1, of := fun r => (r, ()) }
noncomputable def datref04_MayStamp : Dat τ := { D := D0, tbl := tblOf [(95, conref04_count), (99, conref04_site)], lp := lpsOf [], k0 := 0, mu := [], un := [] }
theorem okref04_MayStamp : ConOk E C 119 conref04_MayStamp :=
  con_ok (D := datref04_MayStamp) ⟨d0Ok, eGood, tblOf_ok ⟨okref04_count, ⟨okref04_site, trivial⟩⟩, fun _ => rfl⟩ conref04_MayStamp (fun a b => a) none (fun _ _ => rfl) rfl (fun _ _ h => nomatch h) 1000000 (fn := Try.f119) Try.func119 rfl (by kernel_rfl) (by kernel_rfl) rfl (by intro N a b; kernel_rfl)
structure Sref14_rowsx2 where
  i : Int
def tsref14_rowsx2 : List Sl := [.k, .k, .j, .sh (.ty 2), .j, .j, .j, .j, .j, .j, .j, .j, .j, .j, .j, .j, .j, .j, .j, .j, .j, .j, .j, .j, .j, .j, .j, .j, .j, .j, .j, .j, .j, .j, .j, .j, .j, .j, .j, .j, .j, .j, .j, .j, .j, .j, .j, .j, .j, .j, .j, .j, .j, .j, .j, .j, .j, .j, .j, .j, .j, .j, .j, .j, .j, .j, .j, .j, .j, .j, .j, .j, .j, .j, .j, .j, .j, .j, .j, .j, .j, .k, .k, .k]
def hsref14_rowsx2 : List ESh := []
def toref14_rowsx2 (a : Sl.Ts τ tsref14_rowsx2) (b : ESh.Ts τ hsref14_rowsx2) : Sref14_rowsx2 := ⟨a.2.2.2.1⟩
def otref14_rowsx2 (s : Sref14_rowsx2) : Sl.Ts τ tsref14_rowsx2 := ((), (), (), s.i, (), (), (), (), (), (), (), (), (), (), (), (), (), (), (), (), (), (), (), (), (), (), (), (), (), (), (), (), (), (), (), (), (), (), (), (), (), (), (), (), (), (), (), (), (), (), (), (), (), (), (), (), (), (), (), (), (), (), (), (), (), (), (), (), (), (), (), (), (), (), (), (), (), (), (), (), (), (), (), (), ())
def ohref14_rowsx2 (s : Sref14_rowsx2) : ESh.Ts τ hsref14_rowsx2 := ()
def lpref14_rowsx2 : Lp τ := { ts := tsref14_rowsx2, hs := hsref14_rowsx2, S := Sref14_rowsx2, to := toref14_rowsx2, ot := otref14_rowsx2, oh := ohref14_rowsx2, hk := [], tk := [], ot_to := fun _ _ => rfl, oh_to := fun _ _ => rfl }
def Fref14_rows (N : Nat) (l : List (GRow)) : Option (Bool) :=
 (iter N (fun (s1 : Sref14_rowsx2) next2 =>
 (bif (decide (s1.i < ((l).length : Int))) then
 (bif (ibB s1.i ((l).length : Int)) then
 ((Fref14_count N ((lget l s1.i default).Session)).bind fun r3 =>
 ((bif (!((!r3) || (decide (((lget l s1.i default).Session) < 1)))) then Fref14_count N ((lget l s1.i default).Request) else some default).bind fun r4 =>
 (bif (!((!((((!r3) || (decide (((lget l s1.i default).Session) < 1))) || (!r4)) || (decide (((lget l s1.i default).Request) < 1)))) && (decide (0 < s1.i))) || (ibB (IntKind.i64.wrap (s1.i - 1)) ((l).length : Int))) then
 ((bif (!(((((((!r3) || (decide (((lget l s1.i default).Session) < 1))) || (!r4)) || (decide (((lget l s1.i default).Request) < 1))) || ((decide (0 < s1.i)) && (decide (((lget l s1.i default).Session) ≤ ((lget l (IntKind.i64.wrap (s1.i - 1)) default).Session))))) || (decide ((((lget l s1.i default).Reply).Err) < 0))) || (decide (999 < (((lget l s1.i default).Reply).Err))))) then Fref04_MayStamp N (((lget l s1.i default).Reply).Stamp) else some default).bind fun r5 =>
 (bif ((((((((((!r3) || (decide (((lget l s1.i default).Session) < 1))) || (!r4)) || (decide (((lget l s1.i default).Request) < 1))) || ((decide (0 < s1.i)) && (decide (((lget l s1.i default).Session) ≤ ((lget l (IntKind.i64.wrap (s1.i - 1)) default).Session))))) || (decide ((((lget l s1.i default).Reply).Err) < 0))) || (decide (999 < (((lget l s1.i default).Reply).Err)))) || (!r5)) || (decide ((((lget l s1.i default).Reply).Node) < 0))) || (decide (1125899906842624 < (((lget l s1.i default).Reply).Node)))) then
 (some false)
 else
 (next2 ⟨(IntKind.i64.wrap (s1.i + 1))⟩)))
 else none)))
 else none)
 else
 (some (decide (((l).length : Int) ≤ 64))))) ⟨0⟩)
def conref14_rows : Con τ := { args := [.ty 31], L := [], ret := .ty 4, L' := [], R := Bool, dflt := default, F := fun N a b => Fref14_rows N a.1, of := fun r => (r, ()) }
noncomputable def datref14_rows : Dat τ := { D := D0, tbl := tblOf [(75, conref14_count), (119, conref04_MayStamp)], lp := lpsOf [(2, lpref14_rowsx2)], k0 := 0, mu := [], un := [] }
theorem okref14_rows : ConOk E C 79 conref14_rows :=
  con_ok (D := datref14_rows) ⟨d0Ok, eGood, tblOf_ok ⟨okref14_count, ⟨okref04_MayStamp, trivial⟩⟩, fun _ => rfl⟩ conref14_rows (fun a b => a) none (fun _ _ => rfl) rfl (fun _ _ h => nomatch h) 1000000 (fn := Try.f79) Try.func79 rfl (by kernel_rfl) (by kernel_rfl) rfl (by intro N a b; kernel_rfl)
structure Sref14_keptx2 where
  i : Int
def tsref14_keptx2 : List Sl := [.k, .k, .k, .k, .j, .sh (.ty 2), .j, .j, .j, .j, .j, .j, .j, .j, .j, .j, .j, .j, .j, .j, .j, .j, .j, .j, .j, .j, .j, .j, .j, .j, .j, .j, .j, .j, .j, .j, .j, .j, .j, .j, .k, .k]
def hsref14_keptx2 : List ESh := []
def toref14_keptx2 (a : Sl.Ts τ tsref14_keptx2) (b : ESh.Ts τ hsref14_keptx2) : Sref14_keptx2 := ⟨a.2.2.2.2.2.1⟩
def otref14_keptx2 (s : Sref14_keptx2) : Sl.Ts τ tsref14_keptx2 := ((), (), (), (), (), s.i, (), (), (), (), (), (), (), (), (), (), (), (), (), (), (), (), (), (), (), (), (), (), (), (), (), (), (), (), (), (), (), (), (), (), (), (), ())
def ohref14_keptx2 (s : Sref14_keptx2) : ESh.Ts τ hsref14_keptx2 := ()
def lpref14_keptx2 : Lp τ := { ts := tsref14_keptx2, hs := hsref14_keptx2, S := Sref14_keptx2, to := toref14_keptx2, ot := otref14_keptx2, oh := ohref14_keptx2, hk := [], tk := [], ot_to := fun _ _ => rfl, oh_to := fun _ _ => rfl }
def Fref14_kept (N : Nat) (l : List (GOp)) (of_ : Int) : Option (Bool) :=
 (iter N (fun (s1 : Sref14_keptx2) next2 =>
 (bif (decide (s1.i < ((l).length : Int))) then
 (bif (ibB s1.i ((l).length : Int)) then
 (bif (!((!(!((((lget l s1.i default).Stamp).Site) == of_))) && (decide (0 < s1.i))) || (ibB s1.i ((l).length : Int))) then
 (bif (!((!(!((((lget l s1.i default).Stamp).Site) == of_))) && (decide (0 < s1.i))) || (ibB (IntKind.i64.wrap (s1.i - 1)) ((l).length : Int))) then
 (bif ((!((((lget l s1.i default).Stamp).Site) == of_)) || ((decide (0 < s1.i)) && (decide ((((lget l s1.i default).Stamp).Time) ≤ (((lget l (IntKind.i64.wrap (s1.i - 1)) default).Stamp).Time))))) then
 (some false)
 else
 (next2 ⟨(IntKind.i64.wrap (s1.i + 1))⟩))
 else none)
 else none)
 else none)
 else
 ((Fref14_log N l 0).bind fun r3 =>
 (some r3)))) ⟨0⟩)
def conref14_kept : Con τ := { args := [.ty 28, .ty 3], L := [], ret := .ty 4, L' := [], R := Bool, dflt := default, F := fun N a b => Fref14_kept N a.1 a.2.1, of := fun r => (r, ()) }
noncomputable def datref14_kept : Dat τ := { D := D0, tbl := tblOf [(78, conref14_log)], lp := lpsOf [(2, lpref14_keptx2)], k0 := 0, mu := [], un := [] }
theorem okref14_kept : ConOk E C 80 conref14_kept :=
  con_ok (D := datref14_kept) ⟨d0Ok, eGood, tblOf_ok ⟨okref14_log, trivial⟩, fun _ => rfl⟩ conref14_kept (fun a b => a) none (fun _ _ => rfl) rfl (fun _ _ h => nomatch h) 1000000 (fn := Try.f80) Try.func80 rfl (by kernel_rfl) (by kernel_rfl) rfl (by intro N a b; kernel_rfl)
def Fref04_MayPart (N : Nat) (p : GPart) : Option (Bool) :=
 ((Fref04_count N p.Snap).bind fun r1 =>
 (some (((((r1 && (decide (1 ≤ p.Many))) && (decide (p.Many ≤ 4096))) && (decide (0 ≤ p.Index))) && (decide (p.Index < p.Many))) && (decide (((p.Data).length : Int) ≤ 16384)))))
def conref04_MayPart : Con τ := { args := [.ty 51], L := [], ret := .ty 4, L' := [], R := Bool, dflt := default, F := fun N a b => Fref04_MayPart N a.1, of := fun r => (r, ()) }
noncomputable def datref04_MayPart : Dat τ := { D := D0, tbl := tblOf [(95, conref04_count)], lp := lpsOf [], k0 := 0, mu := [], un := [] }
theorem okref04_MayPart : ConOk E C 81 conref04_MayPart :=
  con_ok (D := datref04_MayPart) ⟨d0Ok, eGood, tblOf_ok ⟨okref04_count, trivial⟩, fun _ => rfl⟩ conref04_MayPart (fun a b => a) none (fun _ _ => rfl) rfl (fun _ _ h => nomatch h) 1000000 (fn := Try.f81) Try.func81 rfl (by kernel_rfl) (by kernel_rfl) rfl (by intro N a b; kernel_rfl)
structure Sref14_Mayx9 where
  i : Int
def tsref14_Mayx9 : List Sl := [.k, .k, .j, .k, .k, .sh (.ty 2), .k, .k, .k, .k, .k, .k, .k, .j, .j, .j, .j, .k, .k, .j, .j, .j, .j, .k, .k, .j, .j, .j, .j, .k, .k, .j, .j, .j, .j, .k, .k, .k, .k, .k, .k, .k, .k, .k, .k, .k, .k, .k, .k, .k, .k, .k, .j, .k, .j, .j, .k, .k, .k, .k, .k, .k, .k, .k, .k, .k, .j, .j, .j, .j, .k, .j, .j, .j, .j, .j, .j, .j, .j, .j, .j, .j, .j, .j, .j, .j, .j, .j, .j, .j, .j, .j, .j, .j, .j, .k, .k, .k, .k, .k, .k, .k, .k, .k, .k, .k, .k, .k, .k, .k, .k, .k, .k, .k, .k, .k, .k, .k, .k, .k, .k, .k, .k, .k, .k, .k, .k, .k, .k, .k, .k, .k, .k, .k, .k, .k, .k, .k, .k, .k, .k, .k, .k, .k, .k, .k, .k, .k, .k, .k, .k, .k, .k]
def hsref14_Mayx9 : List ESh := [.keep]
def toref14_Mayx9 (a : Sl.Ts τ tsref14_Mayx9) (b : ESh.Ts τ hsref14_Mayx9) : Sref14_Mayx9 := ⟨a.2.2.2.2.2.1⟩
def otref14_Mayx9 (s : Sref14_Mayx9) : Sl.Ts τ tsref14_Mayx9 := ((), (), (), (), (), s.i, (), (), (), (), (), (), (), (), (), (), (), (), (), (), (), (), (), (), (), (), (), (), (), (), (), (), (), (), (), (), (), (), (), (), (), (), (), (), (), (), (), (), (), (), (), (), (), (), (), (), (), (), (), (), (), (), (), (), (), (), (), (), (), (), (), (), (), (), (), (), (), (), (), (), (), (), (), (), (), (), (), (), (), (), (), (), (), (), (), (), (), (), (), (), (), (), (), (), (), (), (), (), (), (), (), (), (), (), (), (), (), (), (), (), (), (), (), (), (), (), (), (), (), (), (), (), (), (), (), (), (), (), (), (), (), (), (), (), (), (), (), (), (), (), (), (), (), ())
def ohref14_Mayx9 (s : Sref14_Mayx9) : ESh.Ts τ hsref14_Mayx9 := ((), ())
def lpref14_Mayx9 : Lp τ := { ts := tsref14_Mayx9, hs := hsref14_Mayx9, S := Sref14_Mayx9, to := toref14_Mayx9, ot := otref14_Mayx9, oh := ohref14_Mayx9, hk := [3], tk := [0, 2, 0, 1, 0, 0, 0, 0, 2, 0, 0, 0, 0, 0, 0, 0, 0, 0, 0, 0, 0, 0, 0, 0, 0, 0, 0, 0, 0, 0, 0, 0, 0, 0, 0, 0, 2, 0, 2, 0, 2, 0, 2, 0, 2, 0, 2, 0, 0, 0, 0, 0, 0, 0, 0, 0, 0, 0, 2, 0, 0, 1], ot_to := fun _ _ => rfl, oh_to := fun _ _ => rfl }
structure Sref14_Mayx16 where
  i : Int
def tsref14_Mayx16 : List Sl := [.k, .k, .j, .k, .k, .k, .sh (.ty 2), .k, .k, .k, .k, .k, .k, .k, .k, .k, .k, .k, .k, .k, .k, .k, .k, .k, .k, .k, .k, .k, .k, .k, .k, .k, .k, .k, .k, .k, .k, .k, .k, .k, .k, .k, .k, .k, .k, .k, .k, .k, .k, .k, .k, .k, .k, .k, .k, .k, .k, .k, .k, .k, .k, .k, .k, .k, .k, .k, .k, .k, .k, .k, .k, .k, .k, .k, .k, .k, .k, .k, .k, .k, .k, .k, .k, .k, .k, .k, .k, .k, .k, .k, .k, .k, .k, .k, .k, .k, .k, .k, .k, .k, .k, .k, .j, .j, .j, .j, .k, .j, .j, .j, .j, .j, .j, .j, .j, .j, .j, .j, .j, .j, .j, .j, .j, .j, .j, .j, .j, .j, .j, .j, .j, .j, .j, .j, .j, .k, .k, .k, .k, .k, .k, .k, .k, .k, .k, .k, .k, .k, .k, .k, .k, .k, .k]
def hsref14_Mayx16 : List ESh := [.keep]
def toref14_Mayx16 (a : Sl.Ts τ tsref14_Mayx16) (b : ESh.Ts τ hsref14_Mayx16) : Sref14_Mayx16 := ⟨a.2.2.2.2.2.2.1⟩
def otref14_Mayx16 (s : Sref14_Mayx16) : Sl.Ts τ tsref14_Mayx16 := ((), (), (), (), (), (), s.i, (), (), (), (), (), (), (), (), (), (), (), (), (), (), (), (), (), (), (), (), (), (), (), (), (), (), (), (), (), (), (), (), (), (), (), (), (), (), (), (), (), (), (), (), (), (), (), (), (), (), (), (), (), (), (), (), (), (), (), (), (), (), (), (), (), (), (), (), (), (), (), (), (), (), (), (), (), (), (), (), (), (), (), (), (), (), (), (), (), (), (), (), (), (), (), (), (), (), (), (), (), (), (), (), (), (), (), (), (), (), (), (), (), (), (), (), (), (), (), (), (), (), (), (), (), (), (), (), (), (), (), (), (), (), (), (), (), (), (), (), (), (), (), (), (), (), ())
def ohref14_Mayx16 (s : Sref14_Mayx16) : ESh.Ts τ hsref14_Mayx16 := ((), ())
def lpref14_Mayx16 : Lp τ := { ts := tsref14_Mayx16, hs := hsref14_Mayx16, S := Sref14_Mayx16, to := toref14_Mayx16, ot := otref14_Mayx16, oh := ohref14_Mayx16, hk := [3], tk := [0, 2, 0, 1, 0, 0, 0, 0, 2, 0, 0, 0, 0, 0, 0, 0, 0, 0, 0, 0, 0, 0, 0, 0, 0, 0, 0, 0, 0, 0, 0, 0, 0, 0, 0, 0, 2, 0, 2, 0, 2, 0, 2, 0, 2, 0, 2, 0, 0, 0, 0, 0, 0, 0, 0, 0, 0, 0, 2, 0, 0, 1, 0, 0, 0, 0, 0, 0, 0, 0, 0, 0, 2, 0, 0, 0, 0, 0, 0, 0, 0, 0, 0, 0, 0, 0, 0, 0, 0, 0, 0, 0, 0, 0, 0, 2, 0, 2], ot_to := fun _ _ => rfl, oh_to := fun _ _ => rfl }
structure Sref14_Mayx21 where
  i : Int
def tsref14_Mayx21 : List Sl := [.k, .k, .j, .k, .k, .k, .k, .sh (.ty 2), .k, .k, .k, .k, .k, .k, .k, .k, .k, .k, .k, .k, .k, .k, .k, .k, .k, .k, .k, .k, .k, .k, .k, .k, .k, .k, .k, .k, .k, .k, .k, .k, .k, .k, .k, .k, .k, .k, .k, .k, .k, .k, .k, .k, .k, .k, .k, .k, .k, .k, .k, .k, .k, .k, .k, .k, .k, .k, .k, .k, .k, .k, .k, .k, .k, .k, .k, .k, .k, .k, .k, .k, .k, .k, .k, .k, .k, .k, .k, .k, .k, .k, .k, .k, .k, .k, .k, .k, .k, .k, .k, .k, .k, .k, .k, .k, .k, .k, .k, .k, .k, .k, .k, .k, .k, .k, .k, .k, .k, .k, .k, .k, .k, .k, .k, .k, .k, .k, .k, .k, .k, .k, .k, .k, .k, .k, .k, .j, .j, .j, .j, .j, .j, .j, .j, .j, .j, .j, .j, .j, .j, .k, .k, .k, .k]
def hsref14_Mayx21 : List ESh := [.keep]
def toref14_Mayx21 (a : Sl.Ts τ tsref14_Mayx21) (b : ESh.Ts τ hsref14_Mayx21) : Sref14_Mayx21 := ⟨a.2.2.2.2.2.2.2.1⟩
def otref14_Mayx21 (s : Sref14_Mayx21) : Sl.Ts τ tsref14_Mayx21 := ((), (), (), (), (), (), (), s.i, (), (), (), (), (), (), (), (), (), (), (), (), (), (), (), (), (), (), (), (), (), (), (), (), (), (), (), (), (), (), (), (), (), (), (), (), (), (), (), (), (), (), (), (), (), (), (), (), (), (), (), (), (), (), (), (), (), (), (), (), (), (), (), (), (), (), (), (), (), (), (), (), (), (), (), (), (), (), (), (), (), (), (), (), (), (), (), (), (), (), (), (), (), (), (), (), (), (), (), (), (), (), (), (), (), (), (), (), (), (), (), (), (), (), (), (), (), (), (), (), (), (), (), (), (), (), (), (), (), (), (), (), (), (), (), (), (), (), (), (), (), (), (), (), (), ())
def ohref14_Mayx21 (s : Sref14_Mayx21) : ESh.Ts τ hsref14_Mayx21 := ((), ())
def lpref14_Mayx21 : Lp τ := { ts := tsref14_Mayx21, hs := hsref14_Mayx21, S := Sref14_Mayx21, to := toref14_Mayx21, ot := otref14_Mayx21, oh := ohref14_Mayx21, hk := [3], tk := [0, 2, 0, 1, 0, 0, 0, 0, 2, 0, 0, 0, 0, 0, 0, 0, 0, 0, 0, 0, 0, 0, 0, 0, 0, 0, 0, 0, 0, 0, 0, 0, 0, 0, 0, 0, 2, 0, 2, 0, 2, 0, 2, 0, 2, 0, 2, 0, 0, 0, 0, 0, 0, 0, 0, 0, 0, 0, 2, 0, 0, 1, 0, 0, 0, 0, 0, 0, 0, 0, 0, 0, 2, 0, 0, 0, 0, 0, 0, 0, 0, 0, 0, 0, 0, 0, 0, 0, 0, 0, 0, 0, 0, 0, 0, 2, 0, 2], ot_to := fun _ _ => rfl, oh_to := fun _ _ => rfl }
structure Sref14_Mayx9a where
  i : Int
def tsref14_Mayx9a : List Sl := [.k, .k, .j, .k, .k, .sh (.ty 2), .k, .k, .k, .k, .k, .k, .k, .j, .j, .j, .j, .k, .k, .j, .j, .j, .j, .k, .k, .j, .j, .j, .j, .k, .k, .j, .j, .j, .j, .k, .k, .k, .k, .k, .k, .k, .k, .k, .k, .k, .k, .k, .k, .k, .k, .k, .j, .k, .j, .j, .k, .k, .k, .k, .k, .k, .k, .k, .k, .k, .j, .j, .j, .j, .k, .j, .j, .j, .j, .j, .j, .j, .j, .j, .j, .j, .j, .j, .j, .j, .j, .j, .j, .j, .j, .j, .j, .j, .j, .k, .k, .k, .k, .k, .k, .k, .k, .k, .k, .k, .k, .k, .k, .k, .k, .k, .k, .k, .k, .k, .k, .k, .k, .k, .k, .k, .k, .k, .k, .k, .k, .k, .k, .k, .k, .k, .k, .k, .k, .k, .k, .k, .k, .k, .k, .k, .k, .k, .k, .k, .k, .k, .k, .k, .k, .k, .k]
def hsref14_Mayx9a : List ESh := [.keep, .keep]
def toref14_Mayx9a (a : Sl.Ts τ tsref14_Mayx9a) (b : ESh.Ts τ hsref14_Mayx9a) : Sref14_Mayx9a := ⟨a.2.2.2.2.2.1⟩
def otref14_Mayx9a (s : Sref14_Mayx9a) : Sl.Ts τ tsref14_Mayx9a := ((), (), (), (), (), s.i, (), (), (), (), (), (), (), (), (), (), (), (), (), (), (), (), (), (), (), (), (), (), (), (), (), (), (), (), (), (), (), (), (), (), (), (), (), (), (), (), (), (), (), (), (), (), (), (), (), (), (), (), (), (), (), (), (), (), (), (), (), (), (), (), (), (), (), (), (), (), (), (), (), (), (), (), (), (), (), (), (), (), (), (), (), (), (), (), (), (), (), (), (), (), (), (), (), (), (), (), (), (), (), (), (), (), (), (), (), (), (), (), (), (), (), (), (), (), (), (), (), (), (), (), (), (), (), (), (), (), (), (), (), (), (), (), (), (), (), (), (), (), (), (), (), (), (), ())
def ohref14_Mayx9a (s : Sref14_Mayx9a) : ESh.Ts τ hsref14_Mayx9a := ((), (), ())
def lpref14_Mayx9a : Lp τ := { ts := tsref14_Mayx9a, hs := hsref14_Mayx9a, S := Sref14_Mayx9a, to := toref14_Mayx9a, ot := otref14_Mayx9a, oh := ohref14_Mayx9a, hk := [3, 2], tk := [0, 2, 0, 3, 0, 0, 0, 0, 2, 0, 0, 0, 0, 0, 0, 0, 0, 0, 0, 0, 0, 0, 0, 0, 0, 0, 0, 0, 0, 0, 0, 0, 0, 0, 0, 0, 2, 0, 2, 0, 2, 0, 2, 0, 2, 0, 2, 0, 0, 0, 0, 0, 0, 0, 0, 0, 0, 0, 2, 0, 0, 3], ot_to := fun _ _ => rfl, oh_to := fun _ _ => rfl }
structure Sref14_Mayx16a where
  i : Int
def tsref14_Mayx16a : List Sl := [.k, .k, .j, .k, .k, .k, .sh (.ty 2), .k, .k, .k, .k, .k, .k, .k, .k, .k, .k, .k, .k, .k, .k, .k, .k, .k, .k, .k, .k, .k, .k, .k, .k, .k, .k, .k, .k, .k, .k, .k, .k, .k, .k, .k, .k, .k, .k, .k, .k, .k, .k, .k, .k, .k, .k, .k, .k, .k, .k, .k, .k, .k, .k, .k, .k, .k, .k, .k, .k, .k, .k, .k, .k, .k, .k, .k, .k, .k, .k, .k, .k, .k, .k, .k, .k, .k, .k, .k, .k, .k, .k, .k, .k, .k, .k, .k, .k, .k, .k, .k, .k, .k, .k, .k, .j, .j, .j, .j, .k, .j, .j, .j, .j, .j, .j, .j, .j, .j, .j, .j, .j, .j, .j, .j, .j, .j, .j, .j, .j, .j, .j, .j, .j, .j, .j, .j, .j, .k, .k, .k, .k, .k, .k, .k, .k, .k, .k, .k, .k, .k, .k, .k, .k, .k, .k]
def hsref14_Mayx16a : List ESh := [.keep, .keep]
def toref14_Mayx16a (a : Sl.Ts τ tsref14_Mayx16a) (b : ESh.Ts τ hsref14_Mayx16a) : Sref14_Mayx16a := ⟨a.2.2.2.2.2.2.1⟩
def otref14_Mayx16a (s : Sref14_Mayx16a) : Sl.Ts τ tsref14_Mayx16a := ((), (), (), (), (), (), s.i, (), (), (), (), (), (), (), (), (), (), (), (), (), (), (), (), (), (), (), (), (), (), (), (), (), (), (), (), (), (), (), (), (), (), (), (), (), (), (), (), (), (), (), (), (), (), (), (), (), (), (), (), (), (), (), (), (), (), (), (), (), (), (), (), (), (), (), (), (), (), (), (), (), (), (), (), (), (), (), (), (), (), (), (), (), (), (), (), (), (), (), (), (), (), (), (), (), (), (), (), (), (), (), (), (), (), (), (), (), (), (), (), (), (), (), (), (), (), (), (), (), (), (), (), (), (), (), (), (), (), (), (), (), (), (), (), (), (), (), (), (), (), (), (), (), (), ())
def ohref14_Mayx16a (s : Sref14_Mayx16a) : ESh.Ts τ hsref14_Mayx16a := ((), (), ())
def lpref14_Mayx16a : Lp τ := { ts := tsref14_Mayx16a, hs := hsref14_Mayx16a, S := Sref14_Mayx16a, to := toref14_Mayx16a, ot := otref14_Mayx16a, oh := ohref14_Mayx16a, hk := [3, 2], tk := [0, 2, 0, 3, 0, 0, 0, 0, 2, 0, 0, 0, 0, 0, 0, 0, 0, 0, 0, 0, 0, 0, 0, 0, 0, 0, 0, 0, 0, 0, 0, 0, 0, 0, 0, 0, 2, 0, 2, 0, 2, 0, 2, 0, 2, 0, 2, 0, 0, 0, 0, 0, 0, 0, 0, 0, 0, 0, 2, 0, 0, 3, 0, 0, 0, 0, 0, 0, 0, 0, 0, 0, 2, 0, 0, 0, 0, 0, 0, 0, 0, 0, 0, 0, 0, 0, 0, 0, 0, 0, 0, 0, 0, 0, 0, 2, 0, 2], ot_to := fun _ _ => rfl, oh_to := fun _ _ => rfl }
structure Sref14_Mayx21a where
  i : Int
def tsref14_Mayx21a : List Sl := [.k, .k, .j, .k, .k, .k, .k, .sh (.ty 2), .k, .k, .k, .k, .k, .k, .k, .k, .k, .k, .k, .k, .k, .k, .k, .k, .k, .k, .k, .k, .k, .k, .k, .k, .k, .k, .k, .k, .k, .k, .k, .k, .k, .k, .k, .k, .k, .k, .k, .k, .k, .k, .k, .k, .k, .k, .k, .k, .k, .k, .k, .k, .k, .k, .k, .k, .k, .k, .k, .k, .k, .k, .k, .k, .k, .k, .k, .k, .k, .k, .k, .k, .k, .k, .k, .k, .k, .k, .k, .k, .k, .k, .k, .k, .k, .k, .k, .k, .k, .k, .k, .k, .k, .k, .k, .k, .k, .k, .k, .k, .k, .k, .k, .k, .k, .k, .k, .k, .k, .k, .k, .k, .k, .k, .k, .k, .k, .k, .k, .k, .k, .k, .k, .k, .k, .k, .k, .j, .j, .j, .j, .j, .j, .j, .j, .j, .j, .j, .j, .j, .j, .k, .k, .k, .k]
def hsref14_Mayx21a : List ESh := [.keep, .keep]
def toref14_Mayx21a (a : Sl.Ts τ tsref14_Mayx21a) (b : ESh.Ts τ hsref14_Mayx21a) : Sref14_Mayx21a := ⟨a.2.2.2.2.2.2.2.1⟩
def otref14_Mayx21a (s : Sref14_Mayx21a) : Sl.Ts τ tsref14_Mayx21a := ((), (), (), (), (), (), (), s.i, (), (), (), (), (), (), (), (), (), (), (), (), (), (), (), (), (), (), (), (), (), (), (), (), (), (), (), (), (), (), (), (), (), (), (), (), (), (), (), (), (), (), (), (), (), (), (), (), (), (), (), (), (), (), (), (), (), (), (), (), (), (), (), (), (), (), (), (), (), (), (), (), (), (), (), (), (), (), (), (), (), (), (), (), (), (), (), (), (), (), (), (), (), (), (), (), (), (), (), (), (), (), (), (), (), (), (), (), (), (), (), (), (), (), (), (), (), (), (), (), (), (), (), (), (), (), (), (), (), (), (), (), (), (), (), (), (), (), (), (), (), (), (), (), (), ())
def ohref14_Mayx21a (s : Sref14_Mayx21a) : ESh.Ts τ hsref14_Mayx21a := ((), (), ())
def lpref14_Mayx21a : Lp τ := { ts := tsref14_Mayx21a, hs := hsref14_Mayx21a, S := Sref14_Mayx21a, to := toref14_Mayx21a, ot := otref14_Mayx21a, oh := ohref14_Mayx21a, hk := [3, 2], tk := [0, 2, 0, 3, 0, 0, 0, 0, 2, 0, 0, 0, 0, 0, 0, 0, 0, 0, 0, 0, 0, 0, 0, 0, 0, 0, 0, 0, 0, 0, 0, 0, 0, 0, 0, 0, 2, 0, 2, 0, 2, 0, 2, 0, 2, 0, 2, 0, 0, 0, 0, 0, 0, 0, 0, 0, 0, 0, 2, 0, 0, 3, 0, 0, 0, 0, 0, 0, 0, 0, 0, 0, 2, 0, 0, 0, 0, 0, 0, 0, 0, 0, 0, 0, 0, 0, 0, 0, 0, 0, 0, 0, 0, 0, 0, 2, 0, 2], ot_to := fun _ _ => rfl, oh_to := fun _ _ => rfl }
def Fref14_May (N : Nat) (s : GSnap) : Option (Bool) :=
 ((Fref14_site N s.Site).bind fun r1 =>
 ((bif (!(!r1)) then Fref04_MayEpoch N s.Epoch else some default).bind fun r2 =>
 ((bif (!((!r1) || (!r2))) then Fref14_count N s.Applied else some default).bind fun r3 =>
 ((bif (!(((!r1) || (!r2)) || (!r3))) then Fref14_count N s.Clock else some default).bind fun r4 =>
 ((bif (!((((!r1) || (!r2)) || (!r3)) || (!r4))) then Fref14_count N s.Frontier else some default).bind fun r5 =>
 (bif (((((!r1) || (!r2)) || (!r3)) || (!r4)) || (!r5)) then
 (some false)
 else
 ((Fref14_vectors N [s.Vector_, s.Last, s.Starts, s.Told, s.Clocks, s.Sure]).bind fun r6 =>
 (bif (!(!r6)) then
 ((bif (!(!r6)) then Fref14_vectors N (s.Known.toList) else some default).bind fun r7 =>
 (bif ((!r6) || (!r7)) then
 (some false)
 else
 ((Fref12_From N s.Base).bind fun r8 =>
 (bif r8.1 then
 (bif ((!r8.2.2.2.2) || (decide (65536 < ((s.Base).length : Int)))) then
 (some false)
 else
 (iter N (fun (s9 : Sref14_Mayx9) next10 =>
 (bif (decide (s9.i < ((s.Base).length : Int))) then
 (bif (ibB s9.i ((s.Base).length : Int)) then
 (bif (!(!(decide (1125899906842624 < ((lget s.Base s9.i default).Node)))) || (ibB s9.i ((s.Base).length : Int))) then
 (bif ((decide (1125899906842624 < ((lget s.Base s9.i default).Node))) || (decide (65536 < (((lget s.Base s9.i default).Attrs).length : Int)))) then
 (some false)
 else
 (next10 ⟨(IntKind.i64.wrap (s9.i + 1))⟩))
 else none)
 else none)
 else
 ((Fref14_log N s.Log s.Frontier).bind fun r11 =>
 ((bif (!(!r11)) then Fref14_rows N s.Rows else some default).bind fun r12 =>
 (bif ((!r11) || (!r12)) then
 (some false)
 else
 (iter N (fun (s13 : Sref14_Mayx16) next14 =>
 (bif (decide (s13.i < 8)) then
 (bif (ibB s13.i 8) then
 ((Fref14_kept N (vget s.Kept ((s13.i).toNat) default) s13.i).bind fun r15 =>
 (bif (!(!(!r15)) || (ibB s13.i 8)) then
 (bif (!(!(!r15)) || (ibB s13.i 8)) then
 (bif (!(!(!r15)) || (ibB s13.i 8)) then
 (bif ((!r15) || (!((IntKind.i64.wrap ((vget s.Starts ((s13.i).toNat) default) + (((vget s.Kept ((s13.i).toNat) default)).length : Int))) == (vget s.Vector_ ((s13.i).toNat) default)))) then
 (some false)
 else
 (next14 ⟨(IntKind.i64.wrap (s13.i + 1))⟩))
 else none)
 else none)
 else none))
 else none)
 else
 (iter N (fun (s16 : Sref14_Mayx21) next17 =>
 (bif (decide (s16.i < ((s.Parts).length : Int))) then
 (bif (ibB s16.i ((s.Parts).length : Int)) then
 ((Fref04_MayPart N (lget s.Parts s16.i default)).bind fun r18 =>
 (bif (!r18) then
 (some false)
 else
 (next17 ⟨(IntKind.i64.wrap (s16.i + 1))⟩)))
 else none)
 else
 (some (decide (((s.Parts).length : Int) ≤ 65536))))) ⟨0⟩))) ⟨0⟩)))))) ⟨0⟩))
 else
 (bif ((!r8.2.1) || (decide (65536 < ((s.Base).length : Int)))) then
 (some false)
 else
 (iter N (fun (s19 : Sref14_Mayx9a) next20 =>
 (bif (decide (s19.i < ((s.Base).length : Int))) then
 (bif (ibB s19.i ((s.Base).length : Int)) then
 (bif (!(!(decide (1125899906842624 < ((lget s.Base s19.i default).Node)))) || (ibB s19.i ((s.Base).length : Int))) then
 (bif ((decide (1125899906842624 < ((lget s.Base s19.i default).Node))) || (decide (65536 < (((lget s.Base s19.i default).Attrs).length : Int)))) then
 (some false)
 else
 (next20 ⟨(IntKind.i64.wrap (s19.i + 1))⟩))
 else none)
 else none)
 else
 ((Fref14_log N s.Log s.Frontier).bind fun r21 =>
 ((bif (!(!r21)) then Fref14_rows N s.Rows else some default).bind fun r22 =>
 (bif ((!r21) || (!r22)) then
 (some false)
 else
 (iter N (fun (s23 : Sref14_Mayx16a) next24 =>
 (bif (decide (s23.i < 8)) then
 (bif (ibB s23.i 8) then
 ((Fref14_kept N (vget s.Kept ((s23.i).toNat) default) s23.i).bind fun r25 =>
 (bif (!(!(!r25)) || (ibB s23.i 8)) then
 (bif (!(!(!r25)) || (ibB s23.i 8)) then
 (bif (!(!(!r25)) || (ibB s23.i 8)) then
 (bif ((!r25) || (!((IntKind.i64.wrap ((vget s.Starts ((s23.i).toNat) default) + (((vget s.Kept ((s23.i).toNat) default)).length : Int))) == (vget s.Vector_ ((s23.i).toNat) default)))) then
 (some false)
 else
 (next24 ⟨(IntKind.i64.wrap (s23.i + 1))⟩))
 else none)
 else none)
 else none))
 else none)
 else
 (iter N (fun (s26 : Sref14_Mayx21a) next27 =>
 (bif (decide (s26.i < ((s.Parts).length : Int))) then
 (bif (ibB s26.i ((s.Parts).length : Int)) then
 ((Fref04_MayPart N (lget s.Parts s26.i default)).bind fun r28 =>
 (bif (!r28) then
 (some false)
 else
 (next27 ⟨(IntKind.i64.wrap (s26.i + 1))⟩)))
 else none)
 else
 (some (decide (((s.Parts).length : Int) ≤ 65536))))) ⟨0⟩))) ⟨0⟩)))))) ⟨0⟩))))))
 else
 (some false)))))))))
def conref14_May : Con τ := { args := [.ty 34], L := [], ret := .ty 4, L' := [], R := Bool, dflt := default, F := fun N a b => Fref14_May N a.1, of := fun r => (r, ()) }
noncomputable def datref14_May : Dat τ := { D := D0, tbl := tblOf [(73, conref14_site), (74, conref04_MayEpoch), (75, conref14_count), (76, conref14_vectors), (77, conref12_From), (78, conref14_log), (79, conref14_rows), (80, conref14_kept), (81, conref04_MayPart)], lp := lpsOf [(9, lpref14_Mayx9), (16, lpref14_Mayx16), (21, lpref14_Mayx21), (9, lpref14_Mayx9a), (16, lpref14_Mayx16a), (21, lpref14_Mayx21a)], k0 := 0, mu := [], un := [] }
theorem okref14_May : ConOk E C 49 conref14_May :=
  con_ok (D := datref14_May) ⟨d0Ok, eGood, tblOf_ok ⟨okref14_site, ⟨okref04_MayEpoch, ⟨okref14_count, ⟨okref14_vectors, ⟨okref12_From, ⟨okref14_log, ⟨okref14_rows, ⟨okref14_kept, ⟨okref04_MayPart, trivial⟩⟩⟩⟩⟩⟩⟩⟩⟩, fun _ => rfl⟩ conref14_May (fun a b => a) none (fun _ _ => rfl) rfl (fun _ _ h => nomatch h) 1000000 (fn := Try.f49) Try.func49 rfl (by kernel_rfl) (by kernel_rfl) rfl (by intro N a b; kernel_rfl)
def Fref14_Check (N : Nat) (s : GSnap) : Option (Int) :=
 ((Fref14_May N s).bind fun r1 =>
 (bif r1 then
 (some 0)
 else
 (some 140)))
def conref14_Check : Con τ := { args := [.ty 34], L := [], ret := .ty 56, L' := [], R := Int, dflt := default, F := fun N a b => Fref14_Check N a.1, of := fun r => (r, ()) }
noncomputable def datref14_Check : Dat τ := { D := D0, tbl := tblOf [(49, conref14_May)], lp := lpsOf [], k0 := 0, mu := [], un := [] }
theorem okref14_Check : ConOk E C 24 conref14_Check :=
  con_ok (D := datref14_Check) ⟨d0Ok, eGood, tblOf_ok ⟨okref14_May, trivial⟩, fun _ => rfl⟩ conref14_Check (fun a b => a) none (fun _ _ => rfl) rfl (fun _ _ h => nomatch h) 1000000 (fn := Try.f24) Try.func24 rfl (by kernel_rfl) (by kernel_rfl) rfl (by intro N a b; kernel_rfl)
structure Sexchange_addrsx2 where
  t7 : Int
def tsexchange_addrsx2 : List Sl := [.k, .k, .j, .k, .j, .k, .k, .sh (.ty 2), .j, .j, .j, .j, .j, .j, .j, .j, .j, .j, .j, .j, .j, .j, .j, .j, .j, .j, .j, .j, .j, .j]
def hsexchange_addrsx2 : List ESh := []
def toexchange_addrsx2 (a : Sl.Ts τ tsexchange_addrsx2) (b : ESh.Ts τ hsexchange_addrsx2) : Sexchange_addrsx2 := ⟨a.2.2.2.2.2.2.2.1⟩
def otexchange_addrsx2 (s : Sexchange_addrsx2) : Sl.Ts τ tsexchange_addrsx2 := ((), (), (), (), (), (), (), s.t7, (), (), (), (), (), (), (), (), (), (), (), (), (), (), (), (), (), (), (), (), (), (), ())
def ohexchange_addrsx2 (s : Sexchange_addrsx2) : ESh.Ts τ hsexchange_addrsx2 := ()
def lpexchange_addrsx2 : Lp τ := { ts := tsexchange_addrsx2, hs := hsexchange_addrsx2, S := Sexchange_addrsx2, to := toexchange_addrsx2, ot := otexchange_addrsx2, oh := ohexchange_addrsx2, hk := [], tk := [], ot_to := fun _ _ => rfl, oh_to := fun _ _ => rfl }
def Fexchange_addrs (N : Nat) (l : List (GAddr)) : Option (Bool) :=
 (iter N (fun (s1 : Sexchange_addrsx2) next2 =>
 (bif (decide (s1.t7 < ((l).length : Int))) then
 (bif (ibB s1.t7 ((l).length : Int)) then
 (bif ((((decide (((lget l s1.t7 default).Group) < 0)) || (decide (9 ≤ ((lget l s1.t7 default).Group)))) || (decide (((lget l s1.t7 default).Replica) < 0))) || (decide (5 ≤ ((lget l s1.t7 default).Replica)))) then
 (some false)
 else
 (next2 ⟨(IntKind.i64.wrap (s1.t7 + 1))⟩))
 else none)
 else
 (some true))) ⟨0⟩)
def conexchange_addrs : Con τ := { args := [.ty 107], L := [], ret := .ty 4, L' := [], R := Bool, dflt := default, F := fun N a b => Fexchange_addrs N a.1, of := fun r => (r, ()) }
noncomputable def datexchange_addrs : Dat τ := { D := D0, tbl := tblOf [], lp := lpsOf [(2, lpexchange_addrsx2)], k0 := 0, mu := [], un := [] }
theorem okexchange_addrs : ConOk E C 37 conexchange_addrs :=
  con_ok (D := datexchange_addrs) ⟨d0Ok, eGood, tblOf_ok trivial, fun _ => rfl⟩ conexchange_addrs (fun a b => a) none (fun _ _ => rfl) rfl (fun _ _ h => nomatch h) 1000000 (fn := Try.f37) Try.func37 rfl (by kernel_rfl) (by kernel_rfl) rfl (by intro N a b; kernel_rfl)
def Fexchange_count (N : Nat) (n : Int) : Option (Bool) :=
 (some ((decide (0 ≤ n)) && (decide (n ≤ 1099511627776))))
def conexchange_count : Con τ := { args := [.ty 2], L := [], ret := .ty 4, L' := [], R := Bool, dflt := default, F := fun N a b => Fexchange_count N a.1, of := fun r => (r, ()) }
noncomputable def datexchange_count : Dat τ := { D := D0, tbl := tblOf [], lp := lpsOf [], k0 := 0, mu := [], un := [] }
theorem okexchange_count : ConOk E C 68 conexchange_count :=
  con_ok (D := datexchange_count) ⟨d0Ok, eGood, tblOf_ok trivial, fun _ => rfl⟩ conexchange_count (fun a b => a) none (fun _ _ => rfl) rfl (fun _ _ h => nomatch h) 1000000 (fn := Try.f68) Try.func68 rfl (by kernel_rfl) (by kernel_rfl) rfl (by intro N a b; kernel_rfl)
def Fslices_Clone_Op_367 (N : Nat) (s : List (GOp)) : Option ((List (GOp))) :=
 (bif (lenB (0 + (s).length) 88) then
 (some ([] ++ s))
 else none)
def conslices_Clone_Op_367 : Con τ := { args := [.nn 43], L := [], ret := .ty 28, L' := [], R := (List (GOp)), dflt := default, F := fun N a b => Fslices_Clone_Op_367 N a.1, of := fun r => (r, ()) }
noncomputable def datslices_Clone_Op_367 : Dat τ := { D := D0, tbl := tblOf [], lp := lpsOf [], k0 := 0, mu := [], un := [] }
theorem okslices_Clone_Op_367 : ConOk E C 69 conslices_Clone_Op_367 :=
  con_ok (D := datslices_Clone_Op_367) ⟨d0Ok, eGood, tblOf_ok trivial, fun _ => rfl⟩ conslices_Clone_Op_367 (fun a b => a) none (fun _ _ => rfl) rfl (fun _ _ h => nomatch h) 1000000 (fn := Try.f69) Try.func69 rfl (by kernel_rfl) (by kernel_rfl) rfl (by intro N a b; kernel_rfl)
def Fslices_Clone_Op_932 (N : Nat)  : Option ((List (GOp))) :=
 (some [])
def conslices_Clone_Op_932 : Con τ := { args := [.nil .slice], L := [], ret := .ty 28, L' := [], R := (List (GOp)), dflt := default, F := fun N a b => Fslices_Clone_Op_932 N , of := fun r => (r, ()) }
noncomputable def datslices_Clone_Op_932 : Dat τ := { D := D0, tbl := tblOf [], lp := lpsOf [], k0 := 0, mu := [], un := [] }
theorem okslices_Clone_Op_932 : ConOk E C 69 conslices_Clone_Op_932 :=
  con_ok (D := datslices_Clone_Op_932) ⟨d0Ok, eGood, tblOf_ok trivial, fun _ => rfl⟩ conslices_Clone_Op_932 (fun a b => a) none (fun _ _ => rfl) rfl (fun _ _ h => nomatch h) 1000000 (fn := Try.f69) Try.func69 rfl (by kernel_rfl) (by kernel_rfl) rfl (by intro N a b; kernel_rfl)
def Fslices_Clone_Op (N : Nat) (s : List (GOp)) : Option ((List (GOp))) := Fslices_Clone_Op_367 N s
def conslices_Clone_Op : Con τ := { args := [.ty 28], L := [], ret := .ty 28, L' := [], R := (List (GOp)), dflt := default, F := fun N a b => Fslices_Clone_Op N a.1, of := fun r => (r, ()) }
theorem okslices_Clone_Op : ConOk E C 69 conslices_Clone_Op := by
  intro N a b r h
  obtain ⟨x0, u⟩ := a
  refine FnSpec.split (pre := []) (post := []) (fun h0 => ?_) (okslices_Clone_Op_367 N (x0, u) b r h)
  have h0 : x0 = [] := List.map_eq_nil_iff.1 h0
  subst h0
  exact okslices_Clone_Op_932 N ((), u) b r ((show conslices_Clone_Op_932.F N ((), u) b = conslices_Clone_Op.F N ([], u) b from by kernel_rfl).trans h)
structure Sexchange_pushesx3 where
  most : Int
  l : List (GMsg)
  t15 : Int
def tsexchange_pushesx3 : List Sl := [.k, .k, .k, .sh (.ty 2), .k, .k, .k, .k, .k, .sh (.own 55 3), .j, .j, .j, .j, .j, .sh (.ty 2), .j, .j, .j, .j, .j, .j, .j, .j, .j, .j, .j, .j, .j, .j, .j, .j, .j, .j, .j, .j, .j, .j, .j, .j, .j, .j, .j, .j, .j, .j, .j, .j, .j, .j, .j, .j, .j, .j, .j, .j, .j, .j, .j, .j, .j, .j, .j, .j, .j, .j, .j, .j, .j, .j, .j, .j, .j, .j, .j, .j, .j, .j, .j, .j, .j, .j, .j, .j, .j, .j, .j, .j, .j, .j, .j, .j, .j, .j, .j, .k]
def hsexchange_pushesx3 : List ESh := [.keep, .keep, .keep, .tail]
def toexchange_pushesx3 (a : Sl.Ts τ tsexchange_pushesx3) (b : ESh.Ts τ hsexchange_pushesx3) : Sexchange_pushesx3 := ⟨a.2.2.2.1, a.2.2.2.2.2.2.2.2.2.1, a.2.2.2.2.2.2.2.2.2.2.2.2.2.2.2.1⟩
def otexchange_pushesx3 (s : Sexchange_pushesx3) : Sl.Ts τ tsexchange_pushesx3 := ((), (), (), s.most, (), (), (), (), (), s.l, (), (), (), (), (), s.t15, (), (), (), (), (), (), (), (), (), (), (), (), (), (), (), (), (), (), (), (), (), (), (), (), (), (), (), (), (), (), (), (), (), (), (), (), (), (), (), (), (), (), (), (), (), (), (), (), (), (), (), (), (), (), (), (), (), (), (), (), (), (), (), (), (), (), (), (), (), (), (), (), (), (), (), (), (), (), (), (), ())
def ohexchange_pushesx3 (s : Sexchange_pushesx3) : ESh.Ts τ hsexchange_pushesx3 := ((), (), (), (), ())
def lpexchange_pushesx3 : Lp τ := { ts := tsexchange_pushesx3, hs := hsexchange_pushesx3, S := Sexchange_pushesx3, to := toexchange_pushesx3, ot := otexchange_pushesx3, oh := ohexchange_pushesx3, hk := [2, 2, 2], tk := [0, 0, 0, 0, 2, 3, 4], ot_to := fun _ _ => rfl, oh_to := fun _ _ => rfl }
structure Sexchange_pushesx8 where
  most : Int
  l : List (GMsg)
  k : Int
  ops : List (GOp)
def tsexchange_pushesx8 : List Sl := [.k, .k, .k, .sh (.ty 2), .k, .k, .k, .k, .k, .sh (.own 55 4), .k, .sh (.ty 2), .k, .sh (.ty 28), .j, .k, .k, .k, .k, .k, .k, .k, .k, .k, .k, .k, .k, .k, .k, .k, .k, .k, .k, .j, .j, .j, .k, .k, .j, .j, .j, .k, .k, .j, .j, .j, .j, .j, .j, .j, .j, .j, .k, .k, .k, .k, .k, .k, .k, .k, .k, .j, .j, .j, .j, .j, .j, .j, .j, .j, .j, .j, .j, .j, .j, .j, .j, .j, .j, .j, .j, .j, .j, .j, .j, .j, .j, .j, .j, .j, .j, .j, .j, .j, .k, .k]
def hsexchange_pushesx8 : List ESh := [.keep, .keep, .keep, .dead, .tail]
def toexchange_pushesx8 (a : Sl.Ts τ tsexchange_pushesx8) (b : ESh.Ts τ hsexchange_pushesx8) : Sexchange_pushesx8 := ⟨a.2.2.2.1, a.2.2.2.2.2.2.2.2.2.1, a.2.2.2.2.2.2.2.2.2.2.2.1, a.2.2.2.2.2.2.2.2.2.2.2.2.2.1⟩
def otexchange_pushesx8 (s : Sexchange_pushesx8) : Sl.Ts τ tsexchange_pushesx8 := ((), (), (), s.most, (), (), (), (), (), s.l, (), s.k, (), s.ops, (), (), (), (), (), (), (), (), (), (), (), (), (), (), (), (), (), (), (), (), (), (), (), (), (), (), (), (), (), (), (), (), (), (), (), (), (), (), (), (), (), (), (), (), (), (), (), (), (), (), (), (), (), (), (), (), (), (), (), (), (), (), (), (), (), (), (), (), (), (), (), (), (), (), (), (), (), (), (), (), (), (), ())
def ohexchange_pushesx8 (s : Sexchange_pushesx8) : ESh.Ts τ hsexchange_pushesx8 := ((), (), (), (), (), ())
def lpexchange_pushesx8 : Lp τ := { ts := tsexchange_pushesx8, hs := hsexchange_pushesx8, S := Sexchange_pushesx8, to := toexchange_pushesx8, ot := otexchange_pushesx8, oh := ohexchange_pushesx8, hk := [2, 2, 2, 5], tk := [0, 0, 0, 0, 2, 3, 4, 0, 0, 0, 0, 0, 0, 0, 0, 0, 0, 0, 4, 0, 0, 2, 2, 2, 0, 0, 2, 2, 0, 0, 0, 0, 0, 0, 0, 0, 0, 0, 0, 0, 0, 0, 0, 0, 0, 0, 0, 0, 0, 0, 0, 0, 0, 0, 2, 2], ot_to := fun _ _ => rfl, oh_to := fun _ _ => rfl }
def Fexchange_pushes (N : Nat) (s : GSnap) (from_ : GAddr) (to : GAddr) (most : Int) : Option ((List (GMsg))) :=
 (iter N (fun (s1 : Sexchange_pushesx3) next2 =>
 (bif (decide (s1.t15 < 8)) then
 (bif (ibB to.Group 8) then
 (bif (ibB s1.t15 8) then
 (bif (ibB s1.t15 8) then
 ((Fexchange_count N (vget (vget s.Known ((to.Group).toNat) default) ((s1.t15).toNat) default)).bind fun r3 =>
 ((bif (!(!r3)) then Fexchange_count N (vget s.Starts ((s1.t15).toNat) default) else some default).bind fun r4 =>
 (bif (!(!(((!r3) || (!r4)) || (decide ((vget (vget s.Known ((to.Group).toNat) default) ((s1.t15).toNat) default) < (vget s.Starts ((s1.t15).toNat) default))))) || (ibB s1.t15 8)) then
 (bif ((((!r3) || (!r4)) || (decide ((vget (vget s.Known ((to.Group).toNat) default) ((s1.t15).toNat) default) < (vget s.Starts ((s1.t15).toNat) default)))) || (decide ((((vget s.Kept ((s1.t15).toNat) default)).length : Int) ≤ (IntKind.i64.wrap ((vget (vget s.Known ((to.Group).toNat) default) ((s1.t15).toNat) default) - (vget s.Starts ((s1.t15).toNat) default)))))) then
 (next2 ⟨s1.most, s1.l, (IntKind.i64.wrap (s1.t15 + 1))⟩)
 else
 (bif (ibB s1.t15 8) then
 (bif (cutB (IntKind.i64.wrap ((vget (vget s.Known ((to.Group).toNat) default) ((s1.t15).toNat) default) - (vget s.Starts ((s1.t15).toNat) default))) (((vget s.Kept ((s1.t15).toNat) default)).length : Int) (((vget s.Kept ((s1.t15).toNat) default)).length : Int)) then
 (iter N (fun (s5 : Sexchange_pushesx8) next6 =>
 (bif (decide (0 < ((s5.ops).length : Int))) then
 (bif (decide ((bif decide (s5.most < (bif decide (16 < ((s5.ops).length : Int)) then 16 else ((s5.ops).length : Int))) then s5.most else (bif decide (16 < ((s5.ops).length : Int)) then 16 else ((s5.ops).length : Int))) ≤ 0)) then
 (some s5.l)
 else
 (bif (cutB 0 (bif decide (s5.most < (bif decide (16 < ((s5.ops).length : Int)) then 16 else ((s5.ops).length : Int))) then s5.most else (bif decide (16 < ((s5.ops).length : Int)) then 16 else ((s5.ops).length : Int))) ((s5.ops).length : Int)) then
 ((Fslices_Clone_Op N (cut s5.ops 0 (bif decide (s5.most < (bif decide (16 < ((s5.ops).length : Int)) then 16 else ((s5.ops).length : Int))) then s5.most else (bif decide (16 < ((s5.ops).length : Int)) then 16 else ((s5.ops).length : Int))))).bind fun r7 =>
 (bif (lenB ((s5.l).length + ([(⟨11, from_, to, (⟨0, 0⟩ : GBallot), s5.k, [], (⟨0, 0, 0, (⟨(⟨0, 0⟩ : GStamp), 0, 0, 0, [], [], []⟩ : GOp), 0, 0, [], (⟨0, (Vector.replicate 8 (default : Int)), (Vector.replicate 8 (default : Int)), (Vector.replicate 8 (default : Int))⟩ : GEpoch), 0, (Vector.replicate 8 (default : Int)), 0, (⟨0, 0, 0, []⟩ : GPart), 0, 0, 0⟩ : GEntry), s.Epoch.Number, (Vector.replicate 8 (default : Int)), 0, s1.t15, r7, (⟨0, (Vector.replicate 8 (default : Int)), (Vector.replicate 8 (default : Int)), (Vector.replicate 8 (default : Int))⟩ : GEpoch), (⟨0, 0, 0, []⟩ : GPart)⟩ : GMsg)]).length) 952) then
 (bif (cutB (bif decide (s5.most < (bif decide (16 < ((s5.ops).length : Int)) then 16 else ((s5.ops).length : Int))) then s5.most else (bif decide (16 < ((s5.ops).length : Int)) then 16 else ((s5.ops).length : Int))) ((s5.ops).length : Int) ((s5.ops).length : Int)) then
 (next6 ⟨(IntKind.i64.wrap (s5.most - (bif decide (s5.most < (bif decide (16 < ((s5.ops).length : Int)) then 16 else ((s5.ops).length : Int))) then s5.most else (bif decide (16 < ((s5.ops).length : Int)) then 16 else ((s5.ops).length : Int))))), (s5.l ++ [(⟨11, from_, to, (⟨0, 0⟩ : GBallot), s5.k, [], (⟨0, 0, 0, (⟨(⟨0, 0⟩ : GStamp), 0, 0, 0, [], [], []⟩ : GOp), 0, 0, [], (⟨0, (Vector.replicate 8 (default : Int)), (Vector.replicate 8 (default : Int)), (Vector.replicate 8 (default : Int))⟩ : GEpoch), 0, (Vector.replicate 8 (default : Int)), 0, (⟨0, 0, 0, []⟩ : GPart), 0, 0, 0⟩ : GEntry), s.Epoch.Number, (Vector.replicate 8 (default : Int)), 0, s1.t15, r7, (⟨0, (Vector.replicate 8 (default : Int)), (Vector.replicate 8 (default : Int)), (Vector.replicate 8 (default : Int))⟩ : GEpoch), (⟨0, 0, 0, []⟩ : GPart)⟩ : GMsg)]), (IntKind.i64.wrap (s5.k + (bif decide (s5.most < (bif decide (16 < ((s5.ops).length : Int)) then 16 else ((s5.ops).length : Int))) then s5.most else (bif decide (16 < ((s5.ops).length : Int)) then 16 else ((s5.ops).length : Int))))), (cut s5.ops (bif decide (s5.most < (bif decide (16 < ((s5.ops).length : Int)) then 16 else ((s5.ops).length : Int))) then s5.most else (bif decide (16 < ((s5.ops).length : Int)) then 16 else ((s5.ops).length : Int))) ((s5.ops).length : Int))⟩)
 else none)
 else none))
 else none))
 else
 (next2 ⟨s5.most, s5.l, (IntKind.i64.wrap (s1.t15 + 1))⟩))) ⟨s1.most, s1.l, (vget (vget s.Known ((to.Group).toNat) default) ((s1.t15).toNat) default), (cut (vget s.Kept ((s1.t15).toNat) default) (IntKind.i64.wrap ((vget (vget s.Known ((to.Group).toNat) default) ((s1.t15).toNat) default) - (vget s.Starts ((s1.t15).toNat) default))) (((vget s.Kept ((s1.t15).toNat) default)).length : Int))⟩)
 else none)
 else none))
 else none)))
 else none)
 else none)
 else none)
 else
 (some s1.l))) ⟨most, [], 0⟩)
def conexchange_pushes : Con τ := { args := [.ty 34, .ty 45, .ty 45, .ty 3], L := [], ret := .ty 65, L' := [], R := (List (GMsg)), dflt := default, F := fun N a b => Fexchange_pushes N a.1 a.2.1 a.2.2.1 a.2.2.2.1, of := fun r => (r, ()) }
noncomputable def datexchange_pushes : Dat τ := { D := D0, tbl := tblOf [(68, conexchange_count), (69, conslices_Clone_Op)], lp := lpsOf [(3, lpexchange_pushesx3), (8, lpexchange_pushesx8)], k0 := 0, mu := [], un := [] }
theorem okexchange_pushes : ConOk E C 46 conexchange_pushes :=
  con_ok (D := datexchange_pushes) ⟨d0Ok, eGood, tblOf_ok ⟨okexchange_count, ⟨okslices_Clone_Op, trivial⟩⟩, fun _ => rfl⟩ conexchange_pushes (fun a b => a) none (fun _ _ => rfl) rfl (fun _ _ h => nomatch h) 1000000 (fn := Try.f46) Try.func46 rfl (by kernel_rfl) (by kernel_rfl) rfl (by intro N a b; kernel_rfl)
def Fexchange_Push (N : Nat) (s : GSnap) (from_ : GAddr) (to : GAddr) (most : Int) : Option ((List (GMsg))) :=
 ((Fexchange_addrs N [from_, to]).bind fun r1 =>
 ((bif r1 then Fexchange_site N to.Group else some default).bind fun r2 =>
 (bif (r1 && r2) then
 ((Fexchange_pushes N s from_ to most).bind fun r3 =>
 (some r3))
 else
 (some []))))
def conexchange_Push : Con τ := { args := [.ty 34, .ty 45, .ty 45, .ty 3], L := [], ret := .fn 47 [.ptr 0 []], L' := [.box (.ty 65)], R := (List (GMsg)), dflt := default, F := fun N a b => Fexchange_Push N a.1 a.2.1 a.2.2.1 a.2.2.2.1, of := fun r => (((), ()), (r, ())) }
noncomputable def datexchange_Push : Dat τ := { D := D0, tbl := tblOf [(37, conexchange_addrs), (33, conexchange_site), (46, conexchange_pushes)], lp := lpsOf [], k0 := 0, mu := [], un := [] }
theorem okexchange_Push : ConOk E C 23 conexchange_Push :=
  con_ok (D := datexchange_Push) ⟨d0Ok, eGood, tblOf_ok ⟨okexchange_addrs, ⟨okexchange_site, ⟨okexchange_pushes, trivial⟩⟩⟩, fun _ => rfl⟩ conexchange_Push (fun a b => b.1) none (fun _ _ => rfl) rfl (fun _ _ h => nomatch h) 1000000 (fn := Try.f23) Try.func23 rfl (by kernel_rfl) (by kernel_rfl) rfl (by intro N a b; kernel_rfl)
def Fslices_Clone_Slotted_439 (N : Nat) (s : List (GSlotted)) : Option (Nat × (List (GSlotted))) :=
 (bif (lenB ((s).length) 528) then
 (some ((s).length, s))
 else none)
def conslices_Clone_Slotted_439 : Con τ := { args := [.nn 101], L := [], ret := .msl 101 0, L' := [.gbx 101], R := Nat × (List (GSlotted)), dflt := (default, default), F := fun N a b => Fslices_Clone_Slotted_439 N a.1, of := fun r => (r.1, (r.2, ())) }
noncomputable def datslices_Clone_Slotted_439 : Dat τ := { D := D0, tbl := tblOf [], lp := lpsOf [], k0 := 0, mu := [7], un := [] }
theorem okslices_Clone_Slotted_439 : ConOk E C 70 conslices_Clone_Slotted_439 :=
  con_ok (D := datslices_Clone_Slotted_439) ⟨d0Ok, eGood, tblOf_ok trivial, fun _ => rfl⟩ conslices_Clone_Slotted_439 (fun a b => (a, b.1)) none (fun _ _ => rfl) rfl (fun _ _ h => nomatch h) 1000000 (fn := Try.f70) Try.func70 rfl (by kernel_rfl) (by kernel_rfl) rfl (by intro N a b; kernel_rfl)
def Fslices_Clone_Slotted_476 (N : Nat)  : Option (Nat × (List (GSlotted))) :=
 (some (0, []))
def conslices_Clone_Slotted_476 : Con τ := { args := [.nil .slice], L := [], ret := .msl 101 0, L' := [.gbx 101], R := Nat × (List (GSlotted)), dflt := (default, default), F := fun N a b => Fslices_Clone_Slotted_476 N , of := fun r => (r.1, (r.2, ())) }
noncomputable def datslices_Clone_Slotted_476 : Dat τ := { D := D0, tbl := tblOf [], lp := lpsOf [], k0 := 0, mu := [7], un := [] }
theorem okslices_Clone_Slotted_476 : ConOk E C 70 conslices_Clone_Slotted_476 :=
  con_ok (D := datslices_Clone_Slotted_476) ⟨d0Ok, eGood, tblOf_ok trivial, fun _ => rfl⟩ conslices_Clone_Slotted_476 (fun a b => (a, b.1)) none (fun _ _ => rfl) rfl (fun _ _ h => nomatch h) 1000000 (fn := Try.f70) Try.func70 rfl (by kernel_rfl) (by kernel_rfl) rfl (by intro N a b; kernel_rfl)
def Fslices_Clone_Slotted_560 (N : Nat) (s : List (GSlotted)) : Option (Nat × (List (GSlotted))) := Fslices_Clone_Slotted_439 N s
def conslices_Clone_Slotted_560 : Con τ := { args := [.ty 48], L := [], ret := .msl 101 0, L' := [.gbx 101], R := Nat × (List (GSlotted)), dflt := (default, default), F := fun N a b => Fslices_Clone_Slotted_560 N a.1, of := fun r => (r.1, (r.2, ())) }
theorem okslices_Clone_Slotted_560 : ConOk E C 70 conslices_Clone_Slotted_560 := by
  intro N a b r h
  obtain ⟨x0, u⟩ := a
  refine FnSpec.split (pre := []) (post := []) (fun h0 => ?_) (okslices_Clone_Slotted_439 N (x0, u) b r h)
  have h0 : x0 = [] := List.map_eq_nil_iff.1 h0
  subst h0
  exact okslices_Clone_Slotted_476 N ((), u) b r ((show conslices_Clone_Slotted_476.F N ((), u) b = conslices_Clone_Slotted_560.F N ([], u) b from by kernel_rfl).trans h)
def Fslices_Clone_byte_c35 (N : Nat) (s : List (Int)) : Option ((List (Int))) :=
 (bif (lenB (0 + (s).length) 1) then
 (some ([] ++ s))
 else none)
def conslices_Clone_byte_c35 : Con τ := { args := [.nn 5], L := [], ret := .ty 49, L' := [], R := (List (Int)), dflt := default, F := fun N a b => Fslices_Clone_byte_c35 N a.1, of := fun r => (r, ()) }
noncomputable def datslices_Clone_byte_c35 : Dat τ := { D := D0, tbl := tblOf [], lp := lpsOf [], k0 := 0, mu := [], un := [] }
theorem okslices_Clone_byte_c35 : ConOk E C 72 conslices_Clone_byte_c35 :=
  con_ok (D := datslices_Clone_byte_c35) ⟨d0Ok, eGood, tblOf_ok trivial, fun _ => rfl⟩ conslices_Clone_byte_c35 (fun a b => a) none (fun _ _ => rfl) rfl (fun _ _ h => nomatch h) 1000000 (fn := Try.f72) Try.func72 rfl (by kernel_rfl) (by kernel_rfl) rfl (by intro N a b; kernel_rfl)
def Fslices_Clone_byte_932 (N : Nat)  : Option ((List (Int))) :=
 (some [])
def conslices_Clone_byte_932 : Con τ := { args := [.nil .slice], L := [], ret := .ty 49, L' := [], R := (List (Int)), dflt := default, F := fun N a b => Fslices_Clone_byte_932 N , of := fun r => (r, ()) }
noncomputable def datslices_Clone_byte_932 : Dat τ := { D := D0, tbl := tblOf [], lp := lpsOf [], k0 := 0, mu := [], un := [] }
theorem okslices_Clone_byte_932 : ConOk E C 72 conslices_Clone_byte_932 :=
  con_ok (D := datslices_Clone_byte_932) ⟨d0Ok, eGood, tblOf_ok trivial, fun _ => rfl⟩ conslices_Clone_byte_932 (fun a b => a) none (fun _ _ => rfl) rfl (fun _ _ h => nomatch h) 1000000 (fn := Try.f72) Try.func72 rfl (by kernel_rfl) (by kernel_rfl) rfl (by intro N a b; kernel_rfl)
def Fslices_Clone_byte (N : Nat) (s : List (Int)) : Option ((List (Int))) := Fslices_Clone_byte_c35 N s
def conslices_Clone_byte : Con τ := { args := [.ty 49], L := [], ret := .ty 49, L' := [], R := (List (Int)), dflt := default, F := fun N a b => Fslices_Clone_byte N a.1, of := fun r => (r, ()) }
theorem okslices_Clone_byte : ConOk E C 72 conslices_Clone_byte := by
  intro N a b r h
  obtain ⟨x0, u⟩ := a
  refine FnSpec.split (pre := []) (post := []) (fun h0 => ?_) (okslices_Clone_byte_c35 N (x0, u) b r h)
  have h0 : x0 = [] := List.map_eq_nil_iff.1 h0
  subst h0
  exact okslices_Clone_byte_932 N ((), u) b r ((show conslices_Clone_byte_932.F N ((), u) b = conslices_Clone_byte.F N ([], u) b from by kernel_rfl).trans h)
def Frecord_CloneEntry (N : Nat) (e : GEntry) : Option (GEntry) :=
 ((Fslices_Clone_Op N e.Ops).bind fun r1 =>
 ((Fslices_Clone_byte N e.Part.Data).bind fun r2 =>
 (some (⟨e.Kind, e.Session, e.Request, e.Op, e.Origin, e.Seq, r1, e.Epoch, e.From, e.Vector_, e.Clock, (⟨e.Part.Snap, e.Part.Index, e.Part.Many, r2⟩ : GPart), e.Site, e.Sponsor, e.Length⟩ : GEntry))))
def conrecord_CloneEntry : Con τ := { args := [.ty 53], L := [], ret := .ty 53, L' := [], R := GEntry, dflt := default, F := fun N a b => Frecord_CloneEntry N a.1, of := fun r => (r, ()) }
noncomputable def datrecord_CloneEntry : Dat τ := { D := D0, tbl := tblOf [(69, conslices_Clone_Op), (72, conslices_Clone_byte)], lp := lpsOf [], k0 := 0, mu := [], un := [] }
theorem okrecord_CloneEntry : ConOk E C 71 conrecord_CloneEntry :=
  con_ok (D := datrecord_CloneEntry) ⟨d0Ok, eGood, tblOf_ok ⟨okslices_Clone_Op, ⟨okslices_Clone_byte, trivial⟩⟩, fun _ => rfl⟩ conrecord_CloneEntry (fun a b => a) none (fun _ _ => rfl) rfl (fun _ _ h => nomatch h) 1000000 (fn := Try.f71) Try.func71 rfl (by kernel_rfl) (by kernel_rfl) rfl (by intro N a b; kernel_rfl)
structure Srecord_CloneMsgx3 where
  t11 : Int
  g2 : List (GSlotted)
def tsrecord_CloneMsgx3 : List Sl := [.k, .k, .k, .j, .k, .k, .k, .k, .k, .k, .k, .sh (.ty 2), .j, .j, .j, .j, .j, .j, .j, .j, .j, .j, .j, .j, .j, .j, .j, .k, .k, .k, .k, .k, .k, .k, .k, .k, .k, .k, .k, .k, .k, .k]
def hsrecord_CloneMsgx3 : List ESh := [.keep, .keep, .gbx 101]
def torecord_CloneMsgx3 (a : Sl.Ts τ tsrecord_CloneMsgx3) (b : ESh.Ts τ hsrecord_CloneMsgx3) : Srecord_CloneMsgx3 := ⟨a.2.2.2.2.2.2.2.2.2.2.2.1, b.2.2.1⟩
def otrecord_CloneMsgx3 (s : Srecord_CloneMsgx3) : Sl.Ts τ tsrecord_CloneMsgx3 := ((), (), (), (), (), (), (), (), (), (), (), s.t11, (), (), (), (), (), (), (), (), (), (), (), (), (), (), (), (), (), (), (), (), (), (), (), (), (), (), (), (), (), (), ())
def ohrecord_CloneMsgx3 (s : Srecord_CloneMsgx3) : ESh.Ts τ hsrecord_CloneMsgx3 := ((), (), s.g2, ())
def lprecord_CloneMsgx3 : Lp τ := { ts := tsrecord_CloneMsgx3, hs := hsrecord_CloneMsgx3, S := Srecord_CloneMsgx3, to := torecord_CloneMsgx3, ot := otrecord_CloneMsgx3, oh := ohrecord_CloneMsgx3, hk := [2, 2, 4], tk := [0, 2, 3, 0, 2, 0, 0, 2, 2], ot_to := fun _ _ => rfl, oh_to := fun _ _ => rfl }
def Frecord_CloneMsg (N : Nat) (m : GMsg) : Option (Int × GAddr × GAddr × GBallot × Int × Nat × GEntry × Int × (Vector (Int) 8) × Int × Int × (List (GOp)) × GEpoch × GPart × (List (GSlotted))) :=
 ((Fslices_Clone_Slotted_560 N m.List_).bind fun r1 =>
 (iter N (fun (s2 : Srecord_CloneMsgx3) next3 =>
 (bif (decide (s2.t11 < ((r1.1 : Nat) : Int))) then
 (bif (ibB s2.t11 ((r1.1 : Nat) : Int)) then
 (bif (decide ((s2.t11).toNat < (s2.g2).length)) then
 ((Frecord_CloneEntry N (⟨((s2.g2.getD ((s2.t11).toNat) default).Entry).Kind, ((s2.g2.getD ((s2.t11).toNat) default).Entry).Session, ((s2.g2.getD ((s2.t11).toNat) default).Entry).Request, (⟨((((s2.g2.getD ((s2.t11).toNat) default).Entry).Op).Stamp), (((s2.g2.getD ((s2.t11).toNat) default).Entry).Op).Kind, (((s2.g2.getD ((s2.t11).toNat) default).Entry).Op).Node, (((s2.g2.getD ((s2.t11).toNat) default).Entry).Op).Parent, (((s2.g2.getD ((s2.t11).toNat) default).Entry).Op).Name, (((s2.g2.getD ((s2.t11).toNat) default).Entry).Op).Key, (((s2.g2.getD ((s2.t11).toNat) default).Entry).Op).Value⟩ : GOp), ((s2.g2.getD ((s2.t11).toNat) default).Entry).Origin, ((s2.g2.getD ((s2.t11).toNat) default).Entry).Seq, ((s2.g2.getD ((s2.t11).toNat) default).Entry).Ops, (((s2.g2.getD ((s2.t11).toNat) default).Entry).Epoch), ((s2.g2.getD ((s2.t11).toNat) default).Entry).From, ((s2.g2.getD ((s2.t11).toNat) default).Entry).Vector_, ((s2.g2.getD ((s2.t11).toNat) default).Entry).Clock, (((s2.g2.getD ((s2.t11).toNat) default).Entry).Part), ((s2.g2.getD ((s2.t11).toNat) default).Entry).Site, ((s2.g2.getD ((s2.t11).toNat) default).Entry).Sponsor, ((s2.g2.getD ((s2.t11).toNat) default).Entry).Length⟩ : GEntry)).bind fun r4 =>
 (bif (ibB s2.t11 ((r1.1 : Nat) : Int)) then
 (bif (decide ((s2.t11).toNat < (s2.g2).length)) then
 (next3 ⟨(IntKind.i64.wrap (s2.t11 + 1)), (s2.g2.set ((s2.t11).toNat) (⟨(s2.g2.getD ((s2.t11).toNat) default).Slot, ((s2.g2.getD ((s2.t11).toNat) default).Ballot), r4⟩ : GSlotted))⟩)
 else none)
 else none))
 else none)
 else none)
 else
 ((Frecord_CloneEntry N m.Entry).bind fun r5 =>
 ((Fslices_Clone_Op N m.Ops).bind fun r6 =>
 ((Fslices_Clone_byte N m.Part.Data).bind fun r7 =>
 (some (m.Kind, m.From, m.To, m.Ballot, m.Slot, r1.1, r5, m.Number, m.Vector_, m.Clock, m.Origin, r6, m.Epoch, (⟨m.Part.Snap, m.Part.Index, m.Part.Many, r7⟩ : GPart), s2.g2))))))) ⟨0, r1.2⟩))
def conrecord_CloneMsg : Con τ := { args := [.ty 55], L := [], ret := .agg [.ty 3, .ty 45, .ty 45, .ty 47, .ty 2, .msl 101 0, .ty 53, .ty 2, .ty 24, .ty 2, .ty 3, .ty 28, .ty 26, .ty 51], L' := [.gbx 101], R := Int × GAddr × GAddr × GBallot × Int × Nat × GEntry × Int × (Vector (Int) 8) × Int × Int × (List (GOp)) × GEpoch × GPart × (List (GSlotted)), dflt := (default, default, default, default, default, default, default, default, default, default, default, default, default, default, default), F := fun N a b => Frecord_CloneMsg N a.1, of := fun r => ((r.1, r.2.1, r.2.2.1, r.2.2.2.1, r.2.2.2.2.1, r.2.2.2.2.2.1, r.2.2.2.2.2.2.1, r.2.2.2.2.2.2.2.1, r.2.2.2.2.2.2.2.2.1, r.2.2.2.2.2.2.2.2.2.1, r.2.2.2.2.2.2.2.2.2.2.1, r.2.2.2.2.2.2.2.2.2.2.2.1, r.2.2.2.2.2.2.2.2.2.2.2.2.1, r.2.2.2.2.2.2.2.2.2.2.2.2.2.1, ()), (r.2.2.2.2.2.2.2.2.2.2.2.2.2.2, ())) }
noncomputable def datrecord_CloneMsg : Dat τ := { D := D0, tbl := tblOf [(70, conslices_Clone_Slotted_560), (71, conrecord_CloneEntry), (69, conslices_Clone_Op), (72, conslices_Clone_byte)], lp := lpsOf [(3, lprecord_CloneMsgx3)], k0 := 0, mu := [], un := [] }
theorem okrecord_CloneMsg : ConOk E C 48 conrecord_CloneMsg :=
  con_ok (D := datrecord_CloneMsg) ⟨d0Ok, eGood, tblOf_ok ⟨okslices_Clone_Slotted_560, ⟨okrecord_CloneEntry, ⟨okslices_Clone_Op, ⟨okslices_Clone_byte, trivial⟩⟩⟩⟩, fun _ => rfl⟩ conrecord_CloneMsg (fun a b => (a.1, a.2.1, a.2.2.1, a.2.2.2.1, a.2.2.2.2.1, a.2.2.2.2.2.1, a.2.2.2.2.2.2.1, a.2.2.2.2.2.2.2.1, a.2.2.2.2.2.2.2.2.1, a.2.2.2.2.2.2.2.2.2.1, a.2.2.2.2.2.2.2.2.2.2.1, a.2.2.2.2.2.2.2.2.2.2.2.1, a.2.2.2.2.2.2.2.2.2.2.2.2.1, a.2.2.2.2.2.2.2.2.2.2.2.2.2.1, b.1)) none (fun _ _ => rfl) rfl (fun _ _ h => nomatch h) 1000000 (fn := Try.f48) Try.func48 rfl (by kernel_rfl) (by kernel_rfl) rfl (by intro N a b; kernel_rfl)
def Frecord_CloneMsgz (N : Nat) (m : GMsg) : Option (GMsg) := (Frecord_CloneMsg N m).bind fun r => bif Nat.ble r.2.2.2.2.2.1 (r.2.2.2.2.2.2.2.2.2.2.2.2.2.2).length then some (⟨r.1, r.2.1, r.2.2.1, r.2.2.2.1, r.2.2.2.2.1, (r.2.2.2.2.2.2.2.2.2.2.2.2.2.2.take r.2.2.2.2.2.1), r.2.2.2.2.2.2.1, r.2.2.2.2.2.2.2.1, r.2.2.2.2.2.2.2.2.1, r.2.2.2.2.2.2.2.2.2.1, r.2.2.2.2.2.2.2.2.2.2.1, r.2.2.2.2.2.2.2.2.2.2.2.1, r.2.2.2.2.2.2.2.2.2.2.2.2.1, r.2.2.2.2.2.2.2.2.2.2.2.2.2.1⟩ : GMsg) else none
def conrecord_CloneMsgz : Con τ := { args := [.ty 55], L := [], ret := .ty 55, L' := [.dead], R := GMsg, dflt := default, F := fun N a b => Frecord_CloneMsgz N a.1, of := fun r => (r, ((), ())) }
theorem okrecord_CloneMsgz : ConOk E C 48 conrecord_CloneMsgz := by
  intro N a b r h
  have h : (conrecord_CloneMsg.F N a b).bind (fun r => bif Nat.ble r.2.2.2.2.2.1 (r.2.2.2.2.2.2.2.2.2.2.2.2.2.2).length then some (⟨r.1, r.2.1, r.2.2.1, r.2.2.2.1, r.2.2.2.2.1, (r.2.2.2.2.2.2.2.2.2.2.2.2.2.2.take r.2.2.2.2.2.1), r.2.2.2.2.2.2.1, r.2.2.2.2.2.2.2.1, r.2.2.2.2.2.2.2.2.1, r.2.2.2.2.2.2.2.2.2.1, r.2.2.2.2.2.2.2.2.2.2.1, r.2.2.2.2.2.2.2.2.2.2.2.1, r.2.2.2.2.2.2.2.2.2.2.2.2.1, r.2.2.2.2.2.2.2.2.2.2.2.2.2.1⟩ : GMsg) else none) = some r := h
  obtain ⟨q, h0, h1⟩ := Option.bind_eq_some_iff.1 h
  cases hb : Nat.ble q.2.2.2.2.2.1 (q.2.2.2.2.2.2.2.2.2.2.2.2.2.2).length with
  | false => rw [hb] at h1; cases h1
  | true =>
    rw [hb] at h1
    have h2 : (⟨q.1, q.2.1, q.2.2.1, q.2.2.2.1, q.2.2.2.2.1, (q.2.2.2.2.2.2.2.2.2.2.2.2.2.2.take q.2.2.2.2.2.1), q.2.2.2.2.2.2.1, q.2.2.2.2.2.2.2.1, q.2.2.2.2.2.2.2.2.1, q.2.2.2.2.2.2.2.2.2.1, q.2.2.2.2.2.2.2.2.2.2.1, q.2.2.2.2.2.2.2.2.2.2.2.1, q.2.2.2.2.2.2.2.2.2.2.2.2.1, q.2.2.2.2.2.2.2.2.2.2.2.2.2.1⟩ : GMsg) = r := Option.some.inj h1
    subst h2
    exact FnSpec.mslA (ents := [.gbx 101 q.2.2.2.2.2.2.2.2.2.2.2.2.2.2]) (id := 0) (p := 8) cOk (okrecord_CloneMsg N a b q h0) rfl rfl (Nat.le_of_ble_eq_true hb)
structure Slaw16_opsx4 where
  t13 : Int
def tslaw16_opsx4 : List Sl := [.k, .k, .k, .k, .j, .j, .k, .k, .k, .k, .k, .k, .k, .sh (.ty 2), .j, .j, .j, .j, .j, .j, .j, .j, .j, .j, .j, .j]
def hslaw16_opsx4 : List ESh := []
def tolaw16_opsx4 (a : Sl.Ts τ tslaw16_opsx4) (b : ESh.Ts τ hslaw16_opsx4) : Slaw16_opsx4 := ⟨a.2.2.2.2.2.2.2.2.2.2.2.2.2.1⟩
def otlaw16_opsx4 (s : Slaw16_opsx4) : Sl.Ts τ tslaw16_opsx4 := ((), (), (), (), (), (), (), (), (), (), (), (), (), s.t13, (), (), (), (), (), (), (), (), (), (), (), (), ())
def ohlaw16_opsx4 (s : Slaw16_opsx4) : ESh.Ts τ hslaw16_opsx4 := ()
def lplaw16_opsx4 : Lp τ := { ts := tslaw16_opsx4, hs := hslaw16_opsx4, S := Slaw16_opsx4, to := tolaw16_opsx4, ot := otlaw16_opsx4, oh := ohlaw16_opsx4, hk := [], tk := [], ot_to := fun _ _ => rfl, oh_to := fun _ _ => rfl }
def Flaw16_ops (N : Nat) (a : List (GOp)) (b : List (GOp)) : Option (Bool) :=
 (bif (!(((a).length : Int) == ((b).length : Int))) then
 (some false)
 else
 (iter N (fun (s1 : Slaw16_opsx4) next2 =>
 (bif (decide (s1.t13 < ((a).length : Int))) then
 (bif (ibB s1.t13 ((a).length : Int)) then
 (bif (ibB s1.t13 ((b).length : Int)) then
 (bif (!((((((lget a s1.t13 default).Stamp).Time) == (((lget b s1.t13 default).Stamp).Time)) && ((((lget a s1.t13 default).Stamp).Site) == (((lget b s1.t13 default).Stamp).Site))) && ((((lget a s1.t13 default).Kind) == ((lget b s1.t13 default).Kind)) && ((((lget a s1.t13 default).Node) == ((lget b s1.t13 default).Node)) && ((((lget a s1.t13 default).Parent) == ((lget b s1.t13 default).Parent)) && ((((lget a s1.t13 default).Name) == ((lget b s1.t13 default).Name)) && ((((lget a s1.t13 default).Key) == ((lget b s1.t13 default).Key)) && (((lget a s1.t13 default).Value) == ((lget b s1.t13 default).Value))))))))) then
 (some false)
 else
 (next2 ⟨(IntKind.i64.wrap (s1.t13 + 1))⟩))
 else none)
 else none)
 else
 (some true))) ⟨0⟩))
def conlaw16_ops : Con τ := { args := [.ty 28, .ty 28], L := [], ret := .ty 4, L' := [], R := Bool, dflt := default, F := fun N a b => Flaw16_ops N a.1 a.2.1, of := fun r => (r, ()) }
noncomputable def datlaw16_ops : Dat τ := { D := D0, tbl := tblOf [], lp := lpsOf [(4, lplaw16_opsx4)], k0 := 0, mu := [], un := [] }
theorem oklaw16_ops : ConOk E C 11 conlaw16_ops :=
  con_ok (D := datlaw16_ops) ⟨d0Ok, eGood, tblOf_ok trivial, fun _ => rfl⟩ conlaw16_ops (fun a b => a) none (fun _ _ => rfl) rfl (fun _ _ h => nomatch h) 1000000 (fn := Try.f11) Try.func11 rfl (by kernel_rfl) (by kernel_rfl) rfl (by intro N a b; kernel_rfl)
def Flaw16_ExchangeArrives_aad (N : Nat) (x : GMsg) (s : GSnap) (x2 : GSnap) (x3 : Vector (Int) 8) (x4 : GSnap) (x5 : GSnap) (x6 : GStamp) (x7 : GStamp) (b1 : Bool) (b2 : Int) (b3 : GSnap) (b4 : Int) : Option (Bool × GSnap × GSnap × (Vector (Int) 8) × GSnap × GSnap × GStamp × GStamp × Bool × Int × GSnap × Int × Nat × Bool × Int × GSnap × Int) :=
 (bif ((((((x.Ops).length : Int) == 0) || (decide (16 < ((x.Ops).length : Int)))) || (decide (x.Origin < 0))) || (decide (8 ≤ x.Origin))) then
 (some (true, default, default, default, default, default, default, default, default, default, default, default, 0, false, b2, b3, b4))
 else
 (bif (x.Origin == b2) then
 (some (false, s, x2, x3, x4, x5, x6, x7, b1, b2, b3, (IntKind.i64.wrap (b4 + ((x.Ops).length : Int))), default, default, default, default, default))
 else
 ((Fexchange_Take N b3 x.Origin x.Slot x.Ops).bind fun r1 =>
 ((Flaw16_ops N r1 x.Ops).bind fun r2 =>
 (bif (!r2) then
 (some (true, default, default, default, default, default, default, default, default, default, default, default, 0, false, b2, b3, (IntKind.i64.wrap (b4 + ((x.Ops).length : Int)))))
 else
 (bif (ibB x.Origin 8) then
 (bif (ibB x.Origin 8) then
 (bif (ibB (IntKind.i64.wrap (((r1).length : Int) - 1)) ((r1).length : Int)) then
 (bif (ibB x.Origin 8) then
 (some (false, s, x2, x3, x4, x5, x6, x7, b1, b2, (⟨b3.Site, b3.Applied, b3.Booted, b3.Epoch, b3.Clock, (vset b3.Vector_ ((x.Origin).toNat) (IntKind.i64.wrap ((vget b3.Vector_ ((x.Origin).toNat) default) + ((r1).length : Int)))), (vset b3.Last ((x.Origin).toNat) (((lget r1 (IntKind.i64.wrap (((r1).length : Int) - 1)) default).Stamp).Time)), b3.Base, b3.Log, b3.Frontier, b3.Starts, b3.Kept, b3.Known, b3.Told, b3.Clocks, b3.Sure, b3.Rows, b3.Parts⟩ : GSnap), (IntKind.i64.wrap (b4 + ((x.Ops).length : Int))), default, default, default, default, default))
 else none)
 else none)
 else none)
 else none))))))
def eLlaw16_ExchangeArrives_aad : List ESh := [.rcd 7 18 [.ty 33, .junk, .junk, .junk, .junk, .junk, .ptr 1 [], .ptr 2 [], .ptr 3 [], .junk, .junk, .ptr 4 [], .junk, .junk, .junk, .junk, .junk, .junk, .junk, .junk, .junk, .junk, .ty 33, .junk, .junk, .junk, .junk, .junk, .junk, .junk, .junk, .junk, .junk, .junk, .junk, .ty 23, .ty 33, .junk, .junk, .junk, .junk, .junk, .junk, .junk, .junk, .junk, .junk, .junk, .junk, .junk, .junk, .junk, .junk, .junk, .junk, .junk, .junk, .junk, .junk, .junk, .junk, .junk, .junk, .junk, .junk, .junk, .junk, .junk, .junk, .junk, .junk, .junk, .junk, .junk, .junk, .junk, .junk, .junk, .ty 33, .junk, .junk, .ty 40, .junk, .ty 40, .junk, .junk, .junk, .junk, .junk, .junk, .junk, .junk, .junk, .junk, .junk, .junk, .junk, .junk, .junk, .junk, .junk, .junk, .junk, .junk, .junk, .junk, .junk, .junk, .junk, .junk, .junk, .junk, .junk, .junk, .junk, .junk, .junk, .junk, .junk, .junk, .junk, .junk, .junk, .junk, .junk, .junk, .junk, .junk, .junk, .junk, .junk, .junk, .junk, .junk, .junk, .junk, .junk, .junk, .junk, .junk, .junk, .junk, .junk, .junk, .junk, .junk, .junk, .junk, .junk, .junk, .junk, .junk, .junk, .junk, .junk, .junk, .junk, .junk, .junk, .junk, .junk, .junk, .junk, .junk, .junk, .junk, .junk, .junk, .junk, .junk, .junk, .junk, .junk, .junk, .junk, .junk, .junk, .junk, .junk, .junk, .junk, .junk, .junk, .junk, .junk, .junk, .junk, .junk, .junk, .junk, .junk, .junk, .junk, .junk, .junk, .junk, .junk, .junk, .junk, .junk], .box (.ty 4), .box (.ty 3), .box (.ty 34), .box (.ty 3)]
def altlaw16_ExchangeArrives_aad : Alt τ (Bool × GSnap × GSnap × (Vector (Int) 8) × GSnap × GSnap × GStamp × GStamp × Bool × Int × GSnap × Int × Nat × Bool × Int × GSnap × Int) := { ret := .bo false, L' := [.rdn, .box (.ty 4), .box (.ty 3), .box (.ty 34), .box (.ty 3)], of := fun r => ((), (r.2.2.2.2.2.2.2.2.2.2.2.2.1, r.2.2.2.2.2.2.2.2.2.2.2.2.2.1, r.2.2.2.2.2.2.2.2.2.2.2.2.2.2.1, r.2.2.2.2.2.2.2.2.2.2.2.2.2.2.2.1, r.2.2.2.2.2.2.2.2.2.2.2.2.2.2.2.2, ())) }
def conlaw16_ExchangeArrives_aad : Con τ := { args := [.yld 0, .ty 54], L := eLlaw16_ExchangeArrives_aad, ret := .bo true, L' := eLlaw16_ExchangeArrives_aad, R := Bool × GSnap × GSnap × (Vector (Int) 8) × GSnap × GSnap × GStamp × GStamp × Bool × Int × GSnap × Int × Nat × Bool × Int × GSnap × Int, dflt := (default, default, default, default, default, default, default, default, default, default, default, default, default, default, default, default, default), F := fun N a b => Flaw16_ExchangeArrives_aad N a.2.1 b.1.1 b.1.2.2.2.2.2.2.2.2.2.2.2.2.2.2.2.2.2.2.2.2.2.2.1 b.1.2.2.2.2.2.2.2.2.2.2.2.2.2.2.2.2.2.2.2.2.2.2.2.2.2.2.2.2.2.2.2.2.2.2.2.1 b.1.2.2.2.2.2.2.2.2.2.2.2.2.2.2.2.2.2.2.2.2.2.2.2.2.2.2.2.2.2.2.2.2.2.2.2.2.1 b.1.2.2.2.2.2.2.2.2.2.2.2.2.2.2.2.2.2.2.2.2.2.2.2.2.2.2.2.2.2.2.2.2.2.2.2.2.2.2.2.2.2.2.2.2.2.2.2.2.2.2.2.2.2.2.2.2.2.2.2.2.2.2.2.2.2.2.2.2.2.2.2.2.2.2.2.2.2.2.1 b.1.2.2.2.2.2.2.2.2.2.2.2.2.2.2.2.2.2.2.2.2.2.2.2.2.2.2.2.2.2.2.2.2.2.2.2.2.2.2.2.2.2.2.2.2.2.2.2.2.2.2.2.2.2.2.2.2.2.2.2.2.2.2.2.2.2.2.2.2.2.2.2.2.2.2.2.2.2.2.2.2.2.1 b.1.2.2.2.2.2.2.2.2.2.2.2.2.2.2.2.2.2.2.2.2.2.2.2.2.2.2.2.2.2.2.2.2.2.2.2.2.2.2.2.2.2.2.2.2.2.2.2.2.2.2.2.2.2.2.2.2.2.2.2.2.2.2.2.2.2.2.2.2.2.2.2.2.2.2.2.2.2.2.2.2.2.2.2.1 b.2.1 b.2.2.1 b.2.2.2.1 b.2.2.2.2.1, of := fun r => ((), ((r.2.1, (), (), (), (), (), (), (), (), (), (), (), (), (), (), (), (), (), (), (), (), (), r.2.2.1, (), (), (), (), (), (), (), (), (), (), (), (), r.2.2.2.1, r.2.2.2.2.1, (), (), (), (), (), (), (), (), (), (), (), (), (), (), (), (), (), (), (), (), (), (), (), (), (), (), (), (), (), (), (), (), (), (), (), (), (), (), (), (), (), r.2.2.2.2.2.1, (), (), r.2.2.2.2.2.2.1, (), r.2.2.2.2.2.2.2.1, (), (), (), (), (), (), (), (), (), (), (), (), (), (), (), (), (), (), (), (), (), (), (), (), (), (), (), (), (), (), (), (), (), (), (), (), (), (), (), (), (), (), (), (), (), (), (), (), (), (), (), (), (), (), (), (), (), (), (), (), (), (), (), (), (), (), (), (), (), (), (), (), (), (), (), (), (), (), (), (), (), (), (), (), (), (), (), (), (), (), (), (), (), (), (), (), (), (), (), (), (), (), (), (), (), (), (), (), (), (), (), (), (), (), (), (), ()), r.2.2.2.2.2.2.2.2.1, r.2.2.2.2.2.2.2.2.2.1, r.2.2.2.2.2.2.2.2.2.2.1, r.2.2.2.2.2.2.2.2.2.2.2.1, ())), alt := some altlaw16_ExchangeArrives_aad, sel := fun r => r.1 }
noncomputable def datlaw16_ExchangeArrives_aad : Dat τ := { D := D0, tbl := tblOf [(12, conexchange_Take), (11, conlaw16_ops)], lp := lpsOf [], k0 := 5, mu := [], un := [], fid := 7 }
theorem oklaw16_ExchangeArrives_aad : ConOk E C yieldF conlaw16_ExchangeArrives_aad :=
  con_round (D := datlaw16_ExchangeArrives_aad) ⟨d0Ok, eGood, tblOf_ok ⟨okexchange_Take, ⟨oklaw16_ops, trivial⟩⟩, fun _ => rfl⟩ (f := 7) (k := 18) (ps := [86]) (by kernel_rfl) rfl (fun a b => (false, b.1.1, b.1.2.2.2.2.2.2.2.2.2.2.2.2.2.2.2.2.2.2.2.2.2.2.1, b.1.2.2.2.2.2.2.2.2.2.2.2.2.2.2.2.2.2.2.2.2.2.2.2.2.2.2.2.2.2.2.2.2.2.2.2.1, b.1.2.2.2.2.2.2.2.2.2.2.2.2.2.2.2.2.2.2.2.2.2.2.2.2.2.2.2.2.2.2.2.2.2.2.2.2.1, b.1.2.2.2.2.2.2.2.2.2.2.2.2.2.2.2.2.2.2.2.2.2.2.2.2.2.2.2.2.2.2.2.2.2.2.2.2.2.2.2.2.2.2.2.2.2.2.2.2.2.2.2.2.2.2.2.2.2.2.2.2.2.2.2.2.2.2.2.2.2.2.2.2.2.2.2.2.2.2.1, b.1.2.2.2.2.2.2.2.2.2.2.2.2.2.2.2.2.2.2.2.2.2.2.2.2.2.2.2.2.2.2.2.2.2.2.2.2.2.2.2.2.2.2.2.2.2.2.2.2.2.2.2.2.2.2.2.2.2.2.2.2.2.2.2.2.2.2.2.2.2.2.2.2.2.2.2.2.2.2.2.2.2.1, b.1.2.2.2.2.2.2.2.2.2.2.2.2.2.2.2.2.2.2.2.2.2.2.2.2.2.2.2.2.2.2.2.2.2.2.2.2.2.2.2.2.2.2.2.2.2.2.2.2.2.2.2.2.2.2.2.2.2.2.2.2.2.2.2.2.2.2.2.2.2.2.2.2.2.2.2.2.2.2.2.2.2.2.2.1, b.2.1, b.2.2.1, b.2.2.2.1, b.2.2.2.2.1, default, default, default, default, default)) (some ⟨altlaw16_ExchangeArrives_aad, fun a b => (true, default, default, default, default, default, default, default, default, default, default, default, b.1, b.2.1, b.2.2.1, b.2.2.2.1, b.2.2.2.2.1)⟩) (fun _ _ => rfl) rfl (fun A t h => by cases h; exact ⟨fun _ _ => rfl, fun _ _ => rfl, fun _ _ => rfl⟩) 1000000 (by kernel_rfl) (by kernel_rfl) (by kernel_rfl) (by kernel_rfl) rfl (by intro l N a b; kernel_rfl)
structure Sexchange_Push_1_ce9x1 where
  t7 : Int
  z0 : GSnap
  z02 : GSnap
  z03 : Vector (Int) 8
  z04 : GSnap
  z05 : GSnap
  z06 : GStamp
  z07 : GStamp
  b2 : Bool
  b3 : Int
  b4 : GSnap
  b5 : Int
def tsexchange_Push_1_ce9x1 : List Sl := [.k, .k, .k, .k, .j, .k, .k, .sh (.ty 2), .j, .j, .j, .j, .j, .j, .j, .j, .j]
def hsexchange_Push_1_ce9x1 : List ESh := [.rcd 7 18 [.ty 33, .junk, .junk, .junk, .junk, .junk, .ptr 2 [], .ptr 3 [], .ptr 4 [], .junk, .junk, .ptr 5 [], .junk, .junk, .junk, .junk, .junk, .junk, .junk, .junk, .junk, .junk, .ty 33, .junk, .junk, .junk, .junk, .junk, .junk, .junk, .junk, .junk, .junk, .junk, .junk, .ty 23, .ty 33, .junk, .junk, .junk, .junk, .junk, .junk, .junk, .junk, .junk, .junk, .junk, .junk, .junk, .junk, .junk, .junk, .junk, .junk, .junk, .junk, .junk, .junk, .junk, .junk, .junk, .junk, .junk, .junk, .junk, .junk, .junk, .junk, .junk, .junk, .junk, .junk, .junk, .junk, .junk, .junk, .junk, .ty 33, .junk, .junk, .ty 40, .junk, .ty 40, .junk, .junk, .junk, .junk, .junk, .junk, .junk, .junk, .junk, .junk, .junk, .junk, .junk, .junk, .junk, .junk, .junk, .junk, .junk, .junk, .junk, .junk, .junk, .junk, .junk, .junk, .junk, .junk, .junk, .junk, .junk, .junk, .junk, .junk, .junk, .junk, .junk, .junk, .junk, .junk, .junk, .junk, .junk, .junk, .junk, .junk, .junk, .junk, .junk, .junk, .junk, .junk, .junk, .junk, .junk, .junk, .junk, .junk, .junk, .junk, .junk, .junk, .junk, .junk, .junk, .junk, .junk, .junk, .junk, .junk, .junk, .junk, .junk, .junk, .junk, .junk, .junk, .junk, .junk, .junk, .junk, .junk, .junk, .junk, .junk, .junk, .junk, .junk, .junk, .junk, .junk, .junk, .junk, .junk, .junk, .junk, .junk, .junk, .junk, .junk, .junk, .junk, .junk, .junk, .junk, .junk, .junk, .junk, .junk, .junk, .junk, .junk, .junk, .junk, .junk, .junk], .keep, .box (.ty 4), .box (.ty 2), .box (.ty 33), .box (.ty 2)]
def toexchange_Push_1_ce9x1 (a : Sl.Ts τ tsexchange_Push_1_ce9x1) (b : ESh.Ts τ hsexchange_Push_1_ce9x1) : Sexchange_Push_1_ce9x1 := ⟨a.2.2.2.2.2.2.2.1, b.1.1, b.1.2.2.2.2.2.2.2.2.2.2.2.2.2.2.2.2.2.2.2.2.2.2.1, b.1.2.2.2.2.2.2.2.2.2.2.2.2.2.2.2.2.2.2.2.2.2.2.2.2.2.2.2.2.2.2.2.2.2.2.2.1, b.1.2.2.2.2.2.2.2.2.2.2.2.2.2.2.2.2.2.2.2.2.2.2.2.2.2.2.2.2.2.2.2.2.2.2.2.2.1, b.1.2.2.2.2.2.2.2.2.2.2.2.2.2.2.2.2.2.2.2.2.2.2.2.2.2.2.2.2.2.2.2.2.2.2.2.2.2.2.2.2.2.2.2.2.2.2.2.2.2.2.2.2.2.2.2.2.2.2.2.2.2.2.2.2.2.2.2.2.2.2.2.2.2.2.2.2.2.2.1, b.1.2.2.2.2.2.2.2.2.2.2.2.2.2.2.2.2.2.2.2.2.2.2.2.2.2.2.2.2.2.2.2.2.2.2.2.2.2.2.2.2.2.2.2.2.2.2.2.2.2.2.2.2.2.2.2.2.2.2.2.2.2.2.2.2.2.2.2.2.2.2.2.2.2.2.2.2.2.2.2.2.2.1, b.1.2.2.2.2.2.2.2.2.2.2.2.2.2.2.2.2.2.2.2.2.2.2.2.2.2.2.2.2.2.2.2.2.2.2.2.2.2.2.2.2.2.2.2.2.2.2.2.2.2.2.2.2.2.2.2.2.2.2.2.2.2.2.2.2.2.2.2.2.2.2.2.2.2.2.2.2.2.2.2.2.2.2.2.1, b.2.2.1, b.2.2.2.1, b.2.2.2.2.1, b.2.2.2.2.2.1⟩
def otexchange_Push_1_ce9x1 (s : Sexchange_Push_1_ce9x1) : Sl.Ts τ tsexchange_Push_1_ce9x1 := ((), (), (), (), (), (), (), s.t7, (), (), (), (), (), (), (), (), (), ())
def ohexchange_Push_1_ce9x1 (s : Sexchange_Push_1_ce9x1) : ESh.Ts τ hsexchange_Push_1_ce9x1 := ((s.z0, (), (), (), (), (), (), (), (), (), (), (), (), (), (), (), (), (), (), (), (), (), s.z02, (), (), (), (), (), (), (), (), (), (), (), (), s.z03, s.z04, (), (), (), (), (), (), (), (), (), (), (), (), (), (), (), (), (), (), (), (), (), (), (), (), (), (), (), (), (), (), (), (), (), (), (), (), (), (), (), (), (), s.z05, (), (), s.z06, (), s.z07, (), (), (), (), (), (), (), (), (), (), (), (), (), (), (), (), (), (), (), (), (), (), (), (), (), (), (), (), (), (), (), (), (), (), (), (), (), (), (), (), (), (), (), (), (), (), (), (), (), (), (), (), (), (), (), (), (), (), (), (), (), (), (), (), (), (), (), (), (), (), (), (), (), (), (), (), (), (), (), (), (), (), (), (), (), (), (), (), (), (), (), (), (), (), (), (), (), (), (), (), (), (), (), (), (), (), (), (), (), (), (), (), (), (), (), (), ()), (), s.b2, s.b3, s.b4, s.b5, ())
def lpexchange_Push_1_ce9x1 : Lp τ := { ts := tsexchange_Push_1_ce9x1, hs := hsexchange_Push_1_ce9x1, S := Sexchange_Push_1_ce9x1, to := toexchange_Push_1_ce9x1, ot := otexchange_Push_1_ce9x1, oh := ohexchange_Push_1_ce9x1, hk := [6, 2, 2, 2, 2, 2], tk := [0, 3], ot_to := fun _ _ => rfl, oh_to := fun _ _ => rfl }
def Fexchange_Push_1_ce9 (N : Nat) (z0 : GSnap) (z02 : GSnap) (z03 : Vector (Int) 8) (z04 : GSnap) (z05 : GSnap) (z06 : GStamp) (z07 : GStamp) (b1 : List (GMsg)) (b2 : Bool) (b3 : Int) (b4 : GSnap) (b5 : Int) : Option (Bool × GSnap × GSnap × (Vector (Int) 8) × GSnap × GSnap × GStamp × GStamp × (List (GMsg)) × Bool × Int × GSnap × Int × Nat × (List (GMsg)) × Bool × Int × GSnap × Int) :=
 (iter N (fun (s1 : Sexchange_Push_1_ce9x1) next2 =>
 (bif (decide (s1.t7 < ((b1).length : Int))) then
 (bif (ibB s1.t7 ((b1).length : Int)) then
 ((Frecord_CloneMsgz N (⟨(lget b1 s1.t7 default).Kind, ((lget b1 s1.t7 default).From), ((lget b1 s1.t7 default).To), ((lget b1 s1.t7 default).Ballot), (lget b1 s1.t7 default).Slot, (lget b1 s1.t7 default).List_, (⟨((lget b1 s1.t7 default).Entry).Kind, ((lget b1 s1.t7 default).Entry).Session, ((lget b1 s1.t7 default).Entry).Request, (⟨((((lget b1 s1.t7 default).Entry).Op).Stamp), (((lget b1 s1.t7 default).Entry).Op).Kind, (((lget b1 s1.t7 default).Entry).Op).Node, (((lget b1 s1.t7 default).Entry).Op).Parent, (((lget b1 s1.t7 default).Entry).Op).Name, (((lget b1 s1.t7 default).Entry).Op).Key, (((lget b1 s1.t7 default).Entry).Op).Value⟩ : GOp), ((lget b1 s1.t7 default).Entry).Origin, ((lget b1 s1.t7 default).Entry).Seq, ((lget b1 s1.t7 default).Entry).Ops, (((lget b1 s1.t7 default).Entry).Epoch), ((lget b1 s1.t7 default).Entry).From, ((lget b1 s1.t7 default).Entry).Vector_, ((lget b1 s1.t7 default).Entry).Clock, (((lget b1 s1.t7 default).Entry).Part), ((lget b1 s1.t7 default).Entry).Site, ((lget b1 s1.t7 default).Entry).Sponsor, ((lget b1 s1.t7 default).Entry).Length⟩ : GEntry), (lget b1 s1.t7 default).Number, (lget b1 s1.t7 default).Vector_, (lget b1 s1.t7 default).Clock, (lget b1 s1.t7 default).Origin, (lget b1 s1.t7 default).Ops, ((lget b1 s1.t7 default).Epoch), ((lget b1 s1.t7 default).Part)⟩ : GMsg)).bind fun r3 =>
 ((Flaw16_ExchangeArrives_aad N r3 s1.z0 s1.z02 s1.z03 s1.z04 s1.z05 s1.z06 s1.z07 s1.b2 s1.b3 s1.b4 s1.b5).bind fun r4 =>
 (bif r4.1 then
 (some (true, default, default, default, default, default, default, default, default, default, default, default, default, r4.2.2.2.2.2.2.2.2.2.2.2.2.1, b1, r4.2.2.2.2.2.2.2.2.2.2.2.2.2.1, r4.2.2.2.2.2.2.2.2.2.2.2.2.2.2.1, r4.2.2.2.2.2.2.2.2.2.2.2.2.2.2.2.1, r4.2.2.2.2.2.2.2.2.2.2.2.2.2.2.2.2))
 else
 (next2 ⟨(IntKind.i64.wrap (s1.t7 + 1)), r4.2.1, r4.2.2.1, r4.2.2.2.1, r4.2.2.2.2.1, r4.2.2.2.2.2.1, r4.2.2.2.2.2.2.1, r4.2.2.2.2.2.2.2.1, r4.2.2.2.2.2.2.2.2.1, r4.2.2.2.2.2.2.2.2.2.1, r4.2.2.2.2.2.2.2.2.2.2.1, r4.2.2.2.2.2.2.2.2.2.2.2.1⟩))))
 else none)
 else
 (some (false, s1.z0, s1.z02, s1.z03, s1.z04, s1.z05, s1.z06, s1.z07, b1, s1.b2, s1.b3, s1.b4, s1.b5, default, default, default, default, default, default)))) ⟨0, z0, z02, z03, z04, z05, z06, z07, b2, b3, b4, b5⟩)
def eLexchange_Push_1_ce9 : List ESh := [.rcd 7 18 [.ty 33, .junk, .junk, .junk, .junk, .junk, .ptr 2 [], .ptr 3 [], .ptr 4 [], .junk, .junk, .ptr 5 [], .junk, .junk, .junk, .junk, .junk, .junk, .junk, .junk, .junk, .junk, .ty 33, .junk, .junk, .junk, .junk, .junk, .junk, .junk, .junk, .junk, .junk, .junk, .junk, .ty 23, .ty 33, .junk, .junk, .junk, .junk, .junk, .junk, .junk, .junk, .junk, .junk, .junk, .junk, .junk, .junk, .junk, .junk, .junk, .junk, .junk, .junk, .junk, .junk, .junk, .junk, .junk, .junk, .junk, .junk, .junk, .junk, .junk, .junk, .junk, .junk, .junk, .junk, .junk, .junk, .junk, .junk, .junk, .ty 33, .junk, .junk, .ty 40, .junk, .ty 40, .junk, .junk, .junk, .junk, .junk, .junk, .junk, .junk, .junk, .junk, .junk, .junk, .junk, .junk, .junk, .junk, .junk, .junk, .junk, .junk, .junk, .junk, .junk, .junk, .junk, .junk, .junk, .junk, .junk, .junk, .junk, .junk, .junk, .junk, .junk, .junk, .junk, .junk, .junk, .junk, .junk, .junk, .junk, .junk, .junk, .junk, .junk, .junk, .junk, .junk, .junk, .junk, .junk, .junk, .junk, .junk, .junk, .junk, .junk, .junk, .junk, .junk, .junk, .junk, .junk, .junk, .junk, .junk, .junk, .junk, .junk, .junk, .junk, .junk, .junk, .junk, .junk, .junk, .junk, .junk, .junk, .junk, .junk, .junk, .junk, .junk, .junk, .junk, .junk, .junk, .junk, .junk, .junk, .junk, .junk, .junk, .junk, .junk, .junk, .junk, .junk, .junk, .junk, .junk, .junk, .junk, .junk, .junk, .junk, .junk, .junk, .junk, .junk, .junk, .junk, .junk], .box (.ty 65), .box (.ty 4), .box (.ty 3), .box (.ty 34), .box (.ty 3)]
def altexchange_Push_1_ce9 : Alt τ (Bool × GSnap × GSnap × (Vector (Int) 8) × GSnap × GSnap × GStamp × GStamp × (List (GMsg)) × Bool × Int × GSnap × Int × Nat × (List (GMsg)) × Bool × Int × GSnap × Int) := { ret := .tup [], L' := [.rdn, .box (.ty 65), .box (.ty 4), .box (.ty 3), .box (.ty 34), .box (.ty 3)], of := fun r => ((), (r.2.2.2.2.2.2.2.2.2.2.2.2.2.1, r.2.2.2.2.2.2.2.2.2.2.2.2.2.2.1, r.2.2.2.2.2.2.2.2.2.2.2.2.2.2.2.1, r.2.2.2.2.2.2.2.2.2.2.2.2.2.2.2.2.1, r.2.2.2.2.2.2.2.2.2.2.2.2.2.2.2.2.2.1, r.2.2.2.2.2.2.2.2.2.2.2.2.2.2.2.2.2.2, ())) }
def conexchange_Push_1_ce9 : Con τ := { args := [.yld 0, .ptr 1 []], L := eLexchange_Push_1_ce9, ret := .tup [], L' := eLexchange_Push_1_ce9, R := Bool × GSnap × GSnap × (Vector (Int) 8) × GSnap × GSnap × GStamp × GStamp × (List (GMsg)) × Bool × Int × GSnap × Int × Nat × (List (GMsg)) × Bool × Int × GSnap × Int, dflt := (default, default, default, default, default, default, default, default, default, default, default, default, default, default, default, default, default, default, default), F := fun N a b => Fexchange_Push_1_ce9 N b.1.1 b.1.2.2.2.2.2.2.2.2.2.2.2.2.2.2.2.2.2.2.2.2.2.2.1 b.1.2.2.2.2.2.2.2.2.2.2.2.2.2.2.2.2.2.2.2.2.2.2.2.2.2.2.2.2.2.2.2.2.2.2.2.1 b.1.2.2.2.2.2.2.2.2.2.2.2.2.2.2.2.2.2.2.2.2.2.2.2.2.2.2.2.2.2.2.2.2.2.2.2.2.1 b.1.2.2.2.2.2.2.2.2.2.2.2.2.2.2.2.2.2.2.2.2.2.2.2.2.2.2.2.2.2.2.2.2.2.2.2.2.2.2.2.2.2.2.2.2.2.2.2.2.2.2.2.2.2.2.2.2.2.2.2.2.2.2.2.2.2.2.2.2.2.2.2.2.2.2.2.2.2.2.1 b.1.2.2.2.2.2.2.2.2.2.2.2.2.2.2.2.2.2.2.2.2.2.2.2.2.2.2.2.2.2.2.2.2.2.2.2.2.2.2.2.2.2.2.2.2.2.2.2.2.2.2.2.2.2.2.2.2.2.2.2.2.2.2.2.2.2.2.2.2.2.2.2.2.2.2.2.2.2.2.2.2.2.1 b.1.2.2.2.2.2.2.2.2.2.2.2.2.2.2.2.2.2.2.2.2.2.2.2.2.2.2.2.2.2.2.2.2.2.2.2.2.2.2.2.2.2.2.2.2.2.2.2.2.2.2.2.2.2.2.2.2.2.2.2.2.2.2.2.2.2.2.2.2.2.2.2.2.2.2.2.2.2.2.2.2.2.2.2.1 b.2.1 b.2.2.1 b.2.2.2.1 b.2.2.2.2.1 b.2.2.2.2.2.1, of := fun r => ((), ((r.2.1, (), (), (), (), (), (), (), (), (), (), (), (), (), (), (), (), (), (), (), (), (), r.2.2.1, (), (), (), (), (), (), (), (), (), (), (), (), r.2.2.2.1, r.2.2.2.2.1, (), (), (), (), (), (), (), (), (), (), (), (), (), (), (), (), (), (), (), (), (), (), (), (), (), (), (), (), (), (), (), (), (), (), (), (), (), (), (), (), (), r.2.2.2.2.2.1, (), (), r.2.2.2.2.2.2.1, (), r.2.2.2.2.2.2.2.1, (), (), (), (), (), (), (), (), (), (), (), (), (), (), (), (), (), (), (), (), (), (), (), (), (), (), (), (), (), (), (), (), (), (), (), (), (), (), (), (), (), (), (), (), (), (), (), (), (), (), (), (), (), (), (), (), (), (), (), (), (), (), (), (), (), (), (), (), (), (), (), (), (), (), (), (), (), (), (), (), (), (), (), (), (), (), (), (), (), (), (), (), (), (), (), (), (), (), (), (), (), (), (), (), (), (), (), (), (), (), (), (), (), (), (), (), ()), r.2.2.2.2.2.2.2.2.1, r.2.2.2.2.2.2.2.2.2.1, r.2.2.2.2.2.2.2.2.2.2.1, r.2.2.2.2.2.2.2.2.2.2.2.1, r.2.2.2.2.2.2.2.2.2.2.2.2.1, ())), alt := some altexchange_Push_1_ce9, sel := fun r => r.1 }
noncomputable def datexchange_Push_1_ce9 : Dat τ := { D := D0, tbl := tblOf [(48, conrecord_CloneMsgz), (1000000, conlaw16_ExchangeArrives_aad)], lp := lpsOf [(1, lpexchange_Push_1_ce9x1)], k0 := 6, mu := [], un := [] }
theorem okexchange_Push_1_ce9 : ConOk E C 47 conexchange_Push_1_ce9 :=
  con_ok (D := datexchange_Push_1_ce9) ⟨d0Ok, eGood, tblOf_ok ⟨okrecord_CloneMsgz, ⟨oklaw16_ExchangeArrives_aad, trivial⟩⟩, fun _ => rfl⟩ conexchange_Push_1_ce9 (fun a b => (false, b.1.1, b.1.2.2.2.2.2.2.2.2.2.2.2.2.2.2.2.2.2.2.2.2.2.2.1, b.1.2.2.2.2.2.2.2.2.2.2.2.2.2.2.2.2.2.2.2.2.2.2.2.2.2.2.2.2.2.2.2.2.2.2.2.1, b.1.2.2.2.2.2.2.2.2.2.2.2.2.2.2.2.2.2.2.2.2.2.2.2.2.2.2.2.2.2.2.2.2.2.2.2.2.1, b.1.2.2.2.2.2.2.2.2.2.2.2.2.2.2.2.2.2.2.2.2.2.2.2.2.2.2.2.2.2.2.2.2.2.2.2.2.2.2.2.2.2.2.2.2.2.2.2.2.2.2.2.2.2.2.2.2.2.2.2.2.2.2.2.2.2.2.2.2.2.2.2.2.2.2.2.2.2.2.1, b.1.2.2.2.2.2.2.2.2.2.2.2.2.2.2.2.2.2.2.2.2.2.2.2.2.2.2.2.2.2.2.2.2.2.2.2.2.2.2.2.2.2.2.2.2.2.2.2.2.2.2.2.2.2.2.2.2.2.2.2.2.2.2.2.2.2.2.2.2.2.2.2.2.2.2.2.2.2.2.2.2.2.1, b.1.2.2.2.2.2.2.2.2.2.2.2.2.2.2.2.2.2.2.2.2.2.2.2.2.2.2.2.2.2.2.2.2.2.2.2.2.2.2.2.2.2.2.2.2.2.2.2.2.2.2.2.2.2.2.2.2.2.2.2.2.2.2.2.2.2.2.2.2.2.2.2.2.2.2.2.2.2.2.2.2.2.2.2.1, b.2.1, b.2.2.1, b.2.2.2.1, b.2.2.2.2.1, b.2.2.2.2.2.1, default, default, default, default, default, default)) (some ⟨altexchange_Push_1_ce9, fun a b => (true, default, default, default, default, default, default, default, default, default, default, default, default, b.1, b.2.1, b.2.2.1, b.2.2.2.1, b.2.2.2.2.1, b.2.2.2.2.2.1)⟩) (fun _ _ => rfl) rfl (fun A t h => by cases h; exact ⟨fun _ _ => rfl, fun _ _ => rfl, fun _ _ => rfl⟩) 1000000 (fn := Try.f47) Try.func47 rfl (by kernel_rfl) (by kernel_rfl) rfl (by intro N a b; kernel_rfl)
structure Slaw16_ExchangeArrivesx8 where
  t37 : Int
  b3 : GSnap
def tslaw16_ExchangeArrivesx8 : List Sl := [.k, .k, .k, .k, .k, .k, .k, .k, .k, .j, .j, .k, .k, .k, .k, .k, .k, .k, .k, .k, .k, .k, .k, .k, .k, .k, .j, .j, .j, .j, .k, .k, .k, .k, .k, .k, .k, .sh (.ty 2), .j, .j, .j, .j, .j, .j, .j, .j, .j, .j, .j, .j, .j, .j, .j, .j, .j, .j, .j, .j, .j, .j, .j, .j, .j, .j, .j, .j, .j, .j, .j, .j, .j, .j, .j, .j, .j, .j, .j, .j, .k, .k, .k, .k, .k, .k, .k, .k, .k, .k, .k, .k, .k, .k, .k, .k, .k, .k, .k, .k, .k, .k, .k, .k, .k, .k, .k, .k, .k, .k, .k, .k, .k, .k, .k, .k, .k, .k, .k, .k, .k, .k, .k, .k, .k, .k, .k, .k, .k, .k, .k, .k, .k, .k, .k, .k, .k, .k, .k, .k, .k, .k, .k, .k, .k, .k, .k, .k, .k, .k, .k, .k, .k, .k, .k, .k, .k, .k, .k, .k, .k, .k, .k, .k, .k, .k, .k, .k, .k, .k, .k, .k, .k, .k, .k, .k, .k, .k, .k, .k, .k, .k, .k, .k, .k, .k, .k, .k, .k, .k, .k, .k, .k, .k, .k, .k, .k, .k, .k, .k, .k, .k]
def hslaw16_ExchangeArrivesx8 : List ESh := [.keep, .keep, .keep, .box (.ty 33)]
def tolaw16_ExchangeArrivesx8 (a : Sl.Ts τ tslaw16_ExchangeArrivesx8) (b : ESh.Ts τ hslaw16_ExchangeArrivesx8) : Slaw16_ExchangeArrivesx8 := ⟨a.2.2.2.2.2.2.2.2.2.2.2.2.2.2.2.2.2.2.2.2.2.2.2.2.2.2.2.2.2.2.2.2.2.2.2.2.2.1, b.2.2.2.1⟩
def otlaw16_ExchangeArrivesx8 (s : Slaw16_ExchangeArrivesx8) : Sl.Ts τ tslaw16_ExchangeArrivesx8 := ((), (), (), (), (), (), (), (), (), (), (), (), (), (), (), (), (), (), (), (), (), (), (), (), (), (), (), (), (), (), (), (), (), (), (), (), (), s.t37, (), (), (), (), (), (), (), (), (), (), (), (), (), (), (), (), (), (), (), (), (), (), (), (), (), (), (), (), (), (), (), (), (), (), (), (), (), (), (), (), (), (), (), (), (), (), (), (), (), (), (), (), (), (), (), (), (), (), (), (), (), (), (), (), (), (), (), (), (), (), (), (), (), (), (), (), (), (), (), (), (), (), (), (), (), (), (), (), (), (), (), (), (), (), (), (), (), (), (), (), (), (), (), (), (), (), (), (), (), (), (), (), (), (), (), (), (), (), (), (), (), (), (), (), (), (), (), (), (), (), (), (), (), (), (), (), (), (), (), (), (), (), (), (), (), (), (), (), (), (), (), (), (), (), (), (), (), (), (), (), (), (), ())
def ohlaw16_ExchangeArrivesx8 (s : Slaw16_ExchangeArrivesx8) : ESh.Ts τ hslaw16_ExchangeArrivesx8 := ((), (), (), s.b3, ())
def lplaw16_ExchangeArrivesx8 : Lp τ := { ts := tslaw16_ExchangeArrivesx8, hs := hslaw16_ExchangeArrivesx8, S := Slaw16_ExchangeArrivesx8, to := tolaw16_ExchangeArrivesx8, ot := otlaw16_ExchangeArrivesx8, oh := ohlaw16_ExchangeArrivesx8, hk := [2, 2, 2, 2], tk := [0, 0, 0, 2, 0, 0, 3, 4, 5, 0, 0, 0, 0, 0, 0, 0, 0, 0, 0, 0, 0, 0, 0, 0, 0, 0, 0, 0, 0, 0, 0, 0, 0, 2, 2], ot_to := fun _ _ => rfl, oh_to := fun _ _ => rfl }
structure Slaw16_ExchangeArrivesx31 where
  all : Int
  t155 : Int
def tslaw16_ExchangeArrivesx31 : List Sl := [.k, .k, .k, .k, .k, .k, .k, .k, .k, .k, .k, .k, .k, .k, .sh (.ty 2), .j, .k, .k, .k, .k, .k, .k, .k, .k, .k, .k, .k, .k, .k, .k, .k, .k, .k, .k, .k, .k, .k, .k, .k, .k, .k, .k, .k, .k, .k, .k, .k, .k, .k, .k, .k, .k, .k, .k, .k, .k, .k, .k, .k, .k, .k, .k, .k, .k, .k, .k, .k, .k, .k, .k, .k, .k, .k, .k, .k, .k, .k, .k, .k, .k, .k, .k, .k, .k, .k, .k, .k, .k, .k, .k, .k, .k, .k, .k, .k, .k, .k, .k, .k, .k, .k, .k, .k, .k, .k, .k, .k, .k, .k, .k, .k, .k, .k, .k, .k, .k, .k, .k, .k, .k, .k, .k, .k, .k, .k, .k, .k, .k, .k, .k, .k, .k, .k, .k, .k, .k, .k, .k, .k, .k, .k, .k, .k, .k, .k, .k, .k, .k, .k, .k, .k, .k, .k, .k, .k, .sh (.ty 2), .j, .j, .j, .j, .j, .j, .j, .j, .j, .j, .k, .k, .k, .k, .k, .k, .k, .k, .k, .k, .k, .k, .k, .k, .k, .k, .k, .k, .k, .k, .k, .k, .k, .k, .k, .k, .k, .k, .k, .k, .k, .k, .k, .k]
def hslaw16_ExchangeArrivesx31 : List ESh := [.keep, .keep, .keep, .keep, .keep, .keep, .keep]
def tolaw16_ExchangeArrivesx31 (a : Sl.Ts τ tslaw16_ExchangeArrivesx31) (b : ESh.Ts τ hslaw16_ExchangeArrivesx31) : Slaw16_ExchangeArrivesx31 := ⟨a.2.2.2.2.2.2.2.2.2.2.2.2.2.2.1, a.2.2.2.2.2.2.2.2.2.2.2.2.2.2.2.2.2.2.2.2.2.2.2.2.2.2.2.2.2.2.2.2.2.2.2.2.2.2.2.2.2.2.2.2.2.2.2.2.2.2.2.2.2.2.2.2.2.2.2.2.2.2.2.2.2.2.2.2.2.2.2.2.2.2.2.2.2.2.2.2.2.2.2.2.2.2.2.2.2.2.2.2.2.2.2.2.2.2.2.2.2.2.2.2.2.2.2.2.2.2.2.2.2.2.2.2.2.2.2.2.2.2.2.2.2.2.2.2.2.2.2.2.2.2.2.2.2.2.2.2.2.2.2.2.2.2.2.2.2.2.2.2.2.2.2.1⟩
def otlaw16_ExchangeArrivesx31 (s : Slaw16_ExchangeArrivesx31) : Sl.Ts τ tslaw16_ExchangeArrivesx31 := ((), (), (), (), (), (), (), (), (), (), (), (), (), (), s.all, (), (), (), (), (), (), (), (), (), (), (), (), (), (), (), (), (), (), (), (), (), (), (), (), (), (), (), (), (), (), (), (), (), (), (), (), (), (), (), (), (), (), (), (), (), (), (), (), (), (), (), (), (), (), (), (), (), (), (), (), (), (), (), (), (), (), (), (), (), (), (), (), (), (), (), (), (), (), (), (), (), (), (), (), (), (), (), (), (), (), (), (), (), (), (), (), (), (), (), (), (), (), (), (), (), (), (), (), (), (), (), (), (), (), (), (), (), (), (), (), (), (), (), (), (), (), (), (), (), (), (), (), (), (), (), (), (), (), (), (), s.t155, (), (), (), (), (), (), (), (), (), (), (), (), (), (), (), (), (), (), (), (), (), (), (), (), (), (), (), (), (), (), (), (), (), (), (), (), (), (), (), (), (), (), (), (), ())
def ohlaw16_ExchangeArrivesx31 (s : Slaw16_ExchangeArrivesx31) : ESh.Ts τ hslaw16_ExchangeArrivesx31 := ((), (), (), (), (), (), (), ())
def lplaw16_ExchangeArrivesx31 : Lp τ := { ts := tslaw16_ExchangeArrivesx31, hs := hslaw16_ExchangeArrivesx31, S := Slaw16_ExchangeArrivesx31, to := tolaw16_ExchangeArrivesx31, ot := otlaw16_ExchangeArrivesx31, oh := ohlaw16_ExchangeArrivesx31, hk := [2, 2, 2, 2, 2, 2, 1], tk := [0, 0, 0, 2, 0, 0, 3, 4, 5, 0, 0, 6, 0, 0, 0, 0, 0, 0, 0, 0, 0, 0, 0, 0, 0, 0, 0, 0, 0, 0, 0, 0, 0, 2, 2, 0, 0, 0, 0, 0, 0, 0, 0, 0, 0, 0, 0, 0, 0, 0, 0, 0, 0, 0, 0, 0, 0, 0, 0, 0, 0, 0, 0, 0, 0, 0, 0, 0, 0, 0, 0, 0, 0, 0, 0, 0, 0, 0, 0, 2], ot_to := fun _ _ => rfl, oh_to := fun _ _ => rfl }
structure Slaw16_ExchangeArrivesx38 where
  t169 : Int
  b1 : Bool
def tslaw16_ExchangeArrivesx38 : List Sl := [.k, .k, .k, .k, .k, .k, .k, .k, .k, .k, .k, .k, .k, .k, .k, .k, .j, .k, .k, .k, .k, .k, .k, .k, .k, .k, .k, .k, .k, .k, .k, .k, .k, .k, .k, .k, .k, .k, .k, .k, .k, .k, .k, .k, .k, .k, .k, .k, .k, .k, .k, .k, .k, .k, .k, .k, .k, .k, .k, .k, .k, .k, .k, .k, .k, .k, .k, .k, .k, .k, .k, .k, .k, .k, .k, .k, .k, .k, .k, .k, .k, .k, .k, .k, .k, .k, .k, .k, .k, .k, .k, .k, .k, .k, .k, .k, .k, .k, .k, .k, .k, .k, .k, .k, .k, .k, .k, .k, .k, .k, .k, .k, .k, .k, .k, .k, .k, .k, .k, .k, .k, .k, .k, .k, .k, .k, .k, .k, .k, .k, .k, .k, .k, .k, .k, .k, .k, .k, .k, .k, .k, .k, .k, .k, .k, .k, .k, .k, .k, .k, .k, .k, .k, .k, .k, .k, .k, .k, .k, .k, .k, .k, .k, .k, .k, .k, .k, .k, .k, .sh (.ty 2), .j, .j, .j, .j, .j, .j, .j, .j, .j, .j, .j, .j, .j, .j, .j, .j, .j, .j, .j, .j, .j, .j, .j, .j, .j, .j, .j, .j, .j, .j]
def hslaw16_ExchangeArrivesx38 : List ESh := [.keep, .box (.ty 4), .keep, .keep, .keep, .keep, .keep]
def tolaw16_ExchangeArrivesx38 (a : Sl.Ts τ tslaw16_ExchangeArrivesx38) (b : ESh.Ts τ hslaw16_ExchangeArrivesx38) : Slaw16_ExchangeArrivesx38 := ⟨a.2.2.2.2.2.2.2.2.2.2.2.2.2.2.2.2.2.2.2.2.2.2.2.2.2.2.2.2.2.2.2.2.2.2.2.2.2.2.2.2.2.2.2.2.2.2.2.2.2.2.2.2.2.2.2.2.2.2.2.2.2.2.2.2.2.2.2.2.2.2.2.2.2.2.2.2.2.2.2.2.2.2.2.2.2.2.2.2.2.2.2.2.2.2.2.2.2.2.2.2.2.2.2.2.2.2.2.2.2.2.2.2.2.2.2.2.2.2.2.2.2.2.2.2.2.2.2.2.2.2.2.2.2.2.2.2.2.2.2.2.2.2.2.2.2.2.2.2.2.2.2.2.2.2.2.2.2.2.2.2.2.2.2.2.2.2.2.2.2.1, b.2.1⟩
def otlaw16_ExchangeArrivesx38 (s : Slaw16_ExchangeArrivesx38) : Sl.Ts τ tslaw16_ExchangeArrivesx38 := ((), (), (), (), (), (), (), (), (), (), (), (), (), (), (), (), (), (), (), (), (), (), (), (), (), (), (), (), (), (), (), (), (), (), (), (), (), (), (), (), (), (), (), (), (), (), (), (), (), (), (), (), (), (), (), (), (), (), (), (), (), (), (), (), (), (), (), (), (), (), (), (), (), (), (), (), (), (), (), (), (), (), (), (), (), (), (), (), (), (), (), (), (), (), (), (), (), (), (), (), (), (), (), (), (), (), (), (), (), (), (), (), (), (), (), (), (), (), (), (), (), (), (), (), (), (), (), (), (), (), (), (), (), (), (), (), (), (), (), (), (), (), (), (), (), (), (), (), (), (), (), (), (), (), (), (), (), (), (), (), (), (), (), (), (), (), (), (), (), s.t169, (), (), (), (), (), (), (), (), (), (), (), (), (), (), (), (), (), (), (), (), (), (), (), (), (), (), (), (), (), (), ())
def ohlaw16_ExchangeArrivesx38 (s : Slaw16_ExchangeArrivesx38) : ESh.Ts τ hslaw16_ExchangeArrivesx38 := ((), s.b1, (), (), (), (), (), ())
def lplaw16_ExchangeArrivesx38 : Lp τ := { ts := tslaw16_ExchangeArrivesx38, hs := hslaw16_ExchangeArrivesx38, S := Slaw16_ExchangeArrivesx38, to := tolaw16_ExchangeArrivesx38, ot := otlaw16_ExchangeArrivesx38, oh := ohlaw16_ExchangeArrivesx38, hk := [2, 2, 2, 2, 2, 2, 1], tk := [0, 0, 0, 2, 0, 0, 3, 4, 5, 0, 0, 6, 0, 0, 0, 0, 0, 0, 0, 0, 0, 0, 0, 0, 0, 0, 0, 0, 0, 0, 0, 0, 0, 2, 2, 0, 0, 0, 0, 0, 0, 0, 0, 0, 0, 0, 0, 0, 0, 0, 0, 0, 0, 0, 0, 0, 0, 0, 0, 0, 0, 0, 0, 0, 0, 0, 0, 0, 0, 0, 0, 0, 0, 0, 0, 0, 0, 0, 0, 2], ot_to := fun _ _ => rfl, oh_to := fun _ _ => rfl }
def Flaw16_ExchangeArrives (N : Nat) (s : GSnap) (site : Int) (most : Int) : Option (Bool) :=
 ((Flaw16_begun N).bind fun r1 =>
 (bif (!r1) then
 (some false)
 else
 ((Fref14_Check N s).bind fun r2 =>
 (bif ((!(r2 == 0)) || ((IntKind.i64.wrap (Int.tmod site 8)) == s.Site)) then
 (some true)
 else
 (bif (ibB (IntKind.i64.wrap (Int.tmod site 8)) 8) then
 (iter N (fun (s3 : Slaw16_ExchangeArrivesx8) next4 =>
 (bif (decide (s3.t37 < 8)) then
 (bif (ibB s3.t37 8) then
 (bif (ibB s3.t37 8) then
 (bif (ibB s3.t37 8) then
 (bif (!(decide (0 < (IntKind.i64.wrap ((vget s3.b3.Vector_ ((s3.t37).toNat) default) - (vget s.Starts ((s3.t37).toNat) default))))) || (ibB s3.t37 8)) then
 (bif ((decide (0 < (IntKind.i64.wrap ((vget s3.b3.Vector_ ((s3.t37).toNat) default) - (vget s.Starts ((s3.t37).toNat) default))))) && (decide ((IntKind.i64.wrap ((vget s3.b3.Vector_ ((s3.t37).toNat) default) - (vget s.Starts ((s3.t37).toNat) default))) ≤ (((vget s.Kept ((s3.t37).toNat) default)).length : Int)))) then
 (bif (ibB s3.t37 8) then
 (bif (ibB (IntKind.i64.wrap ((IntKind.i64.wrap ((vget s3.b3.Vector_ ((s3.t37).toNat) default) - (vget s.Starts ((s3.t37).toNat) default))) - 1)) (((vget s.Kept ((s3.t37).toNat) default)).length : Int)) then
 (bif (ibB s3.t37 8) then
 (next4 ⟨(IntKind.i64.wrap (s3.t37 + 1)), (⟨s3.b3.Site, s3.b3.Applied, s3.b3.Booted, (⟨s3.b3.Epoch.Number, (vset s3.b3.Epoch.States ((s3.t37).toNat) 1), s3.b3.Epoch.Seals, s3.b3.Epoch.Sponsor⟩ : GEpoch), s3.b3.Clock, s3.b3.Vector_, (vset s3.b3.Last ((s3.t37).toNat) (((lget (vget s.Kept ((s3.t37).toNat) default) (IntKind.i64.wrap ((IntKind.i64.wrap ((vget s3.b3.Vector_ ((s3.t37).toNat) default) - (vget s.Starts ((s3.t37).toNat) default))) - 1)) default).Stamp).Time)), s3.b3.Base, s3.b3.Log, s3.b3.Frontier, s3.b3.Starts, s3.b3.Kept, s3.b3.Known, s3.b3.Told, s3.b3.Clocks, s3.b3.Sure, s3.b3.Rows, s3.b3.Parts⟩ : GSnap)⟩)
 else none)
 else none)
 else none)
 else
 (next4 ⟨(IntKind.i64.wrap (s3.t37 + 1)), (⟨s3.b3.Site, s3.b3.Applied, s3.b3.Booted, (⟨s3.b3.Epoch.Number, (vset s3.b3.Epoch.States ((s3.t37).toNat) 1), s3.b3.Epoch.Seals, s3.b3.Epoch.Sponsor⟩ : GEpoch), s3.b3.Clock, s3.b3.Vector_, s3.b3.Last, s3.b3.Base, s3.b3.Log, s3.b3.Frontier, s3.b3.Starts, s3.b3.Kept, s3.b3.Known, s3.b3.Told, s3.b3.Clocks, s3.b3.Sure, s3.b3.Rows, s3.b3.Parts⟩ : GSnap)⟩))
 else none)
 else none)
 else none)
 else none)
 else
 ((Fexchange_Push N s (⟨s.Site, 0⟩ : GAddr) (⟨(IntKind.i64.wrap (Int.tmod site 8)), 0⟩ : GAddr) most).bind fun r5 =>
 ((Fexchange_Push_1_ce9 N s s (vget s.Known (((IntKind.i64.wrap (Int.tmod site 8))).toNat) default) (⟨(IntKind.i64.wrap (Int.tmod site 8)), 0, false, (⟨0, (Vector.replicate 8 (default : Int)), (Vector.replicate 8 (default : Int)), (Vector.replicate 8 (default : Int))⟩ : GEpoch), 0, (vget s.Known (((IntKind.i64.wrap (Int.tmod site 8))).toNat) default), (Vector.replicate 8 (default : Int)), [], [], 0, (Vector.replicate 8 (default : Int)), (Vector.replicate 8 (default : List (GOp))), (Vector.replicate 8 (default : Vector (Int) 8)), (Vector.replicate 8 (default : Int)), (Vector.replicate 8 (default : Int)), (Vector.replicate 8 (default : Int)), [], []⟩ : GSnap) s (⟨s.Site, 0⟩ : GStamp) (⟨(IntKind.i64.wrap (Int.tmod site 8)), 0⟩ : GStamp) r5 false (IntKind.i64.wrap (Int.tmod site 8)) s3.b3 0).bind fun r6 =>
 (bif r6.1 then
 (bif (Nat.beq r6.2.2.2.2.2.2.2.2.2.2.2.2.2.1 0) then
 (some r6.2.2.2.2.2.2.2.2.2.2.2.2.2.2.2.1)
 else
 none)
 else
 (bif (decide ((bif decide (most < 0) then 0 else most) < r6.2.2.2.2.2.2.2.2.2.2.2.2.1)) then
 (some false)
 else
 (iter N (fun (s7 : Slaw16_ExchangeArrivesx31) next8 =>
 (bif (decide (s7.t155 < 8)) then
 (bif (ibB s7.t155 8) then
 (next8 ⟨(IntKind.i64.wrap (s7.all + (((vget s.Kept ((s7.t155).toNat) default)).length : Int))), (IntKind.i64.wrap (s7.t155 + 1))⟩)
 else none)
 else
 (bif (decide (most < s7.all)) then
 (some true)
 else
 (iter N (fun (s9 : Slaw16_ExchangeArrivesx38) next10 =>
 (bif (decide (s9.t169 < 8)) then
 (bif (!(!(s9.t169 == r6.2.2.2.2.2.2.2.2.2.2.1)) || (ibB r6.2.2.2.2.2.2.2.2.2.2.1 8)) then
 (bif (!(!(s9.t169 == r6.2.2.2.2.2.2.2.2.2.2.1)) || (ibB s9.t169 8)) then
 (bif (!(!(s9.t169 == r6.2.2.2.2.2.2.2.2.2.2.1)) || (ibB s9.t169 8)) then
 (bif (!((!(s9.t169 == r6.2.2.2.2.2.2.2.2.2.2.1)) && (decide ((vget s.Starts ((s9.t169).toNat) default) ≤ (vget (vget s.Known ((r6.2.2.2.2.2.2.2.2.2.2.1).toNat) default) ((s9.t169).toNat) default)))) || (ibB s9.t169 8)) then
 (bif (!((!(s9.t169 == r6.2.2.2.2.2.2.2.2.2.2.1)) && (decide ((vget s.Starts ((s9.t169).toNat) default) ≤ (vget (vget s.Known ((r6.2.2.2.2.2.2.2.2.2.2.1).toNat) default) ((s9.t169).toNat) default)))) || (ibB s9.t169 8)) then
 (bif (((!(s9.t169 == r6.2.2.2.2.2.2.2.2.2.2.1)) && (decide ((vget s.Starts ((s9.t169).toNat) default) ≤ (vget (vget s.Known ((r6.2.2.2.2.2.2.2.2.2.2.1).toNat) default) ((s9.t169).toNat) default)))) && (decide ((vget r6.2.2.2.2.2.2.2.2.2.2.2.1.Vector_ ((s9.t169).toNat) default) < (vget s.Vector_ ((s9.t169).toNat) default)))) then
 (some false)
 else
 (next10 ⟨(IntKind.i64.wrap (s9.t169 + 1)), s9.b1⟩))
 else none)
 else none)
 else none)
 else none)
 else none)
 else
 (some true))) ⟨0, r6.2.2.2.2.2.2.2.2.2.1⟩)))) ⟨0, 0⟩))))))) ⟨0, (⟨(IntKind.i64.wrap (Int.tmod site 8)), 0, false, (⟨0, (Vector.replicate 8 (default : Int)), (Vector.replicate 8 (default : Int)), (Vector.replicate 8 (default : Int))⟩ : GEpoch), 0, (vget s.Known (((IntKind.i64.wrap (Int.tmod site 8))).toNat) default), (Vector.replicate 8 (default : Int)), [], [], 0, (Vector.replicate 8 (default : Int)), (Vector.replicate 8 (default : List (GOp))), (Vector.replicate 8 (default : Vector (Int) 8)), (Vector.replicate 8 (default : Int)), (Vector.replicate 8 (default : Int)), (Vector.replicate 8 (default : Int)), [], []⟩ : GSnap)⟩)
 else none)))))
def conlaw16_ExchangeArrives : Con τ := { args := [.ty 34, .ty 5, .ty 3], L := [], ret := .ty 4, L' := [], R := Bool, dflt := default, F := fun N a b => Flaw16_ExchangeArrives N a.1 a.2.1 a.2.2.1, of := fun r => (r, ()) }
noncomputable def datlaw16_ExchangeArrives : Dat τ := { D := D0, tbl := tblOf [(10, conlaw16_begun), (24, conref14_Check), (23, conexchange_Push), (47, conexchange_Push_1_ce9)], lp := lpsOf [(8, lplaw16_ExchangeArrivesx8), (31, lplaw16_ExchangeArrivesx31), (38, lplaw16_ExchangeArrivesx38)], k0 := 0, mu := [], un := [], fid := 7, ex := [0] }
theorem oklaw16_ExchangeArrives : ConOk E C 7 conlaw16_ExchangeArrives :=
  con_ok (D := datlaw16_ExchangeArrives) ⟨d0Ok, eGood, tblOf_ok ⟨oklaw16_begun, ⟨okref14_Check, ⟨okexchange_Push, ⟨okexchange_Push_1_ce9, trivial⟩⟩⟩⟩, fun _ => rfl⟩ conlaw16_ExchangeArrives (fun a b => a) none (fun _ _ => rfl) rfl (fun _ _ h => nomatch h) 1000000 (fn := Try.f7) Try.func7 rfl (by kernel_rfl) (by kernel_rfl) rfl (by intro N a b; kernel_rfl) (hsub := ⟨subOk_no (by kernel_rfl), ⟨subOk_no (by kernel_rfl), ⟨subOk_no (by kernel_rfl), ⟨subOk_no (by kernel_rfl), ⟨subOk_no (by kernel_rfl), ⟨subOk_no (by kernel_rfl), ⟨subOk_no (by kernel_rfl), ⟨⟨subOk_no (by kernel_rfl), (by show SiteP _ _ _ _; unfold SiteP; kernel_rfl)⟩, subOk_no (by kernel_rfl)⟩⟩⟩⟩⟩⟩⟩⟩)
end Go.Proofs.Ytekpjhhbmjcbmaa
