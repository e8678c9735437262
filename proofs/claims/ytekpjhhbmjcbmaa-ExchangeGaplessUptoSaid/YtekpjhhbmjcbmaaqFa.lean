/-
The functions of this seat, as plain functions over typed data, each with its contract. Printed by wip/tools/fngen.py.
-/
import Derived.Test.YtekpjhhbmjcbmaaqCod
import Derived.Test.YtekpjhhbmjcbmaaqTvX
import Derived.KernelRfl
set_option linter.unusedVariables false
set_option maxRecDepth 100000
namespace Go.Proofs.Ytekpjhhbmjcbmaa
open Go Go.Ev
def Fexchange_peers (N : Nat) (s : GSnap) : Option (GSnap) :=
 (some s)
def conexchange_peers : Con τ := { args := [.ty 34], L := [], ret := .fn 65 [.ptr 0 []], L' := [.box (.ty 34)], R := GSnap, dflt := default, F := fun N a b => Fexchange_peers N a.1, of := fun r => (((), ()), (r, ())) }
noncomputable def datexchange_peers : Dat τ := { D := D0, tbl := tblOf [], lp := lpsOf [], k0 := 0, mu := [], un := [] }
theorem okexchange_peers : ConOk E C 39 conexchange_peers :=
  con_ok (D := datexchange_peers) ⟨d0Ok, eGood, tblOf_ok trivial, fun _ => rfl⟩ conexchange_peers (fun a b => b.1) none (fun _ _ => rfl) rfl (fun _ _ h => nomatch h) 1000000 (fn := Try.f39) Try.func39 rfl (by kernel_rfl) (by kernel_rfl) rfl (by intro N a b; kernel_rfl)
def Fexchange_site (N : Nat) (n : Int) : Option (Bool) :=
 (some ((decide (0 ≤ n)) && (decide (n < 8))))
def conexchange_site : Con τ := { args := [.ty 3], L := [], ret := .ty 4, L' := [], R := Bool, dflt := default, F := fun N a b => Fexchange_site N a.1, of := fun r => (r, ()) }
noncomputable def datexchange_site : Dat τ := { D := D0, tbl := tblOf [], lp := lpsOf [], k0 := 0, mu := [], un := [] }
theorem okexchange_site : ConOk E C 33 conexchange_site :=
  con_ok (D := datexchange_site) ⟨d0Ok, eGood, tblOf_ok trivial, fun _ => rfl⟩ conexchange_site (fun a b => a) none (fun _ _ => rfl) rfl (fun _ _ h => nomatch h) 1000000 (fn := Try.f33) Try.func33 rfl (by kernel_rfl) (by kernel_rfl) rfl (by intro N a b; kernel_rfl)
def Fexchange_member (N : Nat) (s : GSnap) (i : Int) : Option (Bool) :=
 ((Fexchange_site N i).bind fun r1 =>
 (bif (!r1 || (ibB i 8)) then
 (bif (!(r1 && (!((vget s.Epoch.States ((i).toNat) default) == 1))) || (ibB i 8)) then
 (some (r1 && (((vget s.Epoch.States ((i).toNat) default) == 1) || ((vget s.Epoch.States ((i).toNat) default) == 2))))
 else none)
 else none))
def conexchange_member : Con τ := { args := [.ty 34, .ty 3], L := [], ret := .ty 4, L' := [], R := Bool, dflt := default, F := fun N a b => Fexchange_member N a.1 a.2.1, of := fun r => (r, ()) }
noncomputable def datexchange_member : Dat τ := { D := D0, tbl := tblOf [(33, conexchange_site)], lp := lpsOf [], k0 := 0, mu := [], un := [] }
theorem okexchange_member : ConOk E C 52 conexchange_member :=
  con_ok (D := datexchange_member) ⟨d0Ok, eGood, tblOf_ok ⟨okexchange_site, trivial⟩, fun _ => rfl⟩ conexchange_member (fun a b => a) none (fun _ _ => rfl) rfl (fun _ _ h => nomatch h) 1000000 (fn := Try.f52) Try.func52 rfl (by kernel_rfl) (by kernel_rfl) rfl (by intro N a b; kernel_rfl)
def Fexchange_Peers_3e4 (N : Nat) (x : Int) (s : GSnap) (x2 : GSnap) (b1 : List (Int)) : Option (GSnap × GSnap × (List (Int))) :=
 (bif (lenB ((b1).length + ([x]).length) 8) then
 (some (s, x2, (b1 ++ [x])))
 else none)
def eLexchange_Peers_3e4 : List ESh := [.rcd 17 4 [.ty 33, .junk, .junk, .ptr 1 [], .junk, .ty 33, .junk, .junk, .junk, .junk, .junk, .junk, .junk], .box (.own 3 2), .tail]
def eMexchange_Peers_3e4 : List ESh := [.rcd 17 4 [.ty 33, .junk, .junk, .ptr 1 [], .junk, .ty 33, .junk, .junk, .junk, .junk, .junk, .junk, .junk], .box (.own 3 3), .dead, .tail]
def conexchange_Peers_3e4 : Con τ := { args := [.yld 0, .ty 2], L := eLexchange_Peers_3e4, ret := .bo true, L' := eMexchange_Peers_3e4, R := GSnap × GSnap × (List (Int)), dflt := (default, default, default), F := fun N a b => Fexchange_Peers_3e4 N a.2.1 b.1.1 b.1.2.2.2.2.2.1 b.2.1, of := fun r => ((), ((r.1, (), (), (), (), r.2.1, (), (), (), (), (), (), (), ()), r.2.2, (), (), ())) }
noncomputable def datexchange_Peers_3e4 : Dat τ := { D := D0, tbl := tblOf [], lp := lpsOf [], k0 := 3, mu := [], un := [], fid := 17 }
theorem okexchange_Peers_3e4 : ConOk E C yieldF conexchange_Peers_3e4 :=
  con_round (D := datexchange_Peers_3e4) ⟨d0Ok, eGood, tblOf_ok trivial, fun _ => rfl⟩ (f := 17) (k := 4) (ps := [7]) (by kernel_rfl) rfl (fun a b => (b.1.1, b.1.2.2.2.2.2.1, b.2.1)) none (fun _ _ => rfl) rfl (fun _ _ h => nomatch h) 1000000 (by kernel_rfl) (by kernel_rfl) (by kernel_rfl) (by kernel_rfl) rfl (by intro l N a b; kernel_rfl)
structure Sexchange_peers_1_dfax1 where
  t4 : Int
  z0 : GSnap
  z02 : GSnap
  b2 : List (Int)
def tsexchange_peers_1_dfax1 : List Sl := [.k, .k, .k, .j, .sh (.ty 2), .j, .j, .j, .j, .j, .j, .j, .j, .j, .j, .j, .j, .j, .j, .j, .j, .j, .j]
def hsexchange_peers_1_dfax1 : List ESh := [.rcd 17 4 [.ty 33, .junk, .junk, .ptr 2 [], .junk, .ty 33, .junk, .junk, .junk, .junk, .junk, .junk, .junk], .keep, .box (.own 3 3), .tail]
def toexchange_peers_1_dfax1 (a : Sl.Ts τ tsexchange_peers_1_dfax1) (b : ESh.Ts τ hsexchange_peers_1_dfax1) : Sexchange_peers_1_dfax1 := ⟨a.2.2.2.2.1, b.1.1, b.1.2.2.2.2.2.1, b.2.2.1⟩
def otexchange_peers_1_dfax1 (s : Sexchange_peers_1_dfax1) : Sl.Ts τ tsexchange_peers_1_dfax1 := ((), (), (), (), s.t4, (), (), (), (), (), (), (), (), (), (), (), (), (), (), (), (), (), (), ())
def ohexchange_peers_1_dfax1 (s : Sexchange_peers_1_dfax1) : ESh.Ts τ hsexchange_peers_1_dfax1 := ((s.z0, (), (), (), (), s.z02, (), (), (), (), (), (), (), ()), (), s.b2, (), ())
def lpexchange_peers_1_dfax1 : Lp τ := { ts := tsexchange_peers_1_dfax1, hs := hsexchange_peers_1_dfax1, S := Sexchange_peers_1_dfax1, to := toexchange_peers_1_dfax1, ot := otexchange_peers_1_dfax1, oh := ohexchange_peers_1_dfax1, hk := [6, 2, 2], tk := [0, 3], ot_to := fun _ _ => rfl, oh_to := fun _ _ => rfl }
def Fexchange_peers_1_dfa (N : Nat) (z0 : GSnap) (z02 : GSnap) (b1 : GSnap) : Option (GSnap × GSnap × GSnap × (List (Int))) :=
 (iter N (fun (s1 : Sexchange_peers_1_dfax1) next2 =>
 (bif (decide (s1.t4 < 8)) then
 ((bif (!(s1.t4 == b1.Site)) then Fexchange_member N b1 s1.t4 else some default).bind fun r3 =>
 (bif ((!(s1.t4 == b1.Site)) && r3) then
 ((Fexchange_Peers_3e4 N s1.t4 s1.z0 s1.z02 s1.b2).bind fun r4 =>
 (bif (((!(s1.t4 == b1.Site)) && r3) && false) then
 (some (r4.1, r4.2.1, b1, r4.2.2))
 else
 (next2 ⟨(IntKind.i64.wrap (s1.t4 + 1)), r4.1, r4.2.1, r4.2.2⟩)))
 else
 (next2 ⟨(IntKind.i64.wrap (s1.t4 + 1)), s1.z0, s1.z02, s1.b2⟩)))
 else
 (some (s1.z0, s1.z02, b1, s1.b2)))) ⟨0, z0, z02, []⟩)
def eLexchange_peers_1_dfa : List ESh := [.rcd 17 4 [.ty 33, .junk, .junk, .ptr 2 [], .junk, .ty 33, .junk, .junk, .junk, .junk, .junk, .junk, .junk], .box (.ty 34), .box (.nil .slice)]
def eMexchange_peers_1_dfa : List ESh := [.rcd 17 4 [.ty 33, .junk, .junk, .ptr 2 [], .junk, .ty 33, .junk, .junk, .junk, .junk, .junk, .junk, .junk], .box (.ty 34), .box (.own 3 3), .tail]
def conexchange_peers_1_dfa : Con τ := { args := [.yld 0, .ptr 1 []], L := eLexchange_peers_1_dfa, ret := .tup [], L' := eMexchange_peers_1_dfa, R := GSnap × GSnap × GSnap × (List (Int)), dflt := (default, default, default, default), F := fun N a b => Fexchange_peers_1_dfa N b.1.1 b.1.2.2.2.2.2.1 b.2.1, of := fun r => ((), ((r.1, (), (), (), (), r.2.1, (), (), (), (), (), (), (), ()), r.2.2.1, r.2.2.2, (), ())) }
noncomputable def datexchange_peers_1_dfa : Dat τ := { D := D0, tbl := tblOf [(52, conexchange_member), (1000000, conexchange_Peers_3e4)], lp := lpsOf [(1, lpexchange_peers_1_dfax1)], k0 := 3, mu := [], un := [] }
theorem okexchange_peers_1_dfa : ConOk E C 65 conexchange_peers_1_dfa :=
  con_ok (D := datexchange_peers_1_dfa) ⟨d0Ok, eGood, tblOf_ok ⟨okexchange_member, ⟨okexchange_Peers_3e4, trivial⟩⟩, fun _ => rfl⟩ conexchange_peers_1_dfa (fun a b => (b.1.1, b.1.2.2.2.2.2.1, b.2.1, b.2.2.1)) none (fun _ _ => rfl) rfl (fun _ _ h => nomatch h) 1000000 (fn := Try.f65) Try.func65 rfl (by kernel_rfl) (by kernel_rfl) rfl (by intro N a b; kernel_rfl)
def Fexchange_Peers (N : Nat) (s : GSnap) : Option ((List (Int))) :=
 ((Fexchange_peers N s).bind fun r1 =>
 ((Fexchange_peers_1_dfa N s s r1).bind fun r2 =>
 (some r2.2.2.2)))
def conexchange_Peers : Con τ := { args := [.ty 34], L := [], ret := .ty 60, L' := [], R := (List (Int)), dflt := default, F := fun N a b => Fexchange_Peers N a.1, of := fun r => (r, ()) }
noncomputable def datexchange_Peers : Dat τ := { D := D0, tbl := tblOf [(39, conexchange_peers), (65, conexchange_peers_1_dfa)], lp := lpsOf [], k0 := 0, mu := [], un := [], fid := 17, ex := [] }
theorem okexchange_Peers : ConOk E C 17 conexchange_Peers :=
  con_ok (D := datexchange_Peers) ⟨d0Ok, eGood, tblOf_ok ⟨okexchange_peers, ⟨okexchange_peers_1_dfa, trivial⟩⟩, fun _ => rfl⟩ conexchange_Peers (fun a b => a) none (fun _ _ => rfl) rfl (fun _ _ h => nomatch h) 1000000 (fn := Try.f17) Try.func17 rfl (by kernel_rfl) (by kernel_rfl) rfl (by intro N a b; kernel_rfl) (hsub := ⟨subOk_no (by kernel_rfl), ⟨subOk_no (by kernel_rfl), ⟨⟨subOk_no (by kernel_rfl), (by show SiteP _ _ _ _; unfold SiteP; kernel_rfl)⟩, subOk_no (by kernel_rfl)⟩⟩⟩)
def Fstamp_Check (N : Nat) (s : GStamp) : Option (Bool) :=
 (some ((((decide (1 ≤ s.Time)) && (decide (s.Time ≤ 1099511627776))) && (decide (0 ≤ s.Site))) && (decide (s.Site < 8))))
def constamp_Check : Con τ := { args := [.ty 41], L := [], ret := .ty 4, L' := [], R := Bool, dflt := default, F := fun N a b => Fstamp_Check N a.1, of := fun r => (r, ()) }
noncomputable def datstamp_Check : Dat τ := { D := D0, tbl := tblOf [], lp := lpsOf [], k0 := 0, mu := [], un := [] }
theorem okstamp_Check : ConOk E C 55 constamp_Check :=
  con_ok (D := datstamp_Check) ⟨d0Ok, eGood, tblOf_ok trivial, fun _ => rfl⟩ constamp_Check (fun a b => a) none (fun _ _ => rfl) rfl (fun _ _ h => nomatch h) 1000000 (fn := Try.f55) Try.func55 rfl (by kernel_rfl) (by kernel_rfl) rfl (by intro N a b; kernel_rfl)
def Fstamp_Node (N : Nat) (s : GStamp) : Option (Int) :=
 ((Fstamp_Check N s).bind fun r1 =>
 (bif (!r1) then
 (some 0)
 else
 (some (IntKind.i64.wrap ((IntKind.i64.wrap (16 + (IntKind.i64.wrap (s.Time * 8)))) + s.Site)))))
def constamp_Node : Con τ := { args := [.ty 41], L := [], ret := .ty 2, L' := [], R := Int, dflt := default, F := fun N a b => Fstamp_Node N a.1, of := fun r => (r, ()) }
noncomputable def datstamp_Node : Dat τ := { D := D0, tbl := tblOf [(55, constamp_Check)], lp := lpsOf [], k0 := 0, mu := [], un := [] }
theorem okstamp_Node : ConOk E C 56 constamp_Node :=
  con_ok (D := datstamp_Node) ⟨d0Ok, eGood, tblOf_ok ⟨okstamp_Check, trivial⟩, fun _ => rfl⟩ constamp_Node (fun a b => a) none (fun _ _ => rfl) rfl (fun _ _ h => nomatch h) 1000000 (fn := Try.f56) Try.func56 rfl (by kernel_rfl) (by kernel_rfl) rfl (by intro N a b; kernel_rfl)
def Fstamp_top (N : Nat) (node : Int) : Option (Bool) :=
 (some ((node == 1) || (node == 2)))
def constamp_top : Con τ := { args := [.ty 2], L := [], ret := .ty 4, L' := [], R := Bool, dflt := default, F := fun N a b => Fstamp_top N a.1, of := fun r => (r, ()) }
noncomputable def datstamp_top : Dat τ := { D := D0, tbl := tblOf [], lp := lpsOf [], k0 := 0, mu := [], un := [] }
theorem okstamp_top : ConOk E C 59 constamp_top :=
  con_ok (D := datstamp_top) ⟨d0Ok, eGood, tblOf_ok trivial, fun _ => rfl⟩ constamp_top (fun a b => a) none (fun _ _ => rfl) rfl (fun _ _ h => nomatch h) 1000000 (fn := Try.f59) Try.func59 rfl (by kernel_rfl) (by kernel_rfl) rfl (by intro N a b; kernel_rfl)
def Fstamp_Of (N : Nat) (node : Int) : Option (GStamp × Bool) :=
 (bif (decide (node < 16)) then
 (some ((⟨0, 0⟩ : GStamp), false))
 else
 ((Fstamp_Check N (⟨(IntKind.i64.wrap (Int.tdiv (IntKind.i64.wrap (node - 16)) 8)), (Int.tmod (IntKind.i64.wrap (node - 16)) 8)⟩ : GStamp)).bind fun r1 =>
 (bif (!r1) then
 (some ((⟨0, 0⟩ : GStamp), false))
 else
 (some ((⟨(IntKind.i64.wrap (Int.tdiv (IntKind.i64.wrap (node - 16)) 8)), (Int.tmod (IntKind.i64.wrap (node - 16)) 8)⟩ : GStamp), true)))))
def constamp_Of : Con τ := { args := [.ty 2], L := [], ret := .tup [.ty 41, .ty 4], L' := [], R := GStamp × Bool, dflt := (default, default), F := fun N a b => Fstamp_Of N a.1, of := fun r => ((r.1, r.2, ()), ()) }
noncomputable def datstamp_Of : Dat τ := { D := D0, tbl := tblOf [(55, constamp_Check)], lp := lpsOf [], k0 := 0, mu := [], un := [] }
theorem okstamp_Of : ConOk E C 106 constamp_Of :=
  con_ok (D := datstamp_Of) ⟨d0Ok, eGood, tblOf_ok ⟨okstamp_Check, trivial⟩, fun _ => rfl⟩ constamp_Of (fun a b => (a.1, a.2.1)) none (fun _ _ => rfl) rfl (fun _ _ h => nomatch h) 1000000 (fn := Try.f106) Try.func106 rfl (by kernel_rfl) (by kernel_rfl) rfl (by intro N a b; kernel_rfl)
def Fstamp_made (N : Nat) (node : Int) : Option (Bool) :=
 ((Fstamp_Of N node).bind fun r1 =>
 (some r1.2))
def constamp_made : Con τ := { args := [.ty 2], L := [], ret := .ty 4, L' := [], R := Bool, dflt := default, F := fun N a b => Fstamp_made N a.1, of := fun r => (r, ()) }
noncomputable def datstamp_made : Dat τ := { D := D0, tbl := tblOf [(106, constamp_Of)], lp := lpsOf [], k0 := 0, mu := [], un := [] }
theorem okstamp_made : ConOk E C 58 constamp_made :=
  con_ok (D := datstamp_made) ⟨d0Ok, eGood, tblOf_ok ⟨okstamp_Of, trivial⟩, fun _ => rfl⟩ constamp_made (fun a b => a) none (fun _ _ => rfl) rfl (fun _ _ h => nomatch h) 1000000 (fn := Try.f58) Try.func58 rfl (by kernel_rfl) (by kernel_rfl) rfl (by intro N a b; kernel_rfl)
def Finternal_bytealg_IndexByteString (N : Nat) (s : List UInt8) (c : Int) : Option (Int) :=
 (some (Lib.indexByte s c.toNat.toUInt8))
def coninternal_bytealg_IndexByteString : Con τ := { args := [.ty 9, .ty 5], L := [], ret := .ty 3, L' := [], R := Int, dflt := default, F := fun N a b => Finternal_bytealg_IndexByteString N a.1 a.2.1, of := fun r => (r, ()), ext := true }
theorem okinternal_bytealg_IndexByteString : ConOk E C 144 coninternal_bytealg_IndexByteString :=
  con_ibs (fn := Try.f144) Try.func144 (by kernel_rfl) (by kernel_rfl) (by kernel_rfl) (by kernel_rfl) coninternal_bytealg_IndexByteString rfl rfl (fun a => a.1) (fun a => a.2.1) (fun _ => rfl) (fun _ => rfl) (fun N a b r h => by have h' : some (Lib.indexByte a.1 a.2.1.toNat.toUInt8) = some r := h; cases h'; exact ⟨rfl, rfl⟩)
def Finternal_stringslite_IndexByte (N : Nat) (s : List UInt8) (c : Int) : Option (Int) :=
 ((Finternal_bytealg_IndexByteString N s c).bind fun r1 =>
 (some r1))
def coninternal_stringslite_IndexByte : Con τ := { args := [.ty 9, .ty 5], L := [], ret := .ty 3, L' := [], R := Int, dflt := default, F := fun N a b => Finternal_stringslite_IndexByte N a.1 a.2.1, of := fun r => (r, ()) }
noncomputable def datinternal_stringslite_IndexByte : Dat τ := { D := D0, tbl := tblOf [(144, coninternal_bytealg_IndexByteString)], lp := lpsOf [], k0 := 0, mu := [], un := [] }
theorem okinternal_stringslite_IndexByte : ConOk E C 140 coninternal_stringslite_IndexByte :=
  con_ok (D := datinternal_stringslite_IndexByte) ⟨d0Ok, eGood, tblOf_ok ⟨okinternal_bytealg_IndexByteString, trivial⟩, fun _ => rfl⟩ coninternal_stringslite_IndexByte (fun a b => a) none (fun _ _ => rfl) rfl (fun _ _ h => nomatch h) 1000000 (fn := Try.f140) Try.func140 rfl (by kernel_rfl) (by kernel_rfl) rfl (by intro N a b; kernel_rfl)
def Finternal_stringslite_Index (N : Nat) (s : List UInt8) (substr : List UInt8) : Option (Int) :=
 (bif ((((substr).length : Int) == 0) || (substr == s)) then
 (some 0)
 else
 (bif (((substr).length : Int) == 1) then
 (bif (ibB 0 ((substr).length : Int)) then
 ((Finternal_stringslite_IndexByte N s (((substr).getD 0 0).toNat : Int)).bind fun r1 =>
 (some r1))
 else none)
 else
 (bif (decide (((s).length : Int) ≤ ((substr).length : Int))) then
 (some (-1))
 else
 none)))
def coninternal_stringslite_Index : Con τ := { args := [.ty 9, .ty 9], L := [], ret := .ty 3, L' := [], R := Int, dflt := default, F := fun N a b => Finternal_stringslite_Index N a.1 a.2.1, of := fun r => (r, ()) }
noncomputable def datinternal_stringslite_Index : Dat τ := { D := D0, tbl := tblOf [(140, coninternal_stringslite_IndexByte)], lp := lpsOf [], k0 := 0, mu := [], un := [] }
theorem okinternal_stringslite_Index : ConOk E C 139 coninternal_stringslite_Index :=
  con_ok (D := datinternal_stringslite_Index) ⟨d0Ok, eGood, tblOf_ok ⟨okinternal_stringslite_IndexByte, trivial⟩, fun _ => rfl⟩ coninternal_stringslite_Index (fun a b => a) none (fun _ _ => rfl) rfl (fun _ _ h => nomatch h) 1000000 (fn := Try.f139) Try.func139 rfl (by kernel_rfl) (by kernel_rfl) rfl (by intro N a b; kernel_rfl)
def Fstrings_Index (N : Nat) (s : List UInt8) (substr : List UInt8) : Option (Int) :=
 ((Finternal_stringslite_Index N s substr).bind fun r1 =>
 (some r1))
def constrings_Index : Con τ := { args := [.ty 9, .ty 9], L := [], ret := .ty 3, L' := [], R := Int, dflt := default, F := fun N a b => Fstrings_Index N a.1 a.2.1, of := fun r => (r, ()) }
noncomputable def datstrings_Index : Dat τ := { D := D0, tbl := tblOf [(139, coninternal_stringslite_Index)], lp := lpsOf [], k0 := 0, mu := [], un := [] }
theorem okstrings_Index : ConOk E C 133 constrings_Index :=
  con_ok (D := datstrings_Index) ⟨d0Ok, eGood, tblOf_ok ⟨okinternal_stringslite_Index, trivial⟩, fun _ => rfl⟩ constrings_Index (fun a b => a) none (fun _ _ => rfl) rfl (fun _ _ h => nomatch h) 1000000 (fn := Try.f133) Try.func133 rfl (by kernel_rfl) (by kernel_rfl) rfl (by intro N a b; kernel_rfl)
def Fstrings_Contains (N : Nat) (s : List UInt8) (substr : List UInt8) : Option (Bool) :=
 ((Fstrings_Index N s substr).bind fun r1 =>
 (some (decide (0 ≤ r1))))
def constrings_Contains : Con τ := { args := [.ty 9, .ty 9], L := [], ret := .ty 4, L' := [], R := Bool, dflt := default, F := fun N a b => Fstrings_Contains N a.1 a.2.1, of := fun r => (r, ()) }
noncomputable def datstrings_Contains : Dat τ := { D := D0, tbl := tblOf [(133, constrings_Index)], lp := lpsOf [], k0 := 0, mu := [], un := [] }
theorem okstrings_Contains : ConOk E C 105 constrings_Contains :=
  con_ok (D := datstrings_Contains) ⟨d0Ok, eGood, tblOf_ok ⟨okstrings_Index, trivial⟩, fun _ => rfl⟩ constrings_Contains (fun a b => a) none (fun _ _ => rfl) rfl (fun _ _ h => nomatch h) 1000000 (fn := Try.f105) Try.func105 rfl (by kernel_rfl) (by kernel_rfl) rfl (by intro N a b; kernel_rfl)
def Fstamp_place (N : Nat) (op : GOp) : Option (Int) :=
 ((Fstamp_top N op.Parent).bind fun r1 =>
 ((bif (!r1) then Fstamp_made N op.Parent else some default).bind fun r2 =>
 (bif ((!r1) && (!r2)) then
 (some 1)
 else
 (bif (decide (255 < ((op.Name).length : Int))) then
 (some 3)
 else
 ((bif (!(((op.Name == []) || (op.Name == [46])) || (op.Name == [46, 46]))) then Fstrings_Contains N op.Name [47] else some default).bind fun r3 =>
 (bif ((((((op.Name == []) || (op.Name == [46])) || (op.Name == [46, 46])) || r3) || (!(op.Key == []))) || (!(op.Value == []))) then
 (some 1)
 else
 (some 0)))))))
def constamp_place : Con τ := { args := [.ty 43], L := [], ret := .ty 56, L' := [], R := Int, dflt := default, F := fun N a b => Fstamp_place N a.1, of := fun r => (r, ()) }
noncomputable def datstamp_place : Dat τ := { D := D0, tbl := tblOf [(59, constamp_top), (58, constamp_made), (105, constrings_Contains)], lp := lpsOf [], k0 := 0, mu := [], un := [] }
theorem okstamp_place : ConOk E C 57 constamp_place :=
  con_ok (D := datstamp_place) ⟨d0Ok, eGood, tblOf_ok ⟨okstamp_top, ⟨okstamp_made, ⟨okstrings_Contains, trivial⟩⟩⟩, fun _ => rfl⟩ constamp_place (fun a b => a) none (fun _ _ => rfl) rfl (fun _ _ h => nomatch h) 1000000 (fn := Try.f57) Try.func57 rfl (by kernel_rfl) (by kernel_rfl) rfl (by intro N a b; kernel_rfl)
def Fstamp_CheckOp (N : Nat) (op : GOp) : Option (Int) :=
 ((Fstamp_Check N op.Stamp).bind fun r1 =>
 ((bif ((!(((!r1) || (decide (op.Kind < 1))) || (decide (3 < op.Kind)))) && (op.Kind == 1)) then Fstamp_Node N op.Stamp else some default).bind fun r2 =>
 (bif ((((!r1) || (decide (op.Kind < 1))) || (decide (3 < op.Kind))) || ((op.Kind == 1) && (!(op.Node == r2)))) then
 (some 1)
 else
 (bif (!(op.Kind == 3)) then
 ((Fstamp_place N op).bind fun r3 =>
 (bif (!(r3 == 0)) then
 (some r3)
 else
 (bif (op.Kind == 2) then
 ((Fstamp_made N op.Node).bind fun r4 =>
 (bif (!r4) then
 (some 1)
 else
 (some 0)))
 else
 (bif (op.Kind == 3) then
 ((Fstamp_made N op.Node).bind fun r5 =>
 ((bif (!r5) then Fstamp_top N op.Node else some default).bind fun r6 =>
 (bif ((!r5) && (!r6)) then
 (some 1)
 else
 (bif ((decide (255 < ((op.Key).length : Int))) || (decide (255 < ((op.Value).length : Int)))) then
 (some 3)
 else
 (bif (((op.Key == []) || (!(op.Parent == 0))) || (!(op.Name == []))) then
 (some 1)
 else
 (some 0))))))
 else
 (some 0)))))
 else
 (bif (op.Kind == 2) then
 ((Fstamp_made N op.Node).bind fun r7 =>
 (bif (!r7) then
 (some 1)
 else
 (some 0)))
 else
 (bif (op.Kind == 3) then
 ((Fstamp_made N op.Node).bind fun r8 =>
 ((bif (!r8) then Fstamp_top N op.Node else some default).bind fun r9 =>
 (bif ((!r8) && (!r9)) then
 (some 1)
 else
 (bif ((decide (255 < ((op.Key).length : Int))) || (decide (255 < ((op.Value).length : Int)))) then
 (some 3)
 else
 (bif (((op.Key == []) || (!(op.Parent == 0))) || (!(op.Name == []))) then
 (some 1)
 else
 (some 0))))))
 else
 (some 0)))))))
def constamp_CheckOp : Con τ := { args := [.ty 43], L := [], ret := .ty 56, L' := [], R := Int, dflt := default, F := fun N a b => Fstamp_CheckOp N a.1, of := fun r => (r, ()) }
noncomputable def datstamp_CheckOp : Dat τ := { D := D0, tbl := tblOf [(55, constamp_Check), (56, constamp_Node), (57, constamp_place), (58, constamp_made), (59, constamp_top)], lp := lpsOf [], k0 := 0, mu := [], un := [] }
theorem okstamp_CheckOp : ConOk E C 34 constamp_CheckOp :=
  con_ok (D := datstamp_CheckOp) ⟨d0Ok, eGood, tblOf_ok ⟨okstamp_Check, ⟨okstamp_Node, ⟨okstamp_place, ⟨okstamp_made, ⟨okstamp_top, trivial⟩⟩⟩⟩⟩, fun _ => rfl⟩ constamp_CheckOp (fun a b => a) none (fun _ _ => rfl) rfl (fun _ _ h => nomatch h) 1000000 (fn := Try.f34) Try.func34 rfl (by kernel_rfl) (by kernel_rfl) rfl (by intro N a b; kernel_rfl)
structure Sexchange_Takex9 where
  l : List (GOp)
  last : Int
  t66 : Int
def tsexchange_Takex9 : List Sl := [.k, .k, .k, .k, .k, .k, .k, .k, .k, .k, .sh (.own 43 1), .sh (.ty 2), .k, .j, .j, .j, .k, .k, .k, .k, .j, .j, .j, .j, .k, .k, .j, .j, .j, .j, .j, .j, .k, .k, .k, .k, .k, .k, .k, .k, .j, .j, .j, .k, .k, .j, .j, .k, .k, .j, .j, .j, .j, .j, .j, .k, .k, .k, .k, .k, .k, .k, .k, .k, .k, .k, .sh (.ty 2), .j, .j, .j, .j, .j, .j, .j, .j, .j, .j, .j, .j, .j, .j, .j, .j, .j, .j, .j, .j, .j, .j, .j, .j, .j, .j, .j, .j, .j, .j, .j, .j, .j, .j, .j, .j, .j, .j, .j, .j, .j, .j, .j, .j, .j, .j, .j, .j, .j, .j, .j, .j, .j, .j, .j, .j, .j, .j, .j, .j, .j, .j, .k]
def hsexchange_Takex9 : List ESh := [.keep, .tail]
def toexchange_Takex9 (a : Sl.Ts τ tsexchange_Takex9) (b : ESh.Ts τ hsexchange_Takex9) : Sexchange_Takex9 := ⟨a.2.2.2.2.2.2.2.2.2.2.1, a.2.2.2.2.2.2.2.2.2.2.2.1, a.2.2.2.2.2.2.2.2.2.2.2.2.2.2.2.2.2.2.2.2.2.2.2.2.2.2.2.2.2.2.2.2.2.2.2.2.2.2.2.2.2.2.2.2.2.2.2.2.2.2.2.2.2.2.2.2.2.2.2.2.2.2.2.2.2.2.1⟩
def otexchange_Takex9 (s : Sexchange_Takex9) : Sl.Ts τ tsexchange_Takex9 := ((), (), (), (), (), (), (), (), (), (), s.l, s.last, (), (), (), (), (), (), (), (), (), (), (), (), (), (), (), (), (), (), (), (), (), (), (), (), (), (), (), (), (), (), (), (), (), (), (), (), (), (), (), (), (), (), (), (), (), (), (), (), (), (), (), (), (), (), s.t66, (), (), (), (), (), (), (), (), (), (), (), (), (), (), (), (), (), (), (), (), (), (), (), (), (), (), (), (), (), (), (), (), (), (), (), (), (), (), (), (), (), (), (), (), (), (), (), (), (), (), (), (), (), (), (), (), (), (), (), (), (), (), (), ())
def ohexchange_Takex9 (s : Sexchange_Takex9) : ESh.Ts τ hsexchange_Takex9 := ((), (), ())
def lpexchange_Takex9 : Lp τ := { ts := tsexchange_Takex9, hs := hsexchange_Takex9, S := Sexchange_Takex9, to := toexchange_Takex9, ot := otexchange_Takex9, oh := ohexchange_Takex9, hk := [2], tk := [0, 0, 0, 0, 2, 0, 0, 0, 0, 0, 0, 0, 0, 0, 0, 0, 0, 0, 0, 0, 0, 0, 0, 0, 0, 0, 0, 0, 0, 0, 0, 0, 0, 0, 2, 2, 0, 0, 0, 0, 0, 0, 0, 0, 0, 0, 0, 0, 0, 0, 0, 0, 0, 0, 0, 0, 0, 2, 2], ot_to := fun _ _ => rfl, oh_to := fun _ _ => rfl }
def Fexchange_Take (N : Nat) (s : GSnap) (origin : Int) (seq : Int) (ops : List (GOp)) : Option ((List (GOp))) :=
 ((Fexchange_site N origin).bind fun r1 =>
 (bif (!(!((!r1) || (origin == s.Site))) || (ibB origin 8)) then
 (bif (((!r1) || (origin == s.Site)) || ((vget s.Epoch.States ((origin).toNat) default) == 0)) then
 (some [])
 else
 (bif (ibB origin 8) then
 (bif ((((decide (seq < 0)) || (decide ((vget s.Vector_ ((origin).toNat) default) < seq))) || (decide (1099511627776 < (vget s.Vector_ ((origin).toNat) default)))) || (decide (((ops).length : Int) ≤ (IntKind.i64.wrap ((vget s.Vector_ ((origin).toNat) default) - seq))))) then
 (some [])
 else
 (bif (ibB origin 8) then
 (bif (cutB (IntKind.i64.wrap ((vget s.Vector_ ((origin).toNat) default) - seq)) ((ops).length : Int) ((ops).length : Int)) then
 (iter N (fun (s2 : Sexchange_Takex9) next3 =>
 (bif (decide (s2.t66 < (((cut ops (IntKind.i64.wrap ((vget s.Vector_ ((origin).toNat) default) - seq)) ((ops).length : Int))).length : Int))) then
 (bif (ibB s2.t66 (((cut ops (IntKind.i64.wrap ((vget s.Vector_ ((origin).toNat) default) - seq)) ((ops).length : Int))).length : Int)) then
 (bif (ibB origin 8) then
 (bif (!((vget s.Epoch.States ((origin).toNat) default) == 3) || (ibB origin 8)) then
 ((bif (!((decide (1099511627776 ≤ (IntKind.i64.wrap ((vget s.Vector_ ((origin).toNat) default) + ((s2.l).length : Int))))) || (((vget s.Epoch.States ((origin).toNat) default) == 3) && (decide ((vget s.Epoch.Seals ((origin).toNat) default) ≤ (IntKind.i64.wrap ((vget s.Vector_ ((origin).toNat) default) + ((s2.l).length : Int)))))))) then Fstamp_CheckOp N (⟨((lget (cut ops (IntKind.i64.wrap ((vget s.Vector_ ((origin).toNat) default) - seq)) ((ops).length : Int)) s2.t66 default).Stamp), (lget (cut ops (IntKind.i64.wrap ((vget s.Vector_ ((origin).toNat) default) - seq)) ((ops).length : Int)) s2.t66 default).Kind, (lget (cut ops (IntKind.i64.wrap ((vget s.Vector_ ((origin).toNat) default) - seq)) ((ops).length : Int)) s2.t66 default).Node, (lget (cut ops (IntKind.i64.wrap ((vget s.Vector_ ((origin).toNat) default) - seq)) ((ops).length : Int)) s2.t66 default).Parent, (lget (cut ops (IntKind.i64.wrap ((vget s.Vector_ ((origin).toNat) default) - seq)) ((ops).length : Int)) s2.t66 default).Name, (lget (cut ops (IntKind.i64.wrap ((vget s.Vector_ ((origin).toNat) default) - seq)) ((ops).length : Int)) s2.t66 default).Key, (lget (cut ops (IntKind.i64.wrap ((vget s.Vector_ ((origin).toNat) default) - seq)) ((ops).length : Int)) s2.t66 default).Value⟩ : GOp) else some default).bind fun r4 =>
 (bif ((((((decide (1099511627776 ≤ (IntKind.i64.wrap ((vget s.Vector_ ((origin).toNat) default) + ((s2.l).length : Int))))) || (((vget s.Epoch.States ((origin).toNat) default) == 3) && (decide ((vget s.Epoch.Seals ((origin).toNat) default) ≤ (IntKind.i64.wrap ((vget s.Vector_ ((origin).toNat) default) + ((s2.l).length : Int))))))) || (!(r4 == 0))) || (!((((lget (cut ops (IntKind.i64.wrap ((vget s.Vector_ ((origin).toNat) default) - seq)) ((ops).length : Int)) s2.t66 default).Stamp).Site) == origin))) || (decide ((((lget (cut ops (IntKind.i64.wrap ((vget s.Vector_ ((origin).toNat) default) - seq)) ((ops).length : Int)) s2.t66 default).Stamp).Time) ≤ s2.last))) || (decide ((((lget (cut ops (IntKind.i64.wrap ((vget s.Vector_ ((origin).toNat) default) - seq)) ((ops).length : Int)) s2.t66 default).Stamp).Time) ≤ s.Frontier))) then
 (some s2.l)
 else
 (bif (lenB ((s2.l).length + ([(⟨((lget (cut ops (IntKind.i64.wrap ((vget s.Vector_ ((origin).toNat) default) - seq)) ((ops).length : Int)) s2.t66 default).Stamp), (lget (cut ops (IntKind.i64.wrap ((vget s.Vector_ ((origin).toNat) default) - seq)) ((ops).length : Int)) s2.t66 default).Kind, (lget (cut ops (IntKind.i64.wrap ((vget s.Vector_ ((origin).toNat) default) - seq)) ((ops).length : Int)) s2.t66 default).Node, (lget (cut ops (IntKind.i64.wrap ((vget s.Vector_ ((origin).toNat) default) - seq)) ((ops).length : Int)) s2.t66 default).Parent, (lget (cut ops (IntKind.i64.wrap ((vget s.Vector_ ((origin).toNat) default) - seq)) ((ops).length : Int)) s2.t66 default).Name, (lget (cut ops (IntKind.i64.wrap ((vget s.Vector_ ((origin).toNat) default) - seq)) ((ops).length : Int)) s2.t66 default).Key, (lget (cut ops (IntKind.i64.wrap ((vget s.Vector_ ((origin).toNat) default) - seq)) ((ops).length : Int)) s2.t66 default).Value⟩ : GOp)]).length) 88) then
 (next3 ⟨(s2.l ++ [(⟨((lget (cut ops (IntKind.i64.wrap ((vget s.Vector_ ((origin).toNat) default) - seq)) ((ops).length : Int)) s2.t66 default).Stamp), (lget (cut ops (IntKind.i64.wrap ((vget s.Vector_ ((origin).toNat) default) - seq)) ((ops).length : Int)) s2.t66 default).Kind, (lget (cut ops (IntKind.i64.wrap ((vget s.Vector_ ((origin).toNat) default) - seq)) ((ops).length : Int)) s2.t66 default).Node, (lget (cut ops (IntKind.i64.wrap ((vget s.Vector_ ((origin).toNat) default) - seq)) ((ops).length : Int)) s2.t66 default).Parent, (lget (cut ops (IntKind.i64.wrap ((vget s.Vector_ ((origin).toNat) default) - seq)) ((ops).length : Int)) s2.t66 default).Name, (lget (cut ops (IntKind.i64.wrap ((vget s.Vector_ ((origin).toNat) default) - seq)) ((ops).length : Int)) s2.t66 default).Key, (lget (cut ops (IntKind.i64.wrap ((vget s.Vector_ ((origin).toNat) default) - seq)) ((ops).length : Int)) s2.t66 default).Value⟩ : GOp)]), ((lget (cut ops (IntKind.i64.wrap ((vget s.Vector_ ((origin).toNat) default) - seq)) ((ops).length : Int)) s2.t66 default).Stamp).Time, (IntKind.i64.wrap (s2.t66 + 1))⟩)
 else none)))
 else none)
 else none)
 else none)
 else
 (some s2.l))) ⟨[], (vget s.Last ((origin).toNat) default), 0⟩)
 else none)
 else none))
 else none))
 else none))
def conexchange_Take : Con τ := { args := [.ty 34, .ty 3, .ty 2, .ty 28], L := [], ret := .ty 28, L' := [], R := (List (GOp)), dflt := default, F := fun N a b => Fexchange_Take N a.1 a.2.1 a.2.2.1 a.2.2.2.1, of := fun r => (r, ()) }
noncomputable def datexchange_Take : Dat τ := { D := D0, tbl := tblOf [(33, conexchange_site), (34, constamp_CheckOp)], lp := lpsOf [(9, lpexchange_Takex9)], k0 := 0, mu := [], un := [] }
theorem okexchange_Take : ConOk E C 12 conexchange_Take :=
  con_ok (D := datexchange_Take) ⟨d0Ok, eGood, tblOf_ok ⟨okexchange_site, ⟨okstamp_CheckOp, trivial⟩⟩, fun _ => rfl⟩ conexchange_Take (fun a b => a) none (fun _ _ => rfl) rfl (fun _ _ h => nomatch h) 1000000 (fn := Try.f12) Try.func12 rfl (by kernel_rfl) (by kernel_rfl) rfl (by intro N a b; kernel_rfl)
def Flaw16_begun (N : Nat)  : Option (Bool) :=
 ((Fexchange_Peers N (⟨0, 0, false, (⟨0, (vset (Vector.replicate 8 (default : Int)) 1 1), (Vector.replicate 8 (default : Int)), (Vector.replicate 8 (default : Int))⟩ : GEpoch), 0, (Vector.replicate 8 (default : Int)), (Vector.replicate 8 (default : Int)), [], [], 0, (Vector.replicate 8 (default : Int)), (Vector.replicate 8 (default : List (GOp))), (Vector.replicate 8 (default : Vector (Int) 8)), (Vector.replicate 8 (default : Int)), (Vector.replicate 8 (default : Int)), (Vector.replicate 8 (default : Int)), [], []⟩ : GSnap)).bind fun r1 =>
 (bif (!(((r1).length : Int) == 1) || (ibB 0 ((r1).length : Int))) then
 ((bif ((((r1).length : Int) == 1) && ((lget r1 0 default) == 1)) then Fexchange_Take N (⟨0, 0, false, (⟨0, (vset (Vector.replicate 8 (default : Int)) 1 1), (Vector.replicate 8 (default : Int)), (Vector.replicate 8 (default : Int))⟩ : GEpoch), 0, (Vector.replicate 8 (default : Int)), (Vector.replicate 8 (default : Int)), [], [], 0, (Vector.replicate 8 (default : Int)), (Vector.replicate 8 (default : List (GOp))), (Vector.replicate 8 (default : Vector (Int) 8)), (Vector.replicate 8 (default : Int)), (Vector.replicate 8 (default : Int)), (Vector.replicate 8 (default : Int)), [], []⟩ : GSnap) 1 0 [(⟨(⟨1, 1⟩ : GStamp), 1, 25, 1, [97], [], []⟩ : GOp)] else some default).bind fun r2 =>
 (some (((((r1).length : Int) == 1) && ((lget r1 0 default) == 1)) && (((r2).length : Int) == 1))))
 else none))
def conlaw16_begun : Con τ := { args := [], L := [], ret := .ty 4, L' := [], R := Bool, dflt := default, F := fun N a b => Flaw16_begun N , of := fun r => (r, ()) }
noncomputable def datlaw16_begun : Dat τ := { D := D0, tbl := tblOf [(17, conexchange_Peers), (12, conexchange_Take)], lp := lpsOf [], k0 := 0, mu := [], un := [] }
theorem oklaw16_begun : ConOk E C 10 conlaw16_begun :=
  con_ok (D := datlaw16_begun) ⟨d0Ok, eGood, tblOf_ok ⟨okexchange_Peers, ⟨okexchange_Take, trivial⟩⟩, fun _ => rfl⟩ conlaw16_begun (fun a b => a) none (fun _ _ => rfl) rfl (fun _ _ h => nomatch h) 1000000 (fn := Try.f10) Try.func10 rfl (by kernel_rfl) (by kernel_rfl) rfl (by intro N a b; kernel_rfl)
def Fref16_site (N : Nat) (n : Int) : Option (Bool) :=
 (some ((decide (0 ≤ n)) && (decide (n < 8))))
def conref16_site : Con τ := { args := [.ty 3], L := [], ret := .ty 4, L' := [], R := Bool, dflt := default, F := fun N a b => Fref16_site N a.1, of := fun r => (r, ()) }
noncomputable def datref16_site : Dat τ := { D := D0, tbl := tblOf [], lp := lpsOf [], k0 := 0, mu := [], un := [] }
theorem okref16_site : ConOk E C 35 conref16_site :=
  con_ok (D := datref16_site) ⟨d0Ok, eGood, tblOf_ok trivial, fun _ => rfl⟩ conref16_site (fun a b => a) none (fun _ _ => rfl) rfl (fun _ _ h => nomatch h) 1000000 (fn := Try.f35) Try.func35 rfl (by kernel_rfl) (by kernel_rfl) rfl (by intro N a b; kernel_rfl)
def Fref11_Site (N : Nat) (n : Int) : Option (Bool) :=
 (some ((decide (0 ≤ n)) && (decide (n < 8))))
def conref11_Site : Con τ := { args := [.ty 3], L := [], ret := .ty 4, L' := [], R := Bool, dflt := default, F := fun N a b => Fref11_Site N a.1, of := fun r => (r, ()) }
noncomputable def datref11_Site : Dat τ := { D := D0, tbl := tblOf [], lp := lpsOf [], k0 := 0, mu := [], un := [] }
theorem okref11_Site : ConOk E C 107 conref11_Site :=
  con_ok (D := datref11_Site) ⟨d0Ok, eGood, tblOf_ok trivial, fun _ => rfl⟩ conref11_Site (fun a b => a) none (fun _ _ => rfl) rfl (fun _ _ h => nomatch h) 1000000 (fn := Try.f107) Try.func107 rfl (by kernel_rfl) (by kernel_rfl) rfl (by intro N a b; kernel_rfl)
def Fref11_Check (N : Nat) (s : GStamp) : Option (Bool) :=
 ((bif ((decide (1 ≤ s.Time)) && (decide (s.Time ≤ 1099511627776))) then Fref11_Site N s.Site else some default).bind fun r1 =>
 (some (((decide (1 ≤ s.Time)) && (decide (s.Time ≤ 1099511627776))) && r1)))
def conref11_Check : Con τ := { args := [.ty 41], L := [], ret := .ty 4, L' := [], R := Bool, dflt := default, F := fun N a b => Fref11_Check N a.1, of := fun r => (r, ()) }
noncomputable def datref11_Check : Dat τ := { D := D0, tbl := tblOf [(107, conref11_Site)], lp := lpsOf [], k0 := 0, mu := [], un := [] }
theorem okref11_Check : ConOk E C 60 conref11_Check :=
  con_ok (D := datref11_Check) ⟨d0Ok, eGood, tblOf_ok ⟨okref11_Site, trivial⟩, fun _ => rfl⟩ conref11_Check (fun a b => a) none (fun _ _ => rfl) rfl (fun _ _ h => nomatch h) 1000000 (fn := Try.f60) Try.func60 rfl (by kernel_rfl) (by kernel_rfl) rfl (by intro N a b; kernel_rfl)
def Fref11_Node (N : Nat) (s : GStamp) : Option (Int) :=
 ((Fref11_Check N s).bind fun r1 =>
 (bif (!r1) then
 (some 0)
 else
 (some (IntKind.i64.wrap ((IntKind.i64.wrap (16 + (IntKind.i64.wrap (s.Time * 8)))) + s.Site)))))
def conref11_Node : Con τ := { args := [.ty 41], L := [], ret := .ty 2, L' := [], R := Int, dflt := default, F := fun N a b => Fref11_Node N a.1, of := fun r => (r, ()) }
noncomputable def datref11_Node : Dat τ := { D := D0, tbl := tblOf [(60, conref11_Check)], lp := lpsOf [], k0 := 0, mu := [], un := [] }
theorem okref11_Node : ConOk E C 61 conref11_Node :=
  con_ok (D := datref11_Node) ⟨d0Ok, eGood, tblOf_ok ⟨okref11_Check, trivial⟩, fun _ => rfl⟩ conref11_Node (fun a b => a) none (fun _ _ => rfl) rfl (fun _ _ h => nomatch h) 1000000 (fn := Try.f61) Try.func61 rfl (by kernel_rfl) (by kernel_rfl) rfl (by intro N a b; kernel_rfl)
def Fref11_top (N : Nat) (node : Int) : Option (Bool) :=
 (some ((node == 1) || (node == 2)))
def conref11_top : Con τ := { args := [.ty 2], L := [], ret := .ty 4, L' := [], R := Bool, dflt := default, F := fun N a b => Fref11_top N a.1, of := fun r => (r, ()) }
noncomputable def datref11_top : Dat τ := { D := D0, tbl := tblOf [], lp := lpsOf [], k0 := 0, mu := [], un := [] }
theorem okref11_top : ConOk E C 64 conref11_top :=
  con_ok (D := datref11_top) ⟨d0Ok, eGood, tblOf_ok trivial, fun _ => rfl⟩ conref11_top (fun a b => a) none (fun _ _ => rfl) rfl (fun _ _ h => nomatch h) 1000000 (fn := Try.f64) Try.func64 rfl (by kernel_rfl) (by kernel_rfl) rfl (by intro N a b; kernel_rfl)
def Fref11_Of (N : Nat) (node : Int) : Option (GStamp × Bool) :=
 (bif (decide (node < 16)) then
 (some ((⟨0, 0⟩ : GStamp), false))
 else
 ((Fref11_Check N (⟨(IntKind.i64.wrap (Int.tdiv (IntKind.i64.wrap (node - 16)) 8)), (Int.tmod (IntKind.i64.wrap (node - 16)) 8)⟩ : GStamp)).bind fun r1 =>
 (bif (!r1) then
 (some ((⟨0, 0⟩ : GStamp), false))
 else
 (some ((⟨(IntKind.i64.wrap (Int.tdiv (IntKind.i64.wrap (node - 16)) 8)), (Int.tmod (IntKind.i64.wrap (node - 16)) 8)⟩ : GStamp), true)))))
def conref11_Of : Con τ := { args := [.ty 2], L := [], ret := .tup [.ty 41, .ty 4], L' := [], R := GStamp × Bool, dflt := (default, default), F := fun N a b => Fref11_Of N a.1, of := fun r => ((r.1, r.2, ()), ()) }
noncomputable def datref11_Of : Dat τ := { D := D0, tbl := tblOf [(60, conref11_Check)], lp := lpsOf [], k0 := 0, mu := [], un := [] }
theorem okref11_Of : ConOk E C 109 conref11_Of :=
  con_ok (D := datref11_Of) ⟨d0Ok, eGood, tblOf_ok ⟨okref11_Check, trivial⟩, fun _ => rfl⟩ conref11_Of (fun a b => (a.1, a.2.1)) none (fun _ _ => rfl) rfl (fun _ _ h => nomatch h) 1000000 (fn := Try.f109) Try.func109 rfl (by kernel_rfl) (by kernel_rfl) rfl (by intro N a b; kernel_rfl)
def Fref11_made (N : Nat) (node : Int) : Option (Bool) :=
 ((Fref11_Of N node).bind fun r1 =>
 (some r1.2))
def conref11_made : Con τ := { args := [.ty 2], L := [], ret := .ty 4, L' := [], R := Bool, dflt := default, F := fun N a b => Fref11_made N a.1, of := fun r => (r, ()) }
noncomputable def datref11_made : Dat τ := { D := D0, tbl := tblOf [(109, conref11_Of)], lp := lpsOf [], k0 := 0, mu := [], un := [] }
theorem okref11_made : ConOk E C 63 conref11_made :=
  con_ok (D := datref11_made) ⟨d0Ok, eGood, tblOf_ok ⟨okref11_Of, trivial⟩, fun _ => rfl⟩ conref11_made (fun a b => a) none (fun _ _ => rfl) rfl (fun _ _ h => nomatch h) 1000000 (fn := Try.f63) Try.func63 rfl (by kernel_rfl) (by kernel_rfl) rfl (by intro N a b; kernel_rfl)
structure Sref11_namex6 where
  i : Int
def tsref11_namex6 : List Sl := [.k, .k, .j, .sh (.ty 2), .k, .k, .k, .k, .k, .k, .j, .j, .k, .k, .j, .j, .k, .j, .j, .j, .j, .j, .j, .j, .j, .j, .j]
def hsref11_namex6 : List ESh := []
def toref11_namex6 (a : Sl.Ts τ tsref11_namex6) (b : ESh.Ts τ hsref11_namex6) : Sref11_namex6 := ⟨a.2.2.2.1⟩
def otref11_namex6 (s : Sref11_namex6) : Sl.Ts τ tsref11_namex6 := ((), (), (), s.i, (), (), (), (), (), (), (), (), (), (), (), (), (), (), (), (), (), (), (), (), (), (), (), ())
def ohref11_namex6 (s : Sref11_namex6) : ESh.Ts τ hsref11_namex6 := ()
def lpref11_namex6 : Lp τ := { ts := tsref11_namex6, hs := hsref11_namex6, S := Sref11_namex6, to := toref11_namex6, ot := otref11_namex6, oh := ohref11_namex6, hk := [], tk := [], ot_to := fun _ _ => rfl, oh_to := fun _ _ => rfl }
def Fref11_name (N : Nat) (s : List UInt8) : Option (Int) :=
 (bif (decide (255 < ((s).length : Int))) then
 (some 3)
 else
 (bif (((s == []) || (s == [46])) || (s == [46, 46])) then
 (some 1)
 else
 (iter N (fun (s1 : Sref11_namex6) next2 =>
 (bif (decide (s1.i < ((s).length : Int))) then
 (bif (ibB s1.i ((s).length : Int)) then
 (bif ((((s).getD ((s1.i).toNat) 0).toNat : Int) == 47) then
 (some 1)
 else
 (next2 ⟨(IntKind.i64.wrap (s1.i + 1))⟩))
 else none)
 else
 (some 0))) ⟨0⟩)))
def conref11_name : Con τ := { args := [.ty 9], L := [], ret := .ty 56, L' := [], R := Int, dflt := default, F := fun N a b => Fref11_name N a.1, of := fun r => (r, ()) }
noncomputable def datref11_name : Dat τ := { D := D0, tbl := tblOf [], lp := lpsOf [(6, lpref11_namex6)], k0 := 0, mu := [], un := [] }
theorem okref11_name : ConOk E C 108 conref11_name :=
  con_ok (D := datref11_name) ⟨d0Ok, eGood, tblOf_ok trivial, fun _ => rfl⟩ conref11_name (fun a b => a) none (fun _ _ => rfl) rfl (fun _ _ h => nomatch h) 1000000 (fn := Try.f108) Try.func108 rfl (by kernel_rfl) (by kernel_rfl) rfl (by intro N a b; kernel_rfl)
def Fref11_place (N : Nat) (op : GOp) : Option (Int) :=
 ((Fref11_top N op.Parent).bind fun r1 =>
 ((bif (!r1) then Fref11_made N op.Parent else some default).bind fun r2 =>
 (bif ((!r1) && (!r2)) then
 (some 1)
 else
 ((Fref11_name N op.Name).bind fun r3 =>
 (bif (!(r3 == 0)) then
 (some r3)
 else
 (bif ((!(op.Key == [])) || (!(op.Value == []))) then
 (some 1)
 else
 (some 0)))))))
def conref11_place : Con τ := { args := [.ty 43], L := [], ret := .ty 56, L' := [], R := Int, dflt := default, F := fun N a b => Fref11_place N a.1, of := fun r => (r, ()) }
noncomputable def datref11_place : Dat τ := { D := D0, tbl := tblOf [(64, conref11_top), (63, conref11_made), (108, conref11_name)], lp := lpsOf [], k0 := 0, mu := [], un := [] }
theorem okref11_place : ConOk E C 62 conref11_place :=
  con_ok (D := datref11_place) ⟨d0Ok, eGood, tblOf_ok ⟨okref11_top, ⟨okref11_made, ⟨okref11_name, trivial⟩⟩⟩, fun _ => rfl⟩ conref11_place (fun a b => a) none (fun _ _ => rfl) rfl (fun _ _ h => nomatch h) 1000000 (fn := Try.f62) Try.func62 rfl (by kernel_rfl) (by kernel_rfl) rfl (by intro N a b; kernel_rfl)
def Fref11_CheckOp (N : Nat) (op : GOp) : Option (Int) :=
 ((Fref11_Check N op.Stamp).bind fun r1 =>
 (bif (((!r1) || (decide (op.Kind < 1))) || (decide (3 < op.Kind))) then
 (some 1)
 else
 ((bif (op.Kind == 1) then Fref11_Node N op.Stamp else some default).bind fun r2 =>
 (bif ((op.Kind == 1) && (!(op.Node == r2))) then
 (some 1)
 else
 (bif (!(op.Kind == 3)) then
 ((Fref11_place N op).bind fun r3 =>
 (bif (!(r3 == 0)) then
 (some r3)
 else
 ((bif (op.Kind == 2) then Fref11_made N op.Node else some default).bind fun r4 =>
 ((bif ((!((op.Kind == 2) && (!r4))) && (op.Kind == 3)) then Fref11_made N op.Node else some default).bind fun r5 =>
 ((bif ((!((op.Kind == 2) && (!r4))) && ((op.Kind == 3) && (!r5))) then Fref11_top N op.Node else some default).bind fun r6 =>
 (bif (((op.Kind == 2) && (!r4)) || (((op.Kind == 3) && (!r5)) && (!r6))) then
 (some 1)
 else
 (bif (!(op.Kind == 3)) then
 (some 0)
 else
 (bif ((decide (255 < ((op.Key).length : Int))) || (decide (255 < ((op.Value).length : Int)))) then
 (some 3)
 else
 (bif (((op.Key == []) || (!(op.Parent == 0))) || (!(op.Name == []))) then
 (some 1)
 else
 (some 0))))))))))
 else
 ((bif (op.Kind == 2) then Fref11_made N op.Node else some default).bind fun r7 =>
 ((bif ((!((op.Kind == 2) && (!r7))) && (op.Kind == 3)) then Fref11_made N op.Node else some default).bind fun r8 =>
 ((bif ((!((op.Kind == 2) && (!r7))) && ((op.Kind == 3) && (!r8))) then Fref11_top N op.Node else some default).bind fun r9 =>
 (bif (((op.Kind == 2) && (!r7)) || (((op.Kind == 3) && (!r8)) && (!r9))) then
 (some 1)
 else
 (bif (!(op.Kind == 3)) then
 (some 0)
 else
 (bif ((decide (255 < ((op.Key).length : Int))) || (decide (255 < ((op.Value).length : Int)))) then
 (some 3)
 else
 (bif (((op.Key == []) || (!(op.Parent == 0))) || (!(op.Name == []))) then
 (some 1)
 else
 (some 0)))))))))))))
def conref11_CheckOp : Con τ := { args := [.ty 43], L := [], ret := .ty 56, L' := [], R := Int, dflt := default, F := fun N a b => Fref11_CheckOp N a.1, of := fun r => (r, ()) }
noncomputable def datref11_CheckOp : Dat τ := { D := D0, tbl := tblOf [(60, conref11_Check), (61, conref11_Node), (62, conref11_place), (63, conref11_made), (64, conref11_top)], lp := lpsOf [], k0 := 0, mu := [], un := [] }
theorem okref11_CheckOp : ConOk E C 36 conref11_CheckOp :=
  con_ok (D := datref11_CheckOp) ⟨d0Ok, eGood, tblOf_ok ⟨okref11_Check, ⟨okref11_Node, ⟨okref11_place, ⟨okref11_made, ⟨okref11_top, trivial⟩⟩⟩⟩⟩, fun _ => rfl⟩ conref11_CheckOp (fun a b => a) none (fun _ _ => rfl) rfl (fun _ _ h => nomatch h) 1000000 (fn := Try.f36) Try.func36 rfl (by kernel_rfl) (by kernel_rfl) rfl (by intro N a b; kernel_rfl)
structure Sref16_Takex7 where
  l : List (GOp)
  last : Int
  number : Int
  i : Int
def tsref16_Takex7 : List Sl := [.k, .k, .k, .k, .k, .k, .k, .k, .k, .sh (.own 43 1), .sh (.ty 2), .sh (.ty 2), .sh (.ty 2), .j, .k, .k, .k, .k, .j, .j, .j, .j, .k, .k, .j, .j, .j, .j, .j, .j, .k, .k, .j, .j, .k, .k, .j, .j, .j, .j, .j, .j, .k, .k, .j, .j, .j, .j, .j, .k, .k, .k, .k, .k, .k, .j, .j, .j, .j, .j, .j, .j, .j, .j, .j, .j, .j, .j, .j, .j, .j, .j, .j, .j, .j, .j, .j, .j, .j, .j, .j, .j, .j, .j, .j, .j, .j, .j, .j, .j, .j, .j, .j, .j, .j, .j, .j, .j, .j, .j, .j, .j, .j, .j, .j, .j, .j, .j, .j, .j, .j, .j, .j, .j, .j, .j, .j, .j, .j, .j, .j, .j, .j, .j, .k]
def hsref16_Takex7 : List ESh := [.keep, .tail]
def toref16_Takex7 (a : Sl.Ts τ tsref16_Takex7) (b : ESh.Ts τ hsref16_Takex7) : Sref16_Takex7 := ⟨a.2.2.2.2.2.2.2.2.2.1, a.2.2.2.2.2.2.2.2.2.2.1, a.2.2.2.2.2.2.2.2.2.2.2.1, a.2.2.2.2.2.2.2.2.2.2.2.2.1⟩
def otref16_Takex7 (s : Sref16_Takex7) : Sl.Ts τ tsref16_Takex7 := ((), (), (), (), (), (), (), (), (), s.l, s.last, s.number, s.i, (), (), (), (), (), (), (), (), (), (), (), (), (), (), (), (), (), (), (), (), (), (), (), (), (), (), (), (), (), (), (), (), (), (), (), (), (), (), (), (), (), (), (), (), (), (), (), (), (), (), (), (), (), (), (), (), (), (), (), (), (), (), (), (), (), (), (), (), (), (), (), (), (), (), (), (), (), (), (), (), (), (), (), (), (), (), (), (), (), (), (), (), (), (), (), (), (), (), (), (), (), (), (), (), (), (), (), (), (), (), (), (), ())
def ohref16_Takex7 (s : Sref16_Takex7) : ESh.Ts τ hsref16_Takex7 := ((), (), ())
def lpref16_Takex7 : Lp τ := { ts := tsref16_Takex7, hs := hsref16_Takex7, S := Sref16_Takex7, to := toref16_Takex7, ot := otref16_Takex7, oh := ohref16_Takex7, hk := [2], tk := [0, 0, 0, 0, 2, 0, 0, 0, 0, 0, 0, 0, 0, 0, 0, 0, 0, 0, 0, 0, 0, 0, 0, 0, 0, 0, 0, 0, 0, 0, 0, 0, 0, 0, 0, 0, 0, 0, 0, 0, 0, 0, 0, 0, 0, 0, 0, 0, 0, 0, 0, 2, 2], ot_to := fun _ _ => rfl, oh_to := fun _ _ => rfl }
def Fref16_Take (N : Nat) (s : GSnap) (origin : Int) (seq : Int) (ops : List (GOp)) : Option ((List (GOp))) :=
 ((Fref16_site N origin).bind fun r1 =>
 (bif (!(!((!r1) || (origin == s.Site))) || (ibB origin 8)) then
 (bif (!(!((((!r1) || (origin == s.Site)) || ((vget s.Epoch.States ((origin).toNat) default) == 0)) || (decide (seq < 0)))) || (ibB origin 8)) then
 (bif (!(!(((((!r1) || (origin == s.Site)) || ((vget s.Epoch.States ((origin).toNat) default) == 0)) || (decide (seq < 0))) || (decide ((vget s.Vector_ ((origin).toNat) default) < seq)))) || (ibB origin 8)) then
 (bif ((((((!r1) || (origin == s.Site)) || ((vget s.Epoch.States ((origin).toNat) default) == 0)) || (decide (seq < 0))) || (decide ((vget s.Vector_ ((origin).toNat) default) < seq))) || (decide (1099511627776 < (vget s.Vector_ ((origin).toNat) default)))) then
 (some [])
 else
 (bif (ibB origin 8) then
 (iter N (fun (s2 : Sref16_Takex7) next3 =>
 (bif (decide (s2.i < ((ops).length : Int))) then
 (bif (ibB s2.i ((ops).length : Int)) then
 (bif (ibB origin 8) then
 (bif (decide ((vget s.Vector_ ((origin).toNat) default) ≤ s2.number)) then
 (bif (!(!(decide (1099511627776 ≤ s2.number))) || (ibB origin 8)) then
 (bif (!((!(decide (1099511627776 ≤ s2.number))) && ((vget s.Epoch.States ((origin).toNat) default) == 3)) || (ibB origin 8)) then
 (bif ((decide (1099511627776 ≤ s2.number)) || (((vget s.Epoch.States ((origin).toNat) default) == 3) && (decide ((vget s.Epoch.Seals ((origin).toNat) default) ≤ s2.number)))) then
 (some s2.l)
 else
 ((Fref11_CheckOp N (⟨((lget ops s2.i default).Stamp), (lget ops s2.i default).Kind, (lget ops s2.i default).Node, (lget ops s2.i default).Parent, (lget ops s2.i default).Name, (lget ops s2.i default).Key, (lget ops s2.i default).Value⟩ : GOp)).bind fun r4 =>
 (bif ((((!(r4 == 0)) || (!((((lget ops s2.i default).Stamp).Site) == origin))) || (decide ((((lget ops s2.i default).Stamp).Time) ≤ s2.last))) || (decide ((((lget ops s2.i default).Stamp).Time) ≤ s.Frontier))) then
 (some s2.l)
 else
 (bif (lenB ((s2.l).length + ([(⟨((lget ops s2.i default).Stamp), (lget ops s2.i default).Kind, (lget ops s2.i default).Node, (lget ops s2.i default).Parent, (lget ops s2.i default).Name, (lget ops s2.i default).Key, (lget ops s2.i default).Value⟩ : GOp)]).length) 88) then
 (next3 ⟨(s2.l ++ [(⟨((lget ops s2.i default).Stamp), (lget ops s2.i default).Kind, (lget ops s2.i default).Node, (lget ops s2.i default).Parent, (lget ops s2.i default).Name, (lget ops s2.i default).Key, (lget ops s2.i default).Value⟩ : GOp)]), ((lget ops s2.i default).Stamp).Time, (IntKind.i64.wrap (s2.number + 1)), (IntKind.i64.wrap (s2.i + 1))⟩)
 else none))))
 else none)
 else none)
 else
 (next3 ⟨s2.l, s2.last, (IntKind.i64.wrap (s2.number + 1)), (IntKind.i64.wrap (s2.i + 1))⟩))
 else none)
 else none)
 else
 (some s2.l))) ⟨[], (vget s.Last ((origin).toNat) default), seq, 0⟩)
 else none))
 else none)
 else none)
 else none))
def conref16_Take : Con τ := { args := [.ty 34, .ty 3, .ty 2, .ty 28], L := [], ret := .ty 28, L' := [], R := (List (GOp)), dflt := default, F := fun N a b => Fref16_Take N a.1 a.2.1 a.2.2.1 a.2.2.2.1, of := fun r => (r, ()) }
noncomputable def datref16_Take : Dat τ := { D := D0, tbl := tblOf [(35, conref16_site), (36, conref11_CheckOp)], lp := lpsOf [(7, lpref16_Takex7)], k0 := 0, mu := [], un := [] }
theorem okref16_Take : ConOk E C 13 conref16_Take :=
  con_ok (D := datref16_Take) ⟨d0Ok, eGood, tblOf_ok ⟨okref16_site, ⟨okref11_CheckOp, trivial⟩⟩, fun _ => rfl⟩ conref16_Take (fun a b => a) none (fun _ _ => rfl) rfl (fun _ _ h => nomatch h) 1000000 (fn := Try.f13) Try.func13 rfl (by kernel_rfl) (by kernel_rfl) rfl (by intro N a b; kernel_rfl)
structure Slaw16_opsx4 where
  t13 : Int
def tslaw16_opsx4 : List Sl := [.k, .k, .k, .k, .j, .j, .k, .k, .k, .k, .k, .k, .k, .sh (.ty 2), .j, .j, .j, .j, .j, .j, .j, .j, .j, .j, .j, .j]
def hslaw16_opsx4 : List ESh := []
def tolaw16_opsx4 (a : Sl.Ts τ tslaw16_opsx4) (b : ESh.Ts τ hslaw16_opsx4) : Slaw16_opsx4 := ⟨a.2.2.2.2.2.2.2.2.2.2.2.2.2.1⟩
def otlaw16_opsx4 (s : Slaw16_opsx4) : Sl.Ts τ tslaw16_opsx4 := ((), (), (), (), (), (), (), (), (), (), (), (), (), s.t13, (), (), (), (), (), (), (), (), (), (), (), (), ())
def ohlaw16_opsx4 (s : Slaw16_opsx4) : ESh.Ts τ hslaw16_opsx4 := ()
def lplaw16_opsx4 : Lp τ := { ts := tslaw16_opsx4, hs := hslaw16_opsx4, S := Slaw16_opsx4, to := tolaw16_opsx4, ot := otlaw16_opsx4, oh := ohlaw16_opsx4, hk := [], tk := [], ot_to := fun _ _ => rfl, oh_to := fun _ _ => rfl }
def Flaw16_ops (N : Nat) (a : List (GOp)) (b : List (GOp)) : Option (Bool) :=
 (bif (!(((a).length : Int) == ((b).length : Int))) then
 (some false)
 else
 (iter N (fun (s1 : Slaw16_opsx4) next2 =>
 (bif (decide (s1.t13 < ((a).length : Int))) then
 (bif (ibB s1.t13 ((a).length : Int)) then
 (bif (ibB s1.t13 ((b).length : Int)) then
 (bif (!((((((lget a s1.t13 default).Stamp).Time) == (((lget b s1.t13 default).Stamp).Time)) && ((((lget a s1.t13 default).Stamp).Site) == (((lget b s1.t13 default).Stamp).Site))) && ((((lget a s1.t13 default).Kind) == ((lget b s1.t13 default).Kind)) && ((((lget a s1.t13 default).Node) == ((lget b s1.t13 default).Node)) && ((((lget a s1.t13 default).Parent) == ((lget b s1.t13 default).Parent)) && ((((lget a s1.t13 default).Name) == ((lget b s1.t13 default).Name)) && ((((lget a s1.t13 default).Key) == ((lget b s1.t13 default).Key)) && (((lget a s1.t13 default).Value) == ((lget b s1.t13 default).Value))))))))) then
 (some false)
 else
 (next2 ⟨(IntKind.i64.wrap (s1.t13 + 1))⟩))
 else none)
 else none)
 else
 (some true))) ⟨0⟩))
def conlaw16_ops : Con τ := { args := [.ty 28, .ty 28], L := [], ret := .ty 4, L' := [], R := Bool, dflt := default, F := fun N a b => Flaw16_ops N a.1 a.2.1, of := fun r => (r, ()) }
noncomputable def datlaw16_ops : Dat τ := { D := D0, tbl := tblOf [], lp := lpsOf [(4, lplaw16_opsx4)], k0 := 0, mu := [], un := [] }
theorem oklaw16_ops : ConOk E C 11 conlaw16_ops :=
  con_ok (D := datlaw16_ops) ⟨d0Ok, eGood, tblOf_ok trivial, fun _ => rfl⟩ conlaw16_ops (fun a b => a) none (fun _ _ => rfl) rfl (fun _ _ h => nomatch h) 1000000 (fn := Try.f11) Try.func11 rfl (by kernel_rfl) (by kernel_rfl) rfl (by intro N a b; kernel_rfl)
structure Slaw16_ExchangeGaplessx13 where
  last : Int
  t77 : Int
def tslaw16_ExchangeGaplessx13 : List Sl := [.k, .k, .k, .k, .k, .k, .k, .k, .j, .k, .k, .sh (.ty 2), .j, .j, .k, .k, .k, .k, .k, .k, .k, .k, .k, .k, .k, .k, .k, .k, .k, .k, .k, .k, .k, .k, .j, .j, .k, .k, .j, .j, .j, .j, .k, .k, .j, .j, .k, .k, .j, .j, .j, .j, .j, .j, .k, .k, .k, .k, .k, .k, .k, .k, .k, .k, .k, .k, .k, .k, .k, .k, .k, .k, .k, .k, .k, .k, .k, .sh (.ty 2), .j, .j, .j, .j, .j, .j, .j, .j, .j, .j, .j, .j, .j, .j, .j, .j, .j, .j, .j, .j, .j, .j, .j, .j, .j, .j, .j, .j, .j, .j, .j, .j, .j, .j, .j, .j, .j, .j, .j, .j, .j, .j, .j, .j, .j, .j, .j, .j, .j, .j, .j, .j, .k, .k, .k, .k, .k, .k, .k, .k, .k, .k]
def hslaw16_ExchangeGaplessx13 : List ESh := [.keep]
def tolaw16_ExchangeGaplessx13 (a : Sl.Ts τ tslaw16_ExchangeGaplessx13) (b : ESh.Ts τ hslaw16_ExchangeGaplessx13) : Slaw16_ExchangeGaplessx13 := ⟨a.2.2.2.2.2.2.2.2.2.2.2.1, a.2.2.2.2.2.2.2.2.2.2.2.2.2.2.2.2.2.2.2.2.2.2.2.2.2.2.2.2.2.2.2.2.2.2.2.2.2.2.2.2.2.2.2.2.2.2.2.2.2.2.2.2.2.2.2.2.2.2.2.2.2.2.2.2.2.2.2.2.2.2.2.2.2.2.2.2.2.1⟩
def otlaw16_ExchangeGaplessx13 (s : Slaw16_ExchangeGaplessx13) : Sl.Ts τ tslaw16_ExchangeGaplessx13 := ((), (), (), (), (), (), (), (), (), (), (), s.last, (), (), (), (), (), (), (), (), (), (), (), (), (), (), (), (), (), (), (), (), (), (), (), (), (), (), (), (), (), (), (), (), (), (), (), (), (), (), (), (), (), (), (), (), (), (), (), (), (), (), (), (), (), (), (), (), (), (), (), (), (), (), (), (), (), s.t77, (), (), (), (), (), (), (), (), (), (), (), (), (), (), (), (), (), (), (), (), (), (), (), (), (), (), (), (), (), (), (), (), (), (), (), (), (), (), (), (), (), (), (), (), (), (), (), (), (), (), (), (), (), (), (), (), (), (), (), (), (), (), ())
def ohlaw16_ExchangeGaplessx13 (s : Slaw16_ExchangeGaplessx13) : ESh.Ts τ hslaw16_ExchangeGaplessx13 := ((), ())
def lplaw16_ExchangeGaplessx13 : Lp τ := { ts := tslaw16_ExchangeGaplessx13, hs := hslaw16_ExchangeGaplessx13, S := Slaw16_ExchangeGaplessx13, to := tolaw16_ExchangeGaplessx13, ot := otlaw16_ExchangeGaplessx13, oh := ohlaw16_ExchangeGaplessx13, hk := [2], tk := [0, 0, 0, 0, 2, 0, 0, 0, 0, 0, 0, 0, 0, 0, 0, 0, 0, 0, 0, 0, 0, 0, 0, 0, 0, 0, 0, 0, 0, 0, 0, 0, 0, 0, 0, 0, 0, 0, 0, 0, 0, 0, 0, 0, 0, 0, 0, 0, 0, 0, 0, 0, 0, 0, 0, 0, 2, 2, 0, 0, 0, 0, 0, 0, 0, 0, 0, 0, 0, 2, 2, 0, 2], ot_to := fun _ _ => rfl, oh_to := fun _ _ => rfl }
def Flaw16_ExchangeGapless (N : Nat) (s : GSnap) (origin : Int) (seq : Int) (l : List (GOp)) : Option (Bool) :=
 ((Flaw16_begun N).bind fun r1 =>
 (bif (!r1) then
 (some false)
 else
 ((Fexchange_Take N s origin seq l).bind fun r2 =>
 (bif (((r2).length : Int) == 0) then
 ((Fref16_Take N s origin seq l).bind fun r3 =>
 (some (((r3).length : Int) == 0)))
 else
 (bif (!(!((((decide (origin < 0)) || (decide (8 ≤ origin))) || (origin == s.Site)) || (decide (seq < 0)))) || (ibB origin 8)) then
 (bif (((((decide (origin < 0)) || (decide (8 ≤ origin))) || (origin == s.Site)) || (decide (seq < 0))) || (decide ((vget s.Vector_ ((origin).toNat) default) < seq))) then
 (some false)
 else
 (bif (ibB origin 8) then
 (bif (decide ((IntKind.i64.wrap (((l).length : Int) - ((r2).length : Int))) < (IntKind.i64.wrap ((vget s.Vector_ ((origin).toNat) default) - seq)))) then
 (some false)
 else
 (bif (ibB origin 8) then
 (iter N (fun (s4 : Slaw16_ExchangeGaplessx13) next5 =>
 (bif (decide (s4.t77 < ((r2).length : Int))) then
 (bif (ibB s4.t77 ((r2).length : Int)) then
 (bif (ibB (IntKind.i64.wrap ((IntKind.i64.wrap ((vget s.Vector_ ((origin).toNat) default) - seq)) + s4.t77)) ((l).length : Int)) then
 (bif (!(!(((!((((((lget r2 s4.t77 default).Stamp).Time) == (((lget l (IntKind.i64.wrap ((IntKind.i64.wrap ((vget s.Vector_ ((origin).toNat) default) - seq)) + s4.t77)) default).Stamp).Time)) && ((((lget r2 s4.t77 default).Stamp).Site) == (((lget l (IntKind.i64.wrap ((IntKind.i64.wrap ((vget s.Vector_ ((origin).toNat) default) - seq)) + s4.t77)) default).Stamp).Site))) && ((((lget r2 s4.t77 default).Kind) == ((lget l (IntKind.i64.wrap ((IntKind.i64.wrap ((vget s.Vector_ ((origin).toNat) default) - seq)) + s4.t77)) default).Kind)) && ((((lget r2 s4.t77 default).Node) == ((lget l (IntKind.i64.wrap ((IntKind.i64.wrap ((vget s.Vector_ ((origin).toNat) default) - seq)) + s4.t77)) default).Node)) && ((((lget r2 s4.t77 default).Parent) == ((lget l (IntKind.i64.wrap ((IntKind.i64.wrap ((vget s.Vector_ ((origin).toNat) default) - seq)) + s4.t77)) default).Parent)) && ((((lget r2 s4.t77 default).Name) == ((lget l (IntKind.i64.wrap ((IntKind.i64.wrap ((vget s.Vector_ ((origin).toNat) default) - seq)) + s4.t77)) default).Name)) && ((((lget r2 s4.t77 default).Key) == ((lget l (IntKind.i64.wrap ((IntKind.i64.wrap ((vget s.Vector_ ((origin).toNat) default) - seq)) + s4.t77)) default).Key)) && (((lget r2 s4.t77 default).Value) == ((lget l (IntKind.i64.wrap ((IntKind.i64.wrap ((vget s.Vector_ ((origin).toNat) default) - seq)) + s4.t77)) default).Value))))))))) || (!((((lget r2 s4.t77 default).Stamp).Site) == origin))) || (decide ((((lget r2 s4.t77 default).Stamp).Time) ≤ s4.last)))) || (ibB origin 8)) then
 (bif (!((!(((!((((((lget r2 s4.t77 default).Stamp).Time) == (((lget l (IntKind.i64.wrap ((IntKind.i64.wrap ((vget s.Vector_ ((origin).toNat) default) - seq)) + s4.t77)) default).Stamp).Time)) && ((((lget r2 s4.t77 default).Stamp).Site) == (((lget l (IntKind.i64.wrap ((IntKind.i64.wrap ((vget s.Vector_ ((origin).toNat) default) - seq)) + s4.t77)) default).Stamp).Site))) && ((((lget r2 s4.t77 default).Kind) == ((lget l (IntKind.i64.wrap ((IntKind.i64.wrap ((vget s.Vector_ ((origin).toNat) default) - seq)) + s4.t77)) default).Kind)) && ((((lget r2 s4.t77 default).Node) == ((lget l (IntKind.i64.wrap ((IntKind.i64.wrap ((vget s.Vector_ ((origin).toNat) default) - seq)) + s4.t77)) default).Node)) && ((((lget r2 s4.t77 default).Parent) == ((lget l (IntKind.i64.wrap ((IntKind.i64.wrap ((vget s.Vector_ ((origin).toNat) default) - seq)) + s4.t77)) default).Parent)) && ((((lget r2 s4.t77 default).Name) == ((lget l (IntKind.i64.wrap ((IntKind.i64.wrap ((vget s.Vector_ ((origin).toNat) default) - seq)) + s4.t77)) default).Name)) && ((((lget r2 s4.t77 default).Key) == ((lget l (IntKind.i64.wrap ((IntKind.i64.wrap ((vget s.Vector_ ((origin).toNat) default) - seq)) + s4.t77)) default).Key)) && (((lget r2 s4.t77 default).Value) == ((lget l (IntKind.i64.wrap ((IntKind.i64.wrap ((vget s.Vector_ ((origin).toNat) default) - seq)) + s4.t77)) default).Value))))))))) || (!((((lget r2 s4.t77 default).Stamp).Site) == origin))) || (decide ((((lget r2 s4.t77 default).Stamp).Time) ≤ s4.last)))) && ((vget s.Epoch.States ((origin).toNat) default) == 3)) || (ibB origin 8)) then
 (bif (!((!(((!((((((lget r2 s4.t77 default).Stamp).Time) == (((lget l (IntKind.i64.wrap ((IntKind.i64.wrap ((vget s.Vector_ ((origin).toNat) default) - seq)) + s4.t77)) default).Stamp).Time)) && ((((lget r2 s4.t77 default).Stamp).Site) == (((lget l (IntKind.i64.wrap ((IntKind.i64.wrap ((vget s.Vector_ ((origin).toNat) default) - seq)) + s4.t77)) default).Stamp).Site))) && ((((lget r2 s4.t77 default).Kind) == ((lget l (IntKind.i64.wrap ((IntKind.i64.wrap ((vget s.Vector_ ((origin).toNat) default) - seq)) + s4.t77)) default).Kind)) && ((((lget r2 s4.t77 default).Node) == ((lget l (IntKind.i64.wrap ((IntKind.i64.wrap ((vget s.Vector_ ((origin).toNat) default) - seq)) + s4.t77)) default).Node)) && ((((lget r2 s4.t77 default).Parent) == ((lget l (IntKind.i64.wrap ((IntKind.i64.wrap ((vget s.Vector_ ((origin).toNat) default) - seq)) + s4.t77)) default).Parent)) && ((((lget r2 s4.t77 default).Name) == ((lget l (IntKind.i64.wrap ((IntKind.i64.wrap ((vget s.Vector_ ((origin).toNat) default) - seq)) + s4.t77)) default).Name)) && ((((lget r2 s4.t77 default).Key) == ((lget l (IntKind.i64.wrap ((IntKind.i64.wrap ((vget s.Vector_ ((origin).toNat) default) - seq)) + s4.t77)) default).Key)) && (((lget r2 s4.t77 default).Value) == ((lget l (IntKind.i64.wrap ((IntKind.i64.wrap ((vget s.Vector_ ((origin).toNat) default) - seq)) + s4.t77)) default).Value))))))))) || (!((((lget r2 s4.t77 default).Stamp).Site) == origin))) || (decide ((((lget r2 s4.t77 default).Stamp).Time) ≤ s4.last)))) && ((vget s.Epoch.States ((origin).toNat) default) == 3)) || (ibB origin 8)) then
 (bif ((((!((((((lget r2 s4.t77 default).Stamp).Time) == (((lget l (IntKind.i64.wrap ((IntKind.i64.wrap ((vget s.Vector_ ((origin).toNat) default) - seq)) + s4.t77)) default).Stamp).Time)) && ((((lget r2 s4.t77 default).Stamp).Site) == (((lget l (IntKind.i64.wrap ((IntKind.i64.wrap ((vget s.Vector_ ((origin).toNat) default) - seq)) + s4.t77)) default).Stamp).Site))) && ((((lget r2 s4.t77 default).Kind) == ((lget l (IntKind.i64.wrap ((IntKind.i64.wrap ((vget s.Vector_ ((origin).toNat) default) - seq)) + s4.t77)) default).Kind)) && ((((lget r2 s4.t77 default).Node) == ((lget l (IntKind.i64.wrap ((IntKind.i64.wrap ((vget s.Vector_ ((origin).toNat) default) - seq)) + s4.t77)) default).Node)) && ((((lget r2 s4.t77 default).Parent) == ((lget l (IntKind.i64.wrap ((IntKind.i64.wrap ((vget s.Vector_ ((origin).toNat) default) - seq)) + s4.t77)) default).Parent)) && ((((lget r2 s4.t77 default).Name) == ((lget l (IntKind.i64.wrap ((IntKind.i64.wrap ((vget s.Vector_ ((origin).toNat) default) - seq)) + s4.t77)) default).Name)) && ((((lget r2 s4.t77 default).Key) == ((lget l (IntKind.i64.wrap ((IntKind.i64.wrap ((vget s.Vector_ ((origin).toNat) default) - seq)) + s4.t77)) default).Key)) && (((lget r2 s4.t77 default).Value) == ((lget l (IntKind.i64.wrap ((IntKind.i64.wrap ((vget s.Vector_ ((origin).toNat) default) - seq)) + s4.t77)) default).Value))))))))) || (!((((lget r2 s4.t77 default).Stamp).Site) == origin))) || (decide ((((lget r2 s4.t77 default).Stamp).Time) ≤ s4.last))) || (((vget s.Epoch.States ((origin).toNat) default) == 3) && (decide ((vget s.Epoch.Seals ((origin).toNat) default) ≤ (IntKind.i64.wrap ((vget s.Vector_ ((origin).toNat) default) + s4.t77)))))) then
 (some false)
 else
 (next5 ⟨((lget r2 s4.t77 default).Stamp).Time, (IntKind.i64.wrap (s4.t77 + 1))⟩))
 else none)
 else none)
 else none)
 else none)
 else none)
 else
 (bif (ibB origin 8) then
 ((Fexchange_Take N s origin (vget s.Vector_ ((origin).toNat) default) r2).bind fun r6 =>
 ((Flaw16_ops N r6 r2).bind fun r7 =>
 (some r7)))
 else none))) ⟨(bif decide ((vget s.Last ((origin).toNat) default) < s.Frontier) then s.Frontier else (vget s.Last ((origin).toNat) default)), 0⟩)
 else none))
 else none))
 else none)))))
def conlaw16_ExchangeGapless : Con τ := { args := [.ty 34, .ty 3, .ty 2, .ty 28], L := [], ret := .ty 4, L' := [], R := Bool, dflt := default, F := fun N a b => Flaw16_ExchangeGapless N a.1 a.2.1 a.2.2.1 a.2.2.2.1, of := fun r => (r, ()) }
noncomputable def datlaw16_ExchangeGapless : Dat τ := { D := D0, tbl := tblOf [(10, conlaw16_begun), (12, conexchange_Take), (13, conref16_Take), (11, conlaw16_ops)], lp := lpsOf [(13, lplaw16_ExchangeGaplessx13)], k0 := 0, mu := [], un := [] }
theorem oklaw16_ExchangeGapless : ConOk E C 4 conlaw16_ExchangeGapless :=
  con_ok (D := datlaw16_ExchangeGapless) ⟨d0Ok, eGood, tblOf_ok ⟨oklaw16_begun, ⟨okexchange_Take, ⟨okref16_Take, ⟨oklaw16_ops, trivial⟩⟩⟩⟩, fun _ => rfl⟩ conlaw16_ExchangeGapless (fun a b => a) none (fun _ _ => rfl) rfl (fun _ _ h => nomatch h) 1000000 (fn := Try.f4) Try.func4 rfl (by kernel_rfl) (by kernel_rfl) rfl (by intro N a b; kernel_rfl)
end Go.Proofs.Ytekpjhhbmjcbmaa
