/-
The functions of this seat, as plain functions over typed data, each with its contract. Printed by wip/tools/fngen.py.
-/
import Derived.Test.YtekpjhhbmjcbmaaqCod
import Derived.Test.YtekpjhhbmjcbmaaqTvX
import Derived.KernelRfl
set_option linter.unusedVariables false
set_option maxRecDepth 100000
namespace Go.Proofs.Ytekpjhhbmjcbmaa
open Go Go.Ev
def Fexchange_peers (N : Nat) (s : GSnap) : Option (GSnap) :=
 (some s)
def conexchange_peers : Con τ := { args := [.ty 34], L := [], ret := .fn 65 [.ptr 0 []], L' := [.box (.ty 34)], R := GSnap, dflt := default, F := fun N a b => Fexchange_peers N a.1, of := fun r => (((), ()), (r, ())) }
noncomputable def datexchange_peers : Dat τ := { D := D0, tbl := tblOf [], lp := lpsOf [], k0 := 0, mu := [], un := [] }
theorem okexchange_peers : ConOk E C 39 conexchange_peers :=
  con_ok (D := datexchange_peers) ⟨d0Ok, eGood, tblOf_ok trivial, fun _ => rfl⟩ conexchange_peers (fun a b => b.1) none (fun _ _ => rfl) rfl (fun _ _ h => nomatch h) 1000000 (fn := Try.f39) Try.func39 rfl (by kernel_rfl) (by kernel_rfl) rfl (by intro N a b; kernel_rfl)
def Fexchange_site (N : Nat) (n : Int) : Option (Bool) :=
 (some ((decide (0 ≤ n)) && (decide (n < 8))))
def conexchange_site : Con τ := { args := [.ty 3], L := [], ret := .ty 4, L' := [], R := Bool, dflt := default, F := fun N a b => Fexchange_site N a.1, of := fun r => (r, ()) }
noncomputable def datexchange_site : Dat τ := { D := D0, tbl := tblOf [], lp := lpsOf [], k0 := 0, mu := [], un := [] }
theorem okexchange_site : ConOk E C 33 conexchange_site :=
  con_ok (D := datexchange_site) ⟨d0Ok, eGood, tblOf_ok trivial, fun _ => rfl⟩ conexchange_site (fun a b => a) none (fun _ _ => rfl) rfl (fun _ _ h => nomatch h) 1000000 (fn := Try.f33) Try.func33 rfl (by kernel_rfl) (by kernel_rfl) rfl (by intro N a b; kernel_rfl)
def Fexchange_member (N : Nat) (s : GSnap) (i : Int) : Option (Bool) :=
 ((Fexchange_site N i).bind fun r1 =>
 (bif (!r1 || (ibB i 8)) then
 (bif (!(r1 && (!((vget s.Epoch.States ((i).toNat) default) == 1))) || (ibB i 8)) then
 (some (r1 && (((vget s.Epoch.States ((i).toNat) default) == 1) || ((vget s.Epoch.States ((i).toNat) default) == 2))))
 else none)
 else none))
def conexchange_member : Con τ := { args := [.ty 34, .ty 3], L := [], ret := .ty 4, L' := [], R := Bool, dflt := default, F := fun N a b => Fexchange_member N a.1 a.2.1, of := fun r => (r, ()) }
noncomputable def datexchange_member : Dat τ := { D := D0, tbl := tblOf [(33, conexchange_site)], lp := lpsOf [], k0 := 0, mu := [], un := [] }
theorem okexchange_member : ConOk E C 52 conexchange_member :=
  con_ok (D := datexchange_member) ⟨d0Ok, eGood, tblOf_ok ⟨okexchange_site, trivial⟩, fun _ => rfl⟩ conexchange_member (fun a b => a) none (fun _ _ => rfl) rfl (fun _ _ h => nomatch h) 1000000 (fn := Try.f52) Try.func52 rfl (by kernel_rfl) (by kernel_rfl) rfl (by intro N a b; kernel_rfl)
def Fexchange_Peers_3e4 (N : Nat) (x : Int) (s : GSnap) (x2 : GSnap) (b1 : List (Int)) : Option (GSnap × GSnap × (List (Int))) :=
 (bif (lenB ((b1).length + ([x]).length) 8) then
 (some (s, x2, (b1 ++ [x])))
 else none)
def eLexchange_Peers_3e4 : List ESh := [.rcd 17 4 [.ty 33, .junk, .junk, .ptr 1 [], .junk, .ty 33, .junk, .junk, .junk, .junk, .junk, .junk, .junk], .box (.own 3 2), .tail]
def eMexchange_Peers_3e4 : List ESh := [.rcd 17 4 [.ty 33, .junk, .junk, .ptr 1 [], .junk, .ty 33, .junk, .junk, .junk, .junk, .junk, .junk, .junk], .box (.own 3 3), .dead, .tail]
def conexchange_Peers_3e4 : Con τ := { args := [.yld 0, .ty 2], L := eLexchange_Peers_3e4, ret := .bo true, L' := eMexchange_Peers_3e4, R := GSnap × GSnap × (List (Int)), dflt := (default, default, default), F := fun N a b => Fexchange_Peers_3e4 N a.2.1 b.1.1 b.1.2.2.2.2.2.1 b.2.1, of := fun r => ((), ((r.1, (), (), (), (), r.2.1, (), (), (), (), (), (), (), ()), r.2.2, (), (), ())) }
noncomputable def datexchange_Peers_3e4 : Dat τ := { D := D0, tbl := tblOf [], lp := lpsOf [], k0 := 3, mu := [], un := [], fid := 17 }
theorem okexchange_Peers_3e4 : ConOk E C yieldF conexchange_Peers_3e4 :=
  con_round (D := datexchange_Peers_3e4) ⟨d0Ok, eGood, tblOf_ok trivial, fun _ => rfl⟩ (f := 17) (k := 4) (ps := [7]) (by kernel_rfl) rfl (fun a b => (b.1.1, b.1.2.2.2.2.2.1, b.2.1)) none (fun _ _ => rfl) rfl (fun _ _ h => nomatch h) 1000000 (by kernel_rfl) (by kernel_rfl) (by kernel_rfl) (by kernel_rfl) rfl (by intro l N a b; kernel_rfl)
structure Sexchange_peers_1_dfax1 where
  t4 : Int
  z0 : GSnap
  z02 : GSnap
  b2 : List (Int)
def tsexchange_peers_1_dfax1 : List Sl := [.k, .k, .k, .j, .sh (.ty 2), .j, .j, .j, .j, .j, .j, .j, .j, .j, .j, .j, .j, .j, .j, .j, .j, .j, .j]
def hsexchange_peers_1_dfax1 : List ESh := [.rcd 17 4 [.ty 33, .junk, .junk, .ptr 2 [], .junk, .ty 33, .junk, .junk, .junk, .junk, .junk, .junk, .junk], .keep, .box (.own 3 3), .tail]
def toexchange_peers_1_dfax1 (a : Sl.Ts τ tsexchange_peers_1_dfax1) (b : ESh.Ts τ hsexchange_peers_1_dfax1) : Sexchange_peers_1_dfax1 := ⟨a.2.2.2.2.1, b.1.1, b.1.2.2.2.2.2.1, b.2.2.1⟩
def otexchange_peers_1_dfax1 (s : Sexchange_peers_1_dfax1) : Sl.Ts τ tsexchange_peers_1_dfax1 := ((), (), (), (), s.t4, (), (), (), (), (), (), (), (), (), (), (), (), (), (), (), (), (), (), ())
def ohexchange_peers_1_dfax1 (s : Sexchange_peers_1_dfax1) : ESh.Ts τ hsexchange_peers_1_dfax1 := ((s.z0, (), (), (), (), s.z02, (), (), (), (), (), (), (), ()), (), s.b2, (), ())
def lpexchange_peers_1_dfax1 : Lp τ := { ts := tsexchange_peers_1_dfax1, hs := hsexchange_peers_1_dfax1, S := Sexchange_peers_1_dfax1, to := toexchange_peers_1_dfax1, ot := otexchange_peers_1_dfax1, oh := ohexchange_peers_1_dfax1, hk := [6, 2, 2], tk := [0, 3], ot_to := fun _ _ => rfl, oh_to := fun _ _ => rfl }
def Fexchange_peers_1_dfa (N : Nat) (z0 : GSnap) (z02 : GSnap) (b1 : GSnap) : Option (GSnap × GSnap × GSnap × (List (Int))) :=
 (iter N (fun (s1 : Sexchange_peers_1_dfax1) next2 =>
 (bif (decide (s1.t4 < 8)) then
 ((bif (!(s1.t4 == b1.Site)) then Fexchange_member N b1 s1.t4 else some default).bind fun r3 =>
 (bif ((!(s1.t4 == b1.Site)) && r3) then
 ((Fexchange_Peers_3e4 N s1.t4 s1.z0 s1.z02 s1.b2).bind fun r4 =>
 (bif (((!(s1.t4 == b1.Site)) && r3) && false) then
 (some (r4.1, r4.2.1, b1, r4.2.2))
 else
 (next2 ⟨(IntKind.i64.wrap (s1.t4 + 1)), r4.1, r4.2.1, r4.2.2⟩)))
 else
 (next2 ⟨(IntKind.i64.wrap (s1.t4 + 1)), s1.z0, s1.z02, s1.b2⟩)))
 else
 (some (s1.z0, s1.z02, b1, s1.b2)))) ⟨0, z0, z02, []⟩)
def eLexchange_peers_1_dfa : List ESh := [.rcd 17 4 [.ty 33, .junk, .junk, .ptr 2 [], .junk, .ty 33, .junk, .junk, .junk, .junk, .junk, .junk, .junk], .box (.ty 34), .box (.nil .slice)]
def eMexchange_peers_1_dfa : List ESh := [.rcd 17 4 [.ty 33, .junk, .junk, .ptr 2 [], .junk, .ty 33, .junk, .junk, .junk, .junk, .junk, .junk, .junk], .box (.ty 34), .box (.own 3 3), .tail]
def conexchange_peers_1_dfa : Con τ := { args := [.yld 0, .ptr 1 []], L := eLexchange_peers_1_dfa, ret := .tup [], L' := eMexchange_peers_1_dfa, R := GSnap × GSnap × GSnap × (List (Int)), dflt := (default, default, default, default), F := fun N a b => Fexchange_peers_1_dfa N b.1.1 b.1.2.2.2.2.2.1 b.2.1, of := fun r => ((), ((r.1, (), (), (), (), r.2.1, (), (), (), (), (), (), (), ()), r.2.2.1, r.2.2.2, (), ())) }
noncomputable def datexchange_peers_1_dfa : Dat τ := { D := D0, tbl := tblOf [(52, conexchange_member), (1000000, conexchange_Peers_3e4)], lp := lpsOf [(1, lpexchange_peers_1_dfax1)], k0 := 3, mu := [], un := [] }
theorem okexchange_peers_1_dfa : ConOk E C 65 conexchange_peers_1_dfa :=
  con_ok (D := datexchange_peers_1_dfa) ⟨d0Ok, eGood, tblOf_ok ⟨okexchange_member, ⟨okexchange_Peers_3e4, trivial⟩⟩, fun _ => rfl⟩ conexchange_peers_1_dfa (fun a b => (b.1.1, b.1.2.2.2.2.2.1, b.2.1, b.2.2.1)) none (fun _ _ => rfl) rfl (fun _ _ h => nomatch h) 1000000 (fn := Try.f65) Try.func65 rfl (by kernel_rfl) (by kernel_rfl) rfl (by intro N a b; kernel_rfl)
def Fexchange_Peers (N : Nat) (s : GSnap) : Option ((List (Int))) :=
 ((Fexchange_peers N s).bind fun r1 =>
 ((Fexchange_peers_1_dfa N s s r1).bind fun r2 =>
 (some r2.2.2.2)))
def conexchange_Peers : Con τ := { args := [.ty 34], L := [], ret := .ty 60, L' := [], R := (List (Int)), dflt := default, F := fun N a b => Fexchange_Peers N a.1, of := fun r => (r, ()) }
noncomputable def datexchange_Peers : Dat τ := { D := D0, tbl := tblOf [(39, conexchange_peers), (65, conexchange_peers_1_dfa)], lp := lpsOf [], k0 := 0, mu := [], un := [], fid := 17, ex := [] }
theorem okexchange_Peers : ConOk E C 17 conexchange_Peers :=
  con_ok (D := datexchange_Peers) ⟨d0Ok, eGood, tblOf_ok ⟨okexchange_peers, ⟨okexchange_peers_1_dfa, trivial⟩⟩, fun _ => rfl⟩ conexchange_Peers (fun a b => a) none (fun _ _ => rfl) rfl (fun _ _ h => nomatch h) 1000000 (fn := Try.f17) Try.func17 rfl (by kernel_rfl) (by kernel_rfl) rfl (by intro N a b; kernel_rfl) (hsub := ⟨subOk_no (by kernel_rfl), ⟨subOk_no (by kernel_rfl), ⟨⟨subOk_no (by kernel_rfl), (by show SiteP _ _ _ _; unfold SiteP; kernel_rfl)⟩, subOk_no (by kernel_rfl)⟩⟩⟩)
def Fstamp_Check (N : Nat) (s : GStamp) : Option (Bool) :=
 (some ((((decide (1 ≤ s.Time)) && (decide (s.Time ≤ 1099511627776))) && (decide (0 ≤ s.Site))) && (decide (s.Site < 8))))
def constamp_Check : Con τ := { args := [.ty 41], L := [], ret := .ty 4, L' := [], R := Bool, dflt := default, F := fun N a b => Fstamp_Check N a.1, of := fun r => (r, ()) }
noncomputable def datstamp_Check : Dat τ := { D := D0, tbl := tblOf [], lp := lpsOf [], k0 := 0, mu := [], un := [] }
theorem okstamp_Check : ConOk E C 55 constamp_Check :=
  con_ok (D := datstamp_Check) ⟨d0Ok, eGood, tblOf_ok trivial, fun _ => rfl⟩ constamp_Check (fun a b => a) none (fun _ _ => rfl) rfl (fun _ _ h => nomatch h) 1000000 (fn := Try.f55) Try.func55 rfl (by kernel_rfl) (by kernel_rfl) rfl (by intro N a b; kernel_rfl)
def Fstamp_Node (N : Nat) (s : GStamp) : Option (Int) :=
 ((Fstamp_Check N s).bind fun r1 =>
 (bif (!r1) then
 (some 0)
 else
 (some (IntKind.i64.wrap ((IntKind.i64.wrap (16 + (IntKind.i64.wrap (s.Time * 8)))) + s.Site)))))
def constamp_Node : Con τ := { args := [.ty 41], L := [], ret := .ty 2, L' := [], R := Int, dflt := default, F := fun N a b => Fstamp_Node N a.1, of := fun r => (r, ()) }
noncomputable def datstamp_Node : Dat τ := { D := D0, tbl := tblOf [(55, constamp_Check)], lp := lpsOf [], k0 := 0, mu := [], un := [] }
theorem okstamp_Node : ConOk E C 56 constamp_Node :=
  con_ok (D := datstamp_Node) ⟨d0Ok, eGood, tblOf_ok ⟨okstamp_Check, trivial⟩, fun _ => rfl⟩ constamp_Node (fun a b => a) none (fun _ _ => rfl) rfl (fun _ _ h => nomatch h) 1000000 (fn := Try.f56) Try.func56 rfl (by kernel_rfl) (by kernel_rfl) rfl (by intro N a b; kernel_rfl)
def Fstamp_top (N : Nat) (node : Int) : Option (Bool) :=
 (some ((node == 1) || (node == 2)))
def constamp_top : Con τ := { args := [.ty 2], L := [], ret := .ty 4, L' := [], R := Bool, dflt := default, F := fun N a b => Fstamp_top N a.1, of := fun r => (r, ()) }
noncomputable def datstamp_top : Dat τ := { D := D0, tbl := tblOf [], lp := lpsOf [], k0 := 0, mu := [], un := [] }
theorem okstamp_top : ConOk E C 59 constamp_top :=
  con_ok (D := datstamp_top) ⟨d0Ok, eGood, tblOf_ok trivial, fun _ => rfl⟩ constamp_top (fun a b => a) none (fun _ _ => rfl) rfl (fun _ _ h => nomatch h) 1000000 (fn := Try.f59) Try.func59 rfl (by kernel_rfl) (by kernel_rfl) rfl (by intro N a b; kernel_rfl)
def Fstamp_Of (N : Nat) (node : Int) : Option (GStamp × Bool) :=
 (bif (decide (node < 16)) then
 (some ((⟨0, 0⟩ : GStamp), false))
 else
 ((Fstamp_Check N (⟨(IntKind.i64.wrap (Int.tdiv (IntKind.i64.wrap (node - 16)) 8)), (Int.tmod (IntKind.i64.wrap (node - 16)) 8)⟩ : GStamp)).bind fun r1 =>
 (bif (!r1) then
 (some ((⟨0, 0⟩ : GStamp), false))
 else
 (some ((⟨(IntKind.i64.wrap (Int.tdiv (IntKind.i64.wrap (node - 16)) 8)), (Int.tmod (IntKind.i64.wrap (node - 16)) 8)⟩ : GStamp), true)))))
def constamp_Of : Con τ := { args := [.ty 2], L := [], ret := .tup [.ty 41, .ty 4], L' := [], R := GStamp × Bool, dflt := (default, default), F := fun N a b => Fstamp_Of N a.1, of := fun r => ((r.1, r.2, ()), ()) }
noncomputable def datstamp_Of : Dat τ := { D := D0, tbl := tblOf [(55, constamp_Check)], lp := lpsOf [], k0 := 0, mu := [], un := [] }
theorem okstamp_Of : ConOk E C 106 constamp_Of :=
  con_ok (D := datstamp_Of) ⟨d0Ok, eGood, tblOf_ok ⟨okstamp_Check, trivial⟩, fun _ => rfl⟩ constamp_Of (fun a b => (a.1, a.2.1)) none (fun _ _ => rfl) rfl (fun _ _ h => nomatch h) 1000000 (fn := Try.f106) Try.func106 rfl (by kernel_rfl) (by kernel_rfl) rfl (by intro N a b; kernel_rfl)
def Fstamp_made (N : Nat) (node : Int) : Option (Bool) :=
 ((Fstamp_Of N node).bind fun r1 =>
 (some r1.2))
def constamp_made : Con τ := { args := [.ty 2], L := [], ret := .ty 4, L' := [], R := Bool, dflt := default, F := fun N a b => Fstamp_made N a.1, of := fun r => (r, ()) }
noncomputable def datstamp_made : Dat τ := { D := D0, tbl := tblOf [(106, constamp_Of)], lp := lpsOf [], k0 := 0, mu := [], un := [] }
theorem okstamp_made : ConOk E C 58 constamp_made :=
  con_ok (D := datstamp_made) ⟨d0Ok, eGood, tblOf_ok ⟨okstamp_Of, trivial⟩, fun _ => rfl⟩ constamp_made (fun a b => a) none (fun _ _ => rfl) rfl (fun _ _ h => nomatch h) 1000000 (fn := Try.f58) Try.func58 rfl (by kernel_rfl) (by kernel_rfl) rfl (by intro N a b; kernel_rfl)
def Finternal_bytealg_IndexByteString (N : Nat) (s : List UInt8) (c : Int) : Option (Int) :=
 (some (Lib.indexByte s c.toNat.toUInt8))
def coninternal_bytealg_IndexByteString : Con τ := { args := [.ty 9, .ty 5], L := [], ret := .ty 3, L' := [], R := Int, dflt := default, F := fun N a b => Finternal_bytealg_IndexByteString N a.1 a.2.1, of := fun r => (r, ()), ext := true }
theorem okinternal_bytealg_IndexByteString : ConOk E C 144 coninternal_bytealg_IndexByteString :=
  con_ibs (fn := Try.f144) Try.func144 (by kernel_rfl) (by kernel_rfl) (by kernel_rfl) (by kernel_rfl) coninternal_bytealg_IndexByteString rfl rfl (fun a => a.1) (fun a => a.2.1) (fun _ => rfl) (fun _ => rfl) (fun N a b r h => by have h' : some (Lib.indexByte a.1 a.2.1.toNat.toUInt8) = some r := h; cases h'; exact ⟨rfl, rfl⟩)
def Finternal_stringslite_IndexByte (N : Nat) (s : List UInt8) (c : Int) : Option (Int) :=
 ((Finternal_bytealg_IndexByteString N s c).bind fun r1 =>
 (some r1))
def coninternal_stringslite_IndexByte : Con τ := { args := [.ty 9, .ty 5], L := [], ret := .ty 3, L' := [], R := Int, dflt := default, F := fun N a b => Finternal_stringslite_IndexByte N a.1 a.2.1, of := fun r => (r, ()) }
noncomputable def datinternal_stringslite_IndexByte : Dat τ := { D := D0, tbl := tblOf [(144, coninternal_bytealg_IndexByteString)], lp := lpsOf [], k0 := 0, mu := [], un := [] }
theorem okinternal_stringslite_IndexByte : ConOk E C 140 coninternal_stringslite_IndexByte :=
  con_ok (D := datinternal_stringslite_IndexByte) ⟨d0Ok, eGood, tblOf_ok ⟨okinternal_bytealg_IndexByteString, trivial⟩, fun _ => rfl⟩ coninternal_stringslite_IndexByte (fun a b => a) none (fun _ _ => rfl) rfl (fun _ _ h => nomatch h) 1000000 (fn := Try.f140) Try.func140 rfl (by kernel_rfl) (by kernel_rfl) rfl (by intro N a b; kernel_rfl)
def Finternal_stringslite_Index (N : Nat) (s : List UInt8) (substr : List UInt8) : Option (Int) :=
 (bif ((((substr).length : Int) == 0) || (substr == s)) then
 (some 0)
 else
 (bif (((substr).length : Int) == 1) then
 (bif (ibB 0 ((substr).length : Int)) then
 ((Finternal_stringslite_IndexByte N s (((substr).getD 0 0).toNat : Int)).bind fun r1 =>
 (some r1))
 else none)
 else
 (bif (decide (((s).length : Int) ≤ ((substr).length : Int))) then
 (some (-1))
 else
 none)))
def coninternal_stringslite_Index : Con τ := { args := [.ty 9, .ty 9], L := [], ret := .ty 3, L' := [], R := Int, dflt := default, F := fun N a b => Finternal_stringslite_Index N a.1 a.2.1, of := fun r => (r, ()) }
noncomputable def datinternal_stringslite_Index : Dat τ := { D := D0, tbl := tblOf [(140, coninternal_stringslite_IndexByte)], lp := lpsOf [], k0 := 0, mu := [], un := [] }
theorem okinternal_stringslite_Index : ConOk E C 139 coninternal_stringslite_Index :=
  con_ok (D := datinternal_stringslite_Index) ⟨d0Ok, eGood, tblOf_ok ⟨okinternal_stringslite_IndexByte, trivial⟩, fun _ => rfl⟩ coninternal_stringslite_Index (fun a b => a) none (fun _ _ => rfl) rfl (fun _ _ h => nomatch h) 1000000 (fn := Try.f139) Try.func139 rfl (by kernel_rfl) (by kernel_rfl) rfl (by intro N a b; kernel_rfl)
def Fstrings_Index (N : Nat) (s : List UInt8) (substr : List UInt8) : Option (Int) :=
 ((Finternal_stringslite_Index N s substr).bind fun r1 =>
 (some r1))
def constrings_Index : Con τ := { args := [.ty 9, .ty 9], L := [], ret := .ty 3, L' := [], R := Int, dflt := default, F := fun N a b => Fstrings_Index N a.1 a.2.1, of := fun r => (r, ()) }
noncomputable def datstrings_Index : Dat τ := { D := D0, tbl := tblOf [(139, coninternal_stringslite_Index)], lp := lpsOf [], k0 := 0, mu := [], un := [] }
theorem okstrings_Index : ConOk E C 133 constrings_Index :=
  con_ok (D := datstrings_Index) ⟨d0Ok, eGood, tblOf_ok ⟨okinternal_stringslite_Index, trivial⟩, fun _ => rfl⟩ constrings_Index (fun a b => a) none (fun _ _ => rfl) rfl (fun _ _ h => nomatch h) 1000000 (fn := Try.f133) Try.func133 rfl (by kernel_rfl) (by kernel_rfl) rfl (by intro N a b; kernel_rfl)
def Fstrings_Contains (N : Nat) (s : List UInt8) (substr : List UInt8) : Option (Bool) :=
 ((Fstrings_Index N s substr).bind fun r1 =>
 (some (decide (0 ≤ r1))))
def constrings_Contains : Con τ := { args := [.ty 9, .ty 9], L := [], ret := .ty 4, L' := [], R := Bool, dflt := default, F := fun N a b => Fstrings_Contains N a.1 a.2.1, of := fun r => (r, ()) }
noncomputable def datstrings_Contains : Dat τ := { D := D0, tbl := tblOf [(133, constrings_Index)], lp := lpsOf [], k0 := 0, mu := [], un := [] }
theorem okstrings_Contains : ConOk E C 105 constrings_Contains :=
  con_ok (D := datstrings_Contains) ⟨d0Ok, eGood, tblOf_ok ⟨okstrings_Index, trivial⟩, fun _ => rfl⟩ constrings_Contains (fun a b => a) none (fun _ _ => rfl) rfl (fun _ _ h => nomatch h) 1000000 (fn := Try.f105) Try.func105 rfl (by kernel_rfl) (by kernel_rfl) rfl (by intro N a b; kernel_rfl)
def Fstamp_place (N : Nat) (op : GOp) : Option (Int) :=
 ((Fstamp_top N op.Parent).bind fun r1 =>
 ((bif (!r1) then Fstamp_made N op.Parent else some default).bind fun r2 =>
 (bif ((!r1) && (!r2)) then
 (some 1)
 else
 (bif (decide (255 < ((op.Name).length : Int))) then
 (some 3)
 else
 ((bif (!(((op.Name == []) || (op.Name == [46])) || (op.Name == [46, 46]))) then Fstrings_Contains N op.Name [47] else some default).bind fun r3 =>
 (bif ((((((op.Name == []) || (op.Name == [46])) || (op.Name == [46, 46])) || r3) || (!(op.Key == []))) || (!(op.Value == []))) then
 (some 1)
 else
 (some 0)))))))
def constamp_place : Con τ := { args := [.ty 43], L := [], ret := .ty 56, L' := [], R := Int, dflt := default, F := fun N a b => Fstamp_place N a.1, of := fun r => (r, ()) }
noncomputable def datstamp_place : Dat τ := { D := D0, tbl := tblOf [(59, constamp_top), (58, constamp_made), (105, constrings_Contains)], lp := lpsOf [], k0 := 0, mu := [], un := [] }
theorem okstamp_place : ConOk E C 57 constamp_place :=
  con_ok (D := datstamp_place) ⟨d0Ok, eGood, tblOf_ok ⟨okstamp_top, ⟨okstamp_made, ⟨okstrings_Contains, trivial⟩⟩⟩, fun _ => rfl⟩ constamp_place (fun a b => a) none (fun _ _ => rfl) rfl (fun _ _ h => nomatch h) 1000000 (fn := Try.f57) Try.func57 rfl (by kernel_rfl) (by kernel_rfl) rfl (by intro N a b; kernel_rfl)
def Fstamp_CheckOp (N : Nat) (op : GOp) : Option (Int) :=
 ((Fstamp_Check N op.Stamp).bind fun r1 =>
 ((bif ((!(((!r1) || (decide (op.Kind < 1))) || (decide (3 < op.Kind)))) && (op.Kind == 1)) then Fstamp_Node N op.Stamp else some default).bind fun r2 =>
 (bif ((((!r1) || (decide (op.Kind < 1))) || (decide (3 < op.Kind))) || ((op.Kind == 1) && (!(op.Node == r2)))) then
 (some 1)
 else
 (bif (!(op.Kind == 3)) then
 ((Fstamp_place N op).bind fun r3 =>
 (bif (!(r3 == 0)) then
 (some r3)
 else
 (bif (op.Kind == 2) then
 ((Fstamp_made N op.Node).bind fun r4 =>
 (bif (!r4) then
 (some 1)
 else
 (some 0)))
 else
 (bif (op.Kind == 3) then
 ((Fstamp_made N op.Node).bind fun r5 =>
 ((bif (!r5) then Fstamp_top N op.Node else some default).bind fun r6 =>
 (bif ((!r5) && (!r6)) then
 (some 1)
 else
 (bif ((decide (255 < ((op.Key).length : Int))) || (decide (255 < ((op.Value).length : Int)))) then
 (some 3)
 else
 (bif (((op.Key == []) || (!(op.Parent == 0))) || (!(op.Name == []))) then
 (some 1)
 else
 (some 0))))))
 else
 (some 0)))))
 else
 (bif (op.Kind == 2) then
 ((Fstamp_made N op.Node).bind fun r7 =>
 (bif (!r7) then
 (some 1)
 else
 (some 0)))
 else
 (bif (op.Kind == 3) then
 ((Fstamp_made N op.Node).bind fun r8 =>
 ((bif (!r8) then Fstamp_top N op.Node else some default).bind fun r9 =>
 (bif ((!r8) && (!r9)) then
 (some 1)
 else
 (bif ((decide (255 < ((op.Key).length : Int))) || (decide (255 < ((op.Value).length : Int)))) then
 (some 3)
 else
 (bif (((op.Key == []) || (!(op.Parent == 0))) || (!(op.Name == []))) then
 (some 1)
 else
 (some 0))))))
 else
 (some 0)))))))
def constamp_CheckOp : Con τ := { args := [.ty 43], L := [], ret := .ty 56, L' := [], R := Int, dflt := default, F := fun N a b => Fstamp_CheckOp N a.1, of := fun r => (r, ()) }
noncomputable def datstamp_CheckOp : Dat τ := { D := D0, tbl := tblOf [(55, constamp_Check), (56, constamp_Node), (57, constamp_place), (58, constamp_made), (59, constamp_top)], lp := lpsOf [], k0 := 0, mu := [], un := [] }
theorem okstamp_CheckOp : ConOk E C 34 constamp_CheckOp :=
  con_ok (D := datstamp_CheckOp) ⟨d0Ok, eGood, tblOf_ok ⟨okstamp_Check, ⟨okstamp_Node, ⟨okstamp_place, ⟨okstamp_made, ⟨okstamp_top, trivial⟩⟩⟩⟩⟩, fun _ => rfl⟩ constamp_CheckOp (fun a b => a) none (fun _ _ => rfl) rfl (fun _ _ h => nomatch h) 1000000 (fn := Try.f34) Try.func34 rfl (by kernel_rfl) (by kernel_rfl) rfl (by intro N a b; kernel_rfl)
structure Sexchange_Takex9 where
  l : List (GOp)
  last : Int
  t66 : Int
def tsexchange_Takex9 : List Sl := [.k, .k, .k, .k, .k, .k, .k, .k, .k, .k, .sh (.own 43 1), .sh (.ty 2), .k, .j, .j, .j, .k, .k, .k, .k, .j, .j, .j, .j, .k, .k, .j, .j, .j, .j, .j, .j, .k, .k, .k, .k, .k, .k, .k, .k, .j, .j, .j, .k, .k, .j, .j, .k, .k, .j, .j, .j, .j, .j, .j, .k, .k, .k, .k, .k, .k, .k, .k, .k, .k, .k, .sh (.ty 2), .j, .j, .j, .j, .j, .j, .j, .j, .j, .j, .j, .j, .j, .j, .j, .j, .j, .j, .j, .j, .j, .j, .j, .j, .j, .j, .j, .j, .j, .j, .j, .j, .j, .j, .j, .j, .j, .j, .j, .j, .j, .j, .j, .j, .j, .j, .j, .j, .j, .j, .j, .j, .j, .j, .j, .j, .j, .j, .j, .j, .j, .j, .k]
def hsexchange_Takex9 : List ESh := [.keep, .tail]
def toexchange_Takex9 (a : Sl.Ts τ tsexchange_Takex9) (b : ESh.Ts τ hsexchange_Takex9) : Sexchange_Takex9 := ⟨a.2.2.2.2.2.2.2.2.2.2.1, a.2.2.2.2.2.2.2.2.2.2.2.1, a.2.2.2.2.2.2.2.2.2.2.2.2.2.2.2.2.2.2.2.2.2.2.2.2.2.2.2.2.2.2.2.2.2.2.2.2.2.2.2.2.2.2.2.2.2.2.2.2.2.2.2.2.2.2.2.2.2.2.2.2.2.2.2.2.2.2.1⟩
def otexchange_Takex9 (s : Sexchange_Takex9) : Sl.Ts τ tsexchange_Takex9 := ((), (), (), (), (), (), (), (), (), (), s.l, s.last, (), (), (), (), (), (), (), (), (), (), (), (), (), (), (), (), (), (), (), (), (), (), (), (), (), (), (), (), (), (), (), (), (), (), (), (), (), (), (), (), (), (), (), (), (), (), (), (), (), (), (), (), (), (), s.t66, (), (), (), (), (), (), (), (), (), (), (), (), (), (), (), (), (), (), (), (), (), (), (), (), (), (), (), (), (), (), (), (), (), (), (), (), (), (), (), (), (), (), (), (), (), (), (), (), (), (), (), (), (), (), (), (), (), (), (), (), (), (), (), ())
def ohexchange_Takex9 (s : Sexchange_Takex9) : ESh.Ts τ hsexchange_Takex9 := ((), (), ())
def lpexchange_Takex9 : Lp τ := { ts := tsexchange_Takex9, hs := hsexchange_Takex9, S := Sexchange_Takex9, to := toexchange_Takex9, ot := otexchange_Takex9, oh := ohexchange_Takex9, hk := [2], tk := [0, 0, 0, 0, 2, 0, 0, 0, 0, 0, 0, 0, 0, 0, 0, 0, 0, 0, 0, 0, 0, 0, 0, 0, 0, 0, 0, 0, 0, 0, 0, 0, 0, 0, 2, 2, 0, 0, 0, 0, 0, 0, 0, 0, 0, 0, 0, 0, 0, 0, 0, 0, 0, 0, 0, 0, 0, 2, 2], ot_to := fun _ _ => rfl, oh_to := fun _ _ => rfl }
def Fexchange_Take (N : Nat) (s : GSnap) (origin : Int) (seq : Int) (ops : List (GOp)) : Option ((List (GOp))) :=
 ((Fexchange_site N origin).bind fun r1 =>
 (bif (!(!((!r1) || (origin == s.Site))) || (ibB origin 8)) then
 (bif (((!r1) || (origin == s.Site)) || ((vget s.Epoch.States ((origin).toNat) default) == 0)) then
 (some [])
 else
 (bif (ibB origin 8) then
 (bif ((((decide (seq < 0)) || (decide ((vget s.Vector_ ((origin).toNat) default) < seq))) || (decide (1099511627776 < (vget s.Vector_ ((origin).toNat) default)))) || (decide (((ops).length : Int) ≤ (IntKind.i64.wrap ((vget s.Vector_ ((origin).toNat) default) - seq))))) then
 (some [])
 else
 (bif (ibB origin 8) then
 (bif (cutB (IntKind.i64.wrap ((vget s.Vector_ ((origin).toNat) default) - seq)) ((ops).length : Int) ((ops).length : Int)) then
 (iter N (fun (s2 : Sexchange_Takex9) next3 =>
 (bif (decide (s2.t66 < (((cut ops (IntKind.i64.wrap ((vget s.Vector_ ((origin).toNat) default) - seq)) ((ops).length : Int))).length : Int))) then
 (bif (ibB s2.t66 (((cut ops (IntKind.i64.wrap ((vget s.Vector_ ((origin).toNat) default) - seq)) ((ops).length : Int))).length : Int)) then
 (bif (ibB origin 8) then
 (bif (!((vget s.Epoch.States ((origin).toNat) default) == 3) || (ibB origin 8)) then
 ((bif (!((decide (1099511627776 ≤ (IntKind.i64.wrap ((vget s.Vector_ ((origin).toNat) default) + ((s2.l).length : Int))))) || (((vget s.Epoch.States ((origin).toNat) default) == 3) && (decide ((vget s.Epoch.Seals ((origin).toNat) default) ≤ (IntKind.i64.wrap ((vget s.Vector_ ((origin).toNat) default) + ((s2.l).length : Int)))))))) then Fstamp_CheckOp N (⟨((lget (cut ops (IntKind.i64.wrap ((vget s.Vector_ ((origin).toNat) default) - seq)) ((ops).length : Int)) s2.t66 default).Stamp), (lget (cut ops (IntKind.i64.wrap ((vget s.Vector_ ((origin).toNat) default) - seq)) ((ops).length : Int)) s2.t66 default).Kind, (lget (cut ops (IntKind.i64.wrap ((vget s.Vector_ ((origin).toNat) default) - seq)) ((ops).length : Int)) s2.t66 default).Node, (lget (cut ops (IntKind.i64.wrap ((vget s.Vector_ ((origin).toNat) default) - seq)) ((ops).length : Int)) s2.t66 default).Parent, (lget (cut ops (IntKind.i64.wrap ((vget s.Vector_ ((origin).toNat) default) - seq)) ((ops).length : Int)) s2.t66 default).Name, (lget (cut ops (IntKind.i64.wrap ((vget s.Vector_ ((origin).toNat) default) - seq)) ((ops).length : Int)) s2.t66 default).Key, (lget (cut ops (IntKind.i64.wrap ((vget s.Vector_ ((origin).toNat) default) - seq)) ((ops).length : Int)) s2.t66 default).Value⟩ : GOp) else some default).bind fun r4 =>
 (bif ((((((decide (1099511627776 ≤ (IntKind.i64.wrap ((vget s.Vector_ ((origin).toNat) default) + ((s2.l).length : Int))))) || (((vget s.Epoch.States ((origin).toNat) default) == 3) && (decide ((vget s.Epoch.Seals ((origin).toNat) default) ≤ (IntKind.i64.wrap ((vget s.Vector_ ((origin).toNat) default) + ((s2.l).length : Int))))))) || (!(r4 == 0))) || (!((((lget (cut ops (IntKind.i64.wrap ((vget s.Vector_ ((origin).toNat) default) - seq)) ((ops).length : Int)) s2.t66 default).Stamp).Site) == origin))) || (decide ((((lget (cut ops (IntKind.i64.wrap ((vget s.Vector_ ((origin).toNat) default) - seq)) ((ops).length : Int)) s2.t66 default).Stamp).Time) ≤ s2.last))) || (decide ((((lget (cut ops (IntKind.i64.wrap ((vget s.Vector_ ((origin).toNat) default) - seq)) ((ops).length : Int)) s2.t66 default).Stamp).Time) ≤ s.Frontier))) then
 (some s2.l)
 else
 (bif (lenB ((s2.l).length + ([(⟨((lget (cut ops (IntKind.i64.wrap ((vget s.Vector_ ((origin).toNat) default) - seq)) ((ops).length : Int)) s2.t66 default).Stamp), (lget (cut ops (IntKind.i64.wrap ((vget s.Vector_ ((origin).toNat) default) - seq)) ((ops).length : Int)) s2.t66 default).Kind, (lget (cut ops (IntKind.i64.wrap ((vget s.Vector_ ((origin).toNat) default) - seq)) ((ops).length : Int)) s2.t66 default).Node, (lget (cut ops (IntKind.i64.wrap ((vget s.Vector_ ((origin).toNat) default) - seq)) ((ops).length : Int)) s2.t66 default).Parent, (lget (cut ops (IntKind.i64.wrap ((vget s.Vector_ ((origin).toNat) default) - seq)) ((ops).length : Int)) s2.t66 default).Name, (lget (cut ops (IntKind.i64.wrap ((vget s.Vector_ ((origin).toNat) default) - seq)) ((ops).length : Int)) s2.t66 default).Key, (lget (cut ops (IntKind.i64.wrap ((vget s.Vector_ ((origin).toNat) default) - seq)) ((ops).length : Int)) s2.t66 default).Value⟩ : GOp)]).length) 88) then
 (next3 ⟨(s2.l ++ [(⟨((lget (cut ops (IntKind.i64.wrap ((vget s.Vector_ ((origin).toNat) default) - seq)) ((ops).length : Int)) s2.t66 default).Stamp), (lget (cut ops (IntKind.i64.wrap ((vget s.Vector_ ((origin).toNat) default) - seq)) ((ops).length : Int)) s2.t66 default).Kind, (lget (cut ops (IntKind.i64.wrap ((vget s.Vector_ ((origin).toNat) default) - seq)) ((ops).length : Int)) s2.t66 default).Node, (lget (cut ops (IntKind.i64.wrap ((vget s.Vector_ ((origin).toNat) default) - seq)) ((ops).length : Int)) s2.t66 default).Parent, (lget (cut ops (IntKind.i64.wrap ((vget s.Vector_ ((origin).toNat) default) - seq)) ((ops).length : Int)) s2.t66 default).Name, (lget (cut ops (IntKind.i64.wrap ((vget s.Vector_ ((origin).toNat) default) - seq)) ((ops).length : Int)) s2.t66 default).Key, (lget (cut ops (IntKind.i64.wrap ((vget s.Vector_ ((origin).toNat) default) - seq)) ((ops).length : Int)) s2.t66 default).Value⟩ : GOp)]), ((lget (cut ops (IntKind.i64.wrap ((vget s.Vector_ ((origin).toNat) default) - seq)) ((ops).length : Int)) s2.t66 default).Stamp).Time, (IntKind.i64.wrap (s2.t66 + 1))⟩)
 else none)))
 else none)
 else none)
 else none)
 else
 (some s2.l))) ⟨[], (vget s.Last ((origin).toNat) default), 0⟩)
 else none)
 else none))
 else none))
 else none))
def conexchange_Take : Con τ := { args := [.ty 34, .ty 3, .ty 2, .ty 28], L := [], ret := .ty 28, L' := [], R := (List (GOp)), dflt := default, F := fun N a b => Fexchange_Take N a.1 a.2.1 a.2.2.1 a.2.2.2.1, of := fun r => (r, ()) }
noncomputable def datexchange_Take : Dat τ := { D := D0, tbl := tblOf [(33, conexchange_site), (34, constamp_CheckOp)], lp := lpsOf [(9, lpexchange_Takex9)], k0 := 0, mu := [], un := [] }
theorem okexchange_Take : ConOk E C 12 conexchange_Take :=
  con_ok (D := datexchange_Take) ⟨d0Ok, eGood, tblOf_ok ⟨okexchange_site, ⟨okstamp_CheckOp, trivial⟩⟩, fun _ => rfl⟩ conexchange_Take (fun a b => a) none (fun _ _ => rfl) rfl (fun _ _ h => nomatch h) 1000000 (fn := Try.f12) Try.func12 rfl (by kernel_rfl) (by kernel_rfl) rfl (by intro N a b; kernel_rfl)
def Flaw16_begun (N : Nat)  : Option (Bool) :=
 ((Fexchange_Peers N (⟨0, 0, false, (⟨0, (vset (Vector.replicate 8 (default : Int)) 1 1), (Vector.replicate 8 (default : Int)), (Vector.replicate 8 (default : Int))⟩ : GEpoch), 0, (Vector.replicate 8 (default : Int)), (Vector.replicate 8 (default : Int)), [], [], 0, (Vector.replicate 8 (default : Int)), (Vector.replicate 8 (default : List (GOp))), (Vector.replicate 8 (default : Vector (Int) 8)), (Vector.replicate 8 (default : Int)), (Vector.replicate 8 (default : Int)), (Vector.replicate 8 (default : Int)), [], []⟩ : GSnap)).bind fun r1 =>
 (bif (!(((r1).length : Int) == 1) || (ibB 0 ((r1).length : Int))) then
 ((bif ((((r1).length : Int) == 1) && ((lget r1 0 default) == 1)) then Fexchange_Take N (⟨0, 0, false, (⟨0, (vset (Vector.replicate 8 (default : Int)) 1 1), (Vector.replicate 8 (default : Int)), (Vector.replicate 8 (default : Int))⟩ : GEpoch), 0, (Vector.replicate 8 (default : Int)), (Vector.replicate 8 (default : Int)), [], [], 0, (Vector.replicate 8 (default : Int)), (Vector.replicate 8 (default : List (GOp))), (Vector.replicate 8 (default : Vector (Int) 8)), (Vector.replicate 8 (default : Int)), (Vector.replicate 8 (default : Int)), (Vector.replicate 8 (default : Int)), [], []⟩ : GSnap) 1 0 [(⟨(⟨1, 1⟩ : GStamp), 1, 25, 1, [97], [], []⟩ : GOp)] else some default).bind fun r2 =>
 (some (((((r1).length : Int) == 1) && ((lget r1 0 default) == 1)) && (((r2).length : Int) == 1))))
 else none))
def conlaw16_begun : Con τ := { args := [], L := [], ret := .ty 4, L' := [], R := Bool, dflt := default, F := fun N a b => Flaw16_begun N , of := fun r => (r, ()) }
noncomputable def datlaw16_begun : Dat τ := { D := D0, tbl := tblOf [(17, conexchange_Peers), (12, conexchange_Take)], lp := lpsOf [], k0 := 0, mu := [], un := [] }
theorem oklaw16_begun : ConOk E C 10 conlaw16_begun :=
  con_ok (D := datlaw16_begun) ⟨d0Ok, eGood, tblOf_ok ⟨okexchange_Peers, ⟨okexchange_Take, trivial⟩⟩, fun _ => rfl⟩ conlaw16_begun (fun a b => a) none (fun _ _ => rfl) rfl (fun _ _ h => nomatch h) 1000000 (fn := Try.f10) Try.func10 rfl (by kernel_rfl) (by kernel_rfl) rfl (by intro N a b; kernel_rfl)
structure Sref14_Clonex3 where
  base : List (GTreeNode)
  i : Int
def tsref14_Clonex3 : List Sl := [.k, .k, .k, .sh (.own 98 2), .sh (.ty 2), .j, .k, .k, .k, .k, .j, .j, .j, .j, .j, .j, .j, .j, .j, .j, .j, .j, .j, .j, .j, .j, .j, .j, .j, .j, .k, .k, .k, .k, .k, .k, .k, .k, .k, .k, .k, .k, .k, .k, .k, .k, .k, .k, .k, .k, .k, .k, .k, .k, .k, .k, .k, .k, .k, .k, .k, .k, .k, .k, .k, .k, .k, .k, .k, .k, .k, .k, .k, .k, .k]
def hsref14_Clonex3 : List ESh := [.keep, .keep, .tail]
def toref14_Clonex3 (a : Sl.Ts τ tsref14_Clonex3) (b : ESh.Ts τ hsref14_Clonex3) : Sref14_Clonex3 := ⟨a.2.2.2.1, a.2.2.2.2.1⟩
def otref14_Clonex3 (s : Sref14_Clonex3) : Sl.Ts τ tsref14_Clonex3 := ((), (), (), s.base, s.i, (), (), (), (), (), (), (), (), (), (), (), (), (), (), (), (), (), (), (), (), (), (), (), (), (), (), (), (), (), (), (), (), (), (), (), (), (), (), (), (), (), (), (), (), (), (), (), (), (), (), (), (), (), (), (), (), (), (), (), (), (), (), (), (), (), (), (), (), (), (), ())
def ohref14_Clonex3 (s : Sref14_Clonex3) : ESh.Ts τ hsref14_Clonex3 := ((), (), (), ())
def lpref14_Clonex3 : Lp τ := { ts := tsref14_Clonex3, hs := hsref14_Clonex3, S := Sref14_Clonex3, to := toref14_Clonex3, ot := otref14_Clonex3, oh := ohref14_Clonex3, hk := [2, 2], tk := [0, 2, 3], ot_to := fun _ _ => rfl, oh_to := fun _ _ => rfl }
structure Sref14_Clonex11 where
  i : Int
  b0 : Int
  b02 : Int
  b03 : Bool
  b04 : GEpoch
  b05 : Int
  b06 : Vector (Int) 8
  b07 : Vector (Int) 8
  b08 : List (GTreeNode)
  b09 : List (GOp)
  b010 : Int
  b011 : Vector (Int) 8
  b012 : Vector (List (GOp)) 8
  b013 : Vector (Vector (Int) 8) 8
  b014 : Vector (Int) 8
  b015 : Vector (Int) 8
  b016 : Vector (Int) 8
  b017 : List (GRow)
  b018 : List (GPart)
def tsref14_Clonex11 : List Sl := [.k, .k, .k, .k, .k, .k, .sh (.ty 2), .k, .k, .k, .k, .k, .k, .k, .k, .k, .k, .k, .k, .k, .k, .k, .k, .k, .k, .k, .k, .k, .k, .k, .k, .k, .k, .k, .k, .k, .j, .j, .j, .j, .j, .j, .j, .j, .j, .j, .j, .j, .k, .k, .k, .k, .k, .k, .k, .k, .k, .k, .k, .k, .k, .k, .k, .k, .k, .k, .k, .k, .k, .k, .k, .k, .k, .k, .k]
def hsref14_Clonex11 : List ESh := [.box (.agg [.ty 2, .ty 2, .ty 4, .ty 25, .ty 2, .ty 23, .ty 23, .own 98 4, .own 43 5, .ty 2, .ty 23, .ty 29, .ty 30, .ty 23, .ty 23, .ty 23, .ty 31, .ty 32]), .keep, .dead, .dead, .tail, .tail]
def toref14_Clonex11 (a : Sl.Ts τ tsref14_Clonex11) (b : ESh.Ts τ hsref14_Clonex11) : Sref14_Clonex11 := ⟨a.2.2.2.2.2.2.1, b.1.1, b.1.2.1, b.1.2.2.1, b.1.2.2.2.1, b.1.2.2.2.2.1, b.1.2.2.2.2.2.1, b.1.2.2.2.2.2.2.1, b.1.2.2.2.2.2.2.2.1, b.1.2.2.2.2.2.2.2.2.1, b.1.2.2.2.2.2.2.2.2.2.1, b.1.2.2.2.2.2.2.2.2.2.2.1, b.1.2.2.2.2.2.2.2.2.2.2.2.1, b.1.2.2.2.2.2.2.2.2.2.2.2.2.1, b.1.2.2.2.2.2.2.2.2.2.2.2.2.2.1, b.1.2.2.2.2.2.2.2.2.2.2.2.2.2.2.1, b.1.2.2.2.2.2.2.2.2.2.2.2.2.2.2.2.1, b.1.2.2.2.2.2.2.2.2.2.2.2.2.2.2.2.2.1, b.1.2.2.2.2.2.2.2.2.2.2.2.2.2.2.2.2.2.1⟩
def otref14_Clonex11 (s : Sref14_Clonex11) : Sl.Ts τ tsref14_Clonex11 := ((), (), (), (), (), (), s.i, (), (), (), (), (), (), (), (), (), (), (), (), (), (), (), (), (), (), (), (), (), (), (), (), (), (), (), (), (), (), (), (), (), (), (), (), (), (), (), (), (), (), (), (), (), (), (), (), (), (), (), (), (), (), (), (), (), (), (), (), (), (), (), (), (), (), (), (), ())
def ohref14_Clonex11 (s : Sref14_Clonex11) : ESh.Ts τ hsref14_Clonex11 := ((s.b0, s.b02, s.b03, s.b04, s.b05, s.b06, s.b07, s.b08, s.b09, s.b010, s.b011, s.b012, s.b013, s.b014, s.b015, s.b016, s.b017, s.b018, ()), (), (), (), (), (), ())
def lpref14_Clonex11 : Lp τ := { ts := tsref14_Clonex11, hs := hsref14_Clonex11, S := Sref14_Clonex11, to := toref14_Clonex11, ot := otref14_Clonex11, oh := ohref14_Clonex11, hk := [2, 2, 5, 5], tk := [0, 2, 3, 0, 0, 0, 0, 0, 0, 0, 0, 2, 0, 0, 0, 0, 0, 0, 0, 0, 0, 0, 0, 0, 0, 0, 0, 0, 0, 0, 0, 2, 2, 0, 0, 2], ot_to := fun _ _ => rfl, oh_to := fun _ _ => rfl }
structure Sref14_Clonex17 where
  parts : List (GPart)
  i : Int
def tsref14_Clonex17 : List Sl := [.k, .k, .k, .k, .k, .k, .k, .sh (.own 51 7), .sh (.ty 2), .j, .k, .k, .k, .k, .k, .k, .k, .k, .k, .k, .k, .k, .k, .k, .k, .k, .k, .k, .k, .k, .k, .k, .k, .k, .k, .k, .k, .k, .k, .k, .k, .k, .k, .k, .k, .k, .k, .k, .k, .k, .k, .k, .j, .j, .j, .j, .j, .j, .j, .j, .j, .j, .j, .j, .j, .j, .j, .j, .j, .j, .j, .j, .k, .k, .k]
def hsref14_Clonex17 : List ESh := [.keep, .keep, .keep, .keep, .keep, .keep, .keep, .tail]
def toref14_Clonex17 (a : Sl.Ts τ tsref14_Clonex17) (b : ESh.Ts τ hsref14_Clonex17) : Sref14_Clonex17 := ⟨a.2.2.2.2.2.2.2.1, a.2.2.2.2.2.2.2.2.1⟩
def otref14_Clonex17 (s : Sref14_Clonex17) : Sl.Ts τ tsref14_Clonex17 := ((), (), (), (), (), (), (), s.parts, s.i, (), (), (), (), (), (), (), (), (), (), (), (), (), (), (), (), (), (), (), (), (), (), (), (), (), (), (), (), (), (), (), (), (), (), (), (), (), (), (), (), (), (), (), (), (), (), (), (), (), (), (), (), (), (), (), (), (), (), (), (), (), (), (), (), (), (), ())
def ohref14_Clonex17 (s : Sref14_Clonex17) : ESh.Ts τ hsref14_Clonex17 := ((), (), (), (), (), (), (), (), ())
def lpref14_Clonex17 : Lp τ := { ts := tsref14_Clonex17, hs := hsref14_Clonex17, S := Sref14_Clonex17, to := toref14_Clonex17, ot := otref14_Clonex17, oh := ohref14_Clonex17, hk := [2, 2, 1, 1, 5, 5, 5], tk := [0, 2, 3, 0, 0, 0, 0, 0, 0, 0, 0, 2, 0, 0, 0, 0, 0, 0, 0, 0, 0, 0, 0, 0, 0, 0, 0, 0, 0, 0, 0, 2, 2, 0, 0, 2, 0, 0, 0, 0, 0, 0, 0, 0, 0, 0, 0, 0, 2, 0, 0, 2], ot_to := fun _ _ => rfl, oh_to := fun _ _ => rfl }
def Fref14_Clone (N : Nat) (s : GSnap) : Option (GSnap) :=
 (iter N (fun (s1 : Sref14_Clonex3) next2 =>
 (bif (decide (s1.i < ((s.Base).length : Int))) then
 (bif (ibB s1.i ((s.Base).length : Int)) then
 (bif (lenB (((lget s.Base s1.i default).Attrs).length) 32) then
 (bif (lenB ((s1.base).length + ([(lget s.Base s1.i default)]).length) 56) then
 (next2 ⟨(s1.base ++ [(lget s.Base s1.i default)]), (IntKind.i64.wrap (s1.i + 1))⟩)
 else none)
 else none)
 else none)
 else
 (bif (lenB ((s.Log).length) 88) then
 (iter N (fun (s3 : Sref14_Clonex11) next4 =>
 (bif (decide (s3.i < 8)) then
 (bif (ibB s3.i 8) then
 (bif (lenB (((vget s3.b012 ((s3.i).toNat) default)).length) 88) then
 (bif (ibB s3.i 8) then
 (next4 ⟨(IntKind.i64.wrap (s3.i + 1)), s3.b0, s3.b02, s3.b03, s3.b04, s3.b05, s3.b06, s3.b07, s3.b08, s3.b09, s3.b010, s3.b011, (vset s3.b012 ((s3.i).toNat) (vget s3.b012 ((s3.i).toNat) default)), s3.b013, s3.b014, s3.b015, s3.b016, s3.b017, s3.b018⟩)
 else none)
 else none)
 else none)
 else
 (bif (lenB ((s3.b017).length) 48) then
 (iter N (fun (s5 : Sref14_Clonex17) next6 =>
 (bif (decide (s5.i < ((s3.b018).length : Int))) then
 (bif (ibB s5.i ((s3.b018).length : Int)) then
 (bif (lenB (((lget s3.b018 s5.i default).Data).length) 1) then
 (bif (lenB ((s5.parts).length + ([(lget s3.b018 s5.i default)]).length) 48) then
 (next6 ⟨(s5.parts ++ [(lget s3.b018 s5.i default)]), (IntKind.i64.wrap (s5.i + 1))⟩)
 else none)
 else none)
 else none)
 else
 (some (⟨s3.b0, s3.b02, s3.b03, s3.b04, s3.b05, s3.b06, s3.b07, s3.b08, s3.b09, s3.b010, s3.b011, s3.b012, s3.b013, s3.b014, s3.b015, s3.b016, s3.b017, s5.parts⟩ : GSnap)))) ⟨[], 0⟩)
 else none))) ⟨0, s.Site, s.Applied, s.Booted, s.Epoch, s.Clock, s.Vector_, s.Last, s1.base, s.Log, s.Frontier, s.Starts, s.Kept, s.Known, s.Told, s.Clocks, s.Sure, s.Rows, s.Parts⟩)
 else none))) ⟨[], 0⟩)
def conref14_Clone : Con τ := { args := [.ty 34], L := [], ret := .ty 34, L' := [], R := GSnap, dflt := default, F := fun N a b => Fref14_Clone N a.1, of := fun r => (r, ()) }
noncomputable def datref14_Clone : Dat τ := { D := D0, tbl := tblOf [], lp := lpsOf [(3, lpref14_Clonex3), (11, lpref14_Clonex11), (17, lpref14_Clonex17)], k0 := 0, mu := [], un := [] }
theorem okref14_Clone : ConOk E C 30 conref14_Clone :=
  con_ok (D := datref14_Clone) ⟨d0Ok, eGood, tblOf_ok trivial, fun _ => rfl⟩ conref14_Clone (fun a b => a) none (fun _ _ => rfl) rfl (fun _ _ h => nomatch h) 1000000 (fn := Try.f30) Try.func30 rfl (by kernel_rfl) (by kernel_rfl) rfl (by intro N a b; kernel_rfl)
def Fref04_CloneEntry (N : Nat) (e : GEntry) : Option (GEntry) :=
 (bif (lenB ((e.Ops).length) 88) then
 (bif (lenB ((e.Part.Data).length) 1) then
 (some e)
 else none)
 else none)
def conref04_CloneEntry : Con τ := { args := [.ty 53], L := [], ret := .ty 53, L' := [], R := GEntry, dflt := default, F := fun N a b => Fref04_CloneEntry N a.1, of := fun r => (r, ()) }
noncomputable def datref04_CloneEntry : Dat τ := { D := D0, tbl := tblOf [], lp := lpsOf [], k0 := 0, mu := [], un := [] }
theorem okref04_CloneEntry : ConOk E C 53 conref04_CloneEntry :=
  con_ok (D := datref04_CloneEntry) ⟨d0Ok, eGood, tblOf_ok trivial, fun _ => rfl⟩ conref04_CloneEntry (fun a b => a) none (fun _ _ => rfl) rfl (fun _ _ h => nomatch h) 1000000 (fn := Try.f53) Try.func53 rfl (by kernel_rfl) (by kernel_rfl) rfl (by intro N a b; kernel_rfl)
structure Sref04_CloneMsgx6 where
  l : List (GSlotted)
  i : Int
def tsref04_CloneMsgx6 : List Sl := [.k, .k, .k, .sh (.own 101 4), .sh (.ty 2), .j, .k, .k, .k, .k, .k, .k, .k, .k, .k, .k, .k, .k, .k, .k, .j, .j, .j, .j, .j, .j, .j, .j, .j, .j, .j, .j, .j, .j, .j, .j, .j, .j, .j, .j, .k, .k, .k]
def hsref04_CloneMsgx6 : List ESh := [.keep, .keep, .keep, .keep, .tail]
def toref04_CloneMsgx6 (a : Sl.Ts τ tsref04_CloneMsgx6) (b : ESh.Ts τ hsref04_CloneMsgx6) : Sref04_CloneMsgx6 := ⟨a.2.2.2.1, a.2.2.2.2.1⟩
def otref04_CloneMsgx6 (s : Sref04_CloneMsgx6) : Sl.Ts τ tsref04_CloneMsgx6 := ((), (), (), s.l, s.i, (), (), (), (), (), (), (), (), (), (), (), (), (), (), (), (), (), (), (), (), (), (), (), (), (), (), (), (), (), (), (), (), (), (), (), (), (), (), ())
def ohref04_CloneMsgx6 (s : Sref04_CloneMsgx6) : ESh.Ts τ hsref04_CloneMsgx6 := ((), (), (), (), (), ())
def lpref04_CloneMsgx6 : Lp τ := { ts := tsref04_CloneMsgx6, hs := hsref04_CloneMsgx6, S := Sref04_CloneMsgx6, to := toref04_CloneMsgx6, ot := otref04_CloneMsgx6, oh := ohref04_CloneMsgx6, hk := [2, 2, 5, 5], tk := [0, 2, 3, 0, 0, 0, 2, 0, 0, 2, 2, 0, 0, 2, 2, 2, 0, 0, 2, 2], ot_to := fun _ _ => rfl, oh_to := fun _ _ => rfl }
def Fref04_CloneMsg (N : Nat) (m : GMsg) : Option (GMsg) :=
 ((Fref04_CloneEntry N m.Entry).bind fun r1 =>
 (bif (lenB ((m.Ops).length) 88) then
 (bif (lenB ((m.Part.Data).length) 1) then
 (iter N (fun (s2 : Sref04_CloneMsgx6) next3 =>
 (bif (decide (s2.i < ((m.List_).length : Int))) then
 (bif (ibB s2.i ((m.List_).length : Int)) then
 ((Fref04_CloneEntry N (⟨((lget m.List_ s2.i default).Entry).Kind, ((lget m.List_ s2.i default).Entry).Session, ((lget m.List_ s2.i default).Entry).Request, (⟨((((lget m.List_ s2.i default).Entry).Op).Stamp), (((lget m.List_ s2.i default).Entry).Op).Kind, (((lget m.List_ s2.i default).Entry).Op).Node, (((lget m.List_ s2.i default).Entry).Op).Parent, (((lget m.List_ s2.i default).Entry).Op).Name, (((lget m.List_ s2.i default).Entry).Op).Key, (((lget m.List_ s2.i default).Entry).Op).Value⟩ : GOp), ((lget m.List_ s2.i default).Entry).Origin, ((lget m.List_ s2.i default).Entry).Seq, ((lget m.List_ s2.i default).Entry).Ops, (((lget m.List_ s2.i default).Entry).Epoch), ((lget m.List_ s2.i default).Entry).From, ((lget m.List_ s2.i default).Entry).Vector_, ((lget m.List_ s2.i default).Entry).Clock, (((lget m.List_ s2.i default).Entry).Part), ((lget m.List_ s2.i default).Entry).Site, ((lget m.List_ s2.i default).Entry).Sponsor, ((lget m.List_ s2.i default).Entry).Length⟩ : GEntry)).bind fun r4 =>
 (bif (lenB ((s2.l).length + ([(⟨(lget m.List_ s2.i default).Slot, ((lget m.List_ s2.i default).Ballot), r4⟩ : GSlotted)]).length) 528) then
 (next3 ⟨(s2.l ++ [(⟨(lget m.List_ s2.i default).Slot, ((lget m.List_ s2.i default).Ballot), r4⟩ : GSlotted)]), (IntKind.i64.wrap (s2.i + 1))⟩)
 else none))
 else none)
 else
 (some (⟨m.Kind, m.From, m.To, m.Ballot, m.Slot, s2.l, r1, m.Number, m.Vector_, m.Clock, m.Origin, m.Ops, m.Epoch, m.Part⟩ : GMsg)))) ⟨[], 0⟩)
 else none)
 else none))
def conref04_CloneMsg : Con τ := { args := [.ty 55], L := [], ret := .ty 55, L' := [], R := GMsg, dflt := default, F := fun N a b => Fref04_CloneMsg N a.1, of := fun r => (r, ()) }
noncomputable def datref04_CloneMsg : Dat τ := { D := D0, tbl := tblOf [(53, conref04_CloneEntry)], lp := lpsOf [(6, lpref04_CloneMsgx6)], k0 := 0, mu := [], un := [] }
theorem okref04_CloneMsg : ConOk E C 31 conref04_CloneMsg :=
  con_ok (D := datref04_CloneMsg) ⟨d0Ok, eGood, tblOf_ok ⟨okref04_CloneEntry, trivial⟩, fun _ => rfl⟩ conref04_CloneMsg (fun a b => a) none (fun _ _ => rfl) rfl (fun _ _ h => nomatch h) 1000000 (fn := Try.f31) Try.func31 rfl (by kernel_rfl) (by kernel_rfl) rfl (by intro N a b; kernel_rfl)
structure Sexchange_addrsx2 where
  t7 : Int
def tsexchange_addrsx2 : List Sl := [.k, .k, .j, .k, .j, .k, .k, .sh (.ty 2), .j, .j, .j, .j, .j, .j, .j, .j, .j, .j, .j, .j, .j, .j, .j, .j, .j, .j, .j, .j, .j, .j]
def hsexchange_addrsx2 : List ESh := []
def toexchange_addrsx2 (a : Sl.Ts τ tsexchange_addrsx2) (b : ESh.Ts τ hsexchange_addrsx2) : Sexchange_addrsx2 := ⟨a.2.2.2.2.2.2.2.1⟩
def otexchange_addrsx2 (s : Sexchange_addrsx2) : Sl.Ts τ tsexchange_addrsx2 := ((), (), (), (), (), (), (), s.t7, (), (), (), (), (), (), (), (), (), (), (), (), (), (), (), (), (), (), (), (), (), (), ())
def ohexchange_addrsx2 (s : Sexchange_addrsx2) : ESh.Ts τ hsexchange_addrsx2 := ()
def lpexchange_addrsx2 : Lp τ := { ts := tsexchange_addrsx2, hs := hsexchange_addrsx2, S := Sexchange_addrsx2, to := toexchange_addrsx2, ot := otexchange_addrsx2, oh := ohexchange_addrsx2, hk := [], tk := [], ot_to := fun _ _ => rfl, oh_to := fun _ _ => rfl }
def Fexchange_addrs (N : Nat) (l : List (GAddr)) : Option (Bool) :=
 (iter N (fun (s1 : Sexchange_addrsx2) next2 =>
 (bif (decide (s1.t7 < ((l).length : Int))) then
 (bif (ibB s1.t7 ((l).length : Int)) then
 (bif ((((decide (((lget l s1.t7 default).Group) < 0)) || (decide (9 ≤ ((lget l s1.t7 default).Group)))) || (decide (((lget l s1.t7 default).Replica) < 0))) || (decide (5 ≤ ((lget l s1.t7 default).Replica)))) then
 (some false)
 else
 (next2 ⟨(IntKind.i64.wrap (s1.t7 + 1))⟩))
 else none)
 else
 (some true))) ⟨0⟩)
def conexchange_addrs : Con τ := { args := [.ty 107], L := [], ret := .ty 4, L' := [], R := Bool, dflt := default, F := fun N a b => Fexchange_addrs N a.1, of := fun r => (r, ()) }
noncomputable def datexchange_addrs : Dat τ := { D := D0, tbl := tblOf [], lp := lpsOf [(2, lpexchange_addrsx2)], k0 := 0, mu := [], un := [] }
theorem okexchange_addrs : ConOk E C 37 conexchange_addrs :=
  con_ok (D := datexchange_addrs) ⟨d0Ok, eGood, tblOf_ok trivial, fun _ => rfl⟩ conexchange_addrs (fun a b => a) none (fun _ _ => rfl) rfl (fun _ _ h => nomatch h) 1000000 (fn := Try.f37) Try.func37 rfl (by kernel_rfl) (by kernel_rfl) rfl (by intro N a b; kernel_rfl)
def Fexchange_count (N : Nat) (n : Int) : Option (Bool) :=
 (some ((decide (0 ≤ n)) && (decide (n ≤ 1099511627776))))
def conexchange_count : Con τ := { args := [.ty 2], L := [], ret := .ty 4, L' := [], R := Bool, dflt := default, F := fun N a b => Fexchange_count N a.1, of := fun r => (r, ()) }
noncomputable def datexchange_count : Dat τ := { D := D0, tbl := tblOf [], lp := lpsOf [], k0 := 0, mu := [], un := [] }
theorem okexchange_count : ConOk E C 68 conexchange_count :=
  con_ok (D := datexchange_count) ⟨d0Ok, eGood, tblOf_ok trivial, fun _ => rfl⟩ conexchange_count (fun a b => a) none (fun _ _ => rfl) rfl (fun _ _ h => nomatch h) 1000000 (fn := Try.f68) Try.func68 rfl (by kernel_rfl) (by kernel_rfl) rfl (by intro N a b; kernel_rfl)
def Fslices_Clone_Op_367 (N : Nat) (s : List (GOp)) : Option ((List (GOp))) :=
 (bif (lenB (0 + (s).length) 88) then
 (some ([] ++ s))
 else none)
def conslices_Clone_Op_367 : Con τ := { args := [.nn 43], L := [], ret := .ty 28, L' := [], R := (List (GOp)), dflt := default, F := fun N a b => Fslices_Clone_Op_367 N a.1, of := fun r => (r, ()) }
noncomputable def datslices_Clone_Op_367 : Dat τ := { D := D0, tbl := tblOf [], lp := lpsOf [], k0 := 0, mu := [], un := [] }
theorem okslices_Clone_Op_367 : ConOk E C 69 conslices_Clone_Op_367 :=
  con_ok (D := datslices_Clone_Op_367) ⟨d0Ok, eGood, tblOf_ok trivial, fun _ => rfl⟩ conslices_Clone_Op_367 (fun a b => a) none (fun _ _ => rfl) rfl (fun _ _ h => nomatch h) 1000000 (fn := Try.f69) Try.func69 rfl (by kernel_rfl) (by kernel_rfl) rfl (by intro N a b; kernel_rfl)
def Fslices_Clone_Op_932 (N : Nat)  : Option ((List (GOp))) :=
 (some [])
def conslices_Clone_Op_932 : Con τ := { args := [.nil .slice], L := [], ret := .ty 28, L' := [], R := (List (GOp)), dflt := default, F := fun N a b => Fslices_Clone_Op_932 N , of := fun r => (r, ()) }
noncomputable def datslices_Clone_Op_932 : Dat τ := { D := D0, tbl := tblOf [], lp := lpsOf [], k0 := 0, mu := [], un := [] }
theorem okslices_Clone_Op_932 : ConOk E C 69 conslices_Clone_Op_932 :=
  con_ok (D := datslices_Clone_Op_932) ⟨d0Ok, eGood, tblOf_ok trivial, fun _ => rfl⟩ conslices_Clone_Op_932 (fun a b => a) none (fun _ _ => rfl) rfl (fun _ _ h => nomatch h) 1000000 (fn := Try.f69) Try.func69 rfl (by kernel_rfl) (by kernel_rfl) rfl (by intro N a b; kernel_rfl)
def Fslices_Clone_Op (N : Nat) (s : List (GOp)) : Option ((List (GOp))) := Fslices_Clone_Op_367 N s
def conslices_Clone_Op : Con τ := { args := [.ty 28], L := [], ret := .ty 28, L' := [], R := (List (GOp)), dflt := default, F := fun N a b => Fslices_Clone_Op N a.1, of := fun r => (r, ()) }
theorem okslices_Clone_Op : ConOk E C 69 conslices_Clone_Op := by
  intro N a b r h
  obtain ⟨x0, u⟩ := a
  refine FnSpec.split (pre := []) (post := []) (fun h0 => ?_) (okslices_Clone_Op_367 N (x0, u) b r h)
  have h0 : x0 = [] := List.map_eq_nil_iff.1 h0
  subst h0
  exact okslices_Clone_Op_932 N ((), u) b r ((show conslices_Clone_Op_932.F N ((), u) b = conslices_Clone_Op.F N ([], u) b from by kernel_rfl).trans h)
structure Sexchange_pushesx3 where
  most : Int
  l : List (GMsg)
  t15 : Int
def tsexchange_pushesx3 : List Sl := [.k, .k, .k, .sh (.ty 2), .k, .k, .k, .k, .k, .sh (.own 55 3), .j, .j, .j, .j, .j, .sh (.ty 2), .j, .j, .j, .j, .j, .j, .j, .j, .j, .j, .j, .j, .j, .j, .j, .j, .j, .j, .j, .j, .j, .j, .j, .j, .j, .j, .j, .j, .j, .j, .j, .j, .j, .j, .j, .j, .j, .j, .j, .j, .j, .j, .j, .j, .j, .j, .j, .j, .j, .j, .j, .j, .j, .j, .j, .j, .j, .j, .j, .j, .j, .j, .j, .j, .j, .j, .j, .j, .j, .j, .j, .j, .j, .j, .j, .j, .j, .j, .j, .k]
def hsexchange_pushesx3 : List ESh := [.keep, .keep, .keep, .tail]
def toexchange_pushesx3 (a : Sl.Ts τ tsexchange_pushesx3) (b : ESh.Ts τ hsexchange_pushesx3) : Sexchange_pushesx3 := ⟨a.2.2.2.1, a.2.2.2.2.2.2.2.2.2.1, a.2.2.2.2.2.2.2.2.2.2.2.2.2.2.2.1⟩
def otexchange_pushesx3 (s : Sexchange_pushesx3) : Sl.Ts τ tsexchange_pushesx3 := ((), (), (), s.most, (), (), (), (), (), s.l, (), (), (), (), (), s.t15, (), (), (), (), (), (), (), (), (), (), (), (), (), (), (), (), (), (), (), (), (), (), (), (), (), (), (), (), (), (), (), (), (), (), (), (), (), (), (), (), (), (), (), (), (), (), (), (), (), (), (), (), (), (), (), (), (), (), (), (), (), (), (), (), (), (), (), (), (), (), (), (), (), (), (), (), (), (), (), (), ())
def ohexchange_pushesx3 (s : Sexchange_pushesx3) : ESh.Ts τ hsexchange_pushesx3 := ((), (), (), (), ())
def lpexchange_pushesx3 : Lp τ := { ts := tsexchange_pushesx3, hs := hsexchange_pushesx3, S := Sexchange_pushesx3, to := toexchange_pushesx3, ot := otexchange_pushesx3, oh := ohexchange_pushesx3, hk := [2, 2, 2], tk := [0, 0, 0, 0, 2, 3, 4], ot_to := fun _ _ => rfl, oh_to := fun _ _ => rfl }
structure Sexchange_pushesx8 where
  most : Int
  l : List (GMsg)
  k : Int
  ops : List (GOp)
def tsexchange_pushesx8 : List Sl := [.k, .k, .k, .sh (.ty 2), .k, .k, .k, .k, .k, .sh (.own 55 4), .k, .sh (.ty 2), .k, .sh (.ty 28), .j, .k, .k, .k, .k, .k, .k, .k, .k, .k, .k, .k, .k, .k, .k, .k, .k, .k, .k, .j, .j, .j, .k, .k, .j, .j, .j, .k, .k, .j, .j, .j, .j, .j, .j, .j, .j, .j, .k, .k, .k, .k, .k, .k, .k, .k, .k, .j, .j, .j, .j, .j, .j, .j, .j, .j, .j, .j, .j, .j, .j, .j, .j, .j, .j, .j, .j, .j, .j, .j, .j, .j, .j, .j, .j, .j, .j, .j, .j, .j, .k, .k]
def hsexchange_pushesx8 : List ESh := [.keep, .keep, .keep, .dead, .tail]
def toexchange_pushesx8 (a : Sl.Ts τ tsexchange_pushesx8) (b : ESh.Ts τ hsexchange_pushesx8) : Sexchange_pushesx8 := ⟨a.2.2.2.1, a.2.2.2.2.2.2.2.2.2.1, a.2.2.2.2.2.2.2.2.2.2.2.1, a.2.2.2.2.2.2.2.2.2.2.2.2.2.1⟩
def otexchange_pushesx8 (s : Sexchange_pushesx8) : Sl.Ts τ tsexchange_pushesx8 := ((), (), (), s.most, (), (), (), (), (), s.l, (), s.k, (), s.ops, (), (), (), (), (), (), (), (), (), (), (), (), (), (), (), (), (), (), (), (), (), (), (), (), (), (), (), (), (), (), (), (), (), (), (), (), (), (), (), (), (), (), (), (), (), (), (), (), (), (), (), (), (), (), (), (), (), (), (), (), (), (), (), (), (), (), (), (), (), (), (), (), (), (), (), (), (), (), (), (), (), (), ())
def ohexchange_pushesx8 (s : Sexchange_pushesx8) : ESh.Ts τ hsexchange_pushesx8 := ((), (), (), (), (), ())
def lpexchange_pushesx8 : Lp τ := { ts := tsexchange_pushesx8, hs := hsexchange_pushesx8, S := Sexchange_pushesx8, to := toexchange_pushesx8, ot := otexchange_pushesx8, oh := ohexchange_pushesx8, hk := [2, 2, 2, 5], tk := [0, 0, 0, 0, 2, 3, 4, 0, 0, 0, 0, 0, 0, 0, 0, 0, 0, 0, 4, 0, 0, 2, 2, 2, 0, 0, 2, 2, 0, 0, 0, 0, 0, 0, 0, 0, 0, 0, 0, 0, 0, 0, 0, 0, 0, 0, 0, 0, 0, 0, 0, 0, 0, 0, 2, 2], ot_to := fun _ _ => rfl, oh_to := fun _ _ => rfl }
def Fexchange_pushes (N : Nat) (s : GSnap) (from_ : GAddr) (to : GAddr) (most : Int) : Option ((List (GMsg))) :=
 (iter N (fun (s1 : Sexchange_pushesx3) next2 =>
 (bif (decide (s1.t15 < 8)) then
 (bif (ibB to.Group 8) then
 (bif (ibB s1.t15 8) then
 (bif (ibB s1.t15 8) then
 ((Fexchange_count N (vget (vget s.Known ((to.Group).toNat) default) ((s1.t15).toNat) default)).bind fun r3 =>
 ((bif (!(!r3)) then Fexchange_count N (vget s.Starts ((s1.t15).toNat) default) else some default).bind fun r4 =>
 (bif (!(!(((!r3) || (!r4)) || (decide ((vget (vget s.Known ((to.Group).toNat) default) ((s1.t15).toNat) default) < (vget s.Starts ((s1.t15).toNat) default))))) || (ibB s1.t15 8)) then
 (bif ((((!r3) || (!r4)) || (decide ((vget (vget s.Known ((to.Group).toNat) default) ((s1.t15).toNat) default) < (vget s.Starts ((s1.t15).toNat) default)))) || (decide ((((vget s.Kept ((s1.t15).toNat) default)).length : Int) ≤ (IntKind.i64.wrap ((vget (vget s.Known ((to.Group).toNat) default) ((s1.t15).toNat) default) - (vget s.Starts ((s1.t15).toNat) default)))))) then
 (next2 ⟨s1.most, s1.l, (IntKind.i64.wrap (s1.t15 + 1))⟩)
 else
 (bif (ibB s1.t15 8) then
 (bif (cutB (IntKind.i64.wrap ((vget (vget s.Known ((to.Group).toNat) default) ((s1.t15).toNat) default) - (vget s.Starts ((s1.t15).toNat) default))) (((vget s.Kept ((s1.t15).toNat) default)).length : Int) (((vget s.Kept ((s1.t15).toNat) default)).length : Int)) then
 (iter N (fun (s5 : Sexchange_pushesx8) next6 =>
 (bif (decide (0 < ((s5.ops).length : Int))) then
 (bif (decide ((bif decide (s5.most < (bif decide (16 < ((s5.ops).length : Int)) then 16 else ((s5.ops).length : Int))) then s5.most else (bif decide (16 < ((s5.ops).length : Int)) then 16 else ((s5.ops).length : Int))) ≤ 0)) then
 (some s5.l)
 else
 (bif (cutB 0 (bif decide (s5.most < (bif decide (16 < ((s5.ops).length : Int)) then 16 else ((s5.ops).length : Int))) then s5.most else (bif decide (16 < ((s5.ops).length : Int)) then 16 else ((s5.ops).length : Int))) ((s5.ops).length : Int)) then
 ((Fslices_Clone_Op N (cut s5.ops 0 (bif decide (s5.most < (bif decide (16 < ((s5.ops).length : Int)) then 16 else ((s5.ops).length : Int))) then s5.most else (bif decide (16 < ((s5.ops).length : Int)) then 16 else ((s5.ops).length : Int))))).bind fun r7 =>
 (bif (lenB ((s5.l).length + ([(⟨11, from_, to, (⟨0, 0⟩ : GBallot), s5.k, [], (⟨0, 0, 0, (⟨(⟨0, 0⟩ : GStamp), 0, 0, 0, [], [], []⟩ : GOp), 0, 0, [], (⟨0, (Vector.replicate 8 (default : Int)), (Vector.replicate 8 (default : Int)), (Vector.replicate 8 (default : Int))⟩ : GEpoch), 0, (Vector.replicate 8 (default : Int)), 0, (⟨0, 0, 0, []⟩ : GPart), 0, 0, 0⟩ : GEntry), s.Epoch.Number, (Vector.replicate 8 (default : Int)), 0, s1.t15, r7, (⟨0, (Vector.replicate 8 (default : Int)), (Vector.replicate 8 (default : Int)), (Vector.replicate 8 (default : Int))⟩ : GEpoch), (⟨0, 0, 0, []⟩ : GPart)⟩ : GMsg)]).length) 952) then
 (bif (cutB (bif decide (s5.most < (bif decide (16 < ((s5.ops).length : Int)) then 16 else ((s5.ops).length : Int))) then s5.most else (bif decide (16 < ((s5.ops).length : Int)) then 16 else ((s5.ops).length : Int))) ((s5.ops).length : Int) ((s5.ops).length : Int)) then
 (next6 ⟨(IntKind.i64.wrap (s5.most - (bif decide (s5.most < (bif decide (16 < ((s5.ops).length : Int)) then 16 else ((s5.ops).length : Int))) then s5.most else (bif decide (16 < ((s5.ops).length : Int)) then 16 else ((s5.ops).length : Int))))), (s5.l ++ [(⟨11, from_, to, (⟨0, 0⟩ : GBallot), s5.k, [], (⟨0, 0, 0, (⟨(⟨0, 0⟩ : GStamp), 0, 0, 0, [], [], []⟩ : GOp), 0, 0, [], (⟨0, (Vector.replicate 8 (default : Int)), (Vector.replicate 8 (default : Int)), (Vector.replicate 8 (default : Int))⟩ : GEpoch), 0, (Vector.replicate 8 (default : Int)), 0, (⟨0, 0, 0, []⟩ : GPart), 0, 0, 0⟩ : GEntry), s.Epoch.Number, (Vector.replicate 8 (default : Int)), 0, s1.t15, r7, (⟨0, (Vector.replicate 8 (default : Int)), (Vector.replicate 8 (default : Int)), (Vector.replicate 8 (default : Int))⟩ : GEpoch), (⟨0, 0, 0, []⟩ : GPart)⟩ : GMsg)]), (IntKind.i64.wrap (s5.k + (bif decide (s5.most < (bif decide (16 < ((s5.ops).length : Int)) then 16 else ((s5.ops).length : Int))) then s5.most else (bif decide (16 < ((s5.ops).length : Int)) then 16 else ((s5.ops).length : Int))))), (cut s5.ops (bif decide (s5.most < (bif decide (16 < ((s5.ops).length : Int)) then 16 else ((s5.ops).length : Int))) then s5.most else (bif decide (16 < ((s5.ops).length : Int)) then 16 else ((s5.ops).length : Int))) ((s5.ops).length : Int))⟩)
 else none)
 else none))
 else none))
 else
 (next2 ⟨s5.most, s5.l, (IntKind.i64.wrap (s1.t15 + 1))⟩))) ⟨s1.most, s1.l, (vget (vget s.Known ((to.Group).toNat) default) ((s1.t15).toNat) default), (cut (vget s.Kept ((s1.t15).toNat) default) (IntKind.i64.wrap ((vget (vget s.Known ((to.Group).toNat) default) ((s1.t15).toNat) default) - (vget s.Starts ((s1.t15).toNat) default))) (((vget s.Kept ((s1.t15).toNat) default)).length : Int))⟩)
 else none)
 else none))
 else none)))
 else none)
 else none)
 else none)
 else
 (some s1.l))) ⟨most, [], 0⟩)
def conexchange_pushes : Con τ := { args := [.ty 34, .ty 45, .ty 45, .ty 3], L := [], ret := .ty 65, L' := [], R := (List (GMsg)), dflt := default, F := fun N a b => Fexchange_pushes N a.1 a.2.1 a.2.2.1 a.2.2.2.1, of := fun r => (r, ()) }
noncomputable def datexchange_pushes : Dat τ := { D := D0, tbl := tblOf [(68, conexchange_count), (69, conslices_Clone_Op)], lp := lpsOf [(3, lpexchange_pushesx3), (8, lpexchange_pushesx8)], k0 := 0, mu := [], un := [] }
theorem okexchange_pushes : ConOk E C 46 conexchange_pushes :=
  con_ok (D := datexchange_pushes) ⟨d0Ok, eGood, tblOf_ok ⟨okexchange_count, ⟨okslices_Clone_Op, trivial⟩⟩, fun _ => rfl⟩ conexchange_pushes (fun a b => a) none (fun _ _ => rfl) rfl (fun _ _ h => nomatch h) 1000000 (fn := Try.f46) Try.func46 rfl (by kernel_rfl) (by kernel_rfl) rfl (by intro N a b; kernel_rfl)
def Fexchange_Push (N : Nat) (s : GSnap) (from_ : GAddr) (to : GAddr) (most : Int) : Option ((List (GMsg))) :=
 ((Fexchange_addrs N [from_, to]).bind fun r1 =>
 ((bif r1 then Fexchange_site N to.Group else some default).bind fun r2 =>
 (bif (r1 && r2) then
 ((Fexchange_pushes N s from_ to most).bind fun r3 =>
 (some r3))
 else
 (some []))))
def conexchange_Push : Con τ := { args := [.ty 34, .ty 45, .ty 45, .ty 3], L := [], ret := .fn 47 [.ptr 0 []], L' := [.box (.ty 65)], R := (List (GMsg)), dflt := default, F := fun N a b => Fexchange_Push N a.1 a.2.1 a.2.2.1 a.2.2.2.1, of := fun r => (((), ()), (r, ())) }
noncomputable def datexchange_Push : Dat τ := { D := D0, tbl := tblOf [(37, conexchange_addrs), (33, conexchange_site), (46, conexchange_pushes)], lp := lpsOf [], k0 := 0, mu := [], un := [] }
theorem okexchange_Push : ConOk E C 23 conexchange_Push :=
  con_ok (D := datexchange_Push) ⟨d0Ok, eGood, tblOf_ok ⟨okexchange_addrs, ⟨okexchange_site, ⟨okexchange_pushes, trivial⟩⟩⟩, fun _ => rfl⟩ conexchange_Push (fun a b => b.1) none (fun _ _ => rfl) rfl (fun _ _ h => nomatch h) 1000000 (fn := Try.f23) Try.func23 rfl (by kernel_rfl) (by kernel_rfl) rfl (by intro N a b; kernel_rfl)
def Fslices_Clone_Slotted_439 (N : Nat) (s : List (GSlotted)) : Option (Nat × (List (GSlotted))) :=
 (bif (lenB ((s).length) 528) then
 (some ((s).length, s))
 else none)
def conslices_Clone_Slotted_439 : Con τ := { args := [.nn 101], L := [], ret := .msl 101 0, L' := [.gbx 101], R := Nat × (List (GSlotted)), dflt := (default, default), F := fun N a b => Fslices_Clone_Slotted_439 N a.1, of := fun r => (r.1, (r.2, ())) }
noncomputable def datslices_Clone_Slotted_439 : Dat τ := { D := D0, tbl := tblOf [], lp := lpsOf [], k0 := 0, mu := [7], un := [] }
theorem okslices_Clone_Slotted_439 : ConOk E C 70 conslices_Clone_Slotted_439 :=
  con_ok (D := datslices_Clone_Slotted_439) ⟨d0Ok, eGood, tblOf_ok trivial, fun _ => rfl⟩ conslices_Clone_Slotted_439 (fun a b => (a, b.1)) none (fun _ _ => rfl) rfl (fun _ _ h => nomatch h) 1000000 (fn := Try.f70) Try.func70 rfl (by kernel_rfl) (by kernel_rfl) rfl (by intro N a b; kernel_rfl)
def Fslices_Clone_Slotted_476 (N : Nat)  : Option (Nat × (List (GSlotted))) :=
 (some (0, []))
def conslices_Clone_Slotted_476 : Con τ := { args := [.nil .slice], L := [], ret := .msl 101 0, L' := [.gbx 101], R := Nat × (List (GSlotted)), dflt := (default, default), F := fun N a b => Fslices_Clone_Slotted_476 N , of := fun r => (r.1, (r.2, ())) }
noncomputable def datslices_Clone_Slotted_476 : Dat τ := { D := D0, tbl := tblOf [], lp := lpsOf [], k0 := 0, mu := [7], un := [] }
theorem okslices_Clone_Slotted_476 : ConOk E C 70 conslices_Clone_Slotted_476 :=
  con_ok (D := datslices_Clone_Slotted_476) ⟨d0Ok, eGood, tblOf_ok trivial, fun _ => rfl⟩ conslices_Clone_Slotted_476 (fun a b => (a, b.1)) none (fun _ _ => rfl) rfl (fun _ _ h => nomatch h) 1000000 (fn := Try.f70) Try.func70 rfl (by kernel_rfl) (by kernel_rfl) rfl (by intro N a b; kernel_rfl)
def Fslices_Clone_Slotted_560 (N : Nat) (s : List (GSlotted)) : Option (Nat × (List (GSlotted))) := Fslices_Clone_Slotted_439 N s
def conslices_Clone_Slotted_560 : Con τ := { args := [.ty 48], L := [], ret := .msl 101 0, L' := [.gbx 101], R := Nat × (List (GSlotted)), dflt := (default, default), F := fun N a b => Fslices_Clone_Slotted_560 N a.1, of := fun r => (r.1, (r.2, ())) }
theorem okslices_Clone_Slotted_560 : ConOk E C 70 conslices_Clone_Slotted_560 := by
  intro N a b r h
  obtain ⟨x0, u⟩ := a
  refine FnSpec.split (pre := []) (post := []) (fun h0 => ?_) (okslices_Clone_Slotted_439 N (x0, u) b r h)
  have h0 : x0 = [] := List.map_eq_nil_iff.1 h0
  subst h0
  exact okslices_Clone_Slotted_476 N ((), u) b r ((show conslices_Clone_Slotted_476.F N ((), u) b = conslices_Clone_Slotted_560.F N ([], u) b from by kernel_rfl).trans h)
def Fslices_Clone_byte_c35 (N : Nat) (s : List (Int)) : Option ((List (Int))) :=
 (bif (lenB (0 + (s).length) 1) then
 (some ([] ++ s))
 else none)
def conslices_Clone_byte_c35 : Con τ := { args := [.nn 5], L := [], ret := .ty 49, L' := [], R := (List (Int)), dflt := default, F := fun N a b => Fslices_Clone_byte_c35 N a.1, of := fun r => (r, ()) }
noncomputable def datslices_Clone_byte_c35 : Dat τ := { D := D0, tbl := tblOf [], lp := lpsOf [], k0 := 0, mu := [], un := [] }
theorem okslices_Clone_byte_c35 : ConOk E C 72 conslices_Clone_byte_c35 :=
  con_ok (D := datslices_Clone_byte_c35) ⟨d0Ok, eGood, tblOf_ok trivial, fun _ => rfl⟩ conslices_Clone_byte_c35 (fun a b => a) none (fun _ _ => rfl) rfl (fun _ _ h => nomatch h) 1000000 (fn := Try.f72) Try.func72 rfl (by kernel_rfl) (by kernel_rfl) rfl (by intro N a b; kernel_rfl)
def Fslices_Clone_byte_932 (N : Nat)  : Option ((List (Int))) :=
 (some [])
def conslices_Clone_byte_932 : Con τ := { args := [.nil .slice], L := [], ret := .ty 49, L' := [], R := (List (Int)), dflt := default, F := fun N a b => Fslices_Clone_byte_932 N , of := fun r => (r, ()) }
noncomputable def datslices_Clone_byte_932 : Dat τ := { D := D0, tbl := tblOf [], lp := lpsOf [], k0 := 0, mu := [], un := [] }
theorem okslices_Clone_byte_932 : ConOk E C 72 conslices_Clone_byte_932 :=
  con_ok (D := datslices_Clone_byte_932) ⟨d0Ok, eGood, tblOf_ok trivial, fun _ => rfl⟩ conslices_Clone_byte_932 (fun a b => a) none (fun _ _ => rfl) rfl (fun _ _ h => nomatch h) 1000000 (fn := Try.f72) Try.func72 rfl (by kernel_rfl) (by kernel_rfl) rfl (by intro N a b; kernel_rfl)
def Fslices_Clone_byte (N : Nat) (s : List (Int)) : Option ((List (Int))) := Fslices_Clone_byte_c35 N s
def conslices_Clone_byte : Con τ := { args := [.ty 49], L := [], ret := .ty 49, L' := [], R := (List (Int)), dflt := default, F := fun N a b => Fslices_Clone_byte N a.1, of := fun r => (r, ()) }
theorem okslices_Clone_byte : ConOk E C 72 conslices_Clone_byte := by
  intro N a b r h
  obtain ⟨x0, u⟩ := a
  refine FnSpec.split (pre := []) (post := []) (fun h0 => ?_) (okslices_Clone_byte_c35 N (x0, u) b r h)
  have h0 : x0 = [] := List.map_eq_nil_iff.1 h0
  subst h0
  exact okslices_Clone_byte_932 N ((), u) b r ((show conslices_Clone_byte_932.F N ((), u) b = conslices_Clone_byte.F N ([], u) b from by kernel_rfl).trans h)
def Frecord_CloneEntry (N : Nat) (e : GEntry) : Option (GEntry) :=
 ((Fslices_Clone_Op N e.Ops).bind fun r1 =>
 ((Fslices_Clone_byte N e.Part.Data).bind fun r2 =>
 (some (⟨e.Kind, e.Session, e.Request, e.Op, e.Origin, e.Seq, r1, e.Epoch, e.From, e.Vector_, e.Clock, (⟨e.Part.Snap, e.Part.Index, e.Part.Many, r2⟩ : GPart), e.Site, e.Sponsor, e.Length⟩ : GEntry))))
def conrecord_CloneEntry : Con τ := { args := [.ty 53], L := [], ret := .ty 53, L' := [], R := GEntry, dflt := default, F := fun N a b => Frecord_CloneEntry N a.1, of := fun r => (r, ()) }
noncomputable def datrecord_CloneEntry : Dat τ := { D := D0, tbl := tblOf [(69, conslices_Clone_Op), (72, conslices_Clone_byte)], lp := lpsOf [], k0 := 0, mu := [], un := [] }
theorem okrecord_CloneEntry : ConOk E C 71 conrecord_CloneEntry :=
  con_ok (D := datrecord_CloneEntry) ⟨d0Ok, eGood, tblOf_ok ⟨okslices_Clone_Op, ⟨okslices_Clone_byte, trivial⟩⟩, fun _ => rfl⟩ conrecord_CloneEntry (fun a b => a) none (fun _ _ => rfl) rfl (fun _ _ h => nomatch h) 1000000 (fn := Try.f71) Try.func71 rfl (by kernel_rfl) (by kernel_rfl) rfl (by intro N a b; kernel_rfl)
def Fslices_Clone_Op_856 (N : Nat) (s : List (GOp)) : Option (Nat × (List (GOp))) :=
 (bif (lenB ((s).length) 88) then
 (some ((s).length, s))
 else none)
def conslices_Clone_Op_856 : Con τ := { args := [.nn 43], L := [], ret := .msl 43 0, L' := [.gbx 43], R := Nat × (List (GOp)), dflt := (default, default), F := fun N a b => Fslices_Clone_Op_856 N a.1, of := fun r => (r.1, (r.2, ())) }
noncomputable def datslices_Clone_Op_856 : Dat τ := { D := D0, tbl := tblOf [], lp := lpsOf [], k0 := 0, mu := [7], un := [] }
theorem okslices_Clone_Op_856 : ConOk E C 69 conslices_Clone_Op_856 :=
  con_ok (D := datslices_Clone_Op_856) ⟨d0Ok, eGood, tblOf_ok trivial, fun _ => rfl⟩ conslices_Clone_Op_856 (fun a b => (a, b.1)) none (fun _ _ => rfl) rfl (fun _ _ h => nomatch h) 1000000 (fn := Try.f69) Try.func69 rfl (by kernel_rfl) (by kernel_rfl) rfl (by intro N a b; kernel_rfl)
def Fslices_Clone_Op_476 (N : Nat)  : Option (Nat × (List (GOp))) :=
 (some (0, []))
def conslices_Clone_Op_476 : Con τ := { args := [.nil .slice], L := [], ret := .msl 43 0, L' := [.gbx 43], R := Nat × (List (GOp)), dflt := (default, default), F := fun N a b => Fslices_Clone_Op_476 N , of := fun r => (r.1, (r.2, ())) }
noncomputable def datslices_Clone_Op_476 : Dat τ := { D := D0, tbl := tblOf [], lp := lpsOf [], k0 := 0, mu := [7], un := [] }
theorem okslices_Clone_Op_476 : ConOk E C 69 conslices_Clone_Op_476 :=
  con_ok (D := datslices_Clone_Op_476) ⟨d0Ok, eGood, tblOf_ok trivial, fun _ => rfl⟩ conslices_Clone_Op_476 (fun a b => (a, b.1)) none (fun _ _ => rfl) rfl (fun _ _ h => nomatch h) 1000000 (fn := Try.f69) Try.func69 rfl (by kernel_rfl) (by kernel_rfl) rfl (by intro N a b; kernel_rfl)
def Fslices_Clone_Op_d99 (N : Nat) (s : List (GOp)) : Option (Nat × (List (GOp))) := Fslices_Clone_Op_856 N s
def conslices_Clone_Op_d99 : Con τ := { args := [.ty 28], L := [], ret := .msl 43 0, L' := [.gbx 43], R := Nat × (List (GOp)), dflt := (default, default), F := fun N a b => Fslices_Clone_Op_d99 N a.1, of := fun r => (r.1, (r.2, ())) }
theorem okslices_Clone_Op_d99 : ConOk E C 69 conslices_Clone_Op_d99 := by
  intro N a b r h
  obtain ⟨x0, u⟩ := a
  refine FnSpec.split (pre := []) (post := []) (fun h0 => ?_) (okslices_Clone_Op_856 N (x0, u) b r h)
  have h0 : x0 = [] := List.map_eq_nil_iff.1 h0
  subst h0
  exact okslices_Clone_Op_476 N ((), u) b r ((show conslices_Clone_Op_476.F N ((), u) b = conslices_Clone_Op_d99.F N ([], u) b from by kernel_rfl).trans h)
def Fslices_Clone_byte_e12 (N : Nat) (s : List (Int)) : Option (Nat × (List (Int))) :=
 (bif (lenB ((s).length) 1) then
 (some ((s).length, s))
 else none)
def conslices_Clone_byte_e12 : Con τ := { args := [.nn 5], L := [], ret := .msl 5 0, L' := [.gbx 5], R := Nat × (List (Int)), dflt := (default, default), F := fun N a b => Fslices_Clone_byte_e12 N a.1, of := fun r => (r.1, (r.2, ())) }
noncomputable def datslices_Clone_byte_e12 : Dat τ := { D := D0, tbl := tblOf [], lp := lpsOf [], k0 := 0, mu := [7], un := [] }
theorem okslices_Clone_byte_e12 : ConOk E C 72 conslices_Clone_byte_e12 :=
  con_ok (D := datslices_Clone_byte_e12) ⟨d0Ok, eGood, tblOf_ok trivial, fun _ => rfl⟩ conslices_Clone_byte_e12 (fun a b => (a, b.1)) none (fun _ _ => rfl) rfl (fun _ _ h => nomatch h) 1000000 (fn := Try.f72) Try.func72 rfl (by kernel_rfl) (by kernel_rfl) rfl (by intro N a b; kernel_rfl)
def Fslices_Clone_byte_476 (N : Nat)  : Option (Nat × (List (Int))) :=
 (some (0, []))
def conslices_Clone_byte_476 : Con τ := { args := [.nil .slice], L := [], ret := .msl 5 0, L' := [.gbx 5], R := Nat × (List (Int)), dflt := (default, default), F := fun N a b => Fslices_Clone_byte_476 N , of := fun r => (r.1, (r.2, ())) }
noncomputable def datslices_Clone_byte_476 : Dat τ := { D := D0, tbl := tblOf [], lp := lpsOf [], k0 := 0, mu := [7], un := [] }
theorem okslices_Clone_byte_476 : ConOk E C 72 conslices_Clone_byte_476 :=
  con_ok (D := datslices_Clone_byte_476) ⟨d0Ok, eGood, tblOf_ok trivial, fun _ => rfl⟩ conslices_Clone_byte_476 (fun a b => (a, b.1)) none (fun _ _ => rfl) rfl (fun _ _ h => nomatch h) 1000000 (fn := Try.f72) Try.func72 rfl (by kernel_rfl) (by kernel_rfl) rfl (by intro N a b; kernel_rfl)
def Fslices_Clone_byte_be0 (N : Nat) (s : List (Int)) : Option (Nat × (List (Int))) := Fslices_Clone_byte_e12 N s
def conslices_Clone_byte_be0 : Con τ := { args := [.ty 49], L := [], ret := .msl 5 0, L' := [.gbx 5], R := Nat × (List (Int)), dflt := (default, default), F := fun N a b => Fslices_Clone_byte_be0 N a.1, of := fun r => (r.1, (r.2, ())) }
theorem okslices_Clone_byte_be0 : ConOk E C 72 conslices_Clone_byte_be0 := by
  intro N a b r h
  obtain ⟨x0, u⟩ := a
  refine FnSpec.split (pre := []) (post := []) (fun h0 => ?_) (okslices_Clone_byte_e12 N (x0, u) b r h)
  have h0 : x0 = [] := List.map_eq_nil_iff.1 h0
  subst h0
  exact okslices_Clone_byte_476 N ((), u) b r ((show conslices_Clone_byte_476.F N ((), u) b = conslices_Clone_byte_be0.F N ([], u) b from by kernel_rfl).trans h)
end Go.Proofs.Ytekpjhhbmjcbmaa
