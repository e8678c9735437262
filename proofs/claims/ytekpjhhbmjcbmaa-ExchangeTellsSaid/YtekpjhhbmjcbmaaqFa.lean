/-
The functions of this seat, as plain functions over typed data, each with its contract. Printed by wip/tools/fngen.py.
-/
import Derived.Test.YtekpjhhbmjcbmaaqCod
import Derived.Test.YtekpjhhbmjcbmaaqTvX
import Derived.KernelRfl
set_option linter.unusedVariables false
set_option maxRecDepth 100000
namespace Go.Proofs.Ytekpjhhbmjcbmaa
open Go Go.Ev
def Fexchange_peers (N : Nat) (s : GSnap) : Option (GSnap) :=
 (some s)
def conexchange_peers : Con τ := { args := [.ty 34], L := [], ret := .fn 65 [.ptr 0 []], L' := [.box (.ty 34)], R := GSnap, dflt := default, F := fun N a b => Fexchange_peers N a.1, of := fun r => (((), ()), (r, ())) }
noncomputable def datexchange_peers : Dat τ := { D := D0, tbl := tblOf [], lp := lpsOf [], k0 := 0, mu := [], un := [] }
theorem okexchange_peers : ConOk E C 39 conexchange_peers :=
  con_ok (D := datexchange_peers) ⟨d0Ok, eGood, tblOf_ok trivial, fun _ => rfl⟩ conexchange_peers (fun a b => b.1) none (fun _ _ => rfl) rfl (fun _ _ h => nomatch h) 1000000 (fn := Try.f39) Try.func39 rfl (by kernel_rfl) (by kernel_rfl) rfl (by intro N a b; kernel_rfl)
def Fexchange_site (N : Nat) (n : Int) : Option (Bool) :=
 (some ((decide (0 ≤ n)) && (decide (n < 8))))
def conexchange_site : Con τ := { args := [.ty 3], L := [], ret := .ty 4, L' := [], R := Bool, dflt := default, F := fun N a b => Fexchange_site N a.1, of := fun r => (r, ()) }
noncomputable def datexchange_site : Dat τ := { D := D0, tbl := tblOf [], lp := lpsOf [], k0 := 0, mu := [], un := [] }
theorem okexchange_site : ConOk E C 33 conexchange_site :=
  con_ok (D := datexchange_site) ⟨d0Ok, eGood, tblOf_ok trivial, fun _ => rfl⟩ conexchange_site (fun a b => a) none (fun _ _ => rfl) rfl (fun _ _ h => nomatch h) 1000000 (fn := Try.f33) Try.func33 rfl (by kernel_rfl) (by kernel_rfl) rfl (by intro N a b; kernel_rfl)
def Fexchange_member (N : Nat) (s : GSnap) (i : Int) : Option (Bool) :=
 ((Fexchange_site N i).bind fun r1 =>
 (bif (!r1 || (ibB i 8)) then
 (bif (!(r1 && (!((vget s.Epoch.States ((i).toNat) default) == 1))) || (ibB i 8)) then
 (some (r1 && (((vget s.Epoch.States ((i).toNat) default) == 1) || ((vget s.Epoch.States ((i).toNat) default) == 2))))
 else none)
 else none))
def conexchange_member : Con τ := { args := [.ty 34, .ty 3], L := [], ret := .ty 4, L' := [], R := Bool, dflt := default, F := fun N a b => Fexchange_member N a.1 a.2.1, of := fun r => (r, ()) }
noncomputable def datexchange_member : Dat τ := { D := D0, tbl := tblOf [(33, conexchange_site)], lp := lpsOf [], k0 := 0, mu := [], un := [] }
theorem okexchange_member : ConOk E C 52 conexchange_member :=
  con_ok (D := datexchange_member) ⟨d0Ok, eGood, tblOf_ok ⟨okexchange_site, trivial⟩, fun _ => rfl⟩ conexchange_member (fun a b => a) none (fun _ _ => rfl) rfl (fun _ _ h => nomatch h) 1000000 (fn := Try.f52) Try.func52 rfl (by kernel_rfl) (by kernel_rfl) rfl (by intro N a b; kernel_rfl)
def Fexchange_Peers_3e4 (N : Nat) (x : Int) (s : GSnap) (x2 : GSnap) (b1 : List (Int)) : Option (GSnap × GSnap × (List (Int))) :=
 (bif (lenB ((b1).length + ([x]).length) 8) then
 (some (s, x2, (b1 ++ [x])))
 else none)
def eLexchange_Peers_3e4 : List ESh := [.rcd 17 4 [.ty 33, .junk, .junk, .ptr 1 [], .junk, .ty 33, .junk, .junk, .junk, .junk, .junk, .junk, .junk], .box (.own 3 2), .tail]
def eMexchange_Peers_3e4 : List ESh := [.rcd 17 4 [.ty 33, .junk, .junk, .ptr 1 [], .junk, .ty 33, .junk, .junk, .junk, .junk, .junk, .junk, .junk], .box (.own 3 3), .dead, .tail]
def conexchange_Peers_3e4 : Con τ := { args := [.yld 0, .ty 2], L := eLexchange_Peers_3e4, ret := .bo true, L' := eMexchange_Peers_3e4, R := GSnap × GSnap × (List (Int)), dflt := (default, default, default), F := fun N a b => Fexchange_Peers_3e4 N a.2.1 b.1.1 b.1.2.2.2.2.2.1 b.2.1, of := fun r => ((), ((r.1, (), (), (), (), r.2.1, (), (), (), (), (), (), (), ()), r.2.2, (), (), ())) }
noncomputable def datexchange_Peers_3e4 : Dat τ := { D := D0, tbl := tblOf [], lp := lpsOf [], k0 := 3, mu := [], un := [], fid := 17 }
theorem okexchange_Peers_3e4 : ConOk E C yieldF conexchange_Peers_3e4 :=
  con_round (D := datexchange_Peers_3e4) ⟨d0Ok, eGood, tblOf_ok trivial, fun _ => rfl⟩ (f := 17) (k := 4) (ps := [7]) (by kernel_rfl) rfl (fun a b => (b.1.1, b.1.2.2.2.2.2.1, b.2.1)) none (fun _ _ => rfl) rfl (fun _ _ h => nomatch h) 1000000 (by kernel_rfl) (by kernel_rfl) (by kernel_rfl) (by kernel_rfl) rfl (by intro l N a b; kernel_rfl)
structure Sexchange_peers_1_dfax1 where
  t4 : Int
  z0 : GSnap
  z02 : GSnap
  b2 : List (Int)
def tsexchange_peers_1_dfax1 : List Sl := [.k, .k, .k, .j, .sh (.ty 2), .j, .j, .j, .j, .j, .j, .j, .j, .j, .j, .j, .j, .j, .j, .j, .j, .j, .j]
def hsexchange_peers_1_dfax1 : List ESh := [.rcd 17 4 [.ty 33, .junk, .junk, .ptr 2 [], .junk, .ty 33, .junk, .junk, .junk, .junk, .junk, .junk, .junk], .keep, .box (.own 3 3), .tail]
def toexchange_peers_1_dfax1 (a : Sl.Ts τ tsexchange_peers_1_dfax1) (b : ESh.Ts τ hsexchange_peers_1_dfax1) : Sexchange_peers_1_dfax1 := ⟨a.2.2.2.2.1, b.1.1, b.1.2.2.2.2.2.1, b.2.2.1⟩
def otexchange_peers_1_dfax1 (s : Sexchange_peers_1_dfax1) : Sl.Ts τ tsexchange_peers_1_dfax1 := ((), (), (), (), s.t4, (), (), (), (), (), (), (), (), (), (), (), (), (), (), (), (), (), (), ())
def ohexchange_peers_1_dfax1 (s : Sexchange_peers_1_dfax1) : ESh.Ts τ hsexchange_peers_1_dfax1 := ((s.z0, (), (), (), (), s.z02, (), (), (), (), (), (), (), ()), (), s.b2, (), ())
def lpexchange_peers_1_dfax1 : Lp τ := { ts := tsexchange_peers_1_dfax1, hs := hsexchange_peers_1_dfax1, S := Sexchange_peers_1_dfax1, to := toexchange_peers_1_dfax1, ot := otexchange_peers_1_dfax1, oh := ohexchange_peers_1_dfax1, hk := [6, 2, 2], tk := [0, 3], ot_to := fun _ _ => rfl, oh_to := fun _ _ => rfl }
def Fexchange_peers_1_dfa (N : Nat) (z0 : GSnap) (z02 : GSnap) (b1 : GSnap) : Option (GSnap × GSnap × GSnap × (List (Int))) :=
 (iter N (fun (s1 : Sexchange_peers_1_dfax1) next2 =>
 (bif (decide (s1.t4 < 8)) then
 ((bif (!(s1.t4 == b1.Site)) then Fexchange_member N b1 s1.t4 else some default).bind fun r3 =>
 (bif ((!(s1.t4 == b1.Site)) && r3) then
 ((Fexchange_Peers_3e4 N s1.t4 s1.z0 s1.z02 s1.b2).bind fun r4 =>
 (bif (((!(s1.t4 == b1.Site)) && r3) && false) then
 (some (r4.1, r4.2.1, b1, r4.2.2))
 else
 (next2 ⟨(IntKind.i64.wrap (s1.t4 + 1)), r4.1, r4.2.1, r4.2.2⟩)))
 else
 (next2 ⟨(IntKind.i64.wrap (s1.t4 + 1)), s1.z0, s1.z02, s1.b2⟩)))
 else
 (some (s1.z0, s1.z02, b1, s1.b2)))) ⟨0, z0, z02, []⟩)
def eLexchange_peers_1_dfa : List ESh := [.rcd 17 4 [.ty 33, .junk, .junk, .ptr 2 [], .junk, .ty 33, .junk, .junk, .junk, .junk, .junk, .junk, .junk], .box (.ty 34), .box (.nil .slice)]
def eMexchange_peers_1_dfa : List ESh := [.rcd 17 4 [.ty 33, .junk, .junk, .ptr 2 [], .junk, .ty 33, .junk, .junk, .junk, .junk, .junk, .junk, .junk], .box (.ty 34), .box (.own 3 3), .tail]
def conexchange_peers_1_dfa : Con τ := { args := [.yld 0, .ptr 1 []], L := eLexchange_peers_1_dfa, ret := .tup [], L' := eMexchange_peers_1_dfa, R := GSnap × GSnap × GSnap × (List (Int)), dflt := (default, default, default, default), F := fun N a b => Fexchange_peers_1_dfa N b.1.1 b.1.2.2.2.2.2.1 b.2.1, of := fun r => ((), ((r.1, (), (), (), (), r.2.1, (), (), (), (), (), (), (), ()), r.2.2.1, r.2.2.2, (), ())) }
noncomputable def datexchange_peers_1_dfa : Dat τ := { D := D0, tbl := tblOf [(52, conexchange_member), (1000000, conexchange_Peers_3e4)], lp := lpsOf [(1, lpexchange_peers_1_dfax1)], k0 := 3, mu := [], un := [] }
theorem okexchange_peers_1_dfa : ConOk E C 65 conexchange_peers_1_dfa :=
  con_ok (D := datexchange_peers_1_dfa) ⟨d0Ok, eGood, tblOf_ok ⟨okexchange_member, ⟨okexchange_Peers_3e4, trivial⟩⟩, fun _ => rfl⟩ conexchange_peers_1_dfa (fun a b => (b.1.1, b.1.2.2.2.2.2.1, b.2.1, b.2.2.1)) none (fun _ _ => rfl) rfl (fun _ _ h => nomatch h) 1000000 (fn := Try.f65) Try.func65 rfl (by kernel_rfl) (by kernel_rfl) rfl (by intro N a b; kernel_rfl)
def Fexchange_Peers (N : Nat) (s : GSnap) : Option ((List (Int))) :=
 ((Fexchange_peers N s).bind fun r1 =>
 ((Fexchange_peers_1_dfa N s s r1).bind fun r2 =>
 (some r2.2.2.2)))
def conexchange_Peers : Con τ := { args := [.ty 34], L := [], ret := .ty 60, L' := [], R := (List (Int)), dflt := default, F := fun N a b => Fexchange_Peers N a.1, of := fun r => (r, ()) }
noncomputable def datexchange_Peers : Dat τ := { D := D0, tbl := tblOf [(39, conexchange_peers), (65, conexchange_peers_1_dfa)], lp := lpsOf [], k0 := 0, mu := [], un := [], fid := 17, ex := [] }
theorem okexchange_Peers : ConOk E C 17 conexchange_Peers :=
  con_ok (D := datexchange_Peers) ⟨d0Ok, eGood, tblOf_ok ⟨okexchange_peers, ⟨okexchange_peers_1_dfa, trivial⟩⟩, fun _ => rfl⟩ conexchange_Peers (fun a b => a) none (fun _ _ => rfl) rfl (fun _ _ h => nomatch h) 1000000 (fn := Try.f17) Try.func17 rfl (by kernel_rfl) (by kernel_rfl) rfl (by intro N a b; kernel_rfl) (hsub := ⟨subOk_no (by kernel_rfl), ⟨subOk_no (by kernel_rfl), ⟨⟨subOk_no (by kernel_rfl), (by show SiteP _ _ _ _; unfold SiteP; kernel_rfl)⟩, subOk_no (by kernel_rfl)⟩⟩⟩)
def Fstamp_Check (N : Nat) (s : GStamp) : Option (Bool) :=
 (some ((((decide (1 ≤ s.Time)) && (decide (s.Time ≤ 1099511627776))) && (decide (0 ≤ s.Site))) && (decide (s.Site < 8))))
def constamp_Check : Con τ := { args := [.ty 41], L := [], ret := .ty 4, L' := [], R := Bool, dflt := default, F := fun N a b => Fstamp_Check N a.1, of := fun r => (r, ()) }
noncomputable def datstamp_Check : Dat τ := { D := D0, tbl := tblOf [], lp := lpsOf [], k0 := 0, mu := [], un := [] }
theorem okstamp_Check : ConOk E C 55 constamp_Check :=
  con_ok (D := datstamp_Check) ⟨d0Ok, eGood, tblOf_ok trivial, fun _ => rfl⟩ constamp_Check (fun a b => a) none (fun _ _ => rfl) rfl (fun _ _ h => nomatch h) 1000000 (fn := Try.f55) Try.func55 rfl (by kernel_rfl) (by kernel_rfl) rfl (by intro N a b; kernel_rfl)
def Fstamp_Node (N : Nat) (s : GStamp) : Option (Int) :=
 ((Fstamp_Check N s).bind fun r1 =>
 (bif (!r1) then
 (some 0)
 else
 (some (IntKind.i64.wrap ((IntKind.i64.wrap (16 + (IntKind.i64.wrap (s.Time * 8)))) + s.Site)))))
def constamp_Node : Con τ := { args := [.ty 41], L := [], ret := .ty 2, L' := [], R := Int, dflt := default, F := fun N a b => Fstamp_Node N a.1, of := fun r => (r, ()) }
noncomputable def datstamp_Node : Dat τ := { D := D0, tbl := tblOf [(55, constamp_Check)], lp := lpsOf [], k0 := 0, mu := [], un := [] }
theorem okstamp_Node : ConOk E C 56 constamp_Node :=
  con_ok (D := datstamp_Node) ⟨d0Ok, eGood, tblOf_ok ⟨okstamp_Check, trivial⟩, fun _ => rfl⟩ constamp_Node (fun a b => a) none (fun _ _ => rfl) rfl (fun _ _ h => nomatch h) 1000000 (fn := Try.f56) Try.func56 rfl (by kernel_rfl) (by kernel_rfl) rfl (by intro N a b; kernel_rfl)
def Fstamp_top (N : Nat) (node : Int) : Option (Bool) :=
 (some ((node == 1) || (node == 2)))
def constamp_top : Con τ := { args := [.ty 2], L := [], ret := .ty 4, L' := [], R := Bool, dflt := default, F := fun N a b => Fstamp_top N a.1, of := fun r => (r, ()) }
noncomputable def datstamp_top : Dat τ := { D := D0, tbl := tblOf [], lp := lpsOf [], k0 := 0, mu := [], un := [] }
theorem okstamp_top : ConOk E C 59 constamp_top :=
  con_ok (D := datstamp_top) ⟨d0Ok, eGood, tblOf_ok trivial, fun _ => rfl⟩ constamp_top (fun a b => a) none (fun _ _ => rfl) rfl (fun _ _ h => nomatch h) 1000000 (fn := Try.f59) Try.func59 rfl (by kernel_rfl) (by kernel_rfl) rfl (by intro N a b; kernel_rfl)
def Fstamp_Of (N : Nat) (node : Int) : Option (GStamp × Bool) :=
 (bif (decide (node < 16)) then
 (some ((⟨0, 0⟩ : GStamp), false))
 else
 ((Fstamp_Check N (⟨(IntKind.i64.wrap (Int.tdiv (IntKind.i64.wrap (node - 16)) 8)), (Int.tmod (IntKind.i64.wrap (node - 16)) 8)⟩ : GStamp)).bind fun r1 =>
 (bif (!r1) then
 (some ((⟨0, 0⟩ : GStamp), false))
 else
 (some ((⟨(IntKind.i64.wrap (Int.tdiv (IntKind.i64.wrap (node - 16)) 8)), (Int.tmod (IntKind.i64.wrap (node - 16)) 8)⟩ : GStamp), true)))))
def constamp_Of : Con τ := { args := [.ty 2], L := [], ret := .tup [.ty 41, .ty 4], L' := [], R := GStamp × Bool, dflt := (default, default), F := fun N a b => Fstamp_Of N a.1, of := fun r => ((r.1, r.2, ()), ()) }
noncomputable def datstamp_Of : Dat τ := { D := D0, tbl := tblOf [(55, constamp_Check)], lp := lpsOf [], k0 := 0, mu := [], un := [] }
theorem okstamp_Of : ConOk E C 106 constamp_Of :=
  con_ok (D := datstamp_Of) ⟨d0Ok, eGood, tblOf_ok ⟨okstamp_Check, trivial⟩, fun _ => rfl⟩ constamp_Of (fun a b => (a.1, a.2.1)) none (fun _ _ => rfl) rfl (fun _ _ h => nomatch h) 1000000 (fn := Try.f106) Try.func106 rfl (by kernel_rfl) (by kernel_rfl) rfl (by intro N a b; kernel_rfl)
def Fstamp_made (N : Nat) (node : Int) : Option (Bool) :=
 ((Fstamp_Of N node).bind fun r1 =>
 (some r1.2))
def constamp_made : Con τ := { args := [.ty 2], L := [], ret := .ty 4, L' := [], R := Bool, dflt := default, F := fun N a b => Fstamp_made N a.1, of := fun r => (r, ()) }
noncomputable def datstamp_made : Dat τ := { D := D0, tbl := tblOf [(106, constamp_Of)], lp := lpsOf [], k0 := 0, mu := [], un := [] }
theorem okstamp_made : ConOk E C 58 constamp_made :=
  con_ok (D := datstamp_made) ⟨d0Ok, eGood, tblOf_ok ⟨okstamp_Of, trivial⟩, fun _ => rfl⟩ constamp_made (fun a b => a) none (fun _ _ => rfl) rfl (fun _ _ h => nomatch h) 1000000 (fn := Try.f58) Try.func58 rfl (by kernel_rfl) (by kernel_rfl) rfl (by intro N a b; kernel_rfl)
def Finternal_bytealg_IndexByteString (N : Nat) (s : List UInt8) (c : Int) : Option (Int) :=
 (some (Lib.indexByte s c.toNat.toUInt8))
def coninternal_bytealg_IndexByteString : Con τ := { args := [.ty 9, .ty 5], L := [], ret := .ty 3, L' := [], R := Int, dflt := default, F := fun N a b => Finternal_bytealg_IndexByteString N a.1 a.2.1, of := fun r => (r, ()), ext := true }
theorem okinternal_bytealg_IndexByteString : ConOk E C 144 coninternal_bytealg_IndexByteString :=
  con_ibs (fn := Try.f144) Try.func144 (by kernel_rfl) (by kernel_rfl) (by kernel_rfl) (by kernel_rfl) coninternal_bytealg_IndexByteString rfl rfl (fun a => a.1) (fun a => a.2.1) (fun _ => rfl) (fun _ => rfl) (fun N a b r h => by have h' : some (Lib.indexByte a.1 a.2.1.toNat.toUInt8) = some r := h; cases h'; exact ⟨rfl, rfl⟩)
def Finternal_stringslite_IndexByte (N : Nat) (s : List UInt8) (c : Int) : Option (Int) :=
 ((Finternal_bytealg_IndexByteString N s c).bind fun r1 =>
 (some r1))
def coninternal_stringslite_IndexByte : Con τ := { args := [.ty 9, .ty 5], L := [], ret := .ty 3, L' := [], R := Int, dflt := default, F := fun N a b => Finternal_stringslite_IndexByte N a.1 a.2.1, of := fun r => (r, ()) }
noncomputable def datinternal_stringslite_IndexByte : Dat τ := { D := D0, tbl := tblOf [(144, coninternal_bytealg_IndexByteString)], lp := lpsOf [], k0 := 0, mu := [], un := [] }
theorem okinternal_stringslite_IndexByte : ConOk E C 140 coninternal_stringslite_IndexByte :=
  con_ok (D := datinternal_stringslite_IndexByte) ⟨d0Ok, eGood, tblOf_ok ⟨okinternal_bytealg_IndexByteString, trivial⟩, fun _ => rfl⟩ coninternal_stringslite_IndexByte (fun a b => a) none (fun _ _ => rfl) rfl (fun _ _ h => nomatch h) 1000000 (fn := Try.f140) Try.func140 rfl (by kernel_rfl) (by kernel_rfl) rfl (by intro N a b; kernel_rfl)
def Finternal_stringslite_Index (N : Nat) (s : List UInt8) (substr : List UInt8) : Option (Int) :=
 (bif ((((substr).length : Int) == 0) || (substr == s)) then
 (some 0)
 else
 (bif (((substr).length : Int) == 1) then
 (bif (ibB 0 ((substr).length : Int)) then
 ((Finternal_stringslite_IndexByte N s (((substr).getD 0 0).toNat : Int)).bind fun r1 =>
 (some r1))
 else none)
 else
 (bif (decide (((s).length : Int) ≤ ((substr).length : Int))) then
 (some (-1))
 else
 none)))
def coninternal_stringslite_Index : Con τ := { args := [.ty 9, .ty 9], L := [], ret := .ty 3, L' := [], R := Int, dflt := default, F := fun N a b => Finternal_stringslite_Index N a.1 a.2.1, of := fun r => (r, ()) }
noncomputable def datinternal_stringslite_Index : Dat τ := { D := D0, tbl := tblOf [(140, coninternal_stringslite_IndexByte)], lp := lpsOf [], k0 := 0, mu := [], un := [] }
theorem okinternal_stringslite_Index : ConOk E C 139 coninternal_stringslite_Index :=
  con_ok (D := datinternal_stringslite_Index) ⟨d0Ok, eGood, tblOf_ok ⟨okinternal_stringslite_IndexByte, trivial⟩, fun _ => rfl⟩ coninternal_stringslite_Index (fun a b => a) none (fun _ _ => rfl) rfl (fun _ _ h => nomatch h) 1000000 (fn := Try.f139) Try.func139 rfl (by kernel_rfl) (by kernel_rfl) rfl (by intro N a b; kernel_rfl)
def Fstrings_Index (N : Nat) (s : List UInt8) (substr : List UInt8) : Option (Int) :=
 ((Finternal_stringslite_Index N s substr).bind fun r1 =>
 (some r1))
def constrings_Index : Con τ := { args := [.ty 9, .ty 9], L := [], ret := .ty 3, L' := [], R := Int, dflt := default, F := fun N a b => Fstrings_Index N a.1 a.2.1, of := fun r => (r, ()) }
noncomputable def datstrings_Index : Dat τ := { D := D0, tbl := tblOf [(139, coninternal_stringslite_Index)], lp := lpsOf [], k0 := 0, mu := [], un := [] }
theorem okstrings_Index : ConOk E C 133 constrings_Index :=
  con_ok (D := datstrings_Index) ⟨d0Ok, eGood, tblOf_ok ⟨okinternal_stringslite_Index, trivial⟩, fun _ => rfl⟩ constrings_Index (fun a b => a) none (fun _ _ => rfl) rfl (fun _ _ h => nomatch h) 1000000 (fn := Try.f133) Try.func133 rfl (by kernel_rfl) (by kernel_rfl) rfl (by intro N a b; kernel_rfl)
def Fstrings_Contains (N : Nat) (s : List UInt8) (substr : List UInt8) : Option (Bool) :=
 ((Fstrings_Index N s substr).bind fun r1 =>
 (some (decide (0 ≤ r1))))
def constrings_Contains : Con τ := { args := [.ty 9, .ty 9], L := [], ret := .ty 4, L' := [], R := Bool, dflt := default, F := fun N a b => Fstrings_Contains N a.1 a.2.1, of := fun r => (r, ()) }
noncomputable def datstrings_Contains : Dat τ := { D := D0, tbl := tblOf [(133, constrings_Index)], lp := lpsOf [], k0 := 0, mu := [], un := [] }
theorem okstrings_Contains : ConOk E C 105 constrings_Contains :=
  con_ok (D := datstrings_Contains) ⟨d0Ok, eGood, tblOf_ok ⟨okstrings_Index, trivial⟩, fun _ => rfl⟩ constrings_Contains (fun a b => a) none (fun _ _ => rfl) rfl (fun _ _ h => nomatch h) 1000000 (fn := Try.f105) Try.func105 rfl (by kernel_rfl) (by kernel_rfl) rfl (by intro N a b; kernel_rfl)
def Fstamp_place (N : Nat) (op : GOp) : Option (Int) :=
 ((Fstamp_top N op.Parent).bind fun r1 =>
 ((bif (!r1) then Fstamp_made N op.Parent else some default).bind fun r2 =>
 (bif ((!r1) && (!r2)) then
 (some 1)
 else
 (bif (decide (255 < ((op.Name).length : Int))) then
 (some 3)
 else
 ((bif (!(((op.Name == []) || (op.Name == [46])) || (op.Name == [46, 46]))) then Fstrings_Contains N op.Name [47] else some default).bind fun r3 =>
 (bif ((((((op.Name == []) || (op.Name == [46])) || (op.Name == [46, 46])) || r3) || (!(op.Key == []))) || (!(op.Value == []))) then
 (some 1)
 else
 (some 0)))))))
def constamp_place : Con τ := { args := [.ty 43], L := [], ret := .ty 56, L' := [], R := Int, dflt := default, F := fun N a b => Fstamp_place N a.1, of := fun r => (r, ()) }
noncomputable def datstamp_place : Dat τ := { D := D0, tbl := tblOf [(59, constamp_top), (58, constamp_made), (105, constrings_Contains)], lp := lpsOf [], k0 := 0, mu := [], un := [] }
theorem okstamp_place : ConOk E C 57 constamp_place :=
  con_ok (D := datstamp_place) ⟨d0Ok, eGood, tblOf_ok ⟨okstamp_top, ⟨okstamp_made, ⟨okstrings_Contains, trivial⟩⟩⟩, fun _ => rfl⟩ constamp_place (fun a b => a) none (fun _ _ => rfl) rfl (fun _ _ h => nomatch h) 1000000 (fn := Try.f57) Try.func57 rfl (by kernel_rfl) (by kernel_rfl) rfl (by intro N a b; kernel_rfl)
def Fstamp_CheckOp (N : Nat) (op : GOp) : Option (Int) :=
 ((Fstamp_Check N op.Stamp).bind fun r1 =>
 ((bif ((!(((!r1) || (decide (op.Kind < 1))) || (decide (3 < op.Kind)))) && (op.Kind == 1)) then Fstamp_Node N op.Stamp else some default).bind fun r2 =>
 (bif ((((!r1) || (decide (op.Kind < 1))) || (decide (3 < op.Kind))) || ((op.Kind == 1) && (!(op.Node == r2)))) then
 (some 1)
 else
 (bif (!(op.Kind == 3)) then
 ((Fstamp_place N op).bind fun r3 =>
 (bif (!(r3 == 0)) then
 (some r3)
 else
 (bif (op.Kind == 2) then
 ((Fstamp_made N op.Node).bind fun r4 =>
 (bif (!r4) then
 (some 1)
 else
 (some 0)))
 else
 (bif (op.Kind == 3) then
 ((Fstamp_made N op.Node).bind fun r5 =>
 ((bif (!r5) then Fstamp_top N op.Node else some default).bind fun r6 =>
 (bif ((!r5) && (!r6)) then
 (some 1)
 else
 (bif ((decide (255 < ((op.Key).length : Int))) || (decide (255 < ((op.Value).length : Int)))) then
 (some 3)
 else
 (bif (((op.Key == []) || (!(op.Parent == 0))) || (!(op.Name == []))) then
 (some 1)
 else
 (some 0))))))
 else
 (some 0)))))
 else
 (bif (op.Kind == 2) then
 ((Fstamp_made N op.Node).bind fun r7 =>
 (bif (!r7) then
 (some 1)
 else
 (some 0)))
 else
 (bif (op.Kind == 3) then
 ((Fstamp_made N op.Node).bind fun r8 =>
 ((bif (!r8) then Fstamp_top N op.Node else some default).bind fun r9 =>
 (bif ((!r8) && (!r9)) then
 (some 1)
 else
 (bif ((decide (255 < ((op.Key).length : Int))) || (decide (255 < ((op.Value).length : Int)))) then
 (some 3)
 else
 (bif (((op.Key == []) || (!(op.Parent == 0))) || (!(op.Name == []))) then
 (some 1)
 else
 (some 0))))))
 else
 (some 0)))))))
def constamp_CheckOp : Con τ := { args := [.ty 43], L := [], ret := .ty 56, L' := [], R := Int, dflt := default, F := fun N a b => Fstamp_CheckOp N a.1, of := fun r => (r, ()) }
noncomputable def datstamp_CheckOp : Dat τ := { D := D0, tbl := tblOf [(55, constamp_Check), (56, constamp_Node), (57, constamp_place), (58, constamp_made), (59, constamp_top)], lp := lpsOf [], k0 := 0, mu := [], un := [] }
theorem okstamp_CheckOp : ConOk E C 34 constamp_CheckOp :=
  con_ok (D := datstamp_CheckOp) ⟨d0Ok, eGood, tblOf_ok ⟨okstamp_Check, ⟨okstamp_Node, ⟨okstamp_place, ⟨okstamp_made, ⟨okstamp_top, trivial⟩⟩⟩⟩⟩, fun _ => rfl⟩ constamp_CheckOp (fun a b => a) none (fun _ _ => rfl) rfl (fun _ _ h => nomatch h) 1000000 (fn := Try.f34) Try.func34 rfl (by kernel_rfl) (by kernel_rfl) rfl (by intro N a b; kernel_rfl)
structure Sexchange_Takex9 where
  l : List (GOp)
  last : Int
  t66 : Int
def tsexchange_Takex9 : List Sl := [.k, .k, .k, .k, .k, .k, .k, .k, .k, .k, .sh (.own 43 1), .sh (.ty 2), .k, .j, .j, .j, .k, .k, .k, .k, .j, .j, .j, .j, .k, .k, .j, .j, .j, .j, .j, .j, .k, .k, .k, .k, .k, .k, .k, .k, .j, .j, .j, .k, .k, .j, .j, .k, .k, .j, .j, .j, .j, .j, .j, .k, .k, .k, .k, .k, .k, .k, .k, .k, .k, .k, .sh (.ty 2), .j, .j, .j, .j, .j, .j, .j, .j, .j, .j, .j, .j, .j, .j, .j, .j, .j, .j, .j, .j, .j, .j, .j, .j, .j, .j, .j, .j, .j, .j, .j, .j, .j, .j, .j, .j, .j, .j, .j, .j, .j, .j, .j, .j, .j, .j, .j, .j, .j, .j, .j, .j, .j, .j, .j, .j, .j, .j, .j, .j, .j, .j, .k]
def hsexchange_Takex9 : List ESh := [.keep, .tail]
def toexchange_Takex9 (a : Sl.Ts τ tsexchange_Takex9) (b : ESh.Ts τ hsexchange_Takex9) : Sexchange_Takex9 := ⟨a.2.2.2.2.2.2.2.2.2.2.1, a.2.2.2.2.2.2.2.2.2.2.2.1, a.2.2.2.2.2.2.2.2.2.2.2.2.2.2.2.2.2.2.2.2.2.2.2.2.2.2.2.2.2.2.2.2.2.2.2.2.2.2.2.2.2.2.2.2.2.2.2.2.2.2.2.2.2.2.2.2.2.2.2.2.2.2.2.2.2.2.1⟩
def otexchange_Takex9 (s : Sexchange_Takex9) : Sl.Ts τ tsexchange_Takex9 := ((), (), (), (), (), (), (), (), (), (), s.l, s.last, (), (), (), (), (), (), (), (), (), (), (), (), (), (), (), (), (), (), (), (), (), (), (), (), (), (), (), (), (), (), (), (), (), (), (), (), (), (), (), (), (), (), (), (), (), (), (), (), (), (), (), (), (), (), s.t66, (), (), (), (), (), (), (), (), (), (), (), (), (), (), (), (), (), (), (), (), (), (), (), (), (), (), (), (), (), (), (), (), (), (), (), (), (), (), (), (), (), (), (), (), (), (), (), (), (), (), (), (), (), (), (), (), (), (), (), (), (), (), (), ())
def ohexchange_Takex9 (s : Sexchange_Takex9) : ESh.Ts τ hsexchange_Takex9 := ((), (), ())
def lpexchange_Takex9 : Lp τ := { ts := tsexchange_Takex9, hs := hsexchange_Takex9, S := Sexchange_Takex9, to := toexchange_Takex9, ot := otexchange_Takex9, oh := ohexchange_Takex9, hk := [2], tk := [0, 0, 0, 0, 2, 0, 0, 0, 0, 0, 0, 0, 0, 0, 0, 0, 0, 0, 0, 0, 0, 0, 0, 0, 0, 0, 0, 0, 0, 0, 0, 0, 0, 0, 2, 2, 0, 0, 0, 0, 0, 0, 0, 0, 0, 0, 0, 0, 0, 0, 0, 0, 0, 0, 0, 0, 0, 2, 2], ot_to := fun _ _ => rfl, oh_to := fun _ _ => rfl }
def Fexchange_Take (N : Nat) (s : GSnap) (origin : Int) (seq : Int) (ops : List (GOp)) : Option ((List (GOp))) :=
 ((Fexchange_site N origin).bind fun r1 =>
 (bif (!(!((!r1) || (origin == s.Site))) || (ibB origin 8)) then
 (bif (((!r1) || (origin == s.Site)) || ((vget s.Epoch.States ((origin).toNat) default) == 0)) then
 (some [])
 else
 (bif (ibB origin 8) then
 (bif ((((decide (seq < 0)) || (decide ((vget s.Vector_ ((origin).toNat) default) < seq))) || (decide (1099511627776 < (vget s.Vector_ ((origin).toNat) default)))) || (decide (((ops).length : Int) ≤ (IntKind.i64.wrap ((vget s.Vector_ ((origin).toNat) default) - seq))))) then
 (some [])
 else
 (bif (ibB origin 8) then
 (bif (cutB (IntKind.i64.wrap ((vget s.Vector_ ((origin).toNat) default) - seq)) ((ops).length : Int) ((ops).length : Int)) then
 (iter N (fun (s2 : Sexchange_Takex9) next3 =>
 (bif (decide (s2.t66 < (((cut ops (IntKind.i64.wrap ((vget s.Vector_ ((origin).toNat) default) - seq)) ((ops).length : Int))).length : Int))) then
 (bif (ibB s2.t66 (((cut ops (IntKind.i64.wrap ((vget s.Vector_ ((origin).toNat) default) - seq)) ((ops).length : Int))).length : Int)) then
 (bif (ibB origin 8) then
 (bif (!((vget s.Epoch.States ((origin).toNat) default) == 3) || (ibB origin 8)) then
 ((bif (!((decide (1099511627776 ≤ (IntKind.i64.wrap ((vget s.Vector_ ((origin).toNat) default) + ((s2.l).length : Int))))) || (((vget s.Epoch.States ((origin).toNat) default) == 3) && (decide ((vget s.Epoch.Seals ((origin).toNat) default) ≤ (IntKind.i64.wrap ((vget s.Vector_ ((origin).toNat) default) + ((s2.l).length : Int)))))))) then Fstamp_CheckOp N (⟨((lget (cut ops (IntKind.i64.wrap ((vget s.Vector_ ((origin).toNat) default) - seq)) ((ops).length : Int)) s2.t66 default).Stamp), (lget (cut ops (IntKind.i64.wrap ((vget s.Vector_ ((origin).toNat) default) - seq)) ((ops).length : Int)) s2.t66 default).Kind, (lget (cut ops (IntKind.i64.wrap ((vget s.Vector_ ((origin).toNat) default) - seq)) ((ops).length : Int)) s2.t66 default).Node, (lget (cut ops (IntKind.i64.wrap ((vget s.Vector_ ((origin).toNat) default) - seq)) ((ops).length : Int)) s2.t66 default).Parent, (lget (cut ops (IntKind.i64.wrap ((vget s.Vector_ ((origin).toNat) default) - seq)) ((ops).length : Int)) s2.t66 default).Name, (lget (cut ops (IntKind.i64.wrap ((vget s.Vector_ ((origin).toNat) default) - seq)) ((ops).length : Int)) s2.t66 default).Key, (lget (cut ops (IntKind.i64.wrap ((vget s.Vector_ ((origin).toNat) default) - seq)) ((ops).length : Int)) s2.t66 default).Value⟩ : GOp) else some default).bind fun r4 =>
 (bif ((((((decide (1099511627776 ≤ (IntKind.i64.wrap ((vget s.Vector_ ((origin).toNat) default) + ((s2.l).length : Int))))) || (((vget s.Epoch.States ((origin).toNat) default) == 3) && (decide ((vget s.Epoch.Seals ((origin).toNat) default) ≤ (IntKind.i64.wrap ((vget s.Vector_ ((origin).toNat) default) + ((s2.l).length : Int))))))) || (!(r4 == 0))) || (!((((lget (cut ops (IntKind.i64.wrap ((vget s.Vector_ ((origin).toNat) default) - seq)) ((ops).length : Int)) s2.t66 default).Stamp).Site) == origin))) || (decide ((((lget (cut ops (IntKind.i64.wrap ((vget s.Vector_ ((origin).toNat) default) - seq)) ((ops).length : Int)) s2.t66 default).Stamp).Time) ≤ s2.last))) || (decide ((((lget (cut ops (IntKind.i64.wrap ((vget s.Vector_ ((origin).toNat) default) - seq)) ((ops).length : Int)) s2.t66 default).Stamp).Time) ≤ s.Frontier))) then
 (some s2.l)
 else
 (bif (lenB ((s2.l).length + ([(⟨((lget (cut ops (IntKind.i64.wrap ((vget s.Vector_ ((origin).toNat) default) - seq)) ((ops).length : Int)) s2.t66 default).Stamp), (lget (cut ops (IntKind.i64.wrap ((vget s.Vector_ ((origin).toNat) default) - seq)) ((ops).length : Int)) s2.t66 default).Kind, (lget (cut ops (IntKind.i64.wrap ((vget s.Vector_ ((origin).toNat) default) - seq)) ((ops).length : Int)) s2.t66 default).Node, (lget (cut ops (IntKind.i64.wrap ((vget s.Vector_ ((origin).toNat) default) - seq)) ((ops).length : Int)) s2.t66 default).Parent, (lget (cut ops (IntKind.i64.wrap ((vget s.Vector_ ((origin).toNat) default) - seq)) ((ops).length : Int)) s2.t66 default).Name, (lget (cut ops (IntKind.i64.wrap ((vget s.Vector_ ((origin).toNat) default) - seq)) ((ops).length : Int)) s2.t66 default).Key, (lget (cut ops (IntKind.i64.wrap ((vget s.Vector_ ((origin).toNat) default) - seq)) ((ops).length : Int)) s2.t66 default).Value⟩ : GOp)]).length) 88) then
 (next3 ⟨(s2.l ++ [(⟨((lget (cut ops (IntKind.i64.wrap ((vget s.Vector_ ((origin).toNat) default) - seq)) ((ops).length : Int)) s2.t66 default).Stamp), (lget (cut ops (IntKind.i64.wrap ((vget s.Vector_ ((origin).toNat) default) - seq)) ((ops).length : Int)) s2.t66 default).Kind, (lget (cut ops (IntKind.i64.wrap ((vget s.Vector_ ((origin).toNat) default) - seq)) ((ops).length : Int)) s2.t66 default).Node, (lget (cut ops (IntKind.i64.wrap ((vget s.Vector_ ((origin).toNat) default) - seq)) ((ops).length : Int)) s2.t66 default).Parent, (lget (cut ops (IntKind.i64.wrap ((vget s.Vector_ ((origin).toNat) default) - seq)) ((ops).length : Int)) s2.t66 default).Name, (lget (cut ops (IntKind.i64.wrap ((vget s.Vector_ ((origin).toNat) default) - seq)) ((ops).length : Int)) s2.t66 default).Key, (lget (cut ops (IntKind.i64.wrap ((vget s.Vector_ ((origin).toNat) default) - seq)) ((ops).length : Int)) s2.t66 default).Value⟩ : GOp)]), ((lget (cut ops (IntKind.i64.wrap ((vget s.Vector_ ((origin).toNat) default) - seq)) ((ops).length : Int)) s2.t66 default).Stamp).Time, (IntKind.i64.wrap (s2.t66 + 1))⟩)
 else none)))
 else none)
 else none)
 else none)
 else
 (some s2.l))) ⟨[], (vget s.Last ((origin).toNat) default), 0⟩)
 else none)
 else none))
 else none))
 else none))
def conexchange_Take : Con τ := { args := [.ty 34, .ty 3, .ty 2, .ty 28], L := [], ret := .ty 28, L' := [], R := (List (GOp)), dflt := default, F := fun N a b => Fexchange_Take N a.1 a.2.1 a.2.2.1 a.2.2.2.1, of := fun r => (r, ()) }
noncomputable def datexchange_Take : Dat τ := { D := D0, tbl := tblOf [(33, conexchange_site), (34, constamp_CheckOp)], lp := lpsOf [(9, lpexchange_Takex9)], k0 := 0, mu := [], un := [] }
theorem okexchange_Take : ConOk E C 12 conexchange_Take :=
  con_ok (D := datexchange_Take) ⟨d0Ok, eGood, tblOf_ok ⟨okexchange_site, ⟨okstamp_CheckOp, trivial⟩⟩, fun _ => rfl⟩ conexchange_Take (fun a b => a) none (fun _ _ => rfl) rfl (fun _ _ h => nomatch h) 1000000 (fn := Try.f12) Try.func12 rfl (by kernel_rfl) (by kernel_rfl) rfl (by intro N a b; kernel_rfl)
def Flaw16_begun (N : Nat)  : Option (Bool) :=
 ((Fexchange_Peers N (⟨0, 0, false, (⟨0, (vset (Vector.replicate 8 (default : Int)) 1 1), (Vector.replicate 8 (default : Int)), (Vector.replicate 8 (default : Int))⟩ : GEpoch), 0, (Vector.replicate 8 (default : Int)), (Vector.replicate 8 (default : Int)), [], [], 0, (Vector.replicate 8 (default : Int)), (Vector.replicate 8 (default : List (GOp))), (Vector.replicate 8 (default : Vector (Int) 8)), (Vector.replicate 8 (default : Int)), (Vector.replicate 8 (default : Int)), (Vector.replicate 8 (default : Int)), [], []⟩ : GSnap)).bind fun r1 =>
 (bif (!(((r1).length : Int) == 1) || (ibB 0 ((r1).length : Int))) then
 ((bif ((((r1).length : Int) == 1) && ((lget r1 0 default) == 1)) then Fexchange_Take N (⟨0, 0, false, (⟨0, (vset (Vector.replicate 8 (default : Int)) 1 1), (Vector.replicate 8 (default : Int)), (Vector.replicate 8 (default : Int))⟩ : GEpoch), 0, (Vector.replicate 8 (default : Int)), (Vector.replicate 8 (default : Int)), [], [], 0, (Vector.replicate 8 (default : Int)), (Vector.replicate 8 (default : List (GOp))), (Vector.replicate 8 (default : Vector (Int) 8)), (Vector.replicate 8 (default : Int)), (Vector.replicate 8 (default : Int)), (Vector.replicate 8 (default : Int)), [], []⟩ : GSnap) 1 0 [(⟨(⟨1, 1⟩ : GStamp), 1, 25, 1, [97], [], []⟩ : GOp)] else some default).bind fun r2 =>
 (some (((((r1).length : Int) == 1) && ((lget r1 0 default) == 1)) && (((r2).length : Int) == 1))))
 else none))
def conlaw16_begun : Con τ := { args := [], L := [], ret := .ty 4, L' := [], R := Bool, dflt := default, F := fun N a b => Flaw16_begun N , of := fun r => (r, ()) }
noncomputable def datlaw16_begun : Dat τ := { D := D0, tbl := tblOf [(17, conexchange_Peers), (12, conexchange_Take)], lp := lpsOf [], k0 := 0, mu := [], un := [] }
theorem oklaw16_begun : ConOk E C 10 conlaw16_begun :=
  con_ok (D := datlaw16_begun) ⟨d0Ok, eGood, tblOf_ok ⟨okexchange_Peers, ⟨okexchange_Take, trivial⟩⟩, fun _ => rfl⟩ conlaw16_begun (fun a b => a) none (fun _ _ => rfl) rfl (fun _ _ h => nomatch h) 1000000 (fn := Try.f10) Try.func10 rfl (by kernel_rfl) (by kernel_rfl) rfl (by intro N a b; kernel_rfl)
def Fref16_site (N : Nat) (n : Int) : Option (Bool) :=
 (some ((decide (0 ≤ n)) && (decide (n < 8))))
def conref16_site : Con τ := { args := [.ty 3], L := [], ret := .ty 4, L' := [], R := Bool, dflt := default, F := fun N a b => Fref16_site N a.1, of := fun r => (r, ()) }
noncomputable def datref16_site : Dat τ := { D := D0, tbl := tblOf [], lp := lpsOf [], k0 := 0, mu := [], un := [] }
theorem okref16_site : ConOk E C 35 conref16_site :=
  con_ok (D := datref16_site) ⟨d0Ok, eGood, tblOf_ok trivial, fun _ => rfl⟩ conref16_site (fun a b => a) none (fun _ _ => rfl) rfl (fun _ _ h => nomatch h) 1000000 (fn := Try.f35) Try.func35 rfl (by kernel_rfl) (by kernel_rfl) rfl (by intro N a b; kernel_rfl)
structure Sexchange_addrsx2 where
  t7 : Int
def tsexchange_addrsx2 : List Sl := [.k, .k, .j, .k, .j, .k, .k, .sh (.ty 2), .j, .j, .j, .j, .j, .j, .j, .j, .j, .j, .j, .j, .j, .j, .j, .j, .j, .j, .j, .j, .j, .j]
def hsexchange_addrsx2 : List ESh := []
def toexchange_addrsx2 (a : Sl.Ts τ tsexchange_addrsx2) (b : ESh.Ts τ hsexchange_addrsx2) : Sexchange_addrsx2 := ⟨a.2.2.2.2.2.2.2.1⟩
def otexchange_addrsx2 (s : Sexchange_addrsx2) : Sl.Ts τ tsexchange_addrsx2 := ((), (), (), (), (), (), (), s.t7, (), (), (), (), (), (), (), (), (), (), (), (), (), (), (), (), (), (), (), (), (), (), ())
def ohexchange_addrsx2 (s : Sexchange_addrsx2) : ESh.Ts τ hsexchange_addrsx2 := ()
def lpexchange_addrsx2 : Lp τ := { ts := tsexchange_addrsx2, hs := hsexchange_addrsx2, S := Sexchange_addrsx2, to := toexchange_addrsx2, ot := otexchange_addrsx2, oh := ohexchange_addrsx2, hk := [], tk := [], ot_to := fun _ _ => rfl, oh_to := fun _ _ => rfl }
def Fexchange_addrs (N : Nat) (l : List (GAddr)) : Option (Bool) :=
 (iter N (fun (s1 : Sexchange_addrsx2) next2 =>
 (bif (decide (s1.t7 < ((l).length : Int))) then
 (bif (ibB s1.t7 ((l).length : Int)) then
 (bif ((((decide (((lget l s1.t7 default).Group) < 0)) || (decide (9 ≤ ((lget l s1.t7 default).Group)))) || (decide (((lget l s1.t7 default).Replica) < 0))) || (decide (5 ≤ ((lget l s1.t7 default).Replica)))) then
 (some false)
 else
 (next2 ⟨(IntKind.i64.wrap (s1.t7 + 1))⟩))
 else none)
 else
 (some true))) ⟨0⟩)
def conexchange_addrs : Con τ := { args := [.ty 107], L := [], ret := .ty 4, L' := [], R := Bool, dflt := default, F := fun N a b => Fexchange_addrs N a.1, of := fun r => (r, ()) }
noncomputable def datexchange_addrs : Dat τ := { D := D0, tbl := tblOf [], lp := lpsOf [(2, lpexchange_addrsx2)], k0 := 0, mu := [], un := [] }
theorem okexchange_addrs : ConOk E C 37 conexchange_addrs :=
  con_ok (D := datexchange_addrs) ⟨d0Ok, eGood, tblOf_ok trivial, fun _ => rfl⟩ conexchange_addrs (fun a b => a) none (fun _ _ => rfl) rfl (fun _ _ h => nomatch h) 1000000 (fn := Try.f37) Try.func37 rfl (by kernel_rfl) (by kernel_rfl) rfl (by intro N a b; kernel_rfl)
def Fexchange_Known (N : Nat) (s : GSnap) (from_ : GAddr) (to : GAddr) : Option (GMsg × Int) :=
 ((Fexchange_addrs N [from_, to]).bind fun r1 =>
 (bif (!r1) then
 (some ((⟨0, (⟨0, 0⟩ : GAddr), (⟨0, 0⟩ : GAddr), (⟨0, 0⟩ : GBallot), 0, [], (⟨0, 0, 0, (⟨(⟨0, 0⟩ : GStamp), 0, 0, 0, [], [], []⟩ : GOp), 0, 0, [], (⟨0, (Vector.replicate 8 (default : Int)), (Vector.replicate 8 (default : Int)), (Vector.replicate 8 (default : Int))⟩ : GEpoch), 0, (Vector.replicate 8 (default : Int)), 0, (⟨0, 0, 0, []⟩ : GPart), 0, 0, 0⟩ : GEntry), 0, (Vector.replicate 8 (default : Int)), 0, 0, [], (⟨0, (Vector.replicate 8 (default : Int)), (Vector.replicate 8 (default : Int)), (Vector.replicate 8 (default : Int))⟩ : GEpoch), (⟨0, 0, 0, []⟩ : GPart)⟩ : GMsg), 1))
 else
 (some ((⟨10, from_, to, (⟨0, 0⟩ : GBallot), 0, [], (⟨0, 0, 0, (⟨(⟨0, 0⟩ : GStamp), 0, 0, 0, [], [], []⟩ : GOp), 0, 0, [], (⟨0, (Vector.replicate 8 (default : Int)), (Vector.replicate 8 (default : Int)), (Vector.replicate 8 (default : Int))⟩ : GEpoch), 0, (Vector.replicate 8 (default : Int)), 0, (⟨0, 0, 0, []⟩ : GPart), 0, 0, 0⟩ : GEntry), s.Epoch.Number, s.Vector_, s.Clock, 0, [], (⟨0, (Vector.replicate 8 (default : Int)), (Vector.replicate 8 (default : Int)), (Vector.replicate 8 (default : Int))⟩ : GEpoch), (⟨0, 0, 0, []⟩ : GPart)⟩ : GMsg), 0))))
def conexchange_Known : Con τ := { args := [.ty 34, .ty 45, .ty 45], L := [], ret := .tup [.ty 55, .ty 56], L' := [], R := GMsg × Int, dflt := (default, default), F := fun N a b => Fexchange_Known N a.1 a.2.1 a.2.2.1, of := fun r => ((r.1, r.2, ()), ()) }
noncomputable def datexchange_Known : Dat τ := { D := D0, tbl := tblOf [(37, conexchange_addrs)], lp := lpsOf [], k0 := 0, mu := [], un := [] }
theorem okexchange_Known : ConOk E C 14 conexchange_Known :=
  con_ok (D := datexchange_Known) ⟨d0Ok, eGood, tblOf_ok ⟨okexchange_addrs, trivial⟩, fun _ => rfl⟩ conexchange_Known (fun a b => (a.1, a.2.1)) none (fun _ _ => rfl) rfl (fun _ _ h => nomatch h) 1000000 (fn := Try.f14) Try.func14 rfl (by kernel_rfl) (by kernel_rfl) rfl (by intro N a b; kernel_rfl)
def Fref04_MayAddr (N : Nat) (a : GAddr) : Option (Bool) :=
 (some ((((decide (0 ≤ a.Group)) && (decide (a.Group < 9))) && (decide (0 ≤ a.Replica))) && (decide (a.Replica < 5))))
def conref04_MayAddr : Con τ := { args := [.ty 45], L := [], ret := .ty 4, L' := [], R := Bool, dflt := default, F := fun N a b => Fref04_MayAddr N a.1, of := fun r => (r, ()) }
noncomputable def datref04_MayAddr : Dat τ := { D := D0, tbl := tblOf [], lp := lpsOf [], k0 := 0, mu := [], un := [] }
theorem okref04_MayAddr : ConOk E C 38 conref04_MayAddr :=
  con_ok (D := datref04_MayAddr) ⟨d0Ok, eGood, tblOf_ok trivial, fun _ => rfl⟩ conref04_MayAddr (fun a b => a) none (fun _ _ => rfl) rfl (fun _ _ h => nomatch h) 1000000 (fn := Try.f38) Try.func38 rfl (by kernel_rfl) (by kernel_rfl) rfl (by intro N a b; kernel_rfl)
def Fref16_Known (N : Nat) (s : GSnap) (from_ : GAddr) (to : GAddr) : Option (GMsg × Int) :=
 ((Fref04_MayAddr N from_).bind fun r1 =>
 ((bif (!(!r1)) then Fref04_MayAddr N to else some default).bind fun r2 =>
 (bif ((!r1) || (!r2)) then
 (some ((⟨0, (⟨0, 0⟩ : GAddr), (⟨0, 0⟩ : GAddr), (⟨0, 0⟩ : GBallot), 0, [], (⟨0, 0, 0, (⟨(⟨0, 0⟩ : GStamp), 0, 0, 0, [], [], []⟩ : GOp), 0, 0, [], (⟨0, (Vector.replicate 8 (default : Int)), (Vector.replicate 8 (default : Int)), (Vector.replicate 8 (default : Int))⟩ : GEpoch), 0, (Vector.replicate 8 (default : Int)), 0, (⟨0, 0, 0, []⟩ : GPart), 0, 0, 0⟩ : GEntry), 0, (Vector.replicate 8 (default : Int)), 0, 0, [], (⟨0, (Vector.replicate 8 (default : Int)), (Vector.replicate 8 (default : Int)), (Vector.replicate 8 (default : Int))⟩ : GEpoch), (⟨0, 0, 0, []⟩ : GPart)⟩ : GMsg), 1))
 else
 (some ((⟨10, from_, to, (⟨0, 0⟩ : GBallot), 0, [], (⟨0, 0, 0, (⟨(⟨0, 0⟩ : GStamp), 0, 0, 0, [], [], []⟩ : GOp), 0, 0, [], (⟨0, (Vector.replicate 8 (default : Int)), (Vector.replicate 8 (default : Int)), (Vector.replicate 8 (default : Int))⟩ : GEpoch), 0, (Vector.replicate 8 (default : Int)), 0, (⟨0, 0, 0, []⟩ : GPart), 0, 0, 0⟩ : GEntry), s.Epoch.Number, s.Vector_, s.Clock, 0, [], (⟨0, (Vector.replicate 8 (default : Int)), (Vector.replicate 8 (default : Int)), (Vector.replicate 8 (default : Int))⟩ : GEpoch), (⟨0, 0, 0, []⟩ : GPart)⟩ : GMsg), 0)))))
def conref16_Known : Con τ := { args := [.ty 34, .ty 45, .ty 45], L := [], ret := .tup [.ty 55, .ty 56], L' := [], R := GMsg × Int, dflt := (default, default), F := fun N a b => Fref16_Known N a.1 a.2.1 a.2.2.1, of := fun r => ((r.1, r.2, ()), ()) }
noncomputable def datref16_Known : Dat τ := { D := D0, tbl := tblOf [(38, conref04_MayAddr)], lp := lpsOf [], k0 := 0, mu := [], un := [] }
theorem okref16_Known : ConOk E C 15 conref16_Known :=
  con_ok (D := datref16_Known) ⟨d0Ok, eGood, tblOf_ok ⟨okref04_MayAddr, trivial⟩, fun _ => rfl⟩ conref16_Known (fun a b => (a.1, a.2.1)) none (fun _ _ => rfl) rfl (fun _ _ h => nomatch h) 1000000 (fn := Try.f15) Try.func15 rfl (by kernel_rfl) (by kernel_rfl) rfl (by intro N a b; kernel_rfl)
def Fref16_Member (N : Nat) (e : GEpoch) (n : Int) : Option (Bool) :=
 ((Fref16_site N n).bind fun r1 =>
 (bif (!r1 || (ibB n 8)) then
 (bif (!(r1 && (!((vget e.States ((n).toNat) default) == 1))) || (ibB n 8)) then
 (some (r1 && (((vget e.States ((n).toNat) default) == 1) || ((vget e.States ((n).toNat) default) == 2))))
 else none)
 else none))
def conref16_Member : Con τ := { args := [.ty 26, .ty 3], L := [], ret := .ty 4, L' := [], R := Bool, dflt := default, F := fun N a b => Fref16_Member N a.1 a.2.1, of := fun r => (r, ()) }
noncomputable def datref16_Member : Dat τ := { D := D0, tbl := tblOf [(35, conref16_site)], lp := lpsOf [], k0 := 0, mu := [], un := [] }
theorem okref16_Member : ConOk E C 40 conref16_Member :=
  con_ok (D := datref16_Member) ⟨d0Ok, eGood, tblOf_ok ⟨okref16_site, trivial⟩, fun _ => rfl⟩ conref16_Member (fun a b => a) none (fun _ _ => rfl) rfl (fun _ _ h => nomatch h) 1000000 (fn := Try.f40) Try.func40 rfl (by kernel_rfl) (by kernel_rfl) rfl (by intro N a b; kernel_rfl)
structure Sref16_Peersx3 where
  l : List (Int)
  i : Int
def tsref16_Peersx3 : List Sl := [.k, .k, .k, .sh (.own 3 1), .sh (.ty 2), .j, .j, .j, .j, .j, .j, .j, .j, .j, .j, .j, .j, .j, .j, .j, .j, .j, .j, .k]
def hsref16_Peersx3 : List ESh := [.keep, .tail]
def toref16_Peersx3 (a : Sl.Ts τ tsref16_Peersx3) (b : ESh.Ts τ hsref16_Peersx3) : Sref16_Peersx3 := ⟨a.2.2.2.1, a.2.2.2.2.1⟩
def otref16_Peersx3 (s : Sref16_Peersx3) : Sl.Ts τ tsref16_Peersx3 := ((), (), (), s.l, s.i, (), (), (), (), (), (), (), (), (), (), (), (), (), (), (), (), (), (), (), ())
def ohref16_Peersx3 (s : Sref16_Peersx3) : ESh.Ts τ hsref16_Peersx3 := ((), (), ())
def lpref16_Peersx3 : Lp τ := { ts := tsref16_Peersx3, hs := hsref16_Peersx3, S := Sref16_Peersx3, to := toref16_Peersx3, ot := otref16_Peersx3, oh := ohref16_Peersx3, hk := [2], tk := [0, 2], ot_to := fun _ _ => rfl, oh_to := fun _ _ => rfl }
def Fref16_Peers (N : Nat) (s : GSnap) : Option ((List (Int))) :=
 (iter N (fun (s1 : Sref16_Peersx3) next2 =>
 (bif (decide (s1.i < 8)) then
 ((bif (!(s1.i == s.Site)) then Fref16_Member N s.Epoch s1.i else some default).bind fun r3 =>
 (bif ((!(s1.i == s.Site)) && r3) then
 (bif (lenB ((s1.l).length + ([s1.i]).length) 8) then
 (next2 ⟨(s1.l ++ [s1.i]), (IntKind.i64.wrap (s1.i + 1))⟩)
 else none)
 else
 (next2 ⟨s1.l, (IntKind.i64.wrap (s1.i + 1))⟩)))
 else
 (some s1.l))) ⟨[], 0⟩)
def conref16_Peers : Con τ := { args := [.ty 34], L := [], ret := .ty 60, L' := [], R := (List (Int)), dflt := default, F := fun N a b => Fref16_Peers N a.1, of := fun r => (r, ()) }
noncomputable def datref16_Peers : Dat τ := { D := D0, tbl := tblOf [(40, conref16_Member)], lp := lpsOf [(3, lpref16_Peersx3)], k0 := 0, mu := [], un := [] }
theorem okref16_Peers : ConOk E C 18 conref16_Peers :=
  con_ok (D := datref16_Peers) ⟨d0Ok, eGood, tblOf_ok ⟨okref16_Member, trivial⟩, fun _ => rfl⟩ conref16_Peers (fun a b => a) none (fun _ _ => rfl) rfl (fun _ _ h => nomatch h) 1000000 (fn := Try.f18) Try.func18 rfl (by kernel_rfl) (by kernel_rfl) rfl (by intro N a b; kernel_rfl)
structure Slaw16_intsx4 where
  t13 : Int
def tslaw16_intsx4 : List Sl := [.k, .k, .k, .k, .j, .j, .k, .k, .k, .k, .k, .k, .k, .sh (.ty 2), .j, .j, .j, .j, .j, .j, .j, .j, .j, .j, .j, .j]
def hslaw16_intsx4 : List ESh := []
def tolaw16_intsx4 (a : Sl.Ts τ tslaw16_intsx4) (b : ESh.Ts τ hslaw16_intsx4) : Slaw16_intsx4 := ⟨a.2.2.2.2.2.2.2.2.2.2.2.2.2.1⟩
def otlaw16_intsx4 (s : Slaw16_intsx4) : Sl.Ts τ tslaw16_intsx4 := ((), (), (), (), (), (), (), (), (), (), (), (), (), s.t13, (), (), (), (), (), (), (), (), (), (), (), (), ())
def ohlaw16_intsx4 (s : Slaw16_intsx4) : ESh.Ts τ hslaw16_intsx4 := ()
def lplaw16_intsx4 : Lp τ := { ts := tslaw16_intsx4, hs := hslaw16_intsx4, S := Slaw16_intsx4, to := tolaw16_intsx4, ot := otlaw16_intsx4, oh := ohlaw16_intsx4, hk := [], tk := [], ot_to := fun _ _ => rfl, oh_to := fun _ _ => rfl }
def Flaw16_ints (N : Nat) (a : List (Int)) (b : List (Int)) : Option (Bool) :=
 (bif (!(((a).length : Int) == ((b).length : Int))) then
 (some false)
 else
 (iter N (fun (s1 : Slaw16_intsx4) next2 =>
 (bif (decide (s1.t13 < ((a).length : Int))) then
 (bif (ibB s1.t13 ((a).length : Int)) then
 (bif (ibB s1.t13 ((b).length : Int)) then
 (bif (!((lget a s1.t13 default) == (lget b s1.t13 default))) then
 (some false)
 else
 (next2 ⟨(IntKind.i64.wrap (s1.t13 + 1))⟩))
 else none)
 else none)
 else
 (some true))) ⟨0⟩))
def conlaw16_ints : Con τ := { args := [.ty 60, .ty 60], L := [], ret := .ty 4, L' := [], R := Bool, dflt := default, F := fun N a b => Flaw16_ints N a.1 a.2.1, of := fun r => (r, ()) }
noncomputable def datlaw16_ints : Dat τ := { D := D0, tbl := tblOf [], lp := lpsOf [(4, lplaw16_intsx4)], k0 := 0, mu := [], un := [] }
theorem oklaw16_ints : ConOk E C 16 conlaw16_ints :=
  con_ok (D := datlaw16_ints) ⟨d0Ok, eGood, tblOf_ok trivial, fun _ => rfl⟩ conlaw16_ints (fun a b => a) none (fun _ _ => rfl) rfl (fun _ _ h => nomatch h) 1000000 (fn := Try.f16) Try.func16 rfl (by kernel_rfl) (by kernel_rfl) rfl (by intro N a b; kernel_rfl)
structure Sref04_sameOpsx4 where
  i : Int
def tsref04_sameOpsx4 : List Sl := [.k, .k, .k, .k, .j, .sh (.ty 2), .k, .k, .k, .k, .k, .j, .j, .j, .j, .j, .j, .j, .j, .j, .j, .j, .j, .j, .j, .j]
def hsref04_sameOpsx4 : List ESh := []
def toref04_sameOpsx4 (a : Sl.Ts τ tsref04_sameOpsx4) (b : ESh.Ts τ hsref04_sameOpsx4) : Sref04_sameOpsx4 := ⟨a.2.2.2.2.2.1⟩
def otref04_sameOpsx4 (s : Sref04_sameOpsx4) : Sl.Ts τ tsref04_sameOpsx4 := ((), (), (), (), (), s.i, (), (), (), (), (), (), (), (), (), (), (), (), (), (), (), (), (), (), (), (), ())
def ohref04_sameOpsx4 (s : Sref04_sameOpsx4) : ESh.Ts τ hsref04_sameOpsx4 := ()
def lpref04_sameOpsx4 : Lp τ := { ts := tsref04_sameOpsx4, hs := hsref04_sameOpsx4, S := Sref04_sameOpsx4, to := toref04_sameOpsx4, ot := otref04_sameOpsx4, oh := ohref04_sameOpsx4, hk := [], tk := [], ot_to := fun _ _ => rfl, oh_to := fun _ _ => rfl }
def Fref04_sameOps (N : Nat) (a : List (GOp)) (b : List (GOp)) : Option (Bool) :=
 (bif (!(((a).length : Int) == ((b).length : Int))) then
 (some false)
 else
 (iter N (fun (s1 : Sref04_sameOpsx4) next2 =>
 (bif (decide (s1.i < ((a).length : Int))) then
 (bif (ibB s1.i ((a).length : Int)) then
 (bif (ibB s1.i ((b).length : Int)) then
 (bif (!((((((lget a s1.i default).Stamp).Time) == (((lget b s1.i default).Stamp).Time)) && ((((lget a s1.i default).Stamp).Site) == (((lget b s1.i default).Stamp).Site))) && ((((lget a s1.i default).Kind) == ((lget b s1.i default).Kind)) && ((((lget a s1.i default).Node) == ((lget b s1.i default).Node)) && ((((lget a s1.i default).Parent) == ((lget b s1.i default).Parent)) && ((((lget a s1.i default).Name) == ((lget b s1.i default).Name)) && ((((lget a s1.i default).Key) == ((lget b s1.i default).Key)) && (((lget a s1.i default).Value) == ((lget b s1.i default).Value))))))))) then
 (some false)
 else
 (next2 ⟨(IntKind.i64.wrap (s1.i + 1))⟩))
 else none)
 else none)
 else
 (some true))) ⟨0⟩))
def conref04_sameOps : Con τ := { args := [.ty 28, .ty 28], L := [], ret := .ty 4, L' := [], R := Bool, dflt := default, F := fun N a b => Fref04_sameOps N a.1 a.2.1, of := fun r => (r, ()) }
noncomputable def datref04_sameOps : Dat τ := { D := D0, tbl := tblOf [], lp := lpsOf [(4, lpref04_sameOpsx4)], k0 := 0, mu := [], un := [] }
theorem okref04_sameOps : ConOk E C 42 conref04_sameOps :=
  con_ok (D := datref04_sameOps) ⟨d0Ok, eGood, tblOf_ok trivial, fun _ => rfl⟩ conref04_sameOps (fun a b => a) none (fun _ _ => rfl) rfl (fun _ _ h => nomatch h) 1000000 (fn := Try.f42) Try.func42 rfl (by kernel_rfl) (by kernel_rfl) rfl (by intro N a b; kernel_rfl)
def Fref04_SamePart (N : Nat) (a : GPart) (b : GPart) : Option (Bool) :=
 (some ((((a.Snap == b.Snap) && (a.Index == b.Index)) && (a.Many == b.Many)) && ((strI a.Data) == (strI b.Data))))
def conref04_SamePart : Con τ := { args := [.ty 51, .ty 51], L := [], ret := .ty 4, L' := [], R := Bool, dflt := default, F := fun N a b => Fref04_SamePart N a.1 a.2.1, of := fun r => (r, ()) }
noncomputable def datref04_SamePart : Dat τ := { D := D0, tbl := tblOf [], lp := lpsOf [], k0 := 0, mu := [], un := [] }
theorem okref04_SamePart : ConOk E C 43 conref04_SamePart :=
  con_ok (D := datref04_SamePart) ⟨d0Ok, eGood, tblOf_ok trivial, fun _ => rfl⟩ conref04_SamePart (fun a b => a) none (fun _ _ => rfl) rfl (fun _ _ h => nomatch h) 1000000 (fn := Try.f43) Try.func43 rfl (by kernel_rfl) (by kernel_rfl) rfl (by intro N a b; kernel_rfl)
def Fref04_SameEntry (N : Nat) (a : GEntry) (b : GEntry) : Option (Bool) :=
 ((bif ((((((a.Kind == b.Kind) && (a.Session == b.Session)) && (a.Request == b.Request)) && (((a.Op.Stamp.Time == b.Op.Stamp.Time) && (a.Op.Stamp.Site == b.Op.Stamp.Site)) && ((a.Op.Kind == b.Op.Kind) && ((a.Op.Node == b.Op.Node) && ((a.Op.Parent == b.Op.Parent) && ((a.Op.Name == b.Op.Name) && ((a.Op.Key == b.Op.Key) && (a.Op.Value == b.Op.Value)))))))) && (a.Origin == b.Origin)) && (a.Seq == b.Seq)) then Fref04_sameOps N a.Ops b.Ops else some default).bind fun r1 =>
 ((bif (((((((((((a.Kind == b.Kind) && (a.Session == b.Session)) && (a.Request == b.Request)) && (((a.Op.Stamp.Time == b.Op.Stamp.Time) && (a.Op.Stamp.Site == b.Op.Stamp.Site)) && ((a.Op.Kind == b.Op.Kind) && ((a.Op.Node == b.Op.Node) && ((a.Op.Parent == b.Op.Parent) && ((a.Op.Name == b.Op.Name) && ((a.Op.Key == b.Op.Key) && (a.Op.Value == b.Op.Value)))))))) && (a.Origin == b.Origin)) && (a.Seq == b.Seq)) && r1) && ((a.Epoch.Number == b.Epoch.Number) && ((vbeq beq3 a.Epoch.States b.Epoch.States) && ((vbeq beq2 a.Epoch.Seals b.Epoch.Seals) && (vbeq beq3 a.Epoch.Sponsor b.Epoch.Sponsor))))) && (a.From == b.From)) && (vbeq beq2 a.Vector_ b.Vector_)) && (a.Clock == b.Clock)) then Fref04_SamePart N a.Part b.Part else some default).bind fun r2 =>
 (some (((((((((((((((a.Kind == b.Kind) && (a.Session == b.Session)) && (a.Request == b.Request)) && (((a.Op.Stamp.Time == b.Op.Stamp.Time) && (a.Op.Stamp.Site == b.Op.Stamp.Site)) && ((a.Op.Kind == b.Op.Kind) && ((a.Op.Node == b.Op.Node) && ((a.Op.Parent == b.Op.Parent) && ((a.Op.Name == b.Op.Name) && ((a.Op.Key == b.Op.Key) && (a.Op.Value == b.Op.Value)))))))) && (a.Origin == b.Origin)) && (a.Seq == b.Seq)) && r1) && ((a.Epoch.Number == b.Epoch.Number) && ((vbeq beq3 a.Epoch.States b.Epoch.States) && ((vbeq beq2 a.Epoch.Seals b.Epoch.Seals) && (vbeq beq3 a.Epoch.Sponsor b.Epoch.Sponsor))))) && (a.From == b.From)) && (vbeq beq2 a.Vector_ b.Vector_)) && (a.Clock == b.Clock)) && r2) && (a.Site == b.Site)) && (a.Sponsor == b.Sponsor)) && (a.Length == b.Length)))))
def conref04_SameEntry : Con τ := { args := [.ty 53, .ty 53], L := [], ret := .ty 4, L' := [], R := Bool, dflt := default, F := fun N a b => Fref04_SameEntry N a.1 a.2.1, of := fun r => (r, ()) }
noncomputable def datref04_SameEntry : Dat τ := { D := D0, tbl := tblOf [(42, conref04_sameOps), (43, conref04_SamePart)], lp := lpsOf [], k0 := 0, mu := [], un := [] }
theorem okref04_SameEntry : ConOk E C 27 conref04_SameEntry :=
  con_ok (D := datref04_SameEntry) ⟨d0Ok, eGood, tblOf_ok ⟨okref04_sameOps, ⟨okref04_SamePart, trivial⟩⟩, fun _ => rfl⟩ conref04_SameEntry (fun a b => a) none (fun _ _ => rfl) rfl (fun _ _ h => nomatch h) 1000000 (fn := Try.f27) Try.func27 rfl (by kernel_rfl) (by kernel_rfl) rfl (by intro N a b; kernel_rfl)
def Fref04_SameSlotted (N : Nat) (a : GSlotted) (b : GSlotted) : Option (Bool) :=
 ((bif ((a.Slot == b.Slot) && ((a.Ballot.Round == b.Ballot.Round) && (a.Ballot.Replica == b.Ballot.Replica))) then Fref04_SameEntry N a.Entry b.Entry else some default).bind fun r1 =>
 (some (((a.Slot == b.Slot) && ((a.Ballot.Round == b.Ballot.Round) && (a.Ballot.Replica == b.Ballot.Replica))) && r1)))
def conref04_SameSlotted : Con τ := { args := [.ty 101, .ty 101], L := [], ret := .ty 4, L' := [], R := Bool, dflt := default, F := fun N a b => Fref04_SameSlotted N a.1 a.2.1, of := fun r => (r, ()) }
noncomputable def datref04_SameSlotted : Dat τ := { D := D0, tbl := tblOf [(27, conref04_SameEntry)], lp := lpsOf [], k0 := 0, mu := [], un := [] }
theorem okref04_SameSlotted : ConOk E C 66 conref04_SameSlotted :=
  con_ok (D := datref04_SameSlotted) ⟨d0Ok, eGood, tblOf_ok ⟨okref04_SameEntry, trivial⟩, fun _ => rfl⟩ conref04_SameSlotted (fun a b => a) none (fun _ _ => rfl) rfl (fun _ _ h => nomatch h) 1000000 (fn := Try.f66) Try.func66 rfl (by kernel_rfl) (by kernel_rfl) rfl (by intro N a b; kernel_rfl)
structure Sref04_SameListx4 where
  i : Int
def tsref04_SameListx4 : List Sl := [.k, .k, .k, .k, .j, .sh (.ty 2), .k, .k, .k, .k, .k, .j, .j, .j, .j, .j, .j, .j, .j, .j, .j, .j, .j, .j, .j, .j, .j]
def hsref04_SameListx4 : List ESh := []
def toref04_SameListx4 (a : Sl.Ts τ tsref04_SameListx4) (b : ESh.Ts τ hsref04_SameListx4) : Sref04_SameListx4 := ⟨a.2.2.2.2.2.1⟩
def otref04_SameListx4 (s : Sref04_SameListx4) : Sl.Ts τ tsref04_SameListx4 := ((), (), (), (), (), s.i, (), (), (), (), (), (), (), (), (), (), (), (), (), (), (), (), (), (), (), (), (), ())
def ohref04_SameListx4 (s : Sref04_SameListx4) : ESh.Ts τ hsref04_SameListx4 := ()
def lpref04_SameListx4 : Lp τ := { ts := tsref04_SameListx4, hs := hsref04_SameListx4, S := Sref04_SameListx4, to := toref04_SameListx4, ot := otref04_SameListx4, oh := ohref04_SameListx4, hk := [], tk := [], ot_to := fun _ _ => rfl, oh_to := fun _ _ => rfl }
def Fref04_SameList (N : Nat) (a : List (GSlotted)) (b : List (GSlotted)) : Option (Bool) :=
 (bif (!(((a).length : Int) == ((b).length : Int))) then
 (some false)
 else
 (iter N (fun (s1 : Sref04_SameListx4) next2 =>
 (bif (decide (s1.i < ((a).length : Int))) then
 (bif (ibB s1.i ((a).length : Int)) then
 (bif (ibB s1.i ((b).length : Int)) then
 ((Fref04_SameSlotted N (⟨(lget a s1.i default).Slot, ((lget a s1.i default).Ballot), (⟨((lget a s1.i default).Entry).Kind, ((lget a s1.i default).Entry).Session, ((lget a s1.i default).Entry).Request, (⟨((((lget a s1.i default).Entry).Op).Stamp), (((lget a s1.i default).Entry).Op).Kind, (((lget a s1.i default).Entry).Op).Node, (((lget a s1.i default).Entry).Op).Parent, (((lget a s1.i default).Entry).Op).Name, (((lget a s1.i default).Entry).Op).Key, (((lget a s1.i default).Entry).Op).Value⟩ : GOp), ((lget a s1.i default).Entry).Origin, ((lget a s1.i default).Entry).Seq, ((lget a s1.i default).Entry).Ops, (((lget a s1.i default).Entry).Epoch), ((lget a s1.i default).Entry).From, ((lget a s1.i default).Entry).Vector_, ((lget a s1.i default).Entry).Clock, (((lget a s1.i default).Entry).Part), ((lget a s1.i default).Entry).Site, ((lget a s1.i default).Entry).Sponsor, ((lget a s1.i default).Entry).Length⟩ : GEntry)⟩ : GSlotted) (⟨(lget b s1.i default).Slot, ((lget b s1.i default).Ballot), (⟨((lget b s1.i default).Entry).Kind, ((lget b s1.i default).Entry).Session, ((lget b s1.i default).Entry).Request, (⟨((((lget b s1.i default).Entry).Op).Stamp), (((lget b s1.i default).Entry).Op).Kind, (((lget b s1.i default).Entry).Op).Node, (((lget b s1.i default).Entry).Op).Parent, (((lget b s1.i default).Entry).Op).Name, (((lget b s1.i default).Entry).Op).Key, (((lget b s1.i default).Entry).Op).Value⟩ : GOp), ((lget b s1.i default).Entry).Origin, ((lget b s1.i default).Entry).Seq, ((lget b s1.i default).Entry).Ops, (((lget b s1.i default).Entry).Epoch), ((lget b s1.i default).Entry).From, ((lget b s1.i default).Entry).Vector_, ((lget b s1.i default).Entry).Clock, (((lget b s1.i default).Entry).Part), ((lget b s1.i default).Entry).Site, ((lget b s1.i default).Entry).Sponsor, ((lget b s1.i default).Entry).Length⟩ : GEntry)⟩ : GSlotted)).bind fun r3 =>
 (bif (!r3) then
 (some false)
 else
 (next2 ⟨(IntKind.i64.wrap (s1.i + 1))⟩)))
 else none)
 else none)
 else
 (some true))) ⟨0⟩))
def conref04_SameList : Con τ := { args := [.ty 48, .ty 48], L := [], ret := .ty 4, L' := [], R := Bool, dflt := default, F := fun N a b => Fref04_SameList N a.1 a.2.1, of := fun r => (r, ()) }
noncomputable def datref04_SameList : Dat τ := { D := D0, tbl := tblOf [(66, conref04_SameSlotted)], lp := lpsOf [(4, lpref04_SameListx4)], k0 := 0, mu := [], un := [] }
theorem okref04_SameList : ConOk E C 41 conref04_SameList :=
  con_ok (D := datref04_SameList) ⟨d0Ok, eGood, tblOf_ok ⟨okref04_SameSlotted, trivial⟩, fun _ => rfl⟩ conref04_SameList (fun a b => a) none (fun _ _ => rfl) rfl (fun _ _ h => nomatch h) 1000000 (fn := Try.f41) Try.func41 rfl (by kernel_rfl) (by kernel_rfl) rfl (by intro N a b; kernel_rfl)
def Fref04_SameMsg (N : Nat) (a : GMsg) (b : GMsg) : Option (Bool) :=
 ((bif (((((a.Kind == b.Kind) && ((a.From.Group == b.From.Group) && (a.From.Replica == b.From.Replica))) && ((a.To.Group == b.To.Group) && (a.To.Replica == b.To.Replica))) && ((a.Ballot.Round == b.Ballot.Round) && (a.Ballot.Replica == b.Ballot.Replica))) && (a.Slot == b.Slot)) then Fref04_SameList N a.List_ b.List_ else some default).bind fun r1 =>
 ((bif ((((((a.Kind == b.Kind) && ((a.From.Group == b.From.Group) && (a.From.Replica == b.From.Replica))) && ((a.To.Group == b.To.Group) && (a.To.Replica == b.To.Replica))) && ((a.Ballot.Round == b.Ballot.Round) && (a.Ballot.Replica == b.Ballot.Replica))) && (a.Slot == b.Slot)) && r1) then Fref04_SameEntry N a.Entry b.Entry else some default).bind fun r2 =>
 ((bif (((((((((((a.Kind == b.Kind) && ((a.From.Group == b.From.Group) && (a.From.Replica == b.From.Replica))) && ((a.To.Group == b.To.Group) && (a.To.Replica == b.To.Replica))) && ((a.Ballot.Round == b.Ballot.Round) && (a.Ballot.Replica == b.Ballot.Replica))) && (a.Slot == b.Slot)) && r1) && r2) && (a.Number == b.Number)) && (vbeq beq2 a.Vector_ b.Vector_)) && (a.Clock == b.Clock)) && (a.Origin == b.Origin)) then Fref04_sameOps N a.Ops b.Ops else some default).bind fun r3 =>
 ((bif (((((((((((((a.Kind == b.Kind) && ((a.From.Group == b.From.Group) && (a.From.Replica == b.From.Replica))) && ((a.To.Group == b.To.Group) && (a.To.Replica == b.To.Replica))) && ((a.Ballot.Round == b.Ballot.Round) && (a.Ballot.Replica == b.Ballot.Replica))) && (a.Slot == b.Slot)) && r1) && r2) && (a.Number == b.Number)) && (vbeq beq2 a.Vector_ b.Vector_)) && (a.Clock == b.Clock)) && (a.Origin == b.Origin)) && r3) && ((a.Epoch.Number == b.Epoch.Number) && ((vbeq beq3 a.Epoch.States b.Epoch.States) && ((vbeq beq2 a.Epoch.Seals b.Epoch.Seals) && (vbeq beq3 a.Epoch.Sponsor b.Epoch.Sponsor))))) then Fref04_SamePart N a.Part b.Part else some default).bind fun r4 =>
 (some ((((((((((((((a.Kind == b.Kind) && ((a.From.Group == b.From.Group) && (a.From.Replica == b.From.Replica))) && ((a.To.Group == b.To.Group) && (a.To.Replica == b.To.Replica))) && ((a.Ballot.Round == b.Ballot.Round) && (a.Ballot.Replica == b.Ballot.Replica))) && (a.Slot == b.Slot)) && r1) && r2) && (a.Number == b.Number)) && (vbeq beq2 a.Vector_ b.Vector_)) && (a.Clock == b.Clock)) && (a.Origin == b.Origin)) && r3) && ((a.Epoch.Number == b.Epoch.Number) && ((vbeq beq3 a.Epoch.States b.Epoch.States) && ((vbeq beq2 a.Epoch.Seals b.Epoch.Seals) && (vbeq beq3 a.Epoch.Sponsor b.Epoch.Sponsor))))) && r4))))))
def conref04_SameMsg : Con τ := { args := [.ty 55, .ty 55], L := [], ret := .ty 4, L' := [], R := Bool, dflt := default, F := fun N a b => Fref04_SameMsg N a.1 a.2.1, of := fun r => (r, ()) }
noncomputable def datref04_SameMsg : Dat τ := { D := D0, tbl := tblOf [(41, conref04_SameList), (27, conref04_SameEntry), (42, conref04_sameOps), (43, conref04_SamePart)], lp := lpsOf [], k0 := 0, mu := [], un := [] }
theorem okref04_SameMsg : ConOk E C 19 conref04_SameMsg :=
  con_ok (D := datref04_SameMsg) ⟨d0Ok, eGood, tblOf_ok ⟨okref04_SameList, ⟨okref04_SameEntry, ⟨okref04_sameOps, ⟨okref04_SamePart, trivial⟩⟩⟩⟩, fun _ => rfl⟩ conref04_SameMsg (fun a b => a) none (fun _ _ => rfl) rfl (fun _ _ h => nomatch h) 1000000 (fn := Try.f19) Try.func19 rfl (by kernel_rfl) (by kernel_rfl) rfl (by intro N a b; kernel_rfl)
def Fstamp_Join_1 (N : Nat) (a : Int) (b : Int) : Option (Int) :=
 (some (bif decide (a < b) then b else a))
def constamp_Join_1 : Con τ := { args := [.ty 2, .ty 2], L := [], ret := .ty 2, L' := [], R := Int, dflt := default, F := fun N a b => Fstamp_Join_1 N a.1 a.2.1, of := fun r => (r, ()) }
noncomputable def datstamp_Join_1 : Dat τ := { D := D0, tbl := tblOf [], lp := lpsOf [], k0 := 0, mu := [], un := [] }
theorem okstamp_Join_1 : ConOk E C 111 constamp_Join_1 :=
  con_ok (D := datstamp_Join_1) ⟨d0Ok, eGood, tblOf_ok trivial, fun _ => rfl⟩ constamp_Join_1 (fun a b => a) none (fun _ _ => rfl) rfl (fun _ _ h => nomatch h) 1000000 (fn := Try.f111) Try.func111 rfl (by kernel_rfl) (by kernel_rfl) rfl (by intro N a b; kernel_rfl)
structure Sstamp_fold_330x3 where
  t11 : Int
  b1 : Vector (Int) 8
def tsstamp_fold_330x3 : List Sl := [.k, .k, .k, .k, .k, .k, .j, .j, .j, .k, .k, .sh (.ty 2), .j, .j, .j, .j, .j, .j, .j, .j, .j, .j, .j, .j, .j, .j, .j, .j, .j, .j, .j, .j, .j, .j, .k]
def hsstamp_fold_330x3 : List ESh := [.keep, .box (.ty 23)]
def tostamp_fold_330x3 (a : Sl.Ts τ tsstamp_fold_330x3) (b : ESh.Ts τ hsstamp_fold_330x3) : Sstamp_fold_330x3 := ⟨a.2.2.2.2.2.2.2.2.2.2.2.1, b.2.1⟩
def otstamp_fold_330x3 (s : Sstamp_fold_330x3) : Sl.Ts τ tsstamp_fold_330x3 := ((), (), (), (), (), (), (), (), (), (), (), s.t11, (), (), (), (), (), (), (), (), (), (), (), (), (), (), (), (), (), (), (), (), (), (), (), ())
def ohstamp_fold_330x3 (s : Sstamp_fold_330x3) : ESh.Ts τ hsstamp_fold_330x3 := ((), s.b1, ())
def lpstamp_fold_330x3 : Lp τ := { ts := tsstamp_fold_330x3, hs := hsstamp_fold_330x3, S := Sstamp_fold_330x3, to := tostamp_fold_330x3, ot := otstamp_fold_330x3, oh := ohstamp_fold_330x3, hk := [2, 2], tk := [0, 0, 0, 0, 2, 3], ot_to := fun _ _ => rfl, oh_to := fun _ _ => rfl }
structure Sstamp_fold_330x8 where
  t19 : Int
  b1 : Vector (Int) 8
def tsstamp_fold_330x8 : List Sl := [.k, .k, .k, .k, .k, .k, .k, .k, .j, .k, .k, .k, .k, .k, .k, .k, .k, .k, .k, .sh (.ty 2), .j, .j, .j, .j, .j, .j, .j, .j, .j, .j, .j, .j, .j, .k, .k]
def hsstamp_fold_330x8 : List ESh := [.keep, .box (.ty 23), .keep]
def tostamp_fold_330x8 (a : Sl.Ts τ tsstamp_fold_330x8) (b : ESh.Ts τ hsstamp_fold_330x8) : Sstamp_fold_330x8 := ⟨a.2.2.2.2.2.2.2.2.2.2.2.2.2.2.2.2.2.2.2.1, b.2.1⟩
def otstamp_fold_330x8 (s : Sstamp_fold_330x8) : Sl.Ts τ tsstamp_fold_330x8 := ((), (), (), (), (), (), (), (), (), (), (), (), (), (), (), (), (), (), (), s.t19, (), (), (), (), (), (), (), (), (), (), (), (), (), (), (), ())
def ohstamp_fold_330x8 (s : Sstamp_fold_330x8) : ESh.Ts τ hsstamp_fold_330x8 := ((), s.b1, (), ())
def lpstamp_fold_330x8 : Lp τ := { ts := tsstamp_fold_330x8, hs := hsstamp_fold_330x8, S := Sstamp_fold_330x8, to := tostamp_fold_330x8, ot := otstamp_fold_330x8, oh := ohstamp_fold_330x8, hk := [2, 2, 2], tk := [0, 0, 0, 0, 2, 3, 0, 4], ot_to := fun _ _ => rfl, oh_to := fun _ _ => rfl }
def Fstamp_fold_330 (N : Nat) (l : List (Vector (Int) 8)) : Option ((Vector (Int) 8)) :=
 (iter N (fun (s1 : Sstamp_fold_330x3) next2 =>
 (bif (decide (s1.t11 < ((l).length : Int))) then
 (bif (ibB s1.t11 ((l).length : Int)) then
 (bif (s1.t11 == 0) then
 (iter N (fun (s3 : Sstamp_fold_330x8) next4 =>
 (bif (decide (s3.t19 < 8)) then
 (bif (ibB s3.t19 8) then
 (bif (ibB s3.t19 8) then
 ((Fstamp_Join_1 N (vget s3.b1 ((s3.t19).toNat) default) (vget (lget l s1.t11 default) ((s3.t19).toNat) default)).bind fun r5 =>
 (bif (ibB s3.t19 8) then
 (next4 ⟨(IntKind.i64.wrap (s3.t19 + 1)), (vset s3.b1 ((s3.t19).toNat) r5)⟩)
 else none))
 else none)
 else none)
 else
 (next2 ⟨(IntKind.i64.wrap (s1.t11 + 1)), s3.b1⟩))) ⟨0, (lget l s1.t11 default)⟩)
 else
 (iter N (fun (s6 : Sstamp_fold_330x8) next7 =>
 (bif (decide (s6.t19 < 8)) then
 (bif (ibB s6.t19 8) then
 (bif (ibB s6.t19 8) then
 ((Fstamp_Join_1 N (vget s6.b1 ((s6.t19).toNat) default) (vget (lget l s1.t11 default) ((s6.t19).toNat) default)).bind fun r8 =>
 (bif (ibB s6.t19 8) then
 (next7 ⟨(IntKind.i64.wrap (s6.t19 + 1)), (vset s6.b1 ((s6.t19).toNat) r8)⟩)
 else none))
 else none)
 else none)
 else
 (next2 ⟨(IntKind.i64.wrap (s1.t11 + 1)), s6.b1⟩))) ⟨0, s1.b1⟩))
 else none)
 else
 (some s1.b1))) ⟨0, (Vector.replicate 8 (default : Int))⟩)
def constamp_fold_330 : Con τ := { args := [.fn 111 [], .ty 115], L := [], ret := .ty 24, L' := [], R := (Vector (Int) 8), dflt := default, F := fun N a b => Fstamp_fold_330 N a.2.1, of := fun r => (r, ()) }
noncomputable def datstamp_fold_330 : Dat τ := { D := D0, tbl := tblOf [(111, constamp_Join_1)], lp := lpsOf [(3, lpstamp_fold_330x3), (8, lpstamp_fold_330x8)], k0 := 0, mu := [], un := [] }
theorem okstamp_fold_330 : ConOk E C 110 constamp_fold_330 :=
  con_ok (D := datstamp_fold_330) ⟨d0Ok, eGood, tblOf_ok ⟨okstamp_Join_1, trivial⟩, fun _ => rfl⟩ constamp_fold_330 (fun a b => a) none (fun _ _ => rfl) rfl (fun _ _ h => nomatch h) 1000000 (fn := Try.f110) Try.func110 rfl (by kernel_rfl) (by kernel_rfl) rfl (by intro N a b; kernel_rfl)
def Fstamp_Join (N : Nat) (l : List (Vector (Int) 8)) : Option ((Vector (Int) 8)) :=
 ((Fstamp_fold_330 N l).bind fun r1 =>
 (some r1))
def constamp_Join : Con τ := { args := [.ty 115], L := [], ret := .ty 24, L' := [], R := (Vector (Int) 8), dflt := default, F := fun N a b => Fstamp_Join N a.1, of := fun r => (r, ()) }
noncomputable def datstamp_Join : Dat τ := { D := D0, tbl := tblOf [(110, constamp_fold_330)], lp := lpsOf [], k0 := 0, mu := [], un := [] }
theorem okstamp_Join : ConOk E C 67 constamp_Join :=
  con_ok (D := datstamp_Join) ⟨d0Ok, eGood, tblOf_ok ⟨okstamp_fold_330, trivial⟩, fun _ => rfl⟩ constamp_Join (fun a b => a) none (fun _ _ => rfl) rfl (fun _ _ h => nomatch h) 1000000 (fn := Try.f67) Try.func67 rfl (by kernel_rfl) (by kernel_rfl) rfl (by intro N a b; kernel_rfl)
def Fstamp_Above (N : Nat) (a : Vector (Int) 8) (b : Vector (Int) 8) : Option (Bool) :=
 ((Fstamp_Join N [a, b]).bind fun r1 =>
 (some (vbeq beq2 r1 a)))
def constamp_Above : Con τ := { args := [.ty 24, .ty 24], L := [], ret := .ty 4, L' := [], R := Bool, dflt := default, F := fun N a b => Fstamp_Above N a.1 a.2.1, of := fun r => (r, ()) }
noncomputable def datstamp_Above : Dat τ := { D := D0, tbl := tblOf [(67, constamp_Join)], lp := lpsOf [], k0 := 0, mu := [], un := [] }
theorem okstamp_Above : ConOk E C 44 constamp_Above :=
  con_ok (D := datstamp_Above) ⟨d0Ok, eGood, tblOf_ok ⟨okstamp_Join, trivial⟩, fun _ => rfl⟩ constamp_Above (fun a b => a) none (fun _ _ => rfl) rfl (fun _ _ h => nomatch h) 1000000 (fn := Try.f44) Try.func44 rfl (by kernel_rfl) (by kernel_rfl) rfl (by intro N a b; kernel_rfl)
def Fexchange_Lacks (N : Nat) (s : GSnap) (i : Int) : Option (Bool) :=
 ((Fexchange_site N i).bind fun r1 =>
 (bif (!r1 || (ibB i 8)) then
 ((bif r1 then Fstamp_Above N s.Vector_ (vget s.Known ((i).toNat) default) else some default).bind fun r2 =>
 (some (r1 && (!r2))))
 else none))
def conexchange_Lacks : Con τ := { args := [.ty 34, .ty 3], L := [], ret := .ty 4, L' := [], R := Bool, dflt := default, F := fun N a b => Fexchange_Lacks N a.1 a.2.1, of := fun r => (r, ()) }
noncomputable def datexchange_Lacks : Dat τ := { D := D0, tbl := tblOf [(33, conexchange_site), (44, constamp_Above)], lp := lpsOf [], k0 := 0, mu := [], un := [] }
theorem okexchange_Lacks : ConOk E C 20 conexchange_Lacks :=
  con_ok (D := datexchange_Lacks) ⟨d0Ok, eGood, tblOf_ok ⟨okexchange_site, ⟨okstamp_Above, trivial⟩⟩, fun _ => rfl⟩ conexchange_Lacks (fun a b => a) none (fun _ _ => rfl) rfl (fun _ _ h => nomatch h) 1000000 (fn := Try.f20) Try.func20 rfl (by kernel_rfl) (by kernel_rfl) rfl (by intro N a b; kernel_rfl)
structure Sref16_abovex2 where
  i : Int
def tsref16_abovex2 : List Sl := [.k, .k, .k, .k, .j, .sh (.ty 2), .j, .j, .j, .j, .j, .j, .j, .j, .j, .j, .j]
def hsref16_abovex2 : List ESh := [.keep, .keep]
def toref16_abovex2 (a : Sl.Ts τ tsref16_abovex2) (b : ESh.Ts τ hsref16_abovex2) : Sref16_abovex2 := ⟨a.2.2.2.2.2.1⟩
def otref16_abovex2 (s : Sref16_abovex2) : Sl.Ts τ tsref16_abovex2 := ((), (), (), (), (), s.i, (), (), (), (), (), (), (), (), (), (), (), ())
def ohref16_abovex2 (s : Sref16_abovex2) : ESh.Ts τ hsref16_abovex2 := ((), (), ())
def lpref16_abovex2 : Lp τ := { ts := tsref16_abovex2, hs := hsref16_abovex2, S := Sref16_abovex2, to := toref16_abovex2, ot := otref16_abovex2, oh := ohref16_abovex2, hk := [2, 2], tk := [0, 0, 2, 3], ot_to := fun _ _ => rfl, oh_to := fun _ _ => rfl }
def Fref16_above (N : Nat) (a : Vector (Int) 8) (b : Vector (Int) 8) : Option (Bool) :=
 (iter N (fun (s1 : Sref16_abovex2) next2 =>
 (bif (decide (s1.i < 8)) then
 (bif (ibB s1.i 8) then
 (bif (ibB s1.i 8) then
 (bif (decide ((vget b ((s1.i).toNat) default) < (vget a ((s1.i).toNat) default))) then
 (some true)
 else
 (next2 ⟨(IntKind.i64.wrap (s1.i + 1))⟩))
 else none)
 else none)
 else
 (some false))) ⟨0⟩)
def conref16_above : Con τ := { args := [.ty 24, .ty 24], L := [], ret := .ty 4, L' := [], R := Bool, dflt := default, F := fun N a b => Fref16_above N a.1 a.2.1, of := fun r => (r, ()) }
noncomputable def datref16_above : Dat τ := { D := D0, tbl := tblOf [], lp := lpsOf [(2, lpref16_abovex2)], k0 := 0, mu := [], un := [] }
theorem okref16_above : ConOk E C 45 conref16_above :=
  con_ok (D := datref16_above) ⟨d0Ok, eGood, tblOf_ok trivial, fun _ => rfl⟩ conref16_above (fun a b => a) none (fun _ _ => rfl) rfl (fun _ _ h => nomatch h) 1000000 (fn := Try.f45) Try.func45 rfl (by kernel_rfl) (by kernel_rfl) rfl (by intro N a b; kernel_rfl)
def Fref16_Lacks (N : Nat) (s : GSnap) (n : Int) : Option (Bool) :=
 ((Fref16_site N n).bind fun r1 =>
 (bif (!r1 || (ibB n 8)) then
 ((bif r1 then Fref16_above N (vget s.Known ((n).toNat) default) s.Vector_ else some default).bind fun r2 =>
 (some (r1 && r2)))
 else none))
def conref16_Lacks : Con τ := { args := [.ty 34, .ty 3], L := [], ret := .ty 4, L' := [], R := Bool, dflt := default, F := fun N a b => Fref16_Lacks N a.1 a.2.1, of := fun r => (r, ()) }
noncomputable def datref16_Lacks : Dat τ := { D := D0, tbl := tblOf [(35, conref16_site), (45, conref16_above)], lp := lpsOf [], k0 := 0, mu := [], un := [] }
theorem okref16_Lacks : ConOk E C 21 conref16_Lacks :=
  con_ok (D := datref16_Lacks) ⟨d0Ok, eGood, tblOf_ok ⟨okref16_site, ⟨okref16_above, trivial⟩⟩, fun _ => rfl⟩ conref16_Lacks (fun a b => a) none (fun _ _ => rfl) rfl (fun _ _ h => nomatch h) 1000000 (fn := Try.f21) Try.func21 rfl (by kernel_rfl) (by kernel_rfl) rfl (by intro N a b; kernel_rfl)
def Flaw16_ExchangeTells (N : Nat) (s : GSnap) (from_ : GAddr) (to : GAddr) (n : Int) : Option (Bool) :=
 ((Fexchange_Known N s from_ to).bind fun r1 =>
 ((Fref16_Known N s from_ to).bind fun r2 =>
 ((Flaw16_begun N).bind fun r3 =>
 ((bif r3 then Fexchange_Peers N s else some default).bind fun r4 =>
 ((bif r3 then Fref16_Peers N s else some default).bind fun r5 =>
 ((bif r3 then Flaw16_ints N r4 r5 else some default).bind fun r6 =>
 ((bif (r3 && r6) then Fref04_SameMsg N r1.1 r2.1 else some default).bind fun r7 =>
 ((bif (((r3 && r6) && r7) && (r1.2 == r2.2)) then Fexchange_Lacks N s n else some default).bind fun r8 =>
 ((bif (((r3 && r6) && r7) && (r1.2 == r2.2)) then Fref16_Lacks N s n else some default).bind fun r9 =>
 (some ((((r3 && r6) && r7) && (r1.2 == r2.2)) && (r8 == r9))))))))))))
def conlaw16_ExchangeTells : Con τ := { args := [.ty 34, .ty 45, .ty 45, .ty 3], L := [], ret := .ty 4, L' := [], R := Bool, dflt := default, F := fun N a b => Flaw16_ExchangeTells N a.1 a.2.1 a.2.2.1 a.2.2.2.1, of := fun r => (r, ()) }
noncomputable def datlaw16_ExchangeTells : Dat τ := { D := D0, tbl := tblOf [(14, conexchange_Known), (15, conref16_Known), (10, conlaw16_begun), (17, conexchange_Peers), (18, conref16_Peers), (16, conlaw16_ints), (19, conref04_SameMsg), (20, conexchange_Lacks), (21, conref16_Lacks)], lp := lpsOf [], k0 := 0, mu := [], un := [] }
theorem oklaw16_ExchangeTells : ConOk E C 5 conlaw16_ExchangeTells :=
  con_ok (D := datlaw16_ExchangeTells) ⟨d0Ok, eGood, tblOf_ok ⟨okexchange_Known, ⟨okref16_Known, ⟨oklaw16_begun, ⟨okexchange_Peers, ⟨okref16_Peers, ⟨oklaw16_ints, ⟨okref04_SameMsg, ⟨okexchange_Lacks, ⟨okref16_Lacks, trivial⟩⟩⟩⟩⟩⟩⟩⟩⟩, fun _ => rfl⟩ conlaw16_ExchangeTells (fun a b => a) none (fun _ _ => rfl) rfl (fun _ _ h => nomatch h) 1000000 (fn := Try.f5) Try.func5 rfl (by kernel_rfl) (by kernel_rfl) rfl (by intro N a b; kernel_rfl)
end Go.Proofs.Ytekpjhhbmjcbmaa
