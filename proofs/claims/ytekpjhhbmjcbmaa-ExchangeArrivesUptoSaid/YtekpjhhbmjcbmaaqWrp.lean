/-
Plain laws of another seat, turned to this one by wip/tools/ren2.py.
-/
import Derived.Test.YtekpjhhbmjcbmaaqFr
import Derived.Test.YtekpjhhbmjcbmaaqTvT
import Derived.KernelRfl
set_option linter.unusedVariables false
set_option linter.unusedSimpArgs false
namespace Go.Proofs.Ytekpjhhbmjcbmaa
open Go Go.Ev
section
variable {N : Nat}
theorem refCheck (N : Nat) (s : GStamp) : Fref11_Check N s = Fstamp_Check N s := by
  unfold Fref11_Check Fstamp_Check Fref11_Site
  cases decide (1 ≤ s.Time) <;> cases decide (s.Time ≤ 1099511627776) <;> simp
theorem refNode (N : Nat) (s : GStamp) : Fref11_Node N s = Fstamp_Node N s := by
  unfold Fref11_Node Fstamp_Node; rw [refCheck]
theorem refOf (N : Nat) (n : Int) : Fref11_Of N n = Fstamp_Of N n := by
  unfold Fref11_Of Fstamp_Of; rw [refCheck]
theorem refmade (N : Nat) (n : Int) : Fref11_made N n = Fstamp_made N n := by
  unfold Fref11_made Fstamp_made; rw [refOf]
theorem check_some (N : Nat) (s : GStamp) : ∃ b, Fstamp_Check N s = some b := ⟨_, rfl⟩
theorem node_some (N : Nat) (s : GStamp) : ∃ b, Fstamp_Node N s = some b := by
  obtain ⟨b, h⟩ := check_some N s
  unfold Fstamp_Node; rw [h, Option.bind_some]
  cases b <;> exact ⟨_, rfl⟩
theorem made_some (N : Nat) (n : Int) : ∃ b, Fstamp_made N n = some b := by
  unfold Fstamp_made Fstamp_Of
  cases decide (n < 16) with
  | true => exact ⟨_, rfl⟩
  | false =>
    simp only [cond_false]
    obtain ⟨b, h⟩ := check_some N ⟨IntKind.i64.wrap (Int.tdiv (IntKind.i64.wrap (n - 16)) 8), Int.tmod (IntKind.i64.wrap (n - 16)) 8⟩
    rw [h, Option.bind_some]
    cases b <;> exact ⟨_, rfl⟩
theorem top_some (N : Nat) (n : Int) : ∃ b, Fstamp_top N n = some b := ⟨_, rfl⟩
theorem indexByte_nonneg (c : UInt8) : ∀ l : List UInt8, 0 ≤ Lib.indexByte l c ∨ Lib.indexByte l c = -1
  | [] => .inr rfl
  | b :: l => by
    have ih := indexByte_nonneg c l
    unfold Lib.indexByte
    split
    · exact .inl (by omega)
    · split
      · exact .inr rfl
      · rename_i h
        have : Lib.indexByte l c ≠ -1 := fun e => h (by simp [e])
        rcases ih with h1 | h1
        · exact .inl (by omega)
        · exact absurd h1 this
theorem indexByte_iff (c : UInt8) : ∀ l : List UInt8, (0 ≤ Lib.indexByte l c ↔ c ∈ l)
  | [] => by simp [Lib.indexByte]
  | b :: l => by
    have ih := indexByte_iff c l
    have hn := indexByte_nonneg c l
    unfold Lib.indexByte
    rw [List.mem_cons]
    by_cases hb : b = c
    · subst hb; simp
    · rw [if_neg (by simpa using hb)]
      by_cases hm : c ∈ l
      · have h0 := ih.2 hm
        rw [if_neg (by simp; omega)]
        exact ⟨fun _ => .inr hm, fun _ => by omega⟩
      · have h0 : ¬ 0 ≤ Lib.indexByte l c := fun h => hm (ih.1 h)
        have h1 : Lib.indexByte l c = -1 := hn.resolve_left h0
        rw [if_pos (by simp [h1])]
        refine ⟨fun h => absurd h (by decide), fun h => ?_⟩
        rcases h with h | h
        · exact absurd h.symm hb
        · exact absurd h hm
theorem contains_eq (N : Nat) (s : List UInt8) : Fstrings_Contains N s [47] = some (decide ((47 : UInt8) ∈ s)) := by
  unfold Fstrings_Contains Fstrings_Index Finternal_stringslite_Index
  by_cases h : s = [47]
  · subst h; rfl
  · have h1 : (([47] : List UInt8) == s) = false := by
      rw [beq_eq_false_iff_ne]; exact fun e => h e.symm
    rw [h1]
    simp only [List.length_cons, List.length_nil]
    rw [show ((((0 + 1 : Nat) : Int) == 0) || false) = false from rfl, show (((0 + 1 : Nat) : Int) == 1) = true from rfl, show ibB 0 ((0 + 1 : Nat) : Int) = true from rfl]
    simp only [cond_true, cond_false]
    unfold Finternal_stringslite_IndexByte Finternal_bytealg_IndexByteString
    simp only [Option.bind_some]
    congr 1
    have := indexByte_iff 47 s
    rw [show ((([47] : List UInt8).getD 0 0).toNat : Int).toNat.toUInt8 = 47 from rfl]
    by_cases hm : (47 : UInt8) ∈ s
    · rw [decide_eq_true hm, decide_eq_true (this.2 hm)]
    · rw [decide_eq_false hm, decide_eq_false (fun q => hm (this.1 q))]
theorem name_eq (hN : 300 ≤ N) (s : List UInt8) : Fref11_name N s = some (if 255 < s.length then 3 else if s = [] ∨ s = [46] ∨ s = [46, 46] ∨ (47 : UInt8) ∈ s then 1 else 0) := by
  unfold Fref11_name
  by_cases hl : 255 < s.length
  · rw [if_pos hl, decide_eq_true (show (255 : Int) < (s.length : Int) by omega)]; rfl
  rw [if_neg hl, decide_eq_false (show ¬ (255 : Int) < (s.length : Int) by omega), cond_false]
  by_cases h3 : s = [] ∨ s = [46] ∨ s = [46, 46]
  · have : ((s == [] || s == [46]) || s == [46, 46]) = true := by
      rcases h3 with h | h | h <;> simp [h]
    rw [this, cond_true, if_pos (by rcases h3 with h | h | h <;> simp [h])]
  have hb : ((s == [] || s == [46]) || s == [46, 46]) = false := by
    simp only [not_or] at h3
    simp only [Bool.or_eq_false_iff, beq_eq_false_iff_ne]
    exact ⟨⟨h3.1, h3.2.1⟩, h3.2.2⟩
  rw [hb, cond_false]
  refine iter_run (fun q : Sref11_namex6 => ∃ k : Nat, q.i = k ∧ k ≤ s.length ∧ ((47 : UInt8) ∉ s.take k)) (fun q => (s.length - q.i).toNat) ?_ N _ ⟨0, rfl, by omega, by simp⟩ (by simp; omega)
  rintro ⟨i⟩ nx ⟨k, rfl, hk, hq⟩ ih
  simp only at ih ⊢
  by_cases hlt : k < s.length
  · rw [decide_eq_true (show (k : Int) < (s.length : Int) by omega), ibB_of (Int.natCast_nonneg k) (by omega)]
    simp only [cond_true, Int.toNat_natCast]
    have hg : s.getD k 0 = s[k] := by simp [List.getD, hlt]
    rw [hg]
    by_cases hc : s[k] = 47
    · rw [hc, show ((((47 : UInt8).toNat : Nat) : Int) == 47) = true from rfl, cond_true, if_pos]
      exact .inr (.inr (.inr (hc ▸ List.getElem_mem hlt)))
    · have : ((((s[k]).toNat : Nat) : Int) == 47) = false := by
        rw [beq_eq_false_iff_ne]; intro h
        apply hc
        apply UInt8.toNat_inj.1
        rw [show (47 : UInt8).toNat = 47 from rfl]; omega
      rw [this, cond_false, wrap64 (by omega) (by omega)]
      refine ih _ ⟨k + 1, rfl, by omega, ?_⟩ (by simp; omega)
      rw [List.take_add_one, List.mem_append]
      rintro (h | h)
      · exact hq h
      · simp [hlt] at h; exact hc h.symm
  · rw [decide_eq_false (show ¬ (k : Int) < (s.length : Int) by omega), cond_false, if_neg]
    rw [List.take_of_length_le (by omega)] at hq
    simp only [not_or] at h3 ⊢
    exact ⟨h3.1, h3.2.1, h3.2.2, hq⟩
theorem place_same (hN : 300 ≤ N) (op : GOp) : ∃ r, Fstamp_place N op = some r ∧ Fref11_place N op = some r := by
  unfold Fstamp_place Fref11_place
  obtain ⟨t, ht⟩ := top_some N op.Parent
  obtain ⟨m, hm⟩ := made_some N op.Parent
  have ht' : Fref11_top N op.Parent = some t := ht
  rw [ht, ht', refmade, hm, name_eq hN, contains_eq]
  simp only [Option.bind_some]
  have hd : ∃ m', (bif !t then some m else some default) = some m' ∧ ((!t && !m') = (!t && !m)) := by cases t <;> exact ⟨_, rfl, rfl⟩
  obtain ⟨m', h1, h2⟩ := hd
  rw [h1]
  simp only [Option.bind_some, h2]
  cases hq : (!t && !m) with
  | true => exact ⟨_, rfl, rfl⟩
  | false =>
    simp only [cond_false]
    by_cases hl : 255 < op.Name.length
    · rw [decide_eq_true (show (255 : Int) < (op.Name.length : Int) by omega), if_pos hl]
      exact ⟨_, rfl, rfl⟩
    · rw [decide_eq_false (show ¬ (255 : Int) < (op.Name.length : Int) by omega), if_neg hl]
      simp only [cond_false]
      by_cases h3 : ((op.Name == [] || op.Name == [46]) || op.Name == [46, 46]) = true
      · have : op.Name = [] ∨ op.Name = [46] ∨ op.Name = [46, 46] ∨ (47 : UInt8) ∈ op.Name := by
          simp only [Bool.or_eq_true, beq_iff_eq] at h3
          rcases h3 with (h | h) | h
          · exact .inl h
          · exact .inr (.inl h)
          · exact .inr (.inr (.inl h))
        rw [h3, if_pos this]
        exact ⟨_, rfl, rfl⟩
      · rw [Bool.not_eq_true] at h3
        rw [h3]
        simp only [Bool.not_false, cond_true, Option.bind_some, Bool.false_or]
        simp only [Bool.or_eq_false_iff, beq_eq_false_iff_ne] at h3
        by_cases hc : (47 : UInt8) ∈ op.Name
        · rw [decide_eq_true hc, if_pos (.inr (.inr (.inr hc)))]
          exact ⟨_, rfl, rfl⟩
        · rw [decide_eq_false hc, if_neg (by simp only [not_or]; exact ⟨h3.1.1, h3.1.2, h3.2, hc⟩)]
          simp only [Bool.false_or, beq_self_eq_true, Bool.not_true, cond_false]
          cases (!op.Key == [] || !op.Value == []) <;> exact ⟨_, rfl, rfl⟩
theorem checkOp_same (hN : 300 ≤ N) (op : GOp) : ∃ r, Fstamp_CheckOp N op = some r ∧ Fref11_CheckOp N op = some r := by
  unfold Fstamp_CheckOp Fref11_CheckOp
  obtain ⟨c, hc⟩ := check_some N op.Stamp
  obtain ⟨n, hn⟩ := node_some N op.Stamp
  obtain ⟨m, hm⟩ := made_some N op.Node
  obtain ⟨t, ht⟩ := top_some N op.Node
  have ht' : Fref11_top N op.Node = some t := ht
  obtain ⟨p, hp1, hp2⟩ := place_same hN op
  rw [refCheck, refNode, refmade, hc, hn, hm, ht, ht', hp1, hp2]
  simp only [Option.bind_some]
  cases hb : ((!c || decide (op.Kind < 1)) || decide (3 < op.Kind)) with
  | true => exact ⟨_, rfl, rfl⟩
  | false =>
    simp only [Bool.or_eq_false_iff, decide_eq_false_iff_not] at hb
    have hk : op.Kind = 1 ∨ op.Kind = 2 ∨ op.Kind = 3 := by omega
    rcases hk with hk | hk | hk
    · rw [hk]
      simp only [show ((1 : Int) == 1) = true from rfl, show ((1 : Int) == 2) = false from rfl, show ((1 : Int) == 3) = false from rfl, Bool.not_false, Bool.true_and, Bool.false_or, cond_true, cond_false, Option.bind_some, Bool.false_and, Bool.and_false, Bool.or_self, Bool.not_true]
      cases (!op.Node == n) with
      | true => exact ⟨_, rfl, rfl⟩
      | false =>
        simp only [cond_false]
        cases (!p == 0) <;> exact ⟨_, rfl, rfl⟩
    · rw [hk]
      simp only [show ((2 : Int) == 1) = false from rfl, show ((2 : Int) == 2) = true from rfl, show ((2 : Int) == 3) = false from rfl, Bool.not_false, Bool.true_and, Bool.false_or, cond_true, cond_false, Option.bind_some, Bool.false_and, Bool.and_false, Bool.or_self, Bool.not_true, Bool.or_false]
      cases (!p == 0) with
      | true => exact ⟨_, rfl, rfl⟩
      | false => cases m <;> exact ⟨_, rfl, rfl⟩
    · rw [hk]
      simp only [show ((3 : Int) == 1) = false from rfl, show ((3 : Int) == 2) = false from rfl, show ((3 : Int) == 3) = true from rfl, Bool.not_false, Bool.true_and, Bool.false_or, cond_true, cond_false, Option.bind_some, Bool.false_and, Bool.and_false, Bool.or_self, Bool.not_true, Bool.or_false]
      cases m <;> cases t <;> simp only [Bool.not_true, Bool.not_false, cond_true, cond_false, Option.bind_some, Bool.true_and, Bool.false_and, Bool.and_true, Bool.and_false] <;> first
        | exact ⟨_, rfl, rfl⟩
        | (cases (decide (255 < (op.Key.length : Int)) || decide (255 < (op.Value.length : Int))) with
          | true => exact ⟨_, rfl, rfl⟩
          | false => simp only [cond_false]; cases ((op.Key == [] || !op.Parent == 0) || !op.Name == []) <;> exact ⟨_, rfl, rfl⟩)
end
def ck (N : Nat) (op : GOp) : Int := (Fstamp_CheckOp N op).getD 0
theorem ck_eq {N : Nat} (hN : 300 ≤ N) (op : GOp) : Fstamp_CheckOp N op = some (ck N op) ∧ Fref11_CheckOp N op = some (ck N op) := by
  obtain ⟨r, h1, h2⟩ := checkOp_same hN op
  unfold ck; rw [h1]; exact ⟨rfl, h2⟩
def MT : Int := 1099511627776
def stt (s : GSnap) (o : Int) : Int := vget s.Epoch.States o.toNat default
def sls (s : GSnap) (o : Int) : Int := vget s.Epoch.Seals o.toNat default
def vec (s : GSnap) (o : Int) : Int := vget s.Vector_ o.toNat default
def lst (s : GSnap) (o : Int) : Int := vget s.Last o.toNat default
def stop (N : Nat) (s : GSnap) (o number last : Int) (op : GOp) : Prop :=
  MT ≤ number ∨ (stt s o = 3 ∧ sls s o ≤ number) ∨ ck N op ≠ 0 ∨ op.Stamp.Site ≠ o ∨ op.Stamp.Time ≤ last ∨ op.Stamp.Time ≤ s.Frontier
instance (N : Nat) (s : GSnap) (o number last : Int) (op : GOp) : Decidable (stop N s o number last op) := by unfold stop; infer_instance
def tk (N : Nat) (s : GSnap) (o : Int) : Int → Int → List GOp → List GOp
  | _, _, [] => []
  | n, last, op :: r => if stop N s o n last op then [] else op :: tk N s o (n + 1) op.Stamp.Time r
def bad (s : GSnap) (o seq : Int) : Prop := ¬ (0 ≤ o ∧ o < 8) ∨ o = s.Site ∨ stt s o = 0 ∨ seq < 0 ∨ vec s o < seq ∨ MT < vec s o
instance (s : GSnap) (o seq : Int) : Decidable (bad s o seq) := by unfold bad; infer_instance
def take (N : Nat) (s : GSnap) (o seq : Int) (ops : List GOp) : List GOp :=
  if bad s o seq then [] else if (ops.length : Int) ≤ vec s o - seq then [] else tk N s o (vec s o) (lst s o) (ops.drop (vec s o - seq).toNat)
theorem eta_op (x : GOp) : (⟨x.Stamp, x.Kind, x.Node, x.Parent, x.Name, x.Key, x.Value⟩ : GOp) = x := rfl
theorem stop_b (N : Nat) (s : GSnap) (o n last : Int) (op : GOp) :
    ((((((decide (1099511627776 ≤ n)) || ((stt s o == 3) && (decide (sls s o ≤ n)))) || (!(ck N op == 0))) || (!(op.Stamp.Site == o))) || (decide (op.Stamp.Time ≤ last))) || (decide (op.Stamp.Time ≤ s.Frontier))) = decide (stop N s o n last op) := by
  unfold stop MT
  rw [Bool.eq_iff_iff]
  simp only [Bool.or_eq_true, Bool.and_eq_true, decide_eq_true_eq, Bool.not_eq_true', beq_eq_false_iff_ne, beq_iff_eq, or_assoc]
  exact ⟨fun h => decide_eq_true h, fun h => of_decide_eq_true h⟩
section
variable {N : Nat}
theorem wrapS {n : Int} (h1 : -9000000000000000000 ≤ n) (h2 : n ≤ 9000000000000000000) : IntKind.i64.wrap n = n := wrap64 (by omega) (by omega)
theorem site_t {o : Int} (h : 0 ≤ o ∧ o < 8) : ((decide (0 ≤ o)) && (decide (o < 8))) = true := by simp [h.1, h.2]
theorem site_f {o : Int} (h : ¬ (0 ≤ o ∧ o < 8)) : ((decide (0 ≤ o)) && (decide (o < 8))) = false := by
  rw [Bool.eq_false_iff]; intro q; simp only [Bool.and_eq_true, decide_eq_true_eq] at q; exact h q
theorem take_eq {s : GSnap} {o seq : Int} {ops : List GOp} (hN : ops.length + 300 ≤ N) (hl : ops.length ≤ 1048576) : Fexchange_Take N s o seq ops = some (take N s o seq ops) := by
  unfold Fexchange_Take Fexchange_site take
  rw [Option.bind_some]
  by_cases h1 : 0 ≤ o ∧ o < 8
  case neg =>
    rw [site_f h1, if_pos (.inl h1)]; rfl
  rw [site_t h1]
  have hib : ibB o 8 = true := ibB_of h1.1 h1.2
  simp only [hib, Bool.or_true, cond_true, Bool.not_true, Bool.false_or]
  rw [show vget s.Epoch.States o.toNat default = stt s o from rfl, show vget s.Vector_ o.toNat default = vec s o from rfl, show vget s.Last o.toNat default = lst s o from rfl, show vget s.Epoch.Seals o.toNat default = sls s o from rfl]
  by_cases h2 : o = s.Site ∨ stt s o = 0
  · have : (o == s.Site || stt s o == 0) = true := by simpa using h2
    rw [this, if_pos (by rcases h2 with h | h; exact .inr (.inl h); exact .inr (.inr (.inl h)))]; rfl
  have h2' : (o == s.Site || stt s o == 0) = false := by
    rw [Bool.eq_false_iff]; intro q; exact h2 (by simpa using q)
  rw [h2', cond_false]
  by_cases h3 : seq < 0 ∨ vec s o < seq ∨ MT < vec s o
  · have : (((decide (seq < 0) || decide (vec s o < seq)) || decide (1099511627776 < vec s o)) || decide ((ops.length : Int) ≤ IntKind.i64.wrap (vec s o - seq))) = true := by
      unfold MT at h3
      rcases h3 with h | h | h <;> simp [h]
    rw [this, if_pos (by rcases h3 with h | h | h; exact .inr (.inr (.inr (.inl h))); exact .inr (.inr (.inr (.inr (.inl h)))); exact .inr (.inr (.inr (.inr (.inr h)))))]; rfl
  have hnb : ¬ bad s o seq := by
    unfold bad; simp only [not_or] at h2 h3 ⊢
    exact ⟨fun h => h h1, h2.1, h2.2, h3.1, h3.2.1, h3.2.2⟩
  rw [if_neg hnb]
  simp only [not_or, Int.not_lt] at h3
  have hM := h3.2.2; unfold MT at hM
  rw [wrapS (n := vec s o - seq) (by omega) (by omega)]
  have : (((decide (seq < 0) || decide (vec s o < seq)) || decide (1099511627776 < vec s o))) = false := by
    rw [decide_eq_false (by omega), decide_eq_false (by omega), decide_eq_false (by omega)]; rfl
  rw [this, Bool.false_or]
  by_cases h4 : (ops.length : Int) ≤ vec s o - seq
  · rw [if_pos h4, decide_eq_true h4]; rfl
  rw [if_neg h4, decide_eq_false h4, cond_false, cutB_of (by omega) (by omega) (by omega), cond_true]
  have hcut : cut ops (vec s o - seq) (ops.length : Int) = ops.drop (vec s o - seq).toNat := by
    unfold cut; rw [List.take_of_length_le (by simp)]
  rw [hcut]
  have hlen : (ops.drop (vec s o - seq).toNat).length ≤ ops.length := by simp
  generalize ops.drop (vec s o - seq).toNat = xs at *
  generalize hR : tk N s o (vec s o) (lst s o) xs = R
  refine iter_run (fun q : Sexchange_Takex9 => ∃ k : Nat, q.t66 = k ∧ k ≤ xs.length ∧ q.l.length = k ∧ q.l ++ tk N s o (vec s o + k) q.last (xs.drop k) = R) (fun q => (xs.length - q.t66).toNat) ?_ N _
    ⟨0, rfl, by omega, rfl, by simpa using hR⟩ (by simp; omega)
  rintro ⟨l, last, t⟩ nx ⟨k, rfl, hk, hll, hq⟩ ih
  simp only at ih hll hq ⊢
  by_cases hlt : k < xs.length
  · rw [decide_eq_true (show (k : Int) < (xs.length : Int) by omega), ibB_of (Int.natCast_nonneg k) (by omega)]
    have hd : xs.drop k = lget xs (k : Int) default :: xs.drop (k + 1) := by
      have := lget_drop (default : GOp) (Int.natCast_nonneg k) (show (k : Int) < xs.length by omega)
      rw [Int.toNat_natCast] at this
      rw [this]; congr 1
    rw [hd, tk] at hq
    simp only [eta_op, hll]
    generalize lget xs (k : Int) default = op at hq ⊢
    rw [wrapS (n := vec s o + (k : Int)) (by omega) (by omega), (ck_eq (by omega) op).1]
    simp only [cond_true]
    by_cases hs : stop N s o (vec s o + k) last op
    · rw [if_pos hs, List.append_nil] at hq
      have hst := stop_b N s o (vec s o + k) last op
      rw [decide_eq_true hs] at hst
      cases hpre : (decide (1099511627776 ≤ vec s o + (k : Int)) || stt s o == 3 && decide (sls s o ≤ vec s o + (k : Int))) with
      | true =>
        simp only [Bool.not_true, cond_false, Option.bind_some, Bool.true_or, cond_true, hq]
      | false =>
        rw [hpre] at hst
        simp only [Bool.not_false, cond_true, Option.bind_some, hst, hq]
    · rw [if_neg hs] at hq
      have hst := stop_b N s o (vec s o + k) last op
      rw [decide_eq_false hs] at hst
      have hpre : (decide (1099511627776 ≤ vec s o + (k : Int)) || stt s o == 3 && decide (sls s o ≤ vec s o + (k : Int))) = false := by
        simp only [Bool.or_eq_false_iff] at hst
        rw [Bool.or_eq_false_iff]; exact hst.1.1.1.1
      rw [hpre] at hst ⊢
      simp only [Bool.not_false, cond_true, Option.bind_some, hst, cond_false]
      rw [lenB_of (by simp only [List.length_cons, List.length_nil]; omega), cond_true, wrapS (n := (k : Int) + 1) (by omega) (by omega)]
      refine ih _ ⟨k + 1, rfl, by omega, by simp [hll], ?_⟩ (by simp; omega)
      rw [List.append_assoc, ← hq]
      simp only [List.cons_append, List.nil_append]
      rw [show vec s o + (k : Int) + 1 = vec s o + ((k + 1 : Nat) : Int) by omega]
  · rw [decide_eq_false (show ¬ (k : Int) < (xs.length : Int) by omega), cond_false]
    rw [List.drop_eq_nil_of_le (by omega), tk, List.append_nil] at hq
    rw [hq]
end
section
variable {N : Nat}
theorem begun_eq (hN : 400 ≤ N) : Flaw16_begun N = some true := by
  obtain ⟨k, rfl⟩ : ∃ k, N = k + 400 := ⟨N - 400, by omega⟩
  kernel_rfl
theorem ops_self {l : List GOp} (hN : l.length < N) (hl : l.length ≤ 1048576) : Flaw16_ops N l l = some true := by
  unfold Flaw16_ops
  rw [show ((l.length : Int) == (l.length : Int)) = true by simp]
  simp only [Bool.not_true, cond_false]
  refine iter_run (fun q : Slaw16_opsx4 => 0 ≤ q.t13 ∧ q.t13 ≤ l.length) (fun q => (l.length - q.t13).toNat) ?_ N _ ⟨by simp, by simp⟩ (by simp; omega)
  rintro ⟨t⟩ nx ⟨h0, h1⟩ ih
  simp only at ih h0 h1 ⊢
  by_cases hlt : t < l.length
  · rw [decide_eq_true hlt, ibB_of h0 hlt]
    simp only [beq_self_eq_true, Bool.and_self, Bool.not_true, cond_false, cond_true]
    rw [wrapS (by omega) (by omega)]
    exact ih _ ⟨by simp only; omega, by simp only; omega⟩ (by simp; omega)
  · rw [decide_eq_false hlt]; rfl
def good (N : Nat) (s : GSnap) (o : Int) : Int → Int → List GOp → Prop
  | _, _, [] => True
  | n, last, x :: r => ¬ stop N s o n last x ∧ good N s o (n + 1) x.Stamp.Time r
end
section
variable {N : Nat}
def memB (s : GSnap) (i : Int) : Bool := stt s i == 1 || stt s i == 2
def adB (a : GAddr) : Bool := (((decide (0 ≤ a.Group)) && (decide (a.Group < 9))) && (decide (0 ≤ a.Replica))) && (decide (a.Replica < 5))
theorem ad_or (a : GAddr) : ((((decide (a.Group < 0)) || (decide (9 ≤ a.Group))) || (decide (a.Replica < 0))) || (decide (5 ≤ a.Replica))) = !(adB a) := by
  unfold adB
  simp only [Bool.not_and, ← Int.not_le, decide_not, Bool.not_not]
theorem addrs_eq (hN : 3 ≤ N) (a b : GAddr) : Fexchange_addrs N [a, b] = some (adB a && adB b) := by
  obtain ⟨k, rfl⟩ : ∃ k, N = k + 3 := ⟨N - 3, by omega⟩
  have h1 : Fexchange_addrs (k + 3) [a, b] = (bif ((((decide (a.Group < 0)) || (decide (9 ≤ a.Group))) || (decide (a.Replica < 0))) || (decide (5 ≤ a.Replica))) then some false else
    (bif ((((decide (b.Group < 0)) || (decide (9 ≤ b.Group))) || (decide (b.Replica < 0))) || (decide (5 ≤ b.Replica))) then some false else some true)) := by kernel_rfl
  rw [h1, ad_or, ad_or]
  cases adB a <;> cases adB b <;> rfl
def mx (a b : Int) : Int := bif decide (a < b) then b else a
end
end Go.Proofs.Ytekpjhhbmjcbmaa
