/-
Plain laws of another seat, turned to this one by wip/tools/ren2.py.
-/
import Derived.Test.YtphjnagmlgmdfaaqFo
import Derived.Test.YtphjnagmlgmdfaaqTvT
import Derived.Test.YtphjnagmlgmdfaaqTvT
import Derived.KernelRfl
set_option linter.unusedVariables false
set_option linter.unusedSimpArgs false
namespace Go.Proofs.Ytphjnagmlgmdfaa
open Go Go.Ev
section
variable {N : Nat}
theorem refCheck (N : Nat) (s : GStamp) : Fref11_Check N s = Fstamp_Check N s := by
  unfold Fref11_Check Fstamp_Check Fref11_Site
  cases decide (1 ≤ s.Time) <;> cases decide (s.Time ≤ 1099511627776) <;> simp
theorem refNode (N : Nat) (s : GStamp) : Fref11_Node N s = Fstamp_Node N s := by
  unfold Fref11_Node Fstamp_Node; rw [refCheck]
theorem refOf (N : Nat) (n : Int) : Fref11_Of N n = Fstamp_Of N n := by
  unfold Fref11_Of Fstamp_Of; rw [refCheck]
theorem refmade (N : Nat) (n : Int) : Fref11_made N n = Fstamp_made N n := by
  unfold Fref11_made Fstamp_made; rw [refOf]
theorem check_some (N : Nat) (s : GStamp) : ∃ b, Fstamp_Check N s = some b := ⟨_, rfl⟩
theorem node_some (N : Nat) (s : GStamp) : ∃ b, Fstamp_Node N s = some b := by
  obtain ⟨b, h⟩ := check_some N s
  unfold Fstamp_Node; rw [h, Option.bind_some]
  cases b <;> exact ⟨_, rfl⟩
theorem made_some (N : Nat) (n : Int) : ∃ b, Fstamp_made N n = some b := by
  unfold Fstamp_made Fstamp_Of
  cases decide (n < 16) with
  | true => exact ⟨_, rfl⟩
  | false =>
    simp only [cond_false]
    obtain ⟨b, h⟩ := check_some N ⟨IntKind.i64.wrap (Int.tdiv (IntKind.i64.wrap (n - 16)) 8), Int.tmod (IntKind.i64.wrap (n - 16)) 8⟩
    rw [h, Option.bind_some]
    cases b <;> exact ⟨_, rfl⟩
theorem top_some (N : Nat) (n : Int) : ∃ b, Fstamp_top N n = some b := ⟨_, rfl⟩
theorem indexByte_nonneg (c : UInt8) : ∀ l : List UInt8, 0 ≤ Lib.indexByte l c ∨ Lib.indexByte l c = -1
  | [] => .inr rfl
  | b :: l => by
    have ih := indexByte_nonneg c l
    unfold Lib.indexByte
    split
    · exact .inl (by omega)
    · split
      · exact .inr rfl
      · rename_i h
        have : Lib.indexByte l c ≠ -1 := fun e => h (by simp [e])
        rcases ih with h1 | h1
        · exact .inl (by omega)
        · exact absurd h1 this
theorem indexByte_iff (c : UInt8) : ∀ l : List UInt8, (0 ≤ Lib.indexByte l c ↔ c ∈ l)
  | [] => by simp [Lib.indexByte]
  | b :: l => by
    have ih := indexByte_iff c l
    have hn := indexByte_nonneg c l
    unfold Lib.indexByte
    rw [List.mem_cons]
    by_cases hb : b = c
    · subst hb; simp
    · rw [if_neg (by simpa using hb)]
      by_cases hm : c ∈ l
      · have h0 := ih.2 hm
        rw [if_neg (by simp; omega)]
        exact ⟨fun _ => .inr hm, fun _ => by omega⟩
      · have h0 : ¬ 0 ≤ Lib.indexByte l c := fun h => hm (ih.1 h)
        have h1 : Lib.indexByte l c = -1 := hn.resolve_left h0
        rw [if_pos (by simp [h1])]
        refine ⟨fun h => absurd h (by decide), fun h => ?_⟩
        rcases h with h | h
        · exact absurd h.symm hb
        · exact absurd h hm
theorem contains_eq (N : Nat) (s : List UInt8) : Fstrings_Contains N s [47] = some (decide ((47 : UInt8) ∈ s)) := by
  unfold Fstrings_Contains Fstrings_Index Finternal_stringslite_Index
  by_cases h : s = [47]
  · subst h; rfl
  · have h1 : (([47] : List UInt8) == s) = false := by
      rw [beq_eq_false_iff_ne]; exact fun e => h e.symm
    rw [h1]
    simp only [List.length_cons, List.length_nil]
    rw [show ((((0 + 1 : Nat) : Int) == 0) || false) = false from rfl, show (((0 + 1 : Nat) : Int) == 1) = true from rfl, show ibB 0 ((0 + 1 : Nat) : Int) = true from rfl]
    simp only [cond_true, cond_false]
    unfold Finternal_stringslite_IndexByte Finternal_bytealg_IndexByteString
    simp only [Option.bind_some]
    congr 1
    have := indexByte_iff 47 s
    rw [show ((([47] : List UInt8).getD 0 0).toNat : Int).toNat.toUInt8 = 47 from rfl]
    by_cases hm : (47 : UInt8) ∈ s
    · rw [decide_eq_true hm, decide_eq_true (this.2 hm)]
    · rw [decide_eq_false hm, decide_eq_false (fun q => hm (this.1 q))]
theorem name_eq (hN : 300 ≤ N) (s : List UInt8) : Fref11_name N s = some (if 255 < s.length then 3 else if s = [] ∨ s = [46] ∨ s = [46, 46] ∨ (47 : UInt8) ∈ s then 1 else 0) := by
  unfold Fref11_name
  by_cases hl : 255 < s.length
  · rw [if_pos hl, decide_eq_true (show (255 : Int) < (s.length : Int) by omega)]; rfl
  rw [if_neg hl, decide_eq_false (show ¬ (255 : Int) < (s.length : Int) by omega), cond_false]
  by_cases h3 : s = [] ∨ s = [46] ∨ s = [46, 46]
  · have : ((s == [] || s == [46]) || s == [46, 46]) = true := by
      rcases h3 with h | h | h <;> simp [h]
    rw [this, cond_true, if_pos (by rcases h3 with h | h | h <;> simp [h])]
  have hb : ((s == [] || s == [46]) || s == [46, 46]) = false := by
    simp only [not_or] at h3
    simp only [Bool.or_eq_false_iff, beq_eq_false_iff_ne]
    exact ⟨⟨h3.1, h3.2.1⟩, h3.2.2⟩
  rw [hb, cond_false]
  refine iter_run (fun q : Sref11_namex6 => ∃ k : Nat, q.i = k ∧ k ≤ s.length ∧ ((47 : UInt8) ∉ s.take k)) (fun q => (s.length - q.i).toNat) ?_ N _ ⟨0, rfl, by omega, by simp⟩ (by simp; omega)
  rintro ⟨i⟩ nx ⟨k, rfl, hk, hq⟩ ih
  simp only at ih ⊢
  by_cases hlt : k < s.length
  · rw [decide_eq_true (show (k : Int) < (s.length : Int) by omega), ibB_of (Int.natCast_nonneg k) (by omega)]
    simp only [cond_true, Int.toNat_natCast]
    have hg : s.getD k 0 = s[k] := by simp [List.getD, hlt]
    rw [hg]
    by_cases hc : s[k] = 47
    · rw [hc, show ((((47 : UInt8).toNat : Nat) : Int) == 47) = true from rfl, cond_true, if_pos]
      exact .inr (.inr (.inr (hc ▸ List.getElem_mem hlt)))
    · have : ((((s[k]).toNat : Nat) : Int) == 47) = false := by
        rw [beq_eq_false_iff_ne]; intro h
        apply hc
        apply UInt8.toNat_inj.1
        rw [show (47 : UInt8).toNat = 47 from rfl]; omega
      rw [this, cond_false, wrap64 (by omega) (by omega)]
      refine ih _ ⟨k + 1, rfl, by omega, ?_⟩ (by simp; omega)
      rw [List.take_add_one, List.mem_append]
      rintro (h | h)
      · exact hq h
      · simp [hlt] at h; exact hc h.symm
  · rw [decide_eq_false (show ¬ (k : Int) < (s.length : Int) by omega), cond_false, if_neg]
    rw [List.take_of_length_le (by omega)] at hq
    simp only [not_or] at h3 ⊢
    exact ⟨h3.1, h3.2.1, h3.2.2, hq⟩
theorem place_same (hN : 300 ≤ N) (op : GOp) : ∃ r, Fstamp_place N op = some r ∧ Fref11_place N op = some r := by
  unfold Fstamp_place Fref11_place
  obtain ⟨t, ht⟩ := top_some N op.Parent
  obtain ⟨m, hm⟩ := made_some N op.Parent
  have ht' : Fref11_top N op.Parent = some t := ht
  rw [ht, ht', refmade, hm, name_eq hN, contains_eq]
  simp only [Option.bind_some]
  have hd : ∃ m', (bif !t then some m else some default) = some m' ∧ ((!t && !m') = (!t && !m)) := by cases t <;> exact ⟨_, rfl, rfl⟩
  obtain ⟨m', h1, h2⟩ := hd
  rw [h1]
  simp only [Option.bind_some, h2]
  cases hq : (!t && !m) with
  | true => exact ⟨_, rfl, rfl⟩
  | false =>
    simp only [cond_false]
    by_cases hl : 255 < op.Name.length
    · rw [decide_eq_true (show (255 : Int) < (op.Name.length : Int) by omega), if_pos hl]
      exact ⟨_, rfl, rfl⟩
    · rw [decide_eq_false (show ¬ (255 : Int) < (op.Name.length : Int) by omega), if_neg hl]
      simp only [cond_false]
      by_cases h3 : ((op.Name == [] || op.Name == [46]) || op.Name == [46, 46]) = true
      · have : op.Name = [] ∨ op.Name = [46] ∨ op.Name = [46, 46] ∨ (47 : UInt8) ∈ op.Name := by
          simp only [Bool.or_eq_true, beq_iff_eq] at h3
          rcases h3 with (h | h) | h
          · exact .inl h
          · exact .inr (.inl h)
          · exact .inr (.inr (.inl h))
        rw [h3, if_pos this]
        exact ⟨_, rfl, rfl⟩
      · rw [Bool.not_eq_true] at h3
        rw [h3]
        simp only [Bool.not_false, cond_true, Option.bind_some, Bool.false_or]
        simp only [Bool.or_eq_false_iff, beq_eq_false_iff_ne] at h3
        by_cases hc : (47 : UInt8) ∈ op.Name
        · rw [decide_eq_true hc, if_pos (.inr (.inr (.inr hc)))]
          exact ⟨_, rfl, rfl⟩
        · rw [decide_eq_false hc, if_neg (by simp only [not_or]; exact ⟨h3.1.1, h3.1.2, h3.2, hc⟩)]
          simp only [Bool.false_or, beq_self_eq_true, Bool.not_true, cond_false]
          cases (!op.Key == [] || !op.Value == []) <;> exact ⟨_, rfl, rfl⟩
theorem checkOp_same (hN : 300 ≤ N) (op : GOp) : ∃ r, Fstamp_CheckOp N op = some r ∧ Fref11_CheckOp N op = some r := by
  unfold Fstamp_CheckOp Fref11_CheckOp
  obtain ⟨c, hc⟩ := check_some N op.Stamp
  obtain ⟨n, hn⟩ := node_some N op.Stamp
  obtain ⟨m, hm⟩ := made_some N op.Node
  obtain ⟨t, ht⟩ := top_some N op.Node
  have ht' : Fref11_top N op.Node = some t := ht
  obtain ⟨p, hp1, hp2⟩ := place_same hN op
  rw [refCheck, refNode, refmade, hc, hn, hm, ht, ht', hp1, hp2]
  simp only [Option.bind_some]
  cases hb : ((!c || decide (op.Kind < 1)) || decide (3 < op.Kind)) with
  | true => exact ⟨_, rfl, rfl⟩
  | false =>
    simp only [Bool.or_eq_false_iff, decide_eq_false_iff_not] at hb
    have hk : op.Kind = 1 ∨ op.Kind = 2 ∨ op.Kind = 3 := by omega
    rcases hk with hk | hk | hk
    · rw [hk]
      simp only [show ((1 : Int) == 1) = true from rfl, show ((1 : Int) == 2) = false from rfl, show ((1 : Int) == 3) = false from rfl, Bool.not_false, Bool.true_and, Bool.false_or, cond_true, cond_false, Option.bind_some, Bool.false_and, Bool.and_false, Bool.or_self, Bool.not_true]
      cases (!op.Node == n) with
      | true => exact ⟨_, rfl, rfl⟩
      | false =>
        simp only [cond_false]
        cases (!p == 0) <;> exact ⟨_, rfl, rfl⟩
    · rw [hk]
      simp only [show ((2 : Int) == 1) = false from rfl, show ((2 : Int) == 2) = true from rfl, show ((2 : Int) == 3) = false from rfl, Bool.not_false, Bool.true_and, Bool.false_or, cond_true, cond_false, Option.bind_some, Bool.false_and, Bool.and_false, Bool.or_self, Bool.not_true, Bool.or_false]
      cases (!p == 0) with
      | true => exact ⟨_, rfl, rfl⟩
      | false => cases m <;> exact ⟨_, rfl, rfl⟩
    · rw [hk]
      simp only [show ((3 : Int) == 1) = false from rfl, show ((3 : Int) == 2) = false from rfl, show ((3 : Int) == 3) = true from rfl, Bool.not_false, Bool.true_and, Bool.false_or, cond_true, cond_false, Option.bind_some, Bool.false_and, Bool.and_false, Bool.or_self, Bool.not_true, Bool.or_false]
      cases m <;> cases t <;> simp only [Bool.not_true, Bool.not_false, cond_true, cond_false, Option.bind_some, Bool.true_and, Bool.false_and, Bool.and_true, Bool.and_false] <;> first
        | exact ⟨_, rfl, rfl⟩
        | (cases (decide (255 < (op.Key.length : Int)) || decide (255 < (op.Value.length : Int))) with
          | true => exact ⟨_, rfl, rfl⟩
          | false => simp only [cond_false]; cases ((op.Key == [] || !op.Parent == 0) || !op.Name == []) <;> exact ⟨_, rfl, rfl⟩)
end
end Go.Proofs.Ytphjnagmlgmdfaa
