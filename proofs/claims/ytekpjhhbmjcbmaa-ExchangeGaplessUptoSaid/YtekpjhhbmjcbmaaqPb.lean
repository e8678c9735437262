/-
Which operations count: the program's answer is the document's; and what it is.
-/
import Derived.Test.YtekpjhhbmjcbmaaqPa
set_option linter.unusedVariables false
set_option linter.unusedSimpArgs false
namespace Go.Proofs.Ytekpjhhbmjcbmaa
open Go Go.Ev
def ck (N : Nat) (op : GOp) : Int := (Fstamp_CheckOp N op).getD 0
theorem ck_eq {N : Nat} (hN : 300 ≤ N) (op : GOp) : Fstamp_CheckOp N op = some (ck N op) ∧ Fref11_CheckOp N op = some (ck N op) := by
  obtain ⟨r, h1, h2⟩ := checkOp_same hN op
  unfold ck; rw [h1]; exact ⟨rfl, h2⟩
def MT : Int := 1099511627776
def stt (s : GSnap) (o : Int) : Int := vget s.Epoch.States o.toNat default
def sls (s : GSnap) (o : Int) : Int := vget s.Epoch.Seals o.toNat default
def vec (s : GSnap) (o : Int) : Int := vget s.Vector_ o.toNat default
def lst (s : GSnap) (o : Int) : Int := vget s.Last o.toNat default
def stop (N : Nat) (s : GSnap) (o number last : Int) (op : GOp) : Prop :=
  MT ≤ number ∨ (stt s o = 3 ∧ sls s o ≤ number) ∨ ck N op ≠ 0 ∨ op.Stamp.Site ≠ o ∨ op.Stamp.Time ≤ last ∨ op.Stamp.Time ≤ s.Frontier
instance (N : Nat) (s : GSnap) (o number last : Int) (op : GOp) : Decidable (stop N s o number last op) := by unfold stop; infer_instance
def tk (N : Nat) (s : GSnap) (o : Int) : Int → Int → List GOp → List GOp
  | _, _, [] => []
  | n, last, op :: r => if stop N s o n last op then [] else op :: tk N s o (n + 1) op.Stamp.Time r
def bad (s : GSnap) (o seq : Int) : Prop := ¬ (0 ≤ o ∧ o < 8) ∨ o = s.Site ∨ stt s o = 0 ∨ seq < 0 ∨ vec s o < seq ∨ MT < vec s o
instance (s : GSnap) (o seq : Int) : Decidable (bad s o seq) := by unfold bad; infer_instance
def take (N : Nat) (s : GSnap) (o seq : Int) (ops : List GOp) : List GOp :=
  if bad s o seq then [] else if (ops.length : Int) ≤ vec s o - seq then [] else tk N s o (vec s o) (lst s o) (ops.drop (vec s o - seq).toNat)
theorem eta_op (x : GOp) : (⟨x.Stamp, x.Kind, x.Node, x.Parent, x.Name, x.Key, x.Value⟩ : GOp) = x := rfl
theorem stop_b (N : Nat) (s : GSnap) (o n last : Int) (op : GOp) :
    ((((((decide (1099511627776 ≤ n)) || ((stt s o == 3) && (decide (sls s o ≤ n)))) || (!(ck N op == 0))) || (!(op.Stamp.Site == o))) || (decide (op.Stamp.Time ≤ last))) || (decide (op.Stamp.Time ≤ s.Frontier))) = decide (stop N s o n last op) := by
  unfold stop MT
  rw [Bool.eq_iff_iff]
  simp only [Bool.or_eq_true, Bool.and_eq_true, decide_eq_true_eq, Bool.not_eq_true', beq_eq_false_iff_ne, beq_iff_eq, or_assoc]
  exact ⟨fun h => decide_eq_true h, fun h => of_decide_eq_true h⟩
section
variable {N : Nat}
theorem wrapS {n : Int} (h1 : -9000000000000000000 ≤ n) (h2 : n ≤ 9000000000000000000) : IntKind.i64.wrap n = n := wrap64 (by omega) (by omega)
theorem site_t {o : Int} (h : 0 ≤ o ∧ o < 8) : ((decide (0 ≤ o)) && (decide (o < 8))) = true := by simp [h.1, h.2]
theorem site_f {o : Int} (h : ¬ (0 ≤ o ∧ o < 8)) : ((decide (0 ≤ o)) && (decide (o < 8))) = false := by
  rw [Bool.eq_false_iff]; intro q; simp only [Bool.and_eq_true, decide_eq_true_eq] at q; exact h q
theorem take_eq {s : GSnap} {o seq : Int} {ops : List GOp} (hN : ops.length + 300 ≤ N) (hl : ops.length ≤ 1048576) : Fexchange_Take N s o seq ops = some (take N s o seq ops) := by
  unfold Fexchange_Take Fexchange_site take
  rw [Option.bind_some]
  by_cases h1 : 0 ≤ o ∧ o < 8
  case neg =>
    rw [site_f h1, if_pos (.inl h1)]; rfl
  rw [site_t h1]
  have hib : ibB o 8 = true := ibB_of h1.1 h1.2
  simp only [hib, Bool.or_true, cond_true, Bool.not_true, Bool.false_or]
  rw [show vget s.Epoch.States o.toNat default = stt s o from rfl, show vget s.Vector_ o.toNat default = vec s o from rfl, show vget s.Last o.toNat default = lst s o from rfl, show vget s.Epoch.Seals o.toNat default = sls s o from rfl]
  by_cases h2 : o = s.Site ∨ stt s o = 0
  · have : (o == s.Site || stt s o == 0) = true := by simpa using h2
    rw [this, if_pos (by rcases h2 with h | h; exact .inr (.inl h); exact .inr (.inr (.inl h)))]; rfl
  have h2' : (o == s.Site || stt s o == 0) = false := by
    rw [Bool.eq_false_iff]; intro q; exact h2 (by simpa using q)
  rw [h2', cond_false]
  by_cases h3 : seq < 0 ∨ vec s o < seq ∨ MT < vec s o
  · have : (((decide (seq < 0) || decide (vec s o < seq)) || decide (1099511627776 < vec s o)) || decide ((ops.length : Int) ≤ IntKind.i64.wrap (vec s o - seq))) = true := by
      unfold MT at h3
      rcases h3 with h | h | h <;> simp [h]
    rw [this, if_pos (by rcases h3 with h | h | h; exact .inr (.inr (.inr (.inl h))); exact .inr (.inr (.inr (.inr (.inl h)))); exact .inr (.inr (.inr (.inr (.inr h)))))]; rfl
  have hnb : ¬ bad s o seq := by
    unfold bad; simp only [not_or] at h2 h3 ⊢
    exact ⟨fun h => h h1, h2.1, h2.2, h3.1, h3.2.1, h3.2.2⟩
  rw [if_neg hnb]
  simp only [not_or, Int.not_lt] at h3
  have hM := h3.2.2; unfold MT at hM
  rw [wrapS (n := vec s o - seq) (by omega) (by omega)]
  have : (((decide (seq < 0) || decide (vec s o < seq)) || decide (1099511627776 < vec s o))) = false := by
    rw [decide_eq_false (by omega), decide_eq_false (by omega), decide_eq_false (by omega)]; rfl
  rw [this, Bool.false_or]
  by_cases h4 : (ops.length : Int) ≤ vec s o - seq
  · rw [if_pos h4, decide_eq_true h4]; rfl
  rw [if_neg h4, decide_eq_false h4, cond_false, cutB_of (by omega) (by omega) (by omega), cond_true]
  have hcut : cut ops (vec s o - seq) (ops.length : Int) = ops.drop (vec s o - seq).toNat := by
    unfold cut; rw [List.take_of_length_le (by simp)]
  rw [hcut]
  have hlen : (ops.drop (vec s o - seq).toNat).length ≤ ops.length := by simp
  generalize ops.drop (vec s o - seq).toNat = xs at *
  generalize hR : tk N s o (vec s o) (lst s o) xs = R
  refine iter_run (fun q : Sexchange_Takex9 => ∃ k : Nat, q.t66 = k ∧ k ≤ xs.length ∧ q.l.length = k ∧ q.l ++ tk N s o (vec s o + k) q.last (xs.drop k) = R) (fun q => (xs.length - q.t66).toNat) ?_ N _
    ⟨0, rfl, by omega, rfl, by simpa using hR⟩ (by simp; omega)
  rintro ⟨l, last, t⟩ nx ⟨k, rfl, hk, hll, hq⟩ ih
  simp only at ih hll hq ⊢
  by_cases hlt : k < xs.length
  · rw [decide_eq_true (show (k : Int) < (xs.length : Int) by omega), ibB_of (Int.natCast_nonneg k) (by omega)]
    have hd : xs.drop k = lget xs (k : Int) default :: xs.drop (k + 1) := by
      have := lget_drop (default : GOp) (Int.natCast_nonneg k) (show (k : Int) < xs.length by omega)
      rw [Int.toNat_natCast] at this
      rw [this]; congr 1
    rw [hd, tk] at hq
    simp only [eta_op, hll]
    generalize lget xs (k : Int) default = op at hq ⊢
    rw [wrapS (n := vec s o + (k : Int)) (by omega) (by omega), (ck_eq (by omega) op).1]
    simp only [cond_true]
    by_cases hs : stop N s o (vec s o + k) last op
    · rw [if_pos hs, List.append_nil] at hq
      have hst := stop_b N s o (vec s o + k) last op
      rw [decide_eq_true hs] at hst
      cases hpre : (decide (1099511627776 ≤ vec s o + (k : Int)) || stt s o == 3 && decide (sls s o ≤ vec s o + (k : Int))) with
      | true =>
        simp only [Bool.not_true, cond_false, Option.bind_some, Bool.true_or, cond_true, hq]
      | false =>
        rw [hpre] at hst
        simp only [Bool.not_false, cond_true, Option.bind_some, hst, hq]
    · rw [if_neg hs] at hq
      have hst := stop_b N s o (vec s o + k) last op
      rw [decide_eq_false hs] at hst
      have hpre : (decide (1099511627776 ≤ vec s o + (k : Int)) || stt s o == 3 && decide (sls s o ≤ vec s o + (k : Int))) = false := by
        simp only [Bool.or_eq_false_iff] at hst
        rw [Bool.or_eq_false_iff]; exact hst.1.1.1.1
      rw [hpre] at hst ⊢
      simp only [Bool.not_false, cond_true, Option.bind_some, hst, cond_false]
      rw [lenB_of (by simp only [List.length_cons, List.length_nil]; omega), cond_true, wrapS (n := (k : Int) + 1) (by omega) (by omega)]
      refine ih _ ⟨k + 1, rfl, by omega, by simp [hll], ?_⟩ (by simp; omega)
      rw [List.append_assoc, ← hq]
      simp only [List.cons_append, List.nil_append]
      rw [show vec s o + (k : Int) + 1 = vec s o + ((k + 1 : Nat) : Int) by omega]
  · rw [decide_eq_false (show ¬ (k : Int) < (xs.length : Int) by omega), cond_false]
    rw [List.drop_eq_nil_of_le (by omega), tk, List.append_nil] at hq
    rw [hq]
theorem reftake_eq {s : GSnap} {o seq : Int} {ops : List GOp} (hN : ops.length + 300 ≤ N) (hl : ops.length ≤ 1048576) : Fref16_Take N s o seq ops = some (take N s o seq ops) := by
  unfold Fref16_Take Fref16_site take
  rw [Option.bind_some]
  by_cases h1 : 0 ≤ o ∧ o < 8
  case neg =>
    rw [site_f h1, if_pos (.inl h1)]; rfl
  rw [site_t h1]
  have hib : ibB o 8 = true := ibB_of h1.1 h1.2
  simp only [hib, Bool.or_true, cond_true, Bool.not_true, Bool.false_or]
  rw [show vget s.Epoch.States o.toNat default = stt s o from rfl, show vget s.Vector_ o.toNat default = vec s o from rfl, show vget s.Last o.toNat default = lst s o from rfl, show vget s.Epoch.Seals o.toNat default = sls s o from rfl]
  by_cases hb : bad s o seq
  · have : (((((o == s.Site || stt s o == 0) || decide (seq < 0)) || decide (vec s o < seq)) || decide (1099511627776 < vec s o))) = true := by
      rcases hb with h | h | h | h | h | h
      · exact absurd h1 h
      · simp [h]
      · simp [h]
      · simp [h]
      · simp [h]
      · unfold MT at h; simp [h]
    rw [this, if_pos hb]; rfl
  have hb' : (((((o == s.Site || stt s o == 0) || decide (seq < 0)) || decide (vec s o < seq)) || decide (1099511627776 < vec s o))) = false := by
    rw [Bool.eq_false_iff]; intro q
    apply hb
    simp only [Bool.or_eq_true, beq_iff_eq, decide_eq_true_eq] at q
    unfold bad MT
    rcases q with (((q | q) | q) | q) | q
    · exact .inr (.inl q)
    · exact .inr (.inr (.inl q))
    · exact .inr (.inr (.inr (.inl q)))
    · exact .inr (.inr (.inr (.inr (.inl q))))
    · exact .inr (.inr (.inr (.inr (.inr q))))
  rw [hb', if_neg hb, cond_false]
  unfold bad at hb
  simp only [not_or, Int.not_lt] at hb
  obtain ⟨_, _, _, b1, b2, b3⟩ := hb
  unfold MT at b3
  generalize hR : (if (ops.length : Int) ≤ vec s o - seq then [] else tk N s o (vec s o) (lst s o) (ops.drop (vec s o - seq).toNat)) = R
  refine iter_run (fun q : Sref16_Takex7 => ∃ k : Nat, q.i = k ∧ k ≤ ops.length ∧ q.number = seq + k ∧ q.l.length ≤ k ∧
      ((q.number < vec s o ∧ q.l = [] ∧ q.last = lst s o) ∨ (vec s o ≤ q.number ∧ q.l ++ tk N s o q.number q.last (ops.drop k) = R))) (fun q => (ops.length - q.i).toNat) ?_ N _ ⟨0, rfl, by omega, by simp, by simp, ?_⟩ (by simp; omega)
  · rintro ⟨l, last, number, i⟩ nx ⟨k, rfl, hk, rfl, hll, hq⟩ ih
    simp only at ih hll hq ⊢
    by_cases hlt : k < ops.length
    · rw [decide_eq_true (show (k : Int) < (ops.length : Int) by omega), ibB_of (Int.natCast_nonneg k) (by omega)]
      have hd : ops.drop k = lget ops (k : Int) default :: ops.drop (k + 1) := by
        have := lget_drop (default : GOp) (Int.natCast_nonneg k) (show (k : Int) < ops.length by omega)
        rw [Int.toNat_natCast] at this
        rw [this]; congr 1
      simp only [cond_true, eta_op]
      rw [wrapS (n := (k : Int) + 1) (by omega) (by omega), wrapS (n := seq + (k : Int) + 1) (by omega) (by omega)]
      rcases hq with ⟨q1, q2, q3⟩ | ⟨q1, q2⟩
      · rw [decide_eq_false (show ¬ vec s o ≤ seq + (k : Int) by omega), cond_false]
        refine ih _ ⟨k + 1, rfl, by omega, by simp; omega, by simp [q2], ?_⟩ (by simp; omega)
        subst q2 q3
        by_cases hv : seq + (k : Int) + 1 < vec s o
        · exact .inl ⟨hv, rfl, rfl⟩
        · refine .inr ⟨by simp only; omega, ?_⟩
          rw [← hR, List.nil_append]
          by_cases hlen : (ops.length : Int) ≤ vec s o - seq
          · rw [if_pos hlen, List.drop_eq_nil_of_le (by omega), tk]
          · rw [if_neg hlen, show (vec s o - seq).toNat = k + 1 by omega, show seq + (k : Int) + 1 = vec s o by omega]
      · rw [decide_eq_true q1]
        rw [hd, tk] at q2
        generalize lget ops (k : Int) default = op at q2 ⊢
        rw [(ck_eq (by omega) op).2]
        simp only [cond_true]
        by_cases hs : stop N s o (seq + k) last op
        · rw [if_pos hs, List.append_nil] at q2
          have hst := stop_b N s o (seq + k) last op
          rw [decide_eq_true hs] at hst
          cases hpre : (decide (1099511627776 ≤ seq + (k : Int)) || stt s o == 3 && decide (sls s o ≤ seq + (k : Int))) with
          | true => simp only [cond_true, q2]
          | false =>
            rw [hpre] at hst
            simp only [Bool.false_or] at hst
            simp only [cond_false, Option.bind_some, hst, cond_true, q2]
        · rw [if_neg hs] at q2
          have hst := stop_b N s o (seq + k) last op
          rw [decide_eq_false hs] at hst
          have hpre : (decide (1099511627776 ≤ seq + (k : Int)) || stt s o == 3 && decide (sls s o ≤ seq + (k : Int))) = false := by
            simp only [Bool.or_eq_false_iff] at hst
            rw [Bool.or_eq_false_iff]; exact hst.1.1.1.1
          rw [hpre] at hst ⊢
          simp only [Bool.false_or] at hst
          simp only [cond_false, Option.bind_some, hst]
          rw [lenB_of (by simp only [List.length_cons, List.length_nil]; omega), cond_true]
          refine ih _ ⟨k + 1, rfl, by omega, by simp; omega, by simp; omega, .inr ⟨by simp only; omega, ?_⟩⟩ (by simp; omega)
          rw [List.append_assoc, ← q2]
          simp only [List.cons_append, List.nil_append]
    · rw [decide_eq_false (show ¬ (k : Int) < (ops.length : Int) by omega), cond_false]
      rcases hq with ⟨q1, q2, q3⟩ | ⟨q1, q2⟩
      · rw [if_pos (by omega)] at hR
        rw [q2, ← hR]
      · rw [List.drop_eq_nil_of_le (by omega), tk, List.append_nil] at q2
        rw [q2]
  · simp only
    by_cases hv : seq < vec s o
    · exact .inl ⟨by omega, by first | rfl | trivial, by first | rfl | trivial⟩
    · refine .inr ⟨by omega, ?_⟩
      rw [← hR, List.nil_append]
      by_cases hlen : (ops.length : Int) ≤ vec s o - seq
      · rw [if_pos hlen]
        have : ops = [] := List.eq_nil_of_length_eq_zero (by omega)
        subst this; rfl
      · rw [if_neg hlen, show (vec s o - seq).toNat = 0 by omega, show seq = vec s o by omega, List.drop_zero]
end
end Go.Proofs.Ytekpjhhbmjcbmaa
