/-
The plain law of ExchangeOwn: what is pushed, what an entry becomes, what is taken; copies are the same.
-/
import Derived.Test.YtekpjhhbmjcbmaaqQa
set_option linter.unusedVariables false
set_option linter.unusedSimpArgs false
set_option maxRecDepth 100000
namespace Go.Proofs.Ytekpjhhbmjcbmaa
open Go Go.Ev
section
variable {N : Nat}
def Pm (m : GMsg) : Prop := m.List_ = [] ∧ m.Ops.length ≤ 16 ∧ m.Entry.Ops = [] ∧ m.Entry.Part.Data = [] ∧ m.Part.Data = []
theorem Pm.small {m : GMsg} (h : Pm m) : smallM m := by
  obtain ⟨h1, h2, h3, h4, h5⟩ := h
  refine ⟨⟨by rw [h1]; simp, by rw [h1]; simp⟩, ⟨by rw [h3]; simp, by rw [h4]; simp⟩, by omega, by rw [h5]; simp⟩
def pushN (most : Int) (l : List GOp) : Int := bif decide (most < (bif decide (16 < (l.length : Int)) then 16 else (l.length : Int))) then most else (bif decide (16 < (l.length : Int)) then 16 else (l.length : Int))
theorem pushN_le (most : Int) (l : List GOp) : pushN most l ≤ most ∧ pushN most l ≤ 16 ∧ pushN most l ≤ l.length ∧ (0 < most → 0 < l.length → 0 < pushN most l) := by
  have e (a b : Int) : (bif decide (a < b) then a else b) = if a < b then a else b := by
    by_cases h : a < b <;> simp [h]
  unfold pushN
  rw [e, e]
  split <;> split <;> omega
theorem count_eq (n : Int) : Fexchange_count N n = some (decide (0 ≤ n ∧ n ≤ 1099511627776)) := by
  unfold Fexchange_count
  rw [Bool.decide_and]
theorem pushes_tot {s : GSnap} {from_ to : GAddr} {most : Int} (hN : 1048600 ≤ N) (hm : 0 ≤ most ∧ most ≤ 1000) (hk : ∀ o : Nat, o < 8 → (vget s.Kept o default).length ≤ 1048576) (ht : 0 ≤ to.Group ∧ to.Group < 8) :
    ∃ l, Fexchange_pushes N s from_ to most = some l ∧ (l.length : Int) ≤ most ∧ ∀ m ∈ l, Pm m := by
  have hib : ibB to.Group 8 = true := ibB_of ht.1 ht.2
  unfold Fexchange_pushes
  refine iter_post (fun s1 => 0 ≤ s1.t15 ∧ s1.t15 ≤ 8 ∧ 0 ≤ s1.most ∧ (s1.l.length : Int) + s1.most ≤ most ∧ ∀ m ∈ s1.l, Pm m) (fun s1 => 8 - s1.t15.toNat) _ ?_ N _ ⟨by simp, by simp, hm.1, by simp, by simp⟩ (by simp; omega)
  rintro ⟨mo, l, o⟩ next ⟨p1, p2, p3, p4, p5⟩ hn
  simp only at p1 p2 p3 p4 p5
  by_cases ho : o < 8
  · have e1 : decide (o < 8) = true := by simpa using ho
    have e2 : ibB o 8 = true := ibB_of p1 ho
    have hw : IntKind.i64.wrap (o + 1) = o + 1 := wrap64 (by omega) (by omega)
    have hstep : ∃ r, next ⟨mo, l, o + 1⟩ = some r ∧ (r.length : Int) ≤ most ∧ ∀ m ∈ r, Pm m := hn _ ⟨by simp only; omega, by simp only; omega, p3, p4, p5⟩ (by simp only; omega)
    simp only [e1, e2, hib, cond_true, hw, Bool.or_true, count_eq, Option.bind_some]
    generalize hkk : vget (vget s.Known to.Group.toNat default) o.toNat default = k
    generalize hss : vget s.Starts o.toNat default = st
    have hkl := hk o.toNat (by omega)
    generalize vget s.Kept o.toNat default = kl at *
    by_cases hc : (0 ≤ k ∧ k ≤ 1099511627776) ∧ (0 ≤ st ∧ st ≤ 1099511627776) ∧ ¬ k < st
    case neg =>
      have : ∃ b, (bif !(!(decide (0 ≤ k ∧ k ≤ 1099511627776))) then some (decide (0 ≤ st ∧ st ≤ 1099511627776)) else some default) = some b ∧ ((!(decide (0 ≤ k ∧ k ≤ 1099511627776)) || !b) || decide (k < st)) = true := by
        by_cases c1 : 0 ≤ k ∧ k ≤ 1099511627776
        · rw [decide_eq_true c1]
          refine ⟨_, rfl, ?_⟩
          by_cases c2 : 0 ≤ st ∧ st ≤ 1099511627776
          · rw [decide_eq_true (show k < st by
              by_cases q : k < st
              · exact q
              · exact absurd ⟨c1, c2, q⟩ hc)]; simp
          · rw [decide_eq_false c2]; simp
        · rw [decide_eq_false c1]; exact ⟨_, rfl, rfl⟩
      obtain ⟨b, e, eb⟩ := this
      rw [e]
      simp only [Option.bind_some, eb, Bool.true_or, cond_true]
      exact hstep
    obtain ⟨c1, c2, c3⟩ := hc
    rw [decide_eq_true c1, decide_eq_true c2, decide_eq_false c3]
    simp only [Bool.not_true, Bool.not_false, cond_true, Option.bind_some, Bool.false_or, Bool.or_self]
    rw [wrap64 (n := k - st) (by omega) (by omega)]
    by_cases hd : (kl.length : Int) ≤ k - st
    · rw [decide_eq_true hd]; exact hstep
    rw [decide_eq_false hd, cutB_of (by omega) (by omega) (Int.le_refl _)]
    simp only [cond_true, cond_false]
    refine iter_post (fun s5 => 0 ≤ s5.most ∧ (s5.l.length : Int) + s5.most ≤ most ∧ (∀ m ∈ s5.l, Pm m) ∧ s5.ops.length ≤ 1048576) (fun s5 => s5.ops.length) _ ?_ N _ ⟨p3, p4, p5, by simp only [cut, List.length_take, List.length_drop]; omega⟩ (by simp only [cut, List.length_take, List.length_drop]; omega)
    rintro ⟨mo, l, k, ops⟩ nx ⟨q1, q2, q3, q4⟩ hnx
    simp only at q1 q2 q3 q4
    by_cases hz : 0 < (ops.length : Int)
    · rw [decide_eq_true hz]
      simp only [cond_true]
      rw [show (bif decide (mo < (bif decide (16 < (ops.length : Int)) then 16 else (ops.length : Int))) then mo else (bif decide (16 < (ops.length : Int)) then 16 else (ops.length : Int))) = pushN mo ops from rfl]
      obtain ⟨n1, n2, n3, n4⟩ := pushN_le mo ops
      generalize pushN mo ops = n at *
      by_cases hn0 : n ≤ 0
      · rw [decide_eq_true hn0]
        exact ⟨l, rfl, by omega, q3⟩
      · have hcl : (cut ops 0 n).length ≤ 16 := by simp only [cut, List.length_take, List.length_drop]; omega
        rw [decide_eq_false hn0, cutB_of (Int.le_refl _) (by omega) n3, cutB_of (by omega) n3 (Int.le_refl _)]
        simp only [cond_true, cond_false]
        rw [cloneOps_eq (by omega), Option.bind_some, lenB_of (by simp only [List.length_singleton]; omega), cond_true]
        refine hnx _ ⟨?_, ?_, ?_, ?_⟩ ?_
        · simp only; rw [wrap64 (by omega) (by omega)]; omega
        · simp only [List.length_append, List.length_singleton]; rw [wrap64 (by omega) (by omega)]; omega
        · intro m hm
          rcases List.mem_append.1 hm with hm | hm
          · exact q3 m hm
          · rw [List.mem_singleton.1 hm]; exact ⟨rfl, hcl, rfl, rfl, rfl⟩
        · simp only [cut, List.length_take, List.length_drop]; omega
        · simp only [cut, List.length_take, List.length_drop]; omega
    · rw [decide_eq_false hz]
      simp only [cond_false]
      exact hn _ ⟨by simp only; omega, by simp only; omega, q1, q2, q3⟩ (by simp only; omega)
  · have e1 : decide (o < 8) = false := by simpa using ho
    simp only [e1, cond_false]
    exact ⟨l, rfl, by omega, p5⟩
theorem push_tot {s : GSnap} {from_ to : GAddr} {most : Int} (hN : 1048600 ≤ N) (hm : 0 ≤ most ∧ most ≤ 1000) (hk : ∀ o : Nat, o < 8 → (vget s.Kept o default).length ≤ 1048576) :
    ∃ l, Fexchange_Push N s from_ to most = some l ∧ (l.length : Int) ≤ most ∧ ∀ m ∈ l, Pm m := by
  unfold Fexchange_Push Fexchange_site
  rw [addrs_eq (by omega), Option.bind_some]
  cases hq : (adB from_ && adB to) with
  | false => exact ⟨[], rfl, by simp; omega, by simp⟩
  | true =>
    simp only [cond_true, Option.bind_some, Bool.true_and]
    by_cases ht : 0 ≤ to.Group ∧ to.Group < 8
    · rw [site_t ht]
      obtain ⟨l, h, h'⟩ := pushes_tot (from_ := from_) hN hm hk ht
      rw [h]
      exact ⟨l, rfl, h'⟩
    · rw [site_f ht]
      exact ⟨[], rfl, by simp; omega, by simp⟩
theorem yields_eq {z0 z04 z05 z08 : GSnap} {z02 z06 z07 : GMsg} {z03 z09 z010 : GStamp} {l : List GMsg} (hN : 1048600 ≤ N) (hl : l.length ≤ 1000) (hp : ∀ m ∈ l, Pm m) :
    Fexchange_Push_1_f79 N z0 z02 z03 z04 z05 z06 z07 z08 z09 z010 l = some (z0, z02, z03, z04, z05, z06, z07, z08, z09, z010, l) := by
  unfold Fexchange_Push_1_f79
  refine iter_run (fun s => 0 ≤ s.t7 ∧ s.t7 ≤ (l.length : Int) ∧ s = ⟨s.t7, z0, z02, z03, z04, z05, z06, z07, z08, z09, z010⟩) (fun s => l.length - s.t7.toNat) ?_ N _ ⟨by simp, by simp, rfl⟩ (by simp; omega)
  rintro s next ⟨p1, p2, p3⟩ hn
  generalize s.t7 = t at *
  subst p3
  by_cases ht : t < l.length
  · rw [decide_eq_true ht, ibB_of p1 ht]
    simp only [cond_true]
    have hm := hp _ (lget_mem default p1 ht)
    change (Frecord_CloneMsg N (lget l t default)).bind _ = _
    rw [cloneMsgM_eq (by rw [hm.1]; simp; omega) hm.small, Option.bind_some]
    simp only
    have := hm.2.1
    obtain ⟨q, h⟩ := round_eq (N := N) (x := (lget l t default).Kind) (x2 := ⟨(lget l t default).From.Group, (lget l t default).From.Replica⟩) (x3 := ⟨(lget l t default).To.Group, (lget l t default).To.Replica⟩) (x4 := ⟨(lget l t default).Ballot.Round, (lget l t default).Ballot.Replica⟩) (x5 := (lget l t default).Slot) (x6 := (lget l t default).List_.length) (x7 := (lget l t default).Entry) (x8 := (lget l t default).Number) (x9 := (lget l t default).Vector_) (x10 := (lget l t default).Clock) (x11 := (lget l t default).Origin) (x12 := (lget l t default).Ops.length) (x13 := (lget l t default).Epoch) (x14 := (lget l t default).Part.Snap) (x15 := (lget l t default).Part.Index) (x16 := (lget l t default).Part.Many) (x17 := (lget l t default).Part.Data.length) (s := z0) (m := z02) (to := z03) (x18 := z04) (x19 := z05) (x20 := z06) (x21 := z07) (x22 := z08) (x23 := z09) (x24 := z010) (b1 := (lget l t default).List_) (b2 := (lget l t default).Ops) (b3 := (lget l t default).Part.Data) (by omega) (by omega) (Nat.le_refl _)
    rw [h, Option.bind_some, wrap64 (by omega) (by omega)]
    exact hn _ ⟨by simp only; omega, by simp only; omega, rfl⟩ (by simp only; omega)
  · rw [decide_eq_false ht]; rfl
theorem entry_tot {m : GMsg} (hN : 1048600 ≤ N) (hr : roomM N m) (hs : smallM m) :
    ∃ e, Fexchange_Entry N m = some e ∧ (e.2.2.2.2.2.2.1 ≤ 1048576 ∧ e.2.2.2.2.2.2.1 ≤ e.2.2.2.2.2.2.2.2.2.2.2.2.2.2.2.2.2.2.2.1.length) ∧ (e.2.2.2.2.2.2.2.2.2.2.2.2.2.2.1 ≤ 1048576 ∧ e.2.2.2.2.2.2.2.2.2.2.2.2.2.2.1 ≤ e.2.2.2.2.2.2.2.2.2.2.2.2.2.2.2.2.2.2.2.2.length) := by
  unfold Fexchange_Entry Fexchange_site
  rw [checkMsg_eq (by omega) hr, Option.bind_some]
  have h4 := hs.2.2.1
  have h5 := hs.2.2.2
  refine tot_condQ ⟨_, rfl, ⟨Nat.zero_le _, Nat.zero_le _⟩, ⟨Nat.zero_le _, Nat.zero_le _⟩⟩ ?_
  rw [cloneMsgM_eq (by have := hs.1.1; omega) hs, Option.bind_some]
  simp only
  refine tot_bindQ (tot_cond ⟨_, rfl⟩ ⟨_, rfl⟩) fun _ => tot_condQ ⟨_, rfl, ⟨Nat.zero_le _, Nat.zero_le _⟩, ⟨Nat.zero_le _, Nat.zero_le _⟩⟩ ?_
  refine tot_bindQ (tot_cond ⟨_, rfl⟩ ⟨_, rfl⟩) fun _ => tot_condQ ⟨_, rfl, ⟨h4, Nat.le_refl _⟩, ⟨Nat.zero_le _, Nat.zero_le _⟩⟩ ?_
  refine tot_condQ ⟨_, rfl, ⟨Nat.zero_le _, Nat.zero_le _⟩, ⟨Nat.zero_le _, Nat.zero_le _⟩⟩ ?_
  exact tot_condQ ⟨_, rfl, ⟨Nat.zero_le _, Nat.zero_le _⟩, ⟨h5, Nat.le_refl _⟩⟩ ⟨_, rfl, ⟨Nat.zero_le _, Nat.zero_le _⟩, ⟨Nat.zero_le _, Nat.zero_le _⟩⟩
theorem take_tot {s : GSnap} {o seq : Int} {ops : List GOp} (hN : 1048600 ≤ N) (hl : ops.length ≤ 1048576) : ∃ r, Fexchange_Take_38e N s o seq ops = some r ∧ r.1 ≤ 1048576 ∧ r.1 ≤ r.2.length := by
  unfold Fexchange_Take_38e Fexchange_site
  rw [Option.bind_some]
  by_cases h1 : 0 ≤ o ∧ o < 8
  case neg => rw [site_f h1]; exact ⟨_, rfl, Nat.zero_le _, Nat.zero_le _⟩
  rw [site_t h1]
  have hib : ibB o 8 = true := ibB_of h1.1 h1.2
  simp only [hib, Bool.or_true, cond_true, Bool.not_true, Bool.false_or]
  refine tot_condQ ⟨_, rfl, Nat.zero_le _, Nat.zero_le _⟩ ?_
  generalize hv : vget s.Vector_ o.toNat default = v
  cases hc : (((decide (seq < 0) || decide (v < seq)) || decide (1099511627776 < v)) || decide ((ops.length : Int) ≤ IntKind.i64.wrap (v - seq))) with
  | true => exact ⟨_, rfl, Nat.zero_le _, Nat.zero_le _⟩
  | false =>
    simp only [Bool.or_eq_false_iff, decide_eq_false_iff_not] at hc
    obtain ⟨⟨⟨c1, c2⟩, c3⟩, c4⟩ := hc
    rw [wrap64 (n := v - seq) (by omega) (by omega)] at c4 ⊢
    rw [cutB_of (by omega) (by omega) (Int.le_refl _)]
    simp only [cond_true, cond_false]
    generalize hcc : cut ops (v - seq) (ops.length : Int) = l
    have hll : l.length ≤ 1048576 := by rw [← hcc]; simp only [cut, List.length_take, List.length_drop]; omega
    refine iter_post (fun q => 0 ≤ q.t66 ∧ q.t66 ≤ (l.length : Int) ∧ q.l = q.g1.length ∧ (q.l : Int) ≤ q.t66) (fun q => l.length - q.t66.toNat) _ ?_ N _ ⟨by simp, by simp, rfl, by simp⟩ (by simp; omega)
    rintro ⟨n, la, t, g⟩ next ⟨p1, p2, p3, p4⟩ hn
    simp only at p1 p2 p3 p4
    subst p3
    by_cases ht : t < l.length
    · rw [decide_eq_true ht, ibB_of p1 ht]
      simp only [cond_true]
      refine tot_bindQ (tot_cond (checkOp_some _) ⟨_, rfl⟩) fun _ => tot_condQ ⟨_, rfl, by simp only; omega, Nat.le_refl _⟩ ?_
      rw [lenB_of (by simp only [List.length_singleton]; omega), Nat.ble_self_eq_true, wrap64 (by omega) (by omega)]
      simp only [Bool.and_self, cond_true]
      exact hn _ ⟨by simp only; omega, by simp only; omega, by simp, by simp only [List.length_singleton]; omega⟩ (by simp only; omega)
    · rw [decide_eq_false ht]
      exact ⟨_, rfl, by simp only; omega, Nat.le_refl _⟩
end
end Go.Proofs.Ytekpjhhbmjcbmaa
