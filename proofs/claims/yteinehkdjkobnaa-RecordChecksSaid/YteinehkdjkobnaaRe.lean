/-
Which entries may be: both checks.
-/
import Derived.Test.YteinehkdjkobnaaRc
set_option linter.unusedVariables false
set_option linter.unusedSimpArgs false
namespace Go.Proofs.Yteinehkdjkobnaa
open Go Go.Ev

theorem bdec {b : Bool} {P : Prop} [inst : Decidable P] (h : b = true ↔ P) : b = decide P := by
  by_cases hp : P
  · rw [decide_eq_true hp]; exact h.2 hp
  · rw [decide_eq_false hp]
    cases b with
    | false => rfl
    | true => exact absurd (h.1 rfl) hp
instance (e : GEpoch) : Decidable (MayEp e) := by unfold MayEp; infer_instance
section
variable {N : Nat}
theorem countL {l : List Int} (hN : l.length < N) (hl : l.length ≤ 1000000) : Frecord_count N l = some (l.all fun n => decide (cnt n)) := by
  unfold Frecord_count
  refine iter_run (fun q : Srecord_countx2 => 0 ≤ q.t7 ∧ q.t7 ≤ (l.length : Int) ∧ ((l.drop q.t7.toNat).all fun n => decide (cnt n)) = l.all fun n => decide (cnt n)) (fun q => ((l.length : Int) - q.t7).toNat) ?_ N _ ⟨by simp, by simp, by simp⟩ (by simp; omega)
  rintro ⟨i⟩ nx ⟨g0, g1, hq⟩ ih
  simp only at g0 g1 hq ih ⊢
  by_cases hi : i < l.length
  · rw [lget_drop (default : Int) g0 hi, List.all_cons] at hq
    simp only [decide_eq_true hi, ibB_of g0 hi, cond_true]
    generalize lget l i default = n at hq ⊢
    by_cases hn : cnt n
    · have h1 : decide (n < 0) = false := by simpa using hn.1
      have h2 : decide (1099511627776 < n) = false := by simpa using hn.2
      rw [decide_eq_true hn, Bool.true_and] at hq
      simp only [h1, h2, Bool.or_self, cond_false]
      rw [wrap64 (by omega) (by omega)]
      exact ih ⟨i + 1⟩ ⟨by simp; omega, by simp; omega, hq⟩ (by simp; omega)
    · have h1 : (decide (n < 0) || decide (1099511627776 < n)) = true := by unfold cnt at hn; simp; omega
      rw [decide_eq_false hn, Bool.false_and] at hq
      rw [h1, ← hq]; rfl
  · have : decide (i < (l.length : Int)) = false := by simpa using hi
    simp only [this, cond_false]
    rw [List.drop_eq_nil_of_le (by omega)] at hq
    rw [← hq]; rfl
theorem siteL {l : List Int} (hN : l.length < N) (hl : l.length ≤ 1000000) : Frecord_site N l = some (l.all fun n => decide (sit n)) := by
  unfold Frecord_site
  refine iter_run (fun q : Srecord_sitex2 => 0 ≤ q.t7 ∧ q.t7 ≤ (l.length : Int) ∧ ((l.drop q.t7.toNat).all fun n => decide (sit n)) = l.all fun n => decide (sit n)) (fun q => ((l.length : Int) - q.t7).toNat) ?_ N _ ⟨by simp, by simp, by simp⟩ (by simp; omega)
  rintro ⟨i⟩ nx ⟨g0, g1, hq⟩ ih
  simp only at g0 g1 hq ih ⊢
  by_cases hi : i < l.length
  · rw [lget_drop (default : Int) g0 hi, List.all_cons] at hq
    simp only [decide_eq_true hi, ibB_of g0 hi, cond_true]
    generalize lget l i default = n at hq ⊢
    by_cases hn : sit n
    · have h1 : decide (n < 0) = false := by simpa using hn.1
      have h2 : decide (8 ≤ n) = false := by simpa using hn.2
      rw [decide_eq_true hn, Bool.true_and] at hq
      simp only [h1, h2, Bool.or_self, cond_false]
      rw [wrap64 (by omega) (by omega)]
      exact ih ⟨i + 1⟩ ⟨by simp; omega, by simp; omega, hq⟩ (by simp; omega)
    · have h1 : (decide (n < 0) || decide (8 ≤ n)) = true := by unfold sit at hn; simp; omega
      rw [decide_eq_false hn, Bool.false_and] at hq
      rw [h1, ← hq]; rfl
  · have : decide (i < (l.length : Int)) = false := by simpa using hi
    simp only [this, cond_false]
    rw [List.drop_eq_nil_of_le (by omega)] at hq
    rw [← hq]; rfl
theorem mayVec_iff (v : Vector Int 8) : (v.toList.all fun n => decide (cnt n)) = decide (MayVec v) := by
  exact bdec (by unfold MayVec; simp only [List.all_eq_true, decide_eq_true_eq])

theorem index_eq {l : List GOp} (hN : l.length + 12 ≤ N) (hl : l.length ≤ 9223372036854775807) : Fslices_ContainsFunc_Op_d73 N l = some (!(l.all fun o => decide (MayOp o))) := by
  unfold Fslices_ContainsFunc_Op_d73
  have key : ∃ r, Fslices_IndexFunc_Op_d73 N l = some r ∧ decide (0 ≤ r) = !(l.all fun o => decide (MayOp o)) := by
    unfold Fslices_IndexFunc_Op_d73
    refine iter_post (fun q : Sslices_IndexFunc_Op_d73x2 => 0 ≤ q.t8 ∧ q.t8 ≤ (l.length : Int) ∧ ((l.drop q.t8.toNat).all fun n => decide (MayOp n)) = l.all fun n => decide (MayOp n)) (fun q => ((l.length : Int) - q.t8).toNat) _ ?_ N _ ⟨by simp, by simp, by simp⟩ (by simp; omega)
    rintro ⟨i⟩ nx ⟨g0, g1, hq⟩ ih
    simp only at g0 g1 hq ih ⊢
    by_cases hi : i < l.length
    · rw [lget_drop (default : GOp) g0 hi, List.all_cons] at hq
      simp only [decide_eq_true hi, ibB_of g0 hi, cond_true]
      have h1 : Frecord_mayOps_1 N (⟨(lget l i default).Stamp, (lget l i default).Kind, (lget l i default).Node, (lget l i default).Parent, (lget l i default).Name, (lget l i default).Key, (lget l i default).Value⟩ : GOp) = some (!decide (MayOp (lget l i default))) := by
        unfold Frecord_mayOps_1
        rw [mayOp_eq (by omega)]; rfl
      rw [h1, Option.bind_some]
      by_cases ho : MayOp (lget l i default)
      · rw [decide_eq_true ho, Bool.true_and] at hq
        rw [decide_eq_true ho]
        simp only [Bool.not_true, cond_false]
        rw [wrap64 (by omega) (by omega)]
        exact ih ⟨i + 1⟩ ⟨by simp; omega, by simp; omega, hq⟩ (by simp; omega)
      · rw [decide_eq_false ho, Bool.false_and] at hq
        rw [decide_eq_false ho]
        exact ⟨i, rfl, by rw [← hq]; simpa using g0⟩
    · have : decide (i < (l.length : Int)) = false := by simpa using hi
      simp only [this, cond_false]
      rw [List.drop_eq_nil_of_le (by omega)] at hq
      exact ⟨-1, rfl, by rw [← hq]; rfl⟩
  obtain ⟨r, h1, h2⟩ := key
  rw [h1, Option.bind_some, h2]
theorem mayOps_eq {l : List GOp} (hN : l.length + 12 ≤ N) (hl : l.length ≤ 9223372036854775807) : Frecord_mayOps N l 1 = some (decide (MayOps l)) := by
  unfold Frecord_mayOps
  rw [index_eq hN hl]
  simp only [bif_some, Option.bind_some]
  refine congrArg some (bdec ?_)
  unfold MayOps
  by_cases h1 : (1 : Int) ≤ l.length
  · by_cases h2 : (l.length : Int) ≤ 4096
    · simp only [decide_eq_true h1, decide_eq_true h2, Bool.and_self, cond_true, Bool.true_and, Bool.not_not, List.all_eq_true, decide_eq_true_eq]
      exact ⟨fun h => ⟨by omega, by omega, h⟩, fun h => h.2.2⟩
    · simp only [decide_eq_false h2, Bool.and_false, Bool.false_and, Bool.false_eq_true, false_iff]
      exact fun h => h2 (by omega)
  · simp only [decide_eq_false h1, Bool.false_and, Bool.false_eq_true, false_iff]
    exact fun h => h1 (by omega)
theorem refops_eq {l : List GOp} (hN : l.length + 12 ≤ N) (hl : l.length ≤ 9223372036854775807) : Fref04_ops N l = some (decide (MayOps l)) := by
  unfold Fref04_ops
  refine iter_run (fun q : Sref04_opsx2 => 0 ≤ q.i ∧ q.i ≤ (l.length : Int) ∧ ((∀ o ∈ l.drop q.i.toNat, MayOp o) ↔ ∀ o ∈ l, MayOp o)) (fun q => ((l.length : Int) - q.i).toNat) ?_ N _ ⟨by simp, by simp, by simp⟩ (by simp; omega)
  rintro ⟨i⟩ nx ⟨g0, g1, hq⟩ ih
  simp only at g0 g1 hq ih ⊢
  by_cases hi : i < l.length
  · rw [lget_drop (default : GOp) g0 hi, List.forall_mem_cons] at hq
    simp only [decide_eq_true hi, ibB_of g0 hi, cond_true]
    rw [refMayOp_eq, Option.bind_some]
    change (bif !(decide (MayOp (lget l i default))) then _ else _) = _
    by_cases ho : MayOp (lget l i default)
    · rw [decide_eq_true ho]
      simp only [Bool.not_true, cond_false]
      rw [wrap64 (by omega) (by omega)]
      exact ih ⟨i + 1⟩ ⟨by simp; omega, by simp; omega, ⟨fun h => hq.1 ⟨ho, h⟩, fun h => (hq.2 h).2⟩⟩ (by simp; omega)
    · rw [decide_eq_false ho]
      have : ¬ MayOps l := fun h => ho (hq.2 h.2.2).1
      simp [this]
  · have : decide (i < (l.length : Int)) = false := by simpa using hi
    simp only [this, cond_false]
    rw [List.drop_eq_nil_of_le (by omega)] at hq
    have hall : ∀ o ∈ l, MayOp o := hq.1 (by simp)
    refine congrArg some (bdec ?_)
    unfold MayOps
    simp only [Bool.and_eq_true, decide_eq_true_eq]
    constructor
    · rintro ⟨h1, h2⟩; exact ⟨by omega, by omega, hall⟩
    · rintro ⟨h1, h2, _⟩; exact ⟨by omega, by omega⟩

theorem mayEpoch_eq (hN : 20 ≤ N) (e : GEpoch) : Frecord_mayEpoch N e = some (decide (MayEp e)) := by
  unfold Frecord_mayEpoch
  rw [countL (by simp; omega) (by simp), Option.bind_some]
  by_cases hn : cnt e.Number
  · simp only [List.all_cons, List.all_nil, Bool.and_true, decide_eq_true hn, cond_true, Bool.true_and]
    rw [countL (by simp; omega) (by simp), Option.bind_some, mayVec_iff]
    refine iter_run (fun q : Srecord_mayEpochx3 => 0 ≤ q.t14 ∧ q.t14 ≤ 8 ∧ (q.ok = true ↔ MayVec e.Seals ∧ ∀ j, j < q.t14.toNat → epOk e j)) (fun q => (8 - q.t14).toNat) ?_ N _ ⟨by simp, by simp, by simp⟩ (by simp; omega)
    rintro ⟨ok, i⟩ nx ⟨g0, g1, hq⟩ ih
    simp only at g0 g1 hq ih ⊢
    by_cases hi : i < 8
    · simp only [decide_eq_true hi, ibB_of g0 hi, Bool.or_true, cond_true]
      rw [wrap64 (by omega) (by omega)]
      refine ih ⟨_, i + 1⟩ ⟨by simp; omega, by simp; omega, ?_⟩ (by simp; omega)
      simp only
      rw [show (i + 1).toNat = i.toNat + 1 by omega]
      have this : (((0 ≤ vget e.States i.toNat default ∧ vget e.States i.toNat default ≤ 3) ∧ -1 ≤ vget e.Sponsor i.toNat default) ∧ vget e.Sponsor i.toNat default < 8) ↔ epOk e i.toNat := by unfold epOk; rw [and_assoc]
      simp only [Bool.and_eq_true, decide_eq_true_eq, hq]
      constructor
      · rintro ⟨⟨⟨⟨⟨h0, h1⟩, h2⟩, h3⟩, h4⟩, h5⟩
        refine ⟨h0, fun j hj => ?_⟩
        rcases Nat.lt_succ_iff_lt_or_eq.1 hj with h | rfl
        · exact h1 j h
        · exact this.1 ⟨⟨⟨h2, h3⟩, h4⟩, h5⟩
      · rintro ⟨h0, h1⟩
        obtain ⟨⟨⟨h2, h3⟩, h4⟩, h5⟩ := this.2 (h1 _ (Nat.lt_succ_self _))
        exact ⟨⟨⟨⟨⟨h0, fun j hj => h1 j (Nat.lt_succ_of_lt hj)⟩, h2⟩, h3⟩, h4⟩, h5⟩
    · have : decide (i < (8 : Int)) = false := by simpa using hi
      simp only [this, cond_false]
      refine congrArg some (bdec ?_)
      rw [hq, show i.toNat = 8 by omega]
      unfold MayEp
      exact ⟨fun h => ⟨hn, h⟩, fun h => h.2⟩
  · have hno : ¬ MayEp e := fun h => hn h.1
    simp only [List.all_cons, List.all_nil, Bool.and_true, decide_eq_false hn, cond_false, decide_eq_false hno]
    refine iter_run (fun q : Srecord_mayEpochx3a => 0 ≤ q.t14 ∧ q.t14 ≤ 8 ∧ q.ok = false) (fun q => (8 - q.t14).toNat) ?_ N _ ⟨by simp, by simp, rfl⟩ (by simp; omega)
    rintro ⟨ok, i⟩ nx ⟨g0, g1, rfl⟩ ih
    simp only at g0 g1 ih ⊢
    by_cases hi : i < 8
    · simp only [decide_eq_true hi, ibB_of g0 hi, Bool.or_true, cond_true, Bool.false_and]
      rw [wrap64 (by omega) (by omega)]
      exact ih ⟨_, i + 1⟩ ⟨by simp; omega, by simp; omega, rfl⟩ (by simp; omega)
    · have : decide (i < (8 : Int)) = false := by simpa using hi
      simp only [this, cond_false]
theorem refMayVec_eq (hN : 20 ≤ N) (v : Vector Int 8) : Fref04_MayVector N v = some (decide (MayVec v)) := by
  unfold Fref04_MayVector Fref04_count
  refine iter_run (fun q : Sref04_MayVectorx2 => 0 ≤ q.i ∧ q.i ≤ 8 ∧ ∀ j, j < q.i.toNat → cnt (vget v j default)) (fun q => (8 - q.i).toNat) ?_ N _ ⟨by simp, by simp, by simp⟩ (by simp; omega)
  rintro ⟨i⟩ nx ⟨g0, g1, hq⟩ ih
  simp only at g0 g1 hq ih ⊢
  by_cases hi : i < 8
  · simp only [decide_eq_true hi, ibB_of g0 hi, cond_true, Option.bind_some]
    have hc : (decide (0 ≤ vget v i.toNat default) && decide (vget v i.toNat default ≤ 1099511627776)) = decide (cnt (vget v i.toNat default)) := bdec (by simp only [Bool.and_eq_true, decide_eq_true_eq]; exact Iff.rfl)
    rw [hc]
    by_cases hv : cnt (vget v i.toNat default)
    · rw [decide_eq_true hv, wrap64 (by omega) (by omega)]
      refine ih ⟨i + 1⟩ ⟨by simp; omega, by simp; omega, fun j hj => ?_⟩ (by simp; omega)
      simp only at hj
      rw [show (i + 1).toNat = i.toNat + 1 by omega] at hj
      rcases Nat.lt_succ_iff_lt_or_eq.1 hj with h | rfl
      · exact hq j h
      · exact hv
    · rw [decide_eq_false hv]
      have : ¬ MayVec v := fun h => hv (h _ (vget_mem v default (by omega)))
      simp [this]
  · have : decide (i < (8 : Int)) = false := by simpa using hi
    simp only [this, cond_false]
    have : MayVec v := fun n hn => by
      obtain ⟨j, hj, rfl⟩ := List.getElem_of_mem hn
      have hj8 : j < 8 := by simpa using hj
      have := hq j (by omega)
      rw [vgetE v default hj8] at this
      simpa using this
    simp [this]
theorem refMayEpoch_eq (hN : 20 ≤ N) (e : GEpoch) : Fref04_MayEpoch N e = some (decide (MayEp e)) := by
  unfold Fref04_MayEpoch
  refine iter_run (fun q : Sref04_MayEpochx2 => 0 ≤ q.i ∧ q.i ≤ 8 ∧ ∀ j, j < q.i.toNat → epOk e j) (fun q => (8 - q.i).toNat) ?_ N _ ⟨by simp, by simp, by simp⟩ (by simp; omega)
  rintro ⟨i⟩ nx ⟨g0, g1, hq⟩ ih
  simp only at g0 g1 hq ih ⊢
  by_cases hi : i < 8
  · simp only [decide_eq_true hi, ibB_of g0 hi, cond_true, Bool.or_true]
    have hc : (((decide (vget e.States i.toNat default < 0) || decide (3 < vget e.States i.toNat default)) || decide (vget e.Sponsor i.toNat default < -1)) || decide (8 ≤ vget e.Sponsor i.toNat default)) = !decide (epOk e i.toNat) := by
      by_cases hv : epOk e i.toNat
      · have hv' := hv
        obtain ⟨⟨h1, h2⟩, h3, h4⟩ := hv'
        rw [decide_eq_true hv, decide_eq_false (by omega), decide_eq_false (by omega), decide_eq_false (by omega), decide_eq_false (by omega)]; rfl
      · rw [decide_eq_false hv]
        unfold epOk at hv
        simp only [Bool.or_eq_true, decide_eq_true_eq, Bool.not_false]
        omega
    rw [hc]
    by_cases hv : epOk e i.toNat
    · rw [decide_eq_true hv, wrap64 (by omega) (by omega)]
      refine ih ⟨i + 1⟩ ⟨by simp; omega, by simp; omega, fun j hj => ?_⟩ (by simp; omega)
      simp only at hj
      rw [show (i + 1).toNat = i.toNat + 1 by omega] at hj
      rcases Nat.lt_succ_iff_lt_or_eq.1 hj with h | rfl
      · exact hq j h
      · exact hv
    · rw [decide_eq_false hv]
      have : ¬ MayEp e := fun h => hv (h.2.2 _ (by omega))
      simp [this]
  · have : decide (i < (8 : Int)) = false := by simpa using hi
    simp only [this, cond_false]
    rw [refMayVec_eq hN]
    unfold Fref04_count
    simp only [Option.bind_some, bif_some, and_bif]
    have hall : ∀ j, j < 8 → epOk e j := fun j hj => hq j (by omega)
    refine congrArg some (bdec ?_)
    unfold MayEp cnt
    simp only [Bool.and_eq_true, decide_eq_true_eq]
    exact ⟨fun h => ⟨h.1, h.2, hall⟩, fun h => ⟨h.1, h.2.1⟩⟩
theorem mayPart_eq (hN : 20 ≤ N) (p : GPart) : Frecord_mayPart N p = some (decide (MayPt p)) := by
  unfold Frecord_mayPart
  rw [countL (by simp; omega) (by simp), Option.bind_some]
  refine congrArg some (bdec ?_)
  unfold MayPt
  simp only [List.all_cons, List.all_nil, Bool.and_true, Bool.and_eq_true, decide_eq_true_eq]
  constructor
  · rintro ⟨⟨⟨⟨⟨h1, h2⟩, h3⟩, h4⟩, h5⟩, h6⟩; exact ⟨h1, ⟨h2, h3⟩, ⟨h4, h5⟩, by omega⟩
  · rintro ⟨h1, ⟨h2, h3⟩, ⟨h4, h5⟩, h6⟩; exact ⟨⟨⟨⟨⟨h1, h2⟩, h3⟩, h4⟩, h5⟩, by omega⟩
theorem refMayPart_eq (p : GPart) : Fref04_MayPart N p = some (decide (MayPt p)) := by
  unfold Fref04_MayPart Fref04_count
  rw [Option.bind_some]
  refine congrArg some (bdec ?_)
  unfold MayPt cnt
  simp only [Bool.and_eq_true, decide_eq_true_eq]
  constructor
  · rintro ⟨⟨⟨⟨⟨h1, h2⟩, h3⟩, h4⟩, h5⟩, h6⟩; exact ⟨h1, ⟨h2, h3⟩, ⟨h4, h5⟩, by omega⟩
  · rintro ⟨h1, ⟨h2, h3⟩, ⟨h4, h5⟩, h6⟩; exact ⟨⟨⟨⟨⟨h1, h2⟩, h3⟩, h4⟩, h5⟩, by omega⟩
end
end Go.Proofs.Yteinehkdjkobnaa
