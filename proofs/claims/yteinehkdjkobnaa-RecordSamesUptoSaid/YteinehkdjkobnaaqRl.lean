/-
Slotted entries and messages that are the same.
-/
import Derived.Test.YteinehkdjkobnaaqRk
set_option linter.unusedVariables false
set_option linter.unusedSimpArgs false
namespace Go.Proofs.Yteinehkdjkobnaa
open Go Go.Ev
def slq (a b : GSlotted) : Bool := ((a.Slot == b.Slot) && ((a.Ballot.Round == b.Ballot.Round) && (a.Ballot.Replica == b.Ballot.Replica))) && sameE a.Entry b.Entry
theorem slq_iff {a b : GSlotted} (ha : byt a.Entry.Part.Data) (hb : byt b.Entry.Part.Data) : slq a b = true ↔ a = b := by
  obtain ⟨a1, ⟨a2, a3⟩, a4⟩ := a
  obtain ⟨b1, ⟨b2, b3⟩, b4⟩ := b
  simp only [slq, Bool.and_eq_true, beq_iff_eq, sameE_iff (a := a4) (b := b4) ha hb, GSlotted.mk.injEq, GBallot.mk.injEq, and_assoc]
def slqs (a b : List GSlotted) : Bool := ((a.length : Int) == (b.length : Int)) && ((a.zip b).all fun p => slq p.1 p.2)
theorem slqs_iff : ∀ {a b : List GSlotted}, (∀ x ∈ a, byt x.Entry.Part.Data) → (∀ x ∈ b, byt x.Entry.Part.Data) → (slqs a b = true ↔ a = b)
  | [], [], _, _ => by simp [slqs]
  | [], y :: b, _, _ => by simp [slqs]; omega
  | x :: a, [], _, _ => by simp [slqs]; omega
  | x :: a, y :: b, ha, hb => by
    have ih := slqs_iff (a := a) (b := b) (fun z hz => ha z (by simp [hz])) (fun z hz => hb z (by simp [hz]))
    have h1 := slq_iff (ha x (by simp)) (hb y (by simp))
    unfold slqs at ih ⊢
    simp only [List.length_cons, List.zip_cons_cons, List.all_cons, Bool.and_eq_true, beq_iff_eq, List.cons.injEq] at ih ⊢
    constructor
    · rintro ⟨h, h2, h3⟩; exact ⟨h1.1 h2, ih.1 ⟨by omega, h3⟩⟩
    · rintro ⟨h, h2⟩; obtain ⟨h3, h4⟩ := ih.2 h2; exact ⟨by omega, h1.2 h, h4⟩
section
variable {N : Nat}
def roomS (N : Nat) (l : List GSlotted) : Prop := l.length + 20 ≤ N ∧ l.length ≤ 9223372036854775807 ∧ ∀ x ∈ l, x.Entry.Ops.length + 20 ≤ N ∧ x.Entry.Ops.length ≤ 9223372036854775807 ∧ byt x.Entry.Part.Data
theorem sameSl1 {a b : GSlotted} (h : a.Entry.Ops.length + 20 ≤ N ∧ a.Entry.Ops.length ≤ 9223372036854775807 ∧ byt a.Entry.Part.Data) : Frecord_sameSlotted N a b = some (slq a b) := by
  unfold Frecord_sameSlotted
  rw [sameEntry_eq (by omega) h.2.1]
  simp only [bif_some, Option.bind_some, and_bif]
  rfl
theorem sameSl_eq {a b : List GSlotted} (ha : roomS N a) : Fslices_EqualFunc_Slotted_117 N a b = some (slqs a b) := by
  obtain ⟨hN, hm, hr⟩ := ha
  unfold Fslices_EqualFunc_Slotted_117 slqs
  by_cases hl : a.length = b.length
  · simp only [hl, beq_self_eq_true, Bool.not_true, cond_false, Bool.true_and]
    refine iter_run (fun q : Sslices_EqualFunc_Slotted_117x4 => 0 ≤ q.t17 ∧ q.t17 ≤ (a.length : Int) ∧ (((a.drop q.t17.toNat).zip (b.drop q.t17.toNat)).all fun p => slq p.1 p.2) = ((a.zip b).all fun p => slq p.1 p.2)) (fun q => ((a.length : Int) - q.t17).toNat) ?_ N _ ⟨by simp, by simp, by simp⟩ (by simp; omega)
    rintro ⟨i⟩ nx ⟨g0, g1, hq⟩ ih
    simp only at g0 g1 hq ih ⊢
    by_cases hi : i < b.length
    · have hi' : i < a.length := by omega
      have hro := hr _ (lget_mem (default : GSlotted) g0 hi')
      rw [lget_drop (default : GSlotted) g0 hi, lget_drop (default : GSlotted) g0 hi', List.zip_cons_cons, List.all_cons] at hq
      simp only [decide_eq_true hi, ibB_of g0 hi, cond_true]
      change (Frecord_sameSlotted N (lget a i default) (lget b i default)).bind _ = _
      rw [sameSl1 hro, Option.bind_some]
      cases ho : slq (lget a i default) (lget b i default) with
      | true =>
        rw [ho, Bool.true_and] at hq
        simp only [Bool.not_true, cond_false]
        rw [wrap64 (by omega) (by omega)]
        exact ih ⟨i + 1⟩ ⟨by simp; omega, by simp; omega, hq⟩ (by simp; omega)
      | false => rw [ho, Bool.false_and] at hq; rw [← hq]; rfl
    · have : decide (i < (b.length : Int)) = false := by simpa using hi
      simp only [this, cond_false]
      rw [List.drop_eq_nil_of_le (by omega)] at hq
      rw [← hq]; rfl
  · have : ((a.length : Int) == (b.length : Int)) = false := by simp; omega
    simp only [this, Bool.not_false, cond_true, Bool.false_and]
theorem refSameSl1 {a b : GSlotted} (h : a.Entry.Ops.length + 20 ≤ N ∧ a.Entry.Ops.length ≤ 9223372036854775807 ∧ byt a.Entry.Part.Data) : Fref04_SameSlotted N a b = some (slq a b) := by
  unfold Fref04_SameSlotted
  rw [refSameEntry_eq (by omega) h.2.1]
  simp only [bif_some, Option.bind_some, and_bif]
  rfl
theorem refSameSl_eq {a b : List GSlotted} (ha : roomS N a) : Fref04_SameList N a b = some (slqs a b) := by
  obtain ⟨hN, hm, hr⟩ := ha
  unfold Fref04_SameList slqs
  by_cases hl : a.length = b.length
  · simp only [hl, beq_self_eq_true, Bool.not_true, cond_false, Bool.true_and]
    refine iter_run (fun q : Sref04_SameListx4 => 0 ≤ q.i ∧ q.i ≤ (a.length : Int) ∧ (((a.drop q.i.toNat).zip (b.drop q.i.toNat)).all fun p => slq p.1 p.2) = ((a.zip b).all fun p => slq p.1 p.2)) (fun q => ((a.length : Int) - q.i).toNat) ?_ N _ ⟨by simp, by simp, by simp⟩ (by simp; omega)
    rintro ⟨i⟩ nx ⟨g0, g1, hq⟩ ih
    simp only at g0 g1 hq ih ⊢
    by_cases hi : i < b.length
    · have hi' : i < a.length := by omega
      have hro := hr _ (lget_mem (default : GSlotted) g0 hi')
      rw [lget_drop (default : GSlotted) g0 hi, lget_drop (default : GSlotted) g0 hi', List.zip_cons_cons, List.all_cons] at hq
      simp only [decide_eq_true hi, ibB_of g0 hi, cond_true]
      change (Fref04_SameSlotted N (lget a i default) (lget b i default)).bind _ = _
      rw [refSameSl1 hro, Option.bind_some]
      cases ho : slq (lget a i default) (lget b i default) with
      | true =>
        rw [ho, Bool.true_and] at hq
        simp only [Bool.not_true, cond_false]
        rw [wrap64 (by omega) (by omega)]
        exact ih ⟨i + 1⟩ ⟨by simp; omega, by simp; omega, hq⟩ (by simp; omega)
      | false => rw [ho, Bool.false_and] at hq; rw [← hq]; rfl
    · have : decide (i < (b.length : Int)) = false := by simpa using hi
      simp only [this, cond_false]
      rw [List.drop_eq_nil_of_le (by omega)] at hq
      rw [← hq]; rfl
  · have : ((a.length : Int) == (b.length : Int)) = false := by simp; omega
    simp only [this, Bool.not_false, cond_true, Bool.false_and]
end
end Go.Proofs.Yteinehkdjkobnaa
