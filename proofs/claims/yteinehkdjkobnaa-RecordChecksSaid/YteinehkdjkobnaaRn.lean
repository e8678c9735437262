/-
Slotted entries that may be: both answers.
-/
import Derived.Test.YteinehkdjkobnaaRm
set_option linter.unusedVariables false
set_option linter.unusedSimpArgs false
namespace Go.Proofs.Yteinehkdjkobnaa
open Go Go.Ev

def mayEn (e : GEntry) : Bool := decide (0 ≤ e.Kind ∧ e.Kind ≤ 8) && sameE e (bareE e) && condE e
theorem mayEn_iff {e : GEntry} (hb : byt e.Part.Data) : mayEn e = true ↔ MayEn e := by
  unfold mayEn MayEn kindE
  simp only [Bool.and_eq_true, decide_eq_true_eq, sameE_iff hb (byt_bare hb), and_assoc]
def maySl (x : GSlotted) : Bool := decide (cnt x.Slot) && decide (MayBa x.Ballot) && mayEn x.Entry
section
variable {N : Nat}
theorem checkEntryB {e : GEntry} (h : e.Ops.length + 20 ≤ N ∧ e.Ops.length ≤ 9223372036854775807 ∧ byt e.Part.Data) : Frecord_CheckEntry N e = some (bif mayEn e then 0 else 40) := by
  rcases checkEntry_eq h.1 h.2.1 h.2.2 with ⟨p, q⟩ | ⟨p, q⟩
  · rw [q, (mayEn_iff h.2.2).2 p]; rfl
  · have : mayEn e = false := Bool.eq_false_iff.2 fun hm => p ((mayEn_iff h.2.2).1 hm)
    rw [q, this]; rfl
theorem refMayEntryB {e : GEntry} (h : e.Ops.length + 20 ≤ N ∧ e.Ops.length ≤ 9223372036854775807 ∧ byt e.Part.Data) : Fref04_MayEntry N e = some (mayEn e) := by
  rcases refMayEntry_eq h.1 h.2.1 h.2.2 with ⟨p, q⟩ | ⟨p, q⟩
  · rw [q, (mayEn_iff h.2.2).2 p]
  · have : mayEn e = false := Bool.eq_false_iff.2 fun hm => p ((mayEn_iff h.2.2).1 hm)
    rw [q, this]
theorem maySl1 (hN : 20 ≤ N) {x : GSlotted} (h : x.Entry.Ops.length + 20 ≤ N ∧ x.Entry.Ops.length ≤ 9223372036854775807 ∧ byt x.Entry.Part.Data) : Frecord_maySlotted_1 N x = some (!maySl x) := by
  unfold Frecord_maySlotted_1 maySl
  rw [countL (by simp; omega) (by simp), mayBallot_eq hN, checkEntryB h]
  simp only [Option.bind_some, List.all_cons, List.all_nil, Bool.and_true]
  cases decide (cnt x.Slot) <;> cases decide (MayBa x.Ballot) <;> cases mayEn x.Entry <;> rfl
theorem indexSl_eq {l : List GSlotted} (h : roomS N l) : Fslices_ContainsFunc_Slotted_283 N l = some (!(l.all maySl)) := by
  obtain ⟨hN, hm, hr⟩ := h
  unfold Fslices_ContainsFunc_Slotted_283
  have key : ∃ r, Fslices_IndexFunc_Slotted_283 N l = some r ∧ decide (0 ≤ r) = !(l.all maySl) := by
    unfold Fslices_IndexFunc_Slotted_283
    refine iter_post (fun q : Sslices_IndexFunc_Slotted_283x2 => 0 ≤ q.t8 ∧ q.t8 ≤ (l.length : Int) ∧ ((l.drop q.t8.toNat).all maySl) = l.all maySl) (fun q => ((l.length : Int) - q.t8).toNat) _ ?_ N _ ⟨by simp, by simp, by simp⟩ (by simp; omega)
    rintro ⟨i⟩ nx ⟨g0, g1, hq⟩ ih
    simp only at g0 g1 hq ih ⊢
    by_cases hi : i < l.length
    · have hro := hr _ (lget_mem (default : GSlotted) g0 hi)
      rw [lget_drop (default : GSlotted) g0 hi, List.all_cons] at hq
      simp only [decide_eq_true hi, ibB_of g0 hi, cond_true]
      change ∃ r, (Frecord_maySlotted_1 N (lget l i default)).bind _ = some r ∧ _
      rw [maySl1 (by omega) hro, Option.bind_some]
      cases ho : maySl (lget l i default) with
      | true =>
        rw [ho, Bool.true_and] at hq
        simp only [Bool.not_true, cond_false]
        rw [wrap64 (by omega) (by omega)]
        exact ih ⟨i + 1⟩ ⟨by simp; omega, by simp; omega, hq⟩ (by simp; omega)
      | false =>
        rw [ho, Bool.false_and] at hq
        exact ⟨i, rfl, by rw [← hq]; simpa using g0⟩
    · have : decide (i < (l.length : Int)) = false := by simpa using hi
      simp only [this, cond_false]
      rw [List.drop_eq_nil_of_le (by omega)] at hq
      exact ⟨-1, rfl, by rw [← hq]; rfl⟩
  obtain ⟨r, h1, h2⟩ := key
  rw [h1, Option.bind_some, h2]
end
end Go.Proofs.Yteinehkdjkobnaa
