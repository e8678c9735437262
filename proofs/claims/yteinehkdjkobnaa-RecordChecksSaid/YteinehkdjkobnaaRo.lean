/-
Lists of slotted entries that may be: both answers.
-/
import Derived.Test.YteinehkdjkobnaaRn
set_option linter.unusedVariables false
set_option linter.unusedSimpArgs false
namespace Go.Proofs.Yteinehkdjkobnaa
open Go Go.Ev

theorem eta_en (e : GEntry) : (⟨e.Kind, e.Session, e.Request, (⟨e.Op.Stamp, e.Op.Kind, e.Op.Node, e.Op.Parent, e.Op.Name, e.Op.Key, e.Op.Value⟩ : GOp), e.Origin, e.Seq, e.Ops, e.Epoch, e.From, e.Vector_, e.Clock, e.Part, e.Site, e.Sponsor, e.Length⟩ : GEntry) = e := rfl
def mayLst (l : List GSlotted) (a b : Int) : Bool := (decide (a ≤ (l.length : Int)) && decide ((l.length : Int) ≤ b)) && l.all maySl
section
variable {N : Nat}
theorem maySlotted_eq {l : List GSlotted} (h : roomS N l) (a b : Int) : Frecord_maySlotted N l a b = some (mayLst l a b) := by
  unfold Frecord_maySlotted mayLst
  rw [indexSl_eq h]
  simp only [bif_some, Option.bind_some]
  cases decide (a ≤ (l.length : Int)) <;> cases decide ((l.length : Int) ≤ b) <;> cases l.all maySl <;> rfl
theorem refList_eq {l : List GSlotted} (h : roomS N l) (a b : Int) : Fref04_list N l a b = some (mayLst l a b) := by
  obtain ⟨hN, hm, hr⟩ := h
  unfold Fref04_list
  refine iter_run (fun q : Sref04_listx2 => 0 ≤ q.i ∧ q.i ≤ (l.length : Int) ∧ ((l.drop q.i.toNat).all maySl) = l.all maySl) (fun q => ((l.length : Int) - q.i).toNat) ?_ N _ ⟨by simp, by simp, by simp⟩ (by simp; omega)
  rintro ⟨i⟩ nx ⟨g0, g1, hq⟩ ih
  simp only at g0 g1 hq ih ⊢
  by_cases hi : i < l.length
  · have hro := hr _ (lget_mem (default : GSlotted) g0 hi)
    rw [lget_drop (default : GSlotted) g0 hi, List.all_cons] at hq
    have he : Fref04_MayEntry N (lget l i default).Entry = some (mayEn (lget l i default).Entry) := refMayEntryB hro
    simp only [decide_eq_true hi, ibB_of g0 hi, cond_true, Bool.or_true, refcount_eq, refBallot_eq, Option.bind_some, bif_some, eta_en, he]
    have hms : ((!decide (cnt (lget l i default).Slot) || !(bif !!decide (cnt (lget l i default).Slot) then decide (MayBa (lget l i default).Ballot) else default)) || !(bif !((!decide (cnt (lget l i default).Slot)) || !(bif !!decide (cnt (lget l i default).Slot) then decide (MayBa (lget l i default).Ballot) else default)) then mayEn (lget l i default).Entry else default)) = !maySl (lget l i default) := by
      unfold maySl
      cases decide (cnt (lget l i default).Slot) <;> cases decide (MayBa (lget l i default).Ballot) <;> cases mayEn (lget l i default).Entry <;> rfl
    rw [hms]
    cases ho : maySl (lget l i default) with
    | true =>
      rw [ho, Bool.true_and] at hq
      simp only [Bool.not_true, cond_false]
      rw [wrap64 (by omega) (by omega)]
      exact ih ⟨i + 1⟩ ⟨by simp; omega, by simp; omega, hq⟩ (by simp; omega)
    | false =>
      rw [ho, Bool.false_and] at hq
      unfold mayLst
      rw [← hq]; simp
  · have : decide (i < (l.length : Int)) = false := by simpa using hi
    simp only [this, cond_false]
    rw [List.drop_eq_nil_of_le (by omega)] at hq
    unfold mayLst
    rw [← hq]; simp
end
end Go.Proofs.Yteinehkdjkobnaa
