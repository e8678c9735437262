/-
Addresses, ballots, slotted entries that may be: both checks.
-/
import Derived.Test.YteinehkdjkobnaaRg
set_option linter.unusedVariables false
set_option linter.unusedSimpArgs false
namespace Go.Proofs.Yteinehkdjkobnaa
open Go Go.Ev

def MayAd (a : GAddr) : Prop := (0 ≤ a.Group ∧ a.Group < 9) ∧ (0 ≤ a.Replica ∧ a.Replica < 5)
instance (a : GAddr) : Decidable (MayAd a) := by unfold MayAd; infer_instance
def MayBa (b : GBallot) : Prop := cnt b.Round ∧ (0 ≤ b.Replica ∧ b.Replica < 5)
instance (b : GBallot) : Decidable (MayBa b) := by unfold MayBa; infer_instance
def MaySl (x : GSlotted) : Prop := cnt x.Slot ∧ MayBa x.Ballot ∧ MayEn x.Entry
section
variable {N : Nat}
theorem refAddr_eq (a : GAddr) : Fref04_MayAddr N a = some (decide (MayAd a)) := by
  unfold Fref04_MayAddr
  refine congrArg some (bdec ?_)
  unfold MayAd
  simp only [Bool.and_eq_true, decide_eq_true_eq, and_assoc]
theorem refBallot_eq (b : GBallot) : Fref04_ballot N b = some (decide (MayBa b)) := by
  unfold Fref04_ballot
  rw [refcount_eq, Option.bind_some]
  refine congrArg some (bdec ?_)
  unfold MayBa
  simp only [Bool.and_eq_true, decide_eq_true_eq, and_assoc]
theorem mayBallot_eq (hN : 20 ≤ N) (b : GBallot) : Frecord_mayBallot N b = some (decide (MayBa b)) := by
  unfold Frecord_mayBallot
  rw [countL (by simp; omega) (by simp), Option.bind_some]
  refine congrArg some (bdec ?_)
  unfold MayBa
  simp only [List.all_cons, List.all_nil, Bool.and_true, Bool.and_eq_true, decide_eq_true_eq, and_assoc]
theorem mayAddr_eq (hN : 20 ≤ N) (a b : GAddr) : Frecord_mayAddr N [a, b] = some (decide (MayAd a) && decide (MayAd b)) := by
  obtain ⟨k, rfl⟩ : ∃ k, N = k + 20 := ⟨N - 20, by omega⟩
  have : Frecord_mayAddr (k + 20) [a, b] = (bif ((((decide (a.Group < 0)) || (decide (9 ≤ a.Group))) || (decide (a.Replica < 0))) || (decide (5 ≤ a.Replica))) then some false else
      bif ((((decide (b.Group < 0)) || (decide (9 ≤ b.Group))) || (decide (b.Replica < 0))) || (decide (5 ≤ b.Replica))) then some false else some true) := by kernel_rfl
  rw [this]
  have key : ∀ a : GAddr, ((((decide (a.Group < 0)) || (decide (9 ≤ a.Group))) || (decide (a.Replica < 0))) || (decide (5 ≤ a.Replica))) = !decide (MayAd a) := fun a => by
    by_cases h : MayAd a
    · have h' := h
      obtain ⟨⟨h1, h2⟩, h3, h4⟩ := h'
      rw [decide_eq_true h, decide_eq_false (by omega), decide_eq_false (by omega), decide_eq_false (by omega), decide_eq_false (by omega)]; rfl
    · rw [decide_eq_false h]
      unfold MayAd at h
      simp only [Bool.or_eq_true, decide_eq_true_eq, Bool.not_false]
      omega
  rw [key, key]
  cases decide (MayAd a) <;> cases decide (MayAd b) <;> rfl
theorem checkEpoch_eq (hN : 20 ≤ N) (e : GEpoch) : Frecord_CheckEpoch N e = some (if MayEp e then 0 else 40) := by
  unfold Frecord_CheckEpoch Frecord_verdict
  rw [mayEpoch_eq hN, Option.bind_some]
  by_cases h : MayEp e <;> simp [h]
theorem refCheckEpoch_eq (hN : 20 ≤ N) (e : GEpoch) : Fref04_CheckEpoch N e = some (if MayEp e then 0 else 40) := by
  unfold Fref04_CheckEpoch Fref04_Errno
  rw [refMayEpoch_eq hN, Option.bind_some]
  by_cases h : MayEp e <;> simp [h]
theorem refCheckEntry_eq {e : GEntry} (hN : e.Ops.length + 20 ≤ N) (hl : e.Ops.length ≤ 9223372036854775807) (hb : byt e.Part.Data) : Fref04_CheckEntry N e = Frecord_CheckEntry N e := by
  unfold Fref04_CheckEntry
  rcases refMayEntry_eq hN hl hb with ⟨p, q⟩ | ⟨p, q⟩ <;> rcases checkEntry_eq hN hl hb with ⟨p', q'⟩ | ⟨p', q'⟩
  · rw [q, q']; rfl
  · exact absurd p p'
  · exact absurd p' p
  · rw [q, q']; rfl
end
end Go.Proofs.Yteinehkdjkobnaa
