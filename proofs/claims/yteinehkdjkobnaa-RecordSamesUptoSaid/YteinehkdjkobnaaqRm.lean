/-
Messages that are the same: both answers.
-/
import Derived.Test.YteinehkdjkobnaaqRl
set_option linter.unusedVariables false
set_option linter.unusedSimpArgs false
namespace Go.Proofs.Yteinehkdjkobnaa
open Go Go.Ev
def adq (a b : GAddr) : Bool := (a.Group == b.Group) && (a.Replica == b.Replica)
def baq (a b : GBallot) : Bool := (a.Round == b.Round) && (a.Replica == b.Replica)
theorem adq_iff (a b : GAddr) : adq a b = true ↔ a = b := by
  obtain ⟨a1, a2⟩ := a
  obtain ⟨b1, b2⟩ := b
  simp only [adq, Bool.and_eq_true, beq_iff_eq, GAddr.mk.injEq]
theorem baq_iff (a b : GBallot) : baq a b = true ↔ a = b := by
  obtain ⟨a1, a2⟩ := a
  obtain ⟨b1, b2⟩ := b
  simp only [baq, Bool.and_eq_true, beq_iff_eq, GBallot.mk.injEq]
def sameM (a b : GMsg) : Bool :=
  (((((((((((((a.Kind == b.Kind) && adq a.From b.From) && adq a.To b.To) && baq a.Ballot b.Ballot) && (a.Slot == b.Slot)) && slqs a.List_ b.List_) && sameE a.Entry b.Entry) && (a.Number == b.Number)) && (vbeq beq2 a.Vector_ b.Vector_)) && (a.Clock == b.Clock)) && (a.Origin == b.Origin)) && opsB a.Ops b.Ops) && epq a.Epoch b.Epoch) && ptq a.Part b.Part
def bytM (m : GMsg) : Prop := (∀ x ∈ m.List_, byt x.Entry.Part.Data) ∧ byt m.Entry.Part.Data ∧ byt m.Part.Data
def roomM (N : Nat) (m : GMsg) : Prop := roomS N m.List_ ∧ (m.Entry.Ops.length + 20 ≤ N ∧ m.Entry.Ops.length ≤ 9223372036854775807 ∧ byt m.Entry.Part.Data) ∧ (m.Ops.length + 20 ≤ N ∧ m.Ops.length ≤ 9223372036854775807) ∧ byt m.Part.Data
theorem roomM.byt {N : Nat} {m : GMsg} (h : roomM N m) : bytM m := ⟨fun x hx => (h.1.2.2 x hx).2.2, h.2.1.2.2, h.2.2.2⟩
theorem sameM_iff {a b : GMsg} (ha : bytM a) (hb : bytM b) : sameM a b = true ↔ a = b := by
  obtain ⟨a1, a2, a3, a4, a5, a6, a7, a8, a9, a10, a11, a12, a13, a14⟩ := a
  obtain ⟨b1, b2, b3, b4, b5, b6, b7, b8, b9, b10, b11, b12, b13, b14⟩ := b
  obtain ⟨p1, p2, p3⟩ := ha
  obtain ⟨q1, q2, q3⟩ := hb
  simp only [sameM, Bool.and_eq_true, beq_iff_eq, adq_iff, baq_iff, slqs_iff (a := a6) (b := b6) p1 q1, sameE_iff (a := a7) (b := b7) p2 q2, vbeq_iff beq2_iff, opsB_iff, epq_iff, ptq_iff (a := a14) (b := b14) p3 q3, GMsg.mk.injEq, and_assoc]
section
variable {N : Nat}
theorem sameMsg_eq {a b : GMsg} (h : roomM N a) : Frecord_SameMsg N a b = some (sameM a b) := by
  obtain ⟨h1, h2, h3, h4⟩ := h
  unfold Frecord_SameMsg Frecord_samePart
  rw [sameSl_eq h1, sameEntry_eq (by omega) h2.2.1, equalOps_eq (by omega) h3.2]
  simp only [bif_some, Option.bind_some, and_bif]
  rfl
theorem refSameMsg_eq {a b : GMsg} (h : roomM N a) : Fref04_SameMsg N a b = some (sameM a b) := by
  obtain ⟨h1, h2, h3, h4⟩ := h
  unfold Fref04_SameMsg Fref04_SamePart
  rw [refSameSl_eq h1, refSameEntry_eq (by omega) h2.2.1, refOps_eq (by omega) h3.2]
  simp only [bif_some, Option.bind_some, and_bif]
  rfl
end
end Go.Proofs.Yteinehkdjkobnaa
