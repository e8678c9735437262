/-
Messages that may be: both answers.
-/
import Derived.Test.YteinehkdjkobnaaRo
set_option linter.unusedVariables false
set_option linter.unusedSimpArgs false
namespace Go.Proofs.Yteinehkdjkobnaa
open Go Go.Ev

def zBa : GBallot := ⟨0, 0⟩
def zEn : GEntry := ⟨0, 0, 0, zOp, 0, 0, [], zEp, 0, zV, 0, zPt, 0, 0, 0⟩
/-- The fields that a message's kind has, all others zero. -/
def bareM (m : GMsg) : GMsg :=
  bif m.Kind == 1 then ⟨m.Kind, m.From, m.To, m.Ballot, m.Slot, [], zEn, 0, zV, 0, 0, [], zEp, zPt⟩ else
  bif m.Kind == 2 then ⟨m.Kind, m.From, m.To, m.Ballot, m.Slot, m.List_, zEn, 0, zV, 0, 0, [], zEp, zPt⟩ else
  bif m.Kind == 3 then ⟨m.Kind, m.From, m.To, m.Ballot, 0, m.List_, zEn, 0, zV, 0, 0, [], zEp, zPt⟩ else
  bif m.Kind == 4 then ⟨m.Kind, m.From, m.To, m.Ballot, m.Slot, [], zEn, 0, zV, 0, 0, [], zEp, zPt⟩ else
  bif m.Kind == 5 then ⟨m.Kind, m.From, m.To, m.Ballot, 0, [], zEn, 0, zV, 0, 0, [], zEp, zPt⟩ else
  bif m.Kind == 6 then ⟨m.Kind, m.From, m.To, zBa, 0, m.List_, zEn, 0, zV, 0, 0, [], zEp, zPt⟩ else
  bif m.Kind == 7 then ⟨m.Kind, m.From, m.To, m.Ballot, m.Slot, [], zEn, 0, zV, 0, 0, [], zEp, zPt⟩ else
  bif m.Kind == 8 then ⟨m.Kind, m.From, m.To, zBa, m.Slot, [], zEn, 0, zV, 0, 0, [], zEp, zPt⟩ else
  bif m.Kind == 9 then ⟨m.Kind, m.From, m.To, zBa, 0, [], m.Entry, 0, zV, 0, 0, [], zEp, zPt⟩ else
  bif m.Kind == 10 then ⟨m.Kind, m.From, m.To, zBa, 0, [], zEn, m.Number, m.Vector_, m.Clock, 0, [], zEp, zPt⟩ else
  bif m.Kind == 11 then ⟨m.Kind, m.From, m.To, zBa, m.Slot, [], zEn, m.Number, zV, 0, m.Origin, m.Ops, zEp, zPt⟩ else
  bif m.Kind == 12 then ⟨m.Kind, m.From, m.To, zBa, 0, [], zEn, 0, zV, 0, 0, [], m.Epoch, zPt⟩ else
  bif m.Kind == 13 then ⟨m.Kind, m.From, m.To, zBa, 0, [], zEn, 0, zV, 0, 0, [], zEp, m.Part⟩ else
  bif m.Kind == 14 then ⟨m.Kind, m.From, m.To, zBa, 0, [], zEn, m.Number, m.Vector_, 0, 0, [], zEp, zPt⟩ else
  bif m.Kind == 15 then ⟨m.Kind, m.From, m.To, zBa, m.Slot, [], zEn, 0, zV, 0, 0, [], zEp, m.Part⟩ else
  ⟨m.Kind, m.From, m.To, zBa, 0, [], zEn, 0, zV, 0, 0, [], zEp, zPt⟩
/-- What its kind asks, ahead of what is asked of all. -/
def spM (m : GMsg) : Bool :=
  bif m.Kind == 3 then ((m.List_.length : Int) == 1) else
  bif m.Kind == 6 then decide (1 ≤ (m.List_.length : Int)) else
  bif m.Kind == 11 then decide (sit m.Origin) && decide (MayOps m.Ops) else
  bif m.Kind == 12 then decide (MayEp m.Epoch) else
  bif m.Kind == 13 then decide (MayPt m.Part) else
  bif m.Kind == 15 then decide (MayPt m.Part) else true
def sp2 (m : GMsg) : Bool :=
  bif m.Kind == 2 then mayLst m.List_ 0 4096 else
  bif m.Kind == 3 then mayLst m.List_ 1 1 else
  bif m.Kind == 6 then mayLst m.List_ 1 4096 else
  bif m.Kind == 9 then mayEn m.Entry else
  bif m.Kind == 11 then decide (sit m.Origin) && decide (MayOps m.Ops) else
  bif m.Kind == 12 then decide (MayEp m.Epoch) else
  bif m.Kind == 13 then decide (MayPt m.Part) else
  bif m.Kind == 15 then decide (MayPt m.Part) else true
def kindM (m : GMsg) : Prop := 1 ≤ m.Kind ∧ m.Kind ≤ 15
instance (m : GMsg) : Decidable (kindM m) := by unfold kindM; infer_instance
/-- What is asked of the numbers of all. -/
def numM (b : GMsg) : Bool := decide (MayBa b.Ballot) && (decide (cnt b.Slot) && decide (cnt b.Number) && decide (cnt b.Clock)) && decide (MayVec b.Vector_)
/-- May a message be? -/
def mayM (m : GMsg) : Bool := decide (kindM m) && sameM m (bareM m) && (decide (MayAd m.From) && decide (MayAd m.To)) && numM m && sp2 m
theorem kind15 {m : GMsg} (h : kindM m) : m.Kind = 1 ∨ m.Kind = 2 ∨ m.Kind = 3 ∨ m.Kind = 4 ∨ m.Kind = 5 ∨ m.Kind = 6 ∨ m.Kind = 7 ∨ m.Kind = 8 ∨ m.Kind = 9 ∨ m.Kind = 10 ∨ m.Kind = 11 ∨ m.Kind = 12 ∨ m.Kind = 13 ∨ m.Kind = 14 ∨ m.Kind = 15 := by unfold kindM at h; omega
theorem mayEn_z : mayEn zEn = true := by kernel_rfl
section
variable {N : Nat}
theorem checkH_eq (hN : 20 ≤ N) {o : Bool} {m x b : GMsg} (hb : roomM N b) : Hrecord_CheckMsg N x ⟨o, m, b⟩ = some (bif (((o && numM b) && mayLst b.List_ 0 4096) && mayEn b.Entry) && sameM b m then 0 else 40) := by
  have h3 : Frecord_count N [b.Slot, b.Number, b.Clock] = some (decide (cnt b.Slot) && decide (cnt b.Number) && decide (cnt b.Clock)) := by
    rw [countL (by simp; omega) (by simp)]; simp [Bool.and_assoc]
  have h8 : Frecord_count N b.Vector_.toList = some (decide (MayVec b.Vector_)) := by
    rw [countL (by simp; omega) (by simp), mayVec_iff]
  unfold Hrecord_CheckMsg numM
  simp only [mayBallot_eq hN, h3, h8, maySlotted_eq hb.1, checkEntryB hb.2.1, sameMsg_eq hb, bif_some, Option.bind_some, and_bif]
  generalize decide (MayBa b.Ballot) = p1
  generalize (decide (cnt b.Slot) && decide (cnt b.Number) && decide (cnt b.Clock)) = p2
  generalize decide (MayVec b.Vector_) = p3
  generalize mayLst b.List_ 0 4096 = p4
  generalize mayEn b.Entry = p5
  generalize sameM b m = p6
  cases o <;> cases p1 <;> cases p2 <;> cases p3 <;> cases p4 <;> cases p5 <;> cases p6 <;> rfl
theorem roomM_bare {m : GMsg} (h : roomM N m) (hN : 20 ≤ N) : roomM N (bareM m) := by
  obtain ⟨h1, h2, h3, h4⟩ := h
  have r1 : roomS N ([] : List GSlotted) := ⟨by simp; omega, by simp, fun x hx => by cases hx⟩
  have r2 : zEn.Ops.length + 20 ≤ N ∧ zEn.Ops.length ≤ 9223372036854775807 ∧ byt zEn.Part.Data := ⟨by simpa [zEn] using hN, by simp [zEn], fun x hx => by cases hx⟩
  have r3 : ([] : List GOp).length + 20 ≤ N ∧ ([] : List GOp).length ≤ 9223372036854775807 := ⟨by simpa using hN, by simp⟩
  have r4 : byt zPt.Data := fun x hx => by cases hx
  unfold bareM
  repeat' (refine (show ∀ (c : Bool) (x y : GMsg), roomM N x → roomM N y → roomM N (bif c then x else y) from fun c x y hx hy => by cases c <;> assumption) _ _ _ ?_ ?_)
  all_goals exact ⟨by first | exact h1 | exact r1, by first | exact h2 | exact r2, by first | exact h3 | exact r3, by first | exact h4 | exact r4⟩
theorem checkG_eq (hN : 20 ≤ N) {m : GMsg} (hk : kindM m) (hops : m.Ops.length + 20 ≤ N) (hl : m.Ops.length ≤ 9223372036854775807) : Grecord_CheckMsg N m = some (.inl ⟨(decide (MayAd m.From) && decide (MayAd m.To)) && spM m, m, bareM m⟩) := by
  have ha := fun a b => mayAddr_eq hN a b
  have hs1 := fun a => siteL (N := N) (l := [a]) (by simp; omega) (by simp)
  have hop := mayOps_eq (N := N) (l := m.Ops) (by omega) hl
  have hep := fun x => mayEpoch_eq (N := N) (by omega) x
  have hpt := fun x => mayPart_eq (N := N) (by omega) x
  have hk' := kind15 hk
  obtain ⟨kd, a2, a3, a4, a5, a6, a7, a8, a9, a10, a11, a12, a13, a14⟩ := m
  simp only at hk' hop
  rcases hk' with rfl | rfl | rfl | rfl | rfl | rfl | rfl | rfl | rfl | rfl | rfl | rfl | rfl | rfl | rfl
  · have hz : Grecord_CheckMsg N (⟨1, a2, a3, a4, a5, a6, a7, a8, a9, a10, a11, a12, a13, a14⟩ : GMsg) = ((Frecord_mayAddr N [a2, a3]).bind fun r1 => some (.inl ⟨r1, (⟨1, a2, a3, a4, a5, a6, a7, a8, a9, a10, a11, a12, a13, a14⟩ : GMsg), bareM (⟨1, a2, a3, a4, a5, a6, a7, a8, a9, a10, a11, a12, a13, a14⟩ : GMsg)⟩)) := rfl
    rw [hz, ha, Option.bind_some]
    rw [show spM (⟨1, a2, a3, a4, a5, a6, a7, a8, a9, a10, a11, a12, a13, a14⟩ : GMsg) = true from rfl]
    rw [Bool.and_true]
  · have hz : Grecord_CheckMsg N (⟨2, a2, a3, a4, a5, a6, a7, a8, a9, a10, a11, a12, a13, a14⟩ : GMsg) = ((Frecord_mayAddr N [a2, a3]).bind fun r1 => some (.inl ⟨r1, (⟨2, a2, a3, a4, a5, a6, a7, a8, a9, a10, a11, a12, a13, a14⟩ : GMsg), bareM (⟨2, a2, a3, a4, a5, a6, a7, a8, a9, a10, a11, a12, a13, a14⟩ : GMsg)⟩)) := rfl
    rw [hz, ha, Option.bind_some]
    rw [show spM (⟨2, a2, a3, a4, a5, a6, a7, a8, a9, a10, a11, a12, a13, a14⟩ : GMsg) = true from rfl]
    rw [Bool.and_true]
  · have hz : Grecord_CheckMsg N (⟨3, a2, a3, a4, a5, a6, a7, a8, a9, a10, a11, a12, a13, a14⟩ : GMsg) = ((Frecord_mayAddr N [a2, a3]).bind fun r1 => some (.inl ⟨(r1 && ((a6.length : Int) == 1)), (⟨3, a2, a3, a4, a5, a6, a7, a8, a9, a10, a11, a12, a13, a14⟩ : GMsg), bareM (⟨3, a2, a3, a4, a5, a6, a7, a8, a9, a10, a11, a12, a13, a14⟩ : GMsg)⟩)) := rfl
    rw [hz, ha, Option.bind_some]
    rw [show spM (⟨3, a2, a3, a4, a5, a6, a7, a8, a9, a10, a11, a12, a13, a14⟩ : GMsg) = ((a6.length : Int) == 1) from rfl]
  · have hz : Grecord_CheckMsg N (⟨4, a2, a3, a4, a5, a6, a7, a8, a9, a10, a11, a12, a13, a14⟩ : GMsg) = ((Frecord_mayAddr N [a2, a3]).bind fun r1 => some (.inl ⟨r1, (⟨4, a2, a3, a4, a5, a6, a7, a8, a9, a10, a11, a12, a13, a14⟩ : GMsg), bareM (⟨4, a2, a3, a4, a5, a6, a7, a8, a9, a10, a11, a12, a13, a14⟩ : GMsg)⟩)) := rfl
    rw [hz, ha, Option.bind_some]
    rw [show spM (⟨4, a2, a3, a4, a5, a6, a7, a8, a9, a10, a11, a12, a13, a14⟩ : GMsg) = true from rfl]
    rw [Bool.and_true]
  · have hz : Grecord_CheckMsg N (⟨5, a2, a3, a4, a5, a6, a7, a8, a9, a10, a11, a12, a13, a14⟩ : GMsg) = ((Frecord_mayAddr N [a2, a3]).bind fun r1 => some (.inl ⟨r1, (⟨5, a2, a3, a4, a5, a6, a7, a8, a9, a10, a11, a12, a13, a14⟩ : GMsg), bareM (⟨5, a2, a3, a4, a5, a6, a7, a8, a9, a10, a11, a12, a13, a14⟩ : GMsg)⟩)) := rfl
    rw [hz, ha, Option.bind_some]
    rw [show spM (⟨5, a2, a3, a4, a5, a6, a7, a8, a9, a10, a11, a12, a13, a14⟩ : GMsg) = true from rfl]
    rw [Bool.and_true]
  · have hz : Grecord_CheckMsg N (⟨6, a2, a3, a4, a5, a6, a7, a8, a9, a10, a11, a12, a13, a14⟩ : GMsg) = ((Frecord_mayAddr N [a2, a3]).bind fun r1 => some (.inl ⟨(r1 && (decide (1 ≤ (a6.length : Int)))), (⟨6, a2, a3, a4, a5, a6, a7, a8, a9, a10, a11, a12, a13, a14⟩ : GMsg), bareM (⟨6, a2, a3, a4, a5, a6, a7, a8, a9, a10, a11, a12, a13, a14⟩ : GMsg)⟩)) := rfl
    rw [hz, ha, Option.bind_some]
    rw [show spM (⟨6, a2, a3, a4, a5, a6, a7, a8, a9, a10, a11, a12, a13, a14⟩ : GMsg) = decide (1 ≤ (a6.length : Int)) from rfl]
  · have hz : Grecord_CheckMsg N (⟨7, a2, a3, a4, a5, a6, a7, a8, a9, a10, a11, a12, a13, a14⟩ : GMsg) = ((Frecord_mayAddr N [a2, a3]).bind fun r1 => some (.inl ⟨r1, (⟨7, a2, a3, a4, a5, a6, a7, a8, a9, a10, a11, a12, a13, a14⟩ : GMsg), bareM (⟨7, a2, a3, a4, a5, a6, a7, a8, a9, a10, a11, a12, a13, a14⟩ : GMsg)⟩)) := rfl
    rw [hz, ha, Option.bind_some]
    rw [show spM (⟨7, a2, a3, a4, a5, a6, a7, a8, a9, a10, a11, a12, a13, a14⟩ : GMsg) = true from rfl]
    rw [Bool.and_true]
  · have hz : Grecord_CheckMsg N (⟨8, a2, a3, a4, a5, a6, a7, a8, a9, a10, a11, a12, a13, a14⟩ : GMsg) = ((Frecord_mayAddr N [a2, a3]).bind fun r1 => some (.inl ⟨r1, (⟨8, a2, a3, a4, a5, a6, a7, a8, a9, a10, a11, a12, a13, a14⟩ : GMsg), bareM (⟨8, a2, a3, a4, a5, a6, a7, a8, a9, a10, a11, a12, a13, a14⟩ : GMsg)⟩)) := rfl
    rw [hz, ha, Option.bind_some]
    rw [show spM (⟨8, a2, a3, a4, a5, a6, a7, a8, a9, a10, a11, a12, a13, a14⟩ : GMsg) = true from rfl]
    rw [Bool.and_true]
  · have hz : Grecord_CheckMsg N (⟨9, a2, a3, a4, a5, a6, a7, a8, a9, a10, a11, a12, a13, a14⟩ : GMsg) = ((Frecord_mayAddr N [a2, a3]).bind fun r1 => some (.inl ⟨r1, (⟨9, a2, a3, a4, a5, a6, a7, a8, a9, a10, a11, a12, a13, a14⟩ : GMsg), bareM (⟨9, a2, a3, a4, a5, a6, a7, a8, a9, a10, a11, a12, a13, a14⟩ : GMsg)⟩)) := rfl
    rw [hz, ha, Option.bind_some]
    rw [show spM (⟨9, a2, a3, a4, a5, a6, a7, a8, a9, a10, a11, a12, a13, a14⟩ : GMsg) = true from rfl]
    rw [Bool.and_true]
  · have hz : Grecord_CheckMsg N (⟨10, a2, a3, a4, a5, a6, a7, a8, a9, a10, a11, a12, a13, a14⟩ : GMsg) = ((Frecord_mayAddr N [a2, a3]).bind fun r1 => some (.inl ⟨r1, (⟨10, a2, a3, a4, a5, a6, a7, a8, a9, a10, a11, a12, a13, a14⟩ : GMsg), bareM (⟨10, a2, a3, a4, a5, a6, a7, a8, a9, a10, a11, a12, a13, a14⟩ : GMsg)⟩)) := rfl
    rw [hz, ha, Option.bind_some]
    rw [show spM (⟨10, a2, a3, a4, a5, a6, a7, a8, a9, a10, a11, a12, a13, a14⟩ : GMsg) = true from rfl]
    rw [Bool.and_true]
  · have hz : Grecord_CheckMsg N (⟨11, a2, a3, a4, a5, a6, a7, a8, a9, a10, a11, a12, a13, a14⟩ : GMsg) = ((Frecord_mayAddr N [a2, a3]).bind fun r1 => ((bif r1 then Frecord_site N [a11] else some default).bind fun r2 => ((bif (r1 && r2) then Frecord_mayOps N a12 1 else some default).bind fun r3 => some (.inl ⟨((r1 && r2) && r3), (⟨11, a2, a3, a4, a5, a6, a7, a8, a9, a10, a11, a12, a13, a14⟩ : GMsg), bareM (⟨11, a2, a3, a4, a5, a6, a7, a8, a9, a10, a11, a12, a13, a14⟩ : GMsg)⟩)))) := rfl
    rw [hz, ha, Option.bind_some]
    rw [show spM (⟨11, a2, a3, a4, a5, a6, a7, a8, a9, a10, a11, a12, a13, a14⟩ : GMsg) = (decide (sit a11) && decide (MayOps a12)) from rfl]
    simp only [hs1, hop, hep, hpt, bif_some, Option.bind_some, and_bif, List.all_cons, List.all_nil, Bool.and_true]
    rw [Bool.and_assoc]
  · have hz : Grecord_CheckMsg N (⟨12, a2, a3, a4, a5, a6, a7, a8, a9, a10, a11, a12, a13, a14⟩ : GMsg) = ((Frecord_mayAddr N [a2, a3]).bind fun r1 => ((bif r1 then Frecord_mayEpoch N a13 else some default).bind fun r4 => some (.inl ⟨(r1 && r4), (⟨12, a2, a3, a4, a5, a6, a7, a8, a9, a10, a11, a12, a13, a14⟩ : GMsg), bareM (⟨12, a2, a3, a4, a5, a6, a7, a8, a9, a10, a11, a12, a13, a14⟩ : GMsg)⟩))) := rfl
    rw [hz, ha, Option.bind_some]
    rw [show spM (⟨12, a2, a3, a4, a5, a6, a7, a8, a9, a10, a11, a12, a13, a14⟩ : GMsg) = decide (MayEp a13) from rfl]
    simp only [hs1, hop, hep, hpt, bif_some, Option.bind_some, and_bif, List.all_cons, List.all_nil, Bool.and_true]
  · have hz : Grecord_CheckMsg N (⟨13, a2, a3, a4, a5, a6, a7, a8, a9, a10, a11, a12, a13, a14⟩ : GMsg) = ((Frecord_mayAddr N [a2, a3]).bind fun r1 => ((bif r1 then Frecord_mayPart N a14 else some default).bind fun r5 => some (.inl ⟨(r1 && r5), (⟨13, a2, a3, a4, a5, a6, a7, a8, a9, a10, a11, a12, a13, a14⟩ : GMsg), bareM (⟨13, a2, a3, a4, a5, a6, a7, a8, a9, a10, a11, a12, a13, a14⟩ : GMsg)⟩))) := rfl
    rw [hz, ha, Option.bind_some]
    rw [show spM (⟨13, a2, a3, a4, a5, a6, a7, a8, a9, a10, a11, a12, a13, a14⟩ : GMsg) = decide (MayPt a14) from rfl]
    simp only [hs1, hop, hep, hpt, bif_some, Option.bind_some, and_bif, List.all_cons, List.all_nil, Bool.and_true]
  · have hz : Grecord_CheckMsg N (⟨14, a2, a3, a4, a5, a6, a7, a8, a9, a10, a11, a12, a13, a14⟩ : GMsg) = ((Frecord_mayAddr N [a2, a3]).bind fun r1 => some (.inl ⟨r1, (⟨14, a2, a3, a4, a5, a6, a7, a8, a9, a10, a11, a12, a13, a14⟩ : GMsg), bareM (⟨14, a2, a3, a4, a5, a6, a7, a8, a9, a10, a11, a12, a13, a14⟩ : GMsg)⟩)) := rfl
    rw [hz, ha, Option.bind_some]
    rw [show spM (⟨14, a2, a3, a4, a5, a6, a7, a8, a9, a10, a11, a12, a13, a14⟩ : GMsg) = true from rfl]
    rw [Bool.and_true]
  · have hz : Grecord_CheckMsg N (⟨15, a2, a3, a4, a5, a6, a7, a8, a9, a10, a11, a12, a13, a14⟩ : GMsg) = ((Frecord_mayAddr N [a2, a3]).bind fun r1 => ((bif r1 then Frecord_mayPart N a14 else some default).bind fun r5 => some (.inl ⟨(r1 && r5), (⟨15, a2, a3, a4, a5, a6, a7, a8, a9, a10, a11, a12, a13, a14⟩ : GMsg), bareM (⟨15, a2, a3, a4, a5, a6, a7, a8, a9, a10, a11, a12, a13, a14⟩ : GMsg)⟩))) := rfl
    rw [hz, ha, Option.bind_some]
    rw [show spM (⟨15, a2, a3, a4, a5, a6, a7, a8, a9, a10, a11, a12, a13, a14⟩ : GMsg) = decide (MayPt a14) from rfl]
    simp only [hs1, hop, hep, hpt, bif_some, Option.bind_some, and_bif, List.all_cons, List.all_nil, Bool.and_true]
theorem checkG_not (hN : 20 ≤ N) {m : GMsg} (hk : ¬ kindM m) : ∃ b, Grecord_CheckMsg N m = some (.inl ⟨false, m, b⟩) := by
  have hne : ∀ k : Int, 1 ≤ k → k ≤ 15 → (m.Kind == k) = false := fun k h0 h8 => by
    refine beq_eq_false_iff_ne.2 fun h => hk ?_
    unfold kindM; omega
  unfold Grecord_CheckMsg
  rw [mayAddr_eq hN, Option.bind_some, hne 1 (by decide) (by decide), hne 2 (by decide) (by decide), hne 3 (by decide) (by decide), hne 4 (by decide) (by decide), hne 5 (by decide) (by decide), hne 6 (by decide) (by decide), hne 7 (by decide) (by decide), hne 8 (by decide) (by decide), hne 9 (by decide) (by decide), hne 10 (by decide) (by decide), hne 11 (by decide) (by decide), hne 12 (by decide) (by decide), hne 13 (by decide) (by decide), hne 14 (by decide) (by decide), hne 15 (by decide) (by decide)]
  exact ⟨_, rfl⟩
theorem sp_eq {m : GMsg} (hk : kindM m) (h : m = bareM m) : ((spM m && mayLst m.List_ 0 4096) && mayEn m.Entry) = sp2 m := by
  have hL := congrArg GMsg.List_ h
  have hE := congrArg GMsg.Entry h
  have hk' := kind15 hk
  obtain ⟨kd, a2, a3, a4, a5, a6, a7, a8, a9, a10, a11, a12, a13, a14⟩ := m
  simp only at hk'
  rcases hk' with rfl | rfl | rfl | rfl | rfl | rfl | rfl | rfl | rfl | rfl | rfl | rfl | rfl | rfl | rfl
  · replace hL : a6 = [] := hL
    replace hE : a7 = zEn := hE
    rw [hE, hL]
    show ((true && true) && mayEn zEn) = true
    rw [mayEn_z, Bool.and_true, Bool.and_true]
  · replace hL : a6 = a6 := hL
    replace hE : a7 = zEn := hE
    rw [hE]
    show ((true && mayLst a6 0 4096) && mayEn zEn) = mayLst a6 0 4096
    rw [mayEn_z, Bool.and_true]
    rfl
  · replace hL : a6 = a6 := hL
    replace hE : a7 = zEn := hE
    rw [hE]
    show ((((a6.length : Int) == 1) && mayLst a6 0 4096) && mayEn zEn) = mayLst a6 1 1
    rw [mayEn_z, Bool.and_true]
    unfold mayLst
    cases a6.all maySl with
    | false => simp
    | true => rw [Bool.eq_iff_iff]; simp <;> omega
  · replace hL : a6 = [] := hL
    replace hE : a7 = zEn := hE
    rw [hE, hL]
    show ((true && true) && mayEn zEn) = true
    rw [mayEn_z, Bool.and_true, Bool.and_true]
  · replace hL : a6 = [] := hL
    replace hE : a7 = zEn := hE
    rw [hE, hL]
    show ((true && true) && mayEn zEn) = true
    rw [mayEn_z, Bool.and_true, Bool.and_true]
  · replace hL : a6 = a6 := hL
    replace hE : a7 = zEn := hE
    rw [hE]
    show ((decide (1 ≤ (a6.length : Int)) && mayLst a6 0 4096) && mayEn zEn) = mayLst a6 1 4096
    rw [mayEn_z, Bool.and_true]
    unfold mayLst
    cases a6.all maySl with
    | false => simp
    | true => rw [Bool.eq_iff_iff]; simp <;> omega
  · replace hL : a6 = [] := hL
    replace hE : a7 = zEn := hE
    rw [hE, hL]
    show ((true && true) && mayEn zEn) = true
    rw [mayEn_z, Bool.and_true, Bool.and_true]
  · replace hL : a6 = [] := hL
    replace hE : a7 = zEn := hE
    rw [hE, hL]
    show ((true && true) && mayEn zEn) = true
    rw [mayEn_z, Bool.and_true, Bool.and_true]
  · replace hL : a6 = [] := hL
    replace hE : a7 = a7 := hE
    subst hL
    show ((true && true) && mayEn a7) = mayEn a7
    rfl
  · replace hL : a6 = [] := hL
    replace hE : a7 = zEn := hE
    rw [hE, hL]
    show ((true && true) && mayEn zEn) = true
    rw [mayEn_z, Bool.and_true, Bool.and_true]
  · replace hL : a6 = [] := hL
    replace hE : a7 = zEn := hE
    rw [hE, hL]
    show (((decide (sit a11) && decide (MayOps a12)) && true) && mayEn zEn) = (decide (sit a11) && decide (MayOps a12))
    rw [mayEn_z, Bool.and_true, Bool.and_true]
  · replace hL : a6 = [] := hL
    replace hE : a7 = zEn := hE
    rw [hE, hL]
    show ((decide (MayEp a13) && true) && mayEn zEn) = decide (MayEp a13)
    rw [mayEn_z, Bool.and_true, Bool.and_true]
  · replace hL : a6 = [] := hL
    replace hE : a7 = zEn := hE
    rw [hE, hL]
    show ((decide (MayPt a14) && true) && mayEn zEn) = decide (MayPt a14)
    rw [mayEn_z, Bool.and_true, Bool.and_true]
  · replace hL : a6 = [] := hL
    replace hE : a7 = zEn := hE
    rw [hE, hL]
    show ((true && true) && mayEn zEn) = true
    rw [mayEn_z, Bool.and_true, Bool.and_true]
  · replace hL : a6 = [] := hL
    replace hE : a7 = zEn := hE
    rw [hE, hL]
    show ((decide (MayPt a14) && true) && mayEn zEn) = decide (MayPt a14)
    rw [mayEn_z, Bool.and_true, Bool.and_true]
theorem sameM_comm {a b : GMsg} (ha : bytM a) (hb : bytM b) : sameM a b = sameM b a := by
  rw [Bool.eq_iff_iff, sameM_iff ha hb, sameM_iff hb ha]; exact eq_comm
theorem checkMsg_eq (hN : 20 ≤ N) {m : GMsg} (h : roomM N m) : Frecord_CheckMsg N m = some (bif mayM m then 0 else 40) := by
  unfold Frecord_CheckMsg
  by_cases hk : kindM m
  · have hr := roomM_bare h hN
    rw [checkG_eq hN hk h.2.2.1.1 h.2.2.1.2, Option.bind_some]
    show Hrecord_CheckMsg N m _ = _
    rw [checkH_eq hN hr]
    unfold mayM
    rw [decide_eq_true hk, sameM_comm (b := bareM m) h.byt hr.byt]
    cases hs : sameM (bareM m) m with
    | false => simp
    | true =>
      have he : m = bareM m := ((sameM_iff hr.byt h.byt).1 hs).symm
      rw [← he, ← sp_eq hk he]
      generalize (decide (MayAd m.From) && decide (MayAd m.To)) = p1
      generalize spM m = p2
      generalize numM m = p3
      generalize mayLst m.List_ 0 4096 = p4
      generalize mayEn m.Entry = p5
      cases p1 <;> cases p2 <;> cases p3 <;> cases p4 <;> cases p5 <;> rfl
  · obtain ⟨b, hb⟩ := checkG_not hN hk
    rw [hb, Option.bind_some]
    unfold mayM
    rw [decide_eq_false hk]
    rfl
theorem plain_eq {m : GMsg} (hk : kindM m) : Fref04_plain N m = some (bareM m, true) := by
  have hk' := kind15 hk
  obtain ⟨kd, a2, a3, a4, a5, a6, a7, a8, a9, a10, a11, a12, a13, a14⟩ := m
  simp only at hk'
  rcases hk' with rfl | rfl | rfl | rfl | rfl | rfl | rfl | rfl | rfl | rfl | rfl | rfl | rfl | rfl | rfl <;> rfl
theorem plain_not {m : GMsg} (hk : ¬ kindM m) : ∃ b, Fref04_plain N m = some (b, false) := by
  have hne : ∀ k : Int, 1 ≤ k → k ≤ 15 → (m.Kind == k) = false := fun k h0 h8 => by
    refine beq_eq_false_iff_ne.2 fun h => hk ?_
    unfold kindM; omega
  unfold Fref04_plain
  rw [hne 1 (by decide) (by decide), hne 2 (by decide) (by decide), hne 3 (by decide) (by decide), hne 4 (by decide) (by decide), hne 5 (by decide) (by decide), hne 6 (by decide) (by decide), hne 7 (by decide) (by decide), hne 8 (by decide) (by decide), hne 9 (by decide) (by decide), hne 10 (by decide) (by decide), hne 11 (by decide) (by decide), hne 12 (by decide) (by decide), hne 13 (by decide) (by decide), hne 14 (by decide) (by decide), hne 15 (by decide) (by decide)]
  exact ⟨_, rfl⟩
/-- The kinds' own questions, as the reference asks them. -/
theorem refMayMsg_eq (hN : 20 ≤ N) {m : GMsg} (h : roomM N m) : Fref04_MayMsg N m = some (mayM m) := by
  by_cases hk : kindM m
  · have hr := roomM_bare h hN
    unfold Fref04_MayMsg
    rw [plain_eq hk, Option.bind_some]
    simp only [refSameMsg_eq h, refAddr_eq, Bool.not_true, Bool.not_false, Bool.false_or, cond_true, Option.bind_some, bif_some]
    unfold mayM
    rw [decide_eq_true hk, Bool.true_and]
    cases hs : sameM m (bareM m) with
    | false => rfl
    | true =>
      cases h1 : decide (MayAd m.From) with
      | false => rfl
      | true =>
        cases h2 : decide (MayAd m.To) with
        | false => rfl
        | true =>
          simp only [Bool.not_true, Bool.not_false, Bool.or_false, cond_true, cond_false, Bool.true_and, Bool.and_true]
          simp only [refBallot_eq, refcount_eq, refMayVec_eq (N := N) (by omega), refList_eq h.1, refMayEntryB h.2.1, refsite_eq, refops_eq (N := N) (l := m.Ops) (by have := h.2.2.1.1; omega) h.2.2.1.2, refMayEpoch_eq (N := N) (by omega), refMayPart_eq, Option.bind_some, bif_some, and_bif]
          unfold numM sp2
          generalize decide (MayBa m.Ballot) = p1
          generalize decide (cnt m.Slot) = p2
          generalize decide (cnt m.Number) = p3
          generalize decide (cnt m.Clock) = p4
          generalize decide (MayVec m.Vector_) = p5
          cases p1 <;> cases p2 <;> cases p3 <;> cases p4 <;> cases p5 <;> first | rfl | skip
          simp only [Bool.not_true, Bool.not_false, Bool.or_false, cond_true, cond_false, Bool.true_and, Bool.and_true]
          cases (m.Kind == 2) <;> cases (m.Kind == 3) <;> cases (m.Kind == 6) <;> cases (m.Kind == 9) <;> cases (m.Kind == 11) <;> cases (m.Kind == 12) <;> cases (m.Kind == 13) <;> cases (m.Kind == 15) <;> rfl
  · obtain ⟨b, hb⟩ := plain_not (N := N) hk
    unfold Fref04_MayMsg mayM
    rw [hb, decide_eq_false hk]
    rfl
theorem refCheckMsg_eq (hN : 20 ≤ N) {m : GMsg} (h : roomM N m) : Fref04_CheckMsg N m = some (bif mayM m then 0 else 40) := by
  unfold Fref04_CheckMsg Fref04_Errno
  rw [refMayMsg_eq hN h, Option.bind_some]
  cases mayM m <;> rfl
theorem recordChecks_F (hN : 60 ≤ N) (op : GOp) (e : GEpoch) {x : GEntry} {m : GMsg} (hx : x.Ops.length + 20 ≤ N ∧ x.Ops.length ≤ 9223372036854775807 ∧ byt x.Part.Data) (hm : roomM N m) : Flaw04_RecordChecks N op e x m = some true := by
  unfold Flaw04_RecordChecks
  rw [begun_eq hN]
  simp only [checkOp_eq (N := N) (by omega), refCheckOp_eq, checkEpoch_eq (N := N) (by omega), refCheckEpoch_eq (N := N) (by omega), refCheckEntry_eq hx.1 hx.2.1 hx.2.2, checkEntryB hx, checkMsg_eq (by omega) hm, refCheckMsg_eq (by omega) hm, Option.bind_some, cond_true, beq_self_eq_true, Bool.and_self, Bool.true_and]
end
end Go.Proofs.Yteinehkdjkobnaa
