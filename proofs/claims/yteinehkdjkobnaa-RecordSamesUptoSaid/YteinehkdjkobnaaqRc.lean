/-
Which entries may be, and which are the same.
-/
import Derived.Test.YteinehkdjkobnaaqRb
set_option linter.unusedVariables false
set_option linter.unusedSimpArgs false
namespace Go.Proofs.Yteinehkdjkobnaa
open Go Go.Ev
def cnt (n : Int) : Prop := 0 ≤ n ∧ n ≤ 1099511627776
instance (n : Int) : Decidable (cnt n) := by unfold cnt; infer_instance
def sit (n : Int) : Prop := 0 ≤ n ∧ n < 8
instance (n : Int) : Decidable (sit n) := by unfold sit; infer_instance
def MayVec (v : Vector Int 8) : Prop := ∀ n ∈ v.toList, cnt n
instance (v : Vector Int 8) : Decidable (MayVec v) := by unfold MayVec; infer_instance
def epOk (e : GEpoch) (j : Nat) : Prop := (0 ≤ vget e.States j default ∧ vget e.States j default ≤ 3) ∧ (-1 ≤ vget e.Sponsor j default ∧ vget e.Sponsor j default < 8)
instance (e : GEpoch) (j : Nat) : Decidable (epOk e j) := by unfold epOk; infer_instance
def MayEp (e : GEpoch) : Prop := cnt e.Number ∧ MayVec e.Seals ∧ ∀ j, j < 8 → epOk e j
def MayPt (p : GPart) : Prop := cnt p.Snap ∧ (1 ≤ p.Many ∧ p.Many ≤ 4096) ∧ (0 ≤ p.Index ∧ p.Index < p.Many) ∧ p.Data.length ≤ 16384
instance (p : GPart) : Decidable (MayPt p) := by unfold MayPt; infer_instance
def MayOps (l : List GOp) : Prop := 1 ≤ l.length ∧ l.length ≤ 4096 ∧ ∀ o ∈ l, MayOp o
instance (l : List GOp) : Decidable (MayOps l) := by unfold MayOps; infer_instance
theorem bif_some {α : Type} (c : Bool) (x y : α) : (bif c then some x else some y) = some (bif c then x else y) := by cases c <;> rfl
theorem and_bif (c x y : Bool) : (c && (bif c then x else y)) = (c && x) := by cases c <;> rfl
def opq (a b : GOp) : Bool := (((a.Stamp.Time == b.Stamp.Time) && (a.Stamp.Site == b.Stamp.Site)) && ((a.Kind == b.Kind) && ((a.Node == b.Node) && ((a.Parent == b.Parent) && ((a.Name == b.Name) && ((a.Key == b.Key) && (a.Value == b.Value)))))))
theorem opq_iff (a b : GOp) : opq a b = true ↔ a = b := by
  obtain ⟨⟨a1, a2⟩, a3, a4, a5, a6, a7, a8⟩ := a
  obtain ⟨⟨b1, b2⟩, b3, b4, b5, b6, b7, b8⟩ := b
  simp [opq, and_assoc]
def opsB (a b : List GOp) : Bool := ((a.length : Int) == (b.length : Int)) && ((a.zip b).all fun p => opq p.1 p.2)
theorem opsB_iff (a b : List GOp) : opsB a b = true ↔ a = b := by
  unfold opsB
  by_cases h : a.length = b.length
  · simp only [h, beq_self_eq_true, Bool.true_and]
    exact zip_all_iff opq_iff a b h
  · have : ((a.length : Int) == (b.length : Int)) = false := by simp; omega
    simp only [this, Bool.false_and, Bool.false_eq_true, false_iff]
    exact fun e => h (by rw [e])
section
variable {N : Nat}
theorem equalOps_eq {a b : List GOp} (hN : a.length < N) (ha : a.length ≤ 9223372036854775807) : Fslices_Equal_Op N a b = some (opsB a b) := by
  unfold Fslices_Equal_Op opsB
  by_cases hl : a.length = b.length
  · simp only [hl, beq_self_eq_true, Bool.not_true, cond_false, Bool.true_and]
    refine iter_run (fun q : Sslices_Equal_Opx4 => 0 ≤ q.t13 ∧ q.t13 ≤ (a.length : Int) ∧ (((a.drop q.t13.toNat).zip (b.drop q.t13.toNat)).all fun p => opq p.1 p.2) = ((a.zip b).all fun p => opq p.1 p.2)) (fun q => ((a.length : Int) - q.t13).toNat) ?_ N _ ⟨by simp, by simp, by simp⟩ (by simp; omega)
    rintro ⟨i⟩ nx ⟨g0, g1, hq⟩ ih
    simp only at g0 g1 hq ih ⊢
    by_cases hi : i < b.length
    · have hi' : i < a.length := by omega
      rw [lget_drop (default : GOp) g0 hi, lget_drop (default : GOp) g0 hi', List.zip_cons_cons, List.all_cons] at hq
      simp only [decide_eq_true hi, ibB_of g0 hi, cond_true]
      change (bif !(opq (lget a i default) (lget b i default)) then _ else _) = _
      cases ho : opq (lget a i default) (lget b i default) with
      | true =>
        rw [ho, Bool.true_and] at hq
        simp only [Bool.not_true, cond_false]
        rw [wrap64 (by omega) (by omega)]
        exact ih ⟨i + 1⟩ ⟨by simp; omega, by simp; omega, hq⟩ (by simp; omega)
      | false => rw [ho, Bool.false_and] at hq; rw [← hq]; rfl
    · have : decide (i < (b.length : Int)) = false := by simpa using hi
      simp only [this, cond_false]
      rw [List.drop_eq_nil_of_le (by omega)] at hq
      rw [← hq]; rfl
  · have : ((a.length : Int) == (b.length : Int)) = false := by simp; omega
    simp only [this, Bool.not_false, cond_true, Bool.false_and]
theorem refOps_eq {a b : List GOp} (hN : a.length < N) (ha : a.length ≤ 9223372036854775807) : Fref04_sameOps N a b = some (opsB a b) := by
  unfold Fref04_sameOps opsB
  by_cases hl : a.length = b.length
  · simp only [hl, beq_self_eq_true, Bool.not_true, cond_false, Bool.true_and]
    refine iter_run (fun q : Sref04_sameOpsx4 => 0 ≤ q.i ∧ q.i ≤ (a.length : Int) ∧ (((a.drop q.i.toNat).zip (b.drop q.i.toNat)).all fun p => opq p.1 p.2) = ((a.zip b).all fun p => opq p.1 p.2)) (fun q => ((a.length : Int) - q.i).toNat) ?_ N _ ⟨by simp, by simp, by simp⟩ (by simp; omega)
    rintro ⟨i⟩ nx ⟨g0, g1, hq⟩ ih
    simp only at g0 g1 hq ih ⊢
    by_cases hi : i < b.length
    · have hi' : i < a.length := by omega
      rw [lget_drop (default : GOp) g0 hi, lget_drop (default : GOp) g0 hi', List.zip_cons_cons, List.all_cons] at hq
      simp only [decide_eq_true hi, ibB_of g0 hi, cond_true]
      change (bif !(opq (lget a i default) (lget b i default)) then _ else _) = _
      cases ho : opq (lget a i default) (lget b i default) with
      | true =>
        rw [ho, Bool.true_and] at hq
        simp only [Bool.not_true, cond_false]
        rw [wrap64 (by omega) (by omega)]
        exact ih ⟨i + 1⟩ ⟨by simp; omega, by simp; omega, hq⟩ (by simp; omega)
      | false => rw [ho, Bool.false_and] at hq; rw [← hq]; rfl
    · have : decide (i < (b.length : Int)) = false := by simpa using hi
      simp only [this, cond_false]
      rw [List.drop_eq_nil_of_le (by omega)] at hq
      rw [← hq]; rfl
  · have : ((a.length : Int) == (b.length : Int)) = false := by simp; omega
    simp only [this, Bool.not_false, cond_true, Bool.false_and]
def epq (a b : GEpoch) : Bool := ((a.Number == b.Number) && ((vbeq beq3 a.States b.States) && ((vbeq beq2 a.Seals b.Seals) && (vbeq beq3 a.Sponsor b.Sponsor))))
theorem beq2_iff (x y : Int) : beq2 x y = true ↔ x = y := by simp [beq2]
theorem beq3_iff (x y : Int) : beq3 x y = true ↔ x = y := by simp [beq3]
theorem epq_iff (a b : GEpoch) : epq a b = true ↔ a = b := by
  obtain ⟨a1, a2, a3, a4⟩ := a
  obtain ⟨b1, b2, b3, b4⟩ := b
  simp only [epq, Bool.and_eq_true, beq_iff_eq, vbeq_iff beq2_iff, vbeq_iff beq3_iff, GEpoch.mk.injEq]
def byt (l : List Int) : Prop := ∀ x ∈ l, byteR x
def ptq (a b : GPart) : Bool := ((((a.Snap == b.Snap) && (a.Index == b.Index)) && (a.Many == b.Many)) && ((strI a.Data) == (strI b.Data)))
theorem strI_inj {a b : List Int} (ha : byt a) (hb : byt b) : strI a = strI b ↔ a = b :=
  ⟨fun h => by rw [← bytesI_strI ha, ← bytesI_strI hb, h], fun h => by rw [h]⟩
theorem ptq_iff {a b : GPart} (ha : byt a.Data) (hb : byt b.Data) : ptq a b = true ↔ a = b := by
  obtain ⟨a1, a2, a3, a4⟩ := a
  obtain ⟨b1, b2, b3, b4⟩ := b
  simp only [ptq, Bool.and_eq_true, beq_iff_eq, strI_inj ha hb, GPart.mk.injEq, and_assoc]
def sameE (a b : GEntry) : Bool :=
  ((((((((((((((a.Kind == b.Kind) && (a.Session == b.Session)) && (a.Request == b.Request)) && opq a.Op b.Op) && (a.Origin == b.Origin)) && (a.Seq == b.Seq)) && opsB a.Ops b.Ops) && epq a.Epoch b.Epoch) && (a.From == b.From)) && (vbeq beq2 a.Vector_ b.Vector_)) && (a.Clock == b.Clock)) && ptq a.Part b.Part) && (a.Site == b.Site)) && (a.Sponsor == b.Sponsor)) && (a.Length == b.Length)
theorem sameE_iff {a b : GEntry} (ha : byt a.Part.Data) (hb : byt b.Part.Data) : sameE a b = true ↔ a = b := by
  obtain ⟨a1, a2, a3, a4, a5, a6, a7, a8, a9, a10, a11, a12, a13, a14, a15⟩ := a
  obtain ⟨b1, b2, b3, b4, b5, b6, b7, b8, b9, b10, b11, b12, b13, b14, b15⟩ := b
  simp only [sameE, Bool.and_eq_true, beq_iff_eq, opq_iff, opsB_iff, epq_iff, vbeq_iff beq2_iff, ptq_iff (a := a12) (b := b12) ha hb, GEntry.mk.injEq, and_assoc]
theorem sameEntry_eq {a b : GEntry} (hN : a.Ops.length < N) (ha : a.Ops.length ≤ 9223372036854775807) : Frecord_SameEntry N a b = some (sameE a b) := by
  unfold Frecord_SameEntry Frecord_samePart
  rw [equalOps_eq hN ha]
  simp only [bif_some, Option.bind_some, and_bif]
  rfl
theorem refSameEntry_eq {a b : GEntry} (hN : a.Ops.length < N) (ha : a.Ops.length ≤ 9223372036854775807) : Fref04_SameEntry N a b = some (sameE a b) := by
  unfold Fref04_SameEntry Fref04_SamePart
  rw [refOps_eq hN ha]
  simp only [bif_some, Option.bind_some, and_bif]
  rfl
end
end Go.Proofs.Yteinehkdjkobnaa
