/-
Entries that may be, by the reference.
-/
import Derived.Test.YteinehkdjkobnaaRf
set_option linter.unusedVariables false
set_option linter.unusedSimpArgs false
namespace Go.Proofs.Yteinehkdjkobnaa
open Go Go.Ev

def VerB (P : Prop) (o : Option Bool) : Prop := (P ∧ o = some true) ∨ (¬ P ∧ o = some false)
theorem verB_of {P : Prop} {b : Bool} (h : b = true ↔ P) : VerB P (some b) := by
  cases b with
  | true => exact .inl ⟨h.1 rfl, rfl⟩
  | false => exact .inr ⟨fun hp => (by cases h.2 hp), rfl⟩
section
variable {N : Nat}
theorem refcount_eq (n : Int) : Fref04_count N n = some (decide (cnt n)) := by
  unfold Fref04_count
  exact congrArg some (bdec (by unfold cnt; simp only [Bool.and_eq_true, decide_eq_true_eq]))
theorem refsite_eq (n : Int) : Fref04_site N n = some (decide (sit n)) := by
  unfold Fref04_site
  exact congrArg some (bdec (by unfold sit; simp only [Bool.and_eq_true, decide_eq_true_eq]))
theorem refMayEntry_eq {e : GEntry} (hN : e.Ops.length + 20 ≤ N) (hl : e.Ops.length ≤ 9223372036854775807) (hb : byt e.Part.Data) : VerB (MayEn e) (Fref04_MayEntry N e) := by
  have hs : Fref04_SameEntry N e (bareE e) = some (sameE e (bareE e)) := refSameEntry_eq (by omega) (by omega)
  have hsb : sameE e (bareE e) = true ↔ e = bareE e := sameE_iff hb (byt_bare hb)
  have hops := refops_eq (N := N) (l := e.Ops) (by omega) hl
  have hep := fun x => refMayEpoch_eq (N := N) (by omega) x
  have hvec := fun x => refMayVec_eq (N := N) (by omega) x
  have hpt := fun x => refMayPart_eq (N := N) x
  have hmo := fun x => refMayOp_eq (N := N) x
  by_cases hk : kindE e
  · have hk9 : e.Kind = 0 ∨ e.Kind = 1 ∨ e.Kind = 2 ∨ e.Kind = 3 ∨ e.Kind = 4 ∨ e.Kind = 5 ∨ e.Kind = 6 ∨ e.Kind = 7 ∨ e.Kind = 8 := by unfold kindE at hk; omega
    obtain ⟨kd, a2, a3, a4, a5, a6, a7, a8, a9, a10, a11, a12, a13, a14, a15⟩ := e
    simp only at hk9
    rcases hk9 with rfl | rfl | rfl | rfl | rfl | rfl | rfl | rfl | rfl
    · have hz : Fref04_MayEntry N (⟨0, a2, a3, a4, a5, a6, a7, a8, a9, a10, a11, a12, a13, a14, a15⟩ : GEntry) = ((Fref04_SameEntry N (⟨0, a2, a3, a4, a5, a6, a7, a8, a9, a10, a11, a12, a13, a14, a15⟩ : GEntry) (bareE ⟨0, a2, a3, a4, a5, a6, a7, a8, a9, a10, a11, a12, a13, a14, a15⟩)).bind fun r2 => bif (!r2) then some false else ((Fref04_site N a13).bind fun r15 =>
          ((bif r15 then Fref04_site N a14 else some default).bind fun r16 =>
          ((bif (r15 && r16) then Fref04_count N a15 else some default).bind fun r17 =>
          (some ((r15 && r16) && r17)))))) := rfl
      have hz2 : ((Fref04_site N a13).bind fun r15 =>
          ((bif r15 then Fref04_site N a14 else some default).bind fun r16 =>
          ((bif (r15 && r16) then Fref04_count N a15 else some default).bind fun r17 =>
          (some ((r15 && r16) && r17))))) = some (condE (⟨0, a2, a3, a4, a5, a6, a7, a8, a9, a10, a11, a12, a13, a14, a15⟩ : GEntry)) := by
        simp only [refcount_eq, refsite_eq, hops, hep, hvec, hpt, hmo, bif_some, Option.bind_some, and_bif]
        rfl
      rw [hz, hs, Option.bind_some, hz2]
      cases hc : sameE (⟨0, a2, a3, a4, a5, a6, a7, a8, a9, a10, a11, a12, a13, a14, a15⟩ : GEntry) (bareE ⟨0, a2, a3, a4, a5, a6, a7, a8, a9, a10, a11, a12, a13, a14, a15⟩) with
      | true => exact verB_of ⟨fun h => ⟨hk, hsb.1 hc, h⟩, fun h => h.2.2⟩
      | false => exact .inr ⟨fun h => (by rw [hsb.2 h.2.1] at hc; cases hc), rfl⟩
    · have hz : Fref04_MayEntry N (⟨1, a2, a3, a4, a5, a6, a7, a8, a9, a10, a11, a12, a13, a14, a15⟩ : GEntry) = ((Fref04_SameEntry N (⟨1, a2, a3, a4, a5, a6, a7, a8, a9, a10, a11, a12, a13, a14, a15⟩ : GEntry) (bareE ⟨1, a2, a3, a4, a5, a6, a7, a8, a9, a10, a11, a12, a13, a14, a15⟩)).bind fun r2 => bif (!r2) then some false else ((Fref04_count N a2).bind fun r3 =>
          ((bif (r3 && (decide (0 < a2))) then Fref04_count N a3 else some default).bind fun r4 =>
          ((bif (((r3 && (decide (0 < a2))) && r4) && (decide (0 < a3))) then Fref04_MayOp N a4 else some default).bind fun r5 =>
          (some ((((r3 && (decide (0 < a2))) && r4) && (decide (0 < a3))) && r5)))))) := rfl
      have hz2 : ((Fref04_count N a2).bind fun r3 =>
          ((bif (r3 && (decide (0 < a2))) then Fref04_count N a3 else some default).bind fun r4 =>
          ((bif (((r3 && (decide (0 < a2))) && r4) && (decide (0 < a3))) then Fref04_MayOp N a4 else some default).bind fun r5 =>
          (some ((((r3 && (decide (0 < a2))) && r4) && (decide (0 < a3))) && r5))))) = some (condE (⟨1, a2, a3, a4, a5, a6, a7, a8, a9, a10, a11, a12, a13, a14, a15⟩ : GEntry)) := by
        simp only [refcount_eq, refsite_eq, hops, hep, hvec, hpt, hmo, bif_some, Option.bind_some, and_bif]
        rfl
      rw [hz, hs, Option.bind_some, hz2]
      cases hc : sameE (⟨1, a2, a3, a4, a5, a6, a7, a8, a9, a10, a11, a12, a13, a14, a15⟩ : GEntry) (bareE ⟨1, a2, a3, a4, a5, a6, a7, a8, a9, a10, a11, a12, a13, a14, a15⟩) with
      | true => exact verB_of ⟨fun h => ⟨hk, hsb.1 hc, h⟩, fun h => h.2.2⟩
      | false => exact .inr ⟨fun h => (by rw [hsb.2 h.2.1] at hc; cases hc), rfl⟩
    · have hz : Fref04_MayEntry N (⟨2, a2, a3, a4, a5, a6, a7, a8, a9, a10, a11, a12, a13, a14, a15⟩ : GEntry) = ((Fref04_SameEntry N (⟨2, a2, a3, a4, a5, a6, a7, a8, a9, a10, a11, a12, a13, a14, a15⟩ : GEntry) (bareE ⟨2, a2, a3, a4, a5, a6, a7, a8, a9, a10, a11, a12, a13, a14, a15⟩)).bind fun r2 => bif (!r2) then some false else ((Fref04_site N a5).bind fun r6 =>
          ((bif r6 then Fref04_count N a6 else some default).bind fun r7 =>
          ((bif (r6 && r7) then Fref04_ops N a7 else some default).bind fun r8 =>
          (some ((r6 && r7) && r8)))))) := rfl
      have hz2 : ((Fref04_site N a5).bind fun r6 =>
          ((bif r6 then Fref04_count N a6 else some default).bind fun r7 =>
          ((bif (r6 && r7) then Fref04_ops N a7 else some default).bind fun r8 =>
          (some ((r6 && r7) && r8))))) = some (condE (⟨2, a2, a3, a4, a5, a6, a7, a8, a9, a10, a11, a12, a13, a14, a15⟩ : GEntry)) := by
        simp only [refcount_eq, refsite_eq, hops, hep, hvec, hpt, hmo, bif_some, Option.bind_some, and_bif]
        rfl
      rw [hz, hs, Option.bind_some, hz2]
      cases hc : sameE (⟨2, a2, a3, a4, a5, a6, a7, a8, a9, a10, a11, a12, a13, a14, a15⟩ : GEntry) (bareE ⟨2, a2, a3, a4, a5, a6, a7, a8, a9, a10, a11, a12, a13, a14, a15⟩) with
      | true => exact verB_of ⟨fun h => ⟨hk, hsb.1 hc, h⟩, fun h => h.2.2⟩
      | false => exact .inr ⟨fun h => (by rw [hsb.2 h.2.1] at hc; cases hc), rfl⟩
    · have hz : Fref04_MayEntry N (⟨3, a2, a3, a4, a5, a6, a7, a8, a9, a10, a11, a12, a13, a14, a15⟩ : GEntry) = ((Fref04_SameEntry N (⟨3, a2, a3, a4, a5, a6, a7, a8, a9, a10, a11, a12, a13, a14, a15⟩ : GEntry) (bareE ⟨3, a2, a3, a4, a5, a6, a7, a8, a9, a10, a11, a12, a13, a14, a15⟩)).bind fun r2 => bif (!r2) then some false else ((Fref04_MayEpoch N a8).bind fun r9 => (some r9))) := rfl
      have hz2 : ((Fref04_MayEpoch N a8).bind fun r9 => (some r9)) = some (condE (⟨3, a2, a3, a4, a5, a6, a7, a8, a9, a10, a11, a12, a13, a14, a15⟩ : GEntry)) := by
        simp only [refcount_eq, refsite_eq, hops, hep, hvec, hpt, hmo, bif_some, Option.bind_some, and_bif]
        rfl
      rw [hz, hs, Option.bind_some, hz2]
      cases hc : sameE (⟨3, a2, a3, a4, a5, a6, a7, a8, a9, a10, a11, a12, a13, a14, a15⟩ : GEntry) (bareE ⟨3, a2, a3, a4, a5, a6, a7, a8, a9, a10, a11, a12, a13, a14, a15⟩) with
      | true => exact verB_of ⟨fun h => ⟨hk, hsb.1 hc, h⟩, fun h => h.2.2⟩
      | false => exact .inr ⟨fun h => (by rw [hsb.2 h.2.1] at hc; cases hc), rfl⟩
    · have hz : Fref04_MayEntry N (⟨4, a2, a3, a4, a5, a6, a7, a8, a9, a10, a11, a12, a13, a14, a15⟩ : GEntry) = ((Fref04_SameEntry N (⟨4, a2, a3, a4, a5, a6, a7, a8, a9, a10, a11, a12, a13, a14, a15⟩ : GEntry) (bareE ⟨4, a2, a3, a4, a5, a6, a7, a8, a9, a10, a11, a12, a13, a14, a15⟩)).bind fun r2 => bif (!r2) then some false else ((Fref04_count N a6).bind fun r10 =>
          ((bif r10 then Fref04_site N a9 else some default).bind fun r11 =>
          ((bif (r10 && r11) then Fref04_MayVector N a10 else some default).bind fun r12 =>
          ((bif ((r10 && r11) && r12) then Fref04_count N a11 else some default).bind fun r13 =>
          (some (((r10 && r11) && r12) && r13))))))) := rfl
      have hz2 : ((Fref04_count N a6).bind fun r10 =>
          ((bif r10 then Fref04_site N a9 else some default).bind fun r11 =>
          ((bif (r10 && r11) then Fref04_MayVector N a10 else some default).bind fun r12 =>
          ((bif ((r10 && r11) && r12) then Fref04_count N a11 else some default).bind fun r13 =>
          (some (((r10 && r11) && r12) && r13)))))) = some (condE (⟨4, a2, a3, a4, a5, a6, a7, a8, a9, a10, a11, a12, a13, a14, a15⟩ : GEntry)) := by
        simp only [refcount_eq, refsite_eq, hops, hep, hvec, hpt, hmo, bif_some, Option.bind_some, and_bif]
        rfl
      rw [hz, hs, Option.bind_some, hz2]
      cases hc : sameE (⟨4, a2, a3, a4, a5, a6, a7, a8, a9, a10, a11, a12, a13, a14, a15⟩ : GEntry) (bareE ⟨4, a2, a3, a4, a5, a6, a7, a8, a9, a10, a11, a12, a13, a14, a15⟩) with
      | true => exact verB_of ⟨fun h => ⟨hk, hsb.1 hc, h⟩, fun h => h.2.2⟩
      | false => exact .inr ⟨fun h => (by rw [hsb.2 h.2.1] at hc; cases hc), rfl⟩
    · have hz : Fref04_MayEntry N (⟨5, a2, a3, a4, a5, a6, a7, a8, a9, a10, a11, a12, a13, a14, a15⟩ : GEntry) = ((Fref04_SameEntry N (⟨5, a2, a3, a4, a5, a6, a7, a8, a9, a10, a11, a12, a13, a14, a15⟩ : GEntry) (bareE ⟨5, a2, a3, a4, a5, a6, a7, a8, a9, a10, a11, a12, a13, a14, a15⟩)).bind fun r2 => bif (!r2) then some false else ((Fref04_MayPart N a12).bind fun r14 => (some r14))) := rfl
      have hz2 : ((Fref04_MayPart N a12).bind fun r14 => (some r14)) = some (condE (⟨5, a2, a3, a4, a5, a6, a7, a8, a9, a10, a11, a12, a13, a14, a15⟩ : GEntry)) := by
        simp only [refcount_eq, refsite_eq, hops, hep, hvec, hpt, hmo, bif_some, Option.bind_some, and_bif]
        rfl
      rw [hz, hs, Option.bind_some, hz2]
      cases hc : sameE (⟨5, a2, a3, a4, a5, a6, a7, a8, a9, a10, a11, a12, a13, a14, a15⟩ : GEntry) (bareE ⟨5, a2, a3, a4, a5, a6, a7, a8, a9, a10, a11, a12, a13, a14, a15⟩) with
      | true => exact verB_of ⟨fun h => ⟨hk, hsb.1 hc, h⟩, fun h => h.2.2⟩
      | false => exact .inr ⟨fun h => (by rw [hsb.2 h.2.1] at hc; cases hc), rfl⟩
    · have hz : Fref04_MayEntry N (⟨6, a2, a3, a4, a5, a6, a7, a8, a9, a10, a11, a12, a13, a14, a15⟩ : GEntry) = ((Fref04_SameEntry N (⟨6, a2, a3, a4, a5, a6, a7, a8, a9, a10, a11, a12, a13, a14, a15⟩ : GEntry) (bareE ⟨6, a2, a3, a4, a5, a6, a7, a8, a9, a10, a11, a12, a13, a14, a15⟩)).bind fun r2 => bif (!r2) then some false else ((Fref04_site N a13).bind fun r15 =>
          ((bif r15 then Fref04_site N a14 else some default).bind fun r16 =>
          ((bif (r15 && r16) then Fref04_count N a15 else some default).bind fun r17 =>
          (some ((r15 && r16) && r17)))))) := rfl
      have hz2 : ((Fref04_site N a13).bind fun r15 =>
          ((bif r15 then Fref04_site N a14 else some default).bind fun r16 =>
          ((bif (r15 && r16) then Fref04_count N a15 else some default).bind fun r17 =>
          (some ((r15 && r16) && r17))))) = some (condE (⟨6, a2, a3, a4, a5, a6, a7, a8, a9, a10, a11, a12, a13, a14, a15⟩ : GEntry)) := by
        simp only [refcount_eq, refsite_eq, hops, hep, hvec, hpt, hmo, bif_some, Option.bind_some, and_bif]
        rfl
      rw [hz, hs, Option.bind_some, hz2]
      cases hc : sameE (⟨6, a2, a3, a4, a5, a6, a7, a8, a9, a10, a11, a12, a13, a14, a15⟩ : GEntry) (bareE ⟨6, a2, a3, a4, a5, a6, a7, a8, a9, a10, a11, a12, a13, a14, a15⟩) with
      | true => exact verB_of ⟨fun h => ⟨hk, hsb.1 hc, h⟩, fun h => h.2.2⟩
      | false => exact .inr ⟨fun h => (by rw [hsb.2 h.2.1] at hc; cases hc), rfl⟩
    · have hz : Fref04_MayEntry N (⟨7, a2, a3, a4, a5, a6, a7, a8, a9, a10, a11, a12, a13, a14, a15⟩ : GEntry) = ((Fref04_SameEntry N (⟨7, a2, a3, a4, a5, a6, a7, a8, a9, a10, a11, a12, a13, a14, a15⟩ : GEntry) (bareE ⟨7, a2, a3, a4, a5, a6, a7, a8, a9, a10, a11, a12, a13, a14, a15⟩)).bind fun r2 => bif (!r2) then some false else ((Fref04_site N a13).bind fun r15 =>
          ((bif r15 then Fref04_site N a14 else some default).bind fun r16 =>
          ((bif (r15 && r16) then Fref04_count N a15 else some default).bind fun r17 =>
          (some ((r15 && r16) && r17)))))) := rfl
      have hz2 : ((Fref04_site N a13).bind fun r15 =>
          ((bif r15 then Fref04_site N a14 else some default).bind fun r16 =>
          ((bif (r15 && r16) then Fref04_count N a15 else some default).bind fun r17 =>
          (some ((r15 && r16) && r17))))) = some (condE (⟨7, a2, a3, a4, a5, a6, a7, a8, a9, a10, a11, a12, a13, a14, a15⟩ : GEntry)) := by
        simp only [refcount_eq, refsite_eq, hops, hep, hvec, hpt, hmo, bif_some, Option.bind_some, and_bif]
        rfl
      rw [hz, hs, Option.bind_some, hz2]
      cases hc : sameE (⟨7, a2, a3, a4, a5, a6, a7, a8, a9, a10, a11, a12, a13, a14, a15⟩ : GEntry) (bareE ⟨7, a2, a3, a4, a5, a6, a7, a8, a9, a10, a11, a12, a13, a14, a15⟩) with
      | true => exact verB_of ⟨fun h => ⟨hk, hsb.1 hc, h⟩, fun h => h.2.2⟩
      | false => exact .inr ⟨fun h => (by rw [hsb.2 h.2.1] at hc; cases hc), rfl⟩
    · have hz : Fref04_MayEntry N (⟨8, a2, a3, a4, a5, a6, a7, a8, a9, a10, a11, a12, a13, a14, a15⟩ : GEntry) = ((Fref04_SameEntry N (⟨8, a2, a3, a4, a5, a6, a7, a8, a9, a10, a11, a12, a13, a14, a15⟩ : GEntry) (bareE ⟨8, a2, a3, a4, a5, a6, a7, a8, a9, a10, a11, a12, a13, a14, a15⟩)).bind fun r2 => bif (!r2) then some false else ((Fref04_site N a13).bind fun r15 =>
          ((bif r15 then Fref04_site N a14 else some default).bind fun r16 =>
          ((bif (r15 && r16) then Fref04_count N a15 else some default).bind fun r17 =>
          (some ((r15 && r16) && r17)))))) := rfl
      have hz2 : ((Fref04_site N a13).bind fun r15 =>
          ((bif r15 then Fref04_site N a14 else some default).bind fun r16 =>
          ((bif (r15 && r16) then Fref04_count N a15 else some default).bind fun r17 =>
          (some ((r15 && r16) && r17))))) = some (condE (⟨8, a2, a3, a4, a5, a6, a7, a8, a9, a10, a11, a12, a13, a14, a15⟩ : GEntry)) := by
        simp only [refcount_eq, refsite_eq, hops, hep, hvec, hpt, hmo, bif_some, Option.bind_some, and_bif]
        rfl
      rw [hz, hs, Option.bind_some, hz2]
      cases hc : sameE (⟨8, a2, a3, a4, a5, a6, a7, a8, a9, a10, a11, a12, a13, a14, a15⟩ : GEntry) (bareE ⟨8, a2, a3, a4, a5, a6, a7, a8, a9, a10, a11, a12, a13, a14, a15⟩) with
      | true => exact verB_of ⟨fun h => ⟨hk, hsb.1 hc, h⟩, fun h => h.2.2⟩
      | false => exact .inr ⟨fun h => (by rw [hsb.2 h.2.1] at hc; cases hc), rfl⟩
  · refine Or.inr ⟨fun h => hk h.1, ?_⟩
    have hne : ∀ k : Int, 0 ≤ k → k ≤ 8 → (e.Kind == k) = false := fun k h0 h8 => by
      refine beq_eq_false_iff_ne.2 fun h => hk ?_
      unfold kindE; omega
    unfold Fref04_MayEntry Fref04_bare
    rw [hne 0 (by decide) (by decide), hne 1 (by decide) (by decide), hne 2 (by decide) (by decide), hne 3 (by decide) (by decide), hne 4 (by decide) (by decide), hne 5 (by decide) (by decide), hne 6 (by decide) (by decide), hne 7 (by decide) (by decide), hne 8 (by decide) (by decide)]
    rfl
end
end Go.Proofs.Yteinehkdjkobnaa
