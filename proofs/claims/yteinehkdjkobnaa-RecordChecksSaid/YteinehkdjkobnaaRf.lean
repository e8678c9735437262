/-
Entries: bare ones, those that may be, both checks of them.
-/
import Derived.Test.YteinehkdjkobnaaRe
set_option linter.unusedVariables false
set_option linter.unusedSimpArgs false
namespace Go.Proofs.Yteinehkdjkobnaa
open Go Go.Ev

def zOp : GOp := ⟨(⟨0, 0⟩ : GStamp), 0, 0, 0, [], [], []⟩
def zV : Vector Int 8 := Vector.replicate 8 (default : Int)
def zEp : GEpoch := ⟨0, zV, zV, zV⟩
def zPt : GPart := ⟨0, 0, 0, []⟩
/-- The fields that an entry's kind has, all others zero. -/
def bareE (e : GEntry) : GEntry :=
  bif e.Kind == 1 then ⟨e.Kind, e.Session, e.Request, e.Op, 0, 0, [], zEp, 0, zV, 0, zPt, 0, 0, 0⟩ else
  bif e.Kind == 2 then ⟨e.Kind, 0, 0, zOp, e.Origin, e.Seq, e.Ops, zEp, 0, zV, 0, zPt, 0, 0, 0⟩ else
  bif e.Kind == 3 then ⟨e.Kind, 0, 0, zOp, 0, 0, [], e.Epoch, 0, zV, 0, zPt, 0, 0, 0⟩ else
  bif e.Kind == 4 then ⟨e.Kind, 0, 0, zOp, 0, e.Seq, [], zEp, e.From, e.Vector_, e.Clock, zPt, 0, 0, 0⟩ else
  bif e.Kind == 5 then ⟨e.Kind, 0, 0, zOp, 0, 0, [], zEp, 0, zV, 0, e.Part, 0, 0, 0⟩ else
  bif e.Kind == 6 then ⟨e.Kind, 0, 0, zOp, 0, 0, [], zEp, 0, zV, 0, zPt, e.Site, e.Sponsor, 0⟩ else
  bif e.Kind == 7 then ⟨e.Kind, 0, 0, zOp, 0, 0, [], zEp, 0, zV, 0, zPt, e.Site, 0, 0⟩ else
  bif e.Kind == 8 then ⟨e.Kind, 0, 0, zOp, 0, 0, [], zEp, 0, zV, 0, zPt, e.Site, 0, e.Length⟩ else
  ⟨e.Kind, 0, 0, zOp, 0, 0, [], zEp, 0, zV, 0, zPt, 0, 0, 0⟩
/-- What its kind asks. -/
def condE (e : GEntry) : Bool :=
  bif e.Kind == 1 then decide (cnt e.Session) && decide (0 < e.Session) && decide (cnt e.Request) && decide (0 < e.Request) && decide (MayOp e.Op) else
  bif e.Kind == 2 then decide (sit e.Origin) && decide (cnt e.Seq) && decide (MayOps e.Ops) else
  bif e.Kind == 3 then decide (MayEp e.Epoch) else
  bif e.Kind == 4 then decide (cnt e.Seq) && decide (sit e.From) && decide (MayVec e.Vector_) && decide (cnt e.Clock) else
  bif e.Kind == 5 then decide (MayPt e.Part) else
  decide (sit e.Site) && decide (sit e.Sponsor) && decide (cnt e.Length)
def kindE (e : GEntry) : Prop := 0 ≤ e.Kind ∧ e.Kind ≤ 8
def MayEn (e : GEntry) : Prop := kindE e ∧ e = bareE e ∧ condE e = true
def Verd (P : Prop) (o : Option Int) : Prop := (P ∧ o = some 0) ∨ (¬ P ∧ o = some 40)
theorem verd_of {P : Prop} {b : Bool} (h : b = true ↔ P) (N : Nat) : Verd P ((Frecord_verdict N b).bind fun r => some r) := by
  cases b with
  | true => exact .inl ⟨h.1 rfl, rfl⟩
  | false => exact .inr ⟨fun hp => (by cases h.2 hp), rfl⟩
theorem kind_cases {e : GEntry} : (e.Kind = 0 ∨ e.Kind = 1 ∨ e.Kind = 2 ∨ e.Kind = 3 ∨ e.Kind = 4 ∨ e.Kind = 5 ∨ e.Kind = 6 ∨ e.Kind = 7 ∨ e.Kind = 8) ∨ ¬ kindE e := by
  unfold kindE; omega
theorem byt_bare {e : GEntry} (h : byt e.Part.Data) : byt (bareE e).Part.Data := by
  unfold bareE
  cases (e.Kind == 1) <;> cases (e.Kind == 2) <;> cases (e.Kind == 3) <;> cases (e.Kind == 4) <;> cases (e.Kind == 5) <;> cases (e.Kind == 6) <;> cases (e.Kind == 7) <;> cases (e.Kind == 8) <;> first | exact h | (intro x hx; cases hx)
theorem ops_bare (e : GEntry) : (bareE e).Ops.length ≤ e.Ops.length := by
  unfold bareE
  cases (e.Kind == 1) <;> cases (e.Kind == 2) <;> cases (e.Kind == 3) <;> cases (e.Kind == 4) <;> cases (e.Kind == 5) <;> cases (e.Kind == 6) <;> cases (e.Kind == 7) <;> cases (e.Kind == 8) <;> simp
section
variable {N : Nat}
theorem same_bare {e : GEntry} (hb : byt e.Part.Data) : sameE (bareE e) e = true ↔ e = bareE e := by
  rw [sameE_iff (byt_bare hb) hb]; exact eq_comm
theorem checkEntry_eq {e : GEntry} (hN : e.Ops.length + 20 ≤ N) (hl : e.Ops.length ≤ 9223372036854775807) (hb : byt e.Part.Data) : Verd (MayEn e) (Frecord_CheckEntry N e) := by
  have hs : Frecord_SameEntry N (bareE e) e = some (sameE (bareE e) e) := sameEntry_eq (by have := ops_bare e; omega) (by have := ops_bare e; omega)
  have hsb := same_bare hb
  have hmo := fun o => mayOp_eq (N := N) (by omega) o
  have hc1 := fun a => countL (N := N) (l := [a]) (by simp; omega) (by simp)
  have hc2 := fun a b => countL (N := N) (l := [a, b]) (by simp; omega) (by simp)
  have hc8 := fun v : Vector Int 8 => countL (N := N) (l := v.toList) (by simp; omega) (by simp)
  have hs1 := fun a => siteL (N := N) (l := [a]) (by simp; omega) (by simp)
  have hs2 := fun a b => siteL (N := N) (l := [a, b]) (by simp; omega) (by simp)
  have hops := mayOps_eq (N := N) (l := e.Ops) (by omega) hl
  have hep := fun x => mayEpoch_eq (N := N) (by omega) x
  have hpt := fun x => mayPart_eq (N := N) (by omega) x
  have hm : kindE e → ∀ b : Bool, (b = true ↔ e = bareE e ∧ condE e = true) → Verd (MayEn e) ((Frecord_verdict N b).bind fun r => some r) := fun hk b h => verd_of (h.trans ⟨fun h => ⟨hk, h⟩, fun h => h.2⟩) N
  by_cases hk : kindE e
  · replace hm := hm hk
    have hk9 : e.Kind = 0 ∨ e.Kind = 1 ∨ e.Kind = 2 ∨ e.Kind = 3 ∨ e.Kind = 4 ∨ e.Kind = 5 ∨ e.Kind = 6 ∨ e.Kind = 7 ∨ e.Kind = 8 := by unfold kindE at hk; omega
    obtain ⟨kd, a2, a3, a4, a5, a6, a7, a8, a9, a10, a11, a12, a13, a14, a15⟩ := e
    simp only at hk9
    rcases hk9 with rfl | rfl | rfl | rfl | rfl | rfl | rfl | rfl | rfl
    · have hz : Frecord_CheckEntry N (⟨0, a2, a3, a4, a5, a6, a7, a8, a9, a10, a11, a12, a13, a14, a15⟩ : GEntry) = ((Frecord_SameEntry N (bareE ⟨0, a2, a3, a4, a5, a6, a7, a8, a9, a10, a11, a12, a13, a14, a15⟩) ⟨0, a2, a3, a4, a5, a6, a7, a8, a9, a10, a11, a12, a13, a14, a15⟩).bind fun r1 => ((Frecord_verdict N r1).bind fun r2 => (some r2))) := rfl
      rw [hz, hs, Option.bind_some]
      refine hm _ (hsb.trans ⟨fun h => ⟨h, ?_⟩, fun h => h.1⟩)
      rw [h]; rfl
    · have hz : Frecord_CheckEntry N (⟨1, a2, a3, a4, a5, a6, a7, a8, a9, a10, a11, a12, a13, a14, a15⟩ : GEntry) = ((Frecord_count N [a2, a3]).bind fun r3 =>
          ((bif ((r3 && (decide (0 < a2))) && (decide (0 < a3))) then Frecord_mayOp N a4 else some default).bind fun r4 =>
          ((bif (((r3 && (decide (0 < a2))) && (decide (0 < a3))) && r4) then Frecord_SameEntry N (bareE ⟨1, a2, a3, a4, a5, a6, a7, a8, a9, a10, a11, a12, a13, a14, a15⟩) ⟨1, a2, a3, a4, a5, a6, a7, a8, a9, a10, a11, a12, a13, a14, a15⟩ else some default).bind fun r5 =>
          ((Frecord_verdict N ((((r3 && (decide (0 < a2))) && (decide (0 < a3))) && r4) && r5)).bind fun r6 => (some r6))))) := rfl
      rw [hz, hc2, Option.bind_some, hmo, hs]
      simp only [bif_some, Option.bind_some, and_bif]
      refine hm _ ?_
      rw [show condE (⟨1, a2, a3, a4, a5, a6, a7, a8, a9, a10, a11, a12, a13, a14, a15⟩ : GEntry) = (decide (cnt a2) && decide (0 < a2) && decide (cnt a3) && decide (0 < a3) && decide (MayOp a4)) from rfl]
      simp only [Bool.and_eq_true, hsb, List.all_cons, List.all_nil, Bool.and_true]
      constructor
      · rintro ⟨⟨⟨⟨⟨h1, h2⟩, h3⟩, h4⟩, h5⟩, h6⟩; exact ⟨h6, ⟨⟨⟨h1, h3⟩, h2⟩, h4⟩, h5⟩
      · rintro ⟨h6, ⟨⟨⟨h1, h3⟩, h2⟩, h4⟩, h5⟩; exact ⟨⟨⟨⟨⟨h1, h2⟩, h3⟩, h4⟩, h5⟩, h6⟩
    · have hz : Frecord_CheckEntry N (⟨2, a2, a3, a4, a5, a6, a7, a8, a9, a10, a11, a12, a13, a14, a15⟩ : GEntry) = (((Frecord_site N [a5]).bind fun r7 =>
        ((bif r7 then Frecord_count N [a6] else some default).bind fun r8 =>
        ((bif (r7 && r8) then Frecord_mayOps N a7 1 else some default).bind fun r9 =>
        ((bif ((r7 && r8) && r9) then Frecord_SameEntry N (bareE (⟨2, a2, a3, a4, a5, a6, a7, a8, a9, a10, a11, a12, a13, a14, a15⟩ : GEntry)) (⟨2, a2, a3, a4, a5, a6, a7, a8, a9, a10, a11, a12, a13, a14, a15⟩ : GEntry) else some default).bind fun r10 =>
        ((Frecord_verdict N (((r7 && r8) && r9) && r10)).bind fun r11 =>
        (some r11))))))) := rfl
      rw [hz]
      simp only [hs1, hs2, hc1, hc2, hops, hep, hpt, hs, bif_some, Option.bind_some, and_bif, List.all_cons, List.all_nil, Bool.and_true]
      refine hm _ ?_
      rw [show condE (⟨2, a2, a3, a4, a5, a6, a7, a8, a9, a10, a11, a12, a13, a14, a15⟩ : GEntry) = (decide (sit a5) && decide (cnt a6) && decide (MayOps a7)) from rfl]
      simp only [Bool.and_eq_true, hsb]
      exact ⟨fun q => ⟨q.2, q.1⟩, fun q => ⟨q.2, q.1⟩⟩
    · have hz : Frecord_CheckEntry N (⟨3, a2, a3, a4, a5, a6, a7, a8, a9, a10, a11, a12, a13, a14, a15⟩ : GEntry) = (((Frecord_mayEpoch N a8).bind fun r12 =>
        ((bif r12 then Frecord_SameEntry N (bareE (⟨3, a2, a3, a4, a5, a6, a7, a8, a9, a10, a11, a12, a13, a14, a15⟩ : GEntry)) (⟨3, a2, a3, a4, a5, a6, a7, a8, a9, a10, a11, a12, a13, a14, a15⟩ : GEntry) else some default).bind fun r13 =>
        ((Frecord_verdict N (r12 && r13)).bind fun r14 =>
        (some r14))))) := rfl
      rw [hz]
      simp only [hs1, hs2, hc1, hc2, hops, hep, hpt, hs, bif_some, Option.bind_some, and_bif, List.all_cons, List.all_nil, Bool.and_true]
      refine hm _ ?_
      rw [show condE (⟨3, a2, a3, a4, a5, a6, a7, a8, a9, a10, a11, a12, a13, a14, a15⟩ : GEntry) = (decide (MayEp a8)) from rfl]
      simp only [Bool.and_eq_true, hsb]
      exact and_comm
    · have hz : Frecord_CheckEntry N (⟨4, a2, a3, a4, a5, a6, a7, a8, a9, a10, a11, a12, a13, a14, a15⟩ : GEntry) = (((Frecord_count N [a6, a11]).bind fun r15 =>
        ((bif r15 then Frecord_site N [a9] else some default).bind fun r16 =>
        (bif (r15 && r16) then
        ((bif (r15 && r16) then Frecord_count N (a10.toList) else some default).bind fun r17 =>
        ((bif ((r15 && r16) && r17) then Frecord_SameEntry N (bareE (⟨4, a2, a3, a4, a5, a6, a7, a8, a9, a10, a11, a12, a13, a14, a15⟩ : GEntry)) (⟨4, a2, a3, a4, a5, a6, a7, a8, a9, a10, a11, a12, a13, a14, a15⟩ : GEntry) else some default).bind fun r18 =>
        ((Frecord_verdict N (((r15 && r16) && r17) && r18)).bind fun r19 =>
        (some r19))))
        else
        ((bif false then Frecord_SameEntry N (bareE (⟨4, a2, a3, a4, a5, a6, a7, a8, a9, a10, a11, a12, a13, a14, a15⟩ : GEntry)) (⟨4, a2, a3, a4, a5, a6, a7, a8, a9, a10, a11, a12, a13, a14, a15⟩ : GEntry) else some default).bind fun r20 =>
        ((Frecord_verdict N false).bind fun r21 =>
        (some r21))))))) := rfl
      rw [hz, hc2, Option.bind_some]
      simp only [hs1, hc8, hs, mayVec_iff, bif_some, Option.bind_some, and_bif, List.all_cons, List.all_nil, Bool.and_true, cond_false, Bool.false_and]
      by_cases h : (decide (cnt a6) && decide (cnt a11) && decide (sit a9)) = true
      · rw [h]
        simp only [cond_true, Bool.true_and]
        refine hm _ ?_
        rw [show condE (⟨4, a2, a3, a4, a5, a6, a7, a8, a9, a10, a11, a12, a13, a14, a15⟩ : GEntry) = (decide (cnt a6) && decide (sit a9) && decide (MayVec a10) && decide (cnt a11)) from rfl]
        simp only [Bool.and_eq_true] at h
        simp only [Bool.and_eq_true, hsb]
        exact ⟨fun q => ⟨q.2, ⟨⟨h.1.1, h.2⟩, q.1⟩, h.1.2⟩, fun q => ⟨q.2.1.2, q.1⟩⟩
      · rw [Bool.eq_false_iff.2 h]
        simp only [cond_false]
        refine hm _ ?_
        rw [show condE (⟨4, a2, a3, a4, a5, a6, a7, a8, a9, a10, a11, a12, a13, a14, a15⟩ : GEntry) = (decide (cnt a6) && decide (sit a9) && decide (MayVec a10) && decide (cnt a11)) from rfl]
        simp only [Bool.and_eq_true, Bool.false_eq_true, false_iff] at h ⊢
        exact fun q => h ⟨⟨q.2.1.1.1, q.2.2⟩, q.2.1.1.2⟩
    · have hz : Frecord_CheckEntry N (⟨5, a2, a3, a4, a5, a6, a7, a8, a9, a10, a11, a12, a13, a14, a15⟩ : GEntry) = (((Frecord_mayPart N a12).bind fun r22 =>
        ((bif r22 then Frecord_SameEntry N (bareE (⟨5, a2, a3, a4, a5, a6, a7, a8, a9, a10, a11, a12, a13, a14, a15⟩ : GEntry)) (⟨5, a2, a3, a4, a5, a6, a7, a8, a9, a10, a11, a12, a13, a14, a15⟩ : GEntry) else some default).bind fun r23 =>
        ((Frecord_verdict N (r22 && r23)).bind fun r24 =>
        (some r24))))) := rfl
      rw [hz]
      simp only [hs1, hs2, hc1, hc2, hops, hep, hpt, hs, bif_some, Option.bind_some, and_bif, List.all_cons, List.all_nil, Bool.and_true]
      refine hm _ ?_
      rw [show condE (⟨5, a2, a3, a4, a5, a6, a7, a8, a9, a10, a11, a12, a13, a14, a15⟩ : GEntry) = (decide (MayPt a12)) from rfl]
      simp only [Bool.and_eq_true, hsb]
      exact and_comm
    · have hz : Frecord_CheckEntry N (⟨6, a2, a3, a4, a5, a6, a7, a8, a9, a10, a11, a12, a13, a14, a15⟩ : GEntry) = (((Frecord_site N [a13, a14]).bind fun r25 =>
        ((bif r25 then Frecord_SameEntry N (bareE (⟨6, a2, a3, a4, a5, a6, a7, a8, a9, a10, a11, a12, a13, a14, a15⟩ : GEntry)) (⟨6, a2, a3, a4, a5, a6, a7, a8, a9, a10, a11, a12, a13, a14, a15⟩ : GEntry) else some default).bind fun r26 =>
        ((Frecord_verdict N (r25 && r26)).bind fun r27 =>
        (some r27))))) := rfl
      rw [hz]
      simp only [hs1, hs2, hc1, hc2, hops, hep, hpt, hs, bif_some, Option.bind_some, and_bif, List.all_cons, List.all_nil, Bool.and_true]
      refine hm _ ?_
      rw [show condE (⟨6, a2, a3, a4, a5, a6, a7, a8, a9, a10, a11, a12, a13, a14, a15⟩ : GEntry) = (decide (sit a13) && decide (sit a14) && decide (cnt a15)) from rfl]
      simp only [Bool.and_eq_true, hsb]
      refine ⟨fun q => ⟨q.2, q.1, ?_⟩, fun q => ⟨q.2.1, q.1⟩⟩
      have := congrArg GEntry.Length q.2
      change a15 = 0 at this
      subst this; exact decide_eq_true ⟨by decide, by decide⟩
    · have hz : Frecord_CheckEntry N (⟨7, a2, a3, a4, a5, a6, a7, a8, a9, a10, a11, a12, a13, a14, a15⟩ : GEntry) = (((Frecord_site N [a13]).bind fun r28 =>
        ((bif r28 then Frecord_SameEntry N (bareE (⟨7, a2, a3, a4, a5, a6, a7, a8, a9, a10, a11, a12, a13, a14, a15⟩ : GEntry)) (⟨7, a2, a3, a4, a5, a6, a7, a8, a9, a10, a11, a12, a13, a14, a15⟩ : GEntry) else some default).bind fun r29 =>
        ((Frecord_verdict N (r28 && r29)).bind fun r30 =>
        (some r30))))) := rfl
      rw [hz]
      simp only [hs1, hs2, hc1, hc2, hops, hep, hpt, hs, bif_some, Option.bind_some, and_bif, List.all_cons, List.all_nil, Bool.and_true]
      refine hm _ ?_
      rw [show condE (⟨7, a2, a3, a4, a5, a6, a7, a8, a9, a10, a11, a12, a13, a14, a15⟩ : GEntry) = (decide (sit a13) && decide (sit a14) && decide (cnt a15)) from rfl]
      simp only [Bool.and_eq_true, hsb]
      refine ⟨fun q => ⟨q.2, ⟨q.1, ?_⟩, ?_⟩, fun q => ⟨q.2.1.1, q.1⟩⟩
      · have := congrArg GEntry.Sponsor q.2
        change a14 = 0 at this
        subst this; exact decide_eq_true ⟨by decide, by decide⟩
      · have := congrArg GEntry.Length q.2
        change a15 = 0 at this
        subst this; exact decide_eq_true ⟨by decide, by decide⟩
    · have hz : Frecord_CheckEntry N (⟨8, a2, a3, a4, a5, a6, a7, a8, a9, a10, a11, a12, a13, a14, a15⟩ : GEntry) = (((Frecord_site N [a13]).bind fun r31 =>
        ((bif r31 then Frecord_count N [a15] else some default).bind fun r32 =>
        ((bif (r31 && r32) then Frecord_SameEntry N (bareE (⟨8, a2, a3, a4, a5, a6, a7, a8, a9, a10, a11, a12, a13, a14, a15⟩ : GEntry)) (⟨8, a2, a3, a4, a5, a6, a7, a8, a9, a10, a11, a12, a13, a14, a15⟩ : GEntry) else some default).bind fun r33 =>
        ((Frecord_verdict N ((r31 && r32) && r33)).bind fun r34 =>
        (some r34)))))) := rfl
      rw [hz]
      simp only [hs1, hs2, hc1, hc2, hops, hep, hpt, hs, bif_some, Option.bind_some, and_bif, List.all_cons, List.all_nil, Bool.and_true]
      refine hm _ ?_
      rw [show condE (⟨8, a2, a3, a4, a5, a6, a7, a8, a9, a10, a11, a12, a13, a14, a15⟩ : GEntry) = (decide (sit a13) && decide (sit a14) && decide (cnt a15)) from rfl]
      simp only [Bool.and_eq_true, hsb]
      refine ⟨fun q => ⟨q.2, ⟨q.1.1, ?_⟩, q.1.2⟩, fun q => ⟨⟨q.2.1.1, q.2.2⟩, q.1⟩⟩
      have := congrArg GEntry.Sponsor q.2
      change a14 = 0 at this
      subst this; exact decide_eq_true ⟨by decide, by decide⟩
  · refine Or.inr ⟨fun h => hk h.1, ?_⟩
    have hne : ∀ k : Int, 0 ≤ k → k ≤ 8 → (e.Kind == k) = false := fun k h0 h8 => by
      refine beq_eq_false_iff_ne.2 fun h => hk ?_
      unfold kindE; omega
    unfold Frecord_CheckEntry
    rw [hne 0 (by decide) (by decide), hne 1 (by decide) (by decide), hne 2 (by decide) (by decide), hne 3 (by decide) (by decide), hne 4 (by decide) (by decide), hne 5 (by decide) (by decide), hne 6 (by decide) (by decide), hne 7 (by decide) (by decide), hne 8 (by decide) (by decide)]
    rfl
end
end Go.Proofs.Yteinehkdjkobnaa
