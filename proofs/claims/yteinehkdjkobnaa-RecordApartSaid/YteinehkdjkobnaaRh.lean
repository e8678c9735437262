/-
An entry's bytes: what the writer puts, and what Entry answers.
-/
import Derived.Test.YteinehkdjkobnaaRg
set_option linter.unusedVariables false
set_option linter.unusedSimpArgs false
namespace Go.Proofs.Yteinehkdjkobnaa
open Go Go.Ev

theorem cnt64 {n : Int} (h : cnt n) : R64 n := ⟨by have := h.1; omega, by have := h.2; omega⟩
theorem sit64 {n : Int} (h : sit n) : R64 n := ⟨by have := h.1; omega, by have := h.2; omega⟩
def epC (e : GEpoch) : List (List Int) := [e.Number].map pI ++ e.States.toList.map pI ++ e.Seals.toList.map pI ++ e.Sponsor.toList.map pI
def ptC (p : GPart) : List (List Int) := [p.Snap].map pI ++ [p.Index, p.Many].map pI ++ [pB p.Data]
def opsC (l : List GOp) : List (List Int) := [(l.length : Int)].map pI ++ (l.map opC).flatten
def tailC (e : GEntry) : List (List Int) :=
  bif e.Kind == 1 then [e.Session, e.Request].map pI ++ opC e.Op else
  bif e.Kind == 2 then [e.Origin].map pI ++ [e.Seq].map pI ++ opsC e.Ops else
  bif e.Kind == 3 then epC e.Epoch else
  bif e.Kind == 4 then [e.Seq].map pI ++ [e.From].map pI ++ e.Vector_.toList.map pI ++ [e.Clock].map pI else
  bif e.Kind == 5 then ptC e.Part else
  bif e.Kind == 6 then [e.Site, e.Sponsor].map pI else
  bif e.Kind == 7 then [e.Site].map pI else
  bif e.Kind == 8 then [e.Site].map pI ++ [e.Length].map pI else []
def enC (e : GEntry) : List (List Int) := [e.Kind].map pI ++ tailC e
def enB (e : GEntry) : List Int := (enC e).flatten
section
variable {N : Nat} {e0 : Int} {w : List Int}
theorem wr_true (e : Int) (w : List Int) (cs : List (List Int)) : (wr e w cs).2.1 = true := rfl
theorem ints1 (hN : 20 ≤ N) {a : Int} (ha : R64 a) (hw : w.length ≤ 1048576) : Frecord_writer_ints_573 N [a] e0 true w = some (wr e0 w ([a].map pI)) :=
  ints_eq (by omega) (by simp; omega) (by simp) (by intro n hn; simp at hn; subst hn; exact ha) hw
theorem ints2 (hN : 20 ≤ N) {a b : Int} (ha : R64 a) (hb : R64 b) (hw : w.length ≤ 1048576) : Frecord_writer_ints_573 N [a, b] e0 true w = some (wr e0 w ([a, b].map pI)) :=
  ints_eq (by omega) (by simp; omega) (by simp) (by intro n hn; simp at hn; rcases hn with rfl | rfl <;> assumption) hw
theorem small1 (hN : 20 ≤ N) {a : Int} (ha : R64 a) (hw : w.length ≤ 1048576) : Frecord_writer_small_299 N [a] e0 true w = some (wr e0 w ([a].map pI)) :=
  small_eq (by omega) (by simp; omega) (by simp) (by intro n hn; simp at hn; subst hn; exact ha) hw
theorem small2 (hN : 20 ≤ N) {a b : Int} (ha : R64 a) (hb : R64 b) (hw : w.length ≤ 1048576) : Frecord_writer_small_299 N [a, b] e0 true w = some (wr e0 w ([a, b].map pI)) :=
  small_eq (by omega) (by simp; omega) (by simp) (by intro n hn; simp at hn; rcases hn with rfl | rfl <;> assumption) hw
theorem ints8 (hN : 20 ≤ N) {v : Vector Int 8} (hv : ∀ n ∈ v.toList, R64 n) (hw : w.length ≤ 1048576) : Frecord_writer_ints_573 N v.toList e0 true w = some (wr e0 w (v.toList.map pI)) :=
  ints_eq (by omega) (by simp; omega) (by simp) hv hw
theorem small8 (hN : 20 ≤ N) {v : Vector Int 8} (hv : ∀ n ∈ v.toList, R64 n) (hw : w.length ≤ 1048576) : Frecord_writer_small_299 N v.toList e0 true w = some (wr e0 w (v.toList.map pI)) :=
  small_eq (by omega) (by simp; omega) (by simp) hv hw
theorem ep_states {e : GEpoch} (h : MayEp e) : (∀ n ∈ e.States.toList, R64 n) ∧ (∀ n ∈ e.Sponsor.toList, R64 n) ∧ ∀ n ∈ e.Seals.toList, R64 n := by
  refine ⟨fun n hn => ?_, fun n hn => ?_, fun n hn => cnt64 (h.2.1 n hn)⟩
  · obtain ⟨j, hj, rfl⟩ := List.getElem_of_mem hn
    have hj8 : j < 8 := by simpa using hj
    have := (h.2.2 j hj8).1
    rw [vgetE e.States default hj8] at this
    have e1 : e.States.toList[j] = e.States[j] := by simp
    rw [e1]; exact ⟨by omega, by omega⟩
  · obtain ⟨j, hj, rfl⟩ := List.getElem_of_mem hn
    have hj8 : j < 8 := by simpa using hj
    have := (h.2.2 j hj8).2
    rw [vgetE e.Sponsor default hj8] at this
    have e1 : e.Sponsor.toList[j] = e.Sponsor[j] := by simp
    rw [e1]; exact ⟨by omega, by omega⟩
theorem epw_eq (hN : 20 ≤ N) {e : GEpoch} (h : MayEp e) (hw : w.length ≤ 1048576) : Frecord_writer_epoch_b53 N e e0 true w = some (wr e0 w (epC e)) := by
  obtain ⟨h1, h2, h3⟩ := ep_states h
  unfold Frecord_writer_epoch_b53
  rw [ints1 hN (cnt64 h.1) hw, Option.bind_some, wr_true, small8 hN h1 (wr_len hw _), wr_cat, Option.bind_some, wr_true, ints8 hN h3 (wr_len hw _), wr_cat, Option.bind_some, wr_true, small8 hN h2 (wr_len hw _), wr_cat, Option.bind_some]
  rfl
theorem ptw_eq (hN : 20 ≤ N) {p : GPart} (h : MayPt p) (hw : w.length ≤ 1048576) : Frecord_writer_part_317 N p e0 true w = some (wr e0 w (ptC p)) := by
  obtain ⟨h1, ⟨h2, h3⟩, ⟨h4, h5⟩, h6⟩ := h
  unfold Frecord_writer_part_317
  rw [ints1 hN (cnt64 h1) hw, Option.bind_some, wr_true, small2 hN ⟨by omega, by omega⟩ ⟨by omega, by omega⟩ (wr_len hw _), wr_cat, Option.bind_some, wr_true, F32_eq (by omega) (by omega) (wr_len hw _), Option.bind_some, keep_eq, wr_cat, Option.bind_some]
  rfl
theorem opsw_eq {l : List GOp} (hN : l.length + 20 ≤ N) (h : MayOps l) (hw : w.length ≤ 1048576) : Frecord_writer_ops_caf N l e0 true w = some (wr e0 w (opsC l)) := by
  obtain ⟨h1, h2, h3⟩ := h
  unfold Frecord_writer_ops_caf
  rw [small1 (by omega) ⟨by omega, by omega⟩ hw, Option.bind_some]
  refine iter_run (fun q : Srecord_writer_ops_cafx2 => 0 ≤ q.t13 ∧ q.t13 ≤ (l.length : Int) ∧ q.b1 = true ∧ q.b12.length ≤ 1048576 ∧ wr q.b0 q.b12 ((l.drop q.t13.toNat).map opC).flatten = wr e0 w (opsC l)) (fun q => ((l.length : Int) - q.t13).toNat) ?_ N _ ⟨by simp, by simp, rfl, wr_len hw _, ?_⟩ (by simp; omega)
  · rintro ⟨i, b0, b1, b12⟩ nx ⟨g0, g1, rfl, g3, hq⟩ ih
    simp only at g0 g1 g3 hq ih ⊢
    by_cases hi : i < l.length
    · have hm := h3 _ (lget_mem (default : GOp) g0 hi)
      rw [lget_drop (default : GOp) g0 hi, List.map_cons, List.flatten_cons, ← wr_cat] at hq
      simp only [decide_eq_true hi, ibB_of g0 hi, cond_true]
      change (Frecord_writer_op_e6d N (lget l i default) b0 true b12).bind _ = _
      rw [opw_eq (by omega) hm g3, Option.bind_some, wrap64 (by omega) (by omega)]
      exact ih ⟨i + 1, _, _, _⟩ ⟨by simp; omega, by simp; omega, rfl, wr_len g3 _, hq⟩ (by simp; omega)
    · have : decide (i < (l.length : Int)) = false := by simpa using hi
      simp only [this, cond_false]
      rw [List.drop_eq_nil_of_le (by omega)] at hq
      rw [← hq]; rfl
  · simp only
    rw [wr_cat]; simp [opsC]
theorem entryw_eq {e : GEntry} (hN : e.Ops.length + 20 ≤ N) (h : MayEn e) (hw : w.length ≤ 1048576) : Frecord_writer_entry_c03 N e e0 true w = some (wr e0 w (enC e)) := by
  obtain ⟨hk, _, hc⟩ := h
  have hk9 : e.Kind = 0 ∨ e.Kind = 1 ∨ e.Kind = 2 ∨ e.Kind = 3 ∨ e.Kind = 4 ∨ e.Kind = 5 ∨ e.Kind = 6 ∨ e.Kind = 7 ∨ e.Kind = 8 := by unfold kindE at hk; omega
  obtain ⟨kd, a2, a3, a4, a5, a6, a7, a8, a9, a10, a11, a12, a13, a14, a15⟩ := e
  simp only at hk9 hN
  have h1 : Frecord_writer_small_299 N [kd] e0 true w = some (wr e0 w ([kd].map pI)) := small1 (by omega) ⟨by omega, by omega⟩ hw
  have hw1 : (wr e0 w ([kd].map pI)).2.2.length ≤ 1048576 := wr_len hw _
  have hc0 : ∀ cs, wr (wr e0 w ([kd].map pI)).1 (wr e0 w ([kd].map pI)).2.2 cs = wr e0 w ([kd].map pI ++ cs) := fun cs => wr_cat _ _ _ _
  have hN' : 20 ≤ N := by omega
  unfold Frecord_writer_entry_c03
  simp only
  rw [h1, Option.bind_some, wr_true]
  rcases hk9 with rfl | rfl | rfl | rfl | rfl | rfl | rfl | rfl | rfl
  · show some ((wr e0 w ([(0 : Int)].map pI)).1, (wr e0 w ([(0 : Int)].map pI)).2.1, (wr e0 w ([(0 : Int)].map pI)).2.2) = some (wr e0 w ([(0 : Int)].map pI ++ []))
    rw [List.append_nil]
  · replace hc : (decide (cnt a2) && decide (0 < a2) && decide (cnt a3) && decide (0 < a3) && decide (MayOp a4)) = true := hc
    simp only [Bool.and_eq_true, decide_eq_true_eq] at hc
    obtain ⟨⟨⟨⟨c1, _⟩, c2⟩, _⟩, c3⟩ := hc
    simp only [Int.reduceBEq, cond_true, cond_false]
    rw [ints2 hN' (cnt64 c1) (cnt64 c2) hw1, wr_cat, Option.bind_some, wr_true, opw_eq hN' c3 (wr_len hw _), wr_cat, Option.bind_some]
    show some (wr e0 w _) = some (wr e0 w _)
    simp only [enC, tailC, Int.reduceBEq, cond_true, cond_false, List.append_assoc]
  · replace hc : (decide (sit a5) && decide (cnt a6) && decide (MayOps a7)) = true := hc
    simp only [Bool.and_eq_true, decide_eq_true_eq] at hc
    obtain ⟨⟨c1, c2⟩, c3⟩ := hc
    simp only [Int.reduceBEq, cond_true, cond_false]
    rw [small1 hN' (sit64 c1) hw1, wr_cat, Option.bind_some, wr_true, ints1 hN' (cnt64 c2) (wr_len hw _), wr_cat, Option.bind_some, wr_true, opsw_eq hN c3 (wr_len hw _), wr_cat, Option.bind_some]
    show some (wr e0 w _) = some (wr e0 w _)
    simp only [enC, tailC, Int.reduceBEq, cond_true, cond_false, List.append_assoc]
  · replace hc : (decide (MayEp a8)) = true := hc
    simp only [Bool.and_eq_true, decide_eq_true_eq] at hc
    have c1 := hc
    simp only [Int.reduceBEq, cond_true, cond_false]
    rw [epw_eq hN' c1 hw1, wr_cat, Option.bind_some]
    show some (wr e0 w _) = some (wr e0 w _)
    simp only [enC, tailC, Int.reduceBEq, cond_true, cond_false, List.append_assoc]
  · replace hc : (decide (cnt a6) && decide (sit a9) && decide (MayVec a10) && decide (cnt a11)) = true := hc
    simp only [Bool.and_eq_true, decide_eq_true_eq] at hc
    obtain ⟨⟨⟨c1, c2⟩, c3⟩, c4⟩ := hc
    simp only [Int.reduceBEq, cond_true, cond_false]
    rw [ints1 hN' (cnt64 c1) hw1, wr_cat, Option.bind_some, wr_true, small1 hN' (sit64 c2) (wr_len hw _), wr_cat, Option.bind_some, wr_true, ints8 hN' (fun n hn => cnt64 (c3 n hn)) (wr_len hw _), wr_cat, Option.bind_some, wr_true, ints1 hN' (cnt64 c4) (wr_len hw _), wr_cat, Option.bind_some]
    show some (wr e0 w _) = some (wr e0 w _)
    simp only [enC, tailC, Int.reduceBEq, cond_true, cond_false, List.append_assoc]
  · replace hc : (decide (MayPt a12)) = true := hc
    simp only [Bool.and_eq_true, decide_eq_true_eq] at hc
    have c1 := hc
    simp only [Int.reduceBEq, cond_true, cond_false]
    rw [ptw_eq hN' c1 hw1, wr_cat, Option.bind_some]
    show some (wr e0 w _) = some (wr e0 w _)
    simp only [enC, tailC, Int.reduceBEq, cond_true, cond_false, List.append_assoc]
  · replace hc : (decide (sit a13) && decide (sit a14) && decide (cnt a15)) = true := hc
    simp only [Bool.and_eq_true, decide_eq_true_eq] at hc
    obtain ⟨⟨c1, c2⟩, c3⟩ := hc
    simp only [Int.reduceBEq, cond_true, cond_false]
    rw [small2 hN' (sit64 c1) (sit64 c2) hw1, wr_cat, Option.bind_some]
    show some (wr e0 w _) = some (wr e0 w _)
    simp only [enC, tailC, Int.reduceBEq, cond_true, cond_false, List.append_assoc]
  · replace hc : (decide (sit a13) && decide (sit a14) && decide (cnt a15)) = true := hc
    simp only [Bool.and_eq_true, decide_eq_true_eq] at hc
    obtain ⟨⟨c1, c2⟩, c3⟩ := hc
    simp only [Int.reduceBEq, cond_true, cond_false]
    rw [small1 hN' (sit64 c1) hw1, wr_cat, Option.bind_some]
    show some (wr e0 w _) = some (wr e0 w _)
    simp only [enC, tailC, Int.reduceBEq, cond_true, cond_false, List.append_assoc]
  · replace hc : (decide (sit a13) && decide (sit a14) && decide (cnt a15)) = true := hc
    simp only [Bool.and_eq_true, decide_eq_true_eq] at hc
    obtain ⟨⟨c1, c2⟩, c3⟩ := hc
    simp only [Int.reduceBEq, cond_true, cond_false]
    rw [small1 hN' (sit64 c1) hw1, wr_cat, Option.bind_some, wr_true, ints1 hN' (cnt64 c3) (wr_len hw _), wr_cat, Option.bind_some]
    show some (wr e0 w _) = some (wr e0 w _)
    simp only [enC, tailC, Int.reduceBEq, cond_true, cond_false, List.append_assoc]

/-- What Entry answers: the bytes, or what is wrong. -/
theorem entry_eq {e : GEntry} (hN : e.Ops.length + 20 ≤ N) (hl : e.Ops.length ≤ 9223372036854775807) (hb : byt e.Part.Data) :
    (MayEn e ∧ (enB e).length ≤ 1048576 ∧ Frecord_Entry N e = some (enB e, 0)) ∨ (MayEn e ∧ 1048576 < (enB e).length ∧ Frecord_Entry N e = some ([], 3)) ∨ (¬ MayEn e ∧ Frecord_Entry N e = some ([], 40)) := by
  unfold Frecord_Entry Fwire_NewWriter
  rcases checkEntry_eq hN hl hb with ⟨hm, hc⟩ | ⟨hm, hc⟩
  · rw [hc, Option.bind_some, Option.bind_some, entryw_eq hN hm (by simp)]
    simp only [beq_self_eq_true, Bool.not_true, cond_false, Option.bind_some]
    by_cases h : (enB e).length ≤ 1048576
    · refine .inl ⟨hm, h, ?_⟩
      rw [wr_fit (by simpa [enB] using h), F20_eq (by simpa [enB] using h)]
      rfl
    · refine .inr (.inl ⟨hm, by omega, ?_⟩)
      have : (wr 0 [] (enC e)).1 = 3 := puts_long _ _ (by simp) (by simp only [List.length_nil]; unfold enB at h; omega)
      rw [this]; rfl
  · exact .inr (.inr ⟨hm, by rw [hc]; rfl⟩)
end
end Go.Proofs.Yteinehkdjkobnaa
