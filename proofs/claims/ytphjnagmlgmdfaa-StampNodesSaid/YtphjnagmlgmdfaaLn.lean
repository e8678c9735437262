/-
StampNodes holds.
-/
import Derived.Test.YtphjnagmlgmdfaaNa
import Derived.Test.YtphjnagmlgmdfaaEvW
import Derived.Test.YtphjnagmlgmdfaaRows
set_option linter.unusedVariables false
namespace Go.Proofs.Ytphjnagmlgmdfaa
open Go Go.Ev Go.ChangeShapes Go.WideShapes Go.ChangeAt Go.RowKit

theorem nOwn : ownKnob Try.prog.godebug = none := by kernel_rfl
theorem nLaid : laidOutB Try.prog = true := by kernel_rfl
theorem liveN_true : liveN = true := by decide +kernel
theorem nodes_true (a b n : Int) : FnSpec E 3 [.agg [.v (.int .i64 a), .v (.int .i64 b)], .v (.int .i64 n)] [] (.v (.bool true)) [] := by
  have h := c3 a b n
  simp only [liveN_true, decide_true, Bool.and_true, beq_self_eq_true] at h
  exact h
theorem stamp_rel {W : World} {r : _root_.Go.Reach} {b : Nat} {v : Value} (h : Value.okWide Try.prog W r b 23 v) : ∃ x y, VRel (ghW W) (.agg [.v (.int .i64 x), .v (.int .i64 y)]) v ∧ IntKind.has .i64 x ∧ IntKind.has .i64 y := by
  obtain ⟨cs, rfl, hl, hc⟩ := ok_agg (i := ti23) (ts := [2, 3]) tok23.d rfl (by kernel_rfl) (by kernel_rfl) h
  obtain ⟨c, d, hcs⟩ : ∃ c d, cs.toList = [c, d] := by
    match hh : cs.toList, hl with
    | [c, d], _ => exact ⟨c, d, rfl⟩
  rw [hcs] at hc
  obtain ⟨_, h1, h2⟩ := hc 0 c rfl
  obtain ⟨_, h3, h4⟩ := hc 1 d rfl
  cases h1; cases h3
  obtain ⟨x, rfl, hx⟩ := okC_int tok2.d h2
  obtain ⟨y, rfl, hy⟩ := okC_int tok3.d h4
  have : cs = #[.int .i64 x, .int .i64 y] := by rw [← Array.toList_inj, hcs]
  subst this
  exact ⟨x, y, .agg rfl fun k a c ha hc => (LRel.cons (.v _) (LRel.cons (.v _) .nil)).2 k a c ha (by simpa using hc), hx, hy⟩

set_option maxRecDepth 100000 in
theorem stampNodes_lifted (os : Os) (started : os.Started) (H : Type) (enc : TypeId × Value → H) :
    ReturnsInHanded {} Try.checked os 3 .any (Rows.stampNodesSpec.pre6 enc Try.prog Try.f3 Rows.stampNodesRow.domain false) (Rows.stampNodesSpec.post enc Try.prog Try.f3 false true false false) := by
  refine returnsInHanded_of_change (C := Try.checked) nOwn started (by kernel_rfl) Try.func3
    (ChangeSpec.witness6 (enc := enc) (C := Try.checked) false ⟨#[], #[.agg #[.int .i64 0, .int .i64 0], .int .i64 0], []⟩ 8 (by kernel_rfl) (by kernel_rfl) (by kernel_rfl) (by kernel_rfl)) ?_
  intro W base args ds gs before hval0 hW hcnd _
  have hval : ∀ (j : Nat) t v, Try.f3.params[j]? = some t → args[j]? = some v → Value.okWide Try.prog W .any base t v := hval0
  obtain ⟨p, q, hA0, hV, _, _, _⟩ := id hW
  have hA : DataW.TrodAll enc Try.prog W 0 (fun _ => true) true Try.f3.params.toList args.toList ds p := hA0
  rw [Try.params3] at hA hval
  obtain ⟨v0, v1, d0, d1, p0, p1, rfl, rfl, rfl, h0, h1⟩ := trodAll_two hA
  obtain ⟨x, y, r0, _, _⟩ := stamp_rel (hval 0 23 v0 rfl rfl)
  obtain ⟨n, rfl, _⟩ := ok_int tok2.d (hval 1 2 v1 rfl rfl)
  exact law_calls (E := E) (f := Try.f3) (s := Rows.stampNodesSpec) (tb := 4) (nodes_true x y n) (.cons r0 (.cons (.v _) .nil)) hW nLaid rfl rfl rfl tok4.d (by kernel_rfl)

theorem stampNodes_holds : Rows.StampNodesSaid :=
  OpenClaim.holds_of_wide 3 Try.f3 rfl rfl rfl rfl rfl rfl rfl ⟨rfl, rfl, rfl, rfl, rfl⟩ rfl rfl rfl rfl rfl (by kernel_rfl) Try.func3 (by kernel_rfl)
    (of_decide_eq_true (by kernel_rfl)) (by unfold Func.isWrapper; first | (rw [if_pos (by decide +kernel)]; kernel_rfl) | (rw [if_neg (by decide +kernel)]; exact ⟨rfl, rfl⟩))
    (fun os started H enc _ => stampNodes_lifted os started H enc)
#print axioms stampNodes_holds

end Go.Proofs.Ytphjnagmlgmdfaa
