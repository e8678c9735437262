/-
What the arguments of this seat's laws are.
-/
import Derived.Test.YtphjnagmlgmdfaaEvEnv
import Derived.Test.YtphjnagmlgmdfaaEvW
import Derived.Test.YtphjnagmlgmdfaaRows
set_option linter.unusedVariables false
namespace Go.Proofs.Ytphjnagmlgmdfaa
open Go Go.Ev Go.ChangeShapes Go.WideShapes Go.ChangeAt Go.RowKit

theorem nOwn : ownKnob Try.prog.godebug = none := by kernel_rfl
theorem nLaid : laidOutB Try.prog = true := by kernel_rfl
theorem stamp_rel {W : World} {r : _root_.Go.Reach} {b : Nat} {v : Value} (h : Value.okWide Try.prog W r b 23 v) : ∃ x y, VRel (ghW W) (.agg [.v (.int .i64 x), .v (.int .i64 y)]) v ∧ IntKind.has .i64 x ∧ IntKind.has .i64 y := by
  obtain ⟨cs, rfl, hl, hc⟩ := ok_agg (i := ti23) (ts := [2, 3]) tok23.d rfl (by kernel_rfl) (by kernel_rfl) h
  obtain ⟨c, d, hcs⟩ : ∃ c d, cs.toList = [c, d] := by
    match hh : cs.toList, hl with
    | [c, d], _ => exact ⟨c, d, rfl⟩
  rw [hcs] at hc
  obtain ⟨_, h1, h2⟩ := hc 0 c rfl
  obtain ⟨_, h3, h4⟩ := hc 1 d rfl
  cases h1; cases h3
  obtain ⟨x, rfl, hx⟩ := okC_int tok2.d h2
  obtain ⟨y, rfl, hy⟩ := okC_int tok3.d h4
  have : cs = #[.int .i64 x, .int .i64 y] := by rw [← Array.toList_inj, hcs]
  subst this
  exact ⟨x, y, .agg rfl fun k a c ha hc => (LRel.cons (.v _) (LRel.cons (.v _) .nil)).2 k a c ha (by simpa using hc), hx, hy⟩
end Go.Proofs.Ytphjnagmlgmdfaa
