/-
The law EpochNone: from what the printed function answers to the given row. Printed by wip/tools/lawt.py.
-/
import Derived.Test.YtjjnclgkppbpnaaqRd
import Derived.Test.YtjjnclgkppbpnaaqMe
set_option linter.unusedVariables false
namespace Go.Proofs.Ytjjnclgkppbpnaa
open Go Go.Ev Go.ChangeShapes Go.WideShapes Go.ChangeAt Go.RowKit
set_option maxRecDepth 100000 in
theorem epochNone_contract (H : Type) (enc : TypeId × Value → H) (W : World) (base : Nat) (args : Array Value) (ds gs : List (DataW H)) (before : List MemPlace)
    (hval : ∀ (j : Nat) t v, Try.f6.params[j]? = some t → args[j]? = some v → Value.okWide Try.prog W .any base t v)
    (hW : DataW.Whole enc Try.prog Try.f6.params.toList Rows.epochNoneSpec.vars false W args.toList ds gs before) :
    Calls Try.prog 6 args W fun e W' => ∃ v, e = .returned v ∧ Rows.epochNoneSpec.post enc Try.prog Try.f6 false true false false W args v W' := by
  obtain ⟨p, q, hA0, hV, _, _, _⟩ := id hW
  have hA : DataW.TrodAll enc Try.prog W 0 (fun _ => true) true Try.f6.params.toList args.toList ds p := hA0
  rw [Try.params6] at hA hval
  obtain ⟨v0, v1, d0, d1, p0, p1, rfl, rfl, rfl, h0, h1⟩ := trodAll_two hA
  obtain ⟨y0, r0, w0, b0⟩ := arg_agg (C := C) (i := ti38) law38 tok38.d rfl rd38 (fun _ => ⟨_, rfl, rfl⟩) (hval 0 38 v0 rfl rfl) h0
  obtain ⟨y1, r1, w1, b1⟩ := arg_one (C := C) (i := ti2) law2 tok2.d rfl rd2 (fun _ => rfl) (hval 1 2 v1 rfl rfl) h1
  obtain ⟨N, hF⟩ : ∃ N, Flaw17_EpochNone N y0 y1 = some true := ⟨100, none_law y0 y1⟩
  exact law_calls (E := E) (f := Try.f6) (s := Rows.epochNoneSpec) (tb := 4) (oklaw17_EpochNone N (y0, y1, ()) () true hF) (.cons r0 (.cons r1 .nil)) hW nLaid rfl rfl rfl tok4.d (by kernel_rfl)
set_option maxRecDepth 100000 in
theorem epochNone_lifted (os : Os) (started : os.Started) (H : Type) (enc : TypeId × Value → H) :
    ReturnsInHanded {} Try.checked os 6 .any (Rows.epochNoneSpec.pre6 enc Try.prog Try.f6 Rows.epochNoneRow.domain false) (Rows.epochNoneSpec.post enc Try.prog Try.f6 false true false false) := by
  refine returnsInHanded_of_change (C := Try.checked) nOwn started (by kernel_rfl) Try.func6
    (ChangeSpec.witness6 (enc := enc) (C := Try.checked) false ⟨#[], #[.agg #[(.int .i64 0), (.int .i64 0), (.int .i64 0), (.int .i64 0), (.int .i64 0), (.int .i64 0), (.int .i64 0), (.int .i64 0), (.string ⟨#[]⟩), (.string ⟨#[]⟩), (.string ⟨#[]⟩), (.int .i64 0), (.int .i64 0), (.slice none 0 0), (.int .i64 0), (.int .i64 0), (.int .i64 0), (.int .i64 0), (.int .i64 0), (.int .i64 0), (.int .i64 0), (.int .i64 0), (.int .i64 0), (.int .i64 0), (.int .i64 0), (.int .i64 0), (.int .i64 0), (.int .i64 0), (.int .i64 0), (.int .i64 0), (.int .i64 0), (.int .i64 0), (.int .i64 0), (.int .i64 0), (.int .i64 0), (.int .i64 0), (.int .i64 0), (.int .i64 0), (.int .i64 0), (.int .i64 0), (.int .i64 0), (.int .i64 0), (.int .i64 0), (.int .i64 0), (.int .i64 0), (.int .i64 0), (.int .i64 0), (.int .i64 0), (.int .i64 0), (.int .i64 0), (.int .i64 0), (.int .i64 0), (.slice none 0 0), (.int .i64 0), (.int .i64 0), (.int .i64 0)], (.int .i64 0)], []⟩ 40 (by kernel_rfl) (by kernel_rfl) (by kernel_rfl) (by kernel_rfl)) ?_
  intro W base args ds gs before hval hW _ _
  exact epochNone_contract H enc W base args ds gs before hval hW
theorem epochNone_holds : Rows.EpochNoneSaid :=
  OpenClaim.holds_of_wide 6 Try.f6 rfl rfl rfl rfl rfl rfl rfl ⟨rfl, rfl, rfl, rfl, rfl⟩ rfl rfl rfl rfl rfl (by kernel_rfl) Try.func6 (by kernel_rfl)
    (of_decide_eq_true (by kernel_rfl)) (by unfold Func.isWrapper; first | (rw [if_pos (by decide +kernel)]; kernel_rfl) | (rw [if_neg (by decide +kernel)]; exact ⟨rfl, rfl⟩))
    (fun os started H enc _ => epochNone_lifted os started H enc)
end Go.Proofs.Ytjjnclgkppbpnaa
