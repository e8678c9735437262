/-
The law EpochAgain: from what the printed function answers to the given row. Printed by wip/tools/lawt.py.
-/
import Derived.Test.YtjjnclgkppbpnaaqRd
import Derived.Test.YtjjnclgkppbpnaaqMo
set_option linter.unusedVariables false
namespace Go.Proofs.Ytjjnclgkppbpnaa
open Go Go.Ev Go.ChangeShapes Go.WideShapes Go.ChangeAt Go.RowKit
set_option maxRecDepth 100000 in
theorem epochAgain_contract (H : Type) (enc : TypeId × Value → H) (W : World) (base : Nat) (args : Array Value) (ds gs : List (DataW H)) (before : List MemPlace)
    (hval : ∀ (j : Nat) t v, Try.f8.params[j]? = some t → args[j]? = some v → Value.okWide Try.prog W .any base t v)
    (hW : DataW.Whole enc Try.prog Try.f8.params.toList Rows.epochAgainSpec.vars false W args.toList ds gs before) :
    Calls Try.prog 8 args W fun e W' => ∃ v, e = .returned v ∧ Rows.epochAgainSpec.post enc Try.prog Try.f8 false true false false W args v W' := by
  obtain ⟨p, q, hA0, hV, _, _, _⟩ := id hW
  have hA : DataW.TrodAll enc Try.prog W 0 (fun _ => true) true Try.f8.params.toList args.toList ds p := hA0
  rw [Try.params8] at hA hval
  obtain ⟨v0, v1, v2, d0, d1, d2, p0, p1, p2, rfl, rfl, rfl, h0, h1, h2⟩ := trodAll_three hA
  obtain ⟨y0, r0, w0, b0⟩ := arg_one (C := C) (i := ti45) law45 tok45.d rfl rd45 (fun _ => rfl) (hval 0 45 v0 rfl rfl) h0
  obtain ⟨y1, r1, w1, b1⟩ := arg_one (C := C) (i := ti70) law70 tok70.d rfl rd70 (fun _ => rfl) (hval 1 70 v1 rfl rfl) h1
  obtain ⟨y2, r2, w2, b2⟩ := arg_one (C := C) (i := ti70) law70 tok70.d rfl rd70 (fun _ => rfl) (hval 2 70 v2 rfl rfl) h2
  obtain ⟨N, hF⟩ : ∃ N, Flaw17_EpochAgain N y0 y1 y2 = some true := ⟨_, again_law (Nat.le_refl _) w0.1 w1.1 w2.1⟩
  exact law_calls (E := E) (f := Try.f8) (s := Rows.epochAgainSpec) (tb := 4) (oklaw17_EpochAgain N (y0, y1, y2, ()) () true hF) (.cons r0 (.cons r1 (.cons r2 .nil))) hW nLaid rfl rfl rfl tok4.d (by kernel_rfl)
set_option maxRecDepth 100000 in
theorem epochAgain_lifted (os : Os) (started : os.Started) (H : Type) (enc : TypeId × Value → H) :
    ReturnsInHanded {} Try.checked os 8 .any (Rows.epochAgainSpec.pre6 enc Try.prog Try.f8 Rows.epochAgainRow.domain false) (Rows.epochAgainSpec.post enc Try.prog Try.f8 false true false false) := by
  refine returnsInHanded_of_change (C := Try.checked) nOwn started (by kernel_rfl) Try.func8
    (ChangeSpec.witness6 (enc := enc) (C := Try.checked) false ⟨#[], #[(.slice none 0 0), (.slice none 0 0), (.slice none 0 0)], []⟩ 40 (by kernel_rfl) (by kernel_rfl) (by kernel_rfl) (by kernel_rfl)) ?_
  intro W base args ds gs before hval hW _ _
  exact epochAgain_contract H enc W base args ds gs before hval hW
theorem epochAgain_holds : Rows.EpochAgainSaid :=
  OpenClaim.holds_of_wide 8 Try.f8 rfl rfl rfl rfl rfl rfl rfl ⟨rfl, rfl, rfl, rfl, rfl⟩ rfl rfl rfl rfl rfl (by kernel_rfl) Try.func8 (by kernel_rfl)
    (of_decide_eq_true (by kernel_rfl)) (by unfold Func.isWrapper; first | (rw [if_pos (by decide +kernel)]; kernel_rfl) | (rw [if_neg (by decide +kernel)]; exact ⟨rfl, rfl⟩))
    (fun os started H enc _ => epochAgain_lifted os started H enc)
end Go.Proofs.Ytjjnclgkppbpnaa
