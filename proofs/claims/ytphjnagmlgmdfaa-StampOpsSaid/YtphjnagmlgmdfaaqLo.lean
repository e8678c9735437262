/-
The law StampOps: from what the printed function answers to the given row. Printed by wip/tools/lawt.py.
-/
import Derived.Test.YtphjnagmlgmdfaaqRd
import Derived.Test.YtphjnagmlgmdfaaqOa
set_option linter.unusedVariables false
namespace Go.Proofs.Ytphjnagmlgmdfaa
open Go Go.Ev Go.ChangeShapes Go.WideShapes Go.ChangeAt Go.RowKit
set_option maxRecDepth 100000 in
theorem stampOps_contract (H : Type) (enc : TypeId × Value → H) (W : World) (base : Nat) (args : Array Value) (ds gs : List (DataW H)) (before : List MemPlace)
    (hval : ∀ (j : Nat) t v, Try.f9.params[j]? = some t → args[j]? = some v → Value.okWide Try.prog W .any base t v)
    (hW : DataW.Whole enc Try.prog Try.f9.params.toList Rows.stampOpsSpec.vars false W args.toList ds gs before) :
    Calls Try.prog 9 args W fun e W' => ∃ v, e = .returned v ∧ Rows.stampOpsSpec.post enc Try.prog Try.f9 false true false false W args v W' := by
  obtain ⟨p, q, hA0, hV, _, _, _⟩ := id hW
  have hA : DataW.TrodAll enc Try.prog W 0 (fun _ => true) true Try.f9.params.toList args.toList ds p := hA0
  rw [Try.params9] at hA hval
  obtain ⟨v0, d0, rfl, rfl, h0⟩ := trodAll_one hA
  obtain ⟨y0, r0, w0, b0⟩ := arg_agg (C := C) (i := ti48) law48 tok48.d rfl rd48 (fun _ => ⟨_, rfl, rfl⟩) (hval 0 48 v0 rfl rfl) h0
  obtain ⟨N, hF⟩ : ∃ N, Flaw11_StampOps N y0 = some true := ⟨300, ops_law y0⟩
  exact law_calls (E := E) (f := Try.f9) (s := Rows.stampOpsSpec) (tb := 4) (oklaw11_StampOps N (y0, ()) () true hF) (.cons r0 .nil) hW nLaid rfl rfl rfl tok4.d (by kernel_rfl)
set_option maxRecDepth 100000 in
theorem stampOps_lifted (os : Os) (started : os.Started) (H : Type) (enc : TypeId × Value → H) :
    ReturnsInHanded {} Try.checked os 9 .any (Rows.stampOpsSpec.pre6 enc Try.prog Try.f9 Rows.stampOpsRow.domain false) (Rows.stampOpsSpec.post enc Try.prog Try.f9 false true false false) := by
  refine returnsInHanded_of_change (C := Try.checked) nOwn started (by kernel_rfl) Try.func9
    (ChangeSpec.witness6 (enc := enc) (C := Try.checked) false ⟨#[], #[.agg #[(.int .i64 0), (.int .i64 0), (.int .i64 0), (.int .i64 0), (.int .i64 0), (.string ⟨#[]⟩), (.string ⟨#[]⟩), (.string ⟨#[]⟩)]], []⟩ 40 (by kernel_rfl) (by kernel_rfl) (by kernel_rfl) (by kernel_rfl)) ?_
  intro W base args ds gs before hval hW _ _
  exact stampOps_contract H enc W base args ds gs before hval hW
theorem stampOps_holds : Rows.StampOpsSaid :=
  OpenClaim.holds_of_wide 9 Try.f9 rfl rfl rfl rfl rfl rfl rfl ⟨rfl, rfl, rfl, rfl, rfl⟩ rfl rfl rfl rfl rfl (by kernel_rfl) Try.func9 (by kernel_rfl)
    (of_decide_eq_true (by kernel_rfl)) (by unfold Func.isWrapper; first | (rw [if_pos (by decide +kernel)]; kernel_rfl) | (rw [if_neg (by decide +kernel)]; exact ⟨rfl, rfl⟩))
    (fun os started H enc _ => stampOps_lifted os started H enc)
end Go.Proofs.Ytphjnagmlgmdfaa
