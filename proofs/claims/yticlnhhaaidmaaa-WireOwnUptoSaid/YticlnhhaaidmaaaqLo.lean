/-
The law WireOwn: from what the printed function answers to the given row. Printed by wip/tools/lawt.py.
-/
import Derived.Test.YticlnhhaaidmaaaqRd
import Derived.Test.YticlnhhaaidmaaaqOc
set_option linter.unusedVariables false
namespace Go.Proofs.Yticlnhhaaidmaaa
open Go Go.Ev Go.ChangeShapes Go.WideShapes Go.ChangeAt Go.RowKit
set_option maxRecDepth 100000 in
theorem wireOwn_contract (H : Type) (enc : TypeId × Value → H) (W : World) (base : Nat) (args : Array Value) (ds gs : List (DataW H)) (before : List MemPlace)
    (hval : ∀ (j : Nat) t v, Try.f8.params[j]? = some t → args[j]? = some v → Value.okWide Try.prog W .any base t v)
    (hW : DataW.Whole enc Try.prog Try.f8.params.toList Rows.wireOwnSpec.vars false W args.toList ds gs before) (hk0 : Rows.uptoSmall H (ds ++ gs) = true) :
    Calls Try.prog 8 args W fun e W' => ∃ v, e = .returned v ∧ Rows.wireOwnSpec.post enc Try.prog Try.f8 false true false false W args v W' := by
  obtain ⟨p, q, hA0, hV, _, _, _⟩ := id hW
  have hA : DataW.TrodAll enc Try.prog W 0 (fun _ => true) true Try.f8.params.toList args.toList ds p := hA0
  rw [Try.params8] at hA hval
  obtain ⟨v0, d0, rfl, rfl, h0⟩ := trodAll_one hA
  obtain ⟨y0, r0, w0, b0⟩ := arg_one (C := C) (i := ti23) law23 tok23.d rfl rd23 (fun _ => rfl) (hval 0 23 v0 rfl rfl) h0
  obtain ⟨rfl, rfl⟩ : gs = [] ∧ q = [] := by
    rw [show Rows.wireOwnSpec.vars = [] from rfl] at hV
    cases gs with
    | nil => exact ⟨rfl, hV⟩
    | cons => exact hV.elim
  have hk : bulk23 y0 ≤ 1048576 := by
    have h := of_decide_eq_true hk0
    simp only [List.append_nil, Rows.uptoBulkAll] at h
    omega
  obtain ⟨N, hF⟩ : ∃ N, Flaw01_WireOwn N y0 = some true := ⟨y0.length + 2048800, wireOwn_F (by omega) (by have := bulk23_eq y0; omega) w0.2⟩
  exact law_calls (E := E) (f := Try.f8) (s := Rows.wireOwnSpec) (tb := 4) (oklaw01_WireOwn N (y0, ()) () true hF) (.cons r0 .nil) hW nLaid rfl rfl rfl tok4.d (by kernel_rfl)
set_option maxRecDepth 100000 in
theorem wireOwn_lifted (os : Os) (started : os.Started) (H : Type) (enc : TypeId × Value → H) (F : Stop.Interp) :
    ReturnsInHanded {} Try.checked os 8 .any ((Rows.OpenSpec.upto Rows.wireOwnSpec).pre6 enc Try.prog Try.f8 Rows.wireOwnUptoRow.domain false) (((Rows.OpenSpec.upto Rows.wireOwnSpec).at F).post enc Try.prog Try.f8 false true false false) := by
  refine returnsInHanded_of_cond (C := Try.checked) (s := Rows.OpenSpec.upto Rows.wireOwnSpec) (k := Rows.uptoSmall) rfl nOwn started (by kernel_rfl) Try.func8
    (OpenSpec.witness (enc := enc) (C := Try.checked) (s := Rows.OpenSpec.upto Rows.wireOwnSpec) (k := Rows.uptoSmall) rfl false ⟨#[], #[(.slice none 0 0)], []⟩ 40 (by kernel_rfl) (by kernel_rfl) (by kernel_rfl)
      (x := ([.nil], [], [])) (by kernel_rfl) rfl (by kernel_rfl)) ?_
  intro W base args ds gs before hval hW _ hk _
  exact wireOwn_contract H enc W base args ds gs before hval hW hk
theorem wireOwnUpto_holds : Rows.WireOwnUptoSaid :=
  OpenClaim.holds_of_cond 8 Try.f8 rfl rfl rfl rfl rfl rfl rfl ⟨rfl, rfl, rfl, rfl, rfl⟩ rfl rfl rfl rfl rfl (by kernel_rfl) Try.func8 (by kernel_rfl)
    (of_decide_eq_true (by kernel_rfl)) (by unfold Func.isWrapper; first | (rw [if_pos (by decide +kernel)]; kernel_rfl) | (rw [if_neg (by decide +kernel)]; exact ⟨rfl, rfl⟩))
    (fun os started H enc _ F => wireOwn_lifted os started H enc F)
end Go.Proofs.Yticlnhhaaidmaaa
