/-
The law WireTorn: from what the printed function answers to the given row. Printed by wip/tools/lawt.py.
-/
import Derived.Test.YticlnhhaaidmaaaqRd
import Derived.Test.YticlnhhaaidmaaaqNb
set_option linter.unusedVariables false
namespace Go.Proofs.Yticlnhhaaidmaaa
open Go Go.Ev Go.ChangeShapes Go.WideShapes Go.ChangeAt Go.RowKit
set_option maxRecDepth 100000 in
theorem wireTorn_contract (H : Type) (enc : TypeId × Value → H) (W : World) (base : Nat) (args : Array Value) (ds gs : List (DataW H)) (before : List MemPlace)
    (hval : ∀ (j : Nat) t v, Try.f12.params[j]? = some t → args[j]? = some v → Value.okWide Try.prog W .any base t v)
    (hW : DataW.Whole enc Try.prog Try.f12.params.toList Rows.wireTornSpec.vars false W args.toList ds gs before) (hk0 : Rows.uptoSmall H (ds ++ gs) = true) :
    Calls Try.prog 12 args W fun e W' => ∃ v, e = .returned v ∧ Rows.wireTornSpec.post enc Try.prog Try.f12 false true false false W args v W' := by
  obtain ⟨p, q, hA0, hV, _, _, _⟩ := id hW
  have hA : DataW.TrodAll enc Try.prog W 0 (fun _ => true) true Try.f12.params.toList args.toList ds p := hA0
  rw [Try.params12] at hA hval
  obtain ⟨v0, v1, v2, d0, d1, d2, p0, p1, p2, rfl, rfl, rfl, h0, h1, h2⟩ := trodAll_three hA
  obtain ⟨y0, r0, w0, b0⟩ := arg_one (C := C) (i := ti23) law23 tok23.d rfl rd23 (fun _ => rfl) (hval 0 23 v0 rfl rfl) h0
  obtain ⟨y1, r1, w1, b1⟩ := arg_one (C := C) (i := ti23) law23 tok23.d rfl rd23 (fun _ => rfl) (hval 1 23 v1 rfl rfl) h1
  obtain ⟨y2, r2, w2, b2⟩ := arg_one (C := C) (i := ti41) law41 tok41.d rfl rd41 (fun _ => rfl) (hval 2 41 v2 rfl rfl) h2
  obtain ⟨rfl, rfl⟩ : gs = [] ∧ q = [] := by
    rw [show Rows.wireTornSpec.vars = [] from rfl] at hV
    cases gs with
    | nil => exact ⟨rfl, hV⟩
    | cons => exact hV.elim
  have hk : bulk23 y0 + bulk23 y1 + bulk41 y2 ≤ 1048576 := by
    have h := of_decide_eq_true hk0
    simp only [List.append_nil, Rows.uptoBulkAll] at h
    omega
  obtain ⟨N, hF⟩ : ∃ N, Flaw01_WireTorn N y0 y1 y2 = some true := ⟨y0.length + y1.length + 1048800, wireTorn_F (by omega) (by have := bulk23_eq y1; omega) (by have := bulk23_eq y0; omega) w0.2 w1.2 w2.1 w2.2⟩
  exact law_calls (E := E) (f := Try.f12) (s := Rows.wireTornSpec) (tb := 4) (oklaw01_WireTorn N (y0, y1, y2, ()) () true hF) (.cons r0 (.cons r1 (.cons r2 .nil))) hW nLaid rfl rfl rfl tok4.d (by kernel_rfl)
set_option maxRecDepth 100000 in
theorem wireTorn_lifted (os : Os) (started : os.Started) (H : Type) (enc : TypeId × Value → H) (F : Stop.Interp) :
    ReturnsInHanded {} Try.checked os 12 .any ((Rows.OpenSpec.upto Rows.wireTornSpec).pre6 enc Try.prog Try.f12 Rows.wireTornUptoRow.domain false) (((Rows.OpenSpec.upto Rows.wireTornSpec).at F).post enc Try.prog Try.f12 false true false false) := by
  refine returnsInHanded_of_cond (C := Try.checked) (s := Rows.OpenSpec.upto Rows.wireTornSpec) (k := Rows.uptoSmall) rfl nOwn started (by kernel_rfl) Try.func12
    (OpenSpec.witness (enc := enc) (C := Try.checked) (s := Rows.OpenSpec.upto Rows.wireTornSpec) (k := Rows.uptoSmall) rfl false ⟨#[], #[(.slice none 0 0), (.slice none 0 0), (.int .u16 0)], []⟩ 40 (by kernel_rfl) (by kernel_rfl) (by kernel_rfl)
      (x := ([.nil, .nil, .lit (.int .u16 0)], [], [])) (by kernel_rfl) rfl (by kernel_rfl)) ?_
  intro W base args ds gs before hval hW _ hk _
  exact wireTorn_contract H enc W base args ds gs before hval hW hk
theorem wireTornUpto_holds : Rows.WireTornUptoSaid :=
  OpenClaim.holds_of_cond 12 Try.f12 rfl rfl rfl rfl rfl rfl rfl ⟨rfl, rfl, rfl, rfl, rfl⟩ rfl rfl rfl rfl rfl (by kernel_rfl) Try.func12 (by kernel_rfl)
    (of_decide_eq_true (by kernel_rfl)) (by unfold Func.isWrapper; first | (rw [if_pos (by decide +kernel)]; kernel_rfl) | (rw [if_neg (by decide +kernel)]; exact ⟨rfl, rfl⟩))
    (fun os started H enc _ F => wireTorn_lifted os started H enc F)
end Go.Proofs.Yticlnhhaaidmaaa
