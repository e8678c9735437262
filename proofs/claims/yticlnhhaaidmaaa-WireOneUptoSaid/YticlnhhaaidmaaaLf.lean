/-
The law WireOne: from what the printed function answers to the given row. Printed by wip/tools/lawt.py.
-/
import Derived.Test.YticlnhhaaidmaaaRd
import Derived.Test.YticlnhhaaidmaaaMd
import Derived.Test.YticlnhhaaidmaaaMm
set_option linter.unusedVariables false
namespace Go.Proofs.Yticlnhhaaidmaaa
open Go Go.Ev Go.ChangeShapes Go.WideShapes Go.ChangeAt Go.RowKit

theorem wireOne_contract (H : Type) (enc : TypeId × Value → H) (W : World) (base : Nat) (args : Array Value) (ds gs : List (DataW H)) (before : List MemPlace)
    (hval : ∀ (j : Nat) t v, Try.f7.params[j]? = some t → args[j]? = some v → Value.okWide Try.prog W .any base t v)
    (hW : DataW.Whole enc Try.prog Try.f7.params.toList Rows.wireOneSpec.vars false W args.toList ds gs before) (hk0 : Rows.uptoSmall H (ds ++ gs) = true) :
    Calls Try.prog 7 args W fun e W' => ∃ v, e = .returned v ∧ Rows.wireOneSpec.post enc Try.prog Try.f7 false true false false W args v W' := by
  obtain ⟨p, q, hA0, hV, _, _, _⟩ := id hW
  have hA : DataW.TrodAll enc Try.prog W 0 (fun _ => true) true Try.f7.params.toList args.toList ds p := hA0
  rw [Try.params7] at hA hval
  obtain ⟨v0, v1, d0, d1, p0, p1, rfl, rfl, rfl, h0, h1⟩ := trodAll_two hA
  obtain ⟨y0, r0, w0, b0⟩ := arg_one (C := C) (i := ti23) law23 tok23.d rfl rd23 (fun _ => rfl) (hval 0 23 v0 rfl rfl) h0
  obtain ⟨y1, r1, w1, b1⟩ := arg_one (C := C) (i := ti29) law29 tok29.d rfl rd29 (fun _ => rfl) (hval 1 29 v1 rfl rfl) h1
  obtain ⟨rfl, rfl⟩ : gs = [] ∧ q = [] := by
    rw [show Rows.wireOneSpec.vars = [] from rfl] at hV
    cases gs with
    | nil => exact ⟨rfl, hV⟩
    | cons => exact hV.elim
  have hk : bulk23 y0 + bulk29 y1 ≤ 1048576 := by
    have h := of_decide_eq_true hk0
    simp only [List.append_nil, Rows.uptoBulkAll] at h
    omega
  obtain ⟨N, hF⟩ : ∃ N, F7 N y0 y1 = some true := ⟨y1.length + 20, wireOne_F (Nat.le_refl _) (by have := bulk29_len y1; omega) (by have := bulk23_eq y0; omega) w0.2⟩
  exact law_calls (E := E) (f := Try.f7) (s := Rows.wireOneSpec) (tb := 4) (ok7 N (y0, y1, ()) () true hF) (.cons r0 (.cons r1 .nil)) hW nLaid rfl rfl rfl tok4.d (by kernel_rfl)

set_option maxRecDepth 100000 in
theorem wireOne_lifted (os : Os) (started : os.Started) (H : Type) (enc : TypeId × Value → H) (F : Stop.Interp) :
    ReturnsInHanded {} Try.checked os 7 .any ((Rows.OpenSpec.upto Rows.wireOneSpec).pre6 enc Try.prog Try.f7 Rows.wireOneUptoRow.domain false) (((Rows.OpenSpec.upto Rows.wireOneSpec).at F).post enc Try.prog Try.f7 false true false false) := by
  refine returnsInHanded_of_cond (C := Try.checked) (s := Rows.OpenSpec.upto Rows.wireOneSpec) (k := Rows.uptoSmall) rfl nOwn started (by kernel_rfl) Try.func7
    (OpenSpec.witness (enc := enc) (C := Try.checked) (s := Rows.OpenSpec.upto Rows.wireOneSpec) (k := Rows.uptoSmall) rfl false ⟨#[], #[(.slice none 0 0), (.slice none 0 0)], []⟩ 40 (by kernel_rfl) (by kernel_rfl) (by kernel_rfl)
      (x := ([.nil, .nil], [], [])) (by kernel_rfl) rfl (by kernel_rfl)) ?_
  intro W base args ds gs before hval hW _ hk _
  exact wireOne_contract H enc W base args ds gs before hval hW hk

theorem wireOneUpto_holds : Rows.WireOneUptoSaid :=
  OpenClaim.holds_of_cond 7 Try.f7 rfl rfl rfl rfl rfl rfl rfl ⟨rfl, rfl, rfl, rfl, rfl⟩ rfl rfl rfl rfl rfl (by kernel_rfl) Try.func7 (by kernel_rfl)
    (of_decide_eq_true (by kernel_rfl)) (by unfold Func.isWrapper; first | (rw [if_pos (by decide +kernel)]; kernel_rfl) | (rw [if_neg (by decide +kernel)]; exact ⟨rfl, rfl⟩))
    (fun os started H enc _ F => wireOne_lifted os started H enc F)

end Go.Proofs.Yticlnhhaaidmaaa
