/-
The document's reader of epochs.
-/
import Derived.Test.YtjjnclgkppbpnaaqMf
set_option linter.unusedVariables false
set_option linter.unusedSimpArgs false
namespace Go.Proofs.Ytjjnclgkppbpnaa
open Go Go.Ev
section
variable {N : Nat} {B : List Int} {s : Int × List Int}
end
theorem wrap32 {n : Int} (h : -1 ≤ n ∧ n ≤ 7) : IntKind.i32.wrap n = n := by
  have h1 := h.1; have h2 := h.2
  simp only [IntKind.wrap, IntKind.bits, IntKind.signed]
  first | (simp; omega) | (split <;> omega)
theorem sm_of {n : Int} (h : -1 ≤ n ∧ n ≤ 7) : sm n = n := by
  unfold sm; rw [wrap32 h, wrap64 (by omega) (by omega), if_pos rfl]
theorem rdE_st (g g' : Int → Int) (s : Int × List Int) : (rdE g s).2 = (rdE g' s).2 := by
  unfold rdE
  simp only
  rw [rdv_st g g' z8 z8 (rd1 s).2 8, rdv_st g g' z8 z8 _ 8]
theorem rdE_of {g : Int → Int} (hg : ∀ n, -1 ≤ n ∧ n ≤ 7 → g n = n) {s : Int × List Int} (h : chk (rdE id s).1 = true) : rdE g s = rdE id s := by
  obtain ⟨h1, h2, h3, _⟩ := (chk_iff _).1 h
  have e1 : rdv g z8 (rd1 s).2 8 = rdv id z8 (rd1 s).2 8 := by
    refine Prod.ext (rdv_st _ _ _ _ _ _) (vext default fun j hj => ?_)
    rw [rdv_get g z8 _ 8 (Nat.le_refl _) j hj, if_pos hj, rdv_get id z8 _ 8 (Nat.le_refl _) j hj, if_pos hj]
    have := h3 j hj; unfold okP at this
    have a1 := this.1; have a2 := this.2.1
    unfold sta rdE at a1 a2
    simp only at a1 a2
    rw [rdv_get id z8 _ 8 (Nat.le_refl _) j hj, if_pos hj] at a1 a2
    exact hg _ (by simp only [id] at a1 a2 ⊢; omega)
  have e2 : rdv g z8 (rdv id z8 (rdv g z8 (rd1 s).2 8).1 8).1 8 = rdv id z8 (rdv id z8 (rdv g z8 (rd1 s).2 8).1 8).1 8 := by
    rw [e1]
    refine Prod.ext (rdv_st _ _ _ _ _ _) (vext default fun j hj => ?_)
    rw [rdv_get g z8 _ 8 (Nat.le_refl _) j hj, if_pos hj, rdv_get id z8 _ 8 (Nat.le_refl _) j hj, if_pos hj]
    have := h3 j hj; unfold okP at this
    have a1 := this.2.2.2.2.2
    unfold spo rdE at a1
    simp only at a1
    rw [rdv_get id z8 _ 8 (Nat.le_refl _) j hj, if_pos hj] at a1
    exact hg _ (by simp only [id] at a1 ⊢; omega)
  unfold rdE
  rw [e2, e1]
end Go.Proofs.Ytjjnclgkppbpnaa
