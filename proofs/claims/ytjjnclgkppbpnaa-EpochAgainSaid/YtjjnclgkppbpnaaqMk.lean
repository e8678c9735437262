/-
The document's Load; that both load the same; and what a machine writes.
-/
import Derived.Test.YtjjnclgkppbpnaaqMj
set_option linter.unusedVariables false
set_option linter.unusedSimpArgs false
namespace Go.Proofs.Ytjjnclgkppbpnaa
open Go Go.Ev
section
variable {N : Nat} {B : List Int}
end
theorem fol_chk {a b : GEpoch} (h : fol a b = true) : chk a = true ∧ chk b = true := by
  obtain ⟨i, hi, h⟩ := List.any_eq_true.1 h
  obtain ⟨k, hk, h⟩ := List.any_eq_true.1 h
  unfold hit at h
  simp only [Bool.and_eq_true, beq_iff_eq] at h
  have he := (eqE_iff _ _).1 h.2
  obtain ⟨s, k', _, _, _, _, h1, _, _, h2, _⟩ := app_ok (e := a) (x := ent3 b i k) (b := b) (Prod.ext he h.1)
  exact ⟨h1, h2⟩
theorem lastE_snoc (l : List GEpoch) (e : GEpoch) : lastE (l ++ [e]) = e := by
  unfold lastE
  rw [show ((l ++ [e]).length : Int) - 1 = (l.length : Nat) by simp, lget_nat]
  simp [List.getD]
theorem stS_chk {l : List Int} (h0 : l ≠ []) (hs : ∀ x ∈ l, sit x) : chk (stS l) = true := by
  rw [chk_iff]
  refine ⟨Int.le_refl _, by show (0 : Int) < 1024; decide, fun j hj => ?_, ?_⟩
  · have h1 : sta (stS l) j = if inL l j then 1 else 0 := ones_get _ hj
    have h2 : sea (stS l) j = 0 := vget_replicate _ _ hj
    have h3 : spo (stS l) j = -1 := vget_replicate _ _ hj
    unfold okP
    rw [h1, h2, h3]
    split
    · refine ⟨by decide, by decide, by decide, by decide, .inr rfl, .inr ⟨by decide, by decide, by decide, by omega⟩⟩
    · refine ⟨by decide, by decide, by decide, by decide, .inr rfl, .inl ⟨rfl, rfl⟩⟩
  · obtain ⟨x, hx⟩ := List.exists_mem_of_ne_nil l h0
    have ⟨x0, x1⟩ := hs x hx
    refine ⟨x.toNat, by omega, ?_⟩
    have h1 : sta (stS l) x.toNat = if inL l x.toNat then 1 else 0 := ones_get _ (by omega)
    rw [h1, if_pos ((inL_iff l _).2 (by rw [show ((x.toNat : Nat) : Int) = x by omega]; exact hx))]
theorem strt_chk {l : List Int} (h : (strt l).2 = 0) : chk (strt l).1 = true ∧ (strt l) = (stS l, 0) := by
  unfold strt at h ⊢
  split at h
  · exact absurd h (by decide)
  · rename_i h1
    rw [if_neg h1]
    split at h
    · exact absurd h (by decide)
    · rename_i h2
      rw [if_neg h2]
      simp only [not_or, Classical.not_not] at h1
      exact ⟨stS_chk h1.1 h1.2, rfl⟩
end Go.Proofs.Ytjjnclgkppbpnaa
