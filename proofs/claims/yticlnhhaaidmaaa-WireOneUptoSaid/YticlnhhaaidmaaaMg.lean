/-
The law WireReads.
-/
import Derived.Test.YticlnhhaaidmaaaMf
set_option linter.unusedVariables false
set_option linter.unusedSimpArgs false
namespace Go.Proofs.Yticlnhhaaidmaaa
open Go Go.Ev

theorem F29_eq (N : Nat) (c : List Int) : F29 N ⟨true, c⟩ = some ((c.length : Int), ⟨true, c⟩) := rfl
theorem F30_eq (N : Nat) (c : List Int) : F30 N ⟨true, c⟩ = some (if 0 < (c.length : Int) then 13 else 0, ⟨true, c⟩) := by
  unfold F30 F44
  simp only [Option.bind_some, Bool.not_true, cond_false, Bool.cond_decide]
  split <;> rfl
theorem F19_self (N : Nat) (l : List Int) : F19 N l l = some true := by simp [F19]
theorem end_left (c : List Int) : (((if 0 < (c.length : Int) then (13 : Int) else 0) == 0) == ((c.length : Int) == 0)) = true := by
  split
  · rename_i h
    have : ((c.length : Int) == 0) = false := by simp; intro h'; simp [h'] at h
    rw [this]; rfl
  · rename_i h
    have : ((c.length : Int) == 0) = true := by rw [beq_iff_eq]; omega
    rw [this]; rfl

theorem wireReads_F {N : Nat} {b : List Int} {l : List Gorchardlaw01_Part} (hN : l.length + 20 ≤ N) (hll : l.length ≤ 9223372036854775807) (hl : b.length ≤ 70368744177664) (hb : ∀ x ∈ b, byteR x) : F6 N b l = some true := by
  unfold F6 F21
  rw [F43_eq hl]
  simp only [Option.bind_some, F13_eq (N := N) (by omega), Bool.not_true, cond_false]
  refine iter_run (fun q : S6x6 => ∃ c : List Int, q.b0 = ⟨true, c⟩ ∧ q.b1 = ⟨c⟩ ∧ c <:+ b ∧ 0 ≤ q.t30 ∧ q.t30 ≤ (l.length : Int)) (fun q => ((l.length : Int) - q.t30).toNat) ?_ N _ ⟨b, rfl, rfl, List.suffix_rfl, by simp, by simp⟩ (by simp; omega)
  rintro ⟨i, b0, b1⟩ nx ⟨c, e0, e1, hc, g0, g1⟩ ih
  simp only at e0 e1 hc g0 g1 ih ⊢
  subst e0; subst e1
  obtain ⟨hcl, hcb⟩ := suffix_ok hc hl hb
  by_cases hi : i < l.length
  · simp only [decide_eq_true hi, ibB_of g0 hi, cond_true]
    have next : ∀ c' : List Int, c' <:+ c → nx ⟨IntKind.i64.wrap (i + 1), ⟨true, c'⟩, ⟨c'⟩⟩ = some true := fun c' h => by
      rw [wrap64 (by omega) (by omega)]
      exact ih ⟨i + 1, ⟨true, c'⟩, ⟨c'⟩⟩ ⟨c', rfl, rfl, h.trans hc, by simp; omega, by simp; omega⟩ (by simp; omega)
    have hN' : 11 ≤ N := by omega
    generalize lget l i default = p
    cases (p.Kind == 0)
    · cases (p.Kind == 1)
      · cases (p.Kind == 2)
        · simp only [cond_false, F24_eq hN' hcl hcb, F28_eq hN' hcl hcb, Option.bind_some, beq_self_eq_true, Bool.not_true, F19_self, F29_eq, F30_eq, Bool.or_self, Bool.not_false, cond_true, end_left, next _ (rF_suffix c)]
        · simp only [cond_false, cond_true, F27, F23_eq hN' hcl hcb, F26_eq hN' hcl hcb, Option.bind_some, beq_self_eq_true, Bool.not_true, F19, strI_bytesI, F29_eq, F30_eq, Bool.or_self, Bool.not_false, end_left, next _ (rB_suffix c)]
      · simp only [cond_false, cond_true, F23_eq hN' hcl hcb, F26_eq hN' hcl hcb, Option.bind_some, beq_self_eq_true, Bool.not_true, F19_self, F29_eq, F30_eq, Bool.or_self, Bool.not_false, end_left, next _ (rB_suffix c)]
    · simp only [cond_true, cond_false, F22_eq hN' hcl hcb, F25_eq hN' hcl hcb, Option.bind_some, beq_self_eq_true, Bool.not_true, Bool.not_false, F19_self, F29_eq, F30_eq, Bool.or_self, end_left, next _ (rI_suffix c)]
  · have : decide (i < (l.length : Int)) = false := by simpa using hi
    simp only [this, cond_false]
end Go.Proofs.Yticlnhhaaidmaaa
