/-
The law WireOne.
-/
import Derived.Test.YticlnhhaaidmaaaMi
set_option linter.unusedVariables false
set_option linter.unusedSimpArgs false
namespace Go.Proofs.Yticlnhhaaidmaaa
open Go Go.Ev

/-- There is one form: what is read is what would be put. -/
theorem pv_canon : ∀ (r : List Int) (i u : Nat) (n k : Int), (∀ x ∈ r, byteR x) → i ≤ 9 → u < 128 ^ i → pv i u r = (n, k, 0) →
    ∃ (v : Nat) (rest : List Int), r = vint v ++ rest ∧ n = unzig (u + v * 128 ^ i) ∧ k = (i : Int) + (vint v).length ∧ u + v * 128 ^ i < 18446744073709551616 ∧ (0 < i → 0 < v)
  | [], i, u, n, k, _, _, _, h => by rw [pv] at h; cases h
  | x :: r, i, u, n, k, hb, hi, hu, h => by
    have hx := hb x (by simp)
    have h0 := hx.1; have h1 := hx.2
    rw [pv] at h
    by_cases h9 : i = 9 ∧ 1 < x
    · rw [if_pos h9] at h; cases h
    · rw [if_neg h9] at h
      by_cases hc : 128 ≤ x
      · rw [if_pos hc] at h
        have hi9 : i ≠ 9 := fun h => h9 ⟨h, by omega⟩
        obtain ⟨v, rest, e1, e2, e3, e4, e5⟩ := pv_canon r (i + 1) _ n k (fun y hy => hb y (by simp [hy])) (by omega) (next_lt hu (a := (x % 128).toNat) (by omega)) h
        have hv := e5 (by omega)
        have ed : ((x % 128).toNat + 128 * v) / 128 = v := by omega
        have em : ((x % 128).toNat + 128 * v) % 128 = (x % 128).toNat := by omega
        have es : u + ((x % 128).toNat + 128 * v) * 128 ^ i = u + (x % 128).toNat * 128 ^ i + v * 128 ^ (i + 1) := by
          rw [Nat.add_mul, Nat.pow_succ, Nat.mul_comm (128 ^ i) 128, ← Nat.mul_assoc, Nat.mul_comm v 128]; omega
        have ev : vint ((x % 128).toNat + 128 * v) = x :: vint v := by
          rw [vint_ge (by omega), ed, em]
          congr 1; omega
        refine ⟨(x % 128).toNat + 128 * v, rest, by rw [ev, e1]; rfl, by rw [es]; exact e2, ?_, by rw [es]; exact e4, fun _ => by omega⟩
        rw [ev, List.length_cons, e3]; push_cast; omega
      · rw [if_neg hc] at h
        by_cases hz : x = 0 ∧ 0 < i
        · rw [if_pos hz] at h; cases h
        · rw [if_neg hz] at h
          cases h
          have hs := sum_lt hu (a := x.toNat) (by omega) hi (fun h => by
            have : ¬ 1 < x := fun h' => h9 ⟨h, h'⟩
            omega)
          have ev : vint x.toNat = [x] := by rw [vint_lt (by omega)]; congr 1; omega
          refine ⟨x.toNat, r, by rw [ev]; rfl, rfl, by rw [ev]; simp, hs, fun hi0 => ?_⟩
          have : ¬ x = 0 := fun h' => hz ⟨h', hi0⟩
          omega
theorem zig_unzig (v : Nat) : zig (unzig v) = v := by unfold zig unzig; split <;> split <;> omega
theorem pv_one {c : List Int} (hb : ∀ x ∈ c, byteR x) (h : (pv 0 0 c).2.2 = 0) : ∃ rest, c = vint (zig (pv 0 0 c).1) ++ rest ∧ (pv 0 0 c).2.1 = ((vint (zig (pv 0 0 c).1)).length : Int) ∧ R64 (pv 0 0 c).1 := by
  obtain ⟨v, rest, e1, e2, e3, e4, _⟩ := pv_canon c 0 0 (pv 0 0 c).1 (pv 0 0 c).2.1 hb (by omega) (by simp) (by rw [← h])
  simp only [Nat.pow_zero, Nat.mul_one, Nat.zero_add] at e2 e4
  have ez : zig (pv 0 0 c).1 = v := by rw [e2, zig_unzig]
  refine ⟨rest, by rw [ez]; exact e1, by rw [ez, e3]; simp, ?_⟩
  rw [e2]; exact unzig_range e4

section
variable {c : List Int} (hb : ∀ x ∈ c, byteR x)
theorem rI_one (hb : ∀ x ∈ c, byteR x) (h : (rI c).2.1 = 0) : c = vint (zig (rI c).1) ++ (rI c).2.2 ∧ R64 (rI c).1 := by
  obtain ⟨rest, e1, e2, e3⟩ := pv_one hb h
  refine ⟨?_, e3⟩
  unfold rI
  simp only [e2, Int.toNat_natCast]
  conv => lhs; rw [e1]
  congr 1
  conv => rhs; rw [e1]
  rw [show (pv 0 0 (vint (zig (pv 0 0 c).1) ++ rest)).1 = (pv 0 0 c).1 by rw [← e1]]
  simp
theorem rI_not (hb : ∀ x ∈ c, byteR x) (h : (rI c).2.1 ≠ 0) : (rI c).2.2 = c := by
  obtain ⟨_, _, _, a⟩ := pv_k hb
  unfold rI at h ⊢
  simp only [(a h).2]; rfl
theorem rF_one (hb : ∀ x ∈ c, byteR x) (h : (rF c).2.1 = 0) : c = vint (zig (if (rF c).1 then 1 else 0)) ++ (rF c).2.2 := by
  by_cases h0 : (pv 0 0 c).2.2 = 0
  · by_cases h1 : (pv 0 0 c).1 ≠ 0 ∧ (pv 0 0 c).1 ≠ 1
    · have er : rF c = (false, 11, c) := by unfold rF; rw [if_neg (by simpa using h0), if_pos h1]
      rw [er] at h; cases h
    · have er : rF c = ((pv 0 0 c).1 == 1, 0, c.drop (pv 0 0 c).2.1.toNat) := by unfold rF; rw [if_neg (by simpa using h0), if_neg h1]
      rw [er]
      have hI := (rI_one hb (show (rI c).2.1 = 0 from h0)).1
      unfold rI at hI
      simp only at hI ⊢
      have : (if ((pv 0 0 c).1 == 1) = true then (1 : Int) else 0) = (pv 0 0 c).1 := by
        by_cases h2 : (pv 0 0 c).1 = 1
        · rw [h2]; rfl
        · have : (pv 0 0 c).1 = 0 := by
            rcases Classical.em ((pv 0 0 c).1 = 0) with h | h
            · exact h
            · exact absurd ⟨h, h2⟩ h1
          rw [this]; rfl
      rw [this]; exact hI
  · have er : rF c = (false, (pv 0 0 c).2.2, c) := by unfold rF; rw [if_pos h0]
    rw [er] at h; exact absurd h h0
theorem rF_not (h : (rF c).2.1 ≠ 0) : (rF c).2.2 = c := by
  unfold rF at h ⊢
  split
  · rfl
  · rename_i h0
    rw [if_neg h0] at h
    split
    · rfl
    · rename_i h1
      rw [if_neg h1] at h; exact absurd rfl h
theorem rB_one (hb : ∀ x ∈ c, byteR x) (h : (rB c).2.1 = 0) : c = vint (zig ((rB c).1.length : Int)) ++ (rB c).1 ++ (rB c).2.2 ∧ (rB c).1.length ≤ c.length := by
  unfold rB at h ⊢
  by_cases h0 : (pv 0 0 c).2.2 = 0
  · rw [if_neg (by simpa using h0)] at h ⊢
    by_cases h1 : (pv 0 0 c).1 < 0
    · rw [if_pos h1] at h; cases h
    · rw [if_neg h1] at h ⊢
      by_cases h2 : (c.length : Int) - (pv 0 0 c).2.1 < (pv 0 0 c).1
      · rw [if_pos h2] at h; cases h
      · rw [if_neg h2]
        obtain ⟨a1, a2, _, _⟩ := pv_k hb
        have hI := (rI_one hb (show (rI c).2.1 = 0 from h0)).1
        unfold rI at hI
        simp only at hI ⊢
        have hl : ((c.drop (pv 0 0 c).2.1.toNat).take (pv 0 0 c).1.toNat).length = (pv 0 0 c).1.toNat := by simp only [List.length_take, List.length_drop]; omega
        have hz : (((c.drop (pv 0 0 c).2.1.toNat).take (pv 0 0 c).1.toNat).length : Int) = (pv 0 0 c).1 := by omega
        rw [hz, List.append_assoc]
        refine ⟨?_, by omega⟩
        have : ((pv 0 0 c).2.1 + (pv 0 0 c).1).toNat = (pv 0 0 c).2.1.toNat + (pv 0 0 c).1.toNat := by omega
        rw [this, ← List.drop_drop, List.take_append_drop]
        exact hI
  · rw [if_pos h0] at h; exact absurd h h0
theorem rB_not (h : (rB c).2.1 ≠ 0) : (rB c).2.2 = c := by
  unfold rB at h ⊢
  split
  · rfl
  · rename_i h0
    rw [if_neg h0] at h
    split
    · rfl
    · rename_i h1
      rw [if_neg h1] at h
      split
      · rfl
      · rename_i h2
        rw [if_neg h2] at h; exact absurd rfl h
end
theorem F33_flag {N : Nat} (hN : 11 ≤ N) (yes : Bool) {w : List Int} (hw : w.length ≤ 1048576) : F33 N yes true w = some (putAll w (vint (zig (if yes then 1 else 0)))) := by
  unfold F33
  cases yes
  · simp only [cond_false, F31_eq hN (show R64 0 from ⟨by decide, by decide⟩) hw, Option.bind_some]; rfl
  · simp only [cond_true, F31_eq hN (show R64 1 from ⟨by decide, by decide⟩) hw, Option.bind_some]; rfl
end Go.Proofs.Yticlnhhaaidmaaa
