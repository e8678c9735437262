/-
What is put, part by part; the law WireWrites.
-/
import Derived.Test.YticlnhhaaidmaaaMg
set_option linter.unusedVariables false
set_option linter.unusedSimpArgs false
namespace Go.Proofs.Yticlnhhaaidmaaa
open Go Go.Ev

/-- A part's bytes. -/
def pb (p : Gorchardlaw01_Part) : List Int :=
  if p.Kind = 0 then vint (zig p.N) else if p.Kind = 1 ∨ p.Kind = 2 then vint (zig (p.B.length : Int)) ++ p.B else vint (zig (if 0 < p.N then 1 else 0))
/-- A part in range. -/
def okP (p : Gorchardlaw01_Part) : Prop := R64 p.N ∧ p.B.length ≤ 1048576 ∧ ∀ x ∈ p.B, byteR x

theorem bytesI_strI {l : List Int} (h : ∀ x ∈ l, byteR x) : bytesI (strI l) = l := by
  induction l with
  | nil => rfl
  | cons b l ih =>
    have hb := h b (by simp)
    have := hb.1; have := hb.2
    have e : ((UInt8.ofNat b.toNat).toNat : Int) = b := by
      rw [UInt8.toNat_ofNat']
      omega
    have ih' := ih fun x hx => h x (by simp [hx])
    simp only [bytesI, strI, List.map_cons, List.map_map] at ih' ⊢
    rw [ih', e]
theorem R64_small {n : Nat} (h : n ≤ 1048576) : R64 (n : Int) := ⟨by omega, by omega⟩
theorem R64_flag (n : Int) : R64 (if 0 < n then 1 else 0) := by split <;> exact ⟨by decide, by decide⟩

section
variable {N : Nat} {w : List Int}
theorem F32_eq (hN : 11 ≤ N) {b : List Int} (hb : b.length ≤ 1048576) (hw : w.length ≤ 1048576) : F32 N b true w = some (putAll w (vint (zig (b.length : Int)) ++ b)) := by
  have := vint_len10 (zig_lt (R64_small hb))
  unfold F32
  rw [F49_eq hN (R64_small hb), Option.bind_some, F48_eq (by simp; omega) (by simp) hw (by intro m hm; simp at hm; rcases hm with rfl | rfl <;> omega)]
  simp
theorem F33_eq (hN : 11 ≤ N) (n : Int) (hw : w.length ≤ 1048576) : F33 N (decide (0 < n)) true w = some (putAll w (vint (zig (if 0 < n then 1 else 0)))) := by
  unfold F33
  by_cases h : 0 < n
  · simp only [decide_eq_true h, cond_true, if_pos h, F31_eq hN (show R64 1 from ⟨by decide, by decide⟩) hw, Option.bind_some]
  · have : decide (0 < n) = false := by simpa using h
    simp only [this, cond_false, if_neg h, F31_eq hN (show R64 0 from ⟨by decide, by decide⟩) hw, Option.bind_some]
theorem F36_eq (hN : 11 ≤ N) {b : List Int} (hb : b.length ≤ 1048576) : F36 N b = some (vint (zig (b.length : Int)) ++ b) := by
  have := vint_len10 (zig_lt (R64_small hb))
  unfold F36
  rw [F41_eq hN (R64_small hb), Option.bind_some, lenB_of (by omega)]; rfl
theorem F17_eq (hN : 11 ≤ N) {p : Gorchardlaw01_Part} (hp : okP p) (hw : w.length ≤ 1048576) : F17 N p true w = some (pb p, putAll w (pb p)) := by
  obtain ⟨h1, h2, h3⟩ := hp
  unfold F17 pb
  by_cases k0 : p.Kind = 0
  · have : (p.Kind == 0) = true := by simpa using k0
    rw [this, if_pos k0]
    simp only [cond_true, F41_eq hN h1, F31_eq hN h1 hw, Option.bind_some]
  · have : (p.Kind == 0) = false := by simpa using k0
    rw [this, if_neg k0]
    simp only [cond_false]
    by_cases k1 : p.Kind = 1
    · have : (p.Kind == 1) = true := by simpa using k1
      rw [this, if_pos (.inl k1)]
      simp only [cond_true, F36_eq hN h2, F32_eq hN h2 hw, Option.bind_some]
    · have : (p.Kind == 1) = false := by simpa using k1
      rw [this]
      simp only [cond_false]
      by_cases k2 : p.Kind = 2
      · have : (p.Kind == 2) = true := by simpa using k2
        rw [this, if_pos (.inr k2)]
        simp only [cond_true, F37, bytesI_strI h3, F36_eq hN h2, F32_eq hN h2 hw, Option.bind_some]
      · have : (p.Kind == 2) = false := by simpa using k2
        rw [this, if_neg (fun h => h.elim k1 k2)]
        simp only [cond_false, F33_eq hN p.N hw]
        by_cases hn : 0 < p.N
        · simp only [decide_eq_true hn, cond_true, if_pos hn, F41_eq hN (show R64 1 from ⟨by decide, by decide⟩), Option.bind_some]
        · have : decide (0 < p.N) = false := by simpa using hn
          simp only [this, cond_false, if_neg hn, F41_eq hN (show R64 0 from ⟨by decide, by decide⟩), Option.bind_some]
end
theorem pb_len {p : Gorchardlaw01_Part} (hp : okP p) : (pb p).length ≤ 1048586 := by
  obtain ⟨h1, h2, h3⟩ := hp
  have a1 := vint_len10 (zig_lt h1)
  have a2 := vint_len10 (zig_lt (R64_small h2))
  have a3 := vint_len10 (zig_lt (R64_flag p.N))
  unfold pb
  split
  · omega
  · split
    · simp only [List.length_append]; omega
    · omega
theorem F18_eq (N : Nat) (w : List Int) : F18 N true w = some ((w.length : Int), true, w) := rfl

theorem wireWrites_F {N : Nat} {l : List Gorchardlaw01_Part} (hN : l.length + 20 ≤ N) (hl : l.length ≤ 1048576) (hp : ∀ p ∈ l, okP p) : F4 N l = some true := by
  unfold F4 F16
  simp only [Option.bind_some, F13_eq (N := N) (by omega), Bool.not_true, cond_false]
  refine iter_run (fun q : S4x6 => 0 ≤ q.t18 ∧ q.t18 ≤ (l.length : Int) ∧ q.b0 = true ∧ q.b02 = q.want ∧ q.want.length ≤ 1048576) (fun q => ((l.length : Int) - q.t18).toNat) ?_ N _ ⟨by simp, by simp, rfl, rfl, by simp⟩ (by simp; omega)
  rintro ⟨want, i, b0, w⟩ nx ⟨g0, g1, g2, g3, g4⟩ ih
  simp only at g0 g1 g2 g3 g4 ih ⊢
  subst g2; subst g3
  by_cases hi : i < l.length
  · have hpi := hp _ (lget_mem (default : Gorchardlaw01_Part) g0 hi)
    simp only [decide_eq_true hi, ibB_of g0 hi, cond_true, F17_eq (N := N) (by omega) hpi g4, Option.bind_some]
    have hlen := pb_len hpi
    generalize pb (lget l i default) = x at hlen ⊢
    rw [wrap64 (n := (w.length : Int) + (x.length : Int)) (by omega) (by omega), wrap64 (n := i + 1) (by omega) (by omega), lenB_of (by omega)]
    unfold putAll
    by_cases hlong : 1048576 < (w.length : Int) + (x.length : Int)
    · rw [if_neg (by omega)]
      simp only [decide_eq_true hlong, cond_true, beq_self_eq_true, Bool.not_true, cond_false]
      exact ih ⟨w, i + 1, true, w⟩ ⟨by simp; omega, by simp; omega, rfl, rfl, g4⟩ (by simp; omega)
    · rw [if_pos (by omega)]
      have hd : decide (1048576 < (w.length : Int) + (x.length : Int)) = false := by simpa using hlong
      simp only [hd, cond_false, beq_self_eq_true, Bool.not_true, Bool.not_false, cond_true, F18_eq, Option.bind_some, Bool.or_self]
      exact ih ⟨w ++ x, i + 1, true, w ++ x⟩ ⟨by simp; omega, by simp; omega, rfl, rfl, by simp; omega⟩ (by simp; omega)
  · have : decide (i < (l.length : Int)) = false := by simpa using hi
    simp only [this, cond_false, F20_eq (N := N) g4, Option.bind_some, F19_self]
end Go.Proofs.Yticlnhhaaidmaaa
