/-
Readers: what the program's and the document's answer, the same.
-/
import Derived.Test.YticlnhhaaidmaaaMe
set_option linter.unusedVariables false
set_option linter.unusedSimpArgs false
namespace Go.Proofs.Yticlnhhaaidmaaa
open Go Go.Ev

theorem unzig_range {v : Nat} (h : v < 18446744073709551616) : R64 (unzig v) := by
  unfold unzig; split <;> exact ⟨by omega, by omega⟩
theorem pv_out : ∀ (r : List Int) (i u : Nat), (∀ x ∈ r, byteR x) → i ≤ 9 → u < 128 ^ i →
    (∃ (n : Int) (k : Nat), pv i u r = (n, (k : Int), 0) ∧ i < k ∧ k ≤ i + r.length ∧ R64 n) ∨ pv i u r = (0, 0, 10) ∨ pv i u r = (0, 0, 11)
  | [], i, u, _, _, _ => .inr (.inl (by rw [pv]))
  | x :: r, i, u, hb, hi, hu => by
    have hx := hb x (by simp)
    have h0 := hx.1; have h1 := hx.2
    rw [pv]
    by_cases h9 : i = 9 ∧ 1 < x
    · rw [if_pos h9]; exact .inr (.inr rfl)
    · rw [if_neg h9]
      by_cases hc : 128 ≤ x
      · rw [if_pos hc]
        have hi9 : i ≠ 9 := fun h => h9 ⟨h, by omega⟩
        rcases pv_out r (i + 1) _ (fun y hy => hb y (by simp [hy])) (by omega) (next_lt hu (a := (x % 128).toNat) (by omega)) with ⟨n, k, e, a1, a2, a3⟩ | e | e
        · exact .inl ⟨n, k, e, by omega, by simp only [List.length_cons]; omega, a3⟩
        · exact .inr (.inl e)
        · exact .inr (.inr e)
      · rw [if_neg hc]
        by_cases hz : x = 0 ∧ 0 < i
        · rw [if_pos hz]; exact .inr (.inr rfl)
        · rw [if_neg hz]
          refine .inl ⟨unzig (u + x.toNat * 128 ^ i), i + 1, by simp, by omega, by simp only [List.length_cons]; omega, unzig_range (sum_lt (a := x.toNat) hu (by omega) hi fun h => ?_)⟩
          have : ¬ 1 < x := fun h' => h9 ⟨h, h'⟩
          omega
theorem pv_k {b : List Int} (hb : ∀ x ∈ b, byteR x) : 0 ≤ (pv 0 0 b).2.1 ∧ (pv 0 0 b).2.1 ≤ (b.length : Int) ∧ R64 (pv 0 0 b).1 ∧ ((pv 0 0 b).2.2 ≠ 0 → (pv 0 0 b).1 = 0 ∧ (pv 0 0 b).2.1 = 0) := by
  rcases pv_out b 0 0 hb (by omega) (by simp) with ⟨n, k, e, a1, a2, a3⟩ | e | e
  · rw [e]; exact ⟨by simp, by simp; omega, a3, fun h => absurd rfl h⟩
  · rw [e]; exact ⟨by simp, by simp, ⟨by decide, by decide⟩, fun _ => ⟨rfl, rfl⟩⟩
  · rw [e]; exact ⟨by simp, by simp, ⟨by decide, by decide⟩, fun _ => ⟨rfl, rfl⟩⟩

def rI (b : List Int) : Int × Int × List Int := ((pv 0 0 b).1, (pv 0 0 b).2.2, b.drop (pv 0 0 b).2.1.toNat)
def rB (b : List Int) : List Int × Int × List Int :=
  if (pv 0 0 b).2.2 ≠ 0 then ([], (pv 0 0 b).2.2, b) else if (pv 0 0 b).1 < 0 then ([], 11, b) else if (b.length : Int) - (pv 0 0 b).2.1 < (pv 0 0 b).1 then ([], 10, b)
  else ((b.drop (pv 0 0 b).2.1.toNat).take (pv 0 0 b).1.toNat, 0, b.drop ((pv 0 0 b).2.1 + (pv 0 0 b).1).toNat)
def rF (b : List Int) : Bool × Int × List Int :=
  if (pv 0 0 b).2.2 ≠ 0 then (false, (pv 0 0 b).2.2, b) else if (pv 0 0 b).1 ≠ 0 ∧ (pv 0 0 b).1 ≠ 1 then (false, 11, b) else ((pv 0 0 b).1 == 1, 0, b.drop (pv 0 0 b).2.1.toNat)

theorem cut_end {b : List Int} (k : Int) : cut b k (b.length : Int) = b.drop k.toNat := by
  simp only [cut]; rw [List.take_of_length_le (by simp)]
section
variable {N : Nat} {b : List Int}
theorem F22_eq (hN : 11 ≤ N) (hl : b.length ≤ 70368744177664) (hb : ∀ x ∈ b, byteR x) : F22 N ⟨true, b⟩ = some ((rI b).1, (rI b).2.1, ⟨true, (rI b).2.2⟩) := by
  obtain ⟨a1, a2, _, _⟩ := pv_k hb
  unfold F22 F44
  simp only [Option.bind_some, Bool.not_true, cond_false, F45_eq hN (by omega) hb]
  rw [cutB_of a1 a2 (Int.le_refl _), cut_end]; rfl
theorem F25_eq (hN : 11 ≤ N) (hl : b.length ≤ 70368744177664) (hb : ∀ x ∈ b, byteR x) : F25 N ⟨b⟩ = some ((rI b).1, (rI b).2.1, ⟨(rI b).2.2⟩) := by
  obtain ⟨a1, a2, _, _⟩ := pv_k hb
  unfold F25
  simp only [F46_eq hN (show b.length ≤ 9223372036854775807 by omega) hb, Option.bind_some]
  rw [cutB_of a1 a2 (Int.le_refl _), cut_end]; rfl
theorem F23_eq (hN : 11 ≤ N) (hl : b.length ≤ 70368744177664) (hb : ∀ x ∈ b, byteR x) : F23 N ⟨true, b⟩ = some ((rB b).1, (rB b).2.1, ⟨true, (rB b).2.2⟩) := by
  obtain ⟨a1, a2, a3, _⟩ := pv_k hb
  have a4 := a3.1; have a5 := a3.2
  unfold F23 F44 rB
  simp only [Option.bind_some, Bool.not_true, cond_false, F45_eq hN (show b.length ≤ 9223372036854775807 by omega) hb]
  generalize hp : pv 0 0 b = p at a1 a2 a4 a5 ⊢
  by_cases he : p.2.2 = 0
  · rw [if_neg (by simpa using he)]
    have : (!(p.2.2 == 0)) = false := by simp [he]
    rw [this]
    simp only [cond_false]
    by_cases hn : p.1 < 0
    · rw [if_pos hn]; simp only [decide_eq_true hn, cond_true]
    · rw [if_neg hn]
      have hd : decide (p.1 < 0) = false := by simpa using hn
      simp only [hd, cond_false]
      rw [wrap64 (n := (b.length : Int) - p.2.1) (by omega) (by omega)]
      by_cases hlong : (b.length : Int) - p.2.1 < p.1
      · rw [if_pos hlong]; simp only [decide_eq_true hlong, cond_true]
      · rw [if_neg hlong]
        have hd : decide ((b.length : Int) - p.2.1 < p.1) = false := by simpa using hlong
        simp only [hd, cond_false]
        rw [wrap64 (n := p.2.1 + p.1) (by omega) (by omega)]
        rw [cutB_of a1 (by omega) (by omega), cutB_of (by omega) (by omega) (Int.le_refl _), cut_end]
        have ec : cut b p.2.1 (p.2.1 + p.1) = (b.drop p.2.1.toNat).take p.1.toNat := by
          simp only [cut]; congr 1; omega
        rw [ec, F43_eq (by simp; omega)]; rfl
  · rw [if_pos he]
    have : (!(p.2.2 == 0)) = true := by simpa using he
    rw [this]; rfl
theorem F26_eq (hN : 11 ≤ N) (hl : b.length ≤ 70368744177664) (hb : ∀ x ∈ b, byteR x) : F26 N ⟨b⟩ = some ((rB b).1, (rB b).2.1, ⟨(rB b).2.2⟩) := by
  obtain ⟨a1, a2, a3, _⟩ := pv_k hb
  have a4 := a3.1; have a5 := a3.2
  unfold F26 F47 rB
  simp only [F46_eq hN (show b.length ≤ 9223372036854775807 by omega) hb, Option.bind_some]
  generalize hp : pv 0 0 b = p at a1 a2 a4 a5 ⊢
  have zero : cutB 0 (b.length : Int) (b.length : Int) = true := cutB_of (Int.le_refl _) (by omega) (Int.le_refl _)
  have cz : cut b 0 (b.length : Int) = b := by rw [cut_end]; rfl
  by_cases he : p.2.2 = 0
  · rw [if_neg (by simpa using he)]
    have : (!(p.2.2 == 0)) = false := by simp [he]
    rw [this]
    simp only [cond_false]
    by_cases hn : p.1 < 0
    · rw [if_pos hn]; simp only [decide_eq_true hn, cond_true, Option.bind_some, zero, cz]
    · rw [if_neg hn]
      have hd : decide (p.1 < 0) = false := by simpa using hn
      simp only [hd, cond_false]
      rw [wrap64 (n := (b.length : Int) - p.2.1) (by omega) (by omega)]
      by_cases hlong : (b.length : Int) - p.2.1 < p.1
      · rw [if_pos hlong]; simp only [decide_eq_true hlong, cond_true, Option.bind_some, zero, cz]
      · rw [if_neg hlong]
        have hd : decide ((b.length : Int) - p.2.1 < p.1) = false := by simpa using hlong
        simp only [hd, cond_false]
        rw [wrap64 (n := p.2.1 + p.1) (by omega) (by omega)]
        have ec : cut b p.2.1 (p.2.1 + p.1) = (b.drop p.2.1.toNat).take p.1.toNat := by
          simp only [cut]; congr 1; omega
        rw [cutB_of a1 (by omega) (by omega), ec, lenB_of (by simp; omega)]
        simp only [cond_true, Option.bind_some]
        rw [cutB_of (by omega) (by omega) (Int.le_refl _), cut_end]; rfl
  · rw [if_pos he]
    have : (!(p.2.2 == 0)) = true := by simpa using he
    rw [this]
    simp only [cond_true, Option.bind_some, zero, cz]
theorem F24_eq (hN : 11 ≤ N) (hl : b.length ≤ 70368744177664) (hb : ∀ x ∈ b, byteR x) : F24 N ⟨true, b⟩ = some ((rF b).1, (rF b).2.1, ⟨true, (rF b).2.2⟩) := by
  obtain ⟨a1, a2, a3, _⟩ := pv_k hb
  unfold F24 F44 rF
  simp only [Option.bind_some, Bool.not_true, cond_false, F45_eq hN (show b.length ≤ 9223372036854775807 by omega) hb]
  generalize hp : pv 0 0 b = p at a1 a2 ⊢
  by_cases he : p.2.2 = 0
  · rw [if_neg (by simpa using he)]
    have : (!(p.2.2 == 0)) = false := by simp [he]
    rw [this]
    simp only [cond_false]
    by_cases hn : p.1 ≠ 0 ∧ p.1 ≠ 1
    · rw [if_pos hn]
      have : (!(p.1 == 0) && !(p.1 == 1)) = true := by simp [hn.1, hn.2]
      rw [this]; rfl
    · rw [if_neg hn]
      have : (!(p.1 == 0) && !(p.1 == 1)) = false := by
        rw [Bool.eq_false_iff]; intro h; simp at h; exact hn h
      rw [this]
      simp only [cond_false]
      rw [cutB_of a1 a2 (Int.le_refl _), cut_end]; rfl
  · rw [if_pos he]
    have : (!(p.2.2 == 0)) = true := by simpa using he
    rw [this]; rfl
theorem F28_eq (hN : 11 ≤ N) (hl : b.length ≤ 70368744177664) (hb : ∀ x ∈ b, byteR x) : F28 N ⟨b⟩ = some ((rF b).1, (rF b).2.1, ⟨(rF b).2.2⟩) := by
  obtain ⟨a1, a2, a3, a6⟩ := pv_k hb
  unfold F28 rF
  simp only [Option.bind_some, F46_eq hN (show b.length ≤ 9223372036854775807 by omega) hb]
  generalize hp : pv 0 0 b = p at a1 a2 a6 ⊢
  by_cases he : p.2.2 = 0
  · rw [if_neg (by simpa using he)]
    by_cases hn : p.1 ≠ 0 ∧ p.1 ≠ 1
    · rw [if_pos hn]
      have : (p.2.2 == 0 && (decide (p.1 < 0) || decide (1 < p.1))) = true := by simp [he]; omega
      rw [this]; rfl
    · rw [if_neg hn]
      have : (p.2.2 == 0 && (decide (p.1 < 0) || decide (1 < p.1))) = false := by
        rw [Bool.eq_false_iff]; intro h; simp [he] at h; exact hn ⟨by omega, by omega⟩
      rw [this]
      simp only [cond_false]
      rw [cutB_of a1 a2 (Int.le_refl _), cut_end, he]; rfl
  · rw [if_pos he]
    obtain ⟨e1, e2⟩ := a6 he
    have : (p.2.2 == 0 && (decide (p.1 < 0) || decide (1 < p.1))) = false := by simp [he]
    rw [this]
    simp only [cond_false]
    rw [e1, e2, cutB_of (Int.le_refl _) (by omega) (Int.le_refl _), cut_end]; rfl
end

/-- What is left is the end of what was there. -/
theorem rI_suffix (b : List Int) : (rI b).2.2 <:+ b := List.drop_suffix _ _
theorem rB_suffix (b : List Int) : (rB b).2.2 <:+ b := by
  unfold rB; (repeat' split) <;> first | exact List.suffix_rfl | exact List.drop_suffix _ _
theorem rF_suffix (b : List Int) : (rF b).2.2 <:+ b := by
  unfold rF; (repeat' split) <;> first | exact List.suffix_rfl | exact List.drop_suffix _ _
theorem suffix_ok {c b : List Int} (h : c <:+ b) (hl : b.length ≤ 70368744177664) (hb : ∀ x ∈ b, byteR x) : c.length ≤ 70368744177664 ∧ ∀ x ∈ c, byteR x :=
  ⟨Nat.le_trans h.length_le hl, fun x hx => hb x (h.subset hx)⟩
theorem strI_bytesI (l : List UInt8) : strI (bytesI l) = l := by
  induction l with
  | nil => rfl
  | cons b l ih => simp only [bytesI, strI, List.map_cons, List.map_map] at ih ⊢; rw [ih]; simp
end Go.Proofs.Yticlnhhaaidmaaa
