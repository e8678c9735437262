/-
The int that bytes begin with: what the program's and the document's functions read, and that it is what was put.
-/
import Derived.Test.YticlnhhaaidmaaaMc
set_option linter.unusedVariables false
set_option linter.unusedSimpArgs false
namespace Go.Proofs.Yticlnhhaaidmaaa
open Go Go.Ev

def unzig (u : Nat) : Int := if u % 2 = 1 then -((u / 2 : Nat) : Int) - 1 else ((u / 2 : Nat) : Int)
/-- The int that bytes begin with, how many they are, and the fault. -/
def pv : Nat → Nat → List Int → Int × Int × Int
  | _, _, [] => (0, 0, 10)
  | i, u, x :: r => if i = 9 ∧ 1 < x then (0, 0, 11) else if 128 ≤ x then pv (i + 1) (u + (x % 128).toNat * 128 ^ i) r else if x = 0 ∧ 0 < i then (0, 0, 11) else (unzig (u + x.toNat * 128 ^ i), (i : Int) + 1, 0)

theorem pow128 {k : Nat} (hk : k ≤ 9) : 128 ^ k ≤ 9223372036854775808 := by
  have : 128 ^ k ≤ 128 ^ 9 := Nat.pow_le_pow_right (by decide) hk
  exact Nat.le_trans this (by decide)
theorem part_lt {a k : Nat} (ha : a < 128) (hk : k ≤ 9) (h9 : k = 9 → a ≤ 1) : a * 128 ^ k ≤ 9223372036854775808 := by
  by_cases h : k = 9
  · subst h
    have : a * 128 ^ 9 ≤ 1 * 128 ^ 9 := Nat.mul_le_mul_right _ (h9 rfl)
    exact Nat.le_trans this (by decide)
  · have h1 : a * 128 ^ k ≤ 128 * 128 ^ k := Nat.mul_le_mul_right _ (by omega)
    have h2 : 128 * 128 ^ k = 128 ^ (k + 1) := by rw [Nat.pow_succ, Nat.mul_comm]
    exact Nat.le_trans (h2 ▸ h1) (pow128 (by omega))
theorem shl_part {a : Int} {k : Nat} (h0 : 0 ≤ a) (ha : a < 128) (hk : k ≤ 9) (h9 : k = 9 → a ≤ 1) : shl .u64 a (IntKind.i64.wrap (7 * (k : Int))) = ((a.toNat * 128 ^ k : Nat) : Int) := by
  rw [wrap64 (by omega) (by omega)]
  simp only [shl, IntKind.bits]
  rw [show (min (7 * (k : Int)).toNat 64) = 7 * k by omega, u64_wrap_eq]
  have hp := part_lt (a := a.toNat) (by omega) hk (fun h => by have := h9 h; omega)
  have e : a * 2 ^ (7 * k) = ((a.toNat * 128 ^ k : Nat) : Int) := by
    have e2 : (128 : Nat) ^ k = 2 ^ (7 * k) := by rw [Nat.pow_mul]
    rw [e2]
    push_cast
    rw [Int.toNat_of_nonneg h0]
  rw [e]
  omega
theorem or_part {u a k : Nat} (hu : u < 128 ^ k) (hk : k ≤ 9) (ha : a * 128 ^ k ≤ 9223372036854775808) : bits .or .u64 (u : Int) ((a * 128 ^ k : Nat) : Int) = ((u + a * 128 ^ k : Nat) : Int) := by
  have hp := pow128 hk
  rw [u64_or _ _ (by omega) (by omega) (by omega) (by omega)]
  have e2 : (128 : Nat) ^ k = 2 ^ (7 * k) := by rw [Nat.pow_mul]
  have := nat_join (7 * k) (a * 128 ^ k) u (by rw [e2]; exact Nat.mul_mod_left _ _) (by rw [← e2]; exact hu)
  rw [Int.toNat_natCast, Int.toNat_natCast, Nat.or_comm, this]
  omega
theorem and8_127 {c : Int} (h : byteR c) : bits .and .u8 c 127 = c % 128 := by
  have h0 := h.1; have h1 := h.2
  rw [u8_and c 127 h0 (by omega) (by decide) (by decide), show (127 : Int).toNat = 127 from rfl, nat_mask7]
  omega
theorem and64_one {v : Nat} (h : v < 18446744073709551616) : bits .and .u64 (v : Int) 1 = ((v % 2 : Nat) : Int) := by
  rw [u64_and _ 1 (by omega) (by omega) (by decide) (by decide), show (1 : Int).toNat = 1 from rfl, Int.toNat_natCast, nat_mask1]
theorem shr64_one (v : Nat) : shr .u64 (v : Int) 1 = ((v / 2 : Nat) : Int) := by
  have := shr64 (a := (v : Int)) (k := 1) (by decide)
  rw [show ((1 : Nat) : Int) = 1 from rfl] at this
  rw [this]; omega
theorem sum_lt {u a k : Nat} (hu : u < 128 ^ k) (ha : a < 128) (hk : k ≤ 9) (h9 : k = 9 → a ≤ 1) : u + a * 128 ^ k < 18446744073709551616 := by
  have := part_lt ha hk h9
  have := pow128 hk
  omega
theorem next_lt {u a k : Nat} (hu : u < 128 ^ k) (ha : a < 128) : u + a * 128 ^ k < 128 ^ (k + 1) := by
  have : a * 128 ^ k ≤ 127 * 128 ^ k := Nat.mul_le_mul_right _ (by omega)
  rw [Nat.pow_succ]; omega

theorem F45_eq {N : Nat} (hN : 11 ≤ N) {b : List Int} (hl : b.length ≤ 9223372036854775807) (hb : ∀ x ∈ b, byteR x) : F45 N b = some (pv 0 0 b) := by
  unfold F45
  refine iter_run (fun q : S45x3 => ∃ k u : Nat, q.t8 = k ∧ q.u = u ∧ k ≤ 9 ∧ u < 128 ^ k ∧ pv k u (b.drop k) = pv 0 0 b) (fun q => (9 - q.t8).toNat) ?_ N _ ⟨0, 0, rfl, rfl, by omega, by simp, rfl⟩ (by simp; omega)
  rintro ⟨u', i'⟩ nx ⟨k, u, rfl, rfl, hk, hu, hq⟩ ih
  simp only at ih ⊢
  have hk10 : decide ((k : Int) < 10) = true := by simp; omega
  simp only [hk10, cond_true, Bool.cond_decide]
  split
  · rename_i hend
    rw [List.drop_eq_nil_of_le (by omega)] at hq
    rw [← hq, pv]
  · rename_i hlt
    have hlt' : (k : Int) < b.length := by omega
    have hd := lget_drop (default : Int) (Int.natCast_nonneg k) hlt'
    have hmem := hb _ (lget_mem (default : Int) (Int.natCast_nonneg k) hlt')
    rw [Int.toNat_natCast] at hd
    rw [hd] at hq
    generalize lget b (k : Int) default = c at hq hmem hd ⊢
    have h0 := hmem.1; have h1 := hmem.2
    rw [ibB_of (Int.natCast_nonneg k) hlt', and8_127 hmem]
    simp only [cond_true]
    rw [pv] at hq
    by_cases hform : (((k : Int) == 9) && decide (1 < c) || (c == 0) && decide (0 < (k : Int))) = true
    · rw [hform]
      simp only [cond_true]
      rw [← hq]
      simp only [Bool.or_eq_true, Bool.and_eq_true, beq_iff_eq, decide_eq_true_eq] at hform
      rcases hform with ⟨a1, a2⟩ | ⟨a1, a2⟩
      · rw [if_pos ⟨by omega, a2⟩]
      · by_cases h9 : k = 9 ∧ 1 < c
        · rw [if_pos h9]
        · rw [if_neg h9, if_neg (by omega), if_pos ⟨a1, by omega⟩]
    · have hf : (((k : Int) == 9) && decide (1 < c) || (c == 0) && decide (0 < (k : Int))) = false := by simpa using hform
      rw [hf]
      simp only [cond_false]
      have n1 : ¬ (k = 9 ∧ 1 < c) := fun h => hform (by simp [h.1, h.2])
      have n2 : ¬ (c = 0 ∧ 0 < k) := fun h => hform (by simp [h.1]; omega)
      rw [if_neg n1] at hq
      have h7 : 0 ≤ IntKind.i64.wrap (7 * (k : Int)) := by rw [wrap64 (by omega) (by omega)]; omega
      rw [if_pos h7]
      have e0 : IntKind.u64.wrap (c % 128) = c % 128 := by rw [u64_wrap_eq]; omega
      have hs := shl_part (a := c % 128) (k := k) (by omega) (by omega) hk (fun h => by
        have : ¬ 1 < c := fun h' => n1 ⟨h, h'⟩
        omega)
      have h9' : k = 9 → (c % 128).toNat ≤ 1 := fun h => by
        have : ¬ 1 < c := fun h' => n1 ⟨h, h'⟩
        omega
      have ho := or_part hu hk (part_lt (a := (c % 128).toNat) (by omega) hk h9')
      have hV := sum_lt hu (a := (c % 128).toNat) (by omega) hk h9'
      rw [e0, hs, ho]
      generalize hVe : u + (c % 128).toNat * 128 ^ k = v at hV hq ⊢
      split
      · rename_i hc
        rw [if_neg (by omega), if_neg n2] at hq
        have ec : c.toNat = (c % 128).toNat := by omega
        rw [ec, hVe] at hq
        rw [← hq, and64_one hV, shr64_one]
        have ek : IntKind.i64.wrap ((k : Int) + 1) = (k : Int) + 1 := wrap64 (by omega) (by omega)
        rw [ek]
        unfold unzig
        by_cases hodd : v % 2 = 1
        · rw [hodd, if_pos rfl]
          rw [xor64_max (by omega) (by omega)]
          have : IntKind.i64.wrap (18446744073709551615 - ((v / 2 : Nat) : Int)) = -((v / 2 : Nat) : Int) - 1 := by
            rw [IntKind.wrap]
            simp [IntKind.bits, IntKind.signed]
            split <;> omega
          rw [this]; rfl
        · have he : v % 2 = 0 := by omega
          rw [he, if_neg (by omega)]
          simp only [show (((0 : Nat) : Int) == 1) = false from rfl, cond_false]
          rw [wrap64 (by omega) (by omega)]
      · rename_i hc
        have ekk : ((k : Int) + 1).toNat = k + 1 := by omega
        rw [if_pos (by omega), ekk] at hq
        rw [wrap64 (n := (k : Int) + 1) (by omega) (by omega)]
        have hk9 : k ≠ 9 := fun h => n1 ⟨h, by omega⟩
        exact ih ⟨(v : Int), (k : Int) + 1⟩ ⟨k + 1, v, by simp, rfl, by omega, hVe ▸ next_lt hu (by omega), hq⟩ (by simp; omega)

theorem F46_eq {N : Nat} (hN : 11 ≤ N) {b : List Int} (hl : b.length ≤ 9223372036854775807) (hb : ∀ x ∈ b, byteR x) : F46 N b = some (pv 0 0 b) := by
  unfold F46
  refine iter_run (fun q : S46x3 => ∃ k u : Nat, q.i = k ∧ q.u = u ∧ k ≤ 9 ∧ u < 128 ^ k ∧ pv k u (b.drop k) = pv 0 0 b) (fun q => (9 - q.i).toNat) ?_ N _ ⟨0, 0, rfl, rfl, by omega, by simp, rfl⟩ (by simp; omega)
  rintro ⟨u', i'⟩ nx ⟨k, u, rfl, rfl, hk, hu, hq⟩ ih
  simp only at ih ⊢
  by_cases hlt' : (k : Int) < b.length
  · have hd := lget_drop (default : Int) (Int.natCast_nonneg k) hlt'
    have hmem := hb _ (lget_mem (default : Int) (Int.natCast_nonneg k) hlt')
    rw [Int.toNat_natCast] at hd
    rw [hd] at hq
    generalize lget b (k : Int) default = c at hq hmem hd ⊢
    have h0 := hmem.1; have h1 := hmem.2
    have ew : IntKind.u64.wrap c = c := by rw [u64_wrap_eq]; omega
    have em : Int.tmod c 128 = c % 128 := Int.tmod_eq_emod_of_nonneg h0
    have h7 : decide (0 ≤ IntKind.i64.wrap (7 * (k : Int))) = true := by rw [wrap64 (by omega) (by omega)]; simp; omega
    simp only [decide_eq_true hlt', ibB_of (Int.natCast_nonneg k) hlt', cond_true, ew, em, h7]
    rw [pv] at hq
    by_cases h9 : k = 9 ∧ 1 < c
    · rw [if_pos h9] at hq
      have : ((k : Int) == 9 && decide (1 < c)) = true := by simp [h9.1, h9.2]
      rw [this, ← hq]; rfl
    · rw [if_neg h9] at hq
      have : ((k : Int) == 9 && decide (1 < c)) = false := by
        rw [Bool.eq_false_iff]; intro h
        simp only [Bool.and_eq_true, beq_iff_eq, decide_eq_true_eq] at h
        exact h9 ⟨by omega, h.2⟩
      rw [this]
      simp only [cond_false]
      have hs := shl_part (a := c % 128) (k := k) (by omega) (by omega) hk (fun h => by
        have : ¬ 1 < c := fun h' => h9 ⟨h, h'⟩
        omega)
      have h9' : k = 9 → (c % 128).toNat ≤ 1 := fun h => by
        have : ¬ 1 < c := fun h' => h9 ⟨h, h'⟩
        omega
      have hV := sum_lt hu (a := (c % 128).toNat) (by omega) hk h9'
      rw [hs]
      have ev : IntKind.u64.wrap ((u : Int) + (((c % 128).toNat * 128 ^ k : Nat) : Int)) = ((u + (c % 128).toNat * 128 ^ k : Nat) : Int) := by
        rw [u64_wrap_eq]; omega
      rw [ev]
      generalize hVe : u + (c % 128).toNat * 128 ^ k = v at hV hq ⊢
      have ek : IntKind.i64.wrap ((k : Int) + 1) = (k : Int) + 1 := wrap64 (by omega) (by omega)
      rw [ek]
      by_cases hc : 128 ≤ c
      · have ekk : ((k : Int) + 1).toNat = k + 1 := by omega
        rw [if_pos hc, ekk] at hq
        simp only [decide_eq_true hc, cond_true]
        have hk9 : k ≠ 9 := fun h => h9 ⟨h, by omega⟩
        exact ih ⟨(v : Int), (k : Int) + 1⟩ ⟨k + 1, v, by simp, rfl, by omega, hVe ▸ next_lt hu (by omega), hq⟩ (by simp; omega)
      · rw [if_neg hc] at hq
        have hd128 : decide (128 ≤ c) = false := by simpa using hc
        simp only [hd128, cond_false]
        by_cases hz : c = 0 ∧ 0 < k
        · rw [if_pos hz] at hq
          have : (c == 0 && decide (0 < (k : Int))) = true := by simp [hz.1]; omega
          rw [this, ← hq]; rfl
        · rw [if_neg hz] at hq
          have : (c == 0 && decide (0 < (k : Int))) = false := by
            rw [Bool.eq_false_iff]; intro h
            simp only [Bool.and_eq_true, beq_iff_eq, decide_eq_true_eq] at h
            exact hz ⟨h.1, by omega⟩
          rw [this]
          simp only [cond_false]
          have ec : c.toNat = (c % 128).toNat := by omega
          rw [ec, hVe] at hq
          rw [← hq, Int.tmod_eq_emod_of_nonneg (by omega), Int.tdiv_eq_ediv_of_nonneg (by omega)]
          unfold unzig
          by_cases hodd : v % 2 = 1
          · have : (((v : Int) % 2 == 1)) = true := by simp; omega
            rw [this, if_pos hodd, u64_wrap_eq]
            simp only [cond_true]
            rw [wrap64 (n := ((v : Int) / 2) % 18446744073709551616) (by omega) (by omega), wrap64 (n := 0 - _) (by omega) (by omega), wrap64 (by omega) (by omega)]
            congr 2
            omega
          · have : (((v : Int) % 2 == 1)) = false := by simp; omega
            rw [this, if_neg hodd, u64_wrap_eq]
            simp only [cond_false]
            rw [wrap64 (by omega) (by omega)]
            congr 2
            omega
  · have : decide ((k : Int) < b.length) = false := by simpa using hlt'
    simp only [this, cond_false]
    rw [List.drop_eq_nil_of_le (by omega)] at hq
    rw [← hq, pv]

/-- What was put is read. -/
theorem pv_vint : ∀ (m i u v : Nat) (rest : List Int), v < 128 ^ (m + 1) → i + m ≤ 9 → u < 128 ^ i → u + v * 128 ^ i < 18446744073709551616 → (0 < i → 0 < v) →
    pv i u (vint v ++ rest) = (unzig (u + v * 128 ^ i), (i : Int) + (vint v).length, 0)
  | m, i, u, v, rest, hv, hm, hu, hs, hp => by
    have key : i = 9 → v ≤ 1 := fun h => by
      subst h
      have : v * 128 ^ 9 < 2 * 128 ^ 9 := by
        have : (2 : Nat) * 128 ^ 9 = 18446744073709551616 := by decide
        omega
      have := Nat.lt_of_mul_lt_mul_right this
      omega
    by_cases h : v < 128
    · rw [vint_lt h, List.singleton_append, pv]
      rw [if_neg (fun h' => by have := key h'.1; omega), if_neg (by omega), if_neg (fun h' => by have := hp h'.2; omega)]
      simp
    · rw [vint_ge (by omega), List.cons_append, pv]
      have h9 : i ≠ 9 := fun h' => by have := key h'; omega
      cases m with
      | zero => simp at hv; omega
      | succ m =>
        rw [if_neg (fun h' => h9 h'.1), if_pos (by omega)]
        have e1 : ((((v % 128 + 128 : Nat) : Int)) % 128).toNat = v % 128 := by omega
        have e2 : v % 128 * 128 ^ i + v / 128 * 128 ^ (i + 1) = v * 128 ^ i := by
          rw [Nat.pow_succ, Nat.mul_comm (128 ^ i) 128, ← Nat.mul_assoc, ← Nat.add_mul]
          congr 1; omega
        rw [e1, pv_vint m (i + 1) _ (v / 128) rest (by rw [Nat.div_lt_iff_lt_mul (by decide)]; rw [← Nat.pow_succ]; exact hv) (by omega) (next_lt hu (by omega)) (by omega) (fun _ => by omega)]
        rw [show u + v % 128 * 128 ^ i + v / 128 * 128 ^ (i + 1) = u + v * 128 ^ i by omega]
        simp only [List.length_cons]
        congr 2
        push_cast; omega
theorem unzig_zig (n : Int) : unzig (zig n) = n := by
  unfold unzig zig; split <;> split <;> omega
theorem pv_zig {n : Int} (hn : R64 n) (rest : List Int) : pv 0 0 (vint (zig n) ++ rest) = (n, ((vint (zig n)).length : Int), 0) := by
  have hz := zig_lt hn
  rw [pv_vint 9 0 0 (zig n) rest (Nat.lt_trans hz (by decide)) (by omega) (by simp) (by simpa using hz) (by simp)]
  simp [unzig_zig]
end Go.Proofs.Yticlnhhaaidmaaa
