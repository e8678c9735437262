/-
The bytes of an int: what the program's and the document's functions put.
-/
import Derived.Test.YticlnhhaaidmaaaMa
set_option linter.unusedVariables false
set_option linter.unusedSimpArgs false
namespace Go.Proofs.Yticlnhhaaidmaaa
open Go Go.Ev

/-- The document's bytes of a number: seven bits each, the lowest first. -/
def vint (u : Nat) : List Int := if h : u < 128 then [(u : Int)] else ((u % 128 + 128 : Nat) : Int) :: vint (u / 128)
  termination_by u
  decreasing_by omega
theorem vint_lt {u : Nat} (h : u < 128) : vint u = [(u : Int)] := by rw [vint, dif_pos h]
theorem vint_ge {u : Nat} (h : 128 ≤ u) : vint u = ((u % 128 + 128 : Nat) : Int) :: vint (u / 128) := by rw [vint, dif_neg (by omega)]
theorem vint_len : ∀ (k u : Nat), u < 128 ^ (k + 1) → (vint u).length ≤ k + 1
  | k, u, h => by
    by_cases hu : u < 128
    · rw [vint_lt hu]; simp
    · rw [vint_ge (by omega)]
      cases k with
      | zero => simp at h; omega
      | succ k =>
        have : u / 128 < 128 ^ (k + 1) := by rw [Nat.div_lt_iff_lt_mul (by decide)]; rw [← Nat.pow_succ]; exact h
        have := vint_len k _ this
        simp only [List.length_cons]; omega
theorem vint_len10 {u : Nat} (h : u < 18446744073709551616) : (vint u).length ≤ 10 := vint_len 9 u (Nat.lt_trans h (by decide))
theorem vint_pos (u : Nat) : 1 ≤ (vint u).length := by rw [vint]; split <;> simp
theorem vint_byte : ∀ (k u : Nat), u < 128 ^ (k + 1) → ∀ b ∈ vint u, byteR b
  | k, u, h, b, hb => by
    by_cases hu : u < 128
    · rw [vint_lt hu] at hb; simp at hb; subst hb; exact ⟨by omega, by omega⟩
    · rw [vint_ge (by omega)] at hb
      rcases List.mem_cons.1 hb with rfl | hb
      · exact ⟨by omega, by omega⟩
      · cases k with
        | zero => simp at h; omega
        | succ k =>
          have : u / 128 < 128 ^ (k + 1) := by rw [Nat.div_lt_iff_lt_mul (by decide)]; rw [← Nat.pow_succ]; exact h
          exact vint_byte k _ this b hb

def zig (n : Int) : Nat := if n < 0 then (-2 * n - 1).toNat else (2 * n).toNat
def R64 (n : Int) : Prop := -9223372036854775808 ≤ n ∧ n ≤ 9223372036854775807
theorem zig_lt {n : Int} (h : R64 n) : zig n < 18446744073709551616 := by have h1 := h.1; have h2 := h.2; unfold zig; split <;> omega
theorem zig_inj {a b : Int} (h : zig a = zig b) : a = b := by unfold zig at h; split at h <;> split at h <;> omega

theorem nat_xor_max {x : Nat} (h : x < 18446744073709551616) : 18446744073709551615 ^^^ x = 18446744073709551615 - x := by
  have e1 : 18446744073709551615 = 2 ^ 64 - 1 := by decide
  have e2 : 18446744073709551615 - x = 2 ^ 64 - (x + 1) := by omega
  rw [e2, e1]
  refine Nat.eq_of_testBit_eq fun i => ?_
  rw [Nat.testBit_xor, Nat.testBit_two_pow_sub_one, Nat.testBit_two_pow_sub_succ (by omega)]
  by_cases hi : i < 64
  · simp [hi]
  · have : x.testBit i = false := Nat.testBit_lt_two_pow (Nat.lt_of_lt_of_le (show x < 2 ^ 64 by omega) (Nat.pow_le_pow_right (by decide) (by omega)))
    simp [hi, this]
theorem xor64_max {x : Int} (h0 : 0 ≤ x) (h : x < 18446744073709551616) : bits .xor .u64 IntKind.u64.max x = 18446744073709551615 - x := by
  rw [u64_xor _ x (by decide) (by decide) h0 h]
  rw [show IntKind.u64.max.toNat = 18446744073709551615 from rfl, nat_xor_max (by omega)]
  omega
theorem shl64_one (a : Int) : shl .u64 a 1 = (a * 2) % 18446744073709551616 := by
  simp only [shl, IntKind.bits]
  rw [show (min (1 : Int).toNat 64) = 1 from rfl]
  simp [IntKind.wrap, IntKind.bits, IntKind.signed]
theorem shr64 {a : Int} {k : Nat} (hk : k < 64) : shr .u64 a (k : Int) = a / (2 ^ k : Nat) := by
  simp only [shr, IntKind.bits]
  rw [show (min (k : Int).toNat 64) = k by omega, Int.fdiv_eq_ediv_of_nonneg _ (by exact Int.pow_nonneg (by decide))]
  simp
theorem u64_wrap_eq (n : Int) : IntKind.u64.wrap n = n % 18446744073709551616 := by simp [IntKind.wrap, IntKind.bits, IntKind.signed]
theorem u8_wrap_eq (n : Int) : IntKind.u8.wrap n = n % 256 := by simp [IntKind.wrap, IntKind.bits, IntKind.signed]
theorem or128 : ∀ x : Fin 256, x.val ||| 128 = x.val % 128 + 128 := by decide +kernel
theorem or8_128 (u : Int) (h : 0 ≤ u) : bits .or .u8 (IntKind.u8.wrap u) 128 = u % 128 + 128 := by
  rw [u8_wrap_eq, u8_or _ _ (by omega) (by omega) (by decide) (by decide)]
  have := or128 ⟨(u % 256).toNat, by omega⟩
  simp only at this
  rw [show (128 : Int).toNat = 128 from rfl, this]
  omega

theorem loop49 {N : Nat} (hN : 11 ≤ N) {u : Int} (h0 : 0 ≤ u) (h1 : u < 18446744073709551616) : iter N (fun (s1 : S49x5) next2 =>
     (bif (decide (128 ≤ s1.u)) then
     (bif (lenB ((s1.b).length + ([(bits .or .u8 (IntKind.u8.wrap s1.u) 128)]).length) 1) then
     (next2 ⟨(shr .u64 s1.u 7), (s1.b ++ [(bits .or .u8 (IntKind.u8.wrap s1.u) 128)])⟩)
     else none)
     else
     (bif (lenB ((s1.b).length + ([(IntKind.u8.wrap s1.u)]).length) 1) then
     (some (s1.b ++ [(IntKind.u8.wrap s1.u)]))
     else none))) ⟨u, []⟩ = some (vint u.toNat) := by
  refine iter_run (fun q : S49x5 => 0 ≤ q.u ∧ q.u < 18446744073709551616 ∧ q.b ++ vint q.u.toNat = vint u.toNat) (fun q => (vint q.u.toNat).length) ?_ N _ ⟨h0, h1, by simp⟩ (by have := vint_len10 (u := u.toNat) (by omega); simp only; omega)
  rintro ⟨q, b⟩ nx ⟨g0, g1, hq⟩ ih
  simp only at g0 g1 hq ih ⊢
  have hlen := congrArg List.length hq
  have hv := vint_len10 (u := u.toNat) (by omega)
  rw [List.length_append] at hlen
  rw [lenB_of (by simp; omega), lenB_of (by simp; omega)]
  by_cases h : 128 ≤ q
  · simp only [decide_eq_true h, cond_true, or8_128 q g0]
    have e7 : shr .u64 q 7 = q / 128 := shr64 (k := 7) (by decide)
    rw [e7]
    have hge := vint_ge (u := q.toNat) (by omega)
    have ed : (q / 128).toNat = q.toNat / 128 := by omega
    refine ih ⟨q / 128, b ++ [q % 128 + 128]⟩ ⟨by simp; omega, by simp; omega, ?_⟩ ?_
    · simp only
      have ec : ((q.toNat % 128 + 128 : Nat) : Int) = q % 128 + 128 := by omega
      rw [ed, ← hq, hge, List.append_assoc, ec]
      rfl
    · simp only; rw [ed, hge]; simp
  · have hd : decide (128 ≤ q) = false := by simpa using h
    simp only [hd, cond_false, cond_true]
    rw [← hq, vint_lt (u := q.toNat) (by omega), u8_wrap_eq]
    congr 3
    omega
theorem F49_eq {N : Nat} (hN : 11 ≤ N) {n : Int} (hn : R64 n) : F49 N n = some (vint (zig n)) := by
  have h1 := hn.1; have h2 := hn.2
  unfold F49
  by_cases h : n < 0
  · simp only [decide_eq_true h, cond_true]
    have e : bits .xor .u64 IntKind.u64.max (shl .u64 (IntKind.u64.wrap n) 1) = -2 * n - 1 := by
      rw [shl64_one, u64_wrap_eq, xor64_max (by omega) (by omega)]; omega
    rw [e, loop49 hN (by omega) (by omega)]
    simp only [zig, if_pos h]
  · have hd : decide (n < 0) = false := by simpa using h
    simp only [hd, cond_false]
    have e : shl .u64 (IntKind.u64.wrap n) 1 = 2 * n := by rw [shl64_one, u64_wrap_eq]; omega
    rw [e, loop49 hN (by omega) (by omega)]
    simp only [zig, if_neg h]

theorem loop41 {N : Nat} (hN : 11 ≤ N) {u : Int} (h0 : 0 ≤ u) (h1 : u < 18446744073709551616) : iter N (fun (s1 : S41x5) next2 =>
     (bif (decide (128 ≤ s1.u)) then
     (bif (lenB ((s1.b).length + ([(IntKind.u8.wrap ((IntKind.u8.wrap (Int.tmod s1.u 128)) + 128))]).length) 1) then
     (next2 ⟨(IntKind.u64.wrap (Int.tdiv s1.u 128)), (s1.b ++ [(IntKind.u8.wrap ((IntKind.u8.wrap (Int.tmod s1.u 128)) + 128))])⟩)
     else none)
     else
     (bif (lenB ((s1.b).length + ([(IntKind.u8.wrap s1.u)]).length) 1) then
     (some (s1.b ++ [(IntKind.u8.wrap s1.u)]))
     else none))) ⟨u, []⟩ = some (vint u.toNat) := by
  refine iter_run (fun q : S41x5 => 0 ≤ q.u ∧ q.u < 18446744073709551616 ∧ q.b ++ vint q.u.toNat = vint u.toNat) (fun q => (vint q.u.toNat).length) ?_ N _ ⟨h0, h1, by simp⟩ (by have := vint_len10 (u := u.toNat) (by omega); simp only; omega)
  rintro ⟨q, b⟩ nx ⟨g0, g1, hq⟩ ih
  simp only at g0 g1 hq ih ⊢
  have hlen := congrArg List.length hq
  have hv := vint_len10 (u := u.toNat) (by omega)
  rw [List.length_append] at hlen
  rw [lenB_of (by simp; omega), lenB_of (by simp; omega)]
  by_cases h : 128 ≤ q
  · simp only [decide_eq_true h, cond_true]
    have e7 : IntKind.u64.wrap (Int.tdiv q 128) = q / 128 := by rw [Int.tdiv_eq_ediv_of_nonneg g0, u64_wrap_eq]; omega
    have e8 : IntKind.u8.wrap (IntKind.u8.wrap (Int.tmod q 128) + 128) = q % 128 + 128 := by rw [Int.tmod_eq_emod_of_nonneg g0, u8_wrap_eq, u8_wrap_eq]; omega
    rw [e7, e8]
    have hge := vint_ge (u := q.toNat) (by omega)
    have ed : (q / 128).toNat = q.toNat / 128 := by omega
    refine ih ⟨q / 128, b ++ [q % 128 + 128]⟩ ⟨by simp; omega, by simp; omega, ?_⟩ ?_
    · simp only
      have ec : ((q.toNat % 128 + 128 : Nat) : Int) = q % 128 + 128 := by omega
      rw [ed, ← hq, hge, List.append_assoc, ec]
      rfl
    · simp only; rw [ed, hge]; simp
  · have hd : decide (128 ≤ q) = false := by simpa using h
    simp only [hd, cond_false, cond_true]
    rw [← hq, vint_lt (u := q.toNat) (by omega), u8_wrap_eq]
    congr 3
    omega
theorem F41_eq {N : Nat} (hN : 11 ≤ N) {n : Int} (hn : R64 n) : F41 N n = some (vint (zig n)) := by
  have h1 := hn.1; have h2 := hn.2
  unfold F41
  by_cases h : n < 0
  · simp only [decide_eq_true h, cond_true]
    have e : IntKind.u64.wrap (IntKind.u64.wrap (IntKind.u64.wrap (IntKind.i64.wrap (0 - IntKind.i64.wrap (n + 1))) * 2) + 1) = -2 * n - 1 := by
      rw [wrap64 (n := n + 1) (by omega) (by omega), wrap64 (by omega) (by omega), u64_wrap_eq, u64_wrap_eq, u64_wrap_eq]; omega
    rw [e, loop41 hN (by omega) (by omega)]
    simp only [zig, if_pos h]
  · have hd : decide (n < 0) = false := by simpa using h
    simp only [hd, cond_false]
    have e : IntKind.u64.wrap (IntKind.u64.wrap n * 2) = 2 * n := by rw [u64_wrap_eq, u64_wrap_eq]; omega
    rw [e, loop41 hN (by omega) (by omega)]
    simp only [zig, if_neg h]
end Go.Proofs.Yticlnhhaaidmaaa
