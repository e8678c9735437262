/-
Plain laws of another seat, turned to this one by wip/tools/ren2.py.
-/
import Derived.Test.YticlnhhaaidmaaaqFo
import Derived.Test.YticlnhhaaidmaaaqTvT
import Derived.Test.YticlnhhaaidmaaaqRd
import Derived.Test.YticlnhhaaidmaaaqTvT
import Derived.Laws.BitsAllLaws
set_option linter.unusedVariables false
set_option linter.unusedSimpArgs false
namespace Go.Proofs.Yticlnhhaaidmaaa
open Go Go.Ev
def byteR (b : Int) : Prop := 0 ≤ b ∧ b ≤ 255
def vint (u : Nat) : List Int := if h : u < 128 then [(u : Int)] else ((u % 128 + 128 : Nat) : Int) :: vint (u / 128)
  termination_by u
  decreasing_by omega
theorem vint_lt {u : Nat} (h : u < 128) : vint u = [(u : Int)] := by rw [vint, dif_pos h]
theorem vint_ge {u : Nat} (h : 128 ≤ u) : vint u = ((u % 128 + 128 : Nat) : Int) :: vint (u / 128) := by rw [vint, dif_neg (by omega)]
theorem vint_len : ∀ (k u : Nat), u < 128 ^ (k + 1) → (vint u).length ≤ k + 1
  | k, u, h => by
    by_cases hu : u < 128
    · rw [vint_lt hu]; simp
    · rw [vint_ge (by omega)]
      cases k with
      | zero => simp at h; omega
      | succ k =>
        have : u / 128 < 128 ^ (k + 1) := by rw [Nat.div_lt_iff_lt_mul (by decide)]; rw [← Nat.pow_succ]; exact h
        have := vint_len k _ this
        simp only [List.length_cons]; omega
theorem vint_len10 {u : Nat} (h : u < 18446744073709551616) : (vint u).length ≤ 10 := vint_len 9 u (Nat.lt_trans h (by decide))
theorem vint_byte : ∀ (k u : Nat), u < 128 ^ (k + 1) → ∀ b ∈ vint u, byteR b
  | k, u, h, b, hb => by
    by_cases hu : u < 128
    · rw [vint_lt hu] at hb; simp at hb; subst hb; exact ⟨by omega, by omega⟩
    · rw [vint_ge (by omega)] at hb
      rcases List.mem_cons.1 hb with rfl | hb
      · exact ⟨by omega, by omega⟩
      · cases k with
        | zero => simp at h; omega
        | succ k =>
          have : u / 128 < 128 ^ (k + 1) := by rw [Nat.div_lt_iff_lt_mul (by decide)]; rw [← Nat.pow_succ]; exact h
          exact vint_byte k _ this b hb
def zig (n : Int) : Nat := if n < 0 then (-2 * n - 1).toNat else (2 * n).toNat
def R64 (n : Int) : Prop := -9223372036854775808 ≤ n ∧ n ≤ 9223372036854775807
theorem zig_lt {n : Int} (h : R64 n) : zig n < 18446744073709551616 := by have h1 := h.1; have h2 := h.2; unfold zig; split <;> omega
theorem nat_xor_max {x : Nat} (h : x < 18446744073709551616) : 18446744073709551615 ^^^ x = 18446744073709551615 - x := by
  have e1 : 18446744073709551615 = 2 ^ 64 - 1 := by decide
  have e2 : 18446744073709551615 - x = 2 ^ 64 - (x + 1) := by omega
  rw [e2, e1]
  refine Nat.eq_of_testBit_eq fun i => ?_
  rw [Nat.testBit_xor, Nat.testBit_two_pow_sub_one, Nat.testBit_two_pow_sub_succ (by omega)]
  by_cases hi : i < 64
  · simp [hi]
  · have : x.testBit i = false := Nat.testBit_lt_two_pow (Nat.lt_of_lt_of_le (show x < 2 ^ 64 by omega) (Nat.pow_le_pow_right (by decide) (by omega)))
    simp [hi, this]
theorem xor64_max {x : Int} (h0 : 0 ≤ x) (h : x < 18446744073709551616) : bits .xor .u64 IntKind.u64.max x = 18446744073709551615 - x := by
  rw [u64_xor _ x (by decide) (by decide) h0 h]
  rw [show IntKind.u64.max.toNat = 18446744073709551615 from rfl, nat_xor_max (by omega)]
  omega
theorem shl64_one (a : Int) : shl .u64 a 1 = (a * 2) % 18446744073709551616 := by
  simp only [shl, IntKind.bits]
  rw [show (min (1 : Int).toNat 64) = 1 from rfl]
  simp [IntKind.wrap, IntKind.bits, IntKind.signed]
theorem shr64 {a : Int} {k : Nat} (hk : k < 64) : shr .u64 a (k : Int) = a / (2 ^ k : Nat) := by
  simp only [shr, IntKind.bits]
  rw [show (min (k : Int).toNat 64) = k by omega, Int.fdiv_eq_ediv_of_nonneg _ (by exact Int.pow_nonneg (by decide))]
  simp
theorem u64_wrap_eq (n : Int) : IntKind.u64.wrap n = n % 18446744073709551616 := by simp [IntKind.wrap, IntKind.bits, IntKind.signed]
theorem u8_wrap_eq (n : Int) : IntKind.u8.wrap n = n % 256 := by simp [IntKind.wrap, IntKind.bits, IntKind.signed]
theorem or128 : ∀ x : Fin 256, x.val ||| 128 = x.val % 128 + 128 := by decide +kernel
theorem or8_128 (u : Int) (h : 0 ≤ u) : bits .or .u8 (IntKind.u8.wrap u) 128 = u % 128 + 128 := by
  rw [u8_wrap_eq, u8_or _ _ (by omega) (by omega) (by decide) (by decide)]
  have := or128 ⟨(u % 256).toNat, by omega⟩
  simp only at this
  rw [show (128 : Int).toNat = 128 from rfl, this]
  omega
theorem loop49 {N : Nat} (hN : 11 ≤ N) {u : Int} (h0 : 0 ≤ u) (h1 : u < 18446744073709551616) : iter N (fun (s1 : Swire_numberx5) next2 =>
     (bif (decide (128 ≤ s1.u)) then
     (bif (lenB ((s1.b).length + ([(bits .or .u8 (IntKind.u8.wrap s1.u) 128)]).length) 1) then
     (next2 ⟨(shr .u64 s1.u 7), (s1.b ++ [(bits .or .u8 (IntKind.u8.wrap s1.u) 128)])⟩)
     else none)
     else
     (bif (lenB ((s1.b).length + ([(IntKind.u8.wrap s1.u)]).length) 1) then
     (some (s1.b ++ [(IntKind.u8.wrap s1.u)]))
     else none))) ⟨u, []⟩ = some (vint u.toNat) := by
  refine iter_run (fun q : Swire_numberx5 => 0 ≤ q.u ∧ q.u < 18446744073709551616 ∧ q.b ++ vint q.u.toNat = vint u.toNat) (fun q => (vint q.u.toNat).length) ?_ N _ ⟨h0, h1, by simp⟩ (by have := vint_len10 (u := u.toNat) (by omega); simp only; omega)
  rintro ⟨q, b⟩ nx ⟨g0, g1, hq⟩ ih
  simp only at g0 g1 hq ih ⊢
  have hlen := congrArg List.length hq
  have hv := vint_len10 (u := u.toNat) (by omega)
  rw [List.length_append] at hlen
  rw [lenB_of (by simp; omega), lenB_of (by simp; omega)]
  by_cases h : 128 ≤ q
  · simp only [decide_eq_true h, cond_true, or8_128 q g0]
    have e7 : shr .u64 q 7 = q / 128 := shr64 (k := 7) (by decide)
    rw [e7]
    have hge := vint_ge (u := q.toNat) (by omega)
    have ed : (q / 128).toNat = q.toNat / 128 := by omega
    refine ih ⟨q / 128, b ++ [q % 128 + 128]⟩ ⟨by simp; omega, by simp; omega, ?_⟩ ?_
    · simp only
      have ec : ((q.toNat % 128 + 128 : Nat) : Int) = q % 128 + 128 := by omega
      rw [ed, ← hq, hge, List.append_assoc, ec]
      rfl
    · simp only; rw [ed, hge]; simp
  · have hd : decide (128 ≤ q) = false := by simpa using h
    simp only [hd, cond_false, cond_true]
    rw [← hq, vint_lt (u := q.toNat) (by omega), u8_wrap_eq]
    congr 3
    omega
theorem F49_eq {N : Nat} (hN : 11 ≤ N) {n : Int} (hn : R64 n) : Fwire_number N n = some (vint (zig n)) := by
  have h1 := hn.1; have h2 := hn.2
  unfold Fwire_number
  by_cases h : n < 0
  · simp only [decide_eq_true h, cond_true]
    have e : bits .xor .u64 IntKind.u64.max (shl .u64 (IntKind.u64.wrap n) 1) = -2 * n - 1 := by
      rw [shl64_one, u64_wrap_eq, xor64_max (by omega) (by omega)]; omega
    rw [e, loop49 hN (by omega) (by omega)]
    simp only [zig, if_pos h]
  · have hd : decide (n < 0) = false := by simpa using h
    simp only [hd, cond_false]
    have e : shl .u64 (IntKind.u64.wrap n) 1 = 2 * n := by rw [shl64_one, u64_wrap_eq]; omega
    rw [e, loop49 hN (by omega) (by omega)]
    simp only [zig, if_neg h]
theorem loop41 {N : Nat} (hN : 11 ≤ N) {u : Int} (h0 : 0 ≤ u) (h1 : u < 18446744073709551616) : iter N (fun (s1 : Sref01_Intx5) next2 =>
     (bif (decide (128 ≤ s1.u)) then
     (bif (lenB ((s1.b).length + ([(IntKind.u8.wrap ((IntKind.u8.wrap (Int.tmod s1.u 128)) + 128))]).length) 1) then
     (next2 ⟨(IntKind.u64.wrap (Int.tdiv s1.u 128)), (s1.b ++ [(IntKind.u8.wrap ((IntKind.u8.wrap (Int.tmod s1.u 128)) + 128))])⟩)
     else none)
     else
     (bif (lenB ((s1.b).length + ([(IntKind.u8.wrap s1.u)]).length) 1) then
     (some (s1.b ++ [(IntKind.u8.wrap s1.u)]))
     else none))) ⟨u, []⟩ = some (vint u.toNat) := by
  refine iter_run (fun q : Sref01_Intx5 => 0 ≤ q.u ∧ q.u < 18446744073709551616 ∧ q.b ++ vint q.u.toNat = vint u.toNat) (fun q => (vint q.u.toNat).length) ?_ N _ ⟨h0, h1, by simp⟩ (by have := vint_len10 (u := u.toNat) (by omega); simp only; omega)
  rintro ⟨q, b⟩ nx ⟨g0, g1, hq⟩ ih
  simp only at g0 g1 hq ih ⊢
  have hlen := congrArg List.length hq
  have hv := vint_len10 (u := u.toNat) (by omega)
  rw [List.length_append] at hlen
  rw [lenB_of (by simp; omega), lenB_of (by simp; omega)]
  by_cases h : 128 ≤ q
  · simp only [decide_eq_true h, cond_true]
    have e7 : IntKind.u64.wrap (Int.tdiv q 128) = q / 128 := by rw [Int.tdiv_eq_ediv_of_nonneg g0, u64_wrap_eq]; omega
    have e8 : IntKind.u8.wrap (IntKind.u8.wrap (Int.tmod q 128) + 128) = q % 128 + 128 := by rw [Int.tmod_eq_emod_of_nonneg g0, u8_wrap_eq, u8_wrap_eq]; omega
    rw [e7, e8]
    have hge := vint_ge (u := q.toNat) (by omega)
    have ed : (q / 128).toNat = q.toNat / 128 := by omega
    refine ih ⟨q / 128, b ++ [q % 128 + 128]⟩ ⟨by simp; omega, by simp; omega, ?_⟩ ?_
    · simp only
      have ec : ((q.toNat % 128 + 128 : Nat) : Int) = q % 128 + 128 := by omega
      rw [ed, ← hq, hge, List.append_assoc, ec]
      rfl
    · simp only; rw [ed, hge]; simp
  · have hd : decide (128 ≤ q) = false := by simpa using h
    simp only [hd, cond_false, cond_true]
    rw [← hq, vint_lt (u := q.toNat) (by omega), u8_wrap_eq]
    congr 3
    omega
theorem F41_eq {N : Nat} (hN : 11 ≤ N) {n : Int} (hn : R64 n) : Fref01_Int N n = some (vint (zig n)) := by
  have h1 := hn.1; have h2 := hn.2
  unfold Fref01_Int
  by_cases h : n < 0
  · simp only [decide_eq_true h, cond_true]
    have e : IntKind.u64.wrap (IntKind.u64.wrap (IntKind.u64.wrap (IntKind.i64.wrap (0 - IntKind.i64.wrap (n + 1))) * 2) + 1) = -2 * n - 1 := by
      rw [wrap64 (n := n + 1) (by omega) (by omega), wrap64 (by omega) (by omega), u64_wrap_eq, u64_wrap_eq, u64_wrap_eq]; omega
    rw [e, loop41 hN (by omega) (by omega)]
    simp only [zig, if_pos h]
  · have hd : decide (n < 0) = false := by simpa using h
    simp only [hd, cond_false]
    have e : IntKind.u64.wrap (IntKind.u64.wrap n * 2) = 2 * n := by rw [u64_wrap_eq, u64_wrap_eq]; omega
    rw [e, loop41 hN (by omega) (by omega)]
    simp only [zig, if_neg h]
def unzig (u : Nat) : Int := if u % 2 = 1 then -((u / 2 : Nat) : Int) - 1 else ((u / 2 : Nat) : Int)
def pv : Nat → Nat → List Int → Int × Int × Int
  | _, _, [] => (0, 0, 10)
  | i, u, x :: r => if i = 9 ∧ 1 < x then (0, 0, 11) else if 128 ≤ x then pv (i + 1) (u + (x % 128).toNat * 128 ^ i) r else if x = 0 ∧ 0 < i then (0, 0, 11) else (unzig (u + x.toNat * 128 ^ i), (i : Int) + 1, 0)
theorem pow128 {k : Nat} (hk : k ≤ 9) : 128 ^ k ≤ 9223372036854775808 := by
  have : 128 ^ k ≤ 128 ^ 9 := Nat.pow_le_pow_right (by decide) hk
  exact Nat.le_trans this (by decide)
theorem part_lt {a k : Nat} (ha : a < 128) (hk : k ≤ 9) (h9 : k = 9 → a ≤ 1) : a * 128 ^ k ≤ 9223372036854775808 := by
  by_cases h : k = 9
  · subst h
    have : a * 128 ^ 9 ≤ 1 * 128 ^ 9 := Nat.mul_le_mul_right _ (h9 rfl)
    exact Nat.le_trans this (by decide)
  · have h1 : a * 128 ^ k ≤ 128 * 128 ^ k := Nat.mul_le_mul_right _ (by omega)
    have h2 : 128 * 128 ^ k = 128 ^ (k + 1) := by rw [Nat.pow_succ, Nat.mul_comm]
    exact Nat.le_trans (h2 ▸ h1) (pow128 (by omega))
theorem shl_part {a : Int} {k : Nat} (h0 : 0 ≤ a) (ha : a < 128) (hk : k ≤ 9) (h9 : k = 9 → a ≤ 1) : shl .u64 a (IntKind.i64.wrap (7 * (k : Int))) = ((a.toNat * 128 ^ k : Nat) : Int) := by
  rw [wrap64 (by omega) (by omega)]
  simp only [shl, IntKind.bits]
  rw [show (min (7 * (k : Int)).toNat 64) = 7 * k by omega, u64_wrap_eq]
  have hp := part_lt (a := a.toNat) (by omega) hk (fun h => by have := h9 h; omega)
  have e : a * 2 ^ (7 * k) = ((a.toNat * 128 ^ k : Nat) : Int) := by
    have e2 : (128 : Nat) ^ k = 2 ^ (7 * k) := by rw [Nat.pow_mul]
    rw [e2]
    push_cast
    rw [Int.toNat_of_nonneg h0]
  rw [e]
  omega
theorem or_part {u a k : Nat} (hu : u < 128 ^ k) (hk : k ≤ 9) (ha : a * 128 ^ k ≤ 9223372036854775808) : bits .or .u64 (u : Int) ((a * 128 ^ k : Nat) : Int) = ((u + a * 128 ^ k : Nat) : Int) := by
  have hp := pow128 hk
  rw [u64_or _ _ (by omega) (by omega) (by omega) (by omega)]
  have e2 : (128 : Nat) ^ k = 2 ^ (7 * k) := by rw [Nat.pow_mul]
  have := nat_join (7 * k) (a * 128 ^ k) u (by rw [e2]; exact Nat.mul_mod_left _ _) (by rw [← e2]; exact hu)
  rw [Int.toNat_natCast, Int.toNat_natCast, Nat.or_comm, this]
  omega
theorem and8_127 {c : Int} (h : byteR c) : bits .and .u8 c 127 = c % 128 := by
  have h0 := h.1; have h1 := h.2
  rw [u8_and c 127 h0 (by omega) (by decide) (by decide), show (127 : Int).toNat = 127 from rfl, nat_mask7]
  omega
theorem and64_one {v : Nat} (h : v < 18446744073709551616) : bits .and .u64 (v : Int) 1 = ((v % 2 : Nat) : Int) := by
  rw [u64_and _ 1 (by omega) (by omega) (by decide) (by decide), show (1 : Int).toNat = 1 from rfl, Int.toNat_natCast, nat_mask1]
theorem shr64_one (v : Nat) : shr .u64 (v : Int) 1 = ((v / 2 : Nat) : Int) := by
  have := shr64 (a := (v : Int)) (k := 1) (by decide)
  rw [show ((1 : Nat) : Int) = 1 from rfl] at this
  rw [this]; omega
theorem sum_lt {u a k : Nat} (hu : u < 128 ^ k) (ha : a < 128) (hk : k ≤ 9) (h9 : k = 9 → a ≤ 1) : u + a * 128 ^ k < 18446744073709551616 := by
  have := part_lt ha hk h9
  have := pow128 hk
  omega
theorem next_lt {u a k : Nat} (hu : u < 128 ^ k) (ha : a < 128) : u + a * 128 ^ k < 128 ^ (k + 1) := by
  have : a * 128 ^ k ≤ 127 * 128 ^ k := Nat.mul_le_mul_right _ (by omega)
  rw [Nat.pow_succ]; omega
theorem F45_eq {N : Nat} (hN : 11 ≤ N) {b : List Int} (hl : b.length ≤ 9223372036854775807) (hb : ∀ x ∈ b, byteR x) : Fwire_parse N b = some (pv 0 0 b) := by
  unfold Fwire_parse
  refine iter_run (fun q : Swire_parsex3 => ∃ k u : Nat, q.t8 = k ∧ q.u = u ∧ k ≤ 9 ∧ u < 128 ^ k ∧ pv k u (b.drop k) = pv 0 0 b) (fun q => (9 - q.t8).toNat) ?_ N _ ⟨0, 0, rfl, rfl, by omega, by simp, rfl⟩ (by simp; omega)
  rintro ⟨u', i'⟩ nx ⟨k, u, rfl, rfl, hk, hu, hq⟩ ih
  simp only at ih ⊢
  have hk10 : decide ((k : Int) < 10) = true := by simp; omega
  simp only [hk10, cond_true, Bool.cond_decide]
  split
  · rename_i hend
    rw [List.drop_eq_nil_of_le (by omega)] at hq
    rw [← hq, pv]
  · rename_i hlt
    have hlt' : (k : Int) < b.length := by omega
    have hd := lget_drop (default : Int) (Int.natCast_nonneg k) hlt'
    have hmem := hb _ (lget_mem (default : Int) (Int.natCast_nonneg k) hlt')
    rw [Int.toNat_natCast] at hd
    rw [hd] at hq
    generalize lget b (k : Int) default = c at hq hmem hd ⊢
    have h0 := hmem.1; have h1 := hmem.2
    rw [ibB_of (Int.natCast_nonneg k) hlt', and8_127 hmem]
    simp only [cond_true]
    rw [pv] at hq
    by_cases hform : (((k : Int) == 9) && decide (1 < c) || (c == 0) && decide (0 < (k : Int))) = true
    · rw [hform]
      simp only [cond_true]
      rw [← hq]
      simp only [Bool.or_eq_true, Bool.and_eq_true, beq_iff_eq, decide_eq_true_eq] at hform
      rcases hform with ⟨a1, a2⟩ | ⟨a1, a2⟩
      · rw [if_pos ⟨by omega, a2⟩]
      · by_cases h9 : k = 9 ∧ 1 < c
        · rw [if_pos h9]
        · rw [if_neg h9, if_neg (by omega), if_pos ⟨a1, by omega⟩]
    · have hf : (((k : Int) == 9) && decide (1 < c) || (c == 0) && decide (0 < (k : Int))) = false := by simpa using hform
      rw [hf]
      simp only [cond_false]
      have n1 : ¬ (k = 9 ∧ 1 < c) := fun h => hform (by simp [h.1, h.2])
      have n2 : ¬ (c = 0 ∧ 0 < k) := fun h => hform (by simp [h.1]; omega)
      rw [if_neg n1] at hq
      have h7 : 0 ≤ IntKind.i64.wrap (7 * (k : Int)) := by rw [wrap64 (by omega) (by omega)]; omega
      rw [if_pos h7]
      have e0 : IntKind.u64.wrap (c % 128) = c % 128 := by rw [u64_wrap_eq]; omega
      have hs := shl_part (a := c % 128) (k := k) (by omega) (by omega) hk (fun h => by
        have : ¬ 1 < c := fun h' => n1 ⟨h, h'⟩
        omega)
      have h9' : k = 9 → (c % 128).toNat ≤ 1 := fun h => by
        have : ¬ 1 < c := fun h' => n1 ⟨h, h'⟩
        omega
      have ho := or_part hu hk (part_lt (a := (c % 128).toNat) (by omega) hk h9')
      have hV := sum_lt hu (a := (c % 128).toNat) (by omega) hk h9'
      rw [e0, hs, ho]
      generalize hVe : u + (c % 128).toNat * 128 ^ k = v at hV hq ⊢
      split
      · rename_i hc
        rw [if_neg (by omega), if_neg n2] at hq
        have ec : c.toNat = (c % 128).toNat := by omega
        rw [ec, hVe] at hq
        rw [← hq, and64_one hV, shr64_one]
        have ek : IntKind.i64.wrap ((k : Int) + 1) = (k : Int) + 1 := wrap64 (by omega) (by omega)
        rw [ek]
        unfold unzig
        by_cases hodd : v % 2 = 1
        · rw [hodd, if_pos rfl]
          rw [xor64_max (by omega) (by omega)]
          have : IntKind.i64.wrap (18446744073709551615 - ((v / 2 : Nat) : Int)) = -((v / 2 : Nat) : Int) - 1 := by
            rw [IntKind.wrap]
            simp [IntKind.bits, IntKind.signed]
            split <;> omega
          rw [this]; rfl
        · have he : v % 2 = 0 := by omega
          rw [he, if_neg (by omega)]
          simp only [show (((0 : Nat) : Int) == 1) = false from rfl, cond_false]
          rw [wrap64 (by omega) (by omega)]
      · rename_i hc
        have ekk : ((k : Int) + 1).toNat = k + 1 := by omega
        rw [if_pos (by omega), ekk] at hq
        rw [wrap64 (n := (k : Int) + 1) (by omega) (by omega)]
        have hk9 : k ≠ 9 := fun h => n1 ⟨h, by omega⟩
        exact ih ⟨(v : Int), (k : Int) + 1⟩ ⟨k + 1, v, by simp, rfl, by omega, hVe ▸ next_lt hu (by omega), hq⟩ (by simp; omega)
theorem pv_vint : ∀ (m i u v : Nat) (rest : List Int), v < 128 ^ (m + 1) → i + m ≤ 9 → u < 128 ^ i → u + v * 128 ^ i < 18446744073709551616 → (0 < i → 0 < v) →
    pv i u (vint v ++ rest) = (unzig (u + v * 128 ^ i), (i : Int) + (vint v).length, 0)
  | m, i, u, v, rest, hv, hm, hu, hs, hp => by
    have key : i = 9 → v ≤ 1 := fun h => by
      subst h
      have : v * 128 ^ 9 < 2 * 128 ^ 9 := by
        have : (2 : Nat) * 128 ^ 9 = 18446744073709551616 := by decide
        omega
      have := Nat.lt_of_mul_lt_mul_right this
      omega
    by_cases h : v < 128
    · rw [vint_lt h, List.singleton_append, pv]
      rw [if_neg (fun h' => by have := key h'.1; omega), if_neg (by omega), if_neg (fun h' => by have := hp h'.2; omega)]
      simp
    · rw [vint_ge (by omega), List.cons_append, pv]
      have h9 : i ≠ 9 := fun h' => by have := key h'; omega
      cases m with
      | zero => simp at hv; omega
      | succ m =>
        rw [if_neg (fun h' => h9 h'.1), if_pos (by omega)]
        have e1 : ((((v % 128 + 128 : Nat) : Int)) % 128).toNat = v % 128 := by omega
        have e2 : v % 128 * 128 ^ i + v / 128 * 128 ^ (i + 1) = v * 128 ^ i := by
          rw [Nat.pow_succ, Nat.mul_comm (128 ^ i) 128, ← Nat.mul_assoc, ← Nat.add_mul]
          congr 1; omega
        rw [e1, pv_vint m (i + 1) _ (v / 128) rest (by rw [Nat.div_lt_iff_lt_mul (by decide)]; rw [← Nat.pow_succ]; exact hv) (by omega) (next_lt hu (by omega)) (by omega) (fun _ => by omega)]
        rw [show u + v % 128 * 128 ^ i + v / 128 * 128 ^ (i + 1) = u + v * 128 ^ i by omega]
        simp only [List.length_cons]
        congr 2
        push_cast; omega
theorem unzig_zig (n : Int) : unzig (zig n) = n := by
  unfold unzig zig; split <;> split <;> omega
theorem pv_zig {n : Int} (hn : R64 n) (rest : List Int) : pv 0 0 (vint (zig n) ++ rest) = (n, ((vint (zig n)).length : Int), 0) := by
  have hz := zig_lt hn
  rw [pv_vint 9 0 0 (zig n) rest (Nat.lt_trans hz (by decide)) (by omega) (by simp) (by simpa using hz) (by simp)]
  simp [unzig_zig]
theorem unzig_range {v : Nat} (h : v < 18446744073709551616) : R64 (unzig v) := by
  unfold unzig; split <;> exact ⟨by omega, by omega⟩
theorem pv_out : ∀ (r : List Int) (i u : Nat), (∀ x ∈ r, byteR x) → i ≤ 9 → u < 128 ^ i →
    (∃ (n : Int) (k : Nat), pv i u r = (n, (k : Int), 0) ∧ i < k ∧ k ≤ i + r.length ∧ R64 n) ∨ pv i u r = (0, 0, 10) ∨ pv i u r = (0, 0, 11)
  | [], i, u, _, _, _ => .inr (.inl (by rw [pv]))
  | x :: r, i, u, hb, hi, hu => by
    have hx := hb x (by simp)
    have h0 := hx.1; have h1 := hx.2
    rw [pv]
    by_cases h9 : i = 9 ∧ 1 < x
    · rw [if_pos h9]; exact .inr (.inr rfl)
    · rw [if_neg h9]
      by_cases hc : 128 ≤ x
      · rw [if_pos hc]
        have hi9 : i ≠ 9 := fun h => h9 ⟨h, by omega⟩
        rcases pv_out r (i + 1) _ (fun y hy => hb y (by simp [hy])) (by omega) (next_lt hu (a := (x % 128).toNat) (by omega)) with ⟨n, k, e, a1, a2, a3⟩ | e | e
        · exact .inl ⟨n, k, e, by omega, by simp only [List.length_cons]; omega, a3⟩
        · exact .inr (.inl e)
        · exact .inr (.inr e)
      · rw [if_neg hc]
        by_cases hz : x = 0 ∧ 0 < i
        · rw [if_pos hz]; exact .inr (.inr rfl)
        · rw [if_neg hz]
          refine .inl ⟨unzig (u + x.toNat * 128 ^ i), i + 1, by simp, by omega, by simp only [List.length_cons]; omega, unzig_range (sum_lt (a := x.toNat) hu (by omega) hi fun h => ?_)⟩
          have : ¬ 1 < x := fun h' => h9 ⟨h, h'⟩
          omega
theorem pv_k {b : List Int} (hb : ∀ x ∈ b, byteR x) : 0 ≤ (pv 0 0 b).2.1 ∧ (pv 0 0 b).2.1 ≤ (b.length : Int) ∧ R64 (pv 0 0 b).1 ∧ ((pv 0 0 b).2.2 ≠ 0 → (pv 0 0 b).1 = 0 ∧ (pv 0 0 b).2.1 = 0) := by
  rcases pv_out b 0 0 hb (by omega) (by simp) with ⟨n, k, e, a1, a2, a3⟩ | e | e
  · rw [e]; exact ⟨by simp, by simp; omega, a3, fun h => absurd rfl h⟩
  · rw [e]; exact ⟨by simp, by simp, ⟨by decide, by decide⟩, fun _ => ⟨rfl, rfl⟩⟩
  · rw [e]; exact ⟨by simp, by simp, ⟨by decide, by decide⟩, fun _ => ⟨rfl, rfl⟩⟩
def rI (b : List Int) : Int × Int × List Int := ((pv 0 0 b).1, (pv 0 0 b).2.2, b.drop (pv 0 0 b).2.1.toNat)
def rB (b : List Int) : List Int × Int × List Int :=
  if (pv 0 0 b).2.2 ≠ 0 then ([], (pv 0 0 b).2.2, b) else if (pv 0 0 b).1 < 0 then ([], 11, b) else if (b.length : Int) - (pv 0 0 b).2.1 < (pv 0 0 b).1 then ([], 10, b)
  else ((b.drop (pv 0 0 b).2.1.toNat).take (pv 0 0 b).1.toNat, 0, b.drop ((pv 0 0 b).2.1 + (pv 0 0 b).1).toNat)
theorem cut_end {b : List Int} (k : Int) : cut b k (b.length : Int) = b.drop k.toNat := by
  simp only [cut]; rw [List.take_of_length_le (by simp)]
section
variable {N : Nat} {b : List Int}
theorem F43m_eq {l : List Int} (h : l.length ≤ 70368744177664) : Fslices_Clone_byte_be0 N l = some (l.length, l) := by
  unfold Fslices_Clone_byte_be0 Fslices_Clone_byte_e12
  rw [lenB_of (by omega)]; rfl
theorem F23_eq (hN : 11 ≤ N) (hl : b.length ≤ 70368744177664) (hb : ∀ x ∈ b, byteR x) : Fwire_Reader_Bytes_d95 N ⟨true, b⟩ = some ((rB b).1.length, (rB b).2.1, ⟨true, (rB b).2.2⟩, (rB b).1) := by
  obtain ⟨a1, a2, a3, _⟩ := pv_k hb
  have a4 := a3.1; have a5 := a3.2
  unfold Fwire_Reader_Bytes_d95 Fwire_Reader_none_d95 rB
  simp only [Option.bind_some, Bool.not_true, cond_false, F45_eq hN (show b.length ≤ 9223372036854775807 by omega) hb]
  generalize hp : pv 0 0 b = p at a1 a2 a4 a5 ⊢
  by_cases he : p.2.2 = 0
  · rw [if_neg (by simpa using he)]
    have : (!(p.2.2 == 0)) = false := by simp [he]
    rw [this]
    simp only [cond_false]
    by_cases hn : p.1 < 0
    · rw [if_pos hn]; simp only [decide_eq_true hn, cond_true]; rfl
    · rw [if_neg hn]
      have hd : decide (p.1 < 0) = false := by simpa using hn
      simp only [hd, cond_false]
      rw [wrap64 (n := (b.length : Int) - p.2.1) (by omega) (by omega)]
      by_cases hlong : (b.length : Int) - p.2.1 < p.1
      · rw [if_pos hlong]; simp only [decide_eq_true hlong, cond_true]; rfl
      · rw [if_neg hlong]
        have hd : decide ((b.length : Int) - p.2.1 < p.1) = false := by simpa using hlong
        simp only [hd, cond_false]
        rw [wrap64 (n := p.2.1 + p.1) (by omega) (by omega)]
        rw [cutB_of a1 (by omega) (by omega), cutB_of (by omega) (by omega) (Int.le_refl _), cut_end]
        have ec : cut b p.2.1 (p.2.1 + p.1) = (b.drop p.2.1.toNat).take p.1.toNat := by
          simp only [cut]; congr 1; omega
        rw [ec, F43m_eq (by simp; omega)]; rfl
  · rw [if_pos he]
    have : (!(p.2.2 == 0)) = true := by simpa using he
    rw [this]; rfl
end
theorem R64_small {n : Nat} (h : n ≤ 1048576) : R64 (n : Int) := ⟨by omega, by omega⟩
section
variable {N : Nat} {w : List Int}
theorem F36_eq (hN : 11 ≤ N) {b : List Int} (hb : b.length ≤ 1048576) : Fref01_Bytes N b = some (vint (zig (b.length : Int)) ++ b) := by
  have := vint_len10 (zig_lt (R64_small hb))
  unfold Fref01_Bytes
  rw [F41_eq hN (R64_small hb), Option.bind_some, lenB_of (by omega)]; rfl
end
theorem bulk23_eq : ∀ m : List Int, bulk23 m = m.length + 1
  | [] => rfl
  | x :: m => by
    have := bulk23_eq m
    unfold bulk23 at this ⊢
    simp only [List.map_cons, List.sum_cons, List.length_cons, bulk5] at this ⊢
    omega
section
variable {N : Nat} {b : List Int}
end
section
variable {N : Nat} {w : List Int}
end
theorem rB_back {b : List Int} (hb : b.length ≤ 1048576) (rest : List Int) : rB (vint (zig (b.length : Int)) ++ b ++ rest) = (b, 0, rest) := by
  unfold rB
  rw [List.append_assoc, pv_zig (R64_small hb)]
  rw [if_neg (by simp), if_neg (by simp), if_neg (by simp; omega)]
  have e : (((vint (zig (b.length : Int))).length : Int) + (b.length : Int)).toNat = (vint (zig (b.length : Int)) ++ b).length := by simp; omega
  simp only [Int.toNat_natCast, List.drop_left, List.take_left]
  rw [e, ← List.append_assoc, List.drop_left]
theorem pv_canon : ∀ (r : List Int) (i u : Nat) (n k : Int), (∀ x ∈ r, byteR x) → i ≤ 9 → u < 128 ^ i → pv i u r = (n, k, 0) →
    ∃ (v : Nat) (rest : List Int), r = vint v ++ rest ∧ n = unzig (u + v * 128 ^ i) ∧ k = (i : Int) + (vint v).length ∧ u + v * 128 ^ i < 18446744073709551616 ∧ (0 < i → 0 < v)
  | [], i, u, n, k, _, _, _, h => by rw [pv] at h; cases h
  | x :: r, i, u, n, k, hb, hi, hu, h => by
    have hx := hb x (by simp)
    have h0 := hx.1; have h1 := hx.2
    rw [pv] at h
    by_cases h9 : i = 9 ∧ 1 < x
    · rw [if_pos h9] at h; cases h
    · rw [if_neg h9] at h
      by_cases hc : 128 ≤ x
      · rw [if_pos hc] at h
        have hi9 : i ≠ 9 := fun h => h9 ⟨h, by omega⟩
        obtain ⟨v, rest, e1, e2, e3, e4, e5⟩ := pv_canon r (i + 1) _ n k (fun y hy => hb y (by simp [hy])) (by omega) (next_lt hu (a := (x % 128).toNat) (by omega)) h
        have hv := e5 (by omega)
        have ed : ((x % 128).toNat + 128 * v) / 128 = v := by omega
        have em : ((x % 128).toNat + 128 * v) % 128 = (x % 128).toNat := by omega
        have es : u + ((x % 128).toNat + 128 * v) * 128 ^ i = u + (x % 128).toNat * 128 ^ i + v * 128 ^ (i + 1) := by
          rw [Nat.add_mul, Nat.pow_succ, Nat.mul_comm (128 ^ i) 128, ← Nat.mul_assoc, Nat.mul_comm v 128]; omega
        have ev : vint ((x % 128).toNat + 128 * v) = x :: vint v := by
          rw [vint_ge (by omega), ed, em]
          congr 1; omega
        refine ⟨(x % 128).toNat + 128 * v, rest, by rw [ev, e1]; rfl, by rw [es]; exact e2, ?_, by rw [es]; exact e4, fun _ => by omega⟩
        rw [ev, List.length_cons, e3]; push_cast; omega
      · rw [if_neg hc] at h
        by_cases hz : x = 0 ∧ 0 < i
        · rw [if_pos hz] at h; cases h
        · rw [if_neg hz] at h
          cases h
          have hs := sum_lt hu (a := x.toNat) (by omega) hi (fun h => by
            have : ¬ 1 < x := fun h' => h9 ⟨h, h'⟩
            omega)
          have ev : vint x.toNat = [x] := by rw [vint_lt (by omega)]; congr 1; omega
          refine ⟨x.toNat, r, by rw [ev]; rfl, rfl, by rw [ev]; simp, hs, fun hi0 => ?_⟩
          have : ¬ x = 0 := fun h' => hz ⟨h', hi0⟩
          omega
theorem zig_unzig (v : Nat) : zig (unzig v) = v := by unfold zig unzig; split <;> split <;> omega
theorem pv_one {c : List Int} (hb : ∀ x ∈ c, byteR x) (h : (pv 0 0 c).2.2 = 0) : ∃ rest, c = vint (zig (pv 0 0 c).1) ++ rest ∧ (pv 0 0 c).2.1 = ((vint (zig (pv 0 0 c).1)).length : Int) ∧ R64 (pv 0 0 c).1 := by
  obtain ⟨v, rest, e1, e2, e3, e4, _⟩ := pv_canon c 0 0 (pv 0 0 c).1 (pv 0 0 c).2.1 hb (by omega) (by simp) (by rw [← h])
  simp only [Nat.pow_zero, Nat.mul_one, Nat.zero_add] at e2 e4
  have ez : zig (pv 0 0 c).1 = v := by rw [e2, zig_unzig]
  refine ⟨rest, by rw [ez]; exact e1, by rw [ez, e3]; simp, ?_⟩
  rw [e2]; exact unzig_range e4
section
variable {c : List Int} (hb : ∀ x ∈ c, byteR x)
theorem rI_one (hb : ∀ x ∈ c, byteR x) (h : (rI c).2.1 = 0) : c = vint (zig (rI c).1) ++ (rI c).2.2 ∧ R64 (rI c).1 := by
  obtain ⟨rest, e1, e2, e3⟩ := pv_one hb h
  refine ⟨?_, e3⟩
  unfold rI
  simp only [e2, Int.toNat_natCast]
  conv => lhs; rw [e1]
  congr 1
  conv => rhs; rw [e1]
  rw [show (pv 0 0 (vint (zig (pv 0 0 c).1) ++ rest)).1 = (pv 0 0 c).1 by rw [← e1]]
  simp
theorem rB_one (hb : ∀ x ∈ c, byteR x) (h : (rB c).2.1 = 0) : c = vint (zig ((rB c).1.length : Int)) ++ (rB c).1 ++ (rB c).2.2 ∧ (rB c).1.length ≤ c.length := by
  unfold rB at h ⊢
  by_cases h0 : (pv 0 0 c).2.2 = 0
  · rw [if_neg (by simpa using h0)] at h ⊢
    by_cases h1 : (pv 0 0 c).1 < 0
    · rw [if_pos h1] at h; cases h
    · rw [if_neg h1] at h ⊢
      by_cases h2 : (c.length : Int) - (pv 0 0 c).2.1 < (pv 0 0 c).1
      · rw [if_pos h2] at h; cases h
      · rw [if_neg h2]
        obtain ⟨a1, a2, _, _⟩ := pv_k hb
        have hI := (rI_one hb (show (rI c).2.1 = 0 from h0)).1
        unfold rI at hI
        simp only at hI ⊢
        have hl : ((c.drop (pv 0 0 c).2.1.toNat).take (pv 0 0 c).1.toNat).length = (pv 0 0 c).1.toNat := by simp only [List.length_take, List.length_drop]; omega
        have hz : (((c.drop (pv 0 0 c).2.1.toNat).take (pv 0 0 c).1.toNat).length : Int) = (pv 0 0 c).1 := by omega
        rw [hz, List.append_assoc]
        refine ⟨?_, by omega⟩
        have : ((pv 0 0 c).2.1 + (pv 0 0 c).1).toNat = (pv 0 0 c).2.1.toNat + (pv 0 0 c).1.toNat := by omega
        rw [this, ← List.drop_drop, List.take_append_drop]
        exact hI
  · rw [if_pos h0] at h; exact absurd h h0
end
end Go.Proofs.Yticlnhhaaidmaaa
