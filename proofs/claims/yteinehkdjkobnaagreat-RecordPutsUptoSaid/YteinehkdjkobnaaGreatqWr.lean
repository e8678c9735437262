/-
Plain laws of another seat, turned to this one by wip/tools/ren2.py.
-/
import Derived.Test.YteinehkdjkobnaaGreatqFp
import Derived.Test.YteinehkdjkobnaaGreatqRd
import Derived.Test.YteinehkdjkobnaaGreatqTvT
import Derived.Laws.BitsAllLaws
set_option linter.unusedVariables false
set_option linter.unusedSimpArgs false
namespace Go.Proofs.YteinehkdjkobnaaGreat
open Go Go.Ev
def byteR (b : Int) : Prop := 0 ≤ b ∧ b ≤ 255
def vint (u : Nat) : List Int := if h : u < 128 then [(u : Int)] else ((u % 128 + 128 : Nat) : Int) :: vint (u / 128)
  termination_by u
  decreasing_by omega
theorem vint_lt {u : Nat} (h : u < 128) : vint u = [(u : Int)] := by rw [vint, dif_pos h]
theorem vint_ge {u : Nat} (h : 128 ≤ u) : vint u = ((u % 128 + 128 : Nat) : Int) :: vint (u / 128) := by rw [vint, dif_neg (by omega)]
theorem vint_len : ∀ (k u : Nat), u < 128 ^ (k + 1) → (vint u).length ≤ k + 1
  | k, u, h => by
    by_cases hu : u < 128
    · rw [vint_lt hu]; simp
    · rw [vint_ge (by omega)]
      cases k with
      | zero => simp at h; omega
      | succ k =>
        have : u / 128 < 128 ^ (k + 1) := by rw [Nat.div_lt_iff_lt_mul (by decide)]; rw [← Nat.pow_succ]; exact h
        have := vint_len k _ this
        simp only [List.length_cons]; omega
theorem vint_len10 {u : Nat} (h : u < 18446744073709551616) : (vint u).length ≤ 10 := vint_len 9 u (Nat.lt_trans h (by decide))
theorem vint_byte : ∀ (k u : Nat), u < 128 ^ (k + 1) → ∀ b ∈ vint u, byteR b
  | k, u, h, b, hb => by
    by_cases hu : u < 128
    · rw [vint_lt hu] at hb; simp at hb; subst hb; exact ⟨by omega, by omega⟩
    · rw [vint_ge (by omega)] at hb
      rcases List.mem_cons.1 hb with rfl | hb
      · exact ⟨by omega, by omega⟩
      · cases k with
        | zero => simp at h; omega
        | succ k =>
          have : u / 128 < 128 ^ (k + 1) := by rw [Nat.div_lt_iff_lt_mul (by decide)]; rw [← Nat.pow_succ]; exact h
          exact vint_byte k _ this b hb
def zig (n : Int) : Nat := if n < 0 then (-2 * n - 1).toNat else (2 * n).toNat
def R64 (n : Int) : Prop := -9223372036854775808 ≤ n ∧ n ≤ 9223372036854775807
theorem zig_lt {n : Int} (h : R64 n) : zig n < 18446744073709551616 := by have h1 := h.1; have h2 := h.2; unfold zig; split <;> omega
theorem nat_xor_max {x : Nat} (h : x < 18446744073709551616) : 18446744073709551615 ^^^ x = 18446744073709551615 - x := by
  have e1 : 18446744073709551615 = 2 ^ 64 - 1 := by decide
  have e2 : 18446744073709551615 - x = 2 ^ 64 - (x + 1) := by omega
  rw [e2, e1]
  refine Nat.eq_of_testBit_eq fun i => ?_
  rw [Nat.testBit_xor, Nat.testBit_two_pow_sub_one, Nat.testBit_two_pow_sub_succ (by omega)]
  by_cases hi : i < 64
  · simp [hi]
  · have : x.testBit i = false := Nat.testBit_lt_two_pow (Nat.lt_of_lt_of_le (show x < 2 ^ 64 by omega) (Nat.pow_le_pow_right (by decide) (by omega)))
    simp [hi, this]
theorem xor64_max {x : Int} (h0 : 0 ≤ x) (h : x < 18446744073709551616) : bits .xor .u64 IntKind.u64.max x = 18446744073709551615 - x := by
  rw [u64_xor _ x (by decide) (by decide) h0 h]
  rw [show IntKind.u64.max.toNat = 18446744073709551615 from rfl, nat_xor_max (by omega)]
  omega
theorem shl64_one (a : Int) : shl .u64 a 1 = (a * 2) % 18446744073709551616 := by
  simp only [shl, IntKind.bits]
  rw [show (min (1 : Int).toNat 64) = 1 from rfl]
  simp [IntKind.wrap, IntKind.bits, IntKind.signed]
theorem shr64 {a : Int} {k : Nat} (hk : k < 64) : shr .u64 a (k : Int) = a / (2 ^ k : Nat) := by
  simp only [shr, IntKind.bits]
  rw [show (min (k : Int).toNat 64) = k by omega, Int.fdiv_eq_ediv_of_nonneg _ (by exact Int.pow_nonneg (by decide))]
  simp
theorem u64_wrap_eq (n : Int) : IntKind.u64.wrap n = n % 18446744073709551616 := by simp [IntKind.wrap, IntKind.bits, IntKind.signed]
theorem u8_wrap_eq (n : Int) : IntKind.u8.wrap n = n % 256 := by simp [IntKind.wrap, IntKind.bits, IntKind.signed]
theorem or128 : ∀ x : Fin 256, x.val ||| 128 = x.val % 128 + 128 := by decide +kernel
theorem or8_128 (u : Int) (h : 0 ≤ u) : bits .or .u8 (IntKind.u8.wrap u) 128 = u % 128 + 128 := by
  rw [u8_wrap_eq, u8_or _ _ (by omega) (by omega) (by decide) (by decide)]
  have := or128 ⟨(u % 256).toNat, by omega⟩
  simp only at this
  rw [show (128 : Int).toNat = 128 from rfl, this]
  omega
theorem loop49 {N : Nat} (hN : 11 ≤ N) {u : Int} (h0 : 0 ≤ u) (h1 : u < 18446744073709551616) : iter N (fun (s1 : Swire_numberx5) next2 =>
     (bif (decide (128 ≤ s1.u)) then
     (bif (lenB ((s1.b).length + ([(bits .or .u8 (IntKind.u8.wrap s1.u) 128)]).length) 1) then
     (next2 ⟨(shr .u64 s1.u 7), (s1.b ++ [(bits .or .u8 (IntKind.u8.wrap s1.u) 128)])⟩)
     else none)
     else
     (bif (lenB ((s1.b).length + ([(IntKind.u8.wrap s1.u)]).length) 1) then
     (some (s1.b ++ [(IntKind.u8.wrap s1.u)]))
     else none))) ⟨u, []⟩ = some (vint u.toNat) := by
  refine iter_run (fun q : Swire_numberx5 => 0 ≤ q.u ∧ q.u < 18446744073709551616 ∧ q.b ++ vint q.u.toNat = vint u.toNat) (fun q => (vint q.u.toNat).length) ?_ N _ ⟨h0, h1, by simp⟩ (by have := vint_len10 (u := u.toNat) (by omega); simp only; omega)
  rintro ⟨q, b⟩ nx ⟨g0, g1, hq⟩ ih
  simp only at g0 g1 hq ih ⊢
  have hlen := congrArg List.length hq
  have hv := vint_len10 (u := u.toNat) (by omega)
  rw [List.length_append] at hlen
  rw [lenB_of (by simp; omega), lenB_of (by simp; omega)]
  by_cases h : 128 ≤ q
  · simp only [decide_eq_true h, cond_true, or8_128 q g0]
    have e7 : shr .u64 q 7 = q / 128 := shr64 (k := 7) (by decide)
    rw [e7]
    have hge := vint_ge (u := q.toNat) (by omega)
    have ed : (q / 128).toNat = q.toNat / 128 := by omega
    refine ih ⟨q / 128, b ++ [q % 128 + 128]⟩ ⟨by simp; omega, by simp; omega, ?_⟩ ?_
    · simp only
      have ec : ((q.toNat % 128 + 128 : Nat) : Int) = q % 128 + 128 := by omega
      rw [ed, ← hq, hge, List.append_assoc, ec]
      rfl
    · simp only; rw [ed, hge]; simp
  · have hd : decide (128 ≤ q) = false := by simpa using h
    simp only [hd, cond_false, cond_true]
    rw [← hq, vint_lt (u := q.toNat) (by omega), u8_wrap_eq]
    congr 3
    omega
theorem F49_eq {N : Nat} (hN : 11 ≤ N) {n : Int} (hn : R64 n) : Fwire_number N n = some (vint (zig n)) := by
  have h1 := hn.1; have h2 := hn.2
  unfold Fwire_number
  by_cases h : n < 0
  · simp only [decide_eq_true h, cond_true]
    have e : bits .xor .u64 IntKind.u64.max (shl .u64 (IntKind.u64.wrap n) 1) = -2 * n - 1 := by
      rw [shl64_one, u64_wrap_eq, xor64_max (by omega) (by omega)]; omega
    rw [e, loop49 hN (by omega) (by omega)]
    simp only [zig, if_pos h]
  · have hd : decide (n < 0) = false := by simpa using h
    simp only [hd, cond_false]
    have e : shl .u64 (IntKind.u64.wrap n) 1 = 2 * n := by rw [shl64_one, u64_wrap_eq]; omega
    rw [e, loop49 hN (by omega) (by omega)]
    simp only [zig, if_neg h]
theorem loop41 {N : Nat} (hN : 11 ≤ N) {u : Int} (h0 : 0 ≤ u) (h1 : u < 18446744073709551616) : iter N (fun (s1 : Sref01_Intx5) next2 =>
     (bif (decide (128 ≤ s1.u)) then
     (bif (lenB ((s1.b).length + ([(IntKind.u8.wrap ((IntKind.u8.wrap (Int.tmod s1.u 128)) + 128))]).length) 1) then
     (next2 ⟨(IntKind.u64.wrap (Int.tdiv s1.u 128)), (s1.b ++ [(IntKind.u8.wrap ((IntKind.u8.wrap (Int.tmod s1.u 128)) + 128))])⟩)
     else none)
     else
     (bif (lenB ((s1.b).length + ([(IntKind.u8.wrap s1.u)]).length) 1) then
     (some (s1.b ++ [(IntKind.u8.wrap s1.u)]))
     else none))) ⟨u, []⟩ = some (vint u.toNat) := by
  refine iter_run (fun q : Sref01_Intx5 => 0 ≤ q.u ∧ q.u < 18446744073709551616 ∧ q.b ++ vint q.u.toNat = vint u.toNat) (fun q => (vint q.u.toNat).length) ?_ N _ ⟨h0, h1, by simp⟩ (by have := vint_len10 (u := u.toNat) (by omega); simp only; omega)
  rintro ⟨q, b⟩ nx ⟨g0, g1, hq⟩ ih
  simp only at g0 g1 hq ih ⊢
  have hlen := congrArg List.length hq
  have hv := vint_len10 (u := u.toNat) (by omega)
  rw [List.length_append] at hlen
  rw [lenB_of (by simp; omega), lenB_of (by simp; omega)]
  by_cases h : 128 ≤ q
  · simp only [decide_eq_true h, cond_true]
    have e7 : IntKind.u64.wrap (Int.tdiv q 128) = q / 128 := by rw [Int.tdiv_eq_ediv_of_nonneg g0, u64_wrap_eq]; omega
    have e8 : IntKind.u8.wrap (IntKind.u8.wrap (Int.tmod q 128) + 128) = q % 128 + 128 := by rw [Int.tmod_eq_emod_of_nonneg g0, u8_wrap_eq, u8_wrap_eq]; omega
    rw [e7, e8]
    have hge := vint_ge (u := q.toNat) (by omega)
    have ed : (q / 128).toNat = q.toNat / 128 := by omega
    refine ih ⟨q / 128, b ++ [q % 128 + 128]⟩ ⟨by simp; omega, by simp; omega, ?_⟩ ?_
    · simp only
      have ec : ((q.toNat % 128 + 128 : Nat) : Int) = q % 128 + 128 := by omega
      rw [ed, ← hq, hge, List.append_assoc, ec]
      rfl
    · simp only; rw [ed, hge]; simp
  · have hd : decide (128 ≤ q) = false := by simpa using h
    simp only [hd, cond_false, cond_true]
    rw [← hq, vint_lt (u := q.toNat) (by omega), u8_wrap_eq]
    congr 3
    omega
theorem F41_eq {N : Nat} (hN : 11 ≤ N) {n : Int} (hn : R64 n) : Fref01_Int N n = some (vint (zig n)) := by
  have h1 := hn.1; have h2 := hn.2
  unfold Fref01_Int
  by_cases h : n < 0
  · simp only [decide_eq_true h, cond_true]
    have e : IntKind.u64.wrap (IntKind.u64.wrap (IntKind.u64.wrap (IntKind.i64.wrap (0 - IntKind.i64.wrap (n + 1))) * 2) + 1) = -2 * n - 1 := by
      rw [wrap64 (n := n + 1) (by omega) (by omega), wrap64 (by omega) (by omega), u64_wrap_eq, u64_wrap_eq, u64_wrap_eq]; omega
    rw [e, loop41 hN (by omega) (by omega)]
    simp only [zig, if_pos h]
  · have hd : decide (n < 0) = false := by simpa using h
    simp only [hd, cond_false]
    have e : IntKind.u64.wrap (IntKind.u64.wrap n * 2) = 2 * n := by rw [u64_wrap_eq, u64_wrap_eq]; omega
    rw [e, loop41 hN (by omega) (by omega)]
    simp only [zig, if_neg h]
theorem F43_eq {N : Nat} {l : List Int} (h : l.length ≤ 70368744177664) : Fslices_Clone_byte N l = some l := by
  unfold Fslices_Clone_byte Fslices_Clone_byte_c35
  rw [lenB_of (by omega)]
  rfl
def putAll (w : List Int) (x : List Int) : Int × Bool × List Int := if w.length + x.length ≤ 1048576 then (0, true, w ++ x) else (3, true, w)
theorem F48_eq {N : Nat} {l : List (List Int)} {w : List Int} (hN : l.length < N) (hl : l.length ≤ 1000000) (hw : w.length ≤ 1048576) (hm : ∀ m ∈ l, m.length ≤ 4611686018427387904) : Fwire_Writer_put_867 N l true w = some (putAll w l.flatten) := by
  unfold Fwire_Writer_put_867 Fwire_Writer_none_052
  simp only [Option.bind_some, Bool.not_true, cond_false]
  have second : w.length + l.flatten.length ≤ 1048576 → iter N (fun (s4 : Swire_Writer_put_867x12) next5 =>
       (bif (decide (s4.t35 < ((l).length : Int))) then
       (bif (ibB s4.t35 ((l).length : Int)) then
       (bif (lenB ((s4.b02).length + ((lget l s4.t35 default)).length) 1) then
       (next5 ⟨(IntKind.i64.wrap (s4.t35 + 1)), s4.b0, (s4.b02 ++ (lget l s4.t35 default))⟩)
       else none)
       else none)
       else
       (some ((0 : Int), s4.b0, s4.b02)))) ⟨0, true, w⟩ = some (0, true, w ++ l.flatten) := fun htot => by
    refine iter_run (fun q : Swire_Writer_put_867x12 => 0 ≤ q.t35 ∧ q.t35 ≤ (l.length : Int) ∧ q.b0 = true ∧ q.b02 ++ (l.drop q.t35.toNat).flatten = w ++ l.flatten) (fun q => ((l.length : Int) - q.t35).toNat) ?_ N _ ⟨by simp, by simp, rfl, by simp⟩ (by simp; omega)
    rintro ⟨i, b0, b⟩ nx ⟨g0, g1, rfl, hq⟩ ih
    simp only at g0 g1 hq ih ⊢
    by_cases hi : i < l.length
    · have hd := lget_drop (default : List Int) g0 hi
      rw [hd, List.flatten_cons] at hq
      have hlen := congrArg List.length hq
      simp only [List.length_append] at hlen
      simp only [decide_eq_true hi, ibB_of g0 hi, cond_true]
      rw [lenB_of (by omega), wrap64 (by omega) (by omega)]
      exact ih ⟨i + 1, true, b ++ lget l i default⟩ ⟨by simp; omega, by simp; omega, rfl, by simp only [List.append_assoc]; exact hq⟩ (by simp; omega)
    · have : decide (i < (l.length : Int)) = false := by simpa using hi
      simp only [this, cond_false]
      rw [List.drop_eq_nil_of_le (by omega)] at hq
      rw [← hq]; simp
  refine iter_run (fun q : Swire_Writer_put_867x5 => 0 ≤ q.t19 ∧ q.t19 ≤ (l.length : Int) ∧ 0 ≤ q.n ∧ q.n ≤ 1048576 ∧ q.n + (l.drop q.t19.toNat).flatten.length = w.length + l.flatten.length) (fun q => ((l.length : Int) - q.t19).toNat) ?_ N _ ⟨by simp, by simp, by simp, by simp; omega, by simp⟩ (by simp; omega)
  rintro ⟨n, i⟩ nx ⟨g0, g1, g2, g3, hq⟩ ih
  simp only at g0 g1 g2 g3 hq ih ⊢
  by_cases hi : i < l.length
  · have hd := lget_drop (default : List Int) g0 hi
    have hmi := hm _ (lget_mem (default : List Int) g0 hi)
    rw [hd, List.flatten_cons, List.length_append] at hq
    simp only [decide_eq_true hi, ibB_of g0 hi, cond_true, Bool.cond_decide]
    rw [wrap64 (n := 1048576 - n) (by omega) (by omega)]
    split
    · rename_i hlong
      rw [putAll, if_neg (by omega)]
    · rename_i hfit
      rw [wrap64 (by omega) (by omega), wrap64 (by omega) (by omega)]
      exact ih ⟨_, i + 1⟩ ⟨by simp; omega, by simp; omega, by simp; omega, by simp; omega, by simp only; omega⟩ (by simp; omega)
  · have : decide (i < (l.length : Int)) = false := by simpa using hi
    simp only [this, cond_false]
    rw [List.drop_eq_nil_of_le (by omega)] at hq
    simp only [List.flatten_nil, List.length_nil] at hq
    rw [putAll, if_pos (by omega)]
    exact second (by omega)
theorem F31_eq {N : Nat} (hN : 11 ≤ N) {n : Int} (hn : R64 n) {w : List Int} (hw : w.length ≤ 1048576) : Fwire_Writer_Int_816 N n true w = some (putAll w (vint (zig n))) := by
  have := vint_len10 (zig_lt hn)
  unfold Fwire_Writer_Int_816
  rw [F49_eq hN hn, Option.bind_some, F48_eq (by simp; omega) (by simp) hw (by intro m hm; simp at hm; subst hm; omega)]
  simp
theorem F20_eq {N : Nat} {w : List Int} (hw : w.length ≤ 1048576) : Fwire_Writer_Out_052 N true w = some (w, true, w) := by
  unfold Fwire_Writer_Out_052 Fwire_Writer_none_052
  simp only [Option.bind_some, Bool.not_true, cond_false]
  rw [F43_eq (by omega)]; rfl
def unzig (u : Nat) : Int := if u % 2 = 1 then -((u / 2 : Nat) : Int) - 1 else ((u / 2 : Nat) : Int)
def pv : Nat → Nat → List Int → Int × Int × Int
  | _, _, [] => (0, 0, 10)
  | i, u, x :: r => if i = 9 ∧ 1 < x then (0, 0, 11) else if 128 ≤ x then pv (i + 1) (u + (x % 128).toNat * 128 ^ i) r else if x = 0 ∧ 0 < i then (0, 0, 11) else (unzig (u + x.toNat * 128 ^ i), (i : Int) + 1, 0)
theorem pow128 {k : Nat} (hk : k ≤ 9) : 128 ^ k ≤ 9223372036854775808 := by
  have : 128 ^ k ≤ 128 ^ 9 := Nat.pow_le_pow_right (by decide) hk
  exact Nat.le_trans this (by decide)
theorem part_lt {a k : Nat} (ha : a < 128) (hk : k ≤ 9) (h9 : k = 9 → a ≤ 1) : a * 128 ^ k ≤ 9223372036854775808 := by
  by_cases h : k = 9
  · subst h
    have : a * 128 ^ 9 ≤ 1 * 128 ^ 9 := Nat.mul_le_mul_right _ (h9 rfl)
    exact Nat.le_trans this (by decide)
  · have h1 : a * 128 ^ k ≤ 128 * 128 ^ k := Nat.mul_le_mul_right _ (by omega)
    have h2 : 128 * 128 ^ k = 128 ^ (k + 1) := by rw [Nat.pow_succ, Nat.mul_comm]
    exact Nat.le_trans (h2 ▸ h1) (pow128 (by omega))
theorem shl_part {a : Int} {k : Nat} (h0 : 0 ≤ a) (ha : a < 128) (hk : k ≤ 9) (h9 : k = 9 → a ≤ 1) : shl .u64 a (IntKind.i64.wrap (7 * (k : Int))) = ((a.toNat * 128 ^ k : Nat) : Int) := by
  rw [wrap64 (by omega) (by omega)]
  simp only [shl, IntKind.bits]
  rw [show (min (7 * (k : Int)).toNat 64) = 7 * k by omega, u64_wrap_eq]
  have hp := part_lt (a := a.toNat) (by omega) hk (fun h => by have := h9 h; omega)
  have e : a * 2 ^ (7 * k) = ((a.toNat * 128 ^ k : Nat) : Int) := by
    have e2 : (128 : Nat) ^ k = 2 ^ (7 * k) := by rw [Nat.pow_mul]
    rw [e2]
    push_cast
    rw [Int.toNat_of_nonneg h0]
  rw [e]
  omega
theorem or_part {u a k : Nat} (hu : u < 128 ^ k) (hk : k ≤ 9) (ha : a * 128 ^ k ≤ 9223372036854775808) : bits .or .u64 (u : Int) ((a * 128 ^ k : Nat) : Int) = ((u + a * 128 ^ k : Nat) : Int) := by
  have hp := pow128 hk
  rw [u64_or _ _ (by omega) (by omega) (by omega) (by omega)]
  have e2 : (128 : Nat) ^ k = 2 ^ (7 * k) := by rw [Nat.pow_mul]
  have := nat_join (7 * k) (a * 128 ^ k) u (by rw [e2]; exact Nat.mul_mod_left _ _) (by rw [← e2]; exact hu)
  rw [Int.toNat_natCast, Int.toNat_natCast, Nat.or_comm, this]
  omega
theorem and8_127 {c : Int} (h : byteR c) : bits .and .u8 c 127 = c % 128 := by
  have h0 := h.1; have h1 := h.2
  rw [u8_and c 127 h0 (by omega) (by decide) (by decide), show (127 : Int).toNat = 127 from rfl, nat_mask7]
  omega
theorem and64_one {v : Nat} (h : v < 18446744073709551616) : bits .and .u64 (v : Int) 1 = ((v % 2 : Nat) : Int) := by
  rw [u64_and _ 1 (by omega) (by omega) (by decide) (by decide), show (1 : Int).toNat = 1 from rfl, Int.toNat_natCast, nat_mask1]
theorem shr64_one (v : Nat) : shr .u64 (v : Int) 1 = ((v / 2 : Nat) : Int) := by
  have := shr64 (a := (v : Int)) (k := 1) (by decide)
  rw [show ((1 : Nat) : Int) = 1 from rfl] at this
  rw [this]; omega
theorem sum_lt {u a k : Nat} (hu : u < 128 ^ k) (ha : a < 128) (hk : k ≤ 9) (h9 : k = 9 → a ≤ 1) : u + a * 128 ^ k < 18446744073709551616 := by
  have := part_lt ha hk h9
  have := pow128 hk
  omega
theorem next_lt {u a k : Nat} (hu : u < 128 ^ k) (ha : a < 128) : u + a * 128 ^ k < 128 ^ (k + 1) := by
  have : a * 128 ^ k ≤ 127 * 128 ^ k := Nat.mul_le_mul_right _ (by omega)
  rw [Nat.pow_succ]; omega
theorem F45_eq {N : Nat} (hN : 11 ≤ N) {b : List Int} (hl : b.length ≤ 9223372036854775807) (hb : ∀ x ∈ b, byteR x) : Fwire_parse N b = some (pv 0 0 b) := by
  unfold Fwire_parse
  refine iter_run (fun q : Swire_parsex3 => ∃ k u : Nat, q.t8 = k ∧ q.u = u ∧ k ≤ 9 ∧ u < 128 ^ k ∧ pv k u (b.drop k) = pv 0 0 b) (fun q => (9 - q.t8).toNat) ?_ N _ ⟨0, 0, rfl, rfl, by omega, by simp, rfl⟩ (by simp; omega)
  rintro ⟨u', i'⟩ nx ⟨k, u, rfl, rfl, hk, hu, hq⟩ ih
  simp only at ih ⊢
  have hk10 : decide ((k : Int) < 10) = true := by simp; omega
  simp only [hk10, cond_true, Bool.cond_decide]
  split
  · rename_i hend
    rw [List.drop_eq_nil_of_le (by omega)] at hq
    rw [← hq, pv]
  · rename_i hlt
    have hlt' : (k : Int) < b.length := by omega
    have hd := lget_drop (default : Int) (Int.natCast_nonneg k) hlt'
    have hmem := hb _ (lget_mem (default : Int) (Int.natCast_nonneg k) hlt')
    rw [Int.toNat_natCast] at hd
    rw [hd] at hq
    generalize lget b (k : Int) default = c at hq hmem hd ⊢
    have h0 := hmem.1; have h1 := hmem.2
    rw [ibB_of (Int.natCast_nonneg k) hlt', and8_127 hmem]
    simp only [cond_true]
    rw [pv] at hq
    by_cases hform : (((k : Int) == 9) && decide (1 < c) || (c == 0) && decide (0 < (k : Int))) = true
    · rw [hform]
      simp only [cond_true]
      rw [← hq]
      simp only [Bool.or_eq_true, Bool.and_eq_true, beq_iff_eq, decide_eq_true_eq] at hform
      rcases hform with ⟨a1, a2⟩ | ⟨a1, a2⟩
      · rw [if_pos ⟨by omega, a2⟩]
      · by_cases h9 : k = 9 ∧ 1 < c
        · rw [if_pos h9]
        · rw [if_neg h9, if_neg (by omega), if_pos ⟨a1, by omega⟩]
    · have hf : (((k : Int) == 9) && decide (1 < c) || (c == 0) && decide (0 < (k : Int))) = false := by simpa using hform
      rw [hf]
      simp only [cond_false]
      have n1 : ¬ (k = 9 ∧ 1 < c) := fun h => hform (by simp [h.1, h.2])
      have n2 : ¬ (c = 0 ∧ 0 < k) := fun h => hform (by simp [h.1]; omega)
      rw [if_neg n1] at hq
      have h7 : 0 ≤ IntKind.i64.wrap (7 * (k : Int)) := by rw [wrap64 (by omega) (by omega)]; omega
      rw [if_pos h7]
      have e0 : IntKind.u64.wrap (c % 128) = c % 128 := by rw [u64_wrap_eq]; omega
      have hs := shl_part (a := c % 128) (k := k) (by omega) (by omega) hk (fun h => by
        have : ¬ 1 < c := fun h' => n1 ⟨h, h'⟩
        omega)
      have h9' : k = 9 → (c % 128).toNat ≤ 1 := fun h => by
        have : ¬ 1 < c := fun h' => n1 ⟨h, h'⟩
        omega
      have ho := or_part hu hk (part_lt (a := (c % 128).toNat) (by omega) hk h9')
      have hV := sum_lt hu (a := (c % 128).toNat) (by omega) hk h9'
      rw [e0, hs, ho]
      generalize hVe : u + (c % 128).toNat * 128 ^ k = v at hV hq ⊢
      split
      · rename_i hc
        rw [if_neg (by omega), if_neg n2] at hq
        have ec : c.toNat = (c % 128).toNat := by omega
        rw [ec, hVe] at hq
        rw [← hq, and64_one hV, shr64_one]
        have ek : IntKind.i64.wrap ((k : Int) + 1) = (k : Int) + 1 := wrap64 (by omega) (by omega)
        rw [ek]
        unfold unzig
        by_cases hodd : v % 2 = 1
        · rw [hodd, if_pos rfl]
          rw [xor64_max (by omega) (by omega)]
          have : IntKind.i64.wrap (18446744073709551615 - ((v / 2 : Nat) : Int)) = -((v / 2 : Nat) : Int) - 1 := by
            rw [IntKind.wrap]
            simp [IntKind.bits, IntKind.signed]
            split <;> omega
          rw [this]; rfl
        · have he : v % 2 = 0 := by omega
          rw [he, if_neg (by omega)]
          simp only [show (((0 : Nat) : Int) == 1) = false from rfl, cond_false]
          rw [wrap64 (by omega) (by omega)]
      · rename_i hc
        have ekk : ((k : Int) + 1).toNat = k + 1 := by omega
        rw [if_pos (by omega), ekk] at hq
        rw [wrap64 (n := (k : Int) + 1) (by omega) (by omega)]
        have hk9 : k ≠ 9 := fun h => n1 ⟨h, by omega⟩
        exact ih ⟨(v : Int), (k : Int) + 1⟩ ⟨k + 1, v, by simp, rfl, by omega, hVe ▸ next_lt hu (by omega), hq⟩ (by simp; omega)
theorem unzig_range {v : Nat} (h : v < 18446744073709551616) : R64 (unzig v) := by
  unfold unzig; split <;> exact ⟨by omega, by omega⟩
theorem pv_out : ∀ (r : List Int) (i u : Nat), (∀ x ∈ r, byteR x) → i ≤ 9 → u < 128 ^ i →
    (∃ (n : Int) (k : Nat), pv i u r = (n, (k : Int), 0) ∧ i < k ∧ k ≤ i + r.length ∧ R64 n) ∨ pv i u r = (0, 0, 10) ∨ pv i u r = (0, 0, 11)
  | [], i, u, _, _, _ => .inr (.inl (by rw [pv]))
  | x :: r, i, u, hb, hi, hu => by
    have hx := hb x (by simp)
    have h0 := hx.1; have h1 := hx.2
    rw [pv]
    by_cases h9 : i = 9 ∧ 1 < x
    · rw [if_pos h9]; exact .inr (.inr rfl)
    · rw [if_neg h9]
      by_cases hc : 128 ≤ x
      · rw [if_pos hc]
        have hi9 : i ≠ 9 := fun h => h9 ⟨h, by omega⟩
        rcases pv_out r (i + 1) _ (fun y hy => hb y (by simp [hy])) (by omega) (next_lt hu (a := (x % 128).toNat) (by omega)) with ⟨n, k, e, a1, a2, a3⟩ | e | e
        · exact .inl ⟨n, k, e, by omega, by simp only [List.length_cons]; omega, a3⟩
        · exact .inr (.inl e)
        · exact .inr (.inr e)
      · rw [if_neg hc]
        by_cases hz : x = 0 ∧ 0 < i
        · rw [if_pos hz]; exact .inr (.inr rfl)
        · rw [if_neg hz]
          refine .inl ⟨unzig (u + x.toNat * 128 ^ i), i + 1, by simp, by omega, by simp only [List.length_cons]; omega, unzig_range (sum_lt (a := x.toNat) hu (by omega) hi fun h => ?_)⟩
          have : ¬ 1 < x := fun h' => h9 ⟨h, h'⟩
          omega
theorem pv_k {b : List Int} (hb : ∀ x ∈ b, byteR x) : 0 ≤ (pv 0 0 b).2.1 ∧ (pv 0 0 b).2.1 ≤ (b.length : Int) ∧ R64 (pv 0 0 b).1 ∧ ((pv 0 0 b).2.2 ≠ 0 → (pv 0 0 b).1 = 0 ∧ (pv 0 0 b).2.1 = 0) := by
  rcases pv_out b 0 0 hb (by omega) (by simp) with ⟨n, k, e, a1, a2, a3⟩ | e | e
  · rw [e]; exact ⟨by simp, by simp; omega, a3, fun h => absurd rfl h⟩
  · rw [e]; exact ⟨by simp, by simp, ⟨by decide, by decide⟩, fun _ => ⟨rfl, rfl⟩⟩
  · rw [e]; exact ⟨by simp, by simp, ⟨by decide, by decide⟩, fun _ => ⟨rfl, rfl⟩⟩
def rI (b : List Int) : Int × Int × List Int := ((pv 0 0 b).1, (pv 0 0 b).2.2, b.drop (pv 0 0 b).2.1.toNat)
def rB (b : List Int) : List Int × Int × List Int :=
  if (pv 0 0 b).2.2 ≠ 0 then ([], (pv 0 0 b).2.2, b) else if (pv 0 0 b).1 < 0 then ([], 11, b) else if (b.length : Int) - (pv 0 0 b).2.1 < (pv 0 0 b).1 then ([], 10, b)
  else ((b.drop (pv 0 0 b).2.1.toNat).take (pv 0 0 b).1.toNat, 0, b.drop ((pv 0 0 b).2.1 + (pv 0 0 b).1).toNat)
theorem cut_end {b : List Int} (k : Int) : cut b k (b.length : Int) = b.drop k.toNat := by
  simp only [cut]; rw [List.take_of_length_le (by simp)]
section
variable {N : Nat} {b : List Int}
theorem F22_eq (hN : 11 ≤ N) (hl : b.length ≤ 70368744177664) (hb : ∀ x ∈ b, byteR x) : Fwire_Reader_Int_d95 N ⟨true, b⟩ = some ((rI b).1, (rI b).2.1, ⟨true, (rI b).2.2⟩) := by
  obtain ⟨a1, a2, _, _⟩ := pv_k hb
  unfold Fwire_Reader_Int_d95 Fwire_Reader_none_d95
  simp only [Option.bind_some, Bool.not_true, cond_false, F45_eq hN (by omega) hb]
  rw [cutB_of a1 a2 (Int.le_refl _), cut_end]; rfl
theorem F23_eq (hN : 11 ≤ N) (hl : b.length ≤ 70368744177664) (hb : ∀ x ∈ b, byteR x) : Fwire_Reader_Bytes_d95 N ⟨true, b⟩ = some ((rB b).1, (rB b).2.1, ⟨true, (rB b).2.2⟩) := by
  obtain ⟨a1, a2, a3, _⟩ := pv_k hb
  have a4 := a3.1; have a5 := a3.2
  unfold Fwire_Reader_Bytes_d95 Fwire_Reader_none_d95 rB
  simp only [Option.bind_some, Bool.not_true, cond_false, F45_eq hN (show b.length ≤ 9223372036854775807 by omega) hb]
  generalize hp : pv 0 0 b = p at a1 a2 a4 a5 ⊢
  by_cases he : p.2.2 = 0
  · rw [if_neg (by simpa using he)]
    have : (!(p.2.2 == 0)) = false := by simp [he]
    rw [this]
    simp only [cond_false]
    by_cases hn : p.1 < 0
    · rw [if_pos hn]; simp only [decide_eq_true hn, cond_true]
    · rw [if_neg hn]
      have hd : decide (p.1 < 0) = false := by simpa using hn
      simp only [hd, cond_false]
      rw [wrap64 (n := (b.length : Int) - p.2.1) (by omega) (by omega)]
      by_cases hlong : (b.length : Int) - p.2.1 < p.1
      · rw [if_pos hlong]; simp only [decide_eq_true hlong, cond_true]
      · rw [if_neg hlong]
        have hd : decide ((b.length : Int) - p.2.1 < p.1) = false := by simpa using hlong
        simp only [hd, cond_false]
        rw [wrap64 (n := p.2.1 + p.1) (by omega) (by omega)]
        rw [cutB_of a1 (by omega) (by omega), cutB_of (by omega) (by omega) (Int.le_refl _), cut_end]
        have ec : cut b p.2.1 (p.2.1 + p.1) = (b.drop p.2.1.toNat).take p.1.toNat := by
          simp only [cut]; congr 1; omega
        rw [ec, F43_eq (by simp; omega)]; rfl
  · rw [if_pos he]
    have : (!(p.2.2 == 0)) = true := by simpa using he
    rw [this]; rfl
end
theorem rI_suffix (b : List Int) : (rI b).2.2 <:+ b := List.drop_suffix _ _
theorem rB_suffix (b : List Int) : (rB b).2.2 <:+ b := by
  unfold rB; (repeat' split) <;> first | exact List.suffix_rfl | exact List.drop_suffix _ _
theorem suffix_ok {c b : List Int} (h : c <:+ b) (hl : b.length ≤ 70368744177664) (hb : ∀ x ∈ b, byteR x) : c.length ≤ 70368744177664 ∧ ∀ x ∈ c, byteR x :=
  ⟨Nat.le_trans h.length_le hl, fun x hx => hb x (h.subset hx)⟩
theorem R64_small {n : Nat} (h : n ≤ 1048576) : R64 (n : Int) := ⟨by omega, by omega⟩
section
variable {N : Nat} {w : List Int}
theorem F32_eq (hN : 11 ≤ N) {b : List Int} (hb : b.length ≤ 1048576) (hw : w.length ≤ 1048576) : Fwire_Writer_Bytes_eea N b true w = some (putAll w (vint (zig (b.length : Int)) ++ b)) := by
  have := vint_len10 (zig_lt (R64_small hb))
  unfold Fwire_Writer_Bytes_eea
  rw [F49_eq hN (R64_small hb), Option.bind_some, F48_eq (by simp; omega) (by simp) hw (by intro m hm; simp at hm; rcases hm with rfl | rfl <;> omega)]
  simp
theorem F36_eq (hN : 11 ≤ N) {b : List Int} (hb : b.length ≤ 1048576) : Fref01_Bytes N b = some (vint (zig (b.length : Int)) ++ b) := by
  have := vint_len10 (zig_lt (R64_small hb))
  unfold Fref01_Bytes
  rw [F41_eq hN (R64_small hb), Option.bind_some, lenB_of (by omega)]; rfl
end
theorem F46_eq {N : Nat} (hN : 11 ≤ N) {b : List Int} (hl : b.length ≤ 9223372036854775807) (hb : ∀ x ∈ b, byteR x) : Fref01_ParseInt N b = some (pv 0 0 b) := by
  unfold Fref01_ParseInt
  refine iter_run (fun q : Sref01_ParseIntx3 => ∃ k u : Nat, q.i = k ∧ q.u = u ∧ k ≤ 9 ∧ u < 128 ^ k ∧ pv k u (b.drop k) = pv 0 0 b) (fun q => (9 - q.i).toNat) ?_ N _ ⟨0, 0, rfl, rfl, by omega, by simp, rfl⟩ (by simp; omega)
  rintro ⟨u', i'⟩ nx ⟨k, u, rfl, rfl, hk, hu, hq⟩ ih
  simp only at ih ⊢
  by_cases hlt' : (k : Int) < b.length
  · have hd := lget_drop (default : Int) (Int.natCast_nonneg k) hlt'
    have hmem := hb _ (lget_mem (default : Int) (Int.natCast_nonneg k) hlt')
    rw [Int.toNat_natCast] at hd
    rw [hd] at hq
    generalize lget b (k : Int) default = c at hq hmem hd ⊢
    have h0 := hmem.1; have h1 := hmem.2
    have ew : IntKind.u64.wrap c = c := by rw [u64_wrap_eq]; omega
    have em : Int.tmod c 128 = c % 128 := Int.tmod_eq_emod_of_nonneg h0
    have h7 : decide (0 ≤ IntKind.i64.wrap (7 * (k : Int))) = true := by rw [wrap64 (by omega) (by omega)]; simp; omega
    simp only [decide_eq_true hlt', ibB_of (Int.natCast_nonneg k) hlt', cond_true, ew, em, h7]
    rw [pv] at hq
    by_cases h9 : k = 9 ∧ 1 < c
    · rw [if_pos h9] at hq
      have : ((k : Int) == 9 && decide (1 < c)) = true := by simp [h9.1, h9.2]
      rw [this, ← hq]; rfl
    · rw [if_neg h9] at hq
      have : ((k : Int) == 9 && decide (1 < c)) = false := by
        rw [Bool.eq_false_iff]; intro h
        simp only [Bool.and_eq_true, beq_iff_eq, decide_eq_true_eq] at h
        exact h9 ⟨by omega, h.2⟩
      rw [this]
      simp only [cond_false]
      have hs := shl_part (a := c % 128) (k := k) (by omega) (by omega) hk (fun h => by
        have : ¬ 1 < c := fun h' => h9 ⟨h, h'⟩
        omega)
      have h9' : k = 9 → (c % 128).toNat ≤ 1 := fun h => by
        have : ¬ 1 < c := fun h' => h9 ⟨h, h'⟩
        omega
      have hV := sum_lt hu (a := (c % 128).toNat) (by omega) hk h9'
      rw [hs]
      have ev : IntKind.u64.wrap ((u : Int) + (((c % 128).toNat * 128 ^ k : Nat) : Int)) = ((u + (c % 128).toNat * 128 ^ k : Nat) : Int) := by
        rw [u64_wrap_eq]; omega
      rw [ev]
      generalize hVe : u + (c % 128).toNat * 128 ^ k = v at hV hq ⊢
      have ek : IntKind.i64.wrap ((k : Int) + 1) = (k : Int) + 1 := wrap64 (by omega) (by omega)
      rw [ek]
      by_cases hc : 128 ≤ c
      · have ekk : ((k : Int) + 1).toNat = k + 1 := by omega
        rw [if_pos hc, ekk] at hq
        simp only [decide_eq_true hc, cond_true]
        have hk9 : k ≠ 9 := fun h => h9 ⟨h, by omega⟩
        exact ih ⟨(v : Int), (k : Int) + 1⟩ ⟨k + 1, v, by simp, rfl, by omega, hVe ▸ next_lt hu (by omega), hq⟩ (by simp; omega)
      · rw [if_neg hc] at hq
        have hd128 : decide (128 ≤ c) = false := by simpa using hc
        simp only [hd128, cond_false]
        by_cases hz : c = 0 ∧ 0 < k
        · rw [if_pos hz] at hq
          have : (c == 0 && decide (0 < (k : Int))) = true := by simp [hz.1]; omega
          rw [this, ← hq]; rfl
        · rw [if_neg hz] at hq
          have : (c == 0 && decide (0 < (k : Int))) = false := by
            rw [Bool.eq_false_iff]; intro h
            simp only [Bool.and_eq_true, beq_iff_eq, decide_eq_true_eq] at h
            exact hz ⟨h.1, by omega⟩
          rw [this]
          simp only [cond_false]
          have ec : c.toNat = (c % 128).toNat := by omega
          rw [ec, hVe] at hq
          rw [← hq, Int.tmod_eq_emod_of_nonneg (by omega), Int.tdiv_eq_ediv_of_nonneg (by omega)]
          unfold unzig
          by_cases hodd : v % 2 = 1
          · have : (((v : Int) % 2 == 1)) = true := by simp; omega
            rw [this, if_pos hodd, u64_wrap_eq]
            simp only [cond_true]
            rw [wrap64 (n := ((v : Int) / 2) % 18446744073709551616) (by omega) (by omega), wrap64 (n := 0 - _) (by omega) (by omega), wrap64 (by omega) (by omega)]
            congr 2
            omega
          · have : (((v : Int) % 2 == 1)) = false := by simp; omega
            rw [this, if_neg hodd, u64_wrap_eq]
            simp only [cond_false]
            rw [wrap64 (by omega) (by omega)]
            congr 2
            omega
  · have : decide ((k : Int) < b.length) = false := by simpa using hlt'
    simp only [this, cond_false]
    rw [List.drop_eq_nil_of_le (by omega)] at hq
    rw [← hq, pv]
section
variable {c : List Int} (hb : ∀ x ∈ c, byteR x)
end
def put1 (s : Int × List Int) (x : List Int) : Int × List Int := if s.2.length + x.length ≤ 1048576 then (s.1, s.2 ++ x) else (if s.1 = 0 then 3 else s.1, s.2)
def wr (e : Int) (w : List Int) (cs : List (List Int)) : Int × Bool × List Int := ((cs.foldl put1 (e, w)).1, true, (cs.foldl put1 (e, w)).2)
theorem put1_len {s : Int × List Int} (h : s.2.length ≤ 1048576) (x : List Int) : (put1 s x).2.length ≤ 1048576 := by
  unfold put1; split
  · simp; omega
  · exact h
theorem puts_len : ∀ (cs : List (List Int)) {s : Int × List Int}, s.2.length ≤ 1048576 → (cs.foldl put1 s).2.length ≤ 1048576
  | [], _, h => h
  | x :: cs, s, h => puts_len cs (put1_len h x)
theorem puts_fit : ∀ (cs : List (List Int)) (e : Int) (w : List Int), w.length + cs.flatten.length ≤ 1048576 → cs.foldl put1 (e, w) = (e, w ++ cs.flatten)
  | [], e, w, _ => by simp
  | x :: cs, e, w, h => by
    rw [List.flatten_cons, List.length_append] at h
    rw [List.foldl_cons, put1, if_pos (show w.length + x.length ≤ 1048576 by omega), puts_fit cs e (w ++ x) (by rw [List.length_append]; omega), List.flatten_cons, List.append_assoc]
theorem wr_cat (e : Int) (w : List Int) (a b : List (List Int)) : wr (wr e w a).1 (wr e w a).2.2 b = wr e w (a ++ b) := by
  simp only [wr, List.foldl_append]
theorem wr_len {e : Int} {w : List Int} (h : w.length ≤ 1048576) (cs : List (List Int)) : (wr e w cs).2.2.length ≤ 1048576 := puts_len cs h
theorem keep_eq (N : Nat) (e : Int) {w : List Int} (x : List Int) : (Frecord_writer_keep_9cd N (putAll w x).1 e (putAll w x).2.1 (putAll w x).2.2) = some (wr e w [x]) := by
  unfold Frecord_writer_keep_9cd wr putAll
  simp only [List.foldl_cons, List.foldl_nil, put1]
  by_cases h : w.length + x.length ≤ 1048576
  · by_cases he : e = 0
    · subst he; simp [h]
    · have : (e == 0) = false := by simpa using he
      simp [h, this]
  · by_cases he : e = 0
    · subst he; simp [h]
    · have : (e == 0) = false := by simpa using he
      simp [h, this, he]
def pI (n : Int) : List Int := vint (zig n)
def pB (l : List Int) : List Int := vint (zig (l.length : Int)) ++ l
def pT (s : List UInt8) : List Int := pB (bytesI s)
theorem bytesI_len (s : List UInt8) : (bytesI s).length = s.length := by simp [bytesI]
theorem ints_eq {N : Nat} (hN : 11 ≤ N) {l : List Int} (hl : l.length < N) (hl2 : l.length ≤ 1000000) (hr : ∀ n ∈ l, R64 n) {e : Int} {w : List Int} (hw : w.length ≤ 1048576) : Frecord_writer_ints_573 N l e true w = some (wr e w (l.map pI)) := by
  unfold Frecord_writer_ints_573
  refine iter_run (fun q : Srecord_writer_ints_573x1 => 0 ≤ q.t8 ∧ q.t8 ≤ (l.length : Int) ∧ q.b1 = true ∧ q.b12.length ≤ 1048576 ∧ wr q.b0 q.b12 ((l.drop q.t8.toNat).map pI) = wr e w (l.map pI)) (fun q => ((l.length : Int) - q.t8).toNat) ?_ N _ ⟨by simp, by simp, rfl, hw, by simp⟩ (by simp; omega)
  rintro ⟨i, b0, b1, b12⟩ nx ⟨g0, g1, rfl, g3, hq⟩ ih
  simp only at g0 g1 g3 hq ih ⊢
  by_cases hi : i < l.length
  · have hm := hr _ (lget_mem (default : Int) g0 hi)
    rw [lget_drop (default : Int) g0 hi, List.map_cons, ← List.singleton_append, ← wr_cat] at hq
    simp only [decide_eq_true hi, ibB_of g0 hi, cond_true]
    rw [F31_eq hN hm g3, Option.bind_some, keep_eq, Option.bind_some, wrap64 (by omega) (by omega)]
    exact ih ⟨i + 1, _, _, _⟩ ⟨by simp; omega, by simp; omega, rfl, wr_len g3 _, hq⟩ (by simp; omega)
  · have : decide (i < (l.length : Int)) = false := by simpa using hi
    simp only [this, cond_false]
    rw [List.drop_eq_nil_of_le (by omega)] at hq
    rw [← hq]; rfl
theorem small_eq {N : Nat} (hN : 11 ≤ N) {l : List Int} (hl : l.length < N) (hl2 : l.length ≤ 1000000) (hr : ∀ n ∈ l, R64 n) {e : Int} {w : List Int} (hw : w.length ≤ 1048576) : Frecord_writer_small_299 N l e true w = some (wr e w (l.map pI)) := by
  unfold Frecord_writer_small_299
  refine iter_run (fun q : Srecord_writer_small_299x1 => 0 ≤ q.t8 ∧ q.t8 ≤ (l.length : Int) ∧ q.b1 = true ∧ q.b12.length ≤ 1048576 ∧ wr q.b0 q.b12 ((l.drop q.t8.toNat).map pI) = wr e w (l.map pI)) (fun q => ((l.length : Int) - q.t8).toNat) ?_ N _ ⟨by simp, by simp, rfl, hw, by simp⟩ (by simp; omega)
  rintro ⟨i, b0, b1, b12⟩ nx ⟨g0, g1, rfl, g3, hq⟩ ih
  simp only at g0 g1 g3 hq ih ⊢
  by_cases hi : i < l.length
  · have hm := hr _ (lget_mem (default : Int) g0 hi)
    rw [lget_drop (default : Int) g0 hi, List.map_cons, ← List.singleton_append, ← wr_cat] at hq
    simp only [decide_eq_true hi, ibB_of g0 hi, cond_true]
    rw [F31_eq hN hm g3, Option.bind_some, keep_eq, Option.bind_some, wrap64 (by omega) (by omega)]
    exact ih ⟨i + 1, _, _, _⟩ ⟨by simp; omega, by simp; omega, rfl, wr_len g3 _, hq⟩ (by simp; omega)
  · have : decide (i < (l.length : Int)) = false := by simpa using hi
    simp only [this, cond_false]
    rw [List.drop_eq_nil_of_le (by omega)] at hq
    rw [← hq]; rfl
theorem text_eq {N : Nat} (hN : 11 ≤ N) {s : List UInt8} (hs : s.length ≤ 1048576) {w : List Int} (hw : w.length ≤ 1048576) : Fwire_Writer_Text_caa N s true w = some (putAll w (pT s)) := by
  unfold Fwire_Writer_Text_caa
  rw [F32_eq hN (by rw [bytesI_len]; exact hs) hw]; rfl
theorem texts_eq {N : Nat} (hN : 11 ≤ N) {l : List (List UInt8)} (hl : l.length < N) (hl2 : l.length ≤ 1000000) (hr : ∀ n ∈ l, n.length ≤ 1048576) {e : Int} {w : List Int} (hw : w.length ≤ 1048576) : Frecord_writer_texts_53d N l e true w = some (wr e w (l.map pT)) := by
  unfold Frecord_writer_texts_53d
  refine iter_run (fun q : Srecord_writer_texts_53dx1 => 0 ≤ q.t8 ∧ q.t8 ≤ (l.length : Int) ∧ q.b1 = true ∧ q.b12.length ≤ 1048576 ∧ wr q.b0 q.b12 ((l.drop q.t8.toNat).map pT) = wr e w (l.map pT)) (fun q => ((l.length : Int) - q.t8).toNat) ?_ N _ ⟨by simp, by simp, rfl, hw, by simp⟩ (by simp; omega)
  rintro ⟨i, b0, b1, b12⟩ nx ⟨g0, g1, rfl, g3, hq⟩ ih
  simp only at g0 g1 g3 hq ih ⊢
  by_cases hi : i < l.length
  · have hm := hr _ (lget_mem (default : (List UInt8)) g0 hi)
    rw [lget_drop (default : (List UInt8)) g0 hi, List.map_cons, ← List.singleton_append, ← wr_cat] at hq
    simp only [decide_eq_true hi, ibB_of g0 hi, cond_true]
    rw [text_eq hN hm g3, Option.bind_some, keep_eq, Option.bind_some, wrap64 (by omega) (by omega)]
    exact ih ⟨i + 1, _, _, _⟩ ⟨by simp; omega, by simp; omega, rfl, wr_len g3 _, hq⟩ (by simp; omega)
  · have : decide (i < (l.length : Int)) = false := by simpa using hi
    simp only [this, cond_false]
    rw [List.drop_eq_nil_of_le (by omega)] at hq
    rw [← hq]; rfl
def MayOp (o : GOp) : Prop := (0 ≤ o.Stamp.Time ∧ o.Stamp.Time ≤ 1099511627776) ∧ (0 ≤ o.Stamp.Site ∧ o.Stamp.Site < 8) ∧ (1 ≤ o.Kind ∧ o.Kind ≤ 3) ∧ (0 ≤ o.Node ∧ o.Node ≤ 1125899906842624) ∧ (0 ≤ o.Parent ∧ o.Parent ≤ 1125899906842624) ∧
  o.Name.length ≤ 255 ∧ o.Key.length ≤ 255 ∧ o.Value.length ≤ 255
instance (o : GOp) : Decidable (MayOp o) := by unfold MayOp; infer_instance
def opC (o : GOp) : List (List Int) := [o.Stamp.Time].map pI ++ [o.Stamp.Site, o.Kind].map pI ++ [o.Node, o.Parent].map pI ++ [o.Name, o.Key, o.Value].map pT
def opB (o : GOp) : List Int := (opC o).flatten
theorem opw_eq {N : Nat} (hN : 20 ≤ N) {o : GOp} (ho : MayOp o) {e : Int} {w : List Int} (hw : w.length ≤ 1048576) : Frecord_writer_op_e6d N o e true w = some (wr e w (opC o)) := by
  obtain ⟨h1, h2, h3, h4, h5, h6, h7, h8⟩ := ho
  unfold Frecord_writer_op_e6d
  rw [ints_eq (by omega) (by simp; omega) (by simp) (by intro n hn; simp at hn; subst hn; exact ⟨by omega, by omega⟩) hw, Option.bind_some]
  rw [show (wr e w (List.map pI [o.Stamp.Time])).2.1 = true from rfl, small_eq (by omega) (by simp; omega) (by simp) (by intro n hn; simp at hn; rcases hn with rfl | rfl <;> exact ⟨by omega, by omega⟩) (wr_len hw _), wr_cat, Option.bind_some]
  rw [show (wr e w (List.map pI [o.Stamp.Time] ++ List.map pI [o.Stamp.Site, o.Kind])).2.1 = true from rfl, ints_eq (by omega) (by simp; omega) (by simp) (by intro n hn; simp at hn; rcases hn with rfl | rfl <;> exact ⟨by omega, by omega⟩) (wr_len hw _), wr_cat, Option.bind_some]
  rw [show (wr e w (List.map pI [o.Stamp.Time] ++ List.map pI [o.Stamp.Site, o.Kind] ++ List.map pI [o.Node, o.Parent])).2.1 = true from rfl, texts_eq (by omega) (by simp; omega) (by simp) (by intro n hn; simp at hn; rcases hn with rfl | rfl | rfl <;> omega) (wr_len hw _), wr_cat, Option.bind_some]
  rfl
theorem pI_len {n : Int} (h : R64 n) : (pI n).length ≤ 10 := vint_len10 (zig_lt h)
theorem pT_len {s : List UInt8} (h : s.length ≤ 1048576) : (pT s).length ≤ s.length + 10 := by
  have := vint_len10 (zig_lt (n := ((bytesI s).length : Int)) ⟨by omega, by rw [bytesI_len]; omega⟩)
  unfold pT pB; rw [List.length_append, bytesI_len] at *; omega
theorem opB_len {o : GOp} (ho : MayOp o) : (opB o).length ≤ 845 := by
  obtain ⟨h1, h2, h3, h4, h5, h6, h7, h8⟩ := ho
  have a1 := pI_len (n := o.Stamp.Time) ⟨by omega, by omega⟩
  have a2 := pI_len (n := o.Stamp.Site) ⟨by omega, by omega⟩
  have a3 := pI_len (n := o.Kind) ⟨by omega, by omega⟩
  have a4 := pI_len (n := o.Node) ⟨by omega, by omega⟩
  have a5 := pI_len (n := o.Parent) ⟨by omega, by omega⟩
  have a6 := pT_len (s := o.Name) (by omega)
  have a7 := pT_len (s := o.Key) (by omega)
  have a8 := pT_len (s := o.Value) (by omega)
  simp only [opB, opC, List.map_cons, List.map_nil, List.flatten_append, List.flatten_cons, List.flatten_nil, List.length_append, List.length_nil]
  omega
theorem begun_eq {N : Nat} (hN : 60 ≤ N) : Flaw04_begun N = some true := by
  obtain ⟨k, rfl⟩ : ∃ k, N = k + 60 := ⟨N - 60, by omega⟩
  kernel_rfl
section
variable {N : Nat}
theorem count1 (hN : 5 ≤ N) (a : Int) : Frecord_count N [a] = some (decide (0 ≤ a ∧ a ≤ 1099511627776)) := by
  obtain ⟨k, rfl⟩ : ∃ k, N = k + 5 := ⟨N - 5, by omega⟩
  have : Frecord_count (k + 5) [a] = (bif (decide (a < 0)) || (decide (1099511627776 < a)) then some false else some true) := by kernel_rfl
  rw [this]
  by_cases h1 : a < 0 <;> by_cases h2 : 1099511627776 < a <;> simp [h1, h2] <;> omega
theorem site1 (hN : 5 ≤ N) (a : Int) : Frecord_site N [a] = some (decide (0 ≤ a ∧ a < 8)) := by
  obtain ⟨k, rfl⟩ : ∃ k, N = k + 5 := ⟨N - 5, by omega⟩
  have : Frecord_site (k + 5) [a] = (bif (decide (a < 0)) || (decide (8 ≤ a)) then some false else some true) := by kernel_rfl
  rw [this]
  by_cases h1 : a < 0 <;> by_cases h2 : 8 ≤ a <;> simp [h1, h2] <;> omega
theorem node2 (hN : 5 ≤ N) (a b : Int) : Frecord_node N [a, b] = some (decide ((0 ≤ a ∧ a ≤ 1125899906842624) ∧ (0 ≤ b ∧ b ≤ 1125899906842624))) := by
  obtain ⟨k, rfl⟩ : ∃ k, N = k + 5 := ⟨N - 5, by omega⟩
  have : Frecord_node (k + 5) [a, b] = (bif (decide (a < 0)) || (decide (1125899906842624 < a)) then some false else bif (decide (b < 0)) || (decide (1125899906842624 < b)) then some false else some true) := by kernel_rfl
  rw [this]
  by_cases h1 : a < 0 <;> by_cases h2 : 1125899906842624 < a <;> by_cases h3 : b < 0 <;> by_cases h4 : 1125899906842624 < b <;> simp [h1, h2, h3, h4] <;> omega
theorem text3 (hN : 6 ≤ N) (a b c : List UInt8) : Frecord_text N [a, b, c] = some (decide (a.length ≤ 255 ∧ b.length ≤ 255 ∧ c.length ≤ 255)) := by
  obtain ⟨k, rfl⟩ : ∃ k, N = k + 6 := ⟨N - 6, by omega⟩
  have : Frecord_text (k + 6) [a, b, c] = (bif decide (255 < (a.length : Int)) then some false else bif decide (255 < (b.length : Int)) then some false else bif decide (255 < (c.length : Int)) then some false else some true) := by kernel_rfl
  rw [this]
  by_cases h1 : 255 < (a.length : Int) <;> by_cases h2 : 255 < (b.length : Int) <;> by_cases h3 : 255 < (c.length : Int) <;> simp [h1, h2, h3] <;> omega
theorem mayOp_eq (hN : 10 ≤ N) (o : GOp) : Frecord_mayOp N o = some (decide (MayOp o)) := by
  unfold Frecord_mayOp
  simp only [count1 (N := N) (by omega), site1 (N := N) (by omega), node2 (N := N) (by omega), text3 (N := N) (by omega), Option.bind_some]
  unfold MayOp
  by_cases h1 : (0 ≤ o.Stamp.Time ∧ o.Stamp.Time ≤ 1099511627776) <;> by_cases h2 : (0 ≤ o.Stamp.Site ∧ o.Stamp.Site < 8) <;> by_cases h3 : 1 ≤ o.Kind <;> by_cases h4 : o.Kind ≤ 3 <;>
    by_cases h5 : ((0 ≤ o.Node ∧ o.Node ≤ 1125899906842624) ∧ (0 ≤ o.Parent ∧ o.Parent ≤ 1125899906842624)) <;> simp [h1, h2, h3, h4, h5] <;> omega
theorem refMayOp_eq (o : GOp) : Fref04_MayOp N o = some (decide (MayOp o)) := by
  unfold Fref04_MayOp Fref04_MayStamp Fref04_count Fref04_site Fref04_node MayOp
  simp only [Option.bind_some]
  by_cases h1 : 0 ≤ o.Stamp.Time <;> by_cases h1' : o.Stamp.Time ≤ 1099511627776 <;> simp [h1, h1']
  by_cases h2 : 0 ≤ o.Stamp.Site <;> by_cases h2' : o.Stamp.Site < 8 <;> simp [h2, h2']
  by_cases h3 : 1 ≤ o.Kind <;> by_cases h4 : o.Kind ≤ 3 <;> simp [h3, h4]
  by_cases h5 : 0 ≤ o.Node <;> by_cases h5' : o.Node ≤ 1125899906842624 <;> simp [h5, h5']
  by_cases h6 : 0 ≤ o.Parent <;> by_cases h6' : o.Parent ≤ 1125899906842624 <;> simp [h6, h6']
  by_cases h7 : o.Name.length ≤ 255 <;> by_cases h8 : o.Key.length ≤ 255 <;> by_cases h9 : o.Value.length ≤ 255 <;> simp [h7, h8, h9] <;> omega
theorem checkOp_eq (hN : 10 ≤ N) (o : GOp) : Frecord_CheckOp N o = some (if MayOp o then 0 else 40) := by
  unfold Frecord_CheckOp Frecord_verdict
  rw [mayOp_eq hN, Option.bind_some]
  by_cases h : MayOp o <;> simp [h]
theorem refCheckOp_eq (o : GOp) : Fref04_CheckOp N o = some (if MayOp o then 0 else 40) := by
  unfold Fref04_CheckOp Fref04_Errno
  rw [refMayOp_eq, Option.bind_some]
  by_cases h : MayOp o <;> simp [h]
theorem num_eq (hN : 20 ≤ N) {l : List Int} (hl : l.length < N) (hl2 : l.length ≤ 1000000) (hr : ∀ n ∈ l, R64 n) : Fref04_num_b16 N l = some (l.map pI).flatten := by
  unfold Fref04_num_b16
  refine iter_run (fun q : Sref04_num_b16x2 => 0 ≤ q.i ∧ q.i ≤ (l.length : Int) ∧ (q.b.length : Int) ≤ 10 * q.i ∧ q.b ++ ((l.drop q.i.toNat).map pI).flatten = (l.map pI).flatten) (fun q => ((l.length : Int) - q.i).toNat) ?_ N _ ⟨by simp, by simp, by simp, by simp⟩ (by simp; omega)
  rintro ⟨b, i⟩ nx ⟨g0, g1, g2, hq⟩ ih
  simp only at g0 g1 g2 hq ih ⊢
  by_cases hi : i < l.length
  · have hm := hr _ (lget_mem (default : Int) g0 hi)
    have hp := pI_len hm
    rw [lget_drop (default : Int) g0 hi, List.map_cons, List.flatten_cons] at hq
    simp only [decide_eq_true hi, ibB_of g0 hi, cond_true]
    rw [F41_eq (by omega) hm, Option.bind_some, lenB_of (by unfold pI at hp; omega), wrap64 (by omega) (by omega)]
    exact ih ⟨_, i + 1⟩ ⟨by simp; omega, by simp; omega, by simp only [List.length_append]; unfold pI at hp; omega, by simp only [List.append_assoc]; exact hq⟩ (by simp; omega)
  · have : decide (i < (l.length : Int)) = false := by simpa using hi
    simp only [this, cond_false]
    rw [List.drop_eq_nil_of_le (by omega)] at hq
    rw [← hq]; simp
theorem reftext_eq (hN : 20 ≤ N) {b : List Int} {s : List UInt8} (hb : b.length ≤ 10000000) (hs : s.length ≤ 1048576) : Fref04_text_aa6 N b s = some (b ++ pT s) := by
  have hp := pT_len hs
  unfold Fref04_text_aa6
  rw [F36_eq (by omega) (by rw [bytesI_len]; exact hs), Option.bind_some, lenB_of (by unfold pT pB at hp; omega)]
  rfl
theorem opForm_eq (hN : 20 ≤ N) {o : GOp} (ho : MayOp o) : Fref04_OpForm N o = some (opB o) := by
  have ho' := ho
  obtain ⟨h1, h2, h3, h4, h5, h6, h7, h8⟩ := ho'
  have a1 := pI_len (n := o.Stamp.Time) ⟨by omega, by omega⟩
  have a2 := pI_len (n := o.Stamp.Site) ⟨by omega, by omega⟩
  have a3 := pI_len (n := o.Kind) ⟨by omega, by omega⟩
  have a4 := pI_len (n := o.Node) ⟨by omega, by omega⟩
  have a5 := pI_len (n := o.Parent) ⟨by omega, by omega⟩
  have a6 := pT_len (s := o.Name) (by omega)
  have a7 := pT_len (s := o.Key) (by omega)
  unfold Fref04_OpForm
  rw [num_eq hN (by simp; omega) (by simp) (by intro n hn; simp at hn; rcases hn with rfl | rfl | rfl | rfl | rfl <;> exact ⟨by omega, by omega⟩), Option.bind_some]
  have hb : (([o.Stamp.Time, o.Stamp.Site, o.Kind, o.Node, o.Parent].map pI).flatten).length ≤ 50 := by simp; omega
  rw [reftext_eq hN (by omega) (by omega), Option.bind_some, reftext_eq hN (by rw [List.length_append]; omega) (by omega), Option.bind_some, reftext_eq hN (by simp only [List.length_append]; omega) (by omega), Option.bind_some]
  simp [opB, opC]
theorem made_eq (hN : 20 ≤ N) {w : List Int} (hw : w.length ≤ 1048576) : Frecord_made_052 N true w = some (0, true, w) := by
  have h0 : Fwire_number N 0 = some [0] := by
    obtain ⟨k, rfl⟩ : ∃ k, N = k + 20 := ⟨N - 20, by omega⟩
    kernel_rfl
  have h1 : ∃ e, Fwire_Writer_put_521 N [0] true w = some (e, true) ∧ (e == 2) = false := by
    unfold Fwire_Writer_put_521 Fwire_Writer_none_384
    simp only [Option.bind_some, Bool.not_true, cond_false]
    cases decide (IntKind.i64.wrap (1048576 - (w.length : Int)) < (([0] : List Int).length : Int)) with
    | true => exact ⟨3, rfl, rfl⟩
    | false =>
      rw [lenB_of (by simp; omega)]
      exact ⟨0, rfl, rfl⟩
  obtain ⟨e, h1, h2⟩ := h1
  unfold Frecord_made_052 Fwire_Writer_Int_204
  rw [h0, Option.bind_some, h1, Option.bind_some, Option.bind_some]
  simp only [h2, cond_false]
theorem len_eq (w : List Int) : Fwire_Writer_Len_052 N true w = some ((w.length : Int), true, w) := rfl
theorem put1op_eq (hN : 20 ≤ N) {o : GOp} (ho : MayOp o) {e : Int} {w : List Int} (hw : w.length ≤ 1048576) : Frecord_PutOp_1_64d N e o true w = some ((wr e w (opC o)).1, o, true, (wr e w (opC o)).2.2) := by
  unfold Frecord_PutOp_1_64d
  rw [opw_eq hN ho hw]; rfl
theorem wr_fit {e : Int} {w : List Int} {cs : List (List Int)} (h : w.length + cs.flatten.length ≤ 1048576) : wr e w cs = (e, true, w ++ cs.flatten) := by
  unfold wr; rw [puts_fit cs e w h]
theorem wholeOp_eq (hN : 20 ≤ N) {o : GOp} (ho : MayOp o) {w : List Int} (hw : w.length ≤ 1048576) : Frecord_whole_a34 N true w o = some (if w.length + (opB o).length ≤ 1048576 then (0, true, w ++ opB o, o) else (3, true, w, o)) := by
  have hlen := opB_len ho
  have hf : wr 0 [] (opC o) = (0, true, opB o) := wr_fit (by simp only [List.length_nil]; unfold opB at hlen; omega)
  unfold Frecord_whole_a34 Fwire_NewWriter
  rw [Option.bind_some, put1op_eq hN ho (by simp), hf, Option.bind_some]
  simp only [beq_self_eq_true, Bool.not_true, Bool.not_false, cond_true, Bool.false_or, len_eq, Option.bind_some]
  rw [wrap64 (by omega) (by omega)]
  by_cases h : w.length + (opB o).length ≤ 1048576
  · have : decide ((1048576 : Int) - (w.length : Int) < ((opB o).length : Int)) = false := by simp; omega
    rw [this, if_pos h]
    simp only [cond_false]
    rw [put1op_eq hN ho hw, wr_fit (by unfold opB at h; exact h)]
    rfl
  · have : decide ((1048576 : Int) - (w.length : Int) < ((opB o).length : Int)) = true := by simp; omega
    rw [this, if_neg h]; rfl
theorem putOp_eq (hN : 20 ≤ N) (o : GOp) {w : List Int} (hw : w.length ≤ 1048576) : Frecord_PutOp_66b N o true w =
    some (if MayOp o then (if w.length + (opB o).length ≤ 1048576 then (0, true, w ++ opB o) else (3, true, w)) else (40, true, w)) := by
  unfold Frecord_PutOp_66b
  rw [made_eq hN hw, Option.bind_some, checkOp_eq (by omega)]
  by_cases ho : MayOp o
  · simp only [if_pos ho, Option.bind_some, beq_self_eq_true, Bool.not_true, cond_false]
    rw [wholeOp_eq hN ho hw]
    split <;> rfl
  · simp only [if_neg ho]; rfl
end
def cnt (n : Int) : Prop := 0 ≤ n ∧ n ≤ 1099511627776
instance (n : Int) : Decidable (cnt n) := by unfold cnt; infer_instance
def sit (n : Int) : Prop := 0 ≤ n ∧ n < 8
instance (n : Int) : Decidable (sit n) := by unfold sit; infer_instance
def MayVec (v : Vector Int 8) : Prop := ∀ n ∈ v.toList, cnt n
instance (v : Vector Int 8) : Decidable (MayVec v) := by unfold MayVec; infer_instance
def epOk (e : GEpoch) (j : Nat) : Prop := (0 ≤ vget e.States j default ∧ vget e.States j default ≤ 3) ∧ (-1 ≤ vget e.Sponsor j default ∧ vget e.Sponsor j default < 8)
instance (e : GEpoch) (j : Nat) : Decidable (epOk e j) := by unfold epOk; infer_instance
def MayEp (e : GEpoch) : Prop := cnt e.Number ∧ MayVec e.Seals ∧ ∀ j, j < 8 → epOk e j
def MayPt (p : GPart) : Prop := cnt p.Snap ∧ (1 ≤ p.Many ∧ p.Many ≤ 4096) ∧ (0 ≤ p.Index ∧ p.Index < p.Many) ∧ p.Data.length ≤ 16384
instance (p : GPart) : Decidable (MayPt p) := by unfold MayPt; infer_instance
def MayOps (l : List GOp) : Prop := 1 ≤ l.length ∧ l.length ≤ 4096 ∧ ∀ o ∈ l, MayOp o
instance (l : List GOp) : Decidable (MayOps l) := by unfold MayOps; infer_instance
theorem bif_some {α : Type} (c : Bool) (x y : α) : (bif c then some x else some y) = some (bif c then x else y) := by cases c <;> rfl
theorem and_bif (c x y : Bool) : (c && (bif c then x else y)) = (c && x) := by cases c <;> rfl
section
variable {N : Nat}
theorem beq2_iff (x y : Int) : beq2 x y = true ↔ x = y := by simp [beq2]
theorem beq3_iff (x y : Int) : beq3 x y = true ↔ x = y := by simp [beq3]
def byt (l : List Int) : Prop := ∀ x ∈ l, byteR x
end
theorem bdec {b : Bool} {P : Prop} [inst : Decidable P] (h : b = true ↔ P) : b = decide P := by
  by_cases hp : P
  · rw [decide_eq_true hp]; exact h.2 hp
  · rw [decide_eq_false hp]
    cases b with
    | false => rfl
    | true => exact absurd (h.1 rfl) hp
instance (e : GEpoch) : Decidable (MayEp e) := by unfold MayEp; infer_instance
section
variable {N : Nat}
theorem countL {l : List Int} (hN : l.length < N) (hl : l.length ≤ 1000000) : Frecord_count N l = some (l.all fun n => decide (cnt n)) := by
  unfold Frecord_count
  refine iter_run (fun q : Srecord_countx2 => 0 ≤ q.t7 ∧ q.t7 ≤ (l.length : Int) ∧ ((l.drop q.t7.toNat).all fun n => decide (cnt n)) = l.all fun n => decide (cnt n)) (fun q => ((l.length : Int) - q.t7).toNat) ?_ N _ ⟨by simp, by simp, by simp⟩ (by simp; omega)
  rintro ⟨i⟩ nx ⟨g0, g1, hq⟩ ih
  simp only at g0 g1 hq ih ⊢
  by_cases hi : i < l.length
  · rw [lget_drop (default : Int) g0 hi, List.all_cons] at hq
    simp only [decide_eq_true hi, ibB_of g0 hi, cond_true]
    generalize lget l i default = n at hq ⊢
    by_cases hn : cnt n
    · have h1 : decide (n < 0) = false := by simpa using hn.1
      have h2 : decide (1099511627776 < n) = false := by simpa using hn.2
      rw [decide_eq_true hn, Bool.true_and] at hq
      simp only [h1, h2, Bool.or_self, cond_false]
      rw [wrap64 (by omega) (by omega)]
      exact ih ⟨i + 1⟩ ⟨by simp; omega, by simp; omega, hq⟩ (by simp; omega)
    · have h1 : (decide (n < 0) || decide (1099511627776 < n)) = true := by unfold cnt at hn; simp; omega
      rw [decide_eq_false hn, Bool.false_and] at hq
      rw [h1, ← hq]; rfl
  · have : decide (i < (l.length : Int)) = false := by simpa using hi
    simp only [this, cond_false]
    rw [List.drop_eq_nil_of_le (by omega)] at hq
    rw [← hq]; rfl
theorem mayVec_iff (v : Vector Int 8) : (v.toList.all fun n => decide (cnt n)) = decide (MayVec v) := by
  exact bdec (by unfold MayVec; simp only [List.all_eq_true, decide_eq_true_eq])
theorem mayEpoch_eq (hN : 20 ≤ N) (e : GEpoch) : Frecord_mayEpoch N e = some (decide (MayEp e)) := by
  unfold Frecord_mayEpoch
  rw [countL (by simp; omega) (by simp), Option.bind_some]
  by_cases hn : cnt e.Number
  · simp only [List.all_cons, List.all_nil, Bool.and_true, decide_eq_true hn, cond_true, Bool.true_and]
    rw [countL (by simp; omega) (by simp), Option.bind_some, mayVec_iff]
    refine iter_run (fun q : Srecord_mayEpochx3 => 0 ≤ q.t14 ∧ q.t14 ≤ 8 ∧ (q.ok = true ↔ MayVec e.Seals ∧ ∀ j, j < q.t14.toNat → epOk e j)) (fun q => (8 - q.t14).toNat) ?_ N _ ⟨by simp, by simp, by simp⟩ (by simp; omega)
    rintro ⟨ok, i⟩ nx ⟨g0, g1, hq⟩ ih
    simp only at g0 g1 hq ih ⊢
    by_cases hi : i < 8
    · simp only [decide_eq_true hi, ibB_of g0 hi, Bool.or_true, cond_true]
      rw [wrap64 (by omega) (by omega)]
      refine ih ⟨_, i + 1⟩ ⟨by simp; omega, by simp; omega, ?_⟩ (by simp; omega)
      simp only
      rw [show (i + 1).toNat = i.toNat + 1 by omega]
      have this : (((0 ≤ vget e.States i.toNat default ∧ vget e.States i.toNat default ≤ 3) ∧ -1 ≤ vget e.Sponsor i.toNat default) ∧ vget e.Sponsor i.toNat default < 8) ↔ epOk e i.toNat := by unfold epOk; rw [and_assoc]
      simp only [Bool.and_eq_true, decide_eq_true_eq, hq]
      constructor
      · rintro ⟨⟨⟨⟨⟨h0, h1⟩, h2⟩, h3⟩, h4⟩, h5⟩
        refine ⟨h0, fun j hj => ?_⟩
        rcases Nat.lt_succ_iff_lt_or_eq.1 hj with h | rfl
        · exact h1 j h
        · exact this.1 ⟨⟨⟨h2, h3⟩, h4⟩, h5⟩
      · rintro ⟨h0, h1⟩
        obtain ⟨⟨⟨h2, h3⟩, h4⟩, h5⟩ := this.2 (h1 _ (Nat.lt_succ_self _))
        exact ⟨⟨⟨⟨⟨h0, fun j hj => h1 j (Nat.lt_succ_of_lt hj)⟩, h2⟩, h3⟩, h4⟩, h5⟩
    · have : decide (i < (8 : Int)) = false := by simpa using hi
      simp only [this, cond_false]
      refine congrArg some (bdec ?_)
      rw [hq, show i.toNat = 8 by omega]
      unfold MayEp
      exact ⟨fun h => ⟨hn, h⟩, fun h => h.2⟩
  · have hno : ¬ MayEp e := fun h => hn h.1
    simp only [List.all_cons, List.all_nil, Bool.and_true, decide_eq_false hn, cond_false, decide_eq_false hno]
    refine iter_run (fun q : Srecord_mayEpochx3a => 0 ≤ q.t14 ∧ q.t14 ≤ 8 ∧ q.ok = false) (fun q => (8 - q.t14).toNat) ?_ N _ ⟨by simp, by simp, rfl⟩ (by simp; omega)
    rintro ⟨ok, i⟩ nx ⟨g0, g1, rfl⟩ ih
    simp only at g0 g1 ih ⊢
    by_cases hi : i < 8
    · simp only [decide_eq_true hi, ibB_of g0 hi, Bool.or_true, cond_true, Bool.false_and]
      rw [wrap64 (by omega) (by omega)]
      exact ih ⟨_, i + 1⟩ ⟨by simp; omega, by simp; omega, rfl⟩ (by simp; omega)
    · have : decide (i < (8 : Int)) = false := by simpa using hi
      simp only [this, cond_false]
theorem refMayVec_eq (hN : 20 ≤ N) (v : Vector Int 8) : Fref04_MayVector N v = some (decide (MayVec v)) := by
  unfold Fref04_MayVector Fref04_count
  refine iter_run (fun q : Sref04_MayVectorx2 => 0 ≤ q.i ∧ q.i ≤ 8 ∧ ∀ j, j < q.i.toNat → cnt (vget v j default)) (fun q => (8 - q.i).toNat) ?_ N _ ⟨by simp, by simp, by simp⟩ (by simp; omega)
  rintro ⟨i⟩ nx ⟨g0, g1, hq⟩ ih
  simp only at g0 g1 hq ih ⊢
  by_cases hi : i < 8
  · simp only [decide_eq_true hi, ibB_of g0 hi, cond_true, Option.bind_some]
    have hc : (decide (0 ≤ vget v i.toNat default) && decide (vget v i.toNat default ≤ 1099511627776)) = decide (cnt (vget v i.toNat default)) := bdec (by simp only [Bool.and_eq_true, decide_eq_true_eq]; exact Iff.rfl)
    rw [hc]
    by_cases hv : cnt (vget v i.toNat default)
    · rw [decide_eq_true hv, wrap64 (by omega) (by omega)]
      refine ih ⟨i + 1⟩ ⟨by simp; omega, by simp; omega, fun j hj => ?_⟩ (by simp; omega)
      simp only at hj
      rw [show (i + 1).toNat = i.toNat + 1 by omega] at hj
      rcases Nat.lt_succ_iff_lt_or_eq.1 hj with h | rfl
      · exact hq j h
      · exact hv
    · rw [decide_eq_false hv]
      have : ¬ MayVec v := fun h => hv (h _ (vget_mem v default (by omega)))
      simp [this]
  · have : decide (i < (8 : Int)) = false := by simpa using hi
    simp only [this, cond_false]
    have : MayVec v := fun n hn => by
      obtain ⟨j, hj, rfl⟩ := List.getElem_of_mem hn
      have hj8 : j < 8 := by simpa using hj
      have := hq j (by omega)
      rw [vgetE v default hj8] at this
      simpa using this
    simp [this]
theorem refMayEpoch_eq (hN : 20 ≤ N) (e : GEpoch) : Fref04_MayEpoch N e = some (decide (MayEp e)) := by
  unfold Fref04_MayEpoch
  refine iter_run (fun q : Sref04_MayEpochx2 => 0 ≤ q.i ∧ q.i ≤ 8 ∧ ∀ j, j < q.i.toNat → epOk e j) (fun q => (8 - q.i).toNat) ?_ N _ ⟨by simp, by simp, by simp⟩ (by simp; omega)
  rintro ⟨i⟩ nx ⟨g0, g1, hq⟩ ih
  simp only at g0 g1 hq ih ⊢
  by_cases hi : i < 8
  · simp only [decide_eq_true hi, ibB_of g0 hi, cond_true, Bool.or_true]
    have hc : (((decide (vget e.States i.toNat default < 0) || decide (3 < vget e.States i.toNat default)) || decide (vget e.Sponsor i.toNat default < -1)) || decide (8 ≤ vget e.Sponsor i.toNat default)) = !decide (epOk e i.toNat) := by
      by_cases hv : epOk e i.toNat
      · have hv' := hv
        obtain ⟨⟨h1, h2⟩, h3, h4⟩ := hv'
        rw [decide_eq_true hv, decide_eq_false (by omega), decide_eq_false (by omega), decide_eq_false (by omega), decide_eq_false (by omega)]; rfl
      · rw [decide_eq_false hv]
        unfold epOk at hv
        simp only [Bool.or_eq_true, decide_eq_true_eq, Bool.not_false]
        omega
    rw [hc]
    by_cases hv : epOk e i.toNat
    · rw [decide_eq_true hv, wrap64 (by omega) (by omega)]
      refine ih ⟨i + 1⟩ ⟨by simp; omega, by simp; omega, fun j hj => ?_⟩ (by simp; omega)
      simp only at hj
      rw [show (i + 1).toNat = i.toNat + 1 by omega] at hj
      rcases Nat.lt_succ_iff_lt_or_eq.1 hj with h | rfl
      · exact hq j h
      · exact hv
    · rw [decide_eq_false hv]
      have : ¬ MayEp e := fun h => hv (h.2.2 _ (by omega))
      simp [this]
  · have : decide (i < (8 : Int)) = false := by simpa using hi
    simp only [this, cond_false]
    rw [refMayVec_eq hN]
    unfold Fref04_count
    simp only [Option.bind_some, bif_some, and_bif]
    have hall : ∀ j, j < 8 → epOk e j := fun j hj => hq j (by omega)
    refine congrArg some (bdec ?_)
    unfold MayEp cnt
    simp only [Bool.and_eq_true, decide_eq_true_eq]
    exact ⟨fun h => ⟨h.1, h.2, hall⟩, fun h => ⟨h.1, h.2.1⟩⟩
end
section
variable {N : Nat}
end
section
variable {N : Nat}
end
theorem cnt64 {n : Int} (h : cnt n) : R64 n := ⟨by have := h.1; omega, by have := h.2; omega⟩
def epC (e : GEpoch) : List (List Int) := [e.Number].map pI ++ e.States.toList.map pI ++ e.Seals.toList.map pI ++ e.Sponsor.toList.map pI
def opsC (l : List GOp) : List (List Int) := [(l.length : Int)].map pI ++ (l.map opC).flatten
section
variable {N : Nat} {e0 : Int} {w : List Int}
theorem wr_true (e : Int) (w : List Int) (cs : List (List Int)) : (wr e w cs).2.1 = true := rfl
theorem ints1 (hN : 20 ≤ N) {a : Int} (ha : R64 a) (hw : w.length ≤ 1048576) : Frecord_writer_ints_573 N [a] e0 true w = some (wr e0 w ([a].map pI)) :=
  ints_eq (by omega) (by simp; omega) (by simp) (by intro n hn; simp at hn; subst hn; exact ha) hw
theorem ints8 (hN : 20 ≤ N) {v : Vector Int 8} (hv : ∀ n ∈ v.toList, R64 n) (hw : w.length ≤ 1048576) : Frecord_writer_ints_573 N v.toList e0 true w = some (wr e0 w (v.toList.map pI)) :=
  ints_eq (by omega) (by simp; omega) (by simp) hv hw
theorem small8 (hN : 20 ≤ N) {v : Vector Int 8} (hv : ∀ n ∈ v.toList, R64 n) (hw : w.length ≤ 1048576) : Frecord_writer_small_299 N v.toList e0 true w = some (wr e0 w (v.toList.map pI)) :=
  small_eq (by omega) (by simp; omega) (by simp) hv hw
theorem ep_states {e : GEpoch} (h : MayEp e) : (∀ n ∈ e.States.toList, R64 n) ∧ (∀ n ∈ e.Sponsor.toList, R64 n) ∧ ∀ n ∈ e.Seals.toList, R64 n := by
  refine ⟨fun n hn => ?_, fun n hn => ?_, fun n hn => cnt64 (h.2.1 n hn)⟩
  · obtain ⟨j, hj, rfl⟩ := List.getElem_of_mem hn
    have hj8 : j < 8 := by simpa using hj
    have := (h.2.2 j hj8).1
    rw [vgetE e.States default hj8] at this
    have e1 : e.States.toList[j] = e.States[j] := by simp
    rw [e1]; exact ⟨by omega, by omega⟩
  · obtain ⟨j, hj, rfl⟩ := List.getElem_of_mem hn
    have hj8 : j < 8 := by simpa using hj
    have := (h.2.2 j hj8).2
    rw [vgetE e.Sponsor default hj8] at this
    have e1 : e.Sponsor.toList[j] = e.Sponsor[j] := by simp
    rw [e1]; exact ⟨by omega, by omega⟩
theorem epw_eq (hN : 20 ≤ N) {e : GEpoch} (h : MayEp e) (hw : w.length ≤ 1048576) : Frecord_writer_epoch_b53 N e e0 true w = some (wr e0 w (epC e)) := by
  obtain ⟨h1, h2, h3⟩ := ep_states h
  unfold Frecord_writer_epoch_b53
  rw [ints1 hN (cnt64 h.1) hw, Option.bind_some, wr_true, small8 hN h1 (wr_len hw _), wr_cat, Option.bind_some, wr_true, ints8 hN h3 (wr_len hw _), wr_cat, Option.bind_some, wr_true, small8 hN h2 (wr_len hw _), wr_cat, Option.bind_some]
  rfl
end
theorem pI_byt {n : Int} (h : R64 n) : byt (pI n) := by
  intro x hx
  exact vint_byte 9 (zig n) (Nat.lt_trans (zig_lt h) (by decide)) x hx
def CB (cs : List (List Int)) : Prop := ∀ c ∈ cs, byt c
theorem CB.append {a b : List (List Int)} (ha : CB a) (hb : CB b) : CB (a ++ b) := fun c hc => (List.mem_append.1 hc).elim (ha c) (hb c)
theorem CB.nil : CB [] := fun c hc => by cases hc
theorem CB.ints {l : List Int} (h : ∀ n ∈ l, R64 n) : CB (l.map pI) := fun c hc => by
  obtain ⟨n, hn, rfl⟩ := List.mem_map.1 hc
  exact pI_byt (h n hn)
theorem CB.int1 {a : Int} (ha : R64 a) : CB ([a].map pI) := CB.ints (by intro n hn; simp at hn; subst hn; exact ha)
theorem CB.int2 {a b : Int} (ha : R64 a) (hb : R64 b) : CB ([a, b].map pI) := CB.ints (by intro n hn; simp at hn; rcases hn with rfl | rfl <;> assumption)
theorem byt_pB {l : List Int} (hl : l.length ≤ 1048576) (h : byt l) : byt (pB l) := fun x hx => by
  unfold pB at hx
  rcases List.mem_append.1 hx with hx | hx
  · exact pI_byt (n := (l.length : Int)) ⟨by omega, by omega⟩ x hx
  · exact h x hx
theorem byt_bytesI (s : List UInt8) : byt (bytesI s) := fun x hx => by
  unfold bytesI at hx
  obtain ⟨b, _, rfl⟩ := List.mem_map.1 hx
  have := b.toNat_lt
  exact ⟨by omega, by omega⟩
theorem CB.texts {l : List (List UInt8)} (h : ∀ s ∈ l, s.length ≤ 1048576) : CB (l.map pT) := fun c hc => by
  obtain ⟨s, hs, rfl⟩ := List.mem_map.1 hc
  exact byt_pB (by rw [bytesI_len]; exact h s hs) (byt_bytesI s)
theorem CB.op {o : GOp} (h : MayOp o) : CB (opC o) := by
  obtain ⟨h1, h2, h3, h4, h5, h6, h7, h8⟩ := h
  exact (((CB.int1 ⟨by omega, by omega⟩).append (CB.int2 ⟨by omega, by omega⟩ ⟨by omega, by omega⟩)).append (CB.int2 ⟨by omega, by omega⟩ ⟨by omega, by omega⟩)).append (CB.texts (by intro s hs; simp at hs; rcases hs with rfl | rfl | rfl <;> omega))
theorem CB.ops {l : List GOp} (h : MayOps l) : CB (opsC l) :=
  (CB.int1 ⟨by omega, by have := h.2.1; omega⟩).append fun c hc => by
    obtain ⟨cs, hcs, hc⟩ := List.mem_flatten.1 hc
    obtain ⟨o, ho, rfl⟩ := List.mem_map.1 hcs
    exact CB.op (h.2.2 o ho) c hc
section
variable {N : Nat}
end
def MayAd (a : GAddr) : Prop := (0 ≤ a.Group ∧ a.Group < 9) ∧ (0 ≤ a.Replica ∧ a.Replica < 5)
instance (a : GAddr) : Decidable (MayAd a) := by unfold MayAd; infer_instance
def MayBa (b : GBallot) : Prop := cnt b.Round ∧ (0 ≤ b.Replica ∧ b.Replica < 5)
instance (b : GBallot) : Decidable (MayBa b) := by unfold MayBa; infer_instance
section
variable {N : Nat}
theorem checkEpoch_eq (hN : 20 ≤ N) (e : GEpoch) : Frecord_CheckEpoch N e = some (if MayEp e then 0 else 40) := by
  unfold Frecord_CheckEpoch Frecord_verdict
  rw [mayEpoch_eq hN, Option.bind_some]
  by_cases h : MayEp e <;> simp [h]
theorem refCheckEpoch_eq (hN : 20 ≤ N) (e : GEpoch) : Fref04_CheckEpoch N e = some (if MayEp e then 0 else 40) := by
  unfold Fref04_CheckEpoch Fref04_Errno
  rw [refMayEpoch_eq hN, Option.bind_some]
  by_cases h : MayEp e <;> simp [h]
end
end Go.Proofs.YteinehkdjkobnaaGreat
