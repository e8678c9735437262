/-
What was put is read back, and its beginnings are too short.
-/
import Derived.Test.YticlnhhaaidmaaaMh
set_option linter.unusedVariables false
set_option linter.unusedSimpArgs false
namespace Go.Proofs.Yticlnhhaaidmaaa
open Go Go.Ev

theorem rI_back {n : Int} (hn : R64 n) (rest : List Int) : rI (vint (zig n) ++ rest) = (n, 0, rest) := by
  unfold rI; rw [pv_zig hn]; simp
theorem rB_back {b : List Int} (hb : b.length ≤ 1048576) (rest : List Int) : rB (vint (zig (b.length : Int)) ++ b ++ rest) = (b, 0, rest) := by
  unfold rB
  rw [List.append_assoc, pv_zig (R64_small hb)]
  rw [if_neg (by simp), if_neg (by simp), if_neg (by simp; omega)]
  have e : (((vint (zig (b.length : Int))).length : Int) + (b.length : Int)).toNat = (vint (zig (b.length : Int)) ++ b).length := by simp; omega
  simp only [Int.toNat_natCast, List.drop_left, List.take_left]
  rw [e, ← List.append_assoc, List.drop_left]
theorem rF_back (n : Int) (rest : List Int) : rF (vint (zig (if 0 < n then 1 else 0)) ++ rest) = (decide (0 < n), 0, rest) := by
  unfold rF
  rw [pv_zig (R64_flag n)]
  by_cases h : 0 < n
  · simp [h]
  · simp [h]

theorem pv_short : ∀ (m i u v q : Nat), v < 128 ^ (m + 1) → i + m ≤ 9 → q < (vint v).length → pv i u ((vint v).take q) = (0, 0, 10)
  | m, i, u, v, 0, _, _, _ => by rw [List.take_zero, pv]
  | m, i, u, v, q + 1, hv, hm, hq => by
    by_cases h : v < 128
    · rw [vint_lt h] at hq; simp at hq
    · rw [vint_ge (by omega)] at hq ⊢
      cases m with
      | zero => simp at hv; omega
      | succ m =>
        rw [List.take_succ_cons, pv, if_neg (by omega), if_pos (by omega)]
        exact pv_short m (i + 1) _ (v / 128) q (by rw [Nat.div_lt_iff_lt_mul (by decide)]; rw [← Nat.pow_succ]; exact hv) (by omega) (by simpa using hq)
theorem pv_zig_short {n : Int} (hn : R64 n) {q : Nat} (hq : q < (vint (zig n)).length) : pv 0 0 ((vint (zig n)).take q) = (0, 0, 10) :=
  pv_short 9 0 0 (zig n) q (Nat.lt_trans (zig_lt hn) (by decide)) (by omega) hq
theorem rI_short {n : Int} (hn : R64 n) {q : Nat} (hq : q < (vint (zig n)).length) : (rI ((vint (zig n)).take q)).2.1 = 10 := by
  unfold rI; rw [pv_zig_short hn hq]
theorem rF_short {n : Int} (hn : R64 n) {q : Nat} (hq : q < (vint (zig n)).length) : (rF ((vint (zig n)).take q)).2.1 = 10 := by
  unfold rF; rw [pv_zig_short hn hq]; rfl
theorem rB_short {b : List Int} (hb : b.length ≤ 1048576) {q : Nat} (hq : q < (vint (zig (b.length : Int)) ++ b).length) : (rB ((vint (zig (b.length : Int)) ++ b).take q)).2.1 = 10 := by
  unfold rB
  by_cases h : q < (vint (zig (b.length : Int))).length
  · rw [List.take_append_of_le_length (by omega), pv_zig_short (R64_small hb) h]; rfl
  · have e : (vint (zig (b.length : Int)) ++ b).take q = vint (zig (b.length : Int)) ++ b.take (q - (vint (zig (b.length : Int))).length) := by
      rw [List.take_append, List.take_of_length_le (by omega)]
    rw [e, pv_zig (R64_small hb)]
    simp only [List.length_append] at hq
    rw [if_neg (by simp), if_neg (by simp), if_pos (by simp only [List.length_append, List.length_take]; omega)]

/-- All that was put, and how it is read. -/
def allB (l : List Gorchardlaw01_Part) : List Int := (l.map pb).flatten
theorem allB_cons (p : Gorchardlaw01_Part) (l : List Gorchardlaw01_Part) : allB (p :: l) = pb p ++ allB l := by simp [allB]
theorem allB_snoc (l : List Gorchardlaw01_Part) (p : Gorchardlaw01_Part) : allB (l ++ [p]) = allB l ++ pb p := by simp [allB]
theorem pb_bytes {p : Gorchardlaw01_Part} (hp : okP p) : ∀ x ∈ pb p, byteR x := by
  obtain ⟨h1, h2, h3⟩ := hp
  have vz : ∀ {n : Int}, R64 n → ∀ x ∈ vint (zig n), byteR x := fun hn => vint_byte 9 _ (Nat.lt_trans (zig_lt hn) (by decide))
  unfold pb
  split
  · exact vz h1
  · split
    · intro x hx
      rcases List.mem_append.1 hx with hx | hx
      · exact vz (R64_small h2) x hx
      · exact h3 x hx
    · exact vz (R64_flag p.N)
theorem allB_bytes {l : List Gorchardlaw01_Part} (hl : ∀ p ∈ l, okP p) : ∀ x ∈ allB l, byteR x := fun x hx => by
  obtain ⟨m, hm, hx⟩ := List.mem_flatten.1 hx
  obtain ⟨p, hp, rfl⟩ := List.mem_map.1 hm
  exact pb_bytes (hl p hp) x hx
end Go.Proofs.Yticlnhhaaidmaaa
