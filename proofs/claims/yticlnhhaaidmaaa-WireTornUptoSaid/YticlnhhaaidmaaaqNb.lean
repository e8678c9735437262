/-
The law WireTorn.
-/
import Derived.Test.YticlnhhaaidmaaaqNa
import Derived.KernelRfl
set_option linter.unusedVariables false
set_option linter.unusedSimpArgs false
namespace Go.Proofs.Yticlnhhaaidmaaa
open Go Go.Ev
theorem live_eq {N : Nat} (hN : 60 ≤ N) : Flaw01_live N = some true := by
  obtain ⟨k, rfl⟩ : ∃ k, N = k + 60 := ⟨N - 60, by omega⟩
  kernel_rfl
section
variable {N : Nat} {b : List Int}
theorem frame_long (h : 1048576 < b.length) : Fwire_Frame N b = some (0, 3, []) := by
  unfold Fwire_Frame
  have : decide (1048576 < (b.length : Int)) = true := by simp; omega
  rw [this]; rfl
theorem frame_w (hN : b.length + 20 ≤ N) (hb : ∀ x ∈ b, byteR x) (h : b.length ≤ 1048576) : ∃ g, Fwire_Frame N b = some ((frameB b).length, 0, g) ∧ (frameB b).length ≤ g.length ∧ g.take (frameB b).length = frameB b := by
  unfold Fwire_Frame
  have hd : decide (1048576 < (b.length : Int)) = false := by simp; omega
  have hv := vint_len10 (zig_lt (len64 h))
  rw [hd]
  simp only [cond_false]
  rw [F49_eq (by omega) (len64 h), Option.bind_some, F14_eq (by simp; omega) (by simp) (by intro m hm; simp at hm; subst hm; exact ⟨by omega, by omega, hb⟩), Option.bind_some]
  rw [show [b].flatten = b by simp, show Fwire_four N (sumB b) = some (four (sumB b)) from rfl, Option.bind_some]
  obtain ⟨r, h1, h2, h3⟩ := concat_eq (N := N) (l := [vint (zig (b.length : Int)), b, four (sumB b)]) (by simp; omega) (by simp) (by simp [four_len]; omega)
  have h4 : [vint (zig (b.length : Int)), b, four (sumB b)].flatten = frameB b := by simp [frameB]
  rw [h4] at h3
  have h5 : r.1 = (frameB b).length := by rw [← h3, List.length_take]; omega
  refine ⟨r.2, by rw [h1, ← h5]; rfl, by omega, by rw [← h5]; exact h3⟩
theorem frame_bytes (h : b.length ≤ 1048576) (hb : ∀ x ∈ b, byteR x) : ∀ x ∈ frameB b, byteR x := fun x hx => by
  unfold frameB at hx
  rcases List.mem_append.1 hx with hx | hx
  · rcases List.mem_append.1 hx with hx | hx
    · exact vint_byte 9 _ (Nat.lt_trans (zig_lt (len64 h)) (by decide)) x hx
    · exact hb x hx
  · exact four_byte _ x hx
theorem tmod_in {n m : Int} (h0 : 0 ≤ n) (hm : 0 < m) : 0 ≤ Int.tmod n m ∧ Int.tmod n m < m := ⟨Int.tmod_nonneg _ h0, Int.tmod_lt_of_pos _ hm⟩
theorem wireTorn_F {behind : List Int} {n : Int} (hN : b.length + behind.length + 1048700 ≤ N) (hl : behind.length ≤ 1048576) (hl1 : b.length ≤ 4000000000) (hb : ∀ x ∈ b, byteR x) (hb2 : ∀ x ∈ behind, byteR x) (h0 : 0 ≤ n) (h1 : n ≤ 65535) : Flaw01_WireTorn N b behind n = some true := by
  unfold Flaw01_WireTorn
  rw [live_eq (by omega)]
  by_cases h : 1048576 < b.length
  · rw [frame_long h]
    have : decide (1048576 < (b.length : Int)) = true := by simp; omega
    simp only [Option.bind_some, this]
    rfl
  · have hle : b.length ≤ 1048576 := by omega
    obtain ⟨g, e1, e2, e3⟩ := frame_w (N := N) (by omega) hb hle
    have hfl := frame_len b
    have hv := vint_len10 (zig_lt (len64 hle))
    have hfb := frame_bytes hle hb
    rw [e1]
    simp only [Option.bind_some, beq_self_eq_true, Bool.not_true, Bool.not_false, cond_true, Bool.false_or]
    rw [wrap64 (n := (b.length : Int) + 5) (by omega) (by omega)]
    have hv1 : 1 ≤ (vint (zig (b.length : Int))).length := vint_pos _
    have d1 : decide ((((frameB b).length : Nat) : Int) < (b.length : Int) + 5) = false := by simp; omega
    rw [d1]
    simp only [cond_false, List.drop_zero, e3, Nat.zero_add, Bool.false_or]
    rw [lenB_of (by omega), lenB_of (by omega), Nat.ble_eq_true_of_le e2, Nat.ble_eq_true_of_le (Nat.le_refl _)]
    simp only [Bool.and_self, cond_true, List.take_length]
    have hall : (frameB b ++ behind).take ((frameB b).length + behind.length) = frameB b ++ behind := List.take_of_length_le (by rw [List.length_append]; omega)
    have u1 := unframe_win (N := N) (g := frameB b ++ behind) (b := (frameB b).length + behind.length) (by omega) (by rw [List.length_append]; omega) (by omega) (by
      rw [hall]; intro x hx
      rcases List.mem_append.1 hx with hx | hx
      · exact hfb x hx
      · exact hb2 x hx)
    rw [hall, unB_behind hle] at u1
    rw [u1]
    simp only [Option.bind_some, beq_self_eq_true, Bool.not_true, Bool.not_false, cond_true, Bool.or_self, F19_self, cond_false]
    have hm0 : (((frameB b).length : Nat) : Int) ≠ 0 := by omega
    have d2 : ((((frameB b).length : Nat) : Int) == 0) = false := by simpa using hm0
    rw [d2, wrap64 (n := n) (by omega) (by omega)]
    simp only [Bool.not_false, cond_true]
    obtain ⟨t0, t1⟩ := tmod_in h0 (m := ((frameB b).length : Int)) (by omega)
    rw [cutB_of (Int.le_refl _) t0 (by omega), cond_true]
    obtain ⟨k, hk⟩ : ∃ k, (Int.tmod n ((frameB b).length : Int)).toNat = k := ⟨_, rfl⟩
    rw [hk]
    have hkl : k < (frameB b).length := by omega
    have q2 : g.take k = (frameB b).take k := by
      have : g.take k = (g.take (frameB b).length).take k := by
        rw [List.take_take, Nat.min_eq_left (show k ≤ (frameB b).length by omega)]
      rw [this, e3]
    have u2 := unframe_win (N := N) (g := g) (b := k) (by omega) (by omega) (by omega) (by
      intro x hx
      rw [q2] at hx
      exact hfb x (List.mem_of_mem_take hx))
    rw [u2, q2, unB_short hle (by omega)]
    simp only [Option.bind_some, beq_self_eq_true, Bool.not_true, cond_false]
    rw [wrap64 (n := (b.length : Int) + 4) (by omega) (by omega)]
    have d3 : ((b.length : Int) + 4 == 0) = false := by simp; omega
    rw [d3]
    simp only [Bool.not_false, cond_true]
    obtain ⟨s0, s1⟩ := tmod_in h0 (m := (b.length : Int) + 4) (by omega)
    rw [wrap64 (n := (((frameB b).length : Nat) : Int) - (b.length : Int)) (by omega) (by omega), wrap64 (n := (((frameB b).length : Nat) : Int) - (b.length : Int) - 4) (by omega) (by omega), wrap64 (n := (((frameB b).length : Nat) : Int) - (b.length : Int) - 4 + Int.tmod n ((b.length : Int) + 4)) (by omega) (by omega)]
    obtain ⟨a, ha⟩ : ∃ a : Nat, (((frameB b).length : Nat) : Int) - (b.length : Int) - 4 + Int.tmod n ((b.length : Int) + 4) = (a : Int) := ⟨_, (Int.toNat_of_nonneg (by omega)).symm⟩
    rw [ha]
    have hak : a < (frameB b).length := by omega
    have hav : (vint (zig (b.length : Int))).length ≤ a := by omega
    have d4 : decide ((a : Int).toNat < g.length) = true := decide_eq_true (by omega)
    obtain ⟨r0, r1⟩ := tmod_in h0 (m := 8) (by decide)
    rw [ibB_of (by omega) (by omega), d4, decide_eq_true r0]
    simp only [cond_true, Int.toNat_natCast]
    have hx : g.getD a default = (frameB b)[a] := by
      have : g.getD a default = (g.take (frameB b).length).getD a default := (getD_take hak _).symm
      rw [this, e3]
      simp [List.getD, List.getElem?_eq_getElem hak]
    rw [hx]
    obtain ⟨f1, f2⟩ := flip_of (hfb _ (List.getElem_mem hak)) r0 r1
    generalize bits .xor .u8 (frameB b)[a] (shl .u8 1 (Int.tmod n 8)) = y at f1 f2
    have q3 : (g.set a y).take (frameB b).length = (frameB b).set a y := by
      rw [List.take_set, e3]
    have u3 := unframe_win (N := N) (g := g.set a y) (b := (frameB b).length) (by omega) (by rw [List.length_set]; omega) (by omega) (by
      rw [q3]; intro x hx'
      rcases List.mem_or_eq_of_mem_set hx' with h' | h'
      · exact hfb x h'
      · rw [h']; exact f1)
    rw [q3] at u3
    rw [u3, unB_turned hle hb hav hak f1 f2]
    rfl
end
end Go.Proofs.Yticlnhhaaidmaaa
