/-
What the windowed functions of WireOwn compute.
-/
import Derived.Test.YticlnhhaaidmaaaqOa
import Derived.KernelRfl
set_option linter.unusedVariables false
set_option linter.unusedSimpArgs false
namespace Go.Proofs.Yticlnhhaaidmaaa
open Go Go.Ev
theorem bytes4 (s : Int) : ∀ b ∈ [(IntKind.u8.wrap s), (IntKind.u8.wrap (shr .u32 s 8)), (IntKind.u8.wrap (shr .u32 s 16)), (IntKind.u8.wrap (shr .u32 s 24))], byteR b := by
  intro b hb
  simp only [List.mem_cons, List.not_mem_nil, or_false] at hb
  have key : ∀ n : Int, byteR (IntKind.u8.wrap n) := fun n => by rw [u8_wrap_eq]; exact ⟨by omega, by omega⟩
  rcases hb with rfl | rfl | rfl | rfl <;> exact key _
section
variable {N n : Nat} {g : List Int}
theorem sum_some (hN : 9 + n ≤ N) (hn : n ≤ g.length) (hs : n ≤ 4611686018427387904) : ∃ r, Fwire_Sum_e15 N n g = some r ∧ r.2 = g := by
  unfold Fwire_Sum_e15
  refine iter_post (fun q : Swire_Sum_e15x6 => 0 ≤ q.t17 ∧ q.t17 ≤ (n : Int)) (fun q => ((n : Int) - q.t17).toNat) (fun r : Int × List Int => r.2 = g) ?_ N _ ⟨by simp, by simp⟩ (by simp; omega)
  rintro ⟨q, i⟩ nx ⟨h0, h8⟩ ih
  simp only at h0 h8 ih ⊢
  by_cases hi : i < (n : Int)
  · have d : decide (i.toNat < g.length) = true := decide_eq_true (by omega)
    simp only [decide_eq_true hi, cond_true, ibB_of h0 hi, d]
    refine iter_post (fun q : Swire_Sum_e15x10 => 0 ≤ q.t25 ∧ q.t25 ≤ 8) (fun q => (8 - q.t25).toNat) (fun r : Int × List Int => r.2 = g) ?_ N _ ⟨by simp, by simp⟩ (by simp; omega)
    rintro ⟨q', j⟩ nx' ⟨h0', h8'⟩ ih'
    simp only at h0' h8' ih' ⊢
    by_cases hj : j < 8
    · simp only [decide_eq_true hj, cond_true]
      rw [wrap64 (n := j + 1) (by omega) (by omega)]
      cases (bits .and .u32 q' 1 == 1)
      · exact ih' ⟨_, j + 1⟩ ⟨by simp; omega, by simp; omega⟩ (by simp; omega)
      · exact ih' ⟨_, j + 1⟩ ⟨by simp; omega, by simp; omega⟩ (by simp; omega)
    · have : decide (j < 8) = false := by simpa using hj
      simp only [this, cond_false]
      rw [wrap64 (n := i + 1) (by omega) (by omega)]
      exact ih ⟨_, i + 1⟩ ⟨by simp; omega, by simp; omega⟩ (by simp; omega)
  · have : decide (i < (n : Int)) = false := by simpa using hi
    simp only [this, cond_false]
    exact ⟨_, rfl, rfl⟩
theorem grow_eq {k : Nat} (hk : k ≤ 70368744177664) : ∃ l, Fslices_Grow_byte_c93 N (k : Int) = some (0, l) := by
  unfold Fslices_Grow_byte_c93
  have d : decide ((k : Int) < 0) = false := decide_eq_false (by omega)
  rw [d, wrap64 (by omega) (by omega)]
  simp only [cond_false, Int.sub_zero]
  by_cases h : 0 < (k : Int)
  · rw [decide_eq_true h]
    simp only [cond_true, Int.toNat_natCast]
    have m : mkB (k : Int) 1 = true := by
      unfold mkB
      simp; omega
    rw [m, cutB_of (Int.le_refl _) (by omega) (by omega)]
    exact ⟨_, rfl⟩
  · rw [decide_eq_false h]
    exact ⟨_, rfl⟩
theorem concat_win {v f : List Int} (hn : n ≤ g.length) (hl : v.length + n + f.length ≤ 70368744177664) : ∃ r, Fslices_Concat_byte_95b N v n f g = some (v.length + n + f.length, g, r) ∧ r.length = v.length + n + f.length ∧ r = v ++ g.take n ++ f := by
  unfold Fslices_Concat_byte_95b
  rw [wrap64 (n := 0 + (v.length : Int)) (by omega) (by omega), wrap64 (n := 0 + (v.length : Int) + (n : Int)) (by omega) (by omega), wrap64 (n := 0 + (v.length : Int) + (n : Int) + (f.length : Int)) (by omega) (by omega)]
  rw [decide_eq_false (show ¬ 0 + (v.length : Int) < 0 by omega), decide_eq_false (show ¬ 0 + (v.length : Int) + (n : Int) < 0 by omega), decide_eq_false (show ¬ 0 + (v.length : Int) + (n : Int) + (f.length : Int) < 0 by omega)]
  obtain ⟨l, hl'⟩ := grow_eq (N := N) (k := v.length + n + f.length) hl
  have e : 0 + (v.length : Int) + (n : Int) + (f.length : Int) = ((v.length + n + f.length : Nat) : Int) := by omega
  rw [e, hl']
  simp only [cond_false, Option.bind_some, List.drop_zero, List.take_zero, List.nil_append, Nat.zero_add]
  have et : (g.take n).length = n := by rw [List.length_take]; omega
  rw [et]
  have e1 : v.take v.length = v := List.take_length
  rw [e1]
  have e2 : (v ++ g.take n).take (v.length + n) = v ++ g.take n := List.take_of_length_le (by rw [List.length_append, et]; exact Nat.le_refl _)
  rw [e2]
  rw [lenB_of (by omega), lenB_of (by omega), lenB_of (by omega), Nat.ble_eq_true_of_le (Nat.zero_le _), Nat.ble_eq_true_of_le (Nat.le_refl _), Nat.ble_eq_true_of_le hn, Nat.ble_eq_true_of_le (by rw [List.length_append, et]; exact Nat.le_refl _)]
  exact ⟨_, rfl, by simp [et]; omega, rfl⟩
theorem put_win {v : List Int} (hn : n ≤ g.length) (hv : v.length ≤ 10) (hs : n ≤ 4611686018427387904) : Fwire_Writer_put_a71 N v n true [] g = some (if v.length + n ≤ 1048576 then (0, true, v ++ g.take n, g) else (3, true, [], g)) := by
  have et : (g.take n).length = n := by rw [List.length_take]; omega
  have e0 : Fwire_Writer_put_a71 N v n true [] g = (bif decide (IntKind.i64.wrap (1048576 - ((0 : Nat) : Int)) < (v.length : Int)) then some (3, true, [], g) else
    bif decide (IntKind.i64.wrap (1048576 - IntKind.i64.wrap (((0 : Nat) : Int) + (v.length : Int))) < (n : Int)) then some (3, true, [], g) else
    bif lenB (0 + v.length) 1 then bif lenB (v.length + (g.take n).length) 1 && Nat.ble (0 + n) g.length then some (0, true, v ++ g.take n, g) else none else none) := rfl
  rw [e0]
  rw [wrap64 (n := 1048576 - ((0 : Nat) : Int)) (by omega) (by omega), decide_eq_false (show ¬ 1048576 - ((0 : Nat) : Int) < (v.length : Int) by omega)]
  rw [wrap64 (n := ((0 : Nat) : Int) + (v.length : Int)) (by omega) (by omega), wrap64 (n := 1048576 - (((0 : Nat) : Int) + (v.length : Int))) (by omega) (by omega)]
  simp only [cond_false]
  by_cases h : v.length + n ≤ 1048576
  · rw [if_pos h, decide_eq_false (by omega), lenB_of (by omega), et, lenB_of (by omega), Nat.ble_eq_true_of_le (by omega)]
    rfl
  · rw [if_neg h, decide_eq_true (by omega)]
    rfl
theorem bytesW_eq (hN : 11 ≤ N) (hn : n ≤ g.length) (hs : n ≤ 4611686018427387904) : Fwire_Writer_Bytes_b91 N n true [] g = some (if (vint (zig (n : Int))).length + n ≤ 1048576 then (0, true, vint (zig (n : Int)) ++ g.take n, g) else (3, true, [], g)) := by
  unfold Fwire_Writer_Bytes_b91
  have hr : R64 (n : Int) := ⟨by omega, by omega⟩
  rw [F49_eq hN hr, Option.bind_some, put_win hn (vint_len10 (zig_lt hr)) hs]
  split <;> rfl
theorem frame_none (h : 1048576 < n) : Fwire_Frame_6ac N n g = some (0, 3, g, []) := by
  unfold Fwire_Frame_6ac
  rw [decide_eq_true (by omega)]; rfl
theorem frame_win (hN : 11 + n ≤ N) (hn : n ≤ g.length) (h : n ≤ 1048576) : ∃ s, Fwire_Frame_6ac N n g = some ((vint (zig (n : Int))).length + n + 4, 0, g, vint (zig (n : Int)) ++ g.take n ++ [(IntKind.u8.wrap s), (IntKind.u8.wrap (shr .u32 s 8)), (IntKind.u8.wrap (shr .u32 s 16)), (IntKind.u8.wrap (shr .u32 s 24))]) := by
  unfold Fwire_Frame_6ac
  have hr : R64 (n : Int) := ⟨by omega, by omega⟩
  have hv := vint_len10 (zig_lt hr)
  obtain ⟨⟨s, g'⟩, h1, h2⟩ := sum_some (N := N) (by omega) hn (by omega)
  simp only at h2
  subst h2
  rw [decide_eq_false (by omega), F49_eq (by omega) hr]
  simp only [cond_false, Option.bind_some]
  rw [h1]
  simp only [Option.bind_some, Fwire_four]
  obtain ⟨r, k1, k2, k3⟩ := concat_win (N := N) (v := vint (zig (n : Int))) (f := [(IntKind.u8.wrap s), (IntKind.u8.wrap (shr .u32 s 8)), (IntKind.u8.wrap (shr .u32 s 16)), (IntKind.u8.wrap (shr .u32 s 24))]) hn (by simp; omega)
  rw [k1]
  refine ⟨s, ?_⟩
  rw [k3]; rfl
theorem reader_win (hn : n ≤ g.length) (hs : n ≤ 70368744177664) : Fwire_NewReader_6ac N n g = some (g, ⟨true, g.take n⟩) := by
  unfold Fwire_NewReader_6ac Fslices_Clone_byte_6ac Fslices_Clone_byte_028
  have et : (g.take n).length = n := by rw [List.length_take]; omega
  simp only [Bool.true_or, cond_true, List.drop_zero, et, Nat.zero_add]
  rw [lenB_of (by omega), Nat.ble_eq_true_of_le hn]
  rfl
theorem out_win {w : List Int} (hs : w.length ≤ 70368744177664) : Fwire_Writer_Out_052 N true w = some (w.length, true, w, w) := by
  unfold Fwire_Writer_Out_052 Fwire_Writer_none_052
  simp only [Option.bind_some, Bool.not_true, cond_false]
  rw [F43m_eq hs]; rfl
theorem equal_win {w : List Int} : Fbytes_Equal_27b N w.length w w = some (true, w) := by
  unfold Fbytes_Equal_27b
  simp only [Nat.zero_add, List.drop_zero, List.take_length]
  rw [Nat.ble_eq_true_of_le (Nat.le_refl _)]
  simp
end
theorem live_eq {N : Nat} (hN : 60 ≤ N) : Flaw01_live N = some true := by
  obtain ⟨k, rfl⟩ : ∃ k, N = k + 60 := ⟨N - 60, by omega⟩
  kernel_rfl
end Go.Proofs.Yticlnhhaaidmaaa
