/-
The law WireOwn. Printed by wip/wire/gen_oc.py.
-/
import Derived.Test.YticlnhhaaidmaaaqOb
import Derived.KernelRfl
set_option linter.unusedVariables false
set_option linter.unusedSimpArgs false
namespace Go.Proofs.Yticlnhhaaidmaaa
open Go Go.Ev
theorem last_eq {b G : List Int} {m : Nat} {e : Int} (h : 1048576 < b.length ∨ (e = 0 ∧ m = b.length ∧ G = flipK b.length b)) :
 (bif (!(((!(decide (1048576 < ((b).length : Int)))) && ((e == 0) && (((m : Nat) : Int) == ((b).length : Int)))) && (!(((b).length : Int) == 0))) || (ibB 0 ((m : Nat) : Int))) then
 (bif (!(((!(decide (1048576 < ((b).length : Int)))) && ((e == 0) && (((m : Nat) : Int) == ((b).length : Int)))) && (!(((b).length : Int) == 0))) || (decide (0 < (G).length))) then
 (bif (!(((!(decide (1048576 < ((b).length : Int)))) && ((e == 0) && (((m : Nat) : Int) == ((b).length : Int)))) && (!(((b).length : Int) == 0))) || (ibB 0 ((b).length : Int))) then
 (some ((decide (1048576 < ((b).length : Int))) || (((e == 0) && (((m : Nat) : Int) == ((b).length : Int))) && ((((b).length : Int) == 0) || ((G.getD 0 default) == (bits .xor .u8 (lget b 0 default) 255))))))
 else none)
 else none)
 else none) = some true := by
  rcases h with h | ⟨rfl, rfl, rfl⟩
  · have d : decide (1048576 < ((b).length : Int)) = true := decide_eq_true (by omega)
    rw [d]; rfl
  · cases b with
    | nil => rfl
    | cons x l =>
      have h1 : ((((x :: l).length : Nat) : Int) == 0) = false := by simp; omega
      have h2 : decide (0 < (flipK (x :: l).length (x :: l)).length) = true := decide_eq_true (by rw [flipK_len]; simp)
      have h3 : (flipK (x :: l).length (x :: l)).getD 0 default = bits .xor .u8 x 255 := flipK_at (l := x :: l) (by simp) (by simp)
      have h4 : lget (x :: l) 0 default = x := rfl
      rw [h1, h2, h3, h4, ibB_of (Int.le_refl _) (by simp)]
      simp
section
variable {N : Nat} {b : List Int}
theorem wireOwn_F (hN : b.length + 2048700 ≤ N) (hl : b.length ≤ 4000000000) (hb : ∀ x ∈ b, byteR x) : Flaw01_WireOwn N b = some true := by
  unfold Flaw01_WireOwn
  rw [show Fwire_NewWriter N = some (true, []) from rfl]
  simp only [Option.bind_some]
  rw [lenB_of (by omega), live_eq (by omega), bytesW_eq (g := b) (by omega) (Nat.le_refl _) (by omega)]
  simp only [Option.bind_some, cond_true, Bool.not_true, cond_false, List.take_length]
  have hr : R64 (b.length : Int) := ⟨by omega, by omega⟩
  have hv := vint_len10 (zig_lt hr)
  -- the frame, whatever it is
  obtain ⟨gf, e4, hf, hgl, hgb, hrb⟩ : ∃ gf e4, Fwire_Frame_6ac N b.length b = some (gf.length, e4, b, gf) ∧ gf.length ≤ 2000000 ∧ (∀ x ∈ gf, byteR x) ∧
      (1048576 < b.length ∨ ((rB gf).1 = b ∧ (rB gf).2.1 = 0)) := by
    by_cases h : 1048576 < b.length
    · exact ⟨[], 3, frame_none h, by simp, by simp, .inl h⟩
    · obtain ⟨s, hs⟩ := frame_win (N := N) (n := b.length) (g := b) (by omega) (Nat.le_refl _) (by omega)
      rw [List.take_length] at hs
      refine ⟨vint (zig (b.length : Int)) ++ b ++ [IntKind.u8.wrap s, IntKind.u8.wrap (shr .u32 s 8), IntKind.u8.wrap (shr .u32 s 16), IntKind.u8.wrap (shr .u32 s 24)], 0, hs.trans ?_, ?_, ?_, .inr ?_⟩
      · simp; omega
      · simp; omega
      · intro x hx
        rcases List.mem_append.1 hx with hx | hx
        · rcases List.mem_append.1 hx with hx | hx
          · exact vint_byte 9 _ (Nat.lt_trans (zig_lt hr) (by decide)) x hx
          · exact hb x hx
        · exact bytes4 s x hx
      · rw [rB_back (by omega)]; exact ⟨rfl, rfl⟩
  have hx : (rB gf).1.length ≤ gf.length := by
    by_cases h : (rB gf).2.1 = 0
    · exact (rB_one hgb h).2
    · unfold rB at h ⊢
      (repeat' split) <;> simp_all
  have key : ∀ w : List Int, ((rB gf).1.length ≤ 2000000) := fun _ => by omega
  by_cases hw : (vint (zig (b.length : Int))).length + b.length ≤ 1048576
  · rw [if_pos hw]
    simp only [beq_self_eq_true, cond_true, Bool.true_and]
    rw [hf]
    simp only [Option.bind_some]
    rw [reader_win (Nat.le_refl _) (by omega)]
    simp only [Option.bind_some, List.take_length]
    refine (flip_loop (S := Slaw01_WireOwnx11) (fun s => s.t39) (fun s => s.g2) Slaw01_WireOwnx11.mk (fun _ _ => rfl) (fun _ _ => rfl) (by omega) (Nat.le_refl _) (by omega)).trans ?_
    rw [out_win (by simp; omega)]
    simp only [Option.bind_some]
    refine (flip_loop (S := Slaw01_WireOwnx17) (fun s => s.t53) (fun s => s.g6) Slaw01_WireOwnx17.mk (fun _ _ => rfl) (fun _ _ => rfl) (by simp; omega) (Nat.le_refl _) (by simp; omega)).trans ?_
    rw [F36_eq (by omega) (by omega)]
    simp only [Option.bind_some]
    rw [out_win (by simp; omega)]
    simp only [Option.bind_some]
    rw [equal_win]
    simp only [Option.bind_some, Bool.not_true, cond_false]
    refine (flip_loop (S := Slaw01_WireOwnx24) (fun s => s.t75) (fun s => s.g4) Slaw01_WireOwnx24.mk (fun _ _ => rfl) (fun _ _ => rfl) (by omega) (Nat.le_refl _) (by omega)).trans ?_
    rw [F23_eq (by omega) (by omega) hgb]
    simp only [Option.bind_some]
    refine (flip_loop (S := Slaw01_WireOwnx30) (fun s => s.t92) (fun s => s.g9) Slaw01_WireOwnx30.mk (fun _ _ => rfl) (fun _ _ => rfl) (by omega) (Nat.le_refl _) (by omega)).trans ?_
    refine last_eq (hrb.imp id fun ⟨q1, q2⟩ => ⟨q2, by rw [q1], by simp only [q1]⟩)
  · rw [if_neg hw]
    have z : ((3 : Int) == 0) = false := rfl
    simp only [z, cond_false]
    rw [hf]
    simp only [Option.bind_some]
    rw [reader_win (Nat.le_refl _) (by omega)]
    simp only [Option.bind_some, List.take_length]
    refine (flip_loop (S := Slaw01_WireOwnx11) (fun s => s.t39) (fun s => s.g2) Slaw01_WireOwnx11.mk (fun _ _ => rfl) (fun _ _ => rfl) (by omega) (Nat.le_refl _) (by omega)).trans ?_
    rw [out_win (by simp)]
    simp only [Option.bind_some]
    refine (flip_loop (S := Slaw01_WireOwnx17) (fun s => s.t53) (fun s => s.g6) Slaw01_WireOwnx17.mk (fun _ _ => rfl) (fun _ _ => rfl) (by simp; omega) (Nat.le_refl _) (by simp)).trans ?_
    refine (flip_loop (S := Slaw01_WireOwnx24b) (fun s => s.t75) (fun s => s.g4) Slaw01_WireOwnx24b.mk (fun _ _ => rfl) (fun _ _ => rfl) (by omega) (Nat.le_refl _) (by omega)).trans ?_
    rw [F23_eq (by omega) (by omega) hgb]
    simp only [Option.bind_some]
    refine (flip_loop (S := Slaw01_WireOwnx30b) (fun s => s.t92) (fun s => s.g7) Slaw01_WireOwnx30b.mk (fun _ _ => rfl) (fun _ _ => rfl) (by omega) (Nat.le_refl _) (by omega)).trans ?_
    refine last_eq (hrb.imp id fun ⟨q1, q2⟩ => ⟨q2, by rw [q1], by simp only [q1]⟩)
end
end Go.Proofs.Yticlnhhaaidmaaa
