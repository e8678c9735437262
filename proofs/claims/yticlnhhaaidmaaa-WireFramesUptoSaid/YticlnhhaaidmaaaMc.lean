/-
The writer, and the law WireSums.
-/
import Derived.Test.YticlnhhaaidmaaaMb
set_option linter.unusedVariables false
set_option linter.unusedSimpArgs false
namespace Go.Proofs.Yticlnhhaaidmaaa
open Go Go.Ev

theorem F43_eq {N : Nat} {l : List Int} (h : l.length ≤ 70368744177664) : F43 N l = some l := by
  unfold F43 F43i1
  rw [lenB_of (by omega)]
  rfl

/-- What a writer has behind it when lists are put, and how that ends. -/
def putAll (w : List Int) (x : List Int) : Int × Bool × List Int := if w.length + x.length ≤ 1048576 then (0, true, w ++ x) else (3, true, w)

theorem F48_eq {N : Nat} {l : List (List Int)} {w : List Int} (hN : l.length < N) (hl : l.length ≤ 1000000) (hw : w.length ≤ 1048576) (hm : ∀ m ∈ l, m.length ≤ 4611686018427387904) : F48 N l true w = some (putAll w l.flatten) := by
  unfold F48 F42
  simp only [Option.bind_some, Bool.not_true, cond_false]
  have second : w.length + l.flatten.length ≤ 1048576 → iter N (fun (s4 : S48x12) next5 =>
       (bif (decide (s4.t35 < ((l).length : Int))) then
       (bif (ibB s4.t35 ((l).length : Int)) then
       (bif (lenB ((s4.b02).length + ((lget l s4.t35 default)).length) 1) then
       (next5 ⟨(IntKind.i64.wrap (s4.t35 + 1)), s4.b0, (s4.b02 ++ (lget l s4.t35 default))⟩)
       else none)
       else none)
       else
       (some ((0 : Int), s4.b0, s4.b02)))) ⟨0, true, w⟩ = some (0, true, w ++ l.flatten) := fun htot => by
    refine iter_run (fun q : S48x12 => 0 ≤ q.t35 ∧ q.t35 ≤ (l.length : Int) ∧ q.b0 = true ∧ q.b02 ++ (l.drop q.t35.toNat).flatten = w ++ l.flatten) (fun q => ((l.length : Int) - q.t35).toNat) ?_ N _ ⟨by simp, by simp, rfl, by simp⟩ (by simp; omega)
    rintro ⟨i, b0, b⟩ nx ⟨g0, g1, rfl, hq⟩ ih
    simp only at g0 g1 hq ih ⊢
    by_cases hi : i < l.length
    · have hd := lget_drop (default : List Int) g0 hi
      rw [hd, List.flatten_cons] at hq
      have hlen := congrArg List.length hq
      simp only [List.length_append] at hlen
      simp only [decide_eq_true hi, ibB_of g0 hi, cond_true]
      rw [lenB_of (by omega), wrap64 (by omega) (by omega)]
      exact ih ⟨i + 1, true, b ++ lget l i default⟩ ⟨by simp; omega, by simp; omega, rfl, by simp only [List.append_assoc]; exact hq⟩ (by simp; omega)
    · have : decide (i < (l.length : Int)) = false := by simpa using hi
      simp only [this, cond_false]
      rw [List.drop_eq_nil_of_le (by omega)] at hq
      rw [← hq]; simp
  refine iter_run (fun q : S48x5 => 0 ≤ q.t19 ∧ q.t19 ≤ (l.length : Int) ∧ 0 ≤ q.n ∧ q.n ≤ 1048576 ∧ q.n + (l.drop q.t19.toNat).flatten.length = w.length + l.flatten.length) (fun q => ((l.length : Int) - q.t19).toNat) ?_ N _ ⟨by simp, by simp, by simp, by simp; omega, by simp⟩ (by simp; omega)
  rintro ⟨n, i⟩ nx ⟨g0, g1, g2, g3, hq⟩ ih
  simp only at g0 g1 g2 g3 hq ih ⊢
  by_cases hi : i < l.length
  · have hd := lget_drop (default : List Int) g0 hi
    have hmi := hm _ (lget_mem (default : List Int) g0 hi)
    rw [hd, List.flatten_cons, List.length_append] at hq
    simp only [decide_eq_true hi, ibB_of g0 hi, cond_true, Bool.cond_decide]
    rw [wrap64 (n := 1048576 - n) (by omega) (by omega)]
    split
    · rename_i hlong
      rw [putAll, if_neg (by omega)]
    · rename_i hfit
      rw [wrap64 (by omega) (by omega), wrap64 (by omega) (by omega)]
      exact ih ⟨_, i + 1⟩ ⟨by simp; omega, by simp; omega, by simp; omega, by simp; omega, by simp only; omega⟩ (by simp; omega)
  · have : decide (i < (l.length : Int)) = false := by simpa using hi
    simp only [this, cond_false]
    rw [List.drop_eq_nil_of_le (by omega)] at hq
    simp only [List.flatten_nil, List.length_nil] at hq
    rw [putAll, if_pos (by omega)]
    exact second (by omega)

theorem F31_eq {N : Nat} (hN : 11 ≤ N) {n : Int} (hn : R64 n) {w : List Int} (hw : w.length ≤ 1048576) : F31 N n true w = some (putAll w (vint (zig n))) := by
  have := vint_len10 (zig_lt hn)
  unfold F31
  rw [F49_eq hN hn, Option.bind_some, F48_eq (by simp; omega) (by simp) hw (by intro m hm; simp at hm; subst hm; omega)]
  simp
theorem F20_eq {N : Nat} {w : List Int} (hw : w.length ≤ 1048576) : F20 N true w = some (w, true, w) := by
  unfold F20 F42
  simp only [Option.bind_some, Bool.not_true, cond_false]
  rw [F43_eq (by omega)]; rfl

theorem sum_live : sumB [49, 50, 51, 52, 53, 54, 55, 56, 57] = 3421780262 := by kernel_rfl
theorem F13_eq {N : Nat} (hN : 20 ≤ N) : F13 N = some true := by
  have hv : vint (zig (-1)) = [1] := by rw [show zig (-1) = 1 from rfl, vint_lt (by decide)]; rfl
  have h22 : F22 N ⟨true, [128, 1]⟩ = some (64, 0, ⟨true, []⟩) := by
    obtain ⟨m, rfl⟩ : ∃ m, N = m + 3 := ⟨N - 3, by omega⟩
    kernel_rfl
  have h14 : F14 N [[49, 50, 51, 52], [53, 54, 55, 56, 57]] = some 3421780262 := by
    rw [F14_eq (by simp; omega) (by simp) ?_]
    · exact congrArg some sum_live
    · intro m hm
      simp at hm
      rcases hm with rfl | rfl <;> refine ⟨by simp; omega, by simp, fun b hb => ?_⟩ <;> simp at hb <;> (rcases hb with rfl | rfl | rfl | rfl | rfl) <;> exact ⟨by decide, by decide⟩
  unfold F13 F16 F21
  simp only [Option.bind_some, F43_eq (show [128, 1].length ≤ 70368744177664 by simp), F31_eq (N := N) (by omega) (show R64 (-1) from ⟨by decide, by decide⟩) (show ([] : List Int).length ≤ 1048576 by simp), hv, h22]
  simp only [putAll]
  have h20 : F20 N true [1] = some ([1], true, [1]) := F20_eq (by simp)
  simp [h20, F19, h14]

theorem wireSums_F {N : Nat} {l : List (List Int)} (hN : l.flatten.length + l.length + 20 ≤ N) (hl : l.length ≤ 1048576) (hf : l.flatten.length ≤ 1048576) (hb : ∀ m ∈ l, ∀ b ∈ m, byteR b) : F3 N l = some true := by
  unfold F3
  refine iter_run (fun q : S3x3 => 0 ≤ q.t8 ∧ q.t8 ≤ (l.length : Int) ∧ q.all ++ (l.drop q.t8.toNat).flatten = l.flatten) (fun q => ((l.length : Int) - q.t8).toNat) ?_ N _ ⟨by simp, by simp, by simp⟩ (by simp; omega)
  rintro ⟨all, i⟩ nx ⟨g0, g1, hq⟩ ih
  simp only at g0 g1 hq ih ⊢
  by_cases hi : i < l.length
  · have hd := lget_drop (default : List Int) g0 hi
    rw [hd, List.flatten_cons] at hq
    have hlen := congrArg List.length hq
    simp only [List.length_append] at hlen
    simp only [decide_eq_true hi, ibB_of g0 hi, cond_true]
    rw [lenB_of (by omega), wrap64 (by omega) (by omega)]
    exact ih ⟨all ++ lget l i default, i + 1⟩ ⟨by simp; omega, by simp; omega, by simp only [List.append_assoc]; exact hq⟩ (by simp; omega)
  · have : decide (i < (l.length : Int)) = false := by simpa using hi
    simp only [this, cond_false]
    rw [List.drop_eq_nil_of_le (by omega)] at hq
    simp only [List.flatten_nil, List.append_nil] at hq
    subst hq
    have hbf : ∀ b ∈ l.flatten, byteR b := fun b h => by
      obtain ⟨m, hm, hbm⟩ := List.mem_flatten.1 h
      exact hb m hm b hbm
    have hml : ∀ m ∈ l, m.length ≤ l.flatten.length := fun m hm => by
      obtain ⟨s, t, rfl⟩ := List.append_of_mem hm
      simp; omega
    have e14 := F14_eq (N := N) (l := l) (by omega) (by omega) (fun m hm => ⟨by have := hml m hm; omega, by have := hml m hm; omega, hb m hm⟩)
    have e14' := F14_eq (N := N) (l := [l.flatten]) (by simp; omega) (by simp) (fun m hm => by simp at hm; subst hm; exact ⟨by omega, by omega, hbf⟩)
    have e15 := F15_eq (N := N) (l := l.flatten) (by omega) (by omega) hbf
    simp only [List.flatten_singleton] at e14'
    simp [F13_eq (N := N) (by omega), e14, e14', e15]
end Go.Proofs.Yticlnhhaaidmaaa
