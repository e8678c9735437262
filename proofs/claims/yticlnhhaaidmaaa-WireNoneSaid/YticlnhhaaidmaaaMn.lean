/-
The law WireNone, put together.
-/
import Derived.Test.YticlnhhaaidmaaaMd
set_option linter.unusedVariables false
set_option linter.unusedSimpArgs false
namespace Go.Proofs.Yticlnhhaaidmaaa
open Go Go.Ev

theorem wireNone_F {N : Nat} {n : Int} {b : List Int} (hN : 20 ≤ N) (hn : R64 n) (hl : b.length ≤ 9223372036854775807) : F10 N n b = some true := by
  have h11 : 11 ≤ N := by omega
  have e0 : F49 N n = some (vint (zig n)) := F49_eq h11 hn
  have e1 : F49 N (b.length : Int) = some (vint (zig (b.length : Int))) := F49_eq h11 ⟨by omega, by omega⟩
  have e2 : F49 N ((bytesI [97]).length : Int) = some (vint (zig 1)) := F49_eq h11 ⟨by decide, by decide⟩
  have e3 : F49 N 1 = some (vint (zig 1)) := F49_eq h11 ⟨by decide, by decide⟩
  have f48 : ∀ l w, F48 N l false w = some (2, false, w) := fun l w => rfl
  have f48i : ∀ l, F48i2 N l false = some (2, false, []) := fun l => rfl
  have a1 : F31i1 N n = some 2 := by simp only [F31i1, e0, Option.bind_some]
  have a1' : F31i1 N 1 = some 2 := by simp only [F31i1, e3, Option.bind_some]
  have a2 : F32i1 N b = some 2 := by simp only [F32i1, e1, Option.bind_some]
  have a3 : F37i1 N [97] = some 2 := by simp only [F37i1, F32i1, e2, Option.bind_some]
  have a4 : F33i1 N true = some 2 := by simp only [F33i1, a1', Option.bind_some, cond_true]
  have b1 : F31i2 N n false = some (2, false, []) := by simp only [F31i2, e0, Option.bind_some, f48i]
  have b2 : F32 N b false [] = some (2, false, []) := by simp only [F32, e1, Option.bind_some, f48]
  have b3 : F37 N [97] false [] = some (2, false, []) := by simp only [F37, F32, e2, Option.bind_some, f48]
  have b4 : F33 N true false [] = some (2, false, []) := by simp only [F33, F31, e3, Option.bind_some, f48, cond_true]
  have b5 : F18 N false [] = some (0, false, []) := rfl
  have b6 : F20 N false [] = some ([], false, []) := rfl
  have c1 : F22 N ⟨false, []⟩ = some (0, 2, ⟨false, []⟩) := rfl
  have c2 : F23 N ⟨false, []⟩ = some ([], 2, ⟨false, []⟩) := rfl
  have c3 : F27 N ⟨false, []⟩ = some ([], 2, ⟨false, []⟩) := rfl
  have c4 : F24 N ⟨false, []⟩ = some (false, 2, ⟨false, []⟩) := rfl
  have c5 : F29 N ⟨false, []⟩ = some (0, ⟨false, []⟩) := rfl
  have c6 : F30 N ⟨false, []⟩ = some (2, ⟨false, []⟩) := rfl
  have d1 : F23i1 N = some ([], 2) := rfl
  have d2 : F27i1 N = some ([], 2) := rfl
  have d3 : F29i1 N = some 0 := rfl
  have d4 : F30i1 N = some 2 := rfl
  have d5 : F18i1 N = some 0 := rfl
  have d6 : F20i1 N = some [] := rfl
  unfold F10
  simp only [a1, a2, a3, a4, b1, b2, b3, b4, b5, b6, c1, c2, c3, c4, c5, c6, d1, d2, d3, d4, d5, d6, Option.bind_some, beq_self_eq_true, Bool.not_true, Bool.not_false, Bool.or_self, Bool.or_false, Bool.or_true, Bool.and_self, cond_true, cond_false, List.length_nil]
  exact (congrArg (fun o : Option Bool => o.bind some) (F13_eq hN)).trans rfl
end Go.Proofs.Yticlnhhaaidmaaa
