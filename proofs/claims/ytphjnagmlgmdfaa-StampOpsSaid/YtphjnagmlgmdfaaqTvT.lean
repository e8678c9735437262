/-
Plain laws for the printed functions: loops by an invariant, wrap-around in range, lists and vectors by their places.
-/
import Derived.Test.YtphjnagmlgmdfaaqTvR
set_option linter.unusedVariables false
set_option linter.unusedSimpArgs false
namespace Go.Ev
open Go
theorem iter_run {S R : Type} {body : S → (S → Option R) → Option R} {res : Option R} (P : S → Prop) (μ : S → Nat)
    (h : ∀ s next, P s → (∀ s', P s' → μ s' < μ s → next s' = res) → body s next = res) : ∀ m s, P s → μ s < m → iter m body s = res
  | 0, _, _, hm => by omega
  | m + 1, s, hp, hm => h s _ hp fun s' hp' hlt => iter_run P μ h m s' hp' (by omega)
theorem wrap64 {n : Int} (h1 : -9223372036854775808 ≤ n) (h2 : n ≤ 9223372036854775807) : IntKind.i64.wrap n = n := by
  have : IntKind.i64.wrap n = if n % 18446744073709551616 ≥ 9223372036854775808 then n % 18446744073709551616 - 18446744073709551616 else n % 18446744073709551616 := by
    simp [IntKind.wrap, IntKind.bits, IntKind.signed]
  rw [this]; split <;> omega
theorem ibB_of {i n : Int} (h1 : 0 ≤ i) (h2 : i < n) : ibB i n = true := by simp [ibB, h1, h2]
section
variable {α : Type} {n : Nat}
end
end Go.Ev
