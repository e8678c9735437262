/-
Plain laws for the printed functions: loops by an invariant, wrap-around in range, lists and vectors by their places.
-/
import Derived.Test.YtllmdbbhokaokaaqTvR
set_option linter.unusedVariables false
set_option linter.unusedSimpArgs false
namespace Go.Ev
open Go
theorem iter_run {S R : Type} {body : S → (S → Option R) → Option R} {res : Option R} (P : S → Prop) (μ : S → Nat)
    (h : ∀ s next, P s → (∀ s', P s' → μ s' < μ s → next s' = res) → body s next = res) : ∀ m s, P s → μ s < m → iter m body s = res
  | 0, _, _, hm => by omega
  | m + 1, s, hp, hm => h s _ hp fun s' hp' hlt => iter_run P μ h m s' hp' (by omega)
theorem iter_post {S R : Type} {body : S → (S → Option R) → Option R} (P : S → Prop) (μ : S → Nat) (Q : R → Prop)
    (h : ∀ s next, P s → (∀ s', P s' → μ s' < μ s → ∃ r, next s' = some r ∧ Q r) → ∃ r, body s next = some r ∧ Q r) : ∀ m s, P s → μ s < m → ∃ r, iter m body s = some r ∧ Q r
  | 0, _, _, hm => by omega
  | m + 1, s, hp, hm => h s _ hp fun s' hp' hlt => iter_post P μ Q h m s' hp' (by omega)
theorem wrap64 {n : Int} (h1 : -9223372036854775808 ≤ n) (h2 : n ≤ 9223372036854775807) : IntKind.i64.wrap n = n := by
  have : IntKind.i64.wrap n = if n % 18446744073709551616 ≥ 9223372036854775808 then n % 18446744073709551616 - 18446744073709551616 else n % 18446744073709551616 := by
    simp [IntKind.wrap, IntKind.bits, IntKind.signed]
  rw [this]; split <;> omega
theorem len_le_sum' {α : Type} {f : α → Nat} (h : ∀ x, 1 ≤ f x) : ∀ l : List α, l.length ≤ (l.map f).sum
  | [] => by simp
  | x :: l => by have := len_le_sum' h l; have := h x; simp only [List.length_cons, List.map_cons, List.sum_cons]; omega
theorem ibB_of {i n : Int} (h1 : 0 ≤ i) (h2 : i < n) : ibB i n = true := by simp [ibB, h1, h2]
theorem cutB_of {l h n : Int} (h1 : 0 ≤ l) (h2 : l ≤ h) (h3 : h ≤ n) : cutB l h n = true := by simp [cutB, h1, h2, h3]
theorem lenB_of {n k : Nat} (h : n * k ≤ 70368744177664) : lenB n k = true := by simp [lenB, h]
theorem drop_cons {α : Type} (d : α) {l : List α} {i : Nat} (h : i < l.length) : l.drop i = l.getD i d :: l.drop (i + 1) := by
  rw [List.drop_eq_getElem_cons h]; simp [List.getD, List.getElem?_eq_getElem h]
section
variable {α : Type} {n : Nat}
theorem vgetE (v : Vector α n) (d : α) {i : Nat} (h : i < n) : vget v i d = v[i] := by
  simp [vget, List.getD, h]
theorem vget_mem (v : Vector α n) (d : α) {i : Nat} (h : i < n) : vget v i d ∈ v.toList := by
  rw [vgetE _ _ h]; simp
theorem zip_all_iff {b : α → α → Bool} (hb : ∀ x y, b x y = true ↔ x = y) : ∀ l m : List α, l.length = m.length → (((l.zip m).all fun p => b p.1 p.2) = true ↔ l = m)
  | [], [], _ => by simp
  | [], _ :: _, h => by simp at h
  | _ :: _, [], h => by simp at h
  | x :: l, y :: m, h => by
    have ih := zip_all_iff hb l m (by simpa using h)
    simp only [List.zip_cons_cons, List.all_cons, Bool.and_eq_true, hb, ih, List.cons.injEq]
theorem vbeq_iff {b : α → α → Bool} (hb : ∀ x y, b x y = true ↔ x = y) (v w : Vector α n) : vbeq b v w = true ↔ v = w := by
  unfold vbeq
  rw [zip_all_iff hb _ _ (by simp)]
  constructor
  · intro h
    apply Vector.ext
    intro i hi
    have : v.toList[i]? = w.toList[i]? := by rw [h]
    simpa [hi] using this
  · rintro rfl; rfl
theorem vbeq_self {b : α → α → Bool} (hb : ∀ x y, b x y = true ↔ x = y) (v : Vector α n) : vbeq b v v = true := (vbeq_iff hb v v).2 rfl
end
end Go.Ev
