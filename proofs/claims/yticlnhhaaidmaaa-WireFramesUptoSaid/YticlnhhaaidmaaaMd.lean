/-
What the bound on the input says of its parts.
-/
import Derived.Test.YticlnhhaaidmaaaMc
import Derived.Test.YticlnhhaaidmaaaRd
set_option linter.unusedVariables false
namespace Go.Proofs.Yticlnhhaaidmaaa
open Go Go.Ev
theorem bulk23_eq : ∀ m : List Int, bulk23 m = m.length + 1
  | [] => rfl
  | x :: m => by
    have := bulk23_eq m
    unfold bulk23 at this ⊢
    simp only [List.map_cons, List.sum_cons, List.length_cons, bulk5] at this ⊢
    omega
theorem bulk22_flat : ∀ l : List (List Int), l.flatten.length + l.length + 1 ≤ bulk22 l
  | [] => by simp [bulk22]
  | m :: l => by
    have := bulk22_flat l
    have hm := bulk23_eq m
    unfold bulk22 at this ⊢
    simp only [List.map_cons, List.sum_cons, List.length_cons, List.flatten_cons, List.length_append]
    omega
theorem bulk29_len (l : List Gorchardlaw01_Part) : l.length + 1 ≤ bulk29 l := by
  have := len_le_sum' (f := bulk33) (fun x => by unfold bulk33; omega) l
  unfold bulk29; omega
theorem bulk29_mem {l : List Gorchardlaw01_Part} {p : Gorchardlaw01_Part} (hp : p ∈ l) : p.B.length + 4 ≤ bulk29 l := by
  have h1 : bulk33 p ≤ (l.map bulk33).sum := by
    induction l with
    | nil => cases hp
    | cons x l ih =>
      simp only [List.map_cons, List.sum_cons]
      rcases List.mem_cons.1 hp with rfl | hp
      · omega
      · have := ih hp; omega
  have h2 := bulk23_eq p.B
  have h3 : bulk33 p = 1 + 1 + bulk23 p.B + 1 := rfl
  unfold bulk29
  omega
end Go.Proofs.Yticlnhhaaidmaaa
