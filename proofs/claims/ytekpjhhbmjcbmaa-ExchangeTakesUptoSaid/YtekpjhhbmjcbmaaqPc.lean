/-
The laws of what counts.
-/
import Derived.Test.YtekpjhhbmjcbmaaqPb
import Derived.KernelRfl
set_option linter.unusedVariables false
set_option linter.unusedSimpArgs false
namespace Go.Proofs.Ytekpjhhbmjcbmaa
open Go Go.Ev
section
variable {N : Nat}
theorem begun_eq (hN : 400 ≤ N) : Flaw16_begun N = some true := by
  obtain ⟨k, rfl⟩ : ∃ k, N = k + 400 := ⟨N - 400, by omega⟩
  kernel_rfl
theorem ops_self {l : List GOp} (hN : l.length < N) (hl : l.length ≤ 1048576) : Flaw16_ops N l l = some true := by
  unfold Flaw16_ops
  rw [show ((l.length : Int) == (l.length : Int)) = true by simp]
  simp only [Bool.not_true, cond_false]
  refine iter_run (fun q : Slaw16_opsx4 => 0 ≤ q.t13 ∧ q.t13 ≤ l.length) (fun q => (l.length - q.t13).toNat) ?_ N _ ⟨by simp, by simp⟩ (by simp; omega)
  rintro ⟨t⟩ nx ⟨h0, h1⟩ ih
  simp only at ih h0 h1 ⊢
  by_cases hlt : t < l.length
  · rw [decide_eq_true hlt, ibB_of h0 hlt]
    simp only [beq_self_eq_true, Bool.and_self, Bool.not_true, cond_false, cond_true]
    rw [wrapS (by omega) (by omega)]
    exact ih _ ⟨by simp only; omega, by simp only; omega⟩ (by simp; omega)
  · rw [decide_eq_false hlt]; rfl
theorem tk_len (s : GSnap) (o : Int) : ∀ (l : List GOp) (n last : Int), (tk N s o n last l).length ≤ l.length
  | [], _, _ => Nat.le_refl _
  | x :: r, n, last => by
    rw [tk]; split
    · simp
    · have := tk_len s o r (n + 1) x.Stamp.Time
      simp only [List.length_cons]; omega
theorem take_len (s : GSnap) (o seq : Int) (l : List GOp) : (take N s o seq l).length ≤ l.length := by
  unfold take
  split
  · simp
  · split
    · simp
    · exact Nat.le_trans (tk_len s o _ _ _) (by simp)
theorem takes_law {s : GSnap} {o seq : Int} {l : List GOp} (hN : l.length + 400 ≤ N) (hl : l.length ≤ 1048576) : Flaw16_ExchangeTakes N s o seq l = some true := by
  unfold Flaw16_ExchangeTakes
  have hle := take_len (N := N) s o seq l
  rw [begun_eq (by omega), Option.bind_some, take_eq (by omega) hl, reftake_eq (by omega) hl]
  simp only [cond_true, Option.bind_some]
  rw [ops_self (by omega) (by omega)]; rfl
def good (N : Nat) (s : GSnap) (o : Int) : Int → Int → List GOp → Prop
  | _, _, [] => True
  | n, last, x :: r => ¬ stop N s o n last x ∧ good N s o (n + 1) x.Stamp.Time r
end
end Go.Proofs.Ytekpjhhbmjcbmaa
