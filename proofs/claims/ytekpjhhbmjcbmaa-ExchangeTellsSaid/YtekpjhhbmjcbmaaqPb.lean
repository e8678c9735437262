/-
Which operations count: the program's answer is the document's; and what it is.
-/
import Derived.Test.YtekpjhhbmjcbmaaqPa
set_option linter.unusedVariables false
set_option linter.unusedSimpArgs false
namespace Go.Proofs.Ytekpjhhbmjcbmaa
open Go Go.Ev
def ck (N : Nat) (op : GOp) : Int := (Fstamp_CheckOp N op).getD 0
def MT : Int := 1099511627776
def stt (s : GSnap) (o : Int) : Int := vget s.Epoch.States o.toNat default
def sls (s : GSnap) (o : Int) : Int := vget s.Epoch.Seals o.toNat default
def vec (s : GSnap) (o : Int) : Int := vget s.Vector_ o.toNat default
def lst (s : GSnap) (o : Int) : Int := vget s.Last o.toNat default
def stop (N : Nat) (s : GSnap) (o number last : Int) (op : GOp) : Prop :=
  MT ≤ number ∨ (stt s o = 3 ∧ sls s o ≤ number) ∨ ck N op ≠ 0 ∨ op.Stamp.Site ≠ o ∨ op.Stamp.Time ≤ last ∨ op.Stamp.Time ≤ s.Frontier
instance (N : Nat) (s : GSnap) (o number last : Int) (op : GOp) : Decidable (stop N s o number last op) := by unfold stop; infer_instance
def tk (N : Nat) (s : GSnap) (o : Int) : Int → Int → List GOp → List GOp
  | _, _, [] => []
  | n, last, op :: r => if stop N s o n last op then [] else op :: tk N s o (n + 1) op.Stamp.Time r
def bad (s : GSnap) (o seq : Int) : Prop := ¬ (0 ≤ o ∧ o < 8) ∨ o = s.Site ∨ stt s o = 0 ∨ seq < 0 ∨ vec s o < seq ∨ MT < vec s o
instance (s : GSnap) (o seq : Int) : Decidable (bad s o seq) := by unfold bad; infer_instance
def take (N : Nat) (s : GSnap) (o seq : Int) (ops : List GOp) : List GOp :=
  if bad s o seq then [] else if (ops.length : Int) ≤ vec s o - seq then [] else tk N s o (vec s o) (lst s o) (ops.drop (vec s o - seq).toNat)
section
variable {N : Nat}
theorem wrapS {n : Int} (h1 : -9000000000000000000 ≤ n) (h2 : n ≤ 9000000000000000000) : IntKind.i64.wrap n = n := wrap64 (by omega) (by omega)
theorem site_t {o : Int} (h : 0 ≤ o ∧ o < 8) : ((decide (0 ≤ o)) && (decide (o < 8))) = true := by simp [h.1, h.2]
theorem site_f {o : Int} (h : ¬ (0 ≤ o ∧ o < 8)) : ((decide (0 ≤ o)) && (decide (o < 8))) = false := by
  rw [Bool.eq_false_iff]; intro q; simp only [Bool.and_eq_true, decide_eq_true_eq] at q; exact h q
end
end Go.Proofs.Ytekpjhhbmjcbmaa
