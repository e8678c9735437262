/-
The mathematics of epochs: which may be, what an entry makes of one, which follows which; and that the printed functions compute just that.
-/
import Derived.Test.YtjjnclgkppbpnaaFa
import Derived.Test.YtjjnclgkppbpnaaTvT
set_option linter.unusedVariables false
set_option linter.unusedSimpArgs false
namespace Go.Proofs.Ytjjnclgkppbpnaa
open Go Go.Ev

theorem beq2_iff (x y : Int) : beq2 x y = true ↔ x = y := by simp [beq2]
theorem beq3_iff (x y : Int) : beq3 x y = true ↔ x = y := by simp [beq3]

def sta (e : GEpoch) (i : Nat) : Int := vget e.States i default
def sea (e : GEpoch) (i : Nat) : Int := vget e.Seals i default
def spo (e : GEpoch) (i : Nat) : Int := vget e.Sponsor i default

theorem stE (e : GEpoch) (i : Nat) : vget e.States i default = sta e i := rfl
theorem seE (e : GEpoch) (i : Nat) : vget e.Seals i default = sea e i := rfl
theorem spE (e : GEpoch) (i : Nat) : vget e.Sponsor i default = spo e i := rfl

def okP (e : GEpoch) (i : Nat) : Prop :=
  0 ≤ sta e i ∧ sta e i ≤ 3 ∧ 0 ≤ sea e i ∧ sea e i ≤ 1099511627776 ∧ (sta e i = 3 ∨ sea e i = 0) ∧ ((sta e i = 0 ∧ spo e i = -1) ∨ (sta e i ≠ 0 ∧ -1 ≤ spo e i ∧ spo e i < 8 ∧ spo e i ≠ i))
instance (e : GEpoch) (i : Nat) : Decidable (okP e i) := by unfold okP; exact inferInstance
def okS (e : GEpoch) (i : Nat) : Bool := decide (okP e i)
theorem okS_t {e : GEpoch} {i : Nat} (h : okP e i) : okS e i = true := by simpa [okS] using h
theorem okS_f {e : GEpoch} {i : Nat} (h : ¬ okP e i) : okS e i = false := by simpa [okS] using h
def mem1 (e : GEpoch) (i : Nat) : Bool := sta e i == 1
def chk (e : GEpoch) : Bool := decide (0 ≤ e.Number) && decide (e.Number < 1024) && (List.range 8).all (okS e) && (List.range 8).any (mem1 e)

theorem all_find {n : Nat} {p : Nat → Bool} {α : Type} (r last : Option α) :
    ((List.range n).findSome? (fun k => if p k then none else some r)).getD last = if (List.range n).all p then last else r := by
  induction (List.range n) with
  | nil => rfl
  | cons x l ih =>
    rw [List.findSome?_cons, List.all_cons]
    cases p x
    · simp
    · simpa using ih
theorem any_find {n : Nat} {p : Nat → Bool} {α : Type} (r last : Option α) :
    ((List.range n).findSome? (fun k => if p k then some r else none)).getD last = if (List.range n).any p then r else last := by
  induction (List.range n) with
  | nil => rfl
  | cons x l ih =>
    rw [List.findSome?_cons, List.any_cons]
    cases p x
    · simpa using ih
    · simp
theorem none_find {n : Nat} {α : Type} (last : Option α) : ((List.range n).findSome? (fun _ => (none : Option (Option α)))).getD last = last := by
  induction (List.range n) with
  | nil => rfl
  | cons x l ih => rw [List.findSome?_cons]; exact ih
theorem any_succ (p : Nat → Bool) (k : Nat) : (List.range (k + 1)).any p = ((List.range k).any p || p k) := by
  rw [List.range_succ, List.any_append]; simp
theorem natCast_lt8 {k : Nat} (h : k < 8) : decide ((k : Int) < 8) = true := by simp; omega

theorem F13_eq {N : Nat} (hN : 8 < N) (e : GEpoch) : F13 N e = some (chk e) := by
  unfold F13
  by_cases hn : e.Number < 0 ∨ 1024 ≤ e.Number
  · have : (decide (e.Number < 0) || decide (1024 ≤ e.Number)) = true := by simpa using hn
    rw [this, cond_true]
    congr 1
    unfold chk
    rcases hn with h | h
    · simp [show ¬ 0 ≤ e.Number by omega]
    · simp [show ¬ e.Number < 1024 by omega]
  · have : (decide (e.Number < 0) || decide (1024 ≤ e.Number)) = false := by simp at hn ⊢; omega
    rw [this, cond_false]
    rw [show (⟨false, 0⟩ : S13x5) = (fun k : Nat => (⟨(List.range k).any (mem1 e), (k : Int)⟩ : S13x5)) 0 from rfl]
    rw [iter_path (fun k : Nat => (⟨(List.range k).any (mem1 e), (k : Int)⟩ : S13x5)) 8 (fun k => if okS e k then none else some (some false)) (some ((List.range 8).any (mem1 e))) ?_ ?_ N hN]
    · rw [all_find]
      unfold chk
      rw [show decide (0 ≤ e.Number) = true by simp; omega, show decide (e.Number < 1024) = true by simp; omega]
      cases (List.range 8).all (okS e) <;> rfl
    · intro k next hk
      simp only [natCast_lt8 hk, ibB_of (show (0 : Int) ≤ k by omega) (show (k : Int) < 8 by omega), cond_true, any_succ]
      rw [wrap64 (by omega) (by omega)]
      simp only [dec_lt, dec_le]
      simp only [Int.toNat_natCast, stE, seE, spE]
      simp only [Bool.cond_eq_ite, Bool.or_eq_true, Bool.and_eq_true, Bool.not_eq_true', Bool.or_eq_false_iff, decide_eq_true_eq, decide_eq_false_iff_not, beq_iff_eq, beq_eq_false_iff_ne, ltB_t, leB_t]
      by_cases h : okP e k
      · simp only [okS_t h, if_true]
        unfold okP at h
        rw [if_neg (by omega), if_neg (by omega), if_neg (by omega)]
        rfl
      · simp only [okS_f h, Bool.false_eq_true, if_false]
        unfold okP at h
        split
        · rfl
        · split
          · rfl
          · rw [if_pos (by omega)]
    · intro next
      rfl

theorem F34_eq (N : Nat) (n : Int) : F34 N n = some (decide (0 ≤ n) && decide (n < 8)) := rfl
theorem F32_eq (N : Nat) (n : Int) : F32 N n = some (decide (0 ≤ n) && decide (n < 8)) := rfl

theorem F38_eq (N : Nat) (e : GEpoch) {k : Nat} (hk : k < 8) : F38 N e (k : Int) = some (okS e k) := by
  unfold F38
  simp only [ibB_of (show (0 : Int) ≤ k by omega) (show (k : Int) < 8 by omega), cond_true]
  simp only [F37, dec_lt, dec_le]
  simp only [Int.toNat_natCast, stE, seE, spE]
  simp only [Bool.cond_eq_ite, Bool.or_eq_true, Bool.and_eq_true, Bool.not_eq_true', Bool.or_eq_false_iff, decide_eq_true_eq, decide_eq_false_iff_not, beq_iff_eq, beq_eq_false_iff_ne, ltB_t, leB_t, ltB_f, leB_f]
  by_cases h : okP e k
  · rw [okS_t h]
    unfold okP at h
    rw [if_pos (by omega), Option.bind_some, if_neg (by simp only [Bool.and_eq_false_iff, leB_f]; omega)]
    split
    · rw [Option.some.injEq, beq_iff_eq]; omega
    · simp only [Option.some.injEq, Bool.and_eq_true, leB_t, ltB_t, Bool.not_eq_true', beq_eq_false_iff_ne]; omega
  · rw [okS_f h]
    unfold okP at h
    by_cases h1 : sta e k < 0 ∨ 3 < sta e k
    · rw [if_neg (by omega), Option.bind_some, if_pos (.inl (.inl h1))]
    · rw [if_pos (by omega), Option.bind_some]
      split
      · rfl
      · rename_i h2
        simp only [Bool.and_eq_false_iff, leB_f] at h2
        split
        · simp only [Option.some.injEq, beq_eq_false_iff_ne]; omega
        · simp only [Option.some.injEq, Bool.and_eq_false_iff, leB_f, ltB_f, Bool.not_eq_false', beq_iff_eq]; omega

theorem F15_eq {N : Nat} (hN : 8 < N) (e : GEpoch) : F15 N e = some (chk e) := by
  unfold F15
  rw [show (⟨false, 0⟩ : S15x3) = (fun k : Nat => (⟨(List.range k).any (mem1 e), (k : Int)⟩ : S15x3)) 0 from rfl]
  rw [iter_path (fun k : Nat => (⟨(List.range k).any (mem1 e), (k : Int)⟩ : S15x3)) 8 (fun k => if okS e k then none else some (some false)) (some (((List.range 8).any (mem1 e) && decide (0 ≤ e.Number)) && decide (e.Number < 1024))) ?_ ?_ N hN]
  · rw [all_find]
    unfold chk
    cases (List.range 8).all (okS e) <;> cases (List.range 8).any (mem1 e) <;> simp
  · intro k next hk
    simp only [natCast_lt8 hk, ibB_of (show (0 : Int) ≤ k by omega) (show (k : Int) < 8 by omega), cond_true, Int.toNat_natCast, stE, seE, spE, any_succ, F38_eq N e hk, Option.bind_some, Bool.or_true]
    rw [wrap64 (by omega) (by omega)]
    cases okS e k <;> rfl
  · intro next
    rfl
end Go.Proofs.Ytjjnclgkppbpnaa
