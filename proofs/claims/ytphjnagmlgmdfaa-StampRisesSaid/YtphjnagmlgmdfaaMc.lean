/-
StampNodes and StampRises as plain laws of the printed functions.
-/
import Derived.Test.YtphjnagmlgmdfaaMb
set_option linter.unusedVariables false
set_option linter.unusedSimpArgs false
namespace Go.Proofs.Ytphjnagmlgmdfaa
open Go Go.Ev

theorem F10_11 (N : Nat) (n : Int) : F10 N n = F11 N n := by
  unfold F10 F11; simp only [F25_26]
theorem F13_14 (N : Nat) (s : GStamp) : F13 N s = F14 N s := by
  unfold F13 F14; simp only [F25_26]
def chk (s : GStamp) : Bool := decide (1 ≤ s.Time) && decide (s.Time ≤ 1099511627776) && decide (0 ≤ s.Site) && decide (s.Site < 8)
theorem F25_eq (N : Nat) (s : GStamp) : F25 N s = some (chk s) := rfl
theorem F10_some (N : Nat) (n : Int) : ∃ r, F10 N n = some r := by
  unfold F10
  cases decide (n < 16)
  · simp only [cond_false, F25_eq, Option.bind_some]
    cases chk _ <;> exact ⟨_, rfl⟩
  · exact ⟨_, rfl⟩
theorem F13_some (N : Nat) (s : GStamp) : ∃ r, F13 N s = some r := by
  unfold F13
  simp only [F25_eq, Option.bind_some]
  cases chk _ <;> exact ⟨_, rfl⟩
theorem stampNodes_F (N : Nat) (s : GStamp) (n : Int) : F3 N s n = some true := by
  unfold F3
  obtain ⟨r, hr⟩ := F10_some N n
  obtain ⟨t, ht⟩ := F13_some N s
  simp [← F10_11, ← F13_14, hr, ht, F12_eq]

/-- A good stamp's node, and back. -/
theorem F13_good {N : Nat} {s : GStamp} (h : chk s = true) : F13 N s = some (16 + s.Time * 8 + s.Site) := by
  have h' := h
  simp only [chk, Bool.and_eq_true, decide_eq_true_eq] at h'
  unfold F13
  simp only [F25_eq, h, Option.bind_some, Bool.not_true, cond_false]
  rw [wrap64 (n := s.Time * 8) (by omega) (by omega), wrap64 (n := 16 + s.Time * 8) (by omega) (by omega), wrap64 (by omega) (by omega)]
theorem F10_good {N : Nat} {s : GStamp} (h : chk s = true) : F10 N (16 + s.Time * 8 + s.Site) = some (s, true) := by
  have h' := h
  simp only [chk, Bool.and_eq_true, decide_eq_true_eq] at h'
  unfold F10
  have hd : decide (16 + s.Time * 8 + s.Site < 16) = false := by simp; omega
  have e1 : IntKind.i64.wrap (16 + s.Time * 8 + s.Site - 16) = s.Time * 8 + s.Site := by rw [wrap64 (by omega) (by omega)]; omega
  have e2 : Int.tdiv (s.Time * 8 + s.Site) 8 = s.Time := by rw [Int.tdiv_eq_ediv_of_nonneg (by omega)]; omega
  have e3 : Int.tmod (s.Time * 8 + s.Site) 8 = s.Site := by rw [Int.tmod_eq_emod_of_nonneg (by omega)]; omega
  simp only [hd, cond_false, e1, e2, e3]
  rw [wrap64 (by omega) (by omega)]
  simp only [F25_eq, show chk ⟨s.Time, s.Site⟩ = true from h, Option.bind_some, Bool.not_true, cond_false]
theorem stampRises_F {N : Nat} (a b : GStamp) (hN : 3 ≤ N) : F7 N a b = some true := by
  unfold F7
  simp only [← F25_26, F25_eq, F12_eq, Option.bind_some]
  cases ha : chk a with
  | false => simp
  | true =>
    cases hb : chk b with
    | false => simp
    | true =>
      have ha' := ha
      have hb' := hb
      simp only [chk, Bool.and_eq_true, decide_eq_true_eq] at ha' hb'
      simp only [F13_good ha, F13_good hb, F10_good ha, Option.bind_some, F27_eq hN]
      have h16 : decide (16 ≤ 16 + a.Time * 8 + a.Site) = true := by simp; omega
      have key : cmpS a b = if 16 + a.Time * 8 + a.Site < 16 + b.Time * 8 + b.Site then -1 else if 16 + b.Time * 8 + b.Site < 16 + a.Time * 8 + a.Site then 1 else 0 := by
        unfold cmpS; (repeat' split) <;> first | rfl | (exfalso; omega)
      by_cases h1 : 16 + a.Time * 8 + a.Site < 16 + b.Time * 8 + b.Site
      · have h2 : ¬ 16 + b.Time * 8 + b.Site < 16 + a.Time * 8 + a.Site := by omega
        simp [h1, h2, key, h16]
      · by_cases h2 : 16 + b.Time * 8 + b.Site < 16 + a.Time * 8 + a.Site
        · simp [h1, h2, key, h16]
        · simp [h1, h2, key, h16]

end Go.Proofs.Ytphjnagmlgmdfaa
