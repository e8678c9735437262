/-
The laws of this seat: StampVectors, StampLattice, StampOrders, as plain laws of the printed functions.
-/
import Derived.Test.YtphjnagmlgmdfaaMa
set_option linter.unusedVariables false
set_option linter.unusedSimpArgs false
namespace Go.Proofs.Ytphjnagmlgmdfaa
open Go Go.Ev

theorem F12_eq (N : Nat) : F12 N = some true := rfl

theorem F15_eq {N : Nat} {l : List (Vector Int 8)} (hN : l.length + 9 ≤ N) (hl : l.length ≤ 9223372036854775807) : F15 N l = some (foldA mx l) := by
  unfold F15; rw [F33_eq hN hl]; rfl
theorem F16_eq {N : Nat} {l : List (Vector Int 8)} (hN : l.length + 9 ≤ N) (hl : l.length ≤ 9223372036854775807) : F16 N l = some (foldA mn l) := by
  unfold F16; rw [F33i1_eq hN hl]; rfl
theorem F17_eq {N : Nat} {a b : Vector Int 8} (hN : 11 ≤ N) : F17 N a b = some (vbeq beq2 (zipV mx a b) a) := by
  unfold F17; rw [F15_eq (by simpa using hN) (by simp)]; rfl

theorem vb_iff (a b : Vector Int 8) : vbeq beq2 a b = true ↔ a = b := vbeq_iff beq2_iff a b
theorem vb_self (a : Vector Int 8) : vbeq beq2 a a = true := (vb_iff a a).2 rfl

theorem F18_19 (N : Nat) (v : Vector Int 8) : F18 N v = F19 N v := by
  unfold F18 F19
  refine iter_sim (fun s s' => s.t6 = s'.i ∧ 0 ≤ s.t6 ∧ s.t6 ≤ 8) ?_ N _ _ ⟨rfl, by simp, by simp⟩
  rintro ⟨i⟩ ⟨i'⟩ n n' ⟨h, h0, h8⟩ ih
  simp only at h h0 h8 ih ⊢
  subst h
  by_cases hi : i < 8
  · simp only [decide_eq_true hi, ibB_of h0 hi, cond_true, F36, Option.bind_some]
    rw [wrap64 (by omega) (by omega)]
    have : (decide (vget v i.toNat default < 0) || decide (1099511627776 < vget v i.toNat default)) = !(decide (0 ≤ vget v i.toNat default) && decide (vget v i.toNat default ≤ 1099511627776)) := by
      rw [Bool.eq_iff_iff]; simp
    rw [this, ih ⟨i + 1⟩ ⟨i + 1⟩ ⟨rfl, (by omega : 0 ≤ i + 1), (by omega : i + 1 ≤ 8)⟩]
  · have : decide (i < 8) = false := by simpa using hi
    simp only [this, cond_false]
theorem F18_some {N : Nat} (hN : 9 ≤ N) (v : Vector Int 8) : ∃ r, F18 N v = some r := by
  unfold F18
  have := iter_post (R := Bool) (fun s : S18x2 => 0 ≤ s.t6 ∧ s.t6 ≤ 8) (fun s => (8 - s.t6).toNat) (fun _ => True) (body := fun (s1 : S18x2) next2 =>
    (bif (decide (s1.t6 < 8)) then
    (bif (ibB s1.t6 8) then
    (bif ((decide ((vget v ((s1.t6).toNat) default) < 0)) || (decide (1099511627776 < (vget v ((s1.t6).toNat) default)))) then
    (some false)
    else
    (next2 ⟨(IntKind.i64.wrap (s1.t6 + 1))⟩))
    else none)
    else
    (some true))) ?_ N ⟨0⟩ ⟨by simp, by simp⟩ (by simp; omega)
  · obtain ⟨r, h, _⟩ := this; exact ⟨r, h⟩
  · rintro ⟨i⟩ n ⟨h0, h8⟩ ih
    simp only at h0 h8 ih ⊢
    by_cases hi : i < 8
    · simp only [decide_eq_true hi, ibB_of h0 hi, cond_true]
      rw [wrap64 (by omega) (by omega)]
      cases (decide (vget v i.toNat default < 0) || decide (1099511627776 < vget v i.toNat default))
      · exact ih ⟨i + 1⟩ ⟨by simp; omega, by simp; omega⟩ (by simp; omega)
      · exact ⟨_, rfl, trivial⟩
    · have : decide (i < 8) = false := by simpa using hi
      simp only [this, cond_false]
      exact ⟨_, rfl, trivial⟩

theorem F22_eq {N : Nat} (hN : 9 ≤ N) (a b : Vector Int 8) : F22 N a b = some (vbeq beq2 (zipV mx a b) a) := by
  unfold F22
  refine iter_run (fun s : S22x2 => 0 ≤ s.i ∧ s.i ≤ 8 ∧ ∀ j : Nat, (j : Int) < s.i → ¬ vget a j default < vget b j default) (fun s => (8 - s.i).toNat) ?_ N _ ⟨by simp, by simp, fun j hj => by simp at hj; omega⟩ (by simp; omega)
  rintro ⟨i⟩ n ⟨h0, h8, hs⟩ ih
  simp only at h0 h8 hs ih ⊢
  by_cases hi : i < 8
  · simp only [decide_eq_true hi, ibB_of h0 hi, cond_true, Bool.cond_decide]
    rw [wrap64 (by omega) (by omega)]
    split
    · rename_i hlt
      have : vbeq beq2 (zipV mx a b) a = false := by
        rw [Bool.eq_false_iff]
        intro h
        rw [vb_iff] at h
        have := congrArg (fun v => vget v i.toNat default) h
        simp only [vget_zipV _ _ _ (show i.toNat < 8 by omega), mx, if_pos hlt] at this
        omega
      rw [this]
    · rename_i hlt
      refine ih ⟨i + 1⟩ ⟨by simp; omega, by simp; omega, fun j hj => ?_⟩ (by simp; omega)
      simp only at hj
      by_cases e : (j : Int) = i
      · have : j = i.toNat := by omega
        subst this; exact hlt
      · exact hs j (by omega)
  · have : decide (i < 8) = false := by simpa using hi
    simp only [this, cond_false]
    have : zipV mx a b = a := vext default fun j hj => by
      rw [vget_zipV _ _ _ hj, mx, if_neg (hs j (by omega))]
    rw [this, vb_self]

theorem F23_24 (N : Nat) (v : Vector Int 8) : F23 N v = F24 N v := by
  unfold F23 F24
  refine iter_sim (fun s s' => s.t7 = s'.i ∧ s.n = s'.n) ?_ N _ _ ⟨rfl, rfl⟩
  rintro ⟨i, t⟩ ⟨i', t'⟩ n n' ⟨h, h0⟩ ih
  simp only at h h0 ih ⊢
  subst h; subst h0
  rw [ih ⟨_, _⟩ ⟨_, _⟩ ⟨rfl, rfl⟩]
theorem F24_some {N : Nat} (hN : 9 ≤ N) (v : Vector Int 8) : ∃ r, F24 N v = some r := by
  unfold F24
  have := iter_post (R := Int) (fun s : S24x3 => 0 ≤ s.i ∧ s.i ≤ 8) (fun s => (8 - s.i).toNat) (fun _ => True) (body := fun (s1 : S24x3) next2 =>
    (bif (decide (s1.i < 8)) then
    (bif (ibB s1.i 8) then
    (next2 ⟨(IntKind.i64.wrap (s1.n + (vget v ((s1.i).toNat) default))), (IntKind.i64.wrap (s1.i + 1))⟩)
    else none)
    else
    (some s1.n))) ?_ N ⟨0, 0⟩ ⟨by simp, by simp⟩ (by simp; omega)
  · obtain ⟨r, h, _⟩ := this; exact ⟨r, h⟩
  · rintro ⟨t, i⟩ n ⟨h0, h8⟩ ih
    simp only at h0 h8 ih ⊢
    by_cases hi : i < 8
    · simp only [decide_eq_true hi, ibB_of h0 hi, cond_true]
      rw [wrap64 (n := i + 1) (by omega) (by omega)]
      exact ih ⟨_, i + 1⟩ ⟨by simp; omega, by simp; omega⟩ (by simp; omega)
    · have : decide (i < 8) = false := by simpa using hi
      simp only [this, cond_false]
      exact ⟨_, rfl, trivial⟩

theorem stampVectors_F {N : Nat} {l : List (Vector Int 8)} (a b : Vector Int 8) (hN : l.length + 20 ≤ N) (hl : l.length ≤ 9223372036854775807) : F6 N l a b = some true := by
  unfold F6
  obtain ⟨r, hr⟩ := F18_some (N := N) (by omega) a
  obtain ⟨t, ht⟩ := F24_some (N := N) (by omega) a
  simp [F12_eq, ← F18_19, hr, F23_24, ht, F15_eq (N := N) (l := l) (by omega) hl, F16_eq (N := N) (l := l) (by omega) hl, F20_eq (N := N) (l := l) (by omega) hl, F21_eq (N := N) (l := l) (by omega) hl,
    F17_eq (N := N) (a := a) (b := b) (by omega), F22_eq (N := N) (by omega) a b, vb_self]

/-! ### The lattice -/
theorem zip_lanes {f g : Vector Int 8} (h : ∀ i, i < 8 → vget f i default = vget g i default) : f = g := vext default h
theorem zipV_eq_iff {f : Int → Int → Int} {a b c : Vector Int 8} : zipV f a b = c ↔ ∀ i : Nat, i < 8 → f (vget a i default) (vget b i default) = vget c i default :=
  ⟨fun h i hi => by rw [← h, vget_zipV _ _ _ hi], fun h => zip_lanes fun i hi => by rw [vget_zipV _ _ _ hi, h i hi]⟩
theorem stampLattice_F {N : Nat} (a b c : Vector Int 8) (hN : 20 ≤ N) : F5 N a b c = some true := by
  have J : ∀ l : List (Vector Int 8), l.length ≤ 3 → F15 N l = some (foldA mx l) := fun l h => F15_eq (by omega) (by omega)
  have M : ∀ l : List (Vector Int 8), l.length ≤ 3 → F16 N l = some (foldA mn l) := fun l h => F16_eq (by omega) (by omega)
  have e1 : zipV mx a (zipV mn a b) = a := zip_lanes fun i hi => by simp only [vget_zipV _ _ _ hi, mx, mn]; (repeat' split) <;> omega
  have e2 : zipV mn a (zipV mx a b) = a := zip_lanes fun i hi => by simp only [vget_zipV _ _ _ hi, mx, mn]; (repeat' split) <;> omega
  have e3 : zipV mx a a = a := zip_lanes fun i hi => by simp only [vget_zipV _ _ _ hi, mx]; split <;> omega
  have e4 : zipV mx (zipV mx a b) c = zipV mx a (zipV mx b c) := zip_lanes fun i hi => by simp only [vget_zipV _ _ _ hi, mx]; split <;> (repeat' split) <;> omega
  have e5 : zipV mn a (zipV mx b c) = zipV mx (zipV mn a b) (zipV mn a c) := zip_lanes fun i hi => by simp only [vget_zipV _ _ _ hi, mx, mn]; (repeat' split) <;> omega
  have e6 : vbeq beq2 (zipV mx a b) a = vbeq beq2 (zipV mn a b) b := by
    rw [Bool.eq_iff_iff, vb_iff, vb_iff, zipV_eq_iff, zipV_eq_iff]
    refine forall_congr' fun i => forall_congr' fun hi => ?_
    simp only [mx, mn]; split <;> split <;> omega
  unfold F5
  simp [F12_eq, J, M, foldA, foldV, F17_eq (N := N) (a := a) (b := b) (by omega), e1, e2, e3, e4, e5, e6, vb_self]

/-! ### The order of stamps -/
def cmpS (a b : GStamp) : Int := if a.Time < b.Time then -1 else if b.Time < a.Time then 1 else if a.Site < b.Site then -1 else if b.Site < a.Site then 1 else 0
theorem F39_eq (N : Nat) (x y : Int) : F39 N x y = some (if x < y then -1 else if y < x then 1 else 0) := by
  unfold F39 F47
  simp only [beq_self_eq_true, Bool.not_true, Option.bind_some, cond_false, Bool.cond_decide]
  split
  · rfl
  · split <;> rfl
theorem F40_eq (N : Nat) (x y : Int) : F40 N x y = some (if x < y then -1 else if y < x then 1 else 0) := by
  unfold F40 F48
  simp only [beq_self_eq_true, Bool.not_true, Option.bind_some, cond_false, Bool.cond_decide]
  split
  · rfl
  · split <;> rfl
theorem F38_two {N : Nat} (hN : 3 ≤ N) (x y : Int) : F38 N [x, y] = some (if x = 0 then y else x) := by
  obtain ⟨m, rfl⟩ : ∃ m, N = m + 3 := ⟨N - 3, by omega⟩
  unfold F38
  have w1 : IntKind.i64.wrap 1 = 1 := rfl
  have w2 : IntKind.i64.wrap 2 = 2 := rfl
  by_cases hx : x = 0
  · subst hx
    by_cases hy : y = 0
    · subst hy; simp [iter, ibB, lget, w1, w2]
    · have : (y == 0) = false := by simpa using hy
      simp [iter, ibB, lget, w1, w2, this]
  · have : (x == 0) = false := by simpa using hx
    simp [iter, ibB, lget, this, hx]
theorem F27_eq {N : Nat} (hN : 3 ≤ N) (a b : GStamp) : F27 N a b = some (cmpS a b) := by
  unfold F27 cmpS
  simp only [F39_eq, F40_eq, Option.bind_some, F38_two hN]
  congr 1
  (repeat' split) <;> first | rfl | omega
theorem F28_eq (N : Nat) (a b : GStamp) : F28 N a b = some (cmpS a b) := by
  unfold F28 cmpS
  simp only [Bool.cond_eq_ite, Bool.and_eq_true, Bool.or_eq_true, beq_iff_eq, decide_eq_true_eq]
  (repeat' split) <;> first | rfl | (exfalso; omega)

theorem F29_30 {N : Nat} (hN : 3 ≤ N) (l : List GStamp) (hl : l.length ≤ 9223372036854775807) : F29 N l = F30 N l := by
  unfold F29 F30
  refine iter_sim (fun s s' => s.t8 = s'.i ∧ s.b1 = s'.b1 ∧ 0 ≤ s.t8) ?_ N _ _ ⟨rfl, rfl, by simp⟩
  rintro ⟨i, b⟩ ⟨i', b'⟩ n n' ⟨h, h1, h0⟩ ih
  simp only at h h0 h1 ih ⊢
  subst h; subst h1
  by_cases hi : i < l.length
  · simp only [decide_eq_true hi, ibB_of h0 hi, cond_true, Bool.or_true, F27_eq hN, F28_eq]
    rw [wrap64 (by omega) (by omega), ih ⟨i + 1, lget l i default⟩ ⟨i + 1, lget l i default⟩ ⟨rfl, rfl, by simp; omega⟩, ih ⟨i + 1, b⟩ ⟨i + 1, b⟩ ⟨rfl, rfl, by simp; omega⟩]
  · have : decide (i < (l.length : Int)) = false := by simpa using hi
    simp only [this, cond_false]
theorem F29_some {N : Nat} (l : List GStamp) (hN : l.length + 3 ≤ N) (hl : l.length ≤ 9223372036854775807) : ∃ r, F29 N l = some r := by
  unfold F29
  have := iter_post (R := GStamp) (fun s : S29x3 => 0 ≤ s.t8 ∧ s.t8 ≤ (l.length : Int)) (fun s => ((l.length : Int) - s.t8).toNat) (fun _ => True) (body := fun (s1 : S29x3) next2 =>
    (bif (decide (s1.t8 < ((l).length : Int))) then
    (bif (ibB s1.t8 ((l).length : Int)) then
    ((bif (!(s1.t8 == 0)) then F27 N (lget l s1.t8 default) s1.b1 else some default).bind fun r3 =>
    (bif ((s1.t8 == 0) || (decide (0 < r3))) then
    (next2 ⟨(IntKind.i64.wrap (s1.t8 + 1)), (lget l s1.t8 default)⟩)
    else
    (next2 ⟨(IntKind.i64.wrap (s1.t8 + 1)), s1.b1⟩)))
    else none)
    else
    (some s1.b1))) ?_ N ⟨0, (⟨0, 0⟩ : GStamp)⟩ ⟨by simp, by simp⟩ (by simp; omega)
  · obtain ⟨r, h, _⟩ := this; exact ⟨r, h⟩
  · rintro ⟨i, b⟩ n ⟨h0, h8⟩ ih
    simp only at h0 h8 ih ⊢
    by_cases hi : i < l.length
    · simp only [decide_eq_true hi, ibB_of h0 hi, cond_true, F27_eq (N := N) (by omega)]
      rw [wrap64 (n := i + 1) (by omega) (by omega)]
      have h1 := ih ⟨i + 1, lget l i default⟩ ⟨by simp; omega, by simp; omega⟩ (by simp; omega)
      have h2 := ih ⟨i + 1, b⟩ ⟨by simp; omega, by simp; omega⟩ (by simp; omega)
      cases (!(i == 0))
      · simp only [cond_false, Option.bind_some]
        cases (i == 0 || decide (0 < (default : Int)))
        · exact h2
        · exact h1
      · simp only [cond_true, Option.bind_some]
        cases (i == 0 || decide (0 < cmpS (lget l i default) b))
        · exact h2
        · exact h1
    · have : decide (i < (l.length : Int)) = false := by simpa using hi
      simp only [this, cond_false]
      exact ⟨_, rfl, trivial⟩
theorem F25_26 (N : Nat) (s : GStamp) : F25 N s = F26 N s := by
  unfold F25 F26 F37
  cases decide (1 ≤ s.Time) <;> cases decide (s.Time ≤ 1099511627776) <;> simp
theorem stampOrders_F {N : Nat} (a b : GStamp) (l : List GStamp) (hN : l.length + 3 ≤ N) (hl : l.length ≤ 9223372036854775807) : F8 N a b l = some true := by
  unfold F8
  obtain ⟨r, hr⟩ := F29_some l hN hl
  rw [F29_30 (by omega) l hl] at hr
  simp [F12_eq, F27_eq (N := N) (by omega), F28_eq, ← F25_26, F29_30 (N := N) (by omega) l hl, hr, F25]

end Go.Proofs.Ytphjnagmlgmdfaa
