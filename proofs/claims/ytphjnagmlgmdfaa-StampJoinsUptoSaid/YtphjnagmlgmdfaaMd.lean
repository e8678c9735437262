/-
StampJoins as a plain law of the printed functions.
-/
import Derived.Test.YtphjnagmlgmdfaaMc
set_option linter.unusedVariables false
set_option linter.unusedSimpArgs false
namespace Go.Proofs.Ytphjnagmlgmdfaa
open Go Go.Ev

/-- What a fold of a choice is, lane by lane: one of them, and none beats it. -/
structure Pick (f : Int → Int → Int) (le : Int → Int → Prop) : Prop where
  one : ∀ a b, f a b = a ∨ f a b = b
  lef : ∀ a b, le a (f a b) ∧ le b (f a b)
  refl : ∀ a, le a a
  trans : ∀ a b c, le a b → le b c → le a c
  anti : ∀ a b, le a b → le b a → a = b
theorem mx_pick : Pick mx (fun a b => a ≤ b) := ⟨fun a b => by unfold mx; split <;> simp, fun a b => by unfold mx; split <;> omega, fun a => Int.le_refl _, fun a b c => Int.le_trans, fun a b => Int.le_antisymm⟩
theorem mn_pick : Pick mn (fun a b => b ≤ a) := ⟨fun a b => by unfold mn; split <;> simp, fun a b => by unfold mn; split <;> omega, fun a => Int.le_refl _, fun a b c h h' => Int.le_trans h' h, fun a b h h' => Int.le_antisymm h' h⟩

theorem foldV_lane {f : Int → Int → Int} {le : Int → Int → Prop} (hp : Pick f le) {j : Nat} (hj : j < 8) : ∀ (l : List (Vector Int 8)) (r : Vector Int 8),
    (∃ x ∈ r :: l, vget (foldV f l r) j default = vget x j default) ∧ ∀ x ∈ r :: l, le (vget x j default) (vget (foldV f l r) j default)
  | [], r => ⟨⟨r, by simp, rfl⟩, fun x hx => by simp at hx; subst hx; exact hp.refl _⟩
  | y :: l, r => by
    obtain ⟨⟨x, hx, h1⟩, h2⟩ := foldV_lane hp hj l (zipV f r y)
    have hz := h2 (zipV f r y) (by simp)
    rw [vget_zipV _ _ _ hj] at hz
    have hl := hp.lef (vget r j default) (vget y j default)
    refine ⟨?_, fun x hx => ?_⟩
    · rcases List.mem_cons.1 hx with rfl | hx
      · rw [vget_zipV _ _ _ hj] at h1
        rcases hp.one (vget r j default) (vget y j default) with h | h
        · exact ⟨r, by simp, by rw [← h]; exact h1⟩
        · exact ⟨y, by simp, by rw [← h]; exact h1⟩
      · exact ⟨x, by simp [hx], h1⟩
    · rcases List.mem_cons.1 hx with rfl | hx
      · exact hp.trans _ _ _ hl.1 hz
      · rcases List.mem_cons.1 hx with rfl | hx
        · exact hp.trans _ _ _ hl.2 hz
        · exact h2 x (by simp [hx])
theorem foldA_lane {f : Int → Int → Int} {le : Int → Int → Prop} (hp : Pick f le) {j : Nat} (hj : j < 8) {l : List (Vector Int 8)} (hl : l ≠ []) :
    (∃ x ∈ l, vget (foldA f l) j default = vget x j default) ∧ ∀ x ∈ l, le (vget x j default) (vget (foldA f l) j default) := by
  cases l with
  | nil => exact absurd rfl hl
  | cons x l => exact foldV_lane hp hj l x
theorem foldA_members {f : Int → Int → Int} {le : Int → Int → Prop} (hp : Pick f le) {l m : List (Vector Int 8)} (hl : l ≠ []) (hm : m ≠ []) (h : ∀ x, x ∈ l ↔ x ∈ m) : foldA f l = foldA f m := by
  refine zip_lanes fun j hj => ?_
  obtain ⟨⟨x, hx, e1⟩, h1⟩ := foldA_lane hp hj hl
  obtain ⟨⟨y, hy, e2⟩, h2⟩ := foldA_lane hp hj hm
  refine hp.anti _ _ ?_ ?_
  · rw [e1]; exact h2 x ((h x).1 hx)
  · rw [e2]; exact h1 y ((h y).2 hy)

theorem turn_mem {α : Type} (l : List α) (k : Nat) (x : α) : x ∈ l.drop k ++ l.take k ↔ x ∈ l := by
  constructor
  · intro h
    rcases List.mem_append.1 h with h | h
    · exact List.mem_of_mem_drop h
    · exact List.mem_of_mem_take h
  · intro h
    rw [← List.take_append_drop k l] at h
    rcases List.mem_append.1 h with h | h <;> simp [h]

theorem len_le_sum {α : Type} {f : α → Nat} (h : ∀ x, 1 ≤ f x) : ∀ l : List α, l.length ≤ (l.map f).sum
  | [] => by simp
  | x :: l => by have := len_le_sum h l; have := h x; simp only [List.length_cons, List.map_cons, List.sum_cons]; omega
theorem stampJoins_F {N : Nat} {l : List (Vector Int 8)} {k : Int} (hN : l.length + 20 ≤ N) (hl : l.length ≤ 1048576) (hk : 0 ≤ k ∧ k ≤ 255) : F4 N l k = some true := by
  unfold F4
  simp only [F12_eq, Option.bind_some]
  by_cases h0 : l.length = 0
  · have : ((l.length : Int) == 0) = true := by simp [h0]
    simp [this]
  · have hz : ((l.length : Int) == 0) = false := by simp; intro h; exact h0 (by simp [h])
    have hne : l ≠ [] := fun h => h0 (by simp [h])
    have hw : IntKind.i64.wrap k = k := wrap64 (by omega) (by omega)
    have ht : 0 ≤ Int.tmod k l.length ∧ Int.tmod k l.length < l.length := by
      rw [Int.tmod_eq_emod_of_nonneg hk.1]
      exact ⟨Int.emod_nonneg _ (by omega), Int.emod_lt_of_pos _ (by omega)⟩
    rw [hz, hw]
    generalize hT : Int.tmod k l.length = t at ht
    have hJ := F15_eq (N := N) (l := l) (by omega) (by omega)
    have hM := F16_eq (N := N) (l := l) (by omega) (by omega)
    have ec : cut l t l.length = l.drop t.toNat := by
      simp only [cut]; rw [List.take_of_length_le (by simp)]
    have ec' : cut l 0 t = l.take t.toNat := by simp [cut]
    simp only [Bool.not_false, cond_true, Bool.not_true, Bool.or_self, cond_false, ec, ec', List.nil_append, cutB_of ht.1 (by omega : t ≤ l.length) (Int.le_refl _), cutB_of (Int.le_refl 0) ht.1 (by omega : t ≤ l.length), hJ, hM, Option.bind_some]
    rw [lenB_of (by simp; omega), lenB_of (by simp; omega)]
    simp only [cond_true]
    refine iter_run (fun s : S4x7 => 0 ≤ s.t40 ∧ s.t40 ≤ 8) (fun s => (8 - s.t40).toNat) ?_ N _ ⟨by simp, by simp⟩ (by simp; omega)
    rintro ⟨j⟩ next ⟨g0, g1⟩ ih
    simp only at g0 g1 ih ⊢
    by_cases hj : j < 8
    · have hj8 : j.toNat < 8 := by omega
      simp only [decide_eq_true hj, cond_true, ibB_of g0 hj, Bool.or_true]
      have hnext : next ⟨IntKind.i64.wrap (j + 1)⟩ = some true := by
        rw [wrap64 (by omega) (by omega)]
        exact ih ⟨j + 1⟩ ⟨by simp; omega, by simp; omega⟩ (by simp; omega)
      rw [hnext]
      obtain ⟨⟨xm, hxm, em⟩, lm⟩ := foldA_lane mx_pick hj8 hne
      obtain ⟨⟨xn, hxn, en⟩, ln⟩ := foldA_lane mn_pick hj8 hne
      have above : ∀ x ∈ l, F17 N (foldA mx l) x = some true := fun x hx => by
        rw [F17_eq (by omega)]
        have : zipV mx (foldA mx l) x = foldA mx l := zip_lanes fun i hi => by
          have := (foldA_lane mx_pick hi hne).2 x hx
          rw [vget_zipV _ _ _ hi]; unfold mx at this ⊢; split <;> omega
        rw [this, vb_self]
      have below : ∀ x ∈ l, F17 N x (foldA mn l) = some true := fun x hx => by
        rw [F17_eq (by omega)]
        have : zipV mx x (foldA mn l) = x := zip_lanes fun i hi => by
          have := (foldA_lane mn_pick hi hne).2 x hx
          rw [vget_zipV _ _ _ hi]; unfold mx; split <;> omega
        rw [this, vb_self]
      refine iter_run (fun s : S4x11 => 0 ≤ s.t45 ∧ s.t45 ≤ (l.length : Int) ∧
          (s.least = true ∨ ∃ x ∈ l.drop s.t45.toNat, vget x j.toNat default = vget (foldA mn l) j.toNat default) ∧
          (s.most = true ∨ ∃ x ∈ l.drop s.t45.toNat, vget x j.toNat default = vget (foldA mx l) j.toNat default)) (fun s => ((l.length : Int) - s.t45).toNat) ?_ N _
          ⟨by simp, by simp, .inr ⟨xn, by simpa using hxn, en.symm⟩, .inr ⟨xm, by simpa using hxm, em.symm⟩⟩ (by simp; omega)
      rintro ⟨lo, hi, i⟩ nx ⟨i0, i1, hlo, hhi⟩ ih2
      simp only at i0 i1 hlo hhi ih2 ⊢
      by_cases hi' : i < l.length
      · have hmem := lget_mem (default : Vector Int 8) i0 hi'
        simp only [decide_eq_true hi', cond_true, ibB_of i0 hi', above _ hmem, below _ hmem, Option.bind_some, Bool.not_true, Bool.not_false, Bool.or_self, cond_false]
        rw [wrap64 (n := i + 1) (by omega) (by omega)]
        have hd := lget_drop (default : Vector Int 8) i0 hi'
        refine ih2 ⟨_, _, i + 1⟩ ⟨by simp; omega, by simp; omega, ?_, ?_⟩ (by simp; omega)
        · simp only
          rcases hlo with h | ⟨x, hx, e⟩
          · exact .inl (by simp [h])
          · rw [hd] at hx
            rcases List.mem_cons.1 hx with rfl | hx
            · exact .inl (by simp only [e, beq_self_eq_true, Bool.or_true])
            · exact .inr ⟨x, hx, e⟩
        · simp only
          rcases hhi with h | ⟨x, hx, e⟩
          · exact .inl (by simp [h])
          · rw [hd] at hx
            rcases List.mem_cons.1 hx with rfl | hx
            · exact .inl (by simp only [e, beq_self_eq_true, Bool.or_true])
            · exact .inr ⟨x, hx, e⟩
      · have : decide (i < (l.length : Int)) = false := by simpa using hi'
        have hnil : l.drop i.toNat = [] := List.drop_eq_nil_of_le (by omega)
        rw [hnil] at hlo hhi
        have e1 : lo = true := by simpa using hlo
        have e2 : hi = true := by simpa using hhi
        subst e1; subst e2
        simp only [this, cond_false, Bool.not_true, Bool.or_self]
    · have : decide (j < 8) = false := by simpa using hj
      simp only [this, cond_false]
      have hne' : l.drop t.toNat ++ l.take t.toNat ≠ [] := fun h => hne (by
        have := congrArg List.length h
        simp at this
        exact List.length_eq_zero_iff.1 (by omega))
      have eJ := F15_eq (N := N) (l := l.drop t.toNat ++ l.take t.toNat) (by simp; omega) (by simp; omega)
      have eM := F16_eq (N := N) (l := l.drop t.toNat ++ l.take t.toNat) (by simp; omega) (by simp; omega)
      rw [foldA_members mx_pick hne' hne (turn_mem l t.toNat)] at eJ
      rw [foldA_members mn_pick hne' hne (turn_mem l t.toNat)] at eM
      simp [eJ, eM, vb_self]

end Go.Proofs.Ytphjnagmlgmdfaa
