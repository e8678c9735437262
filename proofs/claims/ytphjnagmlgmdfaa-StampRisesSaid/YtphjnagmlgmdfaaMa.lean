/-
The mathematics of this seat's laws over vectors and stamps: what the printed functions compute.
-/
import Derived.Test.YtphjnagmlgmdfaaFa
import Derived.Test.YtphjnagmlgmdfaaTvT
set_option linter.unusedVariables false
set_option linter.unusedSimpArgs false
namespace Go.Proofs.Ytphjnagmlgmdfaa
open Go Go.Ev

theorem beq2_iff (x y : Int) : beq2 x y = true ↔ x = y := by simp [beq2]

/-- Lane by lane. -/
def zipV (f : Int → Int → Int) (a b : Vector Int 8) : Vector Int 8 := Vector.ofFn fun i => f a[i] b[i]
theorem vget_zipV (f : Int → Int → Int) (a b : Vector Int 8) {i : Nat} (h : i < 8) : vget (zipV f a b) i default = f (vget a i default) (vget b i default) := by
  rw [zipV, vget_ofFn _ _ h, vgetE _ _ h, vgetE _ _ h]; rfl
theorem zipV_fst (a b : Vector Int 8) : zipV (fun x _ => x) a b = a := vext default fun i h => by rw [vget_zipV _ _ _ h]
theorem zipV_snd (a b : Vector Int 8) : zipV (fun _ x => x) a b = b := vext default fun i h => by rw [vget_zipV _ _ _ h]
theorem zipV_congr {f g : Int → Int → Int} (h : ∀ x y, f x y = g x y) (a b : Vector Int 8) : zipV f a b = zipV g a b := vext default fun i hi => by rw [vget_zipV _ _ _ hi, vget_zipV _ _ _ hi, h]
theorem zipV_same {f : Int → Int → Int} (h : ∀ x, f x x = x) (a : Vector Int 8) : zipV f a a = a := vext default fun i hi => by rw [vget_zipV _ _ _ hi, h]

/-- A loop over the eight lanes. -/
theorem iter_lanes {S R : Type} {body : S → (S → Option R) → Option R} (i : S → Int) (b : S → Vector Int 8) (mk : Int → Vector Int 8 → S) (hi : ∀ k v, i (mk k v) = k) (hv : ∀ k v, b (mk k v) = v)
    (f : Int → Int → Int) (x b0 : Vector Int 8) (k : Vector Int 8 → Option R)
    (hb : ∀ s next, 0 ≤ i s → i s < 8 → body s next = next (mk (i s + 1) (vset (b s) (i s).toNat (f (vget (b s) (i s).toNat default) (vget x (i s).toNat default)))))
    (he : ∀ s next, i s = 8 → body s next = k (b s)) {m : Nat} (hm : 8 < m) : iter m body (mk 0 b0) = k (zipV f b0 x) := by
  refine iter_run (fun s => 0 ≤ i s ∧ i s ≤ 8 ∧ ∀ j : Nat, j < 8 → vget (b s) j default = if (j : Int) < i s then f (vget b0 j default) (vget x j default) else vget b0 j default) (fun s => (8 - i s).toNat) ?_ m _ ?_ ?_
  · rintro s next ⟨h0, h8, hs⟩ ih
    by_cases h : i s = 8
    · rw [he s next h]
      congr 1
      refine vext default fun j hj => ?_
      rw [hs j hj, vget_zipV _ _ _ hj, if_pos (by omega)]
    · rw [hb s next h0 (by omega)]
      refine ih _ ⟨by rw [hi]; omega, by rw [hi]; omega, fun j hj => ?_⟩ (by rw [hi]; omega)
      rw [hi, hv, vget_set _ _ _ hj]
      by_cases hj' : (i s).toNat = j
      · rw [if_pos hj', if_pos (by omega), hj', hs j hj, if_neg (by omega)]
      · rw [if_neg hj', hs j hj]
        by_cases h2 : (j : Int) < i s
        · rw [if_pos h2, if_pos (by omega)]
        · rw [if_neg h2, if_neg (by omega)]
  · rw [hi, hv]
    exact ⟨by omega, by omega, fun j hj => by rw [if_neg (by omega)]⟩
  · rw [hi]; omega

def foldV (f : Int → Int → Int) : List (Vector Int 8) → Vector Int 8 → Vector Int 8
  | [], r => r
  | x :: l, r => foldV f l (zipV f r x)
def foldA (f : Int → Int → Int) : List (Vector Int 8) → Vector Int 8
  | [] => Vector.replicate 8 default
  | x :: l => foldV f l x
def mx (a b : Int) : Int := if a < b then b else a
def mn (a b : Int) : Int := if b < a then b else a

/-- What is still to be folded, at place i. -/
def restV (f : Int → Int → Int) (l : List (Vector Int 8)) (i : Int) (b : Vector Int 8) : Vector Int 8 := if i = 0 then foldA f l else foldV f (l.drop i.toNat) b

theorem rest_end {f : Int → Int → Int} {l : List (Vector Int 8)} {i : Int} {b : Vector Int 8} (hi : i = l.length) (hb : i = 0 → b = Vector.replicate 8 default) : restV f l i b = b := by
  unfold restV
  split
  · rename_i h
    have : l = [] := List.length_eq_zero_iff.1 (by omega)
    subst this; rw [hb h]; rfl
  · rw [List.drop_eq_nil_of_le (by omega)]; rfl
theorem rest_zero {f : Int → Int → Int} {l : List (Vector Int 8)} {b : Vector Int 8} (h : 0 < l.length) : restV f l 0 b = restV f l 1 (lget l 0 default) := by
  cases l with
  | nil => simp at h
  | cons x l => simp [restV, foldA, lget]
theorem rest_succ {f : Int → Int → Int} {l : List (Vector Int 8)} {i : Int} {b : Vector Int 8} (h0 : 0 < i) (h : i < l.length) : restV f l i b = restV f l (i + 1) (zipV f b (lget l i default)) := by
  unfold restV
  rw [if_neg (by omega), if_neg (by omega), lget_drop default (by omega) h]
  rfl

theorem F34_eq (N : Nat) (a b : Int) : F34 N a b = some (mx a b) := by
  unfold F34 mx
  rw [Bool.cond_decide]
theorem F33_eq {N : Nat} {l : List (Vector Int 8)} (hN : l.length + 9 ≤ N) (hl : l.length ≤ 9223372036854775807) : F33 N l = some (foldA mx l) := by
  unfold F33
  refine iter_run (fun s => 0 ≤ s.t11 ∧ s.t11 ≤ (l.length : Int) ∧ restV mx l s.t11 s.b1 = foldA mx l ∧ (s.t11 = 0 → s.b1 = Vector.replicate 8 default)) (fun s => ((l.length : Int) - s.t11).toNat) ?_ N _ ⟨by simp, by simp, by simp [restV], fun _ => rfl⟩ (by simp; omega)
  rintro ⟨i, b⟩ next ⟨h0, h1, h2, h3⟩ ih
  simp only at h0 h1 h2 h3 ih ⊢
  by_cases h : i < l.length
  · have lane : ∀ (b0 : Vector Int 8), iter N (fun (s3 : S33x8) next4 =>
        (bif (decide (s3.t19 < 8)) then
        (bif (ibB s3.t19 8) then
        (bif (ibB s3.t19 8) then
        ((F34 N (vget s3.b1 ((s3.t19).toNat) default) (vget (lget l i default) ((s3.t19).toNat) default)).bind fun r5 =>
        (bif (ibB s3.t19 8) then
        (next4 ⟨(IntKind.i64.wrap (s3.t19 + 1)), (vset s3.b1 ((s3.t19).toNat) r5)⟩)
        else none))
        else none)
        else none)
        else
        (next ⟨(IntKind.i64.wrap (i + 1)), s3.b1⟩))) ⟨0, b0⟩ = next ⟨i + 1, zipV mx b0 (lget l i default)⟩ := fun b0 => by
      refine iter_lanes (S := S33x8) (·.t19) (·.b1) (fun k v => ⟨k, v⟩) (fun _ _ => rfl) (fun _ _ => rfl) mx (lget l i default) b0 (fun v => next ⟨i + 1, v⟩) ?_ ?_ (by omega)
      · rintro ⟨k, v⟩ nx g0 g1
        simp only at g0 g1 ⊢
        simp only [decide_eq_true g1, ibB_of g0 g1, cond_true, F34_eq, Option.bind_some]
        rw [wrap64 (by omega) (by omega)]
      · rintro ⟨k, v⟩ nx g0
        simp only at g0 ⊢
        subst g0
        simp only [show decide ((8 : Int) < 8) = false from rfl, cond_false]
        rw [wrap64 (by omega) (by omega)]
    simp only [decide_eq_true h, ibB_of h0 h, cond_true, lane]
    by_cases hz : i = 0
    · subst hz
      simp only [beq_self_eq_true, cond_true]
      rw [zipV_same (by intro x; unfold mx; split <;> rfl)]
      exact ih ⟨0 + 1, lget l 0 default⟩ ⟨by simp, by simp; omega, by rw [← h2]; exact (rest_zero (by omega)).symm, by simp⟩ (by simp; omega)
    · have : (i == 0) = false := by simpa using hz
      rw [this]
      exact ih ⟨i + 1, zipV mx b (lget l i default)⟩ ⟨by simp; omega, by simp; omega, by rw [← h2]; exact (rest_succ (by omega) h).symm, by simp; omega⟩ (by simp; omega)
  · have e : i = l.length := by omega
    have hd : decide (i < (l.length : Int)) = false := by simpa using h
    simp only [hd, cond_false]
    rw [← h2, rest_end e h3]


theorem F35_eq (N : Nat) (a b : Int) : F35 N a b = some (mn a b) := by
  unfold F35 mn
  rw [Bool.cond_decide]
theorem F33i1_eq {N : Nat} {l : List (Vector Int 8)} (hN : l.length + 9 ≤ N) (hl : l.length ≤ 9223372036854775807) : F33i1 N l = some (foldA mn l) := by
  unfold F33i1
  refine iter_run (fun s => 0 ≤ s.t11 ∧ s.t11 ≤ (l.length : Int) ∧ restV mn l s.t11 s.b1 = foldA mn l ∧ (s.t11 = 0 → s.b1 = Vector.replicate 8 default)) (fun s => ((l.length : Int) - s.t11).toNat) ?_ N _ ⟨by simp, by simp, by simp [restV], fun _ => rfl⟩ (by simp; omega)
  rintro ⟨i, b⟩ next ⟨h0, h1, h2, h3⟩ ih
  simp only at h0 h1 h2 h3 ih ⊢
  by_cases h : i < l.length
  · have lane : ∀ (b0 : Vector Int 8), iter N (fun (s3 : S33i1x8) next4 =>
        (bif (decide (s3.t19 < 8)) then
        (bif (ibB s3.t19 8) then
        (bif (ibB s3.t19 8) then
        ((F35 N (vget s3.b1 ((s3.t19).toNat) default) (vget (lget l i default) ((s3.t19).toNat) default)).bind fun r5 =>
        (bif (ibB s3.t19 8) then
        (next4 ⟨(IntKind.i64.wrap (s3.t19 + 1)), (vset s3.b1 ((s3.t19).toNat) r5)⟩)
        else none))
        else none)
        else none)
        else
        (next ⟨(IntKind.i64.wrap (i + 1)), s3.b1⟩))) ⟨0, b0⟩ = next ⟨i + 1, zipV mn b0 (lget l i default)⟩ := fun b0 => by
      refine iter_lanes (S := S33i1x8) (·.t19) (·.b1) (fun k v => ⟨k, v⟩) (fun _ _ => rfl) (fun _ _ => rfl) mn (lget l i default) b0 (fun v => next ⟨i + 1, v⟩) ?_ ?_ (by omega)
      · rintro ⟨k, v⟩ nx g0 g1
        simp only at g0 g1 ⊢
        simp only [decide_eq_true g1, ibB_of g0 g1, cond_true, F35_eq, Option.bind_some]
        rw [wrap64 (by omega) (by omega)]
      · rintro ⟨k, v⟩ nx g0
        simp only at g0 ⊢
        subst g0
        simp only [show decide ((8 : Int) < 8) = false from rfl, cond_false]
        rw [wrap64 (by omega) (by omega)]
    simp only [decide_eq_true h, ibB_of h0 h, cond_true, lane]
    by_cases hz : i = 0
    · subst hz
      simp only [beq_self_eq_true, cond_true]
      rw [zipV_same (by intro x; unfold mn; split <;> rfl)]
      exact ih ⟨0 + 1, lget l 0 default⟩ ⟨by simp, by simp; omega, by rw [← h2]; exact (rest_zero (by omega)).symm, by simp⟩ (by simp; omega)
    · have : (i == 0) = false := by simpa using hz
      rw [this]
      exact ih ⟨i + 1, zipV mn b (lget l i default)⟩ ⟨by simp; omega, by simp; omega, by rw [← h2]; exact (rest_succ (by omega) h).symm, by simp; omega⟩ (by simp; omega)
  · have e : i = l.length := by omega
    have hd : decide (i < (l.length : Int)) = false := by simpa using h
    simp only [hd, cond_false]
    rw [← h2, rest_end e h3]


theorem F20_eq {N : Nat} {l : List (Vector Int 8)} (hN : l.length + 9 ≤ N) (hl : l.length ≤ 9223372036854775807) : F20 N l = some (foldA mx l) := by
  unfold F20
  refine iter_run (fun s => 0 ≤ s.i ∧ s.i ≤ (l.length : Int) ∧ restV mx l s.i s.b1 = foldA mx l ∧ (s.i = 0 → s.b1 = Vector.replicate 8 default)) (fun s => ((l.length : Int) - s.i).toNat) ?_ N _ ⟨by simp, by simp, by simp [restV], fun _ => rfl⟩ (by simp; omega)
  rintro ⟨i, b⟩ next ⟨h0, h1, h2, h3⟩ ih
  simp only at h0 h1 h2 h3 ih ⊢
  by_cases h : i < l.length
  · have lane : iter N (fun (s3 : S20x6) next4 =>
        (bif (decide (s3.k < 8)) then
        (bif (!(!(i == 0)) || (ibB i ((l).length : Int))) then
        (bif (!(!(i == 0)) || (ibB s3.k 8)) then
        (bif (!(!(i == 0)) || (ibB s3.k 8)) then
        (bif ((i == 0) || (decide ((vget s3.b1 ((s3.k).toNat) default) < (vget (lget l i default) ((s3.k).toNat) default)))) then
        (bif (ibB i ((l).length : Int)) then
        (bif (ibB s3.k 8) then
        (bif (ibB s3.k 8) then
        (next4 ⟨(IntKind.i64.wrap (s3.k + 1)), (vset s3.b1 ((s3.k).toNat) (vget (lget l i default) ((s3.k).toNat) default))⟩)
        else none)
        else none)
        else none)
        else
        (next4 ⟨(IntKind.i64.wrap (s3.k + 1)), s3.b1⟩))
        else none)
        else none)
        else none)
        else
        (next ⟨(IntKind.i64.wrap (i + 1)), s3.b1⟩))) ⟨0, b⟩ = next ⟨i + 1, zipV (fun x y => if i = 0 then y else mx x y) b (lget l i default)⟩ := by
      refine iter_lanes (S := S20x6) (·.k) (·.b1) (fun k v => ⟨k, v⟩) (fun _ _ => rfl) (fun _ _ => rfl) (fun x y => if i = 0 then y else mx x y) (lget l i default) b (fun v => next ⟨i + 1, v⟩) ?_ ?_ (by omega)
      · rintro ⟨k, v⟩ nx g0 g1
        simp only at g0 g1 ⊢
        simp only [decide_eq_true g1, ibB_of g0 g1, ibB_of h0 h, cond_true, Bool.or_true]
        rw [wrap64 (by omega) (by omega)]
        by_cases hz : i = 0
        · subst hz; rfl
        · have hz' : (i == 0) = false := by simpa using hz
          rw [hz', Bool.false_or, Bool.cond_decide, if_neg hz]
          unfold mx
          split
          · rfl
          · rw [vset_self]
      · rintro ⟨k, v⟩ nx g0
        simp only at g0 ⊢
        subst g0
        simp only [show decide ((8 : Int) < 8) = false from rfl, cond_false]
        rw [wrap64 (by omega) (by omega)]
    simp only [decide_eq_true h, cond_true, lane]
    by_cases hz : i = 0
    · subst hz
      have e : zipV (fun x y => if (0 : Int) = 0 then y else mx x y) b (lget l 0 default) = lget l 0 default := (zipV_congr (g := fun _ y => y) (fun x y => by simp) _ _).trans (zipV_snd _ _)
      rw [e]
      exact ih ⟨0 + 1, lget l 0 default⟩ ⟨by simp, by simp; omega, by rw [← h2]; exact (rest_zero (by omega)).symm, by simp⟩ (by simp; omega)
    · have e : zipV (fun x y => if i = 0 then y else mx x y) b (lget l i default) = zipV mx b (lget l i default) := zipV_congr (fun x y => by rw [if_neg hz]) _ _
      rw [e]
      exact ih ⟨i + 1, zipV mx b (lget l i default)⟩ ⟨by simp; omega, by simp; omega, by rw [← h2]; exact (rest_succ (by omega) h).symm, by simp; omega⟩ (by simp; omega)
  · have e : i = l.length := by omega
    have hd : decide (i < (l.length : Int)) = false := by simpa using h
    simp only [hd, cond_false]
    rw [← h2, rest_end e h3]


theorem F21_eq {N : Nat} {l : List (Vector Int 8)} (hN : l.length + 9 ≤ N) (hl : l.length ≤ 9223372036854775807) : F21 N l = some (foldA mn l) := by
  unfold F21
  refine iter_run (fun s => 0 ≤ s.i ∧ s.i ≤ (l.length : Int) ∧ restV mn l s.i s.b1 = foldA mn l ∧ (s.i = 0 → s.b1 = Vector.replicate 8 default)) (fun s => ((l.length : Int) - s.i).toNat) ?_ N _ ⟨by simp, by simp, by simp [restV], fun _ => rfl⟩ (by simp; omega)
  rintro ⟨i, b⟩ next ⟨h0, h1, h2, h3⟩ ih
  simp only at h0 h1 h2 h3 ih ⊢
  by_cases h : i < l.length
  · have lane : iter N (fun (s3 : S21x6) next4 =>
        (bif (decide (s3.k < 8)) then
        (bif (!(!(i == 0)) || (ibB i ((l).length : Int))) then
        (bif (!(!(i == 0)) || (ibB s3.k 8)) then
        (bif (!(!(i == 0)) || (ibB s3.k 8)) then
        (bif ((i == 0) || (decide ((vget (lget l i default) ((s3.k).toNat) default) < (vget s3.b1 ((s3.k).toNat) default)))) then
        (bif (ibB i ((l).length : Int)) then
        (bif (ibB s3.k 8) then
        (bif (ibB s3.k 8) then
        (next4 ⟨(IntKind.i64.wrap (s3.k + 1)), (vset s3.b1 ((s3.k).toNat) (vget (lget l i default) ((s3.k).toNat) default))⟩)
        else none)
        else none)
        else none)
        else
        (next4 ⟨(IntKind.i64.wrap (s3.k + 1)), s3.b1⟩))
        else none)
        else none)
        else none)
        else
        (next ⟨(IntKind.i64.wrap (i + 1)), s3.b1⟩))) ⟨0, b⟩ = next ⟨i + 1, zipV (fun x y => if i = 0 then y else mn x y) b (lget l i default)⟩ := by
      refine iter_lanes (S := S21x6) (·.k) (·.b1) (fun k v => ⟨k, v⟩) (fun _ _ => rfl) (fun _ _ => rfl) (fun x y => if i = 0 then y else mn x y) (lget l i default) b (fun v => next ⟨i + 1, v⟩) ?_ ?_ (by omega)
      · rintro ⟨k, v⟩ nx g0 g1
        simp only at g0 g1 ⊢
        simp only [decide_eq_true g1, ibB_of g0 g1, ibB_of h0 h, cond_true, Bool.or_true]
        rw [wrap64 (by omega) (by omega)]
        by_cases hz : i = 0
        · subst hz; rfl
        · have hz' : (i == 0) = false := by simpa using hz
          rw [hz', Bool.false_or, Bool.cond_decide, if_neg hz]
          unfold mn
          split
          · rfl
          · rw [vset_self]
      · rintro ⟨k, v⟩ nx g0
        simp only at g0 ⊢
        subst g0
        simp only [show decide ((8 : Int) < 8) = false from rfl, cond_false]
        rw [wrap64 (by omega) (by omega)]
    simp only [decide_eq_true h, cond_true, lane]
    by_cases hz : i = 0
    · subst hz
      have e : zipV (fun x y => if (0 : Int) = 0 then y else mn x y) b (lget l 0 default) = lget l 0 default := (zipV_congr (g := fun _ y => y) (fun x y => by simp) _ _).trans (zipV_snd _ _)
      rw [e]
      exact ih ⟨0 + 1, lget l 0 default⟩ ⟨by simp, by simp; omega, by rw [← h2]; exact (rest_zero (by omega)).symm, by simp⟩ (by simp; omega)
    · have e : zipV (fun x y => if i = 0 then y else mn x y) b (lget l i default) = zipV mn b (lget l i default) := zipV_congr (fun x y => by rw [if_neg hz]) _ _
      rw [e]
      exact ih ⟨i + 1, zipV mn b (lget l i default)⟩ ⟨by simp; omega, by simp; omega, by rw [← h2]; exact (rest_succ (by omega) h).symm, by simp; omega⟩ (by simp; omega)
  · have e : i = l.length := by omega
    have hd : decide (i < (l.length : Int)) = false := by simpa using h
    simp only [hd, cond_false]
    rw [← h2, rest_end e h3]

end Go.Proofs.Ytphjnagmlgmdfaa
