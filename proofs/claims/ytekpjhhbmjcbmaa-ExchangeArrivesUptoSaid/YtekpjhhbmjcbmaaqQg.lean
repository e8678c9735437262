/-
ExchangeArrives: the messages that are pushed, one by one.
-/
import Derived.Test.YtekpjhhbmjcbmaaqQf
set_option linter.unusedVariables false
set_option linter.unusedSimpArgs false
set_option maxRecDepth 100000
namespace Go.Proofs.Ytekpjhhbmjcbmaa
open Go Go.Ev
section
variable {N : Nat}
def Pm (m : GMsg) : Prop := m.List_ = [] ∧ m.Ops.length ≤ 16 ∧ m.Entry.Ops = [] ∧ m.Entry.Part.Data = [] ∧ m.Part.Data = []
theorem Pm.small {m : GMsg} (h : Pm m) : smallM m := by
  obtain ⟨h1, h2, h3, h4, h5⟩ := h
  refine ⟨⟨by rw [h1]; simp, by rw [h1]; simp⟩, ⟨by rw [h3]; simp, by rw [h4]; simp⟩, by omega, by rw [h5]; simp⟩
def pushN (most : Int) (l : List GOp) : Int := bif decide (most < (bif decide (16 < (l.length : Int)) then 16 else (l.length : Int))) then most else (bif decide (16 < (l.length : Int)) then 16 else (l.length : Int))
theorem pushN_le (most : Int) (l : List GOp) : pushN most l ≤ most ∧ pushN most l ≤ 16 ∧ pushN most l ≤ l.length ∧ (0 < most → 0 < l.length → 0 < pushN most l) := by
  have e (a b : Int) : (bif decide (a < b) then a else b) = if a < b then a else b := by
    by_cases h : a < b <;> simp [h]
  unfold pushN
  rw [e, e]
  split <;> split <;> omega
theorem count_eq (n : Int) : Fexchange_count N n = some (decide (0 ≤ n ∧ n ≤ 1099511627776)) := by
  unfold Fexchange_count
  rw [Bool.decide_and]
def ko (s : GSnap) (o : Int) : List GOp := vget s.Kept o.toNat default
def st0 (s : GSnap) (o : Int) : Int := vget s.Starts o.toNat default
def adv (v : Int → Int) (m : GMsg) : Int → Int := fun j => if j = m.Origin then v j + (m.Ops.length : Int) else v j
def vend (v : Int → Int) (l : List GMsg) : Int → Int := l.foldl adv v
def tot (l : List GMsg) : Nat := (l.map (·.Ops.length)).sum
structure Gd (s : GSnap) (v : Int → Int) (m : GMsg) : Prop where
  o : 0 ≤ m.Origin ∧ m.Origin < 8
  slot : m.Slot = v m.Origin
  n : 0 < m.Ops.length ∧ m.Ops.length ≤ 16
  from_ : st0 s m.Origin ≤ v m.Origin
  ops : m.Ops = ((ko s m.Origin).drop (v m.Origin - st0 s m.Origin).toNat).take m.Ops.length
  fits : v m.Origin - st0 s m.Origin + (m.Ops.length : Int) ≤ ((ko s m.Origin).length : Int)
  pm : Pm m
def Good (s : GSnap) : (Int → Int) → List GMsg → Prop
  | _, [] => True
  | v, m :: l => Gd s v m ∧ Good s (adv v m) l
theorem Good.snoc {s : GSnap} {m : GMsg} : ∀ {l : List GMsg} {v : Int → Int}, Good s v l → Gd s (vend v l) m → Good s v (l ++ [m])
  | [], v, _, h => ⟨h, trivial⟩
  | x :: l, v, h, h' => ⟨h.1, Good.snoc h.2 h'⟩
theorem vend_snoc (v : Int → Int) (l : List GMsg) (m : GMsg) : vend v (l ++ [m]) = adv (vend v l) m := by simp [vend]
theorem tot_snoc (l : List GMsg) (m : GMsg) : tot (l ++ [m]) = tot l + m.Ops.length := by simp [tot]
theorem Good.len {s : GSnap} : ∀ {l : List GMsg} {v : Int → Int}, Good s v l → l.length ≤ tot l
  | [], v, _ => by simp
  | x :: l, v, h => by
    have := Good.len h.2
    have := h.1.n.1
    simp only [tot, List.map_cons, List.sum_cons, List.length_cons] at *
    omega
theorem adv_le (v : Int → Int) (m : GMsg) (j : Int) : v j ≤ adv v m j := by unfold adv; split <;> omega
theorem vend_le : ∀ (l : List GMsg) (v : Int → Int) (j : Int), v j ≤ vend v l j
  | [], v, j => Int.le_refl _
  | m :: l, v, j => Int.le_trans (adv_le v m j) (vend_le l (adv v m) j)
def ksum (s : GSnap) (o : Nat) : Nat := ((List.range o).map fun j => (vget s.Kept j default).length).sum
theorem ksum_succ (s : GSnap) (o : Nat) : ksum s (o + 1) = ksum s o + (vget s.Kept o default).length := by simp [ksum, List.range_succ]
theorem ksum_le (s : GSnap) {a b : Nat} (h : a ≤ b) : ksum s a ≤ ksum s b := by
  induction h with
  | refl => exact Nat.le_refl _
  | step h ih => rw [ksum_succ]; omega
theorem ksum_small {s : GSnap} (hf : Facts N s) : ∀ {o : Nat}, o ≤ 8 → ksum s o ≤ o * 65536
  | 0, _ => Nat.le_refl _
  | o + 1, h => by
    have := ksum_small hf (o := o) (by omega)
    have := (hf.kept o (by omega)).2.2.2
    rw [ksum_succ]; omega
theorem pushes_eq {s : GSnap} {from_ to : GAddr} {most : Int} (hN : 1100000 ≤ N) (hf : Facts N s) (hm : -9223372036854775808 ≤ most ∧ most ≤ 9223372036854775807) (ht : 0 ≤ to.Group ∧ to.Group < 8)
    {v0 : Int → Int} (hv0 : v0 = fun j => vget (vget s.Known to.Group.toNat default) j.toNat default) :
    ∃ l, Fexchange_pushes N s from_ to most = some l ∧ Good s v0 l ∧ ((tot l : Int) = 0 ∨ (tot l : Int) ≤ most) ∧ tot l ≤ 524288 ∧ (most < (ksum s 8 : Int) ∨ ∀ j, 0 ≤ j → j < 8 → st0 s j ≤ v0 j → vec s j ≤ vend v0 l j) := by
  have hib : ibB to.Group 8 = true := ibB_of ht.1 ht.2
  have hk8 := ksum_small hf (o := 8) (Nat.le_refl _)
  unfold Fexchange_pushes
  refine look_loop (fun s1 : Sexchange_pushesx3 => s1.t15) (fun s1 => 0 ≤ s1.t15 ∧ s1.t15 ≤ 8 ∧ Good s v0 s1.l ∧ tot s1.l ≤ ksum s s1.t15.toNat ∧ s1.most + (tot s1.l : Int) = most ∧ (tot s1.l = 0 ∨ 0 ≤ s1.most) ∧ (∀ j, s1.t15 ≤ j → vend v0 s1.l j = v0 j) ∧ (∀ j, 0 ≤ j → j < s1.t15 → st0 s j ≤ v0 j → vec s j ≤ vend v0 s1.l j)) 8 _ (by omega) ?_ ?_ rfl
    ⟨by simp, by simp, trivial, by simp [tot], by simp [tot], .inl rfl, fun j _ => rfl, fun j h1 h2 => by simp only at h2; omega⟩
  · rintro ⟨mo, l, o⟩ next p1 p2 ⟨_, _, i1, i2, i3, i4, i5, i6⟩ hn
    simp only at p1 p2 i1 i2 i3 i4 i5 i6
    have p2' : o < 8 := p2
    have e1 : decide (o < 8) = true := by simpa using p2'
    have e2 : ibB o 8 = true := ibB_of p1 p2'
    have hw : IntKind.i64.wrap (o + 1) = o + 1 := wrap64 (by omega) (by omega)
    have hko := hf.kept o.toNat (by omega)
    have hkn := vec_get (hf.known _ (vget_mem s.Known default (show to.Group.toNat < 8 by omega))) (o := o.toNat) (by omega)
    have hst := vec_get hf.starts (o := o.toNat) (by omega)
    have hve := vec_get hf.vec (o := o.toNat) (by omega)
    have hsum := hf.sum o.toNat (by omega)
    have hks := ksum_succ s o.toNat
    have hk9 := ksum_le s (show o.toNat + 1 ≤ 8 by omega)
    have hvo : v0 o = vget (vget s.Known to.Group.toNat default) o.toNat default := by rw [hv0]
    have hq : (o + 1).toNat = o.toNat + 1 := by omega
    have hskip : (st0 s o ≤ v0 o → vec s o ≤ vend v0 l o) → ∃ r, next ⟨mo, l, o + 1⟩ = some r ∧ Good s v0 r ∧ ((tot r : Int) = 0 ∨ (tot r : Int) ≤ most) ∧ tot r ≤ 524288 ∧ (most < (ksum s 8 : Int) ∨ ∀ j, 0 ≤ j → j < 8 → st0 s j ≤ v0 j → vec s j ≤ vend v0 r j) := fun hc =>
      hn _ rfl ⟨by simp only; omega, by simp only; omega, i1, by simp only [hq, hks]; omega, i3, i4, fun j hj => i5 j (by simp only at hj; omega), fun j h1 h2 h3 => by
        simp only at h2
        by_cases hjo : j = o
        · subst hjo; exact hc h3
        · exact i6 j h1 (by omega) h3⟩
    have ekl : vget s.Kept o.toNat default = ko s o := rfl
    have est : vget s.Starts o.toNat default = st0 s o := rfl
    have eve : vget s.Vector_ o.toNat default = vec s o := rfl
    rw [ekl] at hko hsum hks
    rw [est] at hst hsum
    rw [eve] at hve hsum
    rw [← hvo] at hkn
    have hll := hko.2.2.2
    simp only [e1, e2, hib, cond_true, hw, Bool.or_true, count_eq, Option.bind_some]
    rw [← hvo, est, ekl, decide_eq_true hkn, decide_eq_true hst]
    simp only [Bool.not_true, Bool.not_false, cond_true, Option.bind_some, Bool.false_or, Bool.or_self]
    rw [wrap64 (n := v0 o - st0 s o) (by omega) (by omega)]
    by_cases c3 : v0 o < st0 s o
    · rw [decide_eq_true c3]
      exact hskip fun h => by omega
    rw [decide_eq_false c3]
    simp only [Bool.false_or]
    by_cases hd : ((ko s o).length : Int) ≤ v0 o - st0 s o
    · rw [decide_eq_true hd]
      exact hskip fun _ => by have := vend_le l v0 o; omega
    rw [decide_eq_false hd, cutB_of (by omega) (by omega) (Int.le_refl _)]
    simp only [cond_true, cond_false]
    have hcut0 : cut (ko s o) (v0 o - st0 s o) ((ko s o).length : Int) = (ko s o).drop (v0 o - st0 s o).toNat := by
      unfold cut
      exact List.take_of_length_le (by simp)
    refine iter_post (fun s5 => Good s v0 s5.l ∧ tot s5.l + s5.ops.length ≤ ksum s o.toNat + (ko s o).length ∧ s5.most + (tot s5.l : Int) = most ∧ (tot s5.l = 0 ∨ 0 ≤ s5.most) ∧ s5.k = vend v0 s5.l o ∧ st0 s o ≤ s5.k ∧ s5.k - st0 s o ≤ ((ko s o).length : Int) ∧ s5.ops = (ko s o).drop (s5.k - st0 s o).toNat ∧ (∀ j, o < j → vend v0 s5.l j = v0 j) ∧ (∀ j, 0 ≤ j → j < o → st0 s j ≤ v0 j → vec s j ≤ vend v0 s5.l j)) (fun s5 => s5.ops.length) _ ?_ N _
      ⟨i1, by simp only [hcut0, List.length_drop]; omega, i3, i4, (i5 o (Int.le_refl _)).symm, by simp only; omega, by simp only; omega, hcut0, fun j hj => i5 j (by omega), i6⟩ (by simp only [hcut0, List.length_drop]; omega)
    rintro ⟨mo, l, k, ops⟩ nx ⟨q1, q2, q3, q4, q5, q6, q7, q8, q9, q10⟩ hnx
    simp only at q1 q2 q3 q4 q5 q6 q7 q8 q9 q10
    have hol : ops.length = (ko s o).length - (k - st0 s o).toNat := by rw [q8, List.length_drop]
    by_cases hz : 0 < (ops.length : Int)
    · rw [decide_eq_true hz]
      simp only [cond_true]
      rw [show (bif decide (mo < (bif decide (16 < (ops.length : Int)) then 16 else (ops.length : Int))) then mo else (bif decide (16 < (ops.length : Int)) then 16 else (ops.length : Int))) = pushN mo ops from rfl]
      obtain ⟨n1, n2, n3, n4⟩ := pushN_le mo ops
      generalize pushN mo ops = n at *
      by_cases hn0 : n ≤ 0
      · rw [decide_eq_true hn0]
        refine ⟨l, rfl, q1, ?_, by omega, .inl (by omega)⟩
        rcases q4 with q4 | q4
        · exact .inl (by omega)
        · exact .inr (by omega)
      · have hnn : n = ((n.toNat : Nat) : Int) := by omega
        generalize hnt : n.toNat = nn at *
        subst hnn
        have hcl : cut ops 0 (nn : Int) = ops.take nn := by unfold cut; simp
        have hcl2 : cut ops (nn : Int) (ops.length : Int) = ops.drop nn := by unfold cut; exact List.take_of_length_le (by simp)
        have hlen : (ops.take nn).length = nn := by simp; omega
        have hgl := q1.len
        rw [decide_eq_false hn0, cutB_of (Int.le_refl _) (by omega) n3, cutB_of (by omega) n3 (Int.le_refl _), hcl, hcl2]
        simp only [cond_true, cond_false]
        rw [cloneOps_eq (by omega), Option.bind_some, lenB_of (by simp only [List.length_singleton]; omega), cond_true, wrap64 (n := mo - (nn : Int)) (by omega) (by omega), wrap64 (n := k + (nn : Int)) (by omega) (by omega)]
        have hgd : ∀ m : GMsg, m.Origin = o → m.Slot = k → m.Ops = ops.take nn → m.List_ = [] → m.Entry.Ops = [] → m.Entry.Part.Data = [] → m.Part.Data = [] → Gd s (vend v0 l) m := fun m w1 w2 w3 w4 w5 w6 w7 => by
          have hml : m.Ops.length = nn := by rw [w3, hlen]
          refine ⟨by rw [w1]; exact ⟨p1, p2'⟩, by rw [w1, w2, q5], by omega, by rw [w1, ← q5]; exact q6, ?_, by rw [w1, ← q5, hml]; omega, w4, by omega, w5, w6, w7⟩
          rw [w1, ← q5, hml, ← q8]; exact w3
        refine hnx _ ⟨q1.snoc (hgd _ rfl rfl rfl rfl rfl rfl rfl), ?_, ?_, .inr ?_, ?_, ?_, ?_, ?_, ?_, ?_⟩ ?_
        · simp only [tot_snoc, hlen, List.length_drop]; omega
        · simp only [tot_snoc, hlen]; omega
        · simp only; omega
        · simp only [vend_snoc, adv, if_true, hlen, ← q5]
        · simp only; omega
        · simp only; omega
        · simp only [q8, List.drop_drop]
          congr 1; omega
        · intro j hj
          simp only [vend_snoc, adv]
          rw [if_neg (by omega)]; exact q9 j hj
        · intro j h1 h2 h3
          simp only [vend_snoc, adv]
          rw [if_neg (by omega)]; exact q10 j h1 h2 h3
        · simp only [List.length_drop]; omega
    · rw [decide_eq_false hz]
      simp only [cond_false]
      refine hn _ rfl ⟨by simp only; omega, by simp only; omega, q1, by simp only [hq, hks]; omega, q3, q4, fun j hj => q9 j (by simp only at hj; omega), fun j h1 h2 h3 => ?_⟩
      simp only at h2
      by_cases hjo : j = o
      · subst hjo; simp only; rw [← q5]; omega
      · exact q10 j h1 (by omega) h3
  · rintro ⟨mo, l, o⟩ next p1 ⟨_, _, i1, i2, i3, i4, i5, i6⟩
    simp only at p1 i1 i2 i3 i4 i5 i6
    subst p1
    simp only
    rw [decide_eq_false (by decide)]
    refine ⟨l, rfl, i1, ?_, by have : ksum s ((8 : Nat) : Int).toNat = ksum s 8 := rfl; omega, .inr fun j h1 h2 h3 => i6 j h1 (by simpa using h2) h3⟩
    rcases i4 with i4 | i4
    · exact .inl (by omega)
    · exact .inr (by omega)
end
end Go.Proofs.Ytekpjhhbmjcbmaa
