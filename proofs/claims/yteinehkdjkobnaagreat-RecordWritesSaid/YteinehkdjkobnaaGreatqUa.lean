/-
A message's bytes: the document's forms of entries, lists and messages, and what the program's writer puts.
-/
import Derived.Test.YteinehkdjkobnaaGreatqWt
set_option linter.unusedVariables false
set_option linter.unusedSimpArgs false
namespace Go.Proofs.YteinehkdjkobnaaGreat
open Go Go.Ev
section
variable {N : Nat} {e0 : Int} {w : List Int}
theorem zdw (hN : 20 ≤ N) {b l : List Int} (hb : b.length ≤ 60000000000000) (hl : l.length < N) (hl2 : l.length ≤ 1000) (hr : ∀ n ∈ l, R64 n) : zc N b l = some (b ++ (l.map pI).flatten) := by
  unfold zc
  refine z1s (fun q : z45 => 0 ≤ q.i ∧ q.i ≤ (l.length : Int) ∧ (q.b.length : Int) ≤ b.length + 10 * q.i ∧ q.b ++ ((l.drop q.i.toNat).map pI).flatten = b ++ (l.map pI).flatten) (fun q => ((l.length : Int) - q.i).toNat) ?_ N _ ⟨by simp, by simp, by simp, by simp⟩ (by simp; omega)
  rintro ⟨c, i⟩ nx ⟨g0, g1, g2, hq⟩ ih
  simp only at g0 g1 g2 hq ih ⊢
  by_cases hi : i < l.length
  · have hm := hr _ (z6d (default : Int) g0 hi)
    have hp := zdl hm
    rw [z1i (default : Int) g0 hi, List.map_cons, List.flatten_cons] at hq
    simp only [decide_eq_true hi, z4e g0 hi, cond_true]
    rw [z112 (by omega) hm, Option.bind_some, z20 (by unfold pI at hp; omega), z2v (by omega) (by omega)]
    exact ih ⟨_, i + 1⟩ ⟨by simp; omega, by simp; omega, by simp only [List.length_append]; unfold pI at hp; omega, by simp only [List.append_assoc]; exact hq⟩ (by simp; omega)
  · have : decide (i < (l.length : Int)) = false := by simpa using hi
    simp only [this, cond_false]
    rw [List.drop_eq_nil_of_le (by omega)] at hq
    rw [← hq]; simp
theorem all1 {a : Int} (ha : R64 a) : ∀ n ∈ [a], R64 n := by intro n hn; simp at hn; subst hn; exact ha
theorem all2 {a b : Int} (ha : R64 a) (hb : R64 b) : ∀ n ∈ [a, b], R64 n := by intro n hn; simp at hn; rcases hn with rfl | rfl <;> assumption
theorem all3 {a b c : Int} (ha : R64 a) (hb : R64 b) (hc : R64 c) : ∀ n ∈ [a, b, c], R64 n := by intro n hn; simp at hn; rcases hn with rfl | rfl | rfl <;> assumption
theorem z10z (l : List GOp) : ((l.map opC).flatten).flatten = (l.map opB).flatten := by
  induction l with
  | nil => rfl
  | cons x l ih => simp only [List.map_cons, List.flatten_cons, List.flatten_append, ih]; rfl
theorem opsB_len {l : List GOp} (h : ∀ o ∈ l, MayOp o) : (l.map opB).flatten.length ≤ 845 * l.length := by
  induction l with
  | nil => simp
  | cons x l ih =>
    have h1 := z123 (h x (by simp))
    have h2 := ih fun o ho => h o (by simp [ho])
    simp only [List.map_cons, List.flatten_cons, List.length_append, List.length_cons]; omega
theorem zxi {l : List GOp} (hN : l.length + 20 ≤ N) (hl : l.length ≤ 4096) (h : ∀ o ∈ l, MayOp o) : z6x N l = some (opsC l).flatten := by
  unfold z6x
  have hr : R64 (l.length : Int) := ⟨by omega, by omega⟩
  have hp := zdl hr
  rw [zsp (by omega) (by simp; omega) (by simp) (all1 hr), Option.bind_some]
  have hgoal : (opsC l).flatten = ([(l.length : Int)].map pI).flatten ++ (l.map opB).flatten := by
    unfold opsC; rw [List.flatten_append, z10z]
  rw [hgoal]
  refine z1s (fun q : z63 => 0 ≤ q.i ∧ q.i ≤ (l.length : Int) ∧ (q.b.length : Int) ≤ 10 + 845 * q.i ∧ q.b ++ ((l.drop q.i.toNat).map opB).flatten = ([(l.length : Int)].map pI).flatten ++ (l.map opB).flatten) (fun q => ((l.length : Int) - q.i).toNat) ?_ N _ ⟨by simp, by simp, by simp; omega, by simp⟩ (by simp; omega)
  rintro ⟨c, i⟩ nx ⟨g0, g1, g2, hq⟩ ih
  simp only at g0 g1 g2 hq ih ⊢
  by_cases hi : i < l.length
  · have hm := h _ (z6d (default : GOp) g0 hi)
    have hp := z123 hm
    rw [z1i (default : GOp) g0 hi, List.map_cons, List.flatten_cons] at hq
    simp only [decide_eq_true hi, z4e g0 hi, cond_true]
    change (z8w N (lget l i default)).bind _ = _
    rw [z113 (by omega) hm, Option.bind_some, z20 (by omega), z2v (by omega) (by omega)]
    exact ih ⟨_, i + 1⟩ ⟨by simp; omega, by simp; omega, by simp only [List.length_append]; omega, by simp only [List.append_assoc]; exact hq⟩ (by simp; omega)
  · have : decide (i < (l.length : Int)) = false := by simpa using hi
    simp only [this, cond_false]
    rw [List.drop_eq_nil_of_le (by omega)] at hq
    rw [← hq]; simp
theorem z12t {l : List GOp} (h : z9o l) : (opsC l).flatten.length ≤ 3461130 := by
  obtain ⟨h1, h2, h3⟩ := h
  have := opsB_len h3
  have hp := zdl (n := (l.length : Int)) ⟨by omega, by omega⟩
  unfold opsC
  rw [List.flatten_append, z10z, List.length_append]
  simp only [List.map_cons, List.map_nil, List.flatten_cons, List.flatten_nil, List.append_nil]
  omega
theorem z12u (p : GPart) : (ptC p).flatten = ([p.Snap, p.Index, p.Many].map pI).flatten ++ pB p.Data := by
  simp [ptC]
theorem zp6 (hN : 20 ≤ N) {p : GPart} (h : MayPt p) : z2k N p = some (ptC p).flatten := by
  obtain ⟨h1, ⟨h2, h3⟩, ⟨h4, h5⟩, h6⟩ := h
  have hr : ∀ n ∈ [p.Snap, p.Index, p.Many], R64 n := all3 (cnt64 h1) ⟨by omega, by omega⟩ ⟨by omega, by omega⟩
  have hl := z2w hr
  have hb := z3k (zl6 (zjm (n := p.Data.length) (by omega)))
  unfold z2k
  rw [zsp hN (by simp; omega) (by simp) hr, Option.bind_some, F36_eq (by omega) (by omega), Option.bind_some, z20 (by simp only [List.length_cons, List.length_nil, List.length_append] at hl ⊢; omega), z12u]
  rfl
theorem z11z {p : GPart} (h : MayPt p) : (ptC p).flatten.length ≤ 16424 := by
  obtain ⟨h1, ⟨h2, h3⟩, ⟨h4, h5⟩, h6⟩ := h
  have hl := z2w (l := [p.Snap, p.Index, p.Many]) (all3 (cnt64 h1) ⟨by omega, by omega⟩ ⟨by omega, by omega⟩)
  have hb := z3k (zl6 (zjm (n := p.Data.length) (by omega)))
  rw [z12u]
  simp only [pB, List.length_cons, List.length_nil, List.length_append] at hl hb ⊢
  omega
theorem z12v (hN : 20 ≤ N) {v : Vector Int 8} (h : ∀ n ∈ v.toList, R64 n) : z1j N v = some (v.toList.map pI).flatten := by rw [zxs hN h, vpre_8]
theorem vec_len {v : Vector Int 8} (h : ∀ n ∈ v.toList, R64 n) : (v.toList.map pI).flatten.length ≤ 80 := by
  have := z2w h
  have h2 : v.toList.length = 8 := by simp
  omega
theorem kind9 {e : z6} (h : kindE e) : e.Kind = 0 ∨ e.Kind = 1 ∨ e.Kind = 2 ∨ e.Kind = 3 ∨ e.Kind = 4 ∨ e.Kind = 5 ∨ e.Kind = 6 ∨ e.Kind = 7 ∨ e.Kind = 8 := by unfold kindE at h; omega
theorem zdk {e : z6} (hN : e.Ops.length + 20 ≤ N) (h : MayEn e) : z2o N e = some (enB e) ∧ (enB e).length ≤ 3500000 := by
  obtain ⟨hk, _, hc⟩ := h
  have hk9 := kind9 hk
  obtain ⟨kd, a2, a3, a4, a5, a6, a7, a8, a9, a10, a11, a12, a13, a14, a15⟩ := e
  simp only at hk9 hN
  have hrk : R64 kd := ⟨by omega, by omega⟩
  have hpk := zdl hrk
  have h1 : z1r N [kd] = some ([kd].map pI).flatten := zsp (by omega) (by simp; omega) (by simp) (all1 hrk)
  have hlk : (([kd].map pI).flatten).length ≤ 10 := by simpa using hpk
  have hN' : 20 ≤ N := by omega
  have hX : ∀ (cs : List (List Int)), (([kd].map pI) ++ cs).flatten = ([kd].map pI).flatten ++ cs.flatten := fun cs => List.flatten_append
  unfold z2o
  simp only
  rw [h1, Option.bind_some]
  rcases hk9 with rfl | rfl | rfl | rfl | rfl | rfl | rfl | rfl | rfl
  · refine ⟨?_, ?_⟩
    · show some _ = some ([pI 0] ++ []).flatten
      rw [List.append_nil]; rfl
    · show ([pI 0] ++ []).flatten.length ≤ _
      rw [List.append_nil]; simp only [List.map_cons, List.map_nil] at hlk; omega
  · replace hc : (decide (cnt a2) && decide (0 < a2) && decide (cnt a3) && decide (0 < a3) && decide (MayOp a4)) = true := hc
    simp only [Bool.and_eq_true, decide_eq_true_eq] at hc
    obtain ⟨⟨⟨⟨c1, _⟩, c2⟩, _⟩, c3⟩ := hc
    have l1 := z2w (all2 (cnt64 c1) (cnt64 c2))
    have l2 := z123 c3
    simp only [Int.reduceBEq, cond_true, cond_false]
    rw [zdw hN' (by omega) (by simp; omega) (by simp) (all2 (cnt64 c1) (cnt64 c2)), Option.bind_some, z113 hN' c3, Option.bind_some, z20 (by simp only [List.length_append, List.length_cons, List.length_nil] at l1 ⊢; omega), cond_true]
    have e1 : enB ⟨1, a2, a3, a4, a5, a6, a7, a8, a9, a10, a11, a12, a13, a14, a15⟩ = ([(1 : Int)].map pI).flatten ++ ([a2, a3].map pI).flatten ++ opB a4 := by
      simp only [enB, enC, tailC, Int.reduceBEq, cond_true, cond_false, List.flatten_append, List.append_assoc]; rfl
    rw [e1]
    exact ⟨rfl, by simp only [List.length_append, List.length_cons, List.length_nil] at l1 ⊢; omega⟩
  · replace hc : (decide (sit a5) && decide (cnt a6) && decide (z9o a7)) = true := hc
    simp only [Bool.and_eq_true, decide_eq_true_eq] at hc
    obtain ⟨⟨c1, c2⟩, c3⟩ := hc
    have l1 := z2w (all2 (sit64 c1) (cnt64 c2))
    have l2 := z12t c3
    simp only [Int.reduceBEq, cond_true, cond_false]
    rw [zdw hN' (by omega) (by simp; omega) (by simp) (all2 (sit64 c1) (cnt64 c2)), Option.bind_some, zxi hN c3.2.1 c3.2.2, Option.bind_some, z20 (by simp only [List.length_append, List.length_cons, List.length_nil] at l1 ⊢; omega), cond_true]
    have e1 : enB ⟨2, a2, a3, a4, a5, a6, a7, a8, a9, a10, a11, a12, a13, a14, a15⟩ = ([(2 : Int)].map pI).flatten ++ ([a5, a6].map pI).flatten ++ (opsC a7).flatten := by
      simp only [enB, enC, tailC, Int.reduceBEq, cond_true, cond_false, List.flatten_append, List.append_assoc]; simp
    rw [e1]
    exact ⟨rfl, by simp only [List.length_append, List.length_cons, List.length_nil] at l1 ⊢; omega⟩
  · replace hc : (decide (MayEp a8)) = true := hc
    simp only [Bool.and_eq_true, decide_eq_true_eq] at hc
    have l2 := epB_len hc
    simp only [Int.reduceBEq, cond_true, cond_false]
    rw [zst hN' hc, Option.bind_some, z20 (by omega), cond_true]
    have e1 : enB ⟨3, a2, a3, a4, a5, a6, a7, a8, a9, a10, a11, a12, a13, a14, a15⟩ = ([(3 : Int)].map pI).flatten ++ epB a8 := by
      simp only [enB, enC, tailC, Int.reduceBEq, cond_true, cond_false, List.flatten_append, List.append_assoc]; rfl
    rw [e1]
    exact ⟨rfl, by simp only [List.length_append]; omega⟩
  · replace hc : (decide (cnt a6) && decide (sit a9) && decide (zam a10) && decide (cnt a11)) = true := hc
    simp only [Bool.and_eq_true, decide_eq_true_eq] at hc
    obtain ⟨⟨⟨c1, c2⟩, c3⟩, c4⟩ := hc
    have l1 := z2w (all2 (cnt64 c1) (sit64 c2))
    have l2 := vec_len (fun n hn => cnt64 (c3 n hn))
    have l3 := z2w (all1 (cnt64 c4))
    simp only [Int.reduceBEq, cond_true, cond_false]
    simp only [List.length_append, List.length_cons, List.length_nil] at l1 l3
    rw [zdw hN' (by omega) (by simp; omega) (by simp) (all2 (cnt64 c1) (sit64 c2)), Option.bind_some, z12v hN' (fun n hn => cnt64 (c3 n hn)), Option.bind_some, z20 (by simp only [List.length_append]; omega), cond_true,
      zdw hN' (by simp only [List.length_append]; omega) (by simp; omega) (by simp) (all1 (cnt64 c4)), Option.bind_some]
    have e1 : enB ⟨4, a2, a3, a4, a5, a6, a7, a8, a9, a10, a11, a12, a13, a14, a15⟩ = ([(4 : Int)].map pI).flatten ++ ([a6, a9].map pI).flatten ++ (a10.toList.map pI).flatten ++ ([a11].map pI).flatten := by
      simp only [enB, enC, tailC, Int.reduceBEq, cond_true, cond_false, List.flatten_append, List.append_assoc]; simp
    rw [e1]
    exact ⟨rfl, by simp only [List.length_append]; omega⟩
  · replace hc : (decide (MayPt a12)) = true := hc
    simp only [Bool.and_eq_true, decide_eq_true_eq] at hc
    have l2 := z11z hc
    simp only [Int.reduceBEq, cond_true, cond_false]
    rw [zp6 hN' hc, Option.bind_some, z20 (by omega), cond_true]
    have e1 : enB ⟨5, a2, a3, a4, a5, a6, a7, a8, a9, a10, a11, a12, a13, a14, a15⟩ = ([(5 : Int)].map pI).flatten ++ (ptC a12).flatten := by
      simp only [enB, enC, tailC, Int.reduceBEq, cond_true, cond_false, List.flatten_append, List.append_assoc]
    rw [e1]
    exact ⟨rfl, by simp only [List.length_append]; omega⟩
  · replace hc : (decide (sit a13) && decide (sit a14) && decide (cnt a15)) = true := hc
    simp only [Bool.and_eq_true, decide_eq_true_eq] at hc
    obtain ⟨⟨c1, c2⟩, c3⟩ := hc
    have l1 := z2w (all2 (sit64 c1) (sit64 c2))
    simp only [List.length_append, List.length_cons, List.length_nil] at l1
    simp only [Int.reduceBEq, cond_true, cond_false]
    rw [zdw hN' (by omega) (by simp; omega) (by simp) (all2 (sit64 c1) (sit64 c2)), Option.bind_some]
    have e1 : enB ⟨6, a2, a3, a4, a5, a6, a7, a8, a9, a10, a11, a12, a13, a14, a15⟩ = ([(6 : Int)].map pI).flatten ++ ([a13, a14].map pI).flatten := by
      simp only [enB, enC, tailC, Int.reduceBEq, cond_true, cond_false, List.flatten_append, List.append_assoc]
    rw [e1]
    exact ⟨rfl, by simp only [List.length_append]; omega⟩
  · replace hc : (decide (sit a13) && decide (sit a14) && decide (cnt a15)) = true := hc
    simp only [Bool.and_eq_true, decide_eq_true_eq] at hc
    obtain ⟨⟨c1, c2⟩, c3⟩ := hc
    have l1 := z2w (all1 (sit64 c1))
    simp only [List.length_append, List.length_cons, List.length_nil] at l1
    simp only [Int.reduceBEq, cond_true, cond_false]
    rw [zdw hN' (by omega) (by simp; omega) (by simp) (all1 (sit64 c1)), Option.bind_some]
    have e1 : enB ⟨7, a2, a3, a4, a5, a6, a7, a8, a9, a10, a11, a12, a13, a14, a15⟩ = ([(7 : Int)].map pI).flatten ++ ([a13].map pI).flatten := by
      simp only [enB, enC, tailC, Int.reduceBEq, cond_true, cond_false, List.flatten_append, List.append_assoc]
    rw [e1]
    exact ⟨rfl, by simp only [List.length_append]; omega⟩
  · replace hc : (decide (sit a13) && decide (sit a14) && decide (cnt a15)) = true := hc
    simp only [Bool.and_eq_true, decide_eq_true_eq] at hc
    obtain ⟨⟨c1, c2⟩, c3⟩ := hc
    have l1 := z2w (all2 (sit64 c1) (cnt64 c3))
    simp only [List.length_append, List.length_cons, List.length_nil] at l1
    simp only [Int.reduceBEq, cond_true, cond_false]
    rw [zdw hN' (by omega) (by simp; omega) (by simp) (all2 (sit64 c1) (cnt64 c3)), Option.bind_some]
    have e1 : enB ⟨8, a2, a3, a4, a5, a6, a7, a8, a9, a10, a11, a12, a13, a14, a15⟩ = ([(8 : Int)].map pI).flatten ++ ([a13, a15].map pI).flatten := by
      simp only [enB, enC, tailC, Int.reduceBEq, cond_true, cond_false, List.flatten_append, List.append_assoc]; simp
    rw [e1]
    exact ⟨rfl, by simp only [List.length_append]; omega⟩
def baC (b : zh) : List (List Int) := [b.Round].map pI ++ [b.Replica].map pI
def slC (x : zd) : List (List Int) := [x.Slot].map pI ++ baC x.Ballot ++ enC x.Entry
def lsC (l : List zd) : List (List Int) := [(l.length : Int)].map pI ++ (l.map slC).flatten
def slB (x : zd) : List Int := (slC x).flatten
theorem ba64 {b : zh} (h : MayBa b) : R64 b.Round ∧ R64 b.Replica := ⟨cnt64 h.1, ⟨by have := h.2; omega, by have := h.2; omega⟩⟩
theorem slB_eq (x : zd) : slB x = ([x.Slot, x.Ballot.Round, x.Ballot.Replica].map pI).flatten ++ enB x.Entry := by
  unfold slB slC baC
  simp only [List.flatten_append, List.map_cons, List.map_nil, List.flatten_cons, List.flatten_nil, List.append_nil, List.append_assoc]; rfl
theorem sl3 {x : zd} (h : MaySl x) : ∀ n ∈ [x.Slot, x.Ballot.Round, x.Ballot.Replica], R64 n := all3 (cnt64 h.1) (ba64 h.2.1).1 (ba64 h.2.1).2
theorem slB_len {x : zd} (h : MaySl x) : (slB x).length ≤ 3500030 := by
  have l1 := z2w (sl3 h)
  have l2 := (zdk (N := x.Entry.Ops.length + 20) (Nat.le_refl _) h.2.2).2
  rw [slB_eq, List.length_append]
  simp only [List.length_cons, List.length_nil] at l1
  omega
theorem slsB_flat (l : List zd) : ((l.map slC).flatten).flatten = (l.map slB).flatten := by
  induction l with
  | nil => rfl
  | cons x l ih => simp only [List.map_cons, List.flatten_cons, List.flatten_append, ih]; rfl
theorem z12w (l : List zd) : (lsC l).flatten = ([(l.length : Int)].map pI).flatten ++ (l.map slB).flatten := by
  unfold lsC; rw [List.flatten_append, slsB_flat]
theorem slsB_len {l : List zd} (h : ∀ x ∈ l, MaySl x) : (l.map slB).flatten.length ≤ 3500030 * l.length := by
  induction l with
  | nil => simp
  | cons x l ih =>
    have h1 := slB_len (h x (by simp))
    have h2 := ih fun o ho => h o (by simp [ho])
    simp only [List.map_cons, List.flatten_cons, List.length_append, List.length_cons]; omega
theorem z120 {l : List zd} (hl : l.length ≤ 4096) (h : ∀ x ∈ l, MaySl x) : (lsC l).flatten.length ≤ 15000000000 := by
  have h1 := slsB_len h
  have h2 := z2w (all1 (a := (l.length : Int)) ⟨by omega, by omega⟩)
  rw [z12w, List.length_append]
  simp only [List.length_cons, List.length_nil] at h2
  omega
theorem zp7 {l : List zd} (hN : roomS N l) (hl : l.length ≤ 4096) (h : ∀ x ∈ l, MaySl x) : z21 N l = some (lsC l).flatten := by
  have hN1 := hN.1
  unfold z21
  have hr : R64 (l.length : Int) := ⟨by omega, by omega⟩
  have hp := z2w (all1 hr)
  simp only [List.length_cons, List.length_nil] at hp
  rw [zsp (by omega) (by simp; omega) (by simp) (all1 hr), Option.bind_some, z12w]
  refine z1s (fun q : z4v => 0 ≤ q.i ∧ q.i ≤ (l.length : Int) ∧ (q.b.length : Int) ≤ 10 + 3500030 * q.i ∧ q.b ++ ((l.drop q.i.toNat).map slB).flatten = ([(l.length : Int)].map pI).flatten ++ (l.map slB).flatten) (fun q => ((l.length : Int) - q.i).toNat) ?_ N _ ⟨by simp, by simp, by simp only; omega, by simp⟩ (by simp; omega)
  rintro ⟨c, i⟩ nx ⟨g0, g1, g2, hq⟩ ih
  simp only at g0 g1 g2 hq ih ⊢
  by_cases hi : i < l.length
  · have hmem := z6d (default : zd) g0 hi
    have hm := h _ hmem
    have hs := slB_len hm
    have l1 := z2w (sl3 hm)
    simp only [List.length_cons, List.length_nil] at l1
    have hen := zdk (N := N) (hN.2.2 _ hmem).1 hm.2.2
    rw [z1i (default : zd) g0 hi, List.map_cons, List.flatten_cons] at hq
    simp only [decide_eq_true hi, z4e g0 hi, cond_true]
    rw [zdw (by omega) (by omega) (by simp; omega) (by simp) (sl3 hm), Option.bind_some]
    change ((z2o N (lget l i default).Entry).bind _) = _
    rw [hen.1, Option.bind_some, z20 (by simp only [List.length_append]; omega), z2v (by omega) (by omega), cond_true]
    rw [slB_eq] at hq hs
    exact ih ⟨_, i + 1⟩ ⟨by simp; omega, by simp; omega, by simp only [List.length_append] at hs ⊢; omega, by simp only [List.append_assoc] at hq ⊢; exact hq⟩ (by simp; omega)
  · have : decide (i < (l.length : Int)) = false := by simpa using hi
    simp only [this, cond_false]
    rw [List.drop_eq_nil_of_le (by omega)] at hq
    rw [← hq]; simp
theorem zvp (hN : 20 ≤ N) {b : zh} (h : MayBa b) (hw : w.length ≤ 1048576) : zj N b e0 true w = some (wr e0 w (baC b)) := by
  unfold zj
  rw [ints1 hN (ba64 h).1 hw, Option.bind_some, z2l, znm hN (ba64 h).2 (z1m hw _), z1g, Option.bind_some]
  rfl
theorem adw_eq (hN : 20 ≤ N) {a : GAddr} (h : MayAd a) (hw : w.length ≤ 1048576) : z35 N a e0 true w = some (wr e0 w ([a.Group, a.Replica].map pI)) := by
  obtain ⟨⟨h1, h2⟩, h3, h4⟩ := h
  unfold z35
  rw [small2 hN ⟨by omega, by omega⟩ ⟨by omega, by omega⟩ hw, Option.bind_some]
theorem lsw_eq {l : List zd} (hN : roomS N l) (hl : l.length ≤ 4096) (h : ∀ x ∈ l, MaySl x) (hw : w.length ≤ 1048576) : zz N l e0 true w = some (wr e0 w (lsC l)) := by
  have hN1 := hN.1
  unfold zz
  rw [znm (by omega) ⟨by omega, by omega⟩ hw, Option.bind_some]
  refine z1s (fun q : z26 => 0 ≤ q.t13 ∧ q.t13 ≤ (l.length : Int) ∧ q.b1 = true ∧ q.b12.length ≤ 1048576 ∧ wr q.b0 q.b12 ((l.drop q.t13.toNat).map slC).flatten = wr e0 w (lsC l)) (fun q => ((l.length : Int) - q.t13).toNat) ?_ N _ ⟨by simp, by simp, rfl, z1m hw _, ?_⟩ (by simp; omega)
  · rintro ⟨i, b0, b1, b12⟩ nx ⟨g0, g1, rfl, g3, hq⟩ ih
    simp only at g0 g1 g3 hq ih ⊢
    by_cases hi : i < l.length
    · have hmem := z6d (default : zd) g0 hi
      have hm := h _ hmem
      rw [z1i (default : zd) g0 hi, List.map_cons, List.flatten_cons, ← z1g] at hq
      simp only [decide_eq_true hi, z4e g0 hi, cond_true]
      rw [ints1 (by omega) (cnt64 hm.1) g3, Option.bind_some, z2l, zvp (by omega) hm.2.1 (z1m g3 _), z1g, Option.bind_some, z2l]
      change (z1b N (lget l i default).Entry _ true _).bind _ = _
      rw [zvz (hN.2.2 _ hmem).1 hm.2.2 (z1m g3 _), z1g, Option.bind_some, z2v (by omega) (by omega)]
      exact ih ⟨i + 1, _, _, _⟩ ⟨by simp; omega, by simp; omega, rfl, z1m g3 _, hq⟩ (by simp; omega)
    · have : decide (i < (l.length : Int)) = false := by simpa using hi
      simp only [this, cond_false]
      rw [List.drop_eq_nil_of_le (by omega)] at hq
      rw [← hq]; rfl
  · simp only
    rw [z1g]; simp [lsC]
end
end Go.Proofs.YteinehkdjkobnaaGreat
