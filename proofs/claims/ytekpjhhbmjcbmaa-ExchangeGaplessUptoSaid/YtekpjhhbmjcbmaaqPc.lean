/-
The laws of what counts.
-/
import Derived.Test.YtekpjhhbmjcbmaaqPb
import Derived.KernelRfl
set_option linter.unusedVariables false
set_option linter.unusedSimpArgs false
namespace Go.Proofs.Ytekpjhhbmjcbmaa
open Go Go.Ev
section
variable {N : Nat}
theorem begun_eq (hN : 400 ≤ N) : Flaw16_begun N = some true := by
  obtain ⟨k, rfl⟩ : ∃ k, N = k + 400 := ⟨N - 400, by omega⟩
  kernel_rfl
theorem ops_self {l : List GOp} (hN : l.length < N) (hl : l.length ≤ 1048576) : Flaw16_ops N l l = some true := by
  unfold Flaw16_ops
  rw [show ((l.length : Int) == (l.length : Int)) = true by simp]
  simp only [Bool.not_true, cond_false]
  refine iter_run (fun q : Slaw16_opsx4 => 0 ≤ q.t13 ∧ q.t13 ≤ l.length) (fun q => (l.length - q.t13).toNat) ?_ N _ ⟨by simp, by simp⟩ (by simp; omega)
  rintro ⟨t⟩ nx ⟨h0, h1⟩ ih
  simp only at ih h0 h1 ⊢
  by_cases hlt : t < l.length
  · rw [decide_eq_true hlt, ibB_of h0 hlt]
    simp only [beq_self_eq_true, Bool.and_self, Bool.not_true, cond_false, cond_true]
    rw [wrapS (by omega) (by omega)]
    exact ih _ ⟨by simp only; omega, by simp only; omega⟩ (by simp; omega)
  · rw [decide_eq_false hlt]; rfl
theorem tk_len (s : GSnap) (o : Int) : ∀ (l : List GOp) (n last : Int), (tk N s o n last l).length ≤ l.length
  | [], _, _ => Nat.le_refl _
  | x :: r, n, last => by
    rw [tk]; split
    · simp
    · have := tk_len s o r (n + 1) x.Stamp.Time
      simp only [List.length_cons]; omega
theorem take_len (s : GSnap) (o seq : Int) (l : List GOp) : (take N s o seq l).length ≤ l.length := by
  unfold take
  split
  · simp
  · split
    · simp
    · exact Nat.le_trans (tk_len s o _ _ _) (by simp)
theorem tk_prefix (s : GSnap) (o : Int) : ∀ (l : List GOp) (n last : Int), ∃ r, l = tk N s o n last l ++ r
  | [], _, _ => ⟨[], rfl⟩
  | x :: r, n, last => by
    rw [tk]; split
    · exact ⟨_, rfl⟩
    · obtain ⟨q, hq⟩ := tk_prefix s o r (n + 1) x.Stamp.Time
      exact ⟨q, by rw [List.cons_append, ← hq]⟩
theorem tk_fix (s : GSnap) (o : Int) : ∀ (l : List GOp) (n last : Int), tk N s o n last (tk N s o n last l) = tk N s o n last l
  | [], _, _ => rfl
  | x :: r, n, last => by
    rw [tk]; split
    · rfl
    · rename_i h
      rw [tk, if_neg h, tk_fix s o r (n + 1) x.Stamp.Time]
def good (N : Nat) (s : GSnap) (o : Int) : Int → Int → List GOp → Prop
  | _, _, [] => True
  | n, last, x :: r => ¬ stop N s o n last x ∧ good N s o (n + 1) x.Stamp.Time r
theorem tk_good (s : GSnap) (o : Int) : ∀ (l : List GOp) (n last : Int), good N s o n last (tk N s o n last l)
  | [], _, _ => trivial
  | x :: r, n, last => by
    rw [tk]; split
    · trivial
    · rename_i h
      exact ⟨h, tk_good s o r (n + 1) x.Stamp.Time⟩
theorem op_self (a b : GOp) (h : a = b) : ((((a.Stamp.Time == b.Stamp.Time) && (a.Stamp.Site == b.Stamp.Site)) && ((a.Kind == b.Kind) && ((a.Node == b.Node) && ((a.Parent == b.Parent) && ((a.Name == b.Name) && ((a.Key == b.Key) && (a.Value == b.Value)))))))) = true := by
  subst h; simp
theorem gapless_law {s : GSnap} {o seq : Int} {l : List GOp} (hN : l.length + 400 ≤ N) (hl : l.length ≤ 1048576) : Flaw16_ExchangeGapless N s o seq l = some true := by
  unfold Flaw16_ExchangeGapless
  rw [begun_eq (by omega), Option.bind_some, take_eq (by omega) hl, reftake_eq (by omega) hl]
  simp only [Bool.not_true, cond_false, Option.bind_some]
  have hle := take_len (N := N) s o seq l
  by_cases hz : take N s o seq l = []
  · rw [hz]; rfl
  have hp := List.length_pos_iff.2 hz
  have hz' : (((take N s o seq l).length : Int) == 0) = false := by
    rw [beq_eq_false_iff_ne]; omega
  rw [hz', cond_false]
  have hnb : ¬ bad s o seq := fun h => hz (by unfold take; rw [if_pos h])
  have hnl : ¬ (l.length : Int) ≤ vec s o - seq := fun h => hz (by unfold take; rw [if_neg hnb, if_pos h])
  have hT : take N s o seq l = tk N s o (vec s o) (lst s o) (l.drop (vec s o - seq).toNat) := by
    unfold take; rw [if_neg hnb, if_neg hnl]
  have hbd := hnb
  unfold bad at hnb
  simp only [not_or, Int.not_lt, Classical.not_not] at hnb
  obtain ⟨b0, b1, b2, b3, b4, b5⟩ := hnb
  unfold MT at b5
  have hib : ibB o 8 = true := ibB_of b0.1 b0.2
  have hsite : (o == s.Site) = false := by rw [beq_eq_false_iff_ne]; exact b1
  simp only [hib, Bool.or_true, cond_true]
  rw [decide_eq_false (show ¬ o < 0 by omega), decide_eq_false (show ¬ 8 ≤ o by omega), hsite, decide_eq_false (show ¬ seq < 0 by omega)]
  rw [show vget s.Vector_ o.toNat default = vec s o from rfl, show vget s.Last o.toNat default = lst s o from rfl, show vget s.Epoch.States o.toNat default = stt s o from rfl, show vget s.Epoch.Seals o.toNat default = sls s o from rfl]
  rw [decide_eq_false (show ¬ vec s o < seq by omega)]
  simp only [Bool.or_self, cond_false]
  rw [wrapS (n := vec s o - seq) (by omega) (by omega), wrapS (n := (l.length : Int) - _) (by omega) (by omega)]
  obtain ⟨r, hr⟩ := tk_prefix (N := N) s o (l.drop (vec s o - seq).toNat) (vec s o) (lst s o)
  rw [← hT] at hr
  have hgl : (take N s o seq l).length + r.length = l.length - (vec s o - seq).toNat := by
    have := congrArg List.length hr
    rw [List.length_append, List.length_drop] at this
    omega
  rw [decide_eq_false (show ¬ (l.length : Int) - ((take N s o seq l).length : Int) < vec s o - seq by omega), cond_false]
  have hgood := tk_good (N := N) s o (l.drop (vec s o - seq).toNat) (vec s o) (lst s o)
  have hfix := tk_fix (N := N) s o (l.drop (vec s o - seq).toNat) (vec s o) (lst s o)
  rw [← hT] at hgood hfix
  have htake2 : take N s o (vec s o) (take N s o seq l) = take N s o seq l := by
    have hnb2 : ¬ bad s o (vec s o) := by
      unfold bad MT; simp only [not_or, Int.not_lt, Classical.not_not]
      exact ⟨b0, b1, b2, by omega, by omega, b5⟩
    generalize take N s o seq l = g at *
    unfold take
    rw [if_neg hnb2, if_neg (by omega), show (vec s o - vec s o).toNat = 0 by omega, List.drop_zero, hfix]
  have hel : ∀ k : Nat, k < (take N s o seq l).length → lget l (vec s o - seq + (k : Int)) default = lget (take N s o seq l) (k : Int) default := by
    intro k hk
    rw [show vec s o - seq + (k : Int) = (((vec s o - seq).toNat + k : Nat) : Int) by omega, lget_nat, lget_nat]
    have : (l.drop (vec s o - seq).toNat)[k]? = ((take N s o seq l) ++ r)[k]? := by rw [← hr]
    rw [List.getElem?_drop, List.getElem?_append_left hk] at this
    simp only [List.getD, this]
  generalize take N s o seq l = g at *
  refine iter_run (fun q : Slaw16_ExchangeGaplessx13 => ∃ (k : Nat) (lt : Int), q.t77 = k ∧ k ≤ g.length ∧ good N s o (vec s o + k) lt (g.drop k) ∧ ∀ t, lt < t → s.Frontier < t → q.last < t) (fun q => (g.length - q.t77).toNat) ?_ N _
    ⟨0, lst s o, rfl, by omega, by simpa using hgood, ?_⟩ (by simp; omega)
  · rintro ⟨last, t⟩ nx ⟨k, lt, rfl, hk, hg, hla⟩ ih
    simp only at ih hg hla ⊢
    by_cases hlt : k < g.length
    · have hmk := hel k hlt
      rw [wrapS (n := vec s o - seq + (k : Int)) (by omega) (by omega), wrapS (n := vec s o + (k : Int)) (by omega) (by omega), wrapS (n := (k : Int) + 1) (by omega) (by omega), hmk]
      rw [decide_eq_true (show (k : Int) < (g.length : Int) by omega), ibB_of (Int.natCast_nonneg k) (by omega), ibB_of (show (0 : Int) ≤ vec s o - seq + (k : Int) by omega) (by omega)]
      have hd : g.drop k = lget g (k : Int) default :: g.drop (k + 1) := by
        have := lget_drop (default : GOp) (Int.natCast_nonneg k) (show (k : Int) < g.length by omega)
        rw [Int.toNat_natCast] at this
        rw [this]; congr 1
      rw [hd] at hg
      obtain ⟨hns, hg2⟩ := hg
      generalize lget g (k : Int) default = x at *
      unfold stop at hns
      simp only [not_or, Classical.not_not, Int.not_le] at hns
      obtain ⟨n1, n2, n3, n4, n5, n6⟩ := hns
      have hx := op_self x x rfl
      have hl2 := hla _ n5 n6
      have e1 : (x.Stamp.Site == o) = true := by simpa using n4
      have e2 : decide (x.Stamp.Time ≤ last) = false := by simp; omega
      have e3 : (stt s o == 3 && decide (sls s o ≤ vec s o + (k : Int))) = false := by
        rw [Bool.eq_false_iff]; intro q; simp only [Bool.and_eq_true, beq_iff_eq, decide_eq_true_eq] at q; exact n2 q
      simp only [hx, e1, e2, e3, Bool.not_true, Bool.or_self, Bool.not_false, cond_true, cond_false, Bool.true_or, Bool.or_true, Bool.or_false, Bool.false_or]
      refine ih _ ⟨k + 1, x.Stamp.Time, rfl, by omega, ?_, fun t ht _ => ht⟩ (by simp; omega)
      rw [show vec s o + (((k + 1 : Nat)) : Int) = vec s o + (k : Int) + 1 by omega]
      exact hg2
    · rw [decide_eq_false (show ¬ (k : Int) < (g.length : Int) by omega), cond_false, take_eq (by omega) (by omega), htake2]
      simp only [Option.bind_some]
      rw [ops_self (by omega) (by omega)]; rfl
  · intro t h1 h2
    simp only
    cases decide (lst s o < s.Frontier) <;> simp only [cond_true, cond_false] <;> omega
end
end Go.Proofs.Ytekpjhhbmjcbmaa
