/-
A machine's bytes read: the program's and the document's.
-/
import Derived.Test.YtjjnclgkppbpnaaqMi
set_option linter.unusedVariables false
set_option linter.unusedSimpArgs false
namespace Go.Proofs.Ytjjnclgkppbpnaa
open Go Go.Ev
def lastE (l : List GEpoch) : GEpoch := lget l ((l.length : Int) - 1) default
def ldP : Nat → List GEpoch → List Int → Option (List GEpoch × List Int)
  | 0, l, c => some (l, c)
  | d + 1, l, c => if (rdE sm (0, c)).2.1 = 0 ∧ chk (rdE sm (0, c)).1 = true ∧ (l = [] ∨ fol (lastE l) (rdE sm (0, c)).1 = true) then ldP d (l ++ [(rdE sm (0, c)).1]) (rdE sm (0, c)).2.2 else none
def hd (l : List GEpoch) : GEpoch := lget l 0 default
def finP (x : List GEpoch × List Int) : Option (List GEpoch) := if x.2 = [] ∧ eqE (hd x.1) (strt (mems (hd x.1) 8)).1 = true then some x.1 else none
def loadP (b : List Int) : Option (List GEpoch) :=
  if (rI b).2.1 = 0 ∧ 1 ≤ (rI b).1 ∧ (rI b).1 ≤ 1024 then (ldP (rI b).1.toNat [] (rI b).2.2).bind finP else none
theorem mems_len' (e : GEpoch) : (mems e 8).length ≤ 8 := mems_len e 8
section
variable {N : Nat} {B : List Int}
theorem newReader_eq (N : Nat) (hB : okB B) : Fwire_NewReader N B = some ⟨true, B⟩ := by
  unfold Fwire_NewReader
  rw [F43_eq hB.1]; rfl
theorem load_eq (hN : 2000 ≤ N) (hB : okB B) : Fepoch_Load N B = some (match loadP B with | none => (true, default, default, 1) | some l => (false, 0, l, default)) := by
  unfold Fepoch_Load loadP
  rw [newReader_eq N hB, Option.bind_some, F22_eq (by omega) hB.1 hB.2, Option.bind_some]
  simp only
  have hsuf := rI_suffix B
  generalize rI B = r at *
  obtain ⟨n, e, c⟩ := r
  simp only at hsuf ⊢
  by_cases hh : e = 0 ∧ 1 ≤ n ∧ n ≤ 1024
  case neg =>
    rw [if_neg hh]
    have : ((!(e == 0) || decide (n < 1)) || decide (1024 < n)) = true := by
      rw [← Bool.not_eq_false]; intro h
      simp only [Bool.or_eq_false_iff, Bool.not_eq_false', beq_iff_eq, decide_eq_false_iff_not] at h
      exact hh ⟨h.1.1, by omega, by omega⟩
    rw [this]; rfl
  obtain ⟨rfl, hn1, hn2⟩ := hh
  rw [if_pos ⟨rfl, hn1, hn2⟩]
  have : ((!((0 : Int) == 0) || decide (n < 1)) || decide (1024 < n)) = false := by
    rw [decide_eq_false (by omega), decide_eq_false (by omega)]; rfl
  rw [this, cond_false]
  obtain ⟨k, rfl⟩ : ∃ k : Nat, n = k := ⟨n.toNat, by omega⟩
  rw [Int.toNat_natCast]
  generalize hR : (ldP k [] c).bind finP = R
  refine iter_run (fun q : Sepoch_Loadx7 => ∃ d : List Int, q.t33 = q.b1.length ∧ q.b0 = ⟨true, d⟩ ∧ q.b1.length ≤ k ∧ d <:+ B ∧ (ldP (k - q.b1.length) q.b1 d).bind finP = R) (fun q => (k - q.t33).toNat) ?_ N _
    ⟨c, rfl, rfl, by simp, hsuf, by simpa using hR⟩ (by simp; omega)
  rintro ⟨t, rb, l⟩ nx ⟨d, h1, h2, h3, h4, h5⟩ ih
  simp only at h1 h2 h3 h4 h5 ih ⊢
  subst h1 h2
  by_cases hlt : l.length < k
  · rw [decide_eq_true (show (l.length : Int) < (k : Int) by omega), cond_true, take_eq (by omega) hB h4, Option.bind_some]
    obtain ⟨j, hj⟩ : ∃ j, k - l.length = j + 1 := ⟨k - l.length - 1, by omega⟩
    rw [hj, ldP] at h5
    have hok := rdE_st sm id (0, d)
    have hsuf2 : (rdE sm (0, d)).2.2 <:+ B := by
      have k1 := rd1_ok (B := B) (s := (0, d)) h4
      exact rdv_ok (rdv_ok (rdv_ok k1 sm z8 8) id z8 8) sm z8 8
    generalize rdE sm (0, d) = r at *
    obtain ⟨x, e, d'⟩ := r
    simp only at h5 hsuf2 ⊢
    by_cases he : e = 0
    case neg =>
      have he' : (e == 0) = false := by simpa using he
      rw [if_pos he]
      rw [if_neg (fun h => he h.1)] at h5
      subst h5
      simp only [he', Bool.not_false, Bool.not_true, cond_false, Option.bind_some, Bool.true_or, Bool.false_and, cond_true]
      rfl
    subst he
    rw [if_neg (by simp)]
    by_cases hm : MayEp x
    case neg =>
      have hc : chk x = false := by rw [Bool.eq_false_iff]; exact fun h => hm (chk_may h)
      rw [if_neg hm]
      rw [if_neg (fun h => by rw [hc] at h; exact absurd h.2.1 (by decide))] at h5
      subst h5
      rfl
    rw [if_pos hm]
    simp only [beq_self_eq_true, Bool.not_true, Bool.not_false, cond_true, Bool.false_or]
    rw [F13_eq (by omega), Option.bind_some]
    by_cases hc : chk x = true
    case neg =>
      rw [if_neg (fun h => hc h.2.1)] at h5
      subst h5
      rw [Bool.not_eq_true] at hc
      rw [hc]; rfl
    simp only [hc, Bool.not_true, Bool.not_false, Bool.true_and, Bool.false_or]
    have hlen : lenB (l.length + ([x] : List GEpoch).length) 200 = true := lenB_of (by simp only [List.length_cons, List.length_nil]; omega)
    by_cases hl0 : l = []
    · subst hl0
      rw [if_pos ⟨rfl, hc, .inl rfl⟩] at h5
      simp only [List.length_nil, show ((0 : Nat) : Int) = 0 from rfl, Int.lt_irrefl, decide_false, Bool.not_false, Bool.true_or, cond_true, cond_false, Option.bind_some, Bool.false_and]
      rw [show lenB (0 + ([x] : List GEpoch).length) 200 = true by simp [lenB]]
      simp only [cond_true]
      refine ih _ ⟨d', rfl, rfl, by simp; omega, hsuf2, ?_⟩ (by simp [IntKind.wrap, IntKind.bits, IntKind.signed]; omega)
      simp only [List.nil_append, List.length_cons, List.length_nil] at h5 ⊢
      rw [show k - (0 + 1) = j by simp at hj; omega]; exact h5
    · have hpos : 0 < l.length := List.length_pos_iff.2 hl0
      rw [wrap64 (n := (l.length : Int) - 1) (by omega) (by omega), wrap64 (n := (l.length : Int) + 1) (by omega) (by omega)]
      simp only [decide_eq_true (show (0 : Int) < (l.length : Int) by omega), Bool.not_true, Bool.false_or, ibB_of (show (0 : Int) ≤ (l.length : Int) - 1 by omega) (show (l.length : Int) - 1 < l.length by omega), cond_true]
      rw [F10_eq (by omega), Option.bind_some, hlen]
      by_cases hf : fol (lastE l) x = true
      · rw [if_pos ⟨rfl, hc, .inr hf⟩] at h5
        unfold lastE at hf
        rw [hf]
        simp only [Bool.not_true, Bool.and_false, cond_false, cond_true]
        refine ih _ ⟨d', by simp, rfl, by simp; omega, hsuf2, ?_⟩ (by simp; omega)
        simp only [List.length_append, List.length_cons, List.length_nil] at h5 ⊢
        rw [show k - (l.length + (0 + 1)) = j by omega]; exact h5
      · rw [if_neg (fun h => h.2.2.elim hl0 hf)] at h5
        subst h5
        unfold lastE at hf
        rw [Bool.not_eq_true] at hf
        rw [hf]; rfl
  · rw [decide_eq_false (show ¬ (l.length : Int) < (k : Int) by omega), cond_false, ibB_of (by omega) (by omega), cond_true]
    rw [show k - l.length = 0 by omega] at h5
    simp only [ldP, Option.bind_some] at h5
    have hm8 := mems_len' (hd l)
    rw [F17_eq (by omega), Option.bind_some, start_eq (by unfold hd at hm8; omega) (by unfold hd at hm8; omega), Option.bind_some, end_eq, Option.bind_some]
    simp only [Bool.or_true, cond_true]
    unfold finP at h5
    simp only at h5
    have heq : ((lget l 0 default).Number == (strt (mems (lget l 0 default) 8)).1.Number && (vbeq beq3 (lget l 0 default).States (strt (mems (lget l 0 default) 8)).1.States && (vbeq beq2 (lget l 0 default).Seals (strt (mems (lget l 0 default) 8)).1.Seals && vbeq beq3 (lget l 0 default).Sponsor (strt (mems (lget l 0 default) 8)).1.Sponsor))) = eqE (hd l) (strt (mems (hd l) 8)).1 := rfl
    rw [heq]
    by_cases hd0 : d = []
    · subst hd0
      by_cases hs : eqE (hd l) (strt (mems (hd l) 8)).1 = true
      · rw [if_pos ⟨rfl, hs⟩] at h5
        rw [hs]
        subst h5; rfl
      · rw [if_neg (fun h => hs h.2)] at h5
        rw [Bool.not_eq_true] at hs
        rw [hs]
        subst h5; rfl
    · rw [if_neg (fun h => hd0 h.1)] at h5
      have : 0 < (d.length : Int) := by have := List.length_pos_iff.2 hd0; omega
      rw [if_pos this]
      subst h5; rfl
end
end Go.Proofs.Ytjjnclgkppbpnaa
