/-
The document's Load; that both load the same; and what a machine writes.
-/
import Derived.Test.YtjjnclgkppbpnaaqMj
set_option linter.unusedVariables false
set_option linter.unusedSimpArgs false
namespace Go.Proofs.Ytjjnclgkppbpnaa
open Go Go.Ev
def said (R : Option (List GEpoch)) (r : List GEpoch × Bool) : Prop := (R = none → r.2 = false) ∧ ∀ l, R = some l → r = (l, true)
section
variable {N : Nat} {B : List Int}
theorem refload_eq (hN : 2000 ≤ N) (hB : okB B) : ∃ r, Fref17_Load N B = some r ∧ said (loadR B) r := by
  unfold Fref17_Load loadR
  rw [show (⟨B, 0, 0⟩ : Gorchardref04_Reader) = rfR B (0, B) by unfold rfR; simp, num_eq' (s := (0, B)) (by omega) hB (List.suffix_refl B), Option.bind_some]
  have hr1 : rd1 (0, B) = ((rI B).1, ((rI B).2.1, (rI B).2.2)) := by unfold rd1; rw [if_pos rfl]
  rw [hr1]
  simp only
  have hsuf := rI_suffix B
  generalize rI B = r at *
  obtain ⟨n, e, c⟩ := r
  simp only at hsuf ⊢
  by_cases hh : e = 0 ∧ 1 ≤ n ∧ n ≤ 1024
  case neg =>
    rw [if_neg hh]
    have : ((!(e == 0) || decide (n < 1)) || decide (1024 < n)) = true := by
      rw [← Bool.not_eq_false]; intro h
      simp only [Bool.or_eq_false_iff, Bool.not_eq_false', beq_iff_eq, decide_eq_false_iff_not] at h
      exact hh ⟨h.1.1, by omega, by omega⟩
    refine ⟨([], false), ?_, fun _ => rfl, fun l h => nomatch h⟩
    show (bif ((!(e == 0) || decide (n < 1)) || decide (1024 < n)) then _ else _) = _
    rw [this]; rfl
  obtain ⟨rfl, hn1, hn2⟩ := hh
  rw [if_pos ⟨rfl, hn1, hn2⟩]
  have : ((!((rfR B (0, c)).E == 0) || decide (n < 1)) || decide (1024 < n)) = false := by
    rw [decide_eq_false (by omega), decide_eq_false (by omega)]; rfl
  rw [this, cond_false]
  obtain ⟨k, rfl⟩ : ∃ k : Nat, n = k := ⟨n.toNat, by omega⟩
  rw [Int.toNat_natCast]
  generalize hR : (ldR k [] c).bind finR = R
  refine iter_post (fun q : Sref17_Loadx7 => ∃ d : List Int, q.i = q.l.length ∧ q.b0 = rfR B (0, d) ∧ q.l.length ≤ k ∧ d <:+ B ∧ (ldR (k - q.l.length) q.l d).bind finR = R) (fun q => (k - q.i).toNat) _ ?_ N _
    ⟨c, rfl, rfl, by simp, hsuf, by simpa using hR⟩ (by simp; omega)
  rintro ⟨l, t, rb⟩ nx ⟨d, h1, h2, h3, h4, h5⟩ ih
  simp only at h1 h2 h3 h4 h5 ih ⊢
  subst h1 h2
  have hbad : ∃ r, (some (([] : List GEpoch), false)) = some r ∧ said none r := ⟨_, rfl, fun _ => rfl, fun l h => nomatch h⟩
  by_cases hlt : l.length < k
  · rw [decide_eq_true (show (l.length : Int) < (k : Int) by omega), cond_true, refepoch_eq (s := (0, d)) (by omega) hB h4, Option.bind_some]
    obtain ⟨j, hj⟩ : ∃ j, k - l.length = j + 1 := ⟨k - l.length - 1, by omega⟩
    rw [hj, ldR] at h5
    have hsuf2 : (rdE smr (0, d)).2.2 <:+ B := by
      have k1 := rd1_ok (B := B) (s := (0, d)) h4
      exact rdv_ok (rdv_ok (rdv_ok k1 smr z8 8) id z8 8) smr z8 8
    generalize rdE smr (0, d) = r at *
    obtain ⟨x, e, d'⟩ := r
    simp only at h5 hsuf2 ⊢
    show ∃ r, (bif !(e == 0) then _ else _) = some r ∧ _
    by_cases he : e = 0
    case neg =>
      have he' : (e == 0) = false := by simpa using he
      rw [if_neg (fun h => he h.1)] at h5
      subst h5
      rw [he']
      exact hbad
    subst he
    simp only [beq_self_eq_true, Bool.not_true, cond_false]
    have hlen : lenB (l.length + ([x] : List GEpoch).length) 200 = true := lenB_of (by simp only [List.length_cons, List.length_nil]; omega)
    by_cases hl0 : l = []
    · subst hl0
      rw [if_pos ⟨rfl, .inl rfl⟩] at h5
      simp only [List.length_nil, show ((0 : Nat) : Int) = 0 from rfl, Int.lt_irrefl, decide_false, Bool.not_false, Bool.true_or, cond_true, cond_false, Option.bind_some, Bool.false_and]
      rw [show lenB (0 + ([x] : List GEpoch).length) 200 = true by simp [lenB]]
      simp only [cond_true]
      refine ih _ ⟨d', rfl, rfl, by simp; omega, hsuf2, ?_⟩ (by simp [IntKind.wrap, IntKind.bits, IntKind.signed]; omega)
      simp only [List.nil_append, List.length_cons, List.length_nil] at h5 ⊢
      rw [show k - (0 + 1) = j by simp at hj; omega]; exact h5
    · have hpos : 0 < l.length := List.length_pos_iff.2 hl0
      rw [wrap64 (n := (l.length : Int) - 1) (by omega) (by omega), wrap64 (n := (l.length : Int) + 1) (by omega) (by omega)]
      simp only [decide_eq_true (show (0 : Int) < (l.length : Int) by omega), Bool.not_true, Bool.false_or, ibB_of (show (0 : Int) ≤ (l.length : Int) - 1 by omega) (show (l.length : Int) - 1 < l.length by omega), cond_true]
      rw [F11_eq (by omega), Option.bind_some, hlen]
      by_cases hf : fol (lastE l) x = true
      · rw [if_pos ⟨rfl, .inr hf⟩] at h5
        unfold lastE at hf
        rw [hf]
        simp only [Bool.not_true, Bool.and_false, cond_false, cond_true]
        refine ih _ ⟨d', by simp, rfl, by simp; omega, hsuf2, ?_⟩ (by simp; omega)
        simp only [List.length_append, List.length_cons, List.length_nil] at h5 ⊢
        rw [show k - (l.length + (0 + 1)) = j by omega]; exact h5
      · rw [if_neg (fun h => h.2.elim hl0 hf)] at h5
        subst h5
        unfold lastE at hf
        rw [Bool.not_eq_true] at hf
        rw [hf]
        exact hbad
  · rw [decide_eq_false (show ¬ (l.length : Int) < (k : Int) by omega), cond_false, ibB_of (show (0 : Int) ≤ 0 by omega) (show (0 : Int) < l.length by omega)]
    rw [show k - l.length = 0 by omega] at h5
    simp only [ldR, Option.bind_some] at h5
    have hm8 := mems_len' (hd l)
    have hdl : d.length ≤ B.length := List.IsSuffix.length_le h4
    have hend : Fref04_Reader_End_4b9 N (rfR B (0, d)) = some (rfR B (if d = [] then 0 else 13, d)) := by
      unfold Fref04_Reader_End_4b9 Fref04_Reader_Fail_d51 rfR
      by_cases hd0 : d = []
      · subst hd0
        simp only [List.length_nil]
        rw [decide_eq_false (by omega)]; rfl
      · have := List.length_pos_iff.2 hd0
        simp only
        rw [decide_eq_true (by omega), if_neg hd0]; rfl
    rw [hend, Option.bind_some]
    simp only [cond_true]
    rw [F18_eq (by omega), Option.bind_some, refstart_eq (by unfold hd at hm8; omega) (by unfold hd at hm8; omega), Option.bind_some]
    simp only [Bool.or_true, cond_true]
    unfold finR at h5
    simp only at h5
    refine ⟨_, rfl, ?_⟩
    have hE : (rfR B (if d = [] then 0 else 13, d)).E = if d = [] then 0 else 13 := rfl
    rw [hE]
    have heq : ((strt (mems (lget l 0 default) 8)).1.Number == (lget l 0 default).Number && (vbeq beq3 (strt (mems (lget l 0 default) 8)).1.States (lget l 0 default).States && (vbeq beq2 (strt (mems (lget l 0 default) 8)).1.Seals (lget l 0 default).Seals && vbeq beq3 (strt (mems (lget l 0 default) 8)).1.Sponsor (lget l 0 default).Sponsor))) = eqE (strt (mems (hd l) 8)).1 (hd l) := rfl
    rw [heq]
    show said R (l, ((if d = [] then (0 : Int) else 13) == 0 && (strt (mems (hd l) 8)).2 == 0) && eqE (strt (mems (hd l) 8)).1 (hd l))
    by_cases hc : d = [] ∧ (strt (mems (hd l) 8)).2 = 0 ∧ eqE (strt (mems (hd l) 8)).1 (hd l) = true
    · rw [if_pos hc] at h5
      subst h5
      refine ⟨fun h => (nomatch h), fun l' h => ?_⟩
      cases h
      rw [if_pos hc.1, hc.2.1, hc.2.2]; rfl
    · rw [if_neg hc] at h5
      subst h5
      refine ⟨fun _ => ?_, fun l h => nomatch h⟩
      show _ = false
      rw [Bool.eq_false_iff]
      intro h
      simp only [Bool.and_eq_true, beq_iff_eq] at h
      refine hc ⟨?_, by simpa using h.1.2, h.2⟩
      have := h.1.1
      split at this
      · assumption
      · exact absurd this (by decide)
end
theorem fol_chk {a b : GEpoch} (h : fol a b = true) : chk a = true ∧ chk b = true := by
  obtain ⟨i, hi, h⟩ := List.any_eq_true.1 h
  obtain ⟨k, hk, h⟩ := List.any_eq_true.1 h
  unfold hit at h
  simp only [Bool.and_eq_true, beq_iff_eq] at h
  have he := (eqE_iff _ _).1 h.2
  obtain ⟨s, k', _, _, _, _, h1, _, _, h2, _⟩ := app_ok (e := a) (x := ent3 b i k) (b := b) (Prod.ext he h.1)
  exact ⟨h1, h2⟩
theorem ldP_ldR : ∀ (d : Nat) (l : List GEpoch) (c : List Int) (x : List GEpoch × List Int), ldP d l c = some x → ldR d l c = some x
  | 0, _, _, _, h => h
  | d + 1, l, c, x, h => by
    rw [ldP] at h
    split at h
    · rename_i hc
      have e := rdE_smr hc.2.1
      rw [ldR, e, if_pos ⟨hc.1, hc.2.2⟩]
      exact ldP_ldR d _ _ x h
    · cases h
theorem ldR_ldP : ∀ (d : Nat) (l : List GEpoch) (c : List Int) (x : List GEpoch × List Int), l ≠ [] → ldR d l c = some x → ldP d l c = some x
  | 0, _, _, _, _, h => h
  | d + 1, l, c, x, hl, h => by
    rw [ldR] at h
    split at h
    · rename_i hc
      have hf : fol (lastE l) (rdE smr (0, c)).1 = true := hc.2.elim (fun h => absurd h hl) id
      have e := rdE_sm (fol_chk hf).2
      rw [ldP, e, if_pos ⟨hc.1, (fol_chk hf).2, hc.2⟩]
      exact ldR_ldP d _ _ x (by simp) h
    · cases h
theorem ldR_pre : ∀ (d : Nat) (l : List GEpoch) (c : List Int) (x : List GEpoch × List Int), ldR d l c = some x → ∃ m, x.1 = l ++ m ∧ m.length = d ∧ (l ≠ [] → 0 < d → chk (lastE l) = true)
  | 0, l, c, x, h => by cases h; exact ⟨[], by simp, rfl, fun _ h => absurd h (by omega)⟩
  | d + 1, l, c, x, h => by
    rw [ldR] at h
    split at h
    · rename_i hc
      obtain ⟨m, h1, h2, _⟩ := ldR_pre d _ _ x h
      refine ⟨(rdE smr (0, c)).1 :: m, by simp [h1], by simp [h2], fun hl _ => (fol_chk (hc.2.elim (fun h => absurd h hl) id)).1⟩
    · cases h
theorem stS_chk {l : List Int} (h0 : l ≠ []) (hs : ∀ x ∈ l, sit x) : chk (stS l) = true := by
  rw [chk_iff]
  refine ⟨Int.le_refl _, by show (0 : Int) < 1024; decide, fun j hj => ?_, ?_⟩
  · have h1 : sta (stS l) j = if inL l j then 1 else 0 := ones_get _ hj
    have h2 : sea (stS l) j = 0 := vget_replicate _ _ hj
    have h3 : spo (stS l) j = -1 := vget_replicate _ _ hj
    unfold okP
    rw [h1, h2, h3]
    split
    · refine ⟨by decide, by decide, by decide, by decide, .inr rfl, .inr ⟨by decide, by decide, by decide, by omega⟩⟩
    · refine ⟨by decide, by decide, by decide, by decide, .inr rfl, .inl ⟨rfl, rfl⟩⟩
  · obtain ⟨x, hx⟩ := List.exists_mem_of_ne_nil l h0
    have ⟨x0, x1⟩ := hs x hx
    refine ⟨x.toNat, by omega, ?_⟩
    have h1 : sta (stS l) x.toNat = if inL l x.toNat then 1 else 0 := ones_get _ (by omega)
    rw [h1, if_pos ((inL_iff l _).2 (by rw [show ((x.toNat : Nat) : Int) = x by omega]; exact hx))]
theorem strt_chk {l : List Int} (h : (strt l).2 = 0) : chk (strt l).1 = true ∧ (strt l) = (stS l, 0) := by
  unfold strt at h ⊢
  split at h
  · exact absurd h (by decide)
  · rename_i h1
    rw [if_neg h1]
    split at h
    · exact absurd h (by decide)
    · rename_i h2
      rw [if_neg h2]
      simp only [not_or, Classical.not_not] at h1
      exact ⟨stS_chk h1.1 h1.2, rfl⟩
theorem strt_z0 {l : List Int} (h : (strt l).2 ≠ 0) : (strt l).1 = z0 := by
  unfold strt at h ⊢
  split
  · rfl
  · rename_i h1; rw [if_neg h1] at h
    split
    · rfl
    · rename_i h2; rw [if_neg h2] at h; exact absurd rfl h
theorem chk_z0 : chk z0 = false := by
  rw [Bool.eq_false_iff]; intro h
  obtain ⟨_, _, _, j, hj, h⟩ := (chk_iff _).1 h
  rw [z0_sta j hj] at h; exact absurd h (by decide)
theorem ldP_hd {d : Nat} {c : List Int} {x : List GEpoch × List Int} (h : ldP (d + 1) [] c = some x) : chk (hd x.1) = true := by
  rw [ldP] at h
  split at h
  · rename_i hc
    have h' := ldP_ldR _ _ _ _ h
    obtain ⟨m, h1, _⟩ := ldR_pre _ _ _ _ h'
    rw [h1]
    exact hc.2.1
  · cases h
theorem fin_eq {x : List GEpoch × List Int} (h : chk (hd x.1) = true) : finP x = finR x := by
  unfold finP finR
  by_cases hc : x.2 = [] ∧ eqE (hd x.1) (strt (mems (hd x.1) 8)).1 = true
  · rw [if_pos hc, if_pos]
    have he := (eqE_iff _ _).1 hc.2
    refine ⟨hc.1, ?_, (eqE_iff _ _).2 he.symm⟩
    by_cases h0 : (strt (mems (hd x.1) 8)).2 = 0
    · exact h0
    · rw [he, strt_z0 h0, chk_z0] at h; exact absurd h (by decide)
  · rw [if_neg hc, if_neg]
    intro h'
    exact hc ⟨h'.1, (eqE_iff _ _).2 ((eqE_iff _ _).1 h'.2.2).symm⟩
theorem load_same (b : List Int) : loadP b = loadR b := by
  unfold loadP loadR
  split
  · rename_i hc
    obtain ⟨d, hd'⟩ : ∃ d, (rI b).1.toNat = d + 1 := ⟨(rI b).1.toNat - 1, by omega⟩
    rw [hd']
    cases hp : ldP (d + 1) [] (rI b).2.2 with
    | some x =>
      rw [ldP_ldR _ _ _ _ hp]
      exact fin_eq (ldP_hd hp)
    | none =>
      cases hr : ldR (d + 1) [] (rI b).2.2 with
      | none => rfl
      | some x =>
        show none = finR x
        unfold finR
        rw [if_neg]
        intro hf
        rw [ldR] at hr
        split at hr
        · rename_i hc2
          obtain ⟨m, h1, h2, h3⟩ := ldR_pre _ _ _ _ hr
          have hhd : hd x.1 = (rdE smr (0, (rI b).2.2)).1 := by rw [h1]; rfl
          have hck : chk (rdE smr (0, (rI b).2.2)).1 = true := by
            rw [← hhd, ← (eqE_iff _ _).1 hf.2.2]
            exact (strt_chk hf.2.1).1
          have e := rdE_sm hck
          have : ldP (d + 1) [] (rI b).2.2 = some x := by
            rw [ldP, e, if_pos ⟨hc2.1, hck, .inl rfl⟩]
            exact ldR_ldP _ _ _ _ (by simp) hr
          rw [hp] at this; cases this
        · cases hr
  · rfl
end Go.Proofs.Ytjjnclgkppbpnaa
