/-
ExchangeArrives: what the document's check of a state says where it lets one in.
-/
import Derived.Test.YtekpjhhbmjcbmaaqQe
set_option linter.unusedVariables false
set_option linter.unusedSimpArgs false
set_option maxRecDepth 100000
namespace Go.Proofs.Ytekpjhhbmjcbmaa
open Go Go.Ev
section
variable {N : Nat}
def LogOk (N : Nat) (l : List GOp) (above : Int) : Prop := (∀ j, j < l.length → ck N (l.getD j default) = 0 ∧ above < (l.getD j default).Stamp.Time) ∧ l.length ≤ 65536
def KeptOk (N : Nat) (l : List GOp) (o : Int) : Prop := (∀ j, j < l.length → (l.getD j default).Stamp.Site = o) ∧ (∀ j, 0 < j → j < l.length → (l.getD (j - 1) default).Stamp.Time < (l.getD j default).Stamp.Time) ∧ LogOk N l 0
theorem log_tot {l : List GOp} {above : Int} (hN : 1100000 ≤ N) (hl : l.length ≤ 1048576) : ∃ r, Fref14_log N l above = some r ∧ (r = true → LogOk N l above) := by
  unfold Fref14_log
  refine look_loop (fun s : Sref14_logx2 => s.i) (fun s => ∀ j, j < s.i.toNat → ck N (l.getD j default) = 0 ∧ above < (l.getD j default).Stamp.Time) l.length _ (by omega) ?_ ?_ rfl (by simp)
  · rintro ⟨t⟩ next p1 p2 hp hn
    simp only at p1 p2 hp
    rw [decide_eq_true p2, ibB_of p1 p2]
    have hc : Fref11_CheckOp N (lget l t default) = some (ck N (lget l t default)) := (ck_eq (by omega) _).2
    simp only [cond_true, Bool.or_true]
    change ∃ r, (Fref11_CheckOp N (lget l t default)).bind _ = some r ∧ _
    rw [hc, Option.bind_some]
    have e : (!((!((!(ck N (lget l t default) == 0)) || (decide ((((lget l t default).Stamp).Time) ≤ above)))) && (decide (0 < t))) || (ibB (IntKind.i64.wrap (t - 1)) ((l).length : Int))) = true := by
      by_cases h : 0 < t
      · rw [wrap64 (by omega) (by omega), ibB_of (by omega) (by omega), Bool.or_true]
      · rw [decide_eq_false h]; simp
    rw [e]
    simp only [cond_true]
    refine tot_bindQ (tot_cond ⟨_, rfl⟩ ⟨_, rfl⟩) fun _ => tot_condP (fun _ => ⟨_, rfl, fun h => by cases h⟩) fun hc => ?_
    have hw : IntKind.i64.wrap (t + 1) = t + 1 := wrap64 (by omega) (by omega)
    refine hn _ hw fun j hj => ?_
    simp only [hw] at hj
    by_cases hjt : j < t.toNat
    · exact hp j hjt
    · have : j = t.toNat := by omega
      subst this
      simp only [Bool.or_eq_false_iff, Bool.not_eq_false', beq_iff_eq, decide_eq_false_iff_not] at hc
      exact ⟨hc.1.1, by have := hc.1.2; unfold lget at this; omega⟩
  · rintro ⟨t⟩ next p1 hp
    simp only at p1 hp
    subst p1
    rw [decide_eq_false (show ¬ (l.length : Int) < (l.length : Int) by omega)]
    refine ⟨_, rfl, fun h => ⟨fun j hj => hp j (by simpa using hj), ?_⟩⟩
    have := of_decide_eq_true h
    omega
theorem kept_tot {l : List GOp} {o : Int} (hN : 1100000 ≤ N) (hl : l.length ≤ 1048576) : ∃ r, Fref14_kept N l o = some r ∧ (r = true → KeptOk N l o) := by
  unfold Fref14_kept
  refine look_loop (fun s : Sref14_keptx2 => s.i) (fun s => ∀ j, j < s.i.toNat → (l.getD j default).Stamp.Site = o ∧ (0 < j → (l.getD (j - 1) default).Stamp.Time < (l.getD j default).Stamp.Time)) l.length _ (by omega) ?_ ?_ rfl (by simp)
  · rintro ⟨t⟩ next p1 p2 hp hn
    simp only at p1 p2 hp
    have hw : IntKind.i64.wrap (t + 1) = t + 1 := wrap64 (by omega) (by omega)
    have hw1 : 0 < t → IntKind.i64.wrap (t - 1) = t - 1 := fun h => wrap64 (by omega) (by omega)
    rw [decide_eq_true p2, ibB_of p1 p2]
    have e : (!((!(!((((lget l t default).Stamp).Site) == o))) && (decide (0 < t))) || (ibB (IntKind.i64.wrap (t - 1)) ((l).length : Int))) = true := by
      by_cases h : 0 < t
      · rw [hw1 h, ibB_of (by omega) (by omega), Bool.or_true]
      · rw [decide_eq_false h]; simp
    rw [e]
    simp only [cond_true, Bool.or_true]
    refine tot_condP (fun _ => ⟨_, rfl, fun h => by cases h⟩) fun hc => ?_
    refine hn _ hw fun j hj => ?_
    simp only [hw] at hj
    by_cases hjt : j < t.toNat
    · exact hp j hjt
    · have : j = t.toNat := by omega
      subst this
      simp only [Bool.or_eq_false_iff, Bool.not_eq_false', beq_iff_eq, Bool.and_eq_false_iff, decide_eq_false_iff_not] at hc
      refine ⟨hc.1, fun h0 => ?_⟩
      rcases hc.2 with q | q
      · omega
      · rw [hw1 (by omega)] at q
        unfold lget at q
        rw [show (t - 1).toNat = t.toNat - 1 by omega] at q
        omega
  · rintro ⟨t⟩ next p1 hp
    simp only at p1 hp
    subst p1
    rw [decide_eq_false (show ¬ (l.length : Int) < (l.length : Int) by omega)]
    simp only [cond_false]
    refine tot_bindP (log_tot hN hl) fun r hr => ⟨_, rfl, fun h => ⟨fun j hj => (hp j (by simpa using hj)).1, fun j h0 hj => (hp j (by simpa using hj)).2 h0, hr h⟩⟩
theorem vectors_tot {l : List (Vector Int 8)} (hN : 1100000 ≤ N) (hl : l.length ≤ 8) : ∃ r, Fref14_vectors N l = some r ∧ (r = true → ∀ v ∈ l, MayVec v) := by
  unfold Fref14_vectors
  refine look_loop (fun s : Sref14_vectorsx2 => s.i) (fun s => ∀ j, j < s.i.toNat → MayVec (l.getD j default)) l.length _ (by omega) ?_ ?_ rfl (by simp)
  · rintro ⟨t⟩ next p1 p2 hp hn
    simp only at p1 p2 hp
    have hw : IntKind.i64.wrap (t + 1) = t + 1 := wrap64 (by omega) (by omega)
    rw [decide_eq_true p2, ibB_of p1 p2, refMayVec_eq (by omega)]
    simp only [cond_true, Option.bind_some]
    refine tot_condP (fun _ => ⟨_, rfl, fun h => by cases h⟩) fun hc => ?_
    refine hn _ hw fun j hj => ?_
    simp only [hw] at hj
    by_cases hjt : j < t.toNat
    · exact hp j hjt
    · have : j = t.toNat := by omega
      subst this
      simp only [Bool.not_eq_false', decide_eq_true_eq] at hc
      exact hc
  · rintro ⟨t⟩ next p1 hp
    simp only at p1 hp
    subst p1
    rw [decide_eq_false (show ¬ (l.length : Int) < (l.length : Int) by omega)]
    refine ⟨_, rfl, fun _ v hv => ?_⟩
    obtain ⟨j, hj, rfl⟩ := List.getElem_of_mem hv
    have := hp j (by simpa using hj)
    rwa [show l.getD j default = l[j] by simp [List.getD, List.getElem?_eq_getElem hj]] at this
theorem stamp_tot (s : GStamp) : ∃ r, Fref04_MayStamp N s = some r := by
  unfold Fref04_MayStamp Fref04_count Fref04_site
  refine tot_bind ⟨_, rfl⟩ fun _ => tot_bind (tot_cond ⟨_, rfl⟩ ⟨_, rfl⟩) fun _ => ⟨_, rfl⟩
theorem rows_tot {l : List GRow} (hN : 1100000 ≤ N) (hl : l.length ≤ 1048576) : ∃ r, Fref14_rows N l = some r := by
  unfold Fref14_rows Fref14_count
  refine look_tot (fun s => s.i) l.length (by omega) ?_ ?_ rfl
  · rintro ⟨t⟩ next p1 p2 hn
    simp only at p1 p2
    rw [decide_eq_true p2, ibB_of p1 p2]
    simp only [cond_true]
    refine tot_bind ⟨_, rfl⟩ fun r3 => tot_bind (tot_cond ⟨_, rfl⟩ ⟨_, rfl⟩) fun r4 => ?_
    have e : (!((!((((!r3) || (decide (((lget l t default).Session) < 1))) || (!r4)) || (decide (((lget l t default).Request) < 1)))) && (decide (0 < t))) || (ibB (IntKind.i64.wrap (t - 1)) ((l).length : Int))) = true := by
      by_cases h : 0 < t
      · rw [wrap64 (by omega) (by omega), ibB_of (by omega) (by omega), Bool.or_true]
      · rw [decide_eq_false h]; simp
    rw [e]
    simp only [cond_true]
    refine tot_bind (tot_cond (stamp_tot _) ⟨_, rfl⟩) fun _ => tot_cond ⟨_, rfl⟩ (hn _ (wrap64 (by omega) (by omega)))
  · rintro ⟨t⟩ next p1
    simp only at p1
    rw [decide_eq_false (show ¬ t < (l.length : Int) by omega)]; exact ⟨_, rfl⟩
structure SmallS (s : GSnap) : Prop where
  base : s.Base.length ≤ 1048576
  attrs : ∀ x ∈ s.Base, x.Attrs.length ≤ 1048576
  log : s.Log.length ≤ 1048576
  kept : ∀ o : Nat, o < 8 → (vget s.Kept o default).length ≤ 1048576
  rows : s.Rows.length ≤ 1048576
  parts : s.Parts.length ≤ 1048576
structure Facts (N : Nat) (s : GSnap) : Prop where
  site : 0 ≤ s.Site ∧ s.Site < 8
  vec : MayVec s.Vector_
  starts : MayVec s.Starts
  known : ∀ v ∈ s.Known.toList, MayVec v
  kept : ∀ o : Nat, o < 8 → KeptOk N (vget s.Kept o default) (o : Int)
  sum : ∀ o : Nat, o < 8 → vget s.Starts o default + ((vget s.Kept o default).length : Int) = vget s.Vector_ o default
theorem vec_get {v : Vector Int 8} (h : MayVec v) {o : Nat} (ho : o < 8) : 0 ≤ vget v o default ∧ vget v o default ≤ 1099511627776 := h _ (vget_mem v default ho)
theorem may_tot {s : GSnap} (hN : 1100000 ≤ N) (hs : SmallS s) : ∃ r, Fref14_May N s = some r ∧ (r = true → Facts N s) := by
  unfold Fref14_May Fref14_site
  rw [Option.bind_some, refMayEpoch_eq (by omega)]
  refine tot_bindQ (tot_cond ⟨_, rfl⟩ ⟨_, rfl⟩) fun r2 => tot_bindQ (tot_cond ⟨_, rfl⟩ ⟨_, rfl⟩) fun r3 => tot_bindQ (tot_cond ⟨_, rfl⟩ ⟨_, rfl⟩) fun r4 => tot_bindQ (tot_cond ⟨_, rfl⟩ ⟨_, rfl⟩) fun r5 => tot_condP (fun _ => ⟨_, rfl, fun h => by cases h⟩) fun c1 => ?_
  have hsite : 0 ≤ s.Site ∧ s.Site < 8 := by
    simp only [Bool.or_eq_false_iff, Bool.not_eq_false', Bool.and_eq_true, decide_eq_true_eq] at c1
    exact c1.1.1.1.1
  refine tot_bindP (vectors_tot hN (by simp)) fun r6 h6 => tot_condP (fun c2 => ?_) fun _ => ⟨_, rfl, fun h => by cases h⟩
  have c2 : r6 = true := by simpa using c2
  subst c2
  have h6 := h6 rfl
  have hvec : MayVec s.Vector_ := h6 _ (by simp)
  have hst : MayVec s.Starts := h6 _ (by simp)
  simp only [Bool.not_true, Bool.not_false, cond_true, Bool.false_or]
  refine tot_bindP (vectors_tot hN (by simp)) fun r7 h7 => tot_condP (fun _ => ⟨_, rfl, fun h => by cases h⟩) fun c3 => ?_
  have c3 : r7 = true := by simpa using c3
  have hkn := h7 c3
  refine tot_bindQ (from_tot hN hs.base hs.attrs) fun r8 => tot_condP (fun _ => ?_) (fun _ => ?_)
  · refine tot_condP (fun _ => ⟨_, rfl, fun h => by cases h⟩) fun _ => ?_
    refine look_loop (fun q : Sref14_Mayx9 => q.i) (fun _ => True) s.Base.length _ (by have := hs.base; omega) ?_ ?_ rfl trivial
    · rintro ⟨t⟩ next p1 p2 _ hn
      simp only at p1 p2
      rw [decide_eq_true p2, ibB_of p1 p2]
      simp only [cond_true, Bool.or_true]
      exact tot_condP (fun _ => ⟨_, rfl, fun h => by cases h⟩) fun _ => hn _ (wrap64 (by omega) (by have := hs.base; omega)) trivial
    · rintro ⟨t⟩ next p1 _
      simp only at p1
      rw [decide_eq_false (show ¬ t < (s.Base.length : Int) by omega)]
      simp only [cond_false]
      refine tot_bindQ (by obtain ⟨r, h, _⟩ := log_tot (above := s.Frontier) hN hs.log; exact ⟨r, h⟩) fun _ => tot_bindQ (tot_cond (rows_tot hN hs.rows) ⟨_, rfl⟩) fun _ => tot_condP (fun _ => ⟨_, rfl, fun h => by cases h⟩) fun _ => ?_
      refine look_loop (fun q : Sref14_Mayx16 => q.i) (fun q => ∀ j : Nat, j < q.i.toNat → KeptOk N (vget s.Kept j default) (j : Int) ∧ vget s.Starts j default + ((vget s.Kept j default).length : Int) = vget s.Vector_ j default) 8 _ (by omega) ?_ ?_ rfl (by simp)
      · rintro ⟨t⟩ next p1 p2 hp hn
        simp only at p1 p2 hp
        have p2' : t < 8 := p2
        have hw : IntKind.i64.wrap (t + 1) = t + 1 := wrap64 (by omega) (by omega)
        have hkl := hs.kept t.toNat (by omega)
        have hst' := vec_get hst (o := t.toNat) (by omega)
        rw [decide_eq_true p2', ibB_of p1 p2']
        simp only [cond_true, Bool.or_true]
        refine tot_bindP (kept_tot hN hkl) fun r15 h15 => tot_condP (fun _ => ⟨_, rfl, fun h => by cases h⟩) fun hc => ?_
        rw [wrap64 (n := vget s.Starts t.toNat default + _) (by omega) (by omega)] at hc
        simp only [Bool.or_eq_false_iff, Bool.not_eq_false', beq_iff_eq] at hc
        refine hn _ hw fun j hj => ?_
        simp only [hw] at hj
        by_cases hjt : j < t.toNat
        · exact hp j hjt
        · have hjt : j = t.toNat := by omega
          subst hjt
          refine ⟨?_, hc.2⟩
          rw [show ((t.toNat : Nat) : Int) = t by omega]
          exact h15 hc.1
      · rintro ⟨t⟩ next p1 hp
        simp only at p1 hp
        subst p1
        rw [decide_eq_false (by decide)]
        simp only [cond_false]
        refine look_loop (fun q : Sref14_Mayx21 => q.i) (fun _ => True) s.Parts.length _ (by have := hs.parts; omega) ?_ ?_ rfl trivial
        · rintro ⟨t⟩ next p1 p2 _ hn
          simp only at p1 p2
          rw [decide_eq_true p2, ibB_of p1 p2, refMayPart_eq]
          simp only [cond_true, Option.bind_some]
          exact tot_condP (fun _ => ⟨_, rfl, fun h => by cases h⟩) fun _ => hn _ (wrap64 (by omega) (by have := hs.parts; omega)) trivial
        · rintro ⟨t⟩ next p1 _
          simp only at p1
          rw [decide_eq_false (show ¬ t < (s.Parts.length : Int) by omega)]
          exact ⟨_, rfl, fun _ => ⟨hsite, hvec, hst, hkn, fun o ho => (hp o (by simpa using ho)).1, fun o ho => (hp o (by simpa using ho)).2⟩⟩
  · refine tot_condP (fun _ => ⟨_, rfl, fun h => by cases h⟩) fun _ => ?_
    refine look_loop (fun q : Sref14_Mayx9a => q.i) (fun _ => True) s.Base.length _ (by have := hs.base; omega) ?_ ?_ rfl trivial
    · rintro ⟨t⟩ next p1 p2 _ hn
      simp only at p1 p2
      rw [decide_eq_true p2, ibB_of p1 p2]
      simp only [cond_true, Bool.or_true]
      exact tot_condP (fun _ => ⟨_, rfl, fun h => by cases h⟩) fun _ => hn _ (wrap64 (by omega) (by have := hs.base; omega)) trivial
    · rintro ⟨t⟩ next p1 _
      simp only at p1
      rw [decide_eq_false (show ¬ t < (s.Base.length : Int) by omega)]
      simp only [cond_false]
      refine tot_bindQ (by obtain ⟨r, h, _⟩ := log_tot (above := s.Frontier) hN hs.log; exact ⟨r, h⟩) fun _ => tot_bindQ (tot_cond (rows_tot hN hs.rows) ⟨_, rfl⟩) fun _ => tot_condP (fun _ => ⟨_, rfl, fun h => by cases h⟩) fun _ => ?_
      refine look_loop (fun q : Sref14_Mayx16a => q.i) (fun q => ∀ j : Nat, j < q.i.toNat → KeptOk N (vget s.Kept j default) (j : Int) ∧ vget s.Starts j default + ((vget s.Kept j default).length : Int) = vget s.Vector_ j default) 8 _ (by omega) ?_ ?_ rfl (by simp)
      · rintro ⟨t⟩ next p1 p2 hp hn
        simp only at p1 p2 hp
        have p2' : t < 8 := p2
        have hw : IntKind.i64.wrap (t + 1) = t + 1 := wrap64 (by omega) (by omega)
        have hkl := hs.kept t.toNat (by omega)
        have hst' := vec_get hst (o := t.toNat) (by omega)
        rw [decide_eq_true p2', ibB_of p1 p2']
        simp only [cond_true, Bool.or_true]
        refine tot_bindP (kept_tot hN hkl) fun r15 h15 => tot_condP (fun _ => ⟨_, rfl, fun h => by cases h⟩) fun hc => ?_
        rw [wrap64 (n := vget s.Starts t.toNat default + _) (by omega) (by omega)] at hc
        simp only [Bool.or_eq_false_iff, Bool.not_eq_false', beq_iff_eq] at hc
        refine hn _ hw fun j hj => ?_
        simp only [hw] at hj
        by_cases hjt : j < t.toNat
        · exact hp j hjt
        · have hjt : j = t.toNat := by omega
          subst hjt
          refine ⟨?_, hc.2⟩
          rw [show ((t.toNat : Nat) : Int) = t by omega]
          exact h15 hc.1
      · rintro ⟨t⟩ next p1 hp
        simp only at p1 hp
        subst p1
        rw [decide_eq_false (by decide)]
        simp only [cond_false]
        refine look_loop (fun q : Sref14_Mayx21a => q.i) (fun _ => True) s.Parts.length _ (by have := hs.parts; omega) ?_ ?_ rfl trivial
        · rintro ⟨t⟩ next p1 p2 _ hn
          simp only at p1 p2
          rw [decide_eq_true p2, ibB_of p1 p2, refMayPart_eq]
          simp only [cond_true, Option.bind_some]
          exact tot_condP (fun _ => ⟨_, rfl, fun h => by cases h⟩) fun _ => hn _ (wrap64 (by omega) (by have := hs.parts; omega)) trivial
        · rintro ⟨t⟩ next p1 _
          simp only at p1
          rw [decide_eq_false (show ¬ t < (s.Parts.length : Int) by omega)]
          exact ⟨_, rfl, fun _ => ⟨hsite, hvec, hst, hkn, fun o ho => (hp o (by simpa using ho)).1, fun o ho => (hp o (by simpa using ho)).2⟩⟩
theorem check_tot {s : GSnap} (hN : 1100000 ≤ N) (hs : SmallS s) : ∃ r, Fref14_Check N s = some r ∧ (r = 0 → Facts N s) := by
  unfold Fref14_Check
  refine tot_bindP (may_tot hN hs) fun r hr => tot_condP (fun c => ⟨_, rfl, fun _ => hr c⟩) fun _ => ⟨_, rfl, fun h => by cases h⟩
end
end Go.Proofs.Ytekpjhhbmjcbmaa
