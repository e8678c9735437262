/-
Regions that draw their order, concluded; pieces of code at an abstract state; functions.
-/
import Derived.Test.YtllmdbbhokaokaaqTvI
set_option linter.unusedVariables false
set_option linter.unusedSimpArgs false
set_option linter.unnecessarySimpa false
set_option linter.unusedSectionVars false
namespace Go.Ev
open Go
theorem mem_names_lt {ops : Array Oper} (hs : statOk ops = true) {i j : Nat} (hij : i < j) (hj : j < ops.size) : ((masks ops).getD j 0).testBit i = true ∨ ∃ x y, ops[i]? = some x ∧ ops[j]? = some y ∧ x.apart ops y = true := by
  unfold statOk at hs
  have h1 := List.all_eq_true.1 hs j (by simpa using hj)
  simp only [Bool.and_eq_true] at h1
  have h2 := List.all_eq_true.1 h1.2 i (by simpa using hij)
  simp only [Bool.or_eq_true] at h2
  rcases h2 with h2 | h2
  · exact .inl h2
  · right
    split at h2
    · rename_i x y hx hy; exact ⟨x, y, hx, hy, h2⟩
    · cases h2
theorem back_edge {ops : Array Oper} (hs : statOk ops = true) {j : Nat} {o : Oper} (ho : ops[j]? = some o) {e : Edge} (he : e ∈ o.after) (hb : Region.binds .any e = true) : e.on < j := by
  have hj : j < ops.size := by
    rcases Nat.lt_or_ge j ops.size with h | h
    · exact h
    · rw [Array.getElem?_eq_none h] at ho; cases ho
  unfold statOk at hs
  have h1 := List.all_eq_true.1 hs j (by simpa using hj)
  simp only [ho, Bool.and_eq_true] at h1
  have := List.all_eq_true.1 h1.1 e (by simpa using he)
  simpa [hb] using this
structure Pairs (ops : Array Oper) (xs : List Rec) : Prop where
  size : xs.length = ops.size
  tmps : ∀ i j, i < j → j < ops.size → Reach ops i j ∨ (∀ k, wrT ops ⟨[], []⟩ k i = true → False) ∨ True
  names : ∀ i j, i < j → j < ops.size → Reach ops i j ∨ (ops.getD i default).apart ops (ops.getD j default) = true
  boxes : ∀ i j, i < j → j < ops.size → Reach ops i j ∨ ((∀ id ∈ (xs.getD j default).U.map (·.1), id ∉ (xs.getD i default).F) ∧ (∀ id ∈ (xs.getD i default).U.map (·.1), id ∉ (xs.getD j default).F))
theorem pairs_of {ops : Array Oper} {xs : List Rec} (hl : xs.length = ops.size) (hs : statOk ops = true) (hi : indep (masks ops) (trOf 0 xs []) = true) : Pairs ops xs := by
  refine ⟨hl, fun _ _ _ _ => .inr (.inr trivial), fun i j hij hj => ?_, fun i j hij hj => ?_⟩
  · rcases mem_names_lt hs hij hj with h | ⟨x, y, hx, hy, h⟩
    · exact .inl (masks_reach h)
    · right
      have e1 : ops.getD i default = x := by simp [Array.getD_eq_getD_getElem?, hx]
      have e2 : ops.getD j default = y := by simp [Array.getD_eq_getD_getElem?, hy]
      rw [e1, e2]; exact h
  · have hxi : xs[i]? = some (xs.getD i default) := by simp [List.getD, List.getElem?_eq_getElem (show i < xs.length by omega)]
    have hxj : xs[j]? = some (xs.getD j default) := by simp [List.getD, List.getElem?_eq_getElem (show j < xs.length by omega)]
    have := indep_pair xs 0 [] hi i j _ _ hij hxi hxj
    simp only [pairOk, Nat.zero_add] at this
    rcases this with h | ⟨h1, h2⟩
    · exact .inl (masks_reach h)
    · exact .inr ⟨fun id hid => disj_spec h1 hid, fun id hid => disj_spec h2 hid⟩
theorem agree {α : Type} {ops : Array Oper} {D : Nat → Bool} (hD : Closed ops D) {i n : Nat} (hi : D i = false) (hin : i < n) (hpre : ∀ j, Reach ops j i → D j = true) {wr : Nat → Bool} {val : Nat → α} {v0 : α}
    (h1 : ∀ j, j < i → wr j = true → Reach ops j i) (h2 : ∀ j, i < j → j < n → wr j = true → Reach ops i j) :
    lastv (fun j => D j && wr j) val v0 n = lastv (fun j => (fun _ => true) j && wr j) val v0 i := by
  rw [lastv_beyond (i := i) (n := n) (by omega)]
  · refine lastv_congr fun j hj => ?_
    cases hw : wr j with
    | false => simp
    | true => rw [hpre j (h1 j hj hw)]
  · intro j hj hjn
    cases hw : wr j with
    | false => simp
    | true =>
      by_cases hji : j = i
      · subst hji; rw [hi]; rfl
      · cases hDj : D j with
        | false => rfl
        | true => have := hD.reach (h2 j (by omega) hjn hw) hDj; rw [hi] at this; cases this
theorem writes {α : Type} {ops : Array Oper} {D : Nat → Bool} (hD : Closed ops D) {i n : Nat} (hi : D i = false) (hin : i < n) {wr : Nat → Bool} {val : Nat → α} {v0 : α} (hw : wr i = true)
    (h2 : ∀ j, i < j → j < n → wr j = true → Reach ops i j) : lastv (fun j => (D j || j == i) && wr j) val v0 n = val i := by
  rw [lastv_beyond (i := i + 1) (n := n) (by omega)]
  · simp [lastv, hw]
  · intro j hj hjn
    cases hwj : wr j with
    | false => simp
    | true =>
      have hne : (j == i) = false := by simp; omega
      cases hDj : D j with
      | false => simp [hne]
      | true => have := hD.reach (h2 j (by omega) hjn hwj) hDj; rw [hi] at this; cases this
theorem elsewhere {α : Type} {D : Nat → Bool} {i n : Nat} {wr : Nat → Bool} {val : Nat → α} {v0 : α} (hw : wr i = false) : lastv (fun j => (D j || j == i) && wr j) val v0 n = lastv (fun j => D j && wr j) val v0 n := by
  refine lastv_congr fun j hj => ?_
  by_cases hji : j = i
  · subst hji; simp [hw]
  · have : (j == i) = false := by simp [hji]
    simp [this]
section
variable {E : Env} {ops : Array Oper} {xs : List Rec} {st0 : St} (hp : Pairs ops xs) (hF : ∀ i, i < ops.size → ∀ id ∈ (xs.getD i default).U.map (·.1), id ∈ (xs.getD i default).F)
  {D : Nat → Bool} (hD : Closed ops D) {i : Nat} (hi : D i = false) (hin : i < ops.size) (hpre : ∀ j, Reach ops j i → D j = true)
include hp hD hi hin hpre
theorem wrT_dst {k j : Nat} (h : wrT ops st0 k j = true) : (ops.getD j default).dst = some k := by
  simp only [wrT, Bool.and_eq_true, beq_iff_eq] at h; exact h.1
theorem agree_tmp {d : Nat} (hd : d ∈ (ops.getD i default).looksAt ops ∨ (ops.getD i default).dst = some d) : nth (AD ops xs D st0 ops.size).t d = nth (AD ops xs (fun _ => true) st0 i).t d := by
  rw [nth_AD, nth_AD]
  refine agree hD hi hin hpre (fun j hj hw => ?_) (fun j hj hjn hw => ?_)
  · rcases hp.names j i hj hin with h | h
    · exact h
    · obtain ⟨a1, a2, a3⟩ := Oper.apart_spec h
      have hdj := wrT_dst hp hD hi hin hpre hw
      rcases hd with hd | hd
      · exact absurd hd (a1 d hdj)
      · exact absurd hd (a2 d hdj)
  · rcases hp.names i j hj hjn with h | h
    · exact h
    · obtain ⟨a1, a2, a3⟩ := Oper.apart_spec h
      have hdj := wrT_dst hp hD hi hin hpre hw
      rcases hd with hd | hd
      · exact absurd hd (a3 d hdj)
      · exact absurd hdj (a2 d hd)
theorem wrH_mem {id j : Nat} (h : wrH xs id j = true) : id ∈ (xs.getD j default).U.map (·.1) := by
  by_cases hm : id ∈ (xs.getD j default).U.map (·.1)
  · exact hm
  · rw [wrH, lastE_none hm] at h; cases h
theorem agree_box {id : Nat} (hid : id ∈ (xs.getD i default).F) : hget (AD ops xs D st0 ops.size).h id = hget (AD ops xs (fun _ => true) st0 i).h id := by
  rw [hget_AD, hget_AD]
  refine agree hD hi hin hpre (fun j hj hw => ?_) (fun j hj hjn hw => ?_)
  · rcases hp.boxes j i hj hin with h | ⟨_, h⟩
    · exact h
    · exact absurd hid (h id (wrH_mem hp hD hi hin hpre hw))
  · rcases hp.boxes i j hj hjn with h | ⟨h, _⟩
    · exact h
    · exact absurd hid (h id (wrH_mem hp hD hi hin hpre hw))
include hF in
theorem next_AD : ((AD ops xs D st0 ops.size).after (ops.getD i default) (xs.getD i default)).t = (AD ops xs (fun j => D j || j == i) st0 ops.size).t ∧
    ∀ id, hget ((AD ops xs D st0 ops.size).after (ops.getD i default) (xs.getD i default)).h id = hget (AD ops xs (fun j => D j || j == i) st0 ops.size).h id := by
  refine ⟨list_ext_nth (by rw [length_after, length_AD, length_AD]) fun k => ?_, fun id => ?_⟩
  · rw [nth_AD]
    cases hw : wrT ops st0 k i with
    | true =>
      have hdst := wrT_dst hp hD hi hin hpre hw
      rw [writes hD hi hin hw]
      · rw [after_t, hdst]
        simp only [wrT, Bool.and_eq_true, decide_eq_true_eq] at hw
        simp [nth_eq, getElem?_setT, length_AD, hw.2]
      · intro j hj hjn hwj
        rcases hp.names i j hj hjn with h | h
        · exact h
        · exact absurd (wrT_dst hp hD hi hin hpre hwj) ((Oper.apart_spec h).2.1 k hdst)
    | false =>
      rw [elsewhere hw, ← nth_AD, after_t]
      cases hd : (ops.getD i default).dst with
      | none => rfl
      | some d =>
        simp only [nth_eq, getElem?_setT, length_AD]
        rw [if_neg]
        rintro ⟨rfl, hlt⟩
        rw [wrT, hd] at hw
        simp [hlt] at hw
  · rw [hget_AD, after_h, hget_appH, app_eq]
    cases hw : wrH xs id i with
    | true =>
      rw [writes hD hi hin hw]
      · rw [wrH] at hw
        obtain ⟨e, he⟩ := Option.isSome_iff_exists.1 hw
        rw [he]; rfl
      · intro j hj hjn hwj
        have hid := hF i hin id (wrH_mem hp hD hi hin hpre hw)
        rcases hp.boxes i j hj hjn with h | ⟨h, _⟩
        · exact h
        · exact absurd hid (h id (wrH_mem hp hD hi hin hpre hwj))
    | false =>
      rw [elsewhere hw, ← hget_AD]
      have : lastE (xs.getD i default).U id = none := by rw [wrH] at hw; simpa using hw
      rw [this]; rfl
end
theorem AD_congr {ops : Array Oper} {xs : List Rec} {st0 : St} {D D' : Nat → Bool} : ∀ n, (∀ j, j < n → D j = D' j) → AD ops xs D st0 n = AD ops xs D' st0 n
  | 0, _ => rfl
  | n + 1, h => by simp only [AD]; rw [h n (Nat.lt_succ_self _), AD_congr n fun j hj => h j (Nat.lt_succ_of_lt hj)]
def isIn (listed : Array Bool) (j : Nat) : Bool := listed.getD j false
theorem draw_sound {E : Env} {ops : Array Oper} {xs : List Rec} {st0 st' : St} (hs : statOk ops = true) (hp : Pairs ops xs)
    (hl : ∀ i, i < ops.size → Local E ops (ops.getD i default) (AD ops xs (fun _ => true) st0 i) (xs.getD i default) ∧ ∀ id ∈ (xs.getD i default).U.map (·.1), id ∈ (xs.getD i default).F)
    (hend : st' = AD ops xs (fun _ => true) st0 ops.size) {g0 : Gh} {H0 : Nat → Ent} {w0 : World} {Q : Exit → St → Prop} (hQ : Q .normal st') :
    ∀ (fuel : Nat) (listed : Array Bool) (g : Gh) (a : Act) (w : World), listed.size = ops.size → Closed ops (isIn listed) → ((List.range ops.size).filter fun j => !isIn listed j).length ≤ fuel →
      StRel g (AD ops xs (isIn listed) st0 ops.size) a w → EvoP g0 H0 w0 g (hget (AD ops xs (isIn listed) st0 ops.size).h) w → DefOk w0 a w → wpAnyIn (fe E) 0 E.P .any ops (Post g0 H0 w0 Q) fuel listed a w := by
  have hF := fun i hi => (hl i hi).2
  have hdone : ∀ (listed : Array Bool) (g : Gh) (a : Act) (w : World), listed.size = ops.size → Closed ops (isIn listed) → Region.ready .any ops listed = [] → StRel g (AD ops xs (isIn listed) st0 ops.size) a w →
      EvoP g0 H0 w0 g (hget (AD ops xs (isIn listed) st0 ops.size).h) w → DefOk w0 a w → Post g0 H0 w0 Q .normal a w := by
    intro listed g a w hsz hcl hr hst hev hdf
    have hall : ∀ j, j < ops.size → isIn listed j = true := by
      intro j
      induction j using Nat.strongRecOn with
      | _ j ih =>
        intro hj
        cases hin : isIn listed j with
        | true => rfl
        | false =>
          have hmem : j ∈ Region.ready .any ops listed := by
            rw [mem_ready]
            refine ⟨?_, ops.getD j default, by simp [Array.getD, hj], fun e he hb => ?_⟩
            · have : j < listed.size := by omega
              simp [isIn, Array.getD, this] at hin ⊢
              exact hin
            · have ho : ops[j]? = some (ops.getD j default) := by simp [Array.getD, hj]
              have hlt := back_edge hs ho he hb
              exact ih e.on hlt (by omega)
          rw [hr] at hmem; cases hmem
    have e := AD_congr (ops := ops) (xs := xs) (st0 := st0) ops.size hall
    rw [e] at hst hev
    exact ⟨_, g, hend ▸ hQ, hst, hev, hdf⟩
  intro fuel
  induction fuel with
  | zero =>
    intro listed g a w hsz hcl hf hst hev hdf
    have hr : Region.ready .any ops listed = [] := by
      cases hr : Region.ready .any ops listed with
      | nil => rfl
      | cons i r =>
        have hmem : i ∈ Region.ready .any ops listed := by rw [hr]; simp
        rw [mem_ready] at hmem
        obtain ⟨h0, o, ho, _⟩ := hmem
        have hi : i < ops.size := by
          rcases Nat.lt_or_ge i ops.size with h | h
          · exact h
          · rw [Array.getElem?_eq_none h] at ho; cases ho
        have hmem2 : i ∈ (List.range ops.size).filter fun j => !isIn listed j := by
          have : i < listed.size := by omega
          simp [isIn, Array.getD, this] at h0 ⊢
          exact ⟨hi, h0⟩
        have := List.length_pos_of_mem hmem2
        omega
    exact ⟨hr, hdone listed g a w hsz hcl hr hst hev hdf⟩
  | succ fuel ih =>
    intro listed g a w hsz hcl hf hst hev hdf
    refine ⟨fun hr => hdone listed g a w hsz hcl hr hst hev hdf, fun i hmem => ?_⟩
    rw [mem_ready] at hmem
    obtain ⟨h0, o, ho, hafter⟩ := hmem
    have hi : i < ops.size := by
      rcases Nat.lt_or_ge i ops.size with h | h
      · exact h
      · rw [Array.getElem?_eq_none h] at ho; cases ho
    have hod : ops.getD i default = o := by simp [Array.getD_eq_getD_getElem?, ho]
    have hisz : i < listed.size := by omega
    have hiD : isIn listed i = false := by
      simp [isIn, Array.getD, hisz] at h0 ⊢
      exact h0
    have hpre : ∀ j, Reach ops j i → isIn listed j = true := by
      intro j hr
      cases hr with
      | edge ho' he hb => rw [ho] at ho'; cases ho'; exact hafter _ he hb
      | step ho' he hb hr' => rw [ho] at ho'; cases ho'; exact hcl.reach hr' (hafter _ he hb)
    have hset : ∀ j, isIn (listed.setIfInBounds i true) j = (isIn listed j || j == i) := by
      intro j
      by_cases hji : j = i
      · subst hji
        have := getD_set_true (listed := listed) (i := j) (j := j)
        simp [isIn, hisz]
      · have := getD_set_ne (listed := listed) (i := i) (j := j) false (Ne.symm hji)
        unfold isIn
        rw [this]
        simp [hji]
    have hsetf : isIn (listed.setIfInBounds i true) = fun j => isIn listed j || j == i := funext hset
    obtain ⟨hloc, _⟩ := hl i hi
    rw [hod] at hloc
    simp only [wpOpIn, ho]
    have key := hloc _ g a w hst (fun d hd => agree_tmp hp hcl hiD hi hpre (.inl (by rw [hod]; exact hd))) (fun id hid => agree_box hp hcl hiD hi hpre hid)
      (wpAnyIn (fe E) 0 E.P .any ops (Post g0 H0 w0 Q) fuel (listed.setIfInBounds i true)) (Post g0 H0 w0 Q) (fun g' a' w' hdf' hst' hev' => by
        obtain ⟨n1, n2⟩ := next_AD (st0 := st0) hp hF hcl hiD hi hpre
        rw [hod] at n1 n2
        refine ih _ g' a' w' (by simp [hsz]) ?_ ?_ ?_ ?_ (hdf.step hst.rel hev'.fr hdf')
        · intro j o' e hj ho' he hb
          rw [hset] at hj ⊢
          simp only [Bool.or_eq_true, beq_iff_eq] at hj ⊢
          left
          rcases hj with hj | rfl
          · exact hcl _ _ _ hj ho' he hb
          · rw [ho] at ho'; cases ho'; exact hafter _ he hb
        · have hlt : ((List.range ops.size).filter fun j => !isIn (listed.setIfInBounds i true) j).length < ((List.range ops.size).filter fun j => !isIn listed j).length := by
            have hsub : (List.range ops.size).filter (fun j => !isIn (listed.setIfInBounds i true) j) = ((List.range ops.size).filter fun j => !isIn listed j).filter fun j => !(j == i) := by
              rw [List.filter_filter]
              refine List.filter_congr fun j _ => ?_
              rw [hset]; cases isIn listed j <;> cases (j == i) <;> rfl
            rw [hsub]
            have hmem2 : i ∈ (List.range ops.size).filter fun j => !isIn listed j := by simp [hi, hiD]
            exact List.length_filter_lt_length_iff_exists.2 ⟨i, hmem2, by simp⟩
          omega
        · rw [hsetf]; exact hst'.congr n1 n2
        · rw [hsetf]
          have e : hget (AD ops xs (fun j => isIn listed j || j == i) st0 ops.size).h = hget (appH (AD ops xs (isIn listed) st0 ops.size).h (xs.getD i default).U) := by
            funext id
            rw [← n2 id, after_h]
          rw [e]
          exact hev.trans hev')
    unfold opWp at key
    split
    · rename_i hw; rw [if_pos hw] at key; exact key
    · rename_i hw; rw [if_neg hw] at key; exact ⟨fun _ _ => trivial, key⟩
end Go.Ev
