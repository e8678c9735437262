/-
The plain law of ExchangeArrives.
-/
import Derived.Test.YtekpjhhbmjcbmaaqQh
set_option linter.unusedVariables false
set_option linter.unusedSimpArgs false
set_option maxRecDepth 100000
namespace Go.Proofs.Ytekpjhhbmjcbmaa
open Go Go.Ev
section
variable {N : Nat}
structure U (s : GSnap) (to : Int) (v0 : Int → Int) (kn : Vector Int 8) (t : Int) (b : GSnap) : Prop where
  site : b.Site = to
  fr : b.Frontier = 0
  vec : b.Vector_ = kn
  st : ∀ j, 0 ≤ j → j < t → stt b j = 1
  last : ∀ j, 0 ≤ j → j < t → st0 s j ≤ v0 j → v0 j - st0 s j ≤ ((ko s j).length : Int) → lst b j = lastT s j (v0 j)
  zero : ∀ j, t ≤ j → j < 8 → lst b j = 0
theorem known_loop {s b : GSnap} {R : Type} {kn : Vector Int 8} {to : Int} {v0 : Int → Int} (hN : 1100000 ≤ N) (hf : Facts N s) (hk : MayVec kn) (hv : v0 = fun j => vget kn j.toNat default) {res : Option R} (h0 : U s to v0 kn 0 b) {body : Slaw16_ExchangeArrivesx8 → (Slaw16_ExchangeArrivesx8 → Option R) → Option R}
    (hb : ∀ (q : Slaw16_ExchangeArrivesx8) next, 0 ≤ q.t37 → q.t37 < 8 → body q next =
      (bif (decide (0 < IntKind.i64.wrap (vget q.b3.Vector_ q.t37.toNat default - st0 s q.t37)) && decide (IntKind.i64.wrap (vget q.b3.Vector_ q.t37.toNat default - st0 s q.t37) ≤ ((ko s q.t37).length : Int))) then
        (bif ibB (IntKind.i64.wrap (IntKind.i64.wrap (vget q.b3.Vector_ q.t37.toNat default - st0 s q.t37) - 1)) ((ko s q.t37).length : Int) then
          next ⟨IntKind.i64.wrap (q.t37 + 1), ⟨q.b3.Site, q.b3.Applied, q.b3.Booted, ⟨q.b3.Epoch.Number, vset q.b3.Epoch.States q.t37.toNat 1, q.b3.Epoch.Seals, q.b3.Epoch.Sponsor⟩, q.b3.Clock, q.b3.Vector_, vset q.b3.Last q.t37.toNat (lget (ko s q.t37) (IntKind.i64.wrap (IntKind.i64.wrap (vget q.b3.Vector_ q.t37.toNat default - st0 s q.t37) - 1)) default).Stamp.Time, q.b3.Base, q.b3.Log, q.b3.Frontier, q.b3.Starts, q.b3.Kept, q.b3.Known, q.b3.Told, q.b3.Clocks, q.b3.Sure, q.b3.Rows, q.b3.Parts⟩⟩
        else none)
      else next ⟨IntKind.i64.wrap (q.t37 + 1), ⟨q.b3.Site, q.b3.Applied, q.b3.Booted, ⟨q.b3.Epoch.Number, vset q.b3.Epoch.States q.t37.toNat 1, q.b3.Epoch.Seals, q.b3.Epoch.Sponsor⟩, q.b3.Clock, q.b3.Vector_, q.b3.Last, q.b3.Base, q.b3.Log, q.b3.Frontier, q.b3.Starts, q.b3.Kept, q.b3.Known, q.b3.Told, q.b3.Clocks, q.b3.Sure, q.b3.Rows, q.b3.Parts⟩⟩))
    (he : ∀ (q : Slaw16_ExchangeArrivesx8) next, q.t37 = 8 → T s to v0 q.b3 → body q next = res) : iter N body ⟨0, b⟩ = res := by
  refine iter_run (fun q : Slaw16_ExchangeArrivesx8 => 0 ≤ q.t37 ∧ q.t37 ≤ 8 ∧ U s to v0 kn q.t37 q.b3) (fun q => 8 - q.t37.toNat) ?_ N _ ⟨by simp, by simp, h0⟩ (by simp; omega)
  rintro ⟨t, b⟩ next ⟨p1, p2, hU⟩ hn
  simp only at p1 p2 hU
  by_cases ht : t < 8
  · rw [hb ⟨t, b⟩ next p1 ht]
    simp only
    have hkn := vec_get hk (o := t.toNat) (by omega)
    have hst := vec_get hf.starts (o := t.toNat) (by omega)
    have est : vget s.Starts t.toNat default = st0 s t := rfl
    have hvt : v0 t = vget kn t.toNat default := by rw [hv]
    have hkl := (hf.kept t.toNat (by omega)).2.2.2
    have ekl : vget s.Kept t.toNat default = ko s t := rfl
    rw [ekl] at hkl
    rw [est] at hst
    have hbv : vget b.Vector_ t.toNat default = v0 t := by rw [hU.vec, hvt]
    rw [← hvt] at hkn
    rw [hbv, wrap64 (n := v0 t - st0 s t) (by omega) (by omega)]
    have hw : IntKind.i64.wrap (t + 1) = t + 1 := wrap64 (by omega) (by omega)
    rw [hw]
    have hstN : ∀ (b' : GSnap), b'.Epoch.States = vset b.Epoch.States t.toNat 1 → ∀ j, 0 ≤ j → j < t + 1 → stt b' j = 1 := fun b' e j h1 h2 => by
      unfold stt
      rw [e, vget_set _ _ _ (by omega)]
      by_cases hj : j = t
      · subst hj; rw [if_pos rfl]
      · rw [if_neg (by omega)]; exact hU.st j h1 (by omega)
    cases hc : (decide (0 < v0 t - st0 s t) && decide (v0 t - st0 s t ≤ ((ko s t).length : Int))) with
    | true =>
      simp only [Bool.and_eq_true, decide_eq_true_eq] at hc
      rw [wrap64 (n := v0 t - st0 s t - 1) (by omega) (by omega), ibB_of (by omega) (by omega)]
      simp only [cond_true]
      refine hn _ ⟨by simp only; omega, by simp only; omega, hU.site, hU.fr, hU.vec, hstN _ rfl, fun j h1 h2 h3 h4 => ?_, fun j h1 h2 => ?_⟩ (by simp only; omega)
      · simp only at h2
        unfold lst
        simp only
        rw [vget_set _ _ _ (by omega)]
        by_cases hj : j = t
        · subst hj
          rw [if_pos rfl]
          unfold lastT lget
          rw [if_neg (by omega)]
        · rw [if_neg (by omega)]; exact hU.last j h1 (by omega) h3 h4
      · simp only at h1
        unfold lst
        simp only
        rw [vget_set _ _ _ (by omega), if_neg (by omega)]
        exact hU.zero j (by omega) h2
    | false =>
      simp only [cond_false]
      refine hn _ ⟨by simp only; omega, by simp only; omega, hU.site, hU.fr, hU.vec, hstN _ rfl, fun j h1 h2 h3 h4 => ?_, fun j h1 h2 => ?_⟩ (by simp only; omega)
      · simp only at h2
        by_cases hj : j = t
        · subst hj
          have : lst b j = 0 := hU.zero j (Int.le_refl _) ht
          show lst b j = _
          rw [this]
          unfold lastT
          simp only [Bool.and_eq_false_iff, decide_eq_false_iff_not] at hc
          rw [if_pos (by rcases hc with hc | hc <;> omega)]
        · exact hU.last j h1 (by omega) h3 h4
      · simp only at h1
        exact hU.zero j (by omega) h2
  · have : t = 8 := by omega
    subst this
    refine he _ _ rfl ⟨hU.site, hU.fr, hU.st, fun j h1 h2 _ => ?_, fun j h1 h2 _ => hU.last j h1 h2⟩
    unfold Go.Proofs.Ytekpjhhbmjcbmaa.vec
    rw [hU.vec, hv]
theorem arrives_law {s : GSnap} {site most : Int} (hN : 1100000 ≤ N) (hs : SmallS s) (h1 : 0 ≤ site ∧ site ≤ 255) (hm : -9223372036854775808 ≤ most ∧ most ≤ 9223372036854775807) : Flaw16_ExchangeArrives N s site most = some true := by
  unfold Flaw16_ExchangeArrives
  rw [begun_eq (by omega), Option.bind_some]
  simp only [Bool.not_true, cond_false]
  obtain ⟨c, hc, hfact⟩ := check_tot hN hs
  rw [hc, Option.bind_some]
  have hto : ∃ to : Int, 0 ≤ to ∧ to < 8 ∧ IntKind.i64.wrap (Int.tmod site 8) = to := by
    refine ⟨site % 8, by omega, by omega, ?_⟩
    rw [Int.tmod_eq_emod_of_nonneg h1.1]
    exact wrap64 (by omega) (by omega)
  obtain ⟨to, t1, t2, hto⟩ := hto
  rw [hto]
  cases hq : (!(c == 0) || to == s.Site) with
  | true => rfl
  | false =>
  simp only [Bool.or_eq_false_iff, Bool.not_eq_false', beq_iff_eq, beq_eq_false_iff_ne] at hq
  have hf := hfact hq.1
  have hib : ibB to 8 = true := ibB_of t1 t2
  rw [hib]
  simp only [cond_true, cond_false]
  have hk : MayVec (vget s.Known to.toNat default) := hf.known _ (vget_mem s.Known default (by omega))
  have z8 : ∀ j : Int, j < 8 → 0 ≤ j → vget (Vector.replicate 8 (default : Int)) j.toNat default = 0 := fun j h h' => vget_replicate _ _ (by omega)
  refine known_loop (to := to) (v0 := fun j => vget (vget s.Known to.toNat default) j.toNat default) (kn := vget s.Known to.toNat default) hN hf hk rfl ?_ ?_ ?_
  case refine_1 => exact ⟨rfl, rfl, rfl, fun j h h' => by omega, fun j h h' => by omega, fun j h h' => z8 j h' h⟩
  case refine_2 =>
    intro q next p1 p2
    rw [decide_eq_true p2, ibB_of p1 p2]
    simp only [cond_true, Bool.or_true]
    rfl
  rintro ⟨t37, b⟩ next0 p0 hT
  simp only at p0 hT
  rw [decide_eq_false (show ¬ t37 < 8 by omega)]
  simp only [cond_false]
  unfold Fexchange_Push Fexchange_site
  have had : (adB (⟨s.Site, 0⟩ : GAddr) && adB (⟨to, 0⟩ : GAddr)) = true := by
    have := hf.site
    simp only [adB, Bool.and_eq_true, decide_eq_true_eq]
    omega
  rw [addrs_eq (by omega), had, Option.bind_some]
  simp only [cond_true, Option.bind_some, site_t (o := to) ⟨t1, t2⟩, Bool.and_self]
  obtain ⟨l, k1, k2, k3, k4, k5⟩ := pushes_eq (s := s) (from_ := ⟨s.Site, 0⟩) (to := ⟨to, 0⟩) (most := most) hN hf hm ⟨t1, t2⟩ rfl
  rw [k1, Option.bind_some, Option.bind_some]
  obtain ⟨r, r1, b', r2, rfl⟩ := yields_arr (y := s) (z02 := s) (z03 := vget s.Known to.toNat default) (z04 := ⟨to, 0, false, ⟨0, Vector.replicate 8 default, Vector.replicate 8 default, Vector.replicate 8 default⟩, 0, vget s.Known to.toNat default, Vector.replicate 8 default, [], [], 0, Vector.replicate 8 default, Vector.replicate 8 default, Vector.replicate 8 default, Vector.replicate 8 default, Vector.replicate 8 default, Vector.replicate 8 default, [], []⟩) (z05 := s) (z06 := ⟨s.Site, 0⟩) (z07 := ⟨to, 0⟩) (b2 := false) hN hf k2 hT k4
  rw [r1, Option.bind_some]
  simp only [cond_false]
  have hmx : decide ((bif decide (most < 0) then 0 else most) < (tot l : Int)) = false := by
    have e : (bif decide (most < 0) then 0 else most) = if most < 0 then 0 else most := by by_cases h : most < 0 <;> simp [h]
    rw [e]
    refine decide_eq_false ?_
    split <;> omega
  rw [hmx]
  simp only [cond_false]
  have hk8 := ksum_small hf (o := 8) (Nat.le_refl _)
  refine iter_run (fun q : Slaw16_ExchangeArrivesx31 => 0 ≤ q.t155 ∧ q.t155 ≤ 8 ∧ q.all = (ksum s q.t155.toNat : Int)) (fun q => 8 - q.t155.toNat) ?_ N _ ⟨by simp, by simp, rfl⟩ (by simp; omega)
  rintro ⟨all, t⟩ next ⟨p1, p2, p3⟩ hn
  simp only at p1 p2 p3
  by_cases ht : t < 8
  · rw [decide_eq_true ht, ibB_of p1 ht]
    simp only [cond_true]
    have hks := ksum_succ s t.toNat
    have hkk := ksum_small hf (o := t.toNat + 1) (by omega)
    rw [wrap64 (n := t + 1) (by omega) (by omega), wrap64 (n := all + _) (by omega) (by omega)]
    refine hn _ ⟨by simp only; omega, by simp only; omega, ?_⟩ (by simp only; omega)
    simp only
    rw [show (t + 1).toNat = t.toNat + 1 by omega, hks, p3]; omega
  · have : t = 8 := by omega
    subst this
    simp only
    rw [decide_eq_false (by decide)]
    simp only [cond_false]
    by_cases hma : most < all
    · rw [decide_eq_true hma]; rfl
    rw [decide_eq_false hma]
    simp only [cond_false]
    have k5 := k5.resolve_left (by rw [p3] at hma; exact hma)
    refine iter_run (fun q : Slaw16_ExchangeArrivesx38 => 0 ≤ q.t169 ∧ q.t169 ≤ 8) (fun q => 8 - q.t169.toNat) ?_ N _ ⟨by simp, by simp⟩ (by simp; omega)
    rintro ⟨t, _⟩ nx ⟨p1, p2⟩ hnx
    simp only at p1 p2
    by_cases ht : t < 8
    · rw [decide_eq_true ht, ibB_of p1 ht, hib]
      simp only [cond_true, Bool.or_true]
      have e : ((!(t == to)) && decide (vget s.Starts t.toNat default ≤ vget (vget s.Known to.toNat default) t.toNat default) && decide (vget b'.Vector_ t.toNat default < vget s.Vector_ t.toNat default)) = false := by
        by_cases h2 : t = to
        · simp [h2]
        · have hv := r2.vec t p1 ht h2
          unfold Go.Proofs.Ytekpjhhbmjcbmaa.vec at hv
          by_cases h3 : vget s.Starts t.toNat default ≤ vget (vget s.Known to.toNat default) t.toNat default
          · have := k5 t p1 ht h3
            unfold Go.Proofs.Ytekpjhhbmjcbmaa.vec at this
            rw [decide_eq_false (show ¬ vget b'.Vector_ t.toNat default < vget s.Vector_ t.toNat default by omega), Bool.and_false]
          · rw [decide_eq_false h3]; simp
      rw [e]
      simp only [cond_false]
      exact hnx _ ⟨by simp only; rw [wrap64 (by omega) (by omega)]; omega, by simp only; rw [wrap64 (by omega) (by omega)]; omega⟩ (by simp only; rw [wrap64 (by omega) (by omega)]; omega)
    · rw [decide_eq_false ht]; rfl
end
theorem le_sum_mem {α : Type} (f : α → Nat) {x : α} : ∀ {l : List α}, x ∈ l → f x ≤ (l.map f).sum
  | y :: l, h => by
    rcases List.mem_cons.1 h with rfl | h
    · simp
    · have := le_sum_mem f h; simp; omega
theorem smallS_of {s : GSnap} (h : bulk34 s ≤ 1048576) : SmallS s := by
  unfold bulk34 at h
  refine ⟨?_, fun x hx => ?_, ?_, fun o ho => ?_, ?_, ?_⟩
  · have := len_le_sum' (f := bulk98) (fun x => by unfold bulk98; omega) s.Base
    unfold bulk27 at h; omega
  · have h1 := le_sum_mem bulk98 hx
    have h2 := len_le_sum' (f := bulk169) (fun x => by unfold bulk169; omega) x.Attrs
    unfold bulk98 bulk96 at h1
    unfold bulk27 bulk98 bulk96 at h; omega
  · have := len_le_sum' (f := bulk43) (fun x => by unfold bulk43; omega) s.Log
    unfold bulk28 at h; omega
  · have h1 := le_sum_mem bulk28 (vget_mem s.Kept default ho)
    have h2 := len_le_sum' (f := bulk43) (fun x => by unfold bulk43; omega) (vget s.Kept o default)
    unfold bulk28 at h1
    unfold bulk29 bulk28 at h; omega
  · have := len_le_sum' (f := bulk159) (fun x => by unfold bulk159; omega) s.Rows
    unfold bulk31 at h; omega
  · have := len_le_sum' (f := bulk51) (fun x => by unfold bulk51; omega) s.Parts
    unfold bulk32 at h; omega
end Go.Proofs.Ytekpjhhbmjcbmaa
