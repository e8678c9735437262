/-
ExchangeArrives: what a site that is known rightly takes of what is pushed to it.
-/
import Derived.Test.YtekpjhhbmjcbmaaqQg
set_option linter.unusedVariables false
set_option linter.unusedSimpArgs false
set_option maxRecDepth 100000
namespace Go.Proofs.Ytekpjhhbmjcbmaa
open Go Go.Ev
section
variable {N : Nat}
def lastT (s : GSnap) (j k : Int) : Int := if k = st0 s j then 0 else ((ko s j).getD (k - st0 s j - 1).toNat default).Stamp.Time
structure T (s : GSnap) (to : Int) (v : Int → Int) (b : GSnap) : Prop where
  site : b.Site = to
  fr : b.Frontier = 0
  st : ∀ j, 0 ≤ j → j < 8 → stt b j = 1
  vec : ∀ j, 0 ≤ j → j < 8 → j ≠ to → vec b j = v j
  last : ∀ j, 0 ≤ j → j < 8 → j ≠ to → st0 s j ≤ v j → v j - st0 s j ≤ ((ko s j).length : Int) → lst b j = lastT s j (v j)
theorem tk_of_good {b : GSnap} {o : Int} : ∀ (l : List GOp) (n last : Int), good N b o n last l → tk N b o n last l = l
  | [], _, _, _ => rfl
  | x :: r, n, last, h => by rw [tk, if_neg h.1, tk_of_good r _ _ h.2]
theorem good_part {b : GSnap} {o : Int} {l : List GOp} (hb : b.Frontier = 0) (hs : stt b o = 1) (hk : KeptOk N l o) : ∀ (n p : Nat) (num last : Int), p + n ≤ l.length → num + n ≤ MT → (p < l.length → last < (l.getD p default).Stamp.Time) → good N b o num last ((l.drop p).take n)
  | 0, p, num, last, _, _, _ => by simp [good]
  | n + 1, p, num, last, h1, h2, h3 => by
    have hp : p < l.length := by omega
    rw [drop_cons default hp, List.take_succ_cons]
    have h4 := hk.2.2.1 p hp
    refine ⟨?_, good_part hb hs hk n (p + 1) (num + 1) _ (by omega) (by omega) fun hq => ?_⟩
    · unfold stop
      have h5 := hk.1 p hp
      have h6 := h3 hp
      rintro (h | ⟨h, _⟩ | h | h | h | h)
      · omega
      · rw [hs] at h; cases h
      · exact h h4.1
      · exact h h5
      · omega
      · rw [hb] at h; omega
    · have := hk.2.1 (p + 1) (by omega) hq
      simpa using this
theorem Gd.bound {s : GSnap} {v : Int → Int} {m : GMsg} (hf : Facts N s) (h : Gd s v m) : 0 ≤ st0 s m.Origin ∧ v m.Origin + (m.Ops.length : Int) ≤ 1099511627776 ∧ KeptOk N (ko s m.Origin) m.Origin := by
  have ho := h.o
  have hst := vec_get hf.starts (o := m.Origin.toNat) (by omega)
  have hve := vec_get hf.vec (o := m.Origin.toNat) (by omega)
  have hsum := hf.sum m.Origin.toNat (by omega)
  have hk := hf.kept m.Origin.toNat (by omega)
  rw [show ((m.Origin.toNat : Nat) : Int) = m.Origin by omega] at hk
  have hfi := h.fits
  unfold ko st0 at *
  exact ⟨hst.1, by omega, hk⟩
theorem takes_all {s b : GSnap} {v : Int → Int} {m : GMsg} {to : Int} (hN : 1100000 ≤ N) (hf : Facts N s) (h : Gd s v m) (ht : T s to v b) (hto : m.Origin ≠ to) : Fexchange_Take N b m.Origin m.Slot m.Ops = some m.Ops := by
  have hn := h.n
  have ho := h.o
  obtain ⟨h1, h2, hk⟩ := h.bound hf
  have hfr := h.from_
  have hfi := h.fits
  have hvec := ht.vec _ ho.1 ho.2 hto
  have hstt := ht.st _ ho.1 ho.2
  rw [take_eq (by omega) (by omega)]
  unfold take
  have hbad : ¬ bad b m.Origin m.Slot := by
    unfold bad MT
    rw [hvec, hstt, h.slot, ht.site]
    rintro (q | q | q | q | q | q)
    · exact q ho
    · exact hto q
    · cases q
    · omega
    · omega
    · omega
  rw [if_neg hbad, hvec, h.slot, if_neg (by omega), Int.sub_self]
  rw [show (0 : Int).toNat = 0 from rfl, List.drop_zero, tk_of_good]
  have hops := h.ops
  rw [hops]
  refine good_part ht.fr hstt hk _ _ _ _ (by omega) (by unfold MT; omega) fun hp => ?_
  rw [ht.last _ ho.1 ho.2 hto hfr (by omega)]
  unfold lastT
  have h4 := hk.2.2.1 _ hp
  split
  · exact h4.2
  · have := hk.2.1 (v m.Origin - st0 s m.Origin).toNat (by omega) hp
    rwa [show (v m.Origin - st0 s m.Origin - 1).toNat = (v m.Origin - st0 s m.Origin).toNat - 1 by omega]
theorem round_arr {s b x2 x4 x5 : GSnap} {x3 : Vector Int 8} {x6 x7 : GStamp} {b1 : Bool} {v : Int → Int} {m : GMsg} {to b4 : Int} (hN : 1100000 ≤ N) (hf : Facts N s) (h : Gd s v m) (ht : T s to v b) (hb4 : 0 ≤ b4 ∧ b4 ≤ 1000000) {y : GSnap} :
    ∃ b', T s to (adv v m) b' ∧ Flaw16_ExchangeArrives_aad N m y x2 x3 x4 x5 x6 x7 b1 to b b4 = some (false, y, x2, x3, x4, x5, x6, x7, b1, to, b', b4 + (m.Ops.length : Int), default, default, default, default, default) := by
  have hn := h.n
  have ho := h.o
  unfold Flaw16_ExchangeArrives_aad
  have e0 : ((((((m.Ops).length : Int) == 0) || (decide (16 < ((m.Ops).length : Int)))) || (decide (m.Origin < 0))) || (decide (8 ≤ m.Origin))) = false := by
    rw [beq_eq_false_iff_ne.2 (by omega), decide_eq_false (by omega), decide_eq_false (by omega), decide_eq_false (by omega)]; rfl
  rw [e0]
  simp only [cond_false]
  have hw : IntKind.i64.wrap (b4 + (m.Ops.length : Int)) = b4 + (m.Ops.length : Int) := wrap64 (by omega) (by omega)
  rw [hw]
  by_cases hto : m.Origin = to
  · rw [show (m.Origin == to) = true by simpa using hto]
    refine ⟨b, ⟨ht.site, ht.fr, ht.st, fun j h1 h2 h3 => ?_, fun j h1 h2 h3 h4 h5 => ?_⟩, rfl⟩
    · rw [ht.vec j h1 h2 h3]; unfold adv; rw [if_neg (by omega)]
    · have e : adv v m j = v j := by unfold adv; rw [if_neg (by omega)]
      rw [e] at h4 h5 ⊢
      exact ht.last j h1 h2 h3 h4 h5
  · rw [show (m.Origin == to) = false by simpa using hto]
    simp only [cond_false]
    obtain ⟨g1, g2, hk⟩ := h.bound hf
    have hfr := h.from_
    have hfi := h.fits
    rw [takes_all hN hf h ht hto, Option.bind_some, ops_self (by omega) (by omega), Option.bind_some]
    have hib : ibB m.Origin 8 = true := ibB_of ho.1 ho.2
    have hv : vget b.Vector_ m.Origin.toNat default = v m.Origin := ht.vec _ ho.1 ho.2 hto
    rw [wrap64 (n := (m.Ops.length : Int) - 1) (by omega) (by omega), ibB_of (i := (m.Ops.length : Int) - 1) (by omega) (by omega), hib, hv, wrap64 (n := v m.Origin + _) (by omega) (by omega)]
    simp only [Bool.not_true, cond_false, cond_true]
    refine ⟨_, ⟨?_, ?_, fun j h1 h2 => ?_, fun j h1 h2 h3 => ?_, fun j h1 h2 h3 h4 h5 => ?_⟩, rfl⟩
    · exact ht.site
    · exact ht.fr
    · exact ht.st j h1 h2
    · show vget (vset b.Vector_ m.Origin.toNat _) j.toNat default = _
      rw [vget_set _ _ _ (by omega)]
      unfold adv
      by_cases hj : j = m.Origin
      · subst hj; rw [if_pos rfl, if_pos rfl]
      · rw [if_neg (by omega), if_neg hj]; exact ht.vec j h1 h2 h3
    · show vget (vset b.Last m.Origin.toNat _) j.toNat default = _
      rw [vget_set _ _ _ (by omega)]
      by_cases hj : j = m.Origin
      · subst hj
        rw [if_pos rfl]
        unfold adv lastT
        rw [if_pos rfl, if_neg (by omega)]
        congr 2
        have e1 : ∀ d, lget m.Ops ((m.Ops.length : Int) - 1) d = m.Ops.getD (m.Ops.length - 1) d := fun d => by
          unfold lget; rw [show ((m.Ops.length : Int) - 1).toNat = m.Ops.length - 1 by omega]
        rw [e1]
        have e2 : m.Ops.getD (m.Ops.length - 1) default = (((ko s m.Origin).drop (v m.Origin - st0 s m.Origin).toNat).take m.Ops.length).getD (m.Ops.length - 1) default := congrArg (fun l => List.getD l (m.Ops.length - 1) default) h.ops
        rw [e2]
        simp only [List.getD]
        rw [List.getElem?_take_of_lt (by omega), List.getElem?_drop]
        congr 2
        omega
      · have e : adv v m j = v j := by unfold adv; rw [if_neg hj]
        rw [e] at h4 h5 ⊢
        rw [if_neg (by omega)]; exact ht.last j h1 h2 h3 h4 h5
theorem yields_arr {s b y z02 z04 z05 : GSnap} {z03 : Vector Int 8} {z06 z07 : GStamp} {b2 : Bool} {to : Int} {v0 : Int → Int} {l : List GMsg} (hN : 1100000 ≤ N) (hf : Facts N s) (hg : Good s v0 l) (ht : T s to v0 b) (hl : tot l ≤ 524288) :
    ∃ r, Fexchange_Push_1_ce9 N y z02 z03 z04 z05 z06 z07 l b2 to b 0 = some r ∧ ∃ b', T s to (vend v0 l) b' ∧ r = (false, y, z02, z03, z04, z05, z06, z07, l, b2, to, b', (tot l : Int), default, default, default, default, default, default) := by
  have hll := hg.len
  unfold Fexchange_Push_1_ce9
  refine look_loop (fun q : Sexchange_Push_1_ce9x1 => q.t7) (fun q => ∃ v b' , q = ⟨q.t7, y, z02, z03, z04, z05, z06, z07, b2, to, b', q.b5⟩ ∧ Good s v (l.drop q.t7.toNat) ∧ T s to v b' ∧ vend v (l.drop q.t7.toNat) = vend v0 l ∧ 0 ≤ q.b5 ∧ q.b5 + (tot (l.drop q.t7.toNat) : Int) = (tot l : Int)) l.length _ (by omega) ?_ ?_ rfl ⟨v0, b, rfl, hg, ht, rfl, Int.le_refl _, by simp⟩
  · rintro q next p1 p2 ⟨v, b', e, hgd, hT, hv, h0, h5⟩ hn
    generalize q.t7 = t at *
    generalize q.b5 = b5 at *
    subst e
    have hd : l.drop t.toNat = lget l t default :: l.drop (t + 1).toNat := lget_drop default p1 p2
    rw [hd] at hgd hv h5
    obtain ⟨g1, g2⟩ := hgd
    have htc : tot (lget l t default :: l.drop (t + 1).toNat) = (lget l t default).Ops.length + tot (l.drop (t + 1).toNat) := by simp [tot]
    have hn16 := g1.n
    rw [decide_eq_true p2, ibB_of p1 p2]
    simp only [cond_true]
    change ∃ r, (Frecord_CloneMsgz N (lget l t default)).bind _ = some r ∧ _
    rw [cloneMsg_eq (by rw [g1.pm.1]; simp; omega) g1.pm.small, Option.bind_some]
    obtain ⟨b'', k1, k2⟩ := round_arr (x2 := z02) (x3 := z03) (x4 := z04) (x5 := z05) (x6 := z06) (x7 := z07) (b1 := b2) (b4 := b5) (y := y) hN hf g1 hT ⟨h0, by omega⟩
    rw [k2, Option.bind_some, wrap64 (n := t + 1) (by omega) (by omega)]
    simp only [cond_false]
    exact hn _ rfl ⟨_, b'', rfl, g2, k1, hv, by simp only; omega, by simp only; omega⟩
  · rintro q next p1 ⟨v, b', e, hgd, hT, hv, h0, h5⟩
    generalize q.t7 = t at *
    generalize q.b5 = b5 at *
    subst e
    rw [decide_eq_false (show ¬ t < (l.length : Int) by omega)]
    rw [show t.toNat = l.length by omega, List.drop_length] at hv h5
    refine ⟨_, rfl, b', ?_, ?_⟩
    · rw [← hv]; exact hT
    · simp only [cond_false, Prod.mk.injEq, true_and, and_true]
      simpa [tot] using h5
end
end Go.Proofs.Ytekpjhhbmjcbmaa
