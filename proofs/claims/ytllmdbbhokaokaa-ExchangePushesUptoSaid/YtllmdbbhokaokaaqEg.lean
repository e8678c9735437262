/-
The law ExchangePushes: the loops.
-/
import Derived.Test.YtllmdbbhokaokaaqEf
set_option linter.unusedVariables false
set_option linter.unusedSimpArgs false
set_option maxRecDepth 100000
namespace Go.Proofs.Ytllmdbbhokaokaa
open Go Go.Ev
section
variable {N : Nat} {s : GSnap} {fr to_ : GAddr} {ms : List (Option (List GOp))} {g : List GMsgH} {l : Nat} {R : List GMsg}
abbrev Res := Bool × GSnap × GAddr × GAddr × GSnap × GAddr × GAddr × GSnap × GAddr × GAddr × (List GMsg) × Int × Bool × Nat × Int × Int × (List GMsgH) × (List (Option (List GOp))) × Nat × (List GMsg) × Int × Bool × Nat × Int × Int × (List GMsgH) × (List (Option (List GOp)))
def Ends (R : List GMsg) (ms : List (Option (List GOp))) (g : List GMsgH) (l : Nat) (t stop : Int) (r : Res) : Prop :=
  (∃ (y1 : GSnap) (y2 y3 : GAddr) (y4 : GSnap) (y5 y6 : GAddr) (y7 : GSnap) (y8 y9 : GAddr) (b : Bool) (z1 : Nat) (z2 : List GMsg) (z3 : Int) (z4 : Bool) (z5 : Nat) (z6 z7 : Int) (z8 : List GMsgH) (z9 : List (Option (List GOp))),
    r = (false, y1, y2, y3, y4, y5, y6, y7, y8, y9, R, stop, b, l, t, (R.length : Int), g, ms, z1, z2, z3, z4, z5, z6, z7, z8, z9)) ∨
  (t = 0 ∧ ∃ (y1 : GSnap) (y2 y3 : GAddr) (y4 : GSnap) (y5 y6 : GAddr) (y7 : GSnap) (y8 y9 : GAddr) (z2 : List GMsg) (z3 : Int) (z4 : Bool) (z5 : Nat) (z6 z7 : Int) (z8 : List GMsgH) (z9 : List (Option (List GOp))) (b : Bool),
    r = (true, y1, y2, y3, y4, y5, y6, y7, y8, y9, z2, z3, z4, z5, z6, z7, z8, z9, 3, R, stop, b, l, t, stop, g, ms))
theorem all_eq (hN : 8400000 ≤ N) (h : St s fr to_ ms g l R) (hsm : small R) (hR : R.length ≤ 8388608) (t stop : Int) (b2 : Bool) (y1 : GSnap) (y2 y3 : GAddr) (y4 : GSnap) (y5 y6 : GAddr) (y7 : GSnap) (y8 y9 : GAddr) :
    ∃ r, Fexchange_Push_1_e0f N y1 y2 y3 y4 y5 y6 y7 y8 y9 R stop b2 l t 0 g ms = some r ∧ Ends R ms g l t stop r := by
  unfold Fexchange_Push_1_e0f
  refine iter_post (fun q : Sexchange_Push_1_e0fx1 => 0 ≤ q.t7 ∧ q.t7 ≤ (R.length : Int) ∧ q.b6 = q.t7 ∧ q.b2 = stop ∧ q.b4 = l ∧ q.b5 = t ∧ q.g7 = g ∧ q.ms = ms) (fun q => R.length - q.t7.toNat) _ ?_ N _ ⟨Int.le_refl _, by simp, rfl, rfl, rfl, rfl, rfl, rfl⟩ (by simp; omega)
  rintro ⟨n, u1, u2, u3, u4, u5, u6, u7, u8, u9, c2, c3, c4, c5, c6, c7, c8⟩ nx ⟨p1, p2, p3, p4, p5, p6, p7, p8⟩ hn
  simp only at p1 p2 p3 p4 p5 p6 p7 p8
  subst p3 p4 p5 p6 p7 p8
  by_cases hlt : c6 < (R.length : Int)
  · have hi : c6.toNat < R.length := by omega
    have hc6 : c6 = ((c6.toNat : Nat) : Int) := by omega
    rw [decide_eq_true hlt, ibB_of p1 hlt]
    simp only [cond_true]
    obtain ⟨f1, f2, f3⟩ := h.get hi
    have hg : lget R c6 default = R.getD c6.toNat default := rfl
    have hm : R.getD c6.toNat default = mk s fr to_ (c7.getD c6.toNat default).Origin (c7.getD c6.toNat default).Slot (pcon c8 (c7.getD c6.toNat default).Ops.j) := by rw [f2, vm_mk f1]
    have hlen : (pcon c8 (c7.getD c6.toNat default).Ops.j).length ≤ 1048576 := by
      have := hsm (R.getD c6.toNat default) (by rw [gd_get _ hi]; exact List.getElem_mem _)
      rw [hm] at this
      have : (pcon c8 (c7.getD c6.toNat default).Ops.j).length ≤ 16 := this
      omega
    change ∃ r, (Frecord_CloneMsgz N (lget R c6 default)).bind _ = some r ∧ _
    rw [hg, hm, clone_eq (by omega) hlen, ← hm, Option.bind_some, hc6]
    rw [show (((c6.toNat : Nat) : Int)).toNat = c6.toNat from Int.toNat_natCast _, round_eq (by omega) h hsm hR hi, Option.bind_some]
    rw [wrap64 (by omega) (by omega)]
    cases hb : (c5 == 0) && (((c6.toNat : Nat) : Int) + 1 == c2) with
    | true =>
      simp only [Bool.and_eq_true, beq_iff_eq] at hb
      obtain ⟨rfl, hb⟩ := hb
      simp only [cond_true]
      rw [hb]
      exact ⟨_, rfl, .inr ⟨rfl, default, default, default, default, default, default, default, default, default, default, default, default, default, default, default, default, default, c3, rfl⟩⟩
    | false =>
      simp only [cond_false]
      exact hn _ ⟨by simp only; omega, by simp only; omega, rfl, rfl, rfl, rfl, rfl, rfl⟩ (by simp only; omega)
  · rw [decide_eq_false hlt]
    have hc : c6 = (R.length : Int) := by omega
    subst hc
    exact ⟨_, rfl, .inl ⟨u1, u2, u3, u4, u5, u6, u7, u8, u9, c3, default, default, default, default, default, default, default, default, default, rfl⟩⟩
theorem law_F (hN : 8400000 ≤ N) (hk : ∀ o : Int, 0 ≤ o → o < 8 → (ko s o).length ≤ 1048576) {most stop : Int} (hm : -9223372036854775808 ≤ most ∧ most ≤ 9223372036854775807) :
    ∃ ms', Flaw16_ExchangePushes_f73 N s fr to_ most stop [] = some (true, ms') := by
  suffices key : ∃ r, Flaw16_ExchangePushes_f73 N s fr to_ most stop [] = some r ∧ r.1 = true by
    obtain ⟨⟨b, ms'⟩, e, h⟩ := key
    simp only at h
    subst h
    exact ⟨ms', e⟩
  unfold Flaw16_ExchangePushes_f73
  obtain ⟨⟨l, ms, g⟩, hr, hS⟩ := refPush_eq (s := s) (fr := fr) (to_ := to_) (N := N) (by omega) hk hm
  obtain ⟨hsm, hR⟩ := pushI_small (fr := fr) (to_ := to_) hk most
  rw [begun_eq (by omega), Option.bind_some]
  simp only [Bool.not_true, cond_false]
  rw [hr, Option.bind_some, push_eq (by omega) hk hm, Option.bind_some]
  simp only at hS ⊢
  generalize pushI s fr to_ most = R at *
  refine iter_post (fun q : Slaw16_ExchangePushes_f73x6 => 0 ≤ q.t28 ∧ q.t28 ≤ 2 ∧ q.ms = ms ∧ q.b4 = stop ∧ q.g6 = g ∧ q.b7 = l ∧ q.b8 = R) (fun q => 2 - q.t28.toNat) _ ?_ N _ ⟨Int.le_refl _, by simp, rfl, rfl, rfl, rfl, rfl⟩ (by simp; omega)
  rintro ⟨t, c1, c2, c3, c4, c5, c6⟩ nx ⟨p1, p2, p3, p4, p5, p6, p7⟩ hn
  simp only at p1 p2 p3 p4 p5 p6 p7
  subst p3 p4 p5 p6 p7
  by_cases hlt : t < 2
  · rw [decide_eq_true hlt]
    obtain ⟨r, e, hE⟩ := all_eq hN hS hsm hR t c2 c3 s fr to_ s fr to_ s fr to_
    have hl : c5 = c6.length := by rw [hS.len, ← hS.eq]; simp
    simp only [cond_true]
    rw [e, Option.bind_some, wrap64 (by omega) (by omega)]
    rcases hE with ⟨y1, y2, y3, y4, y5, y6, y7, y8, y9, b, z1, z2, z3, z4, z5, z6, z7, z8, z9, rfl⟩ | ⟨rfl, y1, y2, y3, y4, y5, y6, y7, y8, y9, z2, z3, z4, z5, z6, z7, z8, z9, b, rfl⟩
    · simp only [cond_false]
      have : (((c6.length : Nat) : Int) == ((c5 : Nat) : Int)) = true := by rw [hl]; simp
      simp only [this, Bool.not_true, Bool.false_and, cond_false]
      exact hn _ ⟨by simp only; omega, by simp only; omega, rfl, rfl, rfl, rfl, rfl⟩ (by simp only; omega)
    · simp only [cond_true, show Nat.beq 3 0 = false from rfl, show Nat.beq 3 3 = true from rfl, cond_false, beq_self_eq_true, Bool.not_true, Bool.or_self, Bool.and_false, show ((0 : Int) == 1) = false from rfl]
      exact hn _ ⟨by simp only; omega, by simp only; omega, rfl, rfl, rfl, rfl, rfl⟩ (by simp only; omega)
  · rw [decide_eq_false hlt]
    exact ⟨_, rfl, rfl⟩
theorem le_sum_mem {α : Type} (f : α → Nat) {x : α} : ∀ {l : List α}, x ∈ l → f x ≤ (l.map f).sum
  | y :: l, h => by
    rcases List.mem_cons.1 h with rfl | h
    · simp
    · have := le_sum_mem f h; simp; omega
theorem kept_small (h : bulk34 s ≤ 1048576) (o : Int) (h0 : 0 ≤ o) (h8 : o < 8) : (ko s o).length ≤ 1048576 := by
  have h1 := le_sum_mem bulk28 (vget_mem s.Kept default (show o.toNat < 8 by omega))
  have h2 := len_le_sum' (f := bulk49) (fun x => by unfold bulk49; omega) (ko s o)
  unfold bulk34 bulk29 bulk28 at h
  unfold bulk28 at h1
  unfold ko at *
  omega
end
end Go.Proofs.Ytllmdbbhokaokaa
