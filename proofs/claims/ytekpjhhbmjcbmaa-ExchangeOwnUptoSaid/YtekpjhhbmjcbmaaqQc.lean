/-
The plain law of ExchangeOwn: states and their copies are the same; the law.
-/
import Derived.Test.YtekpjhhbmjcbmaaqQb
set_option linter.unusedVariables false
set_option linter.unusedSimpArgs false
set_option maxRecDepth 100000
namespace Go.Proofs.Ytekpjhhbmjcbmaa
open Go Go.Ev
section
variable {N : Nat}
theorem each_loop {S R : Type} {body : S → (S → Option R) → Option R} (ix : S → Int) (P : S → Prop) (n : Nat) (res : Option R) (hN : n < N) (hn : n ≤ 1048576)
    (hb : ∀ s next, P s → 0 ≤ ix s → ix s < n → ∃ s', body s next = next s' ∧ ix s' = ix s + 1 ∧ P s')
    (he : ∀ s next, P s → ix s = n → body s next = res) {s0 : S} (h0 : ix s0 = 0) (hp : P s0) : iter N body s0 = res := by
  refine iter_run (fun s => 0 ≤ ix s ∧ ix s ≤ n ∧ P s) (fun s => n - (ix s).toNat) ?_ N s0 ⟨by omega, by omega, hp⟩ (by omega)
  rintro s next ⟨p1, p2, p3⟩ hn
  by_cases hlt : ix s < n
  · obtain ⟨s', e, q1, q2⟩ := hb s next p3 p1 hlt
    rw [e]
    exact hn s' ⟨by omega, by omega, q2⟩ (by omega)
  · exact he s next p3 (by omega)
theorem sameOps14 {l : List GOp} (hN : l.length < N) (hl : l.length ≤ 1048576) : Fref14_sameOps N l l = some true := by
  unfold Fref14_sameOps
  simp only [beq_self_eq_true, Bool.not_true, cond_false]
  refine each_loop (fun s : Sref14_sameOpsx4 => s.i) (fun _ => True) l.length _ hN hl ?_ ?_ rfl trivial
  · intro s next _ p1 p2
    rw [decide_eq_true p2, ibB_of p1 p2]
    exact ⟨_, rfl, wrap64 (by omega) (by omega), trivial⟩
  · intro s next _ p1
    rw [decide_eq_false (show ¬ s.i < (l.length : Int) by omega)]; rfl
theorem sameRows14 {l : List GRow} (hN : l.length < N) (hl : l.length ≤ 1048576) : Fref14_sameRows N l l = some true := by
  unfold Fref14_sameRows
  simp only [beq_self_eq_true, Bool.and_self, Bool.not_true, cond_false]
  refine each_loop (fun s : Sref14_sameRowsx4 => s.i) (fun _ => True) l.length _ hN hl ?_ ?_ rfl trivial
  · intro s next _ p1 p2
    rw [decide_eq_true p2, ibB_of p1 p2]
    exact ⟨_, rfl, wrap64 (by omega) (by omega), trivial⟩
  · intro s next _ p1
    rw [decide_eq_false (show ¬ s.i < (l.length : Int) by omega)]; rfl
theorem sameParts14 {l : List GPart} (hN : l.length < N) (hl : l.length ≤ 1048576) : Fref14_sameParts N l l = some true := by
  unfold Fref14_sameParts Fref04_SamePart
  simp only [beq_self_eq_true, Bool.and_self, Bool.not_true, cond_false, Option.bind_some]
  refine each_loop (fun s : Sref14_samePartsx4 => s.i) (fun _ => True) l.length _ hN hl ?_ ?_ rfl trivial
  · intro s next _ p1 p2
    rw [decide_eq_true p2, ibB_of p1 p2]
    exact ⟨_, rfl, wrap64 (by omega) (by omega), trivial⟩
  · intro s next _ p1
    rw [decide_eq_false (show ¬ s.i < (l.length : Int) by omega)]; rfl
theorem sameNode12 {x : GTreeNode} (hN : x.Attrs.length < N) (hl : x.Attrs.length ≤ 1048576) : Fref12_SameNode N x x = some true := by
  unfold Fref12_SameNode
  simp only [beq_self_eq_true, Bool.and_self, Bool.not_true, Bool.or_self, cond_false]
  refine each_loop (fun s : Sref12_SameNodex4 => s.i) (fun _ => True) x.Attrs.length _ hN hl ?_ ?_ rfl trivial
  · intro s next _ p1 p2
    rw [decide_eq_true p2, ibB_of p1 p2]
    exact ⟨_, rfl, wrap64 (by omega) (by omega), trivial⟩
  · intro s next _ p1
    rw [decide_eq_false (show ¬ s.i < (x.Attrs.length : Int) by omega)]; rfl
theorem same12 {l : List GTreeNode} (hN : 1048600 ≤ N) (hl : l.length ≤ 1048576) (ha : ∀ x ∈ l, x.Attrs.length ≤ 1048576) : Fref12_Same N l l = some true := by
  unfold Fref12_Same
  simp only [beq_self_eq_true, Bool.not_true, cond_false]
  refine each_loop (fun s : Sref12_Samex4 => s.i) (fun _ => True) l.length _ (by omega) hl ?_ ?_ rfl trivial
  · intro s next _ p1 p2
    have := ha _ (lget_mem default p1 p2)
    rw [decide_eq_true p2, ibB_of p1 p2]
    simp only [cond_true]
    rw [sameNode12 (by omega) this, Option.bind_some]
    exact ⟨_, rfl, wrap64 (by omega) (by omega), trivial⟩
  · intro s next _ p1
    rw [decide_eq_false (show ¬ s.i < (l.length : Int) by omega)]; rfl
structure SmallS (s : GSnap) : Prop where
  base : s.Base.length ≤ 1048576
  attrs : ∀ x ∈ s.Base, x.Attrs.length ≤ 1048576
  log : s.Log.length ≤ 1048576
  kept : ∀ o : Nat, o < 8 → (vget s.Kept o default).length ≤ 1048576
  rows : s.Rows.length ≤ 1048576
  parts : s.Parts.length ≤ 1048576
  data : ∀ x ∈ s.Parts, x.Data.length ≤ 1048576
theorem beq24_iff (x y : Vector Int 8) : beq24 x y = true ↔ x = y := vbeq_iff beq2_iff x y
theorem clone14 {s : GSnap} (hN : 1048600 ≤ N) (h : SmallS s) : Fref14_Clone N s = some s := by
  unfold Fref14_Clone
  refine each_loop (fun q : Sref14_Clonex3 => q.i) (fun q => 0 ≤ q.i ∧ q.i ≤ (s.Base.length : Int) ∧ q.base = s.Base.take q.i.toNat) s.Base.length _ (by have := h.base; omega) h.base ?_ ?_ rfl ⟨by simp, by simp, rfl⟩
  · intro q next ⟨_, _, hq⟩ p1 p2
    have hb := h.base
    have := h.attrs _ (lget_mem default p1 p2)
    rw [decide_eq_true p2, ibB_of p1 p2, lenB_of (by omega), lenB_of (by rw [hq]; simp only [List.length_take, List.length_singleton]; omega)]
    refine ⟨_, rfl, wrap64 (by omega) (by omega), ?_⟩
    simp only [wrap64 (n := q.i + 1) (by omega) (by omega)]
    refine ⟨by omega, by omega, ?_⟩
    rw [hq, show (q.i + 1).toNat = q.i.toNat + 1 by omega, List.take_add_one]
    simp only [lget, List.getD]
    rw [List.getElem?_eq_getElem (by omega)]; rfl
  · rintro ⟨b, i⟩ next ⟨_, _, hq⟩ p1
    simp only at hq p1
    subst p1
    rw [hq, Int.toNat_natCast, List.take_length, decide_eq_false (show ¬ (s.Base.length : Int) < (s.Base.length : Int) by omega)]
    simp only [cond_false]
    rw [lenB_of (by have := h.log; omega)]
    simp only [cond_true]
    refine each_loop (fun q : Sref14_Clonex11 => q.i) (fun q => 0 ≤ q.i ∧ q = ⟨q.i, s.Site, s.Applied, s.Booted, s.Epoch, s.Clock, s.Vector_, s.Last, s.Base, s.Log, s.Frontier, s.Starts, s.Kept, s.Known, s.Told, s.Clocks, s.Sure, s.Rows, s.Parts⟩) 8 _ (by omega) (by omega) ?_ ?_ rfl ⟨by simp, rfl⟩
    · rintro q next ⟨_, hq⟩ p1 p2
      generalize q.i = i at *
      subst hq
      have hk := h.kept i.toNat (by omega)
      have p2' : i < 8 := p2
      simp only
      rw [decide_eq_true p2', ibB_of p1 p2', lenB_of (by omega), vset_self]
      exact ⟨_, rfl, wrap64 (by omega) (by omega), by simp only; rw [wrap64 (by omega) (by omega)]; omega, rfl⟩
    · rintro q next ⟨_, hq⟩ p1
      generalize q.i = i at *
      subst hq
      subst p1
      simp only
      rw [decide_eq_false (by decide)]
      simp only [cond_false]
      rw [lenB_of (by have := h.rows; omega)]
      simp only [cond_true]
      refine each_loop (fun q : Sref14_Clonex17 => q.i) (fun q => 0 ≤ q.i ∧ q.i ≤ (s.Parts.length : Int) ∧ q.parts = s.Parts.take q.i.toNat) s.Parts.length _ (by have := h.parts; omega) h.parts ?_ ?_ rfl ⟨by simp, by simp, rfl⟩
      · intro q next ⟨_, _, hq⟩ p1 p2
        have hb := h.parts
        have := h.data _ (lget_mem default p1 p2)
        rw [decide_eq_true p2, ibB_of p1 p2, lenB_of (by omega), lenB_of (by rw [hq]; simp only [List.length_take, List.length_singleton]; omega)]
        refine ⟨_, rfl, wrap64 (by omega) (by omega), ?_⟩
        simp only [wrap64 (n := q.i + 1) (by omega) (by omega)]
        refine ⟨by omega, by omega, ?_⟩
        rw [hq, show (q.i + 1).toNat = q.i.toNat + 1 by omega, List.take_add_one]
        simp only [lget, List.getD]
        rw [List.getElem?_eq_getElem (by omega)]; rfl
      · rintro ⟨b, i⟩ next ⟨_, _, hq⟩ p1
        simp only at hq p1
        subst p1
        rw [hq, Int.toNat_natCast, List.take_length, decide_eq_false (show ¬ (s.Parts.length : Int) < (s.Parts.length : Int) by omega)]
        rfl
theorem same14 {s : GSnap} (hN : 1048600 ≤ N) (h : SmallS s) : Fref14_Same N s s = some true := by
  suffices hd : Fref14_Differ N s s = some [] by unfold Fref14_Same; rw [hd]; rfl
  unfold Fref14_Differ
  refine each_loop (fun q : Sref14_Differx5 => q.i) (fun q => q.kept = true ∧ 0 ≤ q.i) 8 _ (by omega) (by omega) ?_ ?_ rfl ⟨rfl, by simp⟩
  · rintro ⟨kp, i⟩ next ⟨hq, _⟩ p1 p2
    simp only at hq p1 p2
    subst hq
    have hk := h.kept i.toNat (by omega)
    have p2' : i < 8 := p2
    rw [decide_eq_true p2', ibB_of p1 p2']
    simp only [Bool.or_true, cond_true]
    rw [sameOps14 (by omega) hk, Option.bind_some]
    exact ⟨_, rfl, wrap64 (by omega) (by omega), rfl, by simp only; rw [wrap64 (by omega) (by omega)]; omega⟩
  · rintro ⟨kp, i⟩ next ⟨hq, _⟩ p1
    simp only at hq p1
    subst hq; subst p1
    simp only
    rw [decide_eq_false (by decide)]
    simp only [cond_false]
    have e24 : ∀ v : Vector (Vector Int 8) 8, vbeq beq24 v v = true := fun v => vbeq_self beq24_iff v
    rw [same12 hN h.base h.attrs, sameOps14 (by have := h.log; omega) h.log, sameRows14 (by have := h.rows; omega) h.rows, sameParts14 (by have := h.parts; omega) h.parts]
    simp only [Option.bind_some, beq_self_eq_true, vbeq_self beq2_iff, vbeq_self beq3_iff, e24, Bool.and_self]
    obtain ⟨n, rfl⟩ : ∃ n, N = n + 20 := ⟨N - 20, by omega⟩
    show _ = _
    kernel_rfl
theorem of_ex {o : Option Bool} (h : ∃ r, o = some r ∧ r = true) : o = some true := by
  obtain ⟨r, h, rfl⟩ := h
  exact h
theorem own_law {s : GSnap} {m : GMsg} {to : GAddr} (hN : 1048600 ≤ N) (hs : SmallS s) (hr : roomM N m) (hm : smallM m) : Flaw16_ExchangeOwn N s m to = some true := by
  unfold Flaw16_ExchangeOwn
  rw [begun_eq (by omega), Option.bind_some]
  simp only [Bool.not_true, cond_false]
  rw [clone14 hN hs, Option.bind_some, refCloneMsg_eq (by have := hm.1.1; omega) hm, Option.bind_some]
  obtain ⟨l, h1, h2, h3⟩ := push_tot (s := s) (from_ := ⟨0, 0⟩) (to := to) (most := 100) hN ⟨by omega, by omega⟩ hs.kept
  rw [h1, Option.bind_some, yields_eq hN (by omega) h3, Option.bind_some]
  obtain ⟨e, k1, ⟨k2, k3⟩, k4, k5⟩ := entry_tot hN hr hm
  rw [k1, Option.bind_some]
  obtain ⟨t, t1, t2, t3⟩ := take_tot (N := N) (s := s) (o := m.Origin) (seq := m.Slot) (ops := m.Ops) hN hm.2.2.1
  have fin : ((Fref14_Same N s s).bind fun r14 => ((bif r14 then Fref04_SameMsg N m m else some default).bind fun r15 => some (r14 && r15))) = some true := by
    rw [same14 hN hs, Option.bind_some, cond_true, refSameMsg_eq hr, sameM_self hr.byt]; rfl
  refine of_ex (put_loop (fun s : Slaw16_ExchangeOwnx14 => s.t48) (fun s => s.g7) e.2.2.2.2.2.2.1 _ (by omega) k2 ?_ ?_ rfl k3)
  · intro q next p1 p2 p3
    rw [decide_eq_true p2, ibB_of p1 p2, decide_eq_true (show q.t48.toNat < q.g7.length by omega)]
    exact ⟨_, rfl, wrap64 (by omega) (by omega), by simp⟩
  · intro q next p1 p2
    rw [decide_eq_false (show ¬ q.t48 < ((e.2.2.2.2.2.2.1 : Nat) : Int) by omega)]
    simp only [cond_false]
    refine put_loop (fun s : Slaw16_ExchangeOwnx19 => s.t61) (fun s => s.g8) e.2.2.2.2.2.2.2.2.2.2.2.2.2.2.1 _ (by omega) k4 ?_ ?_ rfl k5
    · intro q next p1 p2 p3
      rw [decide_eq_true p2, ibB_of p1 p2, decide_eq_true (show q.t61.toNat < q.g8.length by omega)]
      exact ⟨_, rfl, wrap64 (by omega) (by omega), by simp⟩
    · intro q next p1 p2
      rw [decide_eq_false (show ¬ q.t61 < ((e.2.2.2.2.2.2.2.2.2.2.2.2.2.2.1 : Nat) : Int) by omega)]
      simp only [cond_false]
      rw [t1, Option.bind_some]
      refine put_loop (fun s : Slaw16_ExchangeOwnx25 => s.t83) (fun s => s.g10) t.1 _ (by omega) t2 ?_ ?_ rfl t3
      · intro q next p1 p2 p3
        rw [decide_eq_true p2, ibB_of p1 p2, decide_eq_true (show q.t83.toNat < q.g10.length by omega)]
        exact ⟨_, rfl, wrap64 (by omega) (by omega), by simp⟩
      · intro q next p1 p2
        rw [decide_eq_false (show ¬ q.t83 < ((t.1 : Nat) : Int) by omega)]
        exact ⟨true, fin, rfl⟩
end
end Go.Proofs.Ytekpjhhbmjcbmaa
