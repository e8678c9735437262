/-
Pieces of code at an abstract state; loops; functions.
-/
import Derived.LoopN
import Derived.Test.YtphjnagmlgmdfaaEvO
set_option linter.unusedVariables false
set_option linter.unusedSimpArgs false
set_option linter.unnecessarySimpa false
namespace Go.Ev
open Go

/-- The code comes to one of the ends that Q tells, from every world that the state speaks of. k0: how many boxes were there at the function's entry. -/
def AWp (E : Env) (k0 : Nat) (c : Code) (st : St) (Q : Exit → St → Prop) : Prop :=
  ∀ g a w, StRel g st a w → ∀ g0 H0 w0, (∀ id x, g0.ρ id = some x → id < k0) → Evo g0 H0 w0 g (hget st.h) w → c.wp E.P (Post g0 H0 w0 Q) a w

theorem Post.mono {g : Gh} {H : Nat → Ent} {w : World} {Q Q' : Exit → St → Prop} (h : ∀ e s, Q e s → Q' e s) {e : Exit} {a : Act} {w' : World} (hp : Post g H w Q e a w') : Post g H w Q' e a w' :=
  let ⟨st', g', h1, h2, h3⟩ := hp; ⟨st', g', h e st' h1, h2, h3⟩

/-- All regions that draw their order have been looked at. -/
def codeOk : Code → Bool
  | .region _ ops draw => !draw || statOk ops
  | .seq a b => codeOk a && codeOk b
  | .cond _ a b => codeOk a && codeOk b
  | .block _ c => codeOk c
  | .loop c => codeOk c
  | .scope c => codeOk c
  | .rangeFunc _ _ a b => codeOk a && codeOk b
  | _ => true

def wpA (E : Env) (k0 : Nat) : Code → St → (Exit → St → Prop) → Prop
  | .skip, st, Q => Q .normal st
  | .region _ ops draw, st, Q => seqOps E ops draw 0 ops.toList [] st (Q .normal)
  | .seq a b, st, Q => wpA E k0 a st fun e s => match e with | .normal => wpA E k0 b s Q | e => Q e s
  | .cond c x y, st, Q => (st.val c).cond ∧ match (st.val c).strip with
    | .v (.bool b) => (b = true → wpA E k0 x st Q) ∧ (b = false → wpA E k0 y st Q)
    | _ => False
  | .block id c, st, Q => wpA E k0 c st fun e s => match e with | .exit i => if i = id then Q .normal s else Q (.exit i) s | e => Q e s
  | .exit id, st, Q => Q (.exit id) st
  | .ret, st, Q => Q .ret st
  | .label _, st, Q => Q .normal st
  | c, st, Q => AWp E k0 c st Q

structure Good (E : Env) : Prop where
  ty : E.Ok
  eq : E.EqOk
  mixed : E.P.follows .mixedOrders = true

theorem region_sound {E : Env} (hG : Good E) {k0 : Nat} {id : Nat} {ops : Array Oper} {draw : Bool} {st : St} {Q : Exit → St → Prop} (hok : codeOk (.region id ops draw) = true) (h : seqOps E ops draw 0 ops.toList [] st (Q .normal)) :
    AWp E k0 (.region id ops draw) st Q := by
  intro g a w hst g0 H0 w0 _ hev
  obtain ⟨xs, st', h1, h2, h3⟩ := seqOps_recs hG.ty hG.eq ops.toList 0 [] st h
  have hops : ∀ k o, ops.toList[k]? = some o → ops[0 + k]? = some o := fun k o hk => by rw [Nat.zero_add]; simpa using hk
  cases draw with
  | false =>
    refine wp_region ?_
    have := text_sound ops.toList 0 xs st st' hops h1 g0 H0 w0 g a w Q hst hev h2
    rw [Array.length_toList, ← List.range_eq_range'] at this
    exact this
  | true =>
    have hs : statOk ops = true := by simpa [codeOk] using hok
    obtain ⟨g1, g2, g3⟩ := recs_local ops.toList 0 xs st st st' xs hops (fun k x hk => by rw [Nat.zero_add]; exact hk) rfl h1
    rw [Array.length_toList, Nat.zero_add] at g2
    have g1 : xs.length = ops.size := by simpa using g1
    refine wp_region_any hG.mixed ?_
    refine draw_sound (xs := xs) (st0 := st) hs (pairs_of g1 hs (h3 rfl)) (fun i hi => ?_) g2 h2 ops.size (Array.replicate ops.size false) g a { w with drawn := w.drawn + 1 } (by simp) ?_ ?_ ?_ ?_
    · have := g3 i (ops.getD i default) (xs.getD i default) (by simp [Array.getD, hi]) (by simp [List.getD, List.getElem?_eq_getElem (show i < xs.length by omega)])
      rwa [Nat.zero_add] at this
    · intro j o e hj
      simp [isIn, Array.getD] at hj
    · refine Nat.le_trans (List.length_filter_le _ _) (by simp)
    · have : AD ops xs (isIn (Array.replicate ops.size false)) st ops.size = st := by
        have key : ∀ n, AD ops xs (isIn (Array.replicate ops.size false)) st n = st := by
          intro n
          induction n with
          | zero => rfl
          | succ n ih =>
            have : isIn (Array.replicate ops.size false) n = false := by simp [isIn, Array.getD]
            simp only [AD, this, Bool.false_eq_true, if_false, ih]
        exact key _
      rw [this]
      exact ⟨hst.len, hst.t, hst.defers, hst.rel.drew _⟩
    · have : AD ops xs (isIn (Array.replicate ops.size false)) st ops.size = st := by
        have key : ∀ n, AD ops xs (isIn (Array.replicate ops.size false)) st n = st := by
          intro n
          induction n with
          | zero => rfl
          | succ n ih =>
            have : isIn (Array.replicate ops.size false) n = false := by simp [isIn, Array.getD]
            simp only [AD, this, Bool.false_eq_true, if_false, ih]
        exact key _
      rw [this]
      exact hev.trans (Evo.drew hst.rel _)

theorem wpA_sound {E : Env} (hG : Good E) {k0 : Nat} : ∀ (c : Code) (st : St) (Q : Exit → St → Prop), codeOk c = true → wpA E k0 c st Q → AWp E k0 c st Q
  | .skip, st, Q, _, h => fun g a w hst g0 H0 w0 _ hev => wp_skip ⟨st, g, h, hst, hev⟩
  | .region id ops draw, st, Q, hok, h => region_sound hG hok h
  | .seq x y, st, Q, hok, h => fun g a w hst g0 H0 w0 hk hev => by
    simp only [codeOk, Bool.and_eq_true] at hok
    refine wp_seq (wp_mono (wpA_sound hG x st _ hok.1 h g a w hst g0 H0 w0 hk hev) fun e a' w' hp => ?_)
    obtain ⟨st', g', h1, h2, h3⟩ := hp
    cases e with
    | normal => exact wpA_sound hG y st' Q hok.2 h1 g' a' w' h2 g0 H0 w0 hk h3
    | _ => exact ⟨st', g', h1, h2, h3⟩
  | .cond c x y, st, Q, hok, h => fun g a w hst g0 H0 w0 hk hev => by
    simp only [codeOk, Bool.and_eq_true] at hok
    obtain ⟨hc, h⟩ := h
    have hv := strip_rel (hst.val c) hc
    split at h
    · rename_i b hb
      rw [hb] at hv
      generalize hcv : a.eval c = vc at hv
      cases hv
      exact wp_cond_split hcv (fun e => wpA_sound hG x st Q hok.1 (h.1 e) g a w hst g0 H0 w0 hk hev) (fun e => wpA_sound hG y st Q hok.2 (h.2 e) g a w hst g0 H0 w0 hk hev)
    · exact h.elim
  | .block id c, st, Q, hok, h => fun g a w hst g0 H0 w0 hk hev => by
    refine wp_block (wp_mono (wpA_sound hG c st _ (by simpa [codeOk] using hok) h g a w hst g0 H0 w0 hk hev) fun e a' w' hp => ?_)
    obtain ⟨st', g', h1, h2, h3⟩ := hp
    cases e with
    | exit i =>
      simp only [Exit.inBlock]
      simp only [] at h1
      split
      · rename_i hi; rw [if_pos hi] at h1; exact ⟨st', g', h1, h2, h3⟩
      · rename_i hi; rw [if_neg hi] at h1; exact ⟨st', g', h1, h2, h3⟩
    | _ => exact ⟨st', g', h1, h2, h3⟩
  | .exit id, st, Q, _, h => fun g a w hst g0 H0 w0 _ hev => wp_exit ⟨st, g, h, hst, hev⟩
  | .ret, st, Q, _, h => fun g a w hst g0 H0 w0 _ hev => wp_ret ⟨st, g, h, hst, hev⟩
  | .label l, st, Q, _, h => fun g a w hst g0 H0 w0 _ hev => wp_label ⟨st, g, h, hst, hev⟩
  | .loop c, st, Q, _, h => h
  | .rangeFunc _ _ _ _, st, Q, _, h => h
  | .scope _, st, Q, _, h => h
  | .goto _, st, Q, _, h => h
  | .refuse _, st, Q, _, h => h

/-! ### Knowing less -/

def trunc (m : Nat) (ρ : Nat → Option (Nat × Nat × Nat)) : Nat → Option (Nat × Nat × Nat) := fun id => if id < m then ρ id else none

/-- y says no more than x, and names no box from m on. -/
def AvLe (m : Nat) (x y : AV) : Prop := ∀ I ρ v, VRel ⟨I, ρ⟩ x v → VRel ⟨I, trunc m ρ⟩ y v

def AvLes (m : Nat) : List AV → List AV → Prop
  | [], [] => True
  | x :: l, y :: l' => AvLe m x y ∧ AvLes m l l'
  | _, _ => False

def EntLe (m : Nat) : Ent → Ent → Prop
  | _, .dead => True
  | .box l, .box l' => AvLes m l l'
  | .ibox l, .ibox l' => AvLes m l l'
  | .tail, .tail => True
  | .unborn, .unborn => True
  | _, _ => False

def EntLes (m : Nat) : List Ent → List Ent → Prop
  | _, [] => True
  | e :: r, e' :: r' => EntLe m e e' ∧ EntLes m r r'
  | [], e' :: r' => EntLe m .unborn e' ∧ EntLes m [] r'

structure StLe (k0 : Nat) (s s' : St) : Prop where
  k : k0 ≤ s'.h.length
  t : AvLes s'.h.length s.t s'.t
  h : EntLes s'.h.length s.h s'.h

theorem AvLes.length {m : Nat} : ∀ {l l' : List AV}, AvLes m l l' → l.length = l'.length
  | [], [], _ => rfl
  | _ :: l, _ :: l', h => by simp [AvLes.length h.2]
  | [], _ :: _, h => h.elim
  | _ :: _, [], h => h.elim

theorem AvLes.get {m : Nat} : ∀ {l l' : List AV} {k : Nat} {y : AV}, AvLes m l l' → l'[k]? = some y → ∃ x, l[k]? = some x ∧ AvLe m x y
  | [], [], k, y, _, h => by simp at h
  | x :: l, z :: l', 0, y, h, hy => by simp at hy; subst hy; exact ⟨x, rfl, h.1⟩
  | x :: l, z :: l', k + 1, y, h, hy => by
    obtain ⟨x', h1, h2⟩ := AvLes.get h.2 (show l'[k]? = some y by simpa using hy)
    exact ⟨x', by simpa using h1, h2⟩
  | [], _ :: _, _, _, h, _ => h.elim
  | _ :: _, [], _, _, h, _ => h.elim

theorem EntLes.get {m : Nat} : ∀ {l l' : List Ent} (k : Nat), EntLes m l l' → k < l'.length → EntLe m (hget l k) (hget l' k)
  | l, [], k, _, h => by simp at h
  | e :: r, e' :: r', 0, h, _ => h.1
  | e :: r, e' :: r', k + 1, h, hk => by simpa [hget] using EntLes.get k h.2 (by simpa using hk)
  | [], e' :: r', 0, h, _ => h.1
  | [], e' :: r', k + 1, h, hk => by
    have := EntLes.get (l := []) k h.2 (by simpa using hk)
    simpa [hget] using this

theorem EntLe.live {m : Nat} {e e' : Ent} (h : EntLe m e e') (hl : e'.live) : e.live := by
  cases e <;> cases e' <;> simp_all [EntLe, Ent.live]

theorem StLe.sound {k0 : Nat} {s s' : St} (h : StLe k0 s s') {g : Gh} {a : Act} {w : World} (hst : StRel g s a w) {g0 : Gh} {H0 : Nat → Ent} {w0 : World} (hk : ∀ id x, g0.ρ id = some x → id < k0)
    (hev : Evo g0 H0 w0 g (hget s.h) w) : StRel ⟨g.I, trunc s'.h.length g.ρ⟩ s' a w ∧ Evo g0 H0 w0 ⟨g.I, trunc s'.h.length g.ρ⟩ (hget s'.h) w := by
  have hρ : ∀ id x, trunc s'.h.length g.ρ id = some x → g.ρ id = some x ∧ id < s'.h.length := fun id x e => by
    unfold trunc at e
    split at e
    · exact ⟨e, by assumption⟩
    · cases e
  have hent : ∀ id, id < s'.h.length → EntLe s'.h.length (hget s.h id) (hget s'.h id) := fun id hid => EntLes.get id h.h hid
  have hlive : ∀ id, (hget s'.h id).live → id < s'.h.length ∧ (hget s.h id).live := fun id hl => by
    rcases Nat.lt_or_ge id s'.h.length with h' | h'
    · exact ⟨h', (hent id h').live hl⟩
    · rw [hget_ge _ _ h'] at hl; exact hl.elim
  have hrel : WRel ⟨g.I, trunc s'.h.length g.ρ⟩ (hget s'.h) w := by
    refine ⟨hst.rel.imm, fun id => ?_, fun id hid => ?_, fun id id' x x' hne hl hl' e e' => hst.rel.inj id id' x x' hne (hlive id hl).2 (hlive id' hl').2 (hρ _ _ e).1 (hρ _ _ e').1⟩
    · rcases Nat.lt_or_ge id s'.h.length with h' | h'
      · have he := hst.rel.ent id
        have hle := hent id h'
        have ht : trunc s'.h.length g.ρ id = g.ρ id := by simp [trunc, h']
        cases hs' : hget s'.h id with
        | unborn => trivial
        | dead => trivial
        | box l' =>
          rw [hs'] at hle
          cases hs : hget s.h id with
          | box l =>
            rw [hs] at hle he
            obtain ⟨b, n, cs, T, fr, e1, e2, e3, e4, e5, e6, e7⟩ := he
            refine ⟨b, n, cs, T, fr, ht.trans e1, e2, e3, e4, by rw [← AvLes.length hle]; exact e5, fun k y hy => ?_, e7⟩
            obtain ⟨x, h1, h2⟩ := AvLes.get hle hy
            obtain ⟨c, h3, h4⟩ := e6 k x h1
            exact ⟨c, h3, h2 _ _ _ h4⟩
          | _ => rw [hs] at hle; exact hle.elim
        | ibox l' =>
          rw [hs'] at hle
          cases hs : hget s.h id with
          | ibox l =>
            rw [hs] at hle he
            obtain ⟨b, n, e1, e2⟩ := he
            refine ⟨b, n, ht.trans e1, fun k y hy => ?_⟩
            obtain ⟨x, h1, h2⟩ := AvLes.get hle hy
            obtain ⟨c, h3, h4⟩ := e2 k x h1
            exact ⟨c, h3, h2 _ _ _ h4⟩
          | _ => rw [hs] at hle; exact hle.elim
        | tail =>
          rw [hs'] at hle
          cases hs : hget s.h id with
          | tail =>
            rw [hs] at he
            obtain ⟨b, lo, n, cs, T, fr, e1, e2⟩ := he
            exact ⟨b, lo, n, cs, T, fr, ht.trans e1, e2⟩
          | _ => rw [hs] at hle; exact hle.elim
      · rw [hget_ge _ _ h']; trivial
    · show trunc s'.h.length g.ρ id = none
      rcases Nat.lt_or_ge id s'.h.length with h' | h'
      · have hle := hent id h'
        rw [hid] at hle
        cases hs : hget s.h id with
        | unborn => simp [trunc, h', hst.rel.fresh id hs]
        | _ => rw [hs] at hle; exact hle.elim
      · simp [trunc, Nat.not_lt.2 h']
  refine ⟨⟨(AvLes.length h.t).symm.trans hst.len, fun k y c hy hc => ?_, hst.defers, hrel⟩, ⟨hev.le.I, fun id x e => ?_⟩, hrel, hev.fr, hev.grow, fun id b lo n hl e => hev.own id b lo n (hlive id hl).2 (hρ _ _ e).1⟩
  · obtain ⟨x, h1, h2⟩ := AvLes.get h.t hy
    exact h2 _ _ _ (hst.t k x c h1 hc)
  · have hlt := hk id x e
    have hlt2 : id < s'.h.length := Nat.lt_of_lt_of_le hlt h.k
    simp only [trunc, if_pos hlt2]
    exact hev.le.ρ _ _ e

theorem AvLe.junk (m : Nat) (x : AV) : AvLe m x .junk := fun _ _ v _ => .junk v
theorem AvLe.noid {m : Nat} {x : AV} (h : NoId x) : AvLe m x x := fun I ρ v hv => by
  have hle : Gh.le ⟨I, fun _ => none⟩ ⟨I, trunc m ρ⟩ := ⟨fun _ _ _ h => h, fun _ _ h => by cases h⟩
  exact (h I ρ v hv).mono hle
theorem AvLe.v (m : Nat) (x : Value) : AvLe m (.v x) (.v x) := .noid (.v x)
theorem AvLe.ptr {m id : Nat} (off : Nat) (h : id < m) : AvLe m (.ptr id off) (.ptr id off) := fun I ρ v hv => by
  cases hv with
  | ptr e => exact .ptr (by simp [trunc, h]; exact e)

/-! ### Loops -/

theorem AWp.loop {E : Env} (hG : Good E) {k0 : Nat} {c : Code} {st : St} {Q : Exit → St → Prop} (hok : codeOk c = true) {S : Type} (σ : S → St) (Inv : S → Prop) (μ : S → Nat) (s0 : S) (h0 : Inv s0) (hle : StLe k0 st (σ s0))
    (round : ∀ s, Inv s → wpA E k0 c (σ s) fun e st' => match e with | .normal => ∃ s', Inv s' ∧ μ s' < μ s ∧ StLe k0 st' (σ s') | e => Q e st') : AWp E k0 (.loop c) st Q := by
  classical
  intro g a w hst g0 H0 w0 hk hev
  obtain ⟨hst', hev'⟩ := hle.sound hst hk hev
  let J : S → Act → World → Prop := fun s a w => Inv s ∧ ∃ g, StRel g (σ s) a w ∧ Evo g0 H0 w0 g (hget (σ s).h) w
  have hmin : ∀ a w, (∃ s, J s a w) → ∃ s, J s a w ∧ ∀ s', J s' a w → μ s ≤ μ s' := by
    intro a w ⟨s, hs⟩
    have : ∀ n s, μ s = n → J s a w → ∃ s, J s a w ∧ ∀ s', J s' a w → μ s ≤ μ s' := by
      intro n
      induction n using Nat.strongRecOn with
      | _ n ih =>
        intro s hn hs
        by_cases hex : ∃ s', J s' a w ∧ μ s' < μ s
        · obtain ⟨s', h1, h2⟩ := hex
          exact ih (μ s') (hn ▸ h2) s' rfl h1
        · exact ⟨s, hs, fun s' hs' => by
            rcases Nat.lt_or_ge (μ s') (μ s) with h | h
            · exact absurd ⟨s', hs', h⟩ hex
            · exact h⟩
    exact this (μ s) s rfl hs
  let M : Act → World → Nat := fun a w => if h : ∃ s, J s a w then μ (hmin a w h).choose else 0
  have hM : ∀ s a w, J s a w → M a w ≤ μ s := by
    intro s a w hs
    have h : ∃ s, J s a w := ⟨s, hs⟩
    show (if h : ∃ s, J s a w then μ (hmin a w h).choose else 0) ≤ μ s
    rw [dif_pos h]
    exact (hmin a w h).choose_spec.2 s hs
  refine wp_loop (fun a w => ∃ s, J s a w) M ⟨s0, h0, _, hst', hev'⟩ fun a w hJ => ?_
  obtain ⟨s, hs, hsm⟩ := hmin a w hJ
  obtain ⟨hi, g1, hst1, hev1⟩ := hs
  have hMs : M a w = μ s := by
    refine Nat.le_antisymm (hM s a w ⟨hi, g1, hst1, hev1⟩) ?_
    show μ s ≤ (if h : ∃ s, J s a w then μ (hmin a w h).choose else 0)
    rw [dif_pos hJ]
    exact hsm _ (hmin a w hJ).choose_spec.1
  refine wp_mono (wpA_sound hG c (σ s) _ hok (round s hi) g1 a w hst1 g0 H0 w0 hk hev1) fun e a' w' hp => ?_
  obtain ⟨st', g2, h1, h2, h3⟩ := hp
  cases e with
  | normal =>
    obtain ⟨s', i1, i2, i3⟩ := h1
    obtain ⟨h4, h5⟩ := i3.sound h2 hk h3
    exact ⟨⟨s', i1, _, h4, h5⟩, by rw [hMs]; exact Nat.lt_of_le_of_lt (hM s' a' w' ⟨i1, _, h4, h5⟩) i2⟩
  | _ => exact ⟨st', g2, h1, h2, h3⟩

/-- A loop's rounds, so many of them at most. -/
def RW (E : Env) (k0 : Nat) (c : Code) (Q : Exit → St → Prop) : Nat → St → Prop
  | 0, _ => False
  | m + 1, st => wpA E k0 c st fun e s => match e with | .normal => RW E k0 c Q m s | e => Q e s

theorem AWp.rounds {E : Env} (hG : Good E) {k0 : Nat} {c : Code} {Q : Exit → St → Prop} (hok : codeOk c = true) {m : Nat} {st : St} (h : RW E k0 c Q m st) : AWp E k0 (.loop c) st Q := by
  intro g a w hst g0 H0 w0 hk hev
  refine wp_loop_rounds m ?_
  have key : ∀ m st g a w, RW E k0 c Q m st → StRel g st a w → Evo g0 H0 w0 g (hget st.h) w → Code.rounds E.P c (Post g0 H0 w0 Q) m a w := by
    intro m
    induction m with
    | zero => intro st g a w h; exact h.elim
    | succ m ih =>
      intro st g a w h hst hev
      rw [rounds_succ]
      refine wp_mono (wpA_sound hG c st _ hok h g a w hst g0 H0 w0 hk hev) fun e a' w' hp => ?_
      obtain ⟨st', g2, h1, h2, h3⟩ := hp
      cases e with
      | normal => exact ih st' g2 a' w' h1 h2 h3
      | _ => exact ⟨st', g2, h1, h2, h3⟩
  exact key m st g a w h hst hev

/-- What is known less of a state serves. -/
theorem AWp.weaken {E : Env} {k0 : Nat} {c : Code} {s s' : St} {Q : Exit → St → Prop} (hle : StLe k0 s s') (h : AWp E k0 c s' Q) : AWp E k0 c s Q := by
  intro g a w hst g0 H0 w0 hk hev
  obtain ⟨hst', hev'⟩ := hle.sound hst hk hev
  exact h _ a w hst' g0 H0 w0 hk hev'

/-! ### Functions -/

def resOne (E : Env) (st : St) : ResultVar → Option AV
  | .tmp t => some (nth st.t t)
  | .cell a t => evLoad E (hget st.h) t (nth st.t a)

def resAll (E : Env) (st : St) : List ResultVar → Option (List AV)
  | [] => some []
  | x :: r => match resOne E st x, resAll E st r with
    | some v, some vs => some (v :: vs)
    | _, _ => none

def resOf (E : Env) (rs : List ResultVar) (st : St) : Option AV :=
  match resAll E st rs with
  | some [v] => some v
  | some vs => some (.tup vs)
  | none => none

theorem resOne_sound {E : Env} (hE : E.Ok) {g : Gh} {st : St} {a : Act} {w : World} (hst : StRel g st a w) {x : ResultVar} {v : AV} (h : resOne E st x = some v) :
    ∃ c, ((match x with | .tmp t => pure (a.tmps.getD t undef) | .cell b t => do loadVar t (← asAddr (a.tmps.getD b undef)) : Sem Value)).run E.P w = .ok c w ∧ VRel g v c := by
  cases x with
  | tmp t =>
    simp only [resOne, Option.some.injEq] at h
    subst h
    exact ⟨_, rfl, by have := hst.val (.tmp t); simpa [St.val, Act.eval] using this⟩
  | cell b t =>
    simp only [resOne] at h
    have hb := hst.val (.tmp b)
    simp only [St.val, Act.eval] at hb
    obtain ⟨c, h1, h2⟩ := evLoad_sound hE hst.rel hb h
    refine ⟨c, ?_, h2⟩
    simp only [Instr.loadAt, Sem.run_bind] at h1 ⊢
    cases hv : a.tmps.getD b undef with
    | pointer p =>
      rw [hv] at h1
      cases p with
      | some ad => exact h1
      | none => simp [Instr.sureAddr] at h1
    | _ => rw [hv] at h1; simp [Instr.sureAddr] at h1

theorem resAll_sound {E : Env} (hE : E.Ok) {g : Gh} {st : St} {a : Act} {w : World} (hst : StRel g st a w) : ∀ {rs : List ResultVar} {vs : List AV}, resAll E st rs = some vs →
    ∃ cs, (rs.mapM fun x => (match x with | .tmp t => pure (a.tmps.getD t undef) | .cell b t => do loadVar t (← asAddr (a.tmps.getD b undef)) : Sem Value)).run E.P w = .ok cs w ∧ LRel g vs cs
  | [], vs, h => by simp [resAll] at h; subst h; exact ⟨[], rfl, .nil⟩
  | x :: rs, vs, h => by
    simp only [resAll] at h
    split at h
    · rename_i v vs' h1 h2
      cases h
      obtain ⟨c, g1, g2⟩ := resOne_sound hE hst h1
      obtain ⟨cs, g3, g4⟩ := resAll_sound hE hst h2
      refine ⟨c :: cs, ?_, g4.cons g2⟩
      rw [List.mapM_cons, Sem.run_bind, g1, Result.andThen_ok, Sem.run_bind, g3, Result.andThen_ok, Sem.run_pure]
    · cases h

theorem resOf_sound {E : Env} (hE : E.Ok) {g : Gh} {st : St} {a : Act} {w : World} (hst : StRel g st a w) {fn : Func} {v : AV} (h : resOf E fn.results.toList st = some v) :
    ∃ c, (results fn a.tmps).run E.P w = .ok c w ∧ VRel g v c := by
  unfold resOf at h
  have run : ∀ {vs : List AV}, resAll E st fn.results.toList = some vs → ∃ cs : Array Value, LRel g vs cs.toList ∧ (results fn a.tmps).run E.P w = .ok (if h : cs.size = 1 then cs[0] else .tuple cs) w := fun hvs => by
    obtain ⟨cs, h1, h2⟩ := resAll_sound hE hst hvs
    refine ⟨cs.toArray, by simpa using h2, ?_⟩
    unfold results
    rw [Sem.run_bind, Array.mapM_eq_mapM_toList, Sem.run_map]
    exact (congrArg (fun r : Result (List Value) => ((r.andThen fun a w' => .ok a.toArray w').andThen fun a w' => Sem.run E.P (pure (if h : a.size = 1 then a[0] else .tuple a)) w')) (show _ = Result.ok cs w from h1)).trans rfl
  split at h
  · rename_i v' hvs
    cases h
    obtain ⟨cs, h1, h2⟩ := run hvs
    have hsz : cs.size = 1 := by have := h1.1; simpa using this.symm
    rw [dif_pos hsz] at h2
    refine ⟨_, h2, h1.2 0 v _ rfl (by simp [hsz])⟩
  · rename_i vs hne hvs
    cases h
    obtain ⟨cs, h1, h2⟩ := run hvs
    have hsz : cs.size ≠ 1 := fun e => by
      have := h1.1
      rw [show cs.toList.length = 1 by simpa using e] at this
      obtain ⟨y, hy⟩ := List.length_eq_one_iff.1 this
      exact hne y hy
    rw [dif_neg hsz] at h2
    exact ⟨_, h2, .tup (by simpa using h1.1) fun k x c e e' => h1.2 k x c e (by simpa using e')⟩
  · cases h

/-- The state in which a function begins. -/
def entry (n : Nat) (args : List AV) (L : List Ent) : St := ⟨args ++ List.replicate (n - args.length) (.v undef), L⟩

/-- What is owed where a function ends. -/
def Ends (E : Env) (rs : List ResultVar) (r : AV) (L' : List Ent) (e : Exit) (st : St) : Prop :=
  match e with
  | .normal | .ret => (∃ v, resOf E rs st = some v ∧ AvLe L'.length v r) ∧ EntLes L'.length st.h L'
  | _ => False

theorem FnSpec.intro {E : Env} (hG : Good E) {f : FuncId} {fn : Func} {c : Code} (hf : E.P.funcs[f]? = some fn) (hb : fn.body = some c) (hname : (fn.name == "runtime.NumGoroutine") = false) (hok : codeOk c = true)
    {args : List AV} {L L' : List Ent} {r : AV} (hL : L.length ≤ L'.length) (h : wpA E L.length c (entry fn.ntmps args L) (Ends E fn.results.toList r L')) : FnSpec E f args L r L' := by
  refine ⟨⟨fn, hf, by rw [hb]; rfl, hname⟩, fun g w cargs hW ha => calls_of_wp hf hb ?_⟩
  have hst : StRel g (entry fn.ntmps args L) { tmps := cargs ++ Array.replicate (fn.ntmps - cargs.size) undef, defers := [] } w := by
    have hlen : args.length = cargs.size := by simpa using ha.1
    refine ⟨by simp [entry, hlen], fun k x c e e' => ?_, rfl, hW⟩
    have key : LRel g (args ++ List.replicate (fn.ntmps - args.length) (.v undef)) (cargs.toList ++ List.replicate (fn.ntmps - args.length) undef) :=
      ha.append ⟨by simp, fun k x c e e' => by
        rw [List.getElem?_replicate] at e e'
        split at e
        · rw [if_pos ‹_›] at e'; cases e; cases e'; exact .v _
        · cases e⟩
    refine key.2 k x c e ?_
    rw [hlen]
    have : (cargs ++ Array.replicate (fn.ntmps - cargs.size) undef).toList = cargs.toList ++ List.replicate (fn.ntmps - cargs.size) undef := by simp
    rw [← this, Array.getElem?_toList]
    exact e'
  have hk : ∀ id x, g.ρ id = some x → id < L.length := fun id x e => by
    rcases Nat.lt_or_ge id L.length with h' | h'
    · exact h'
    · rw [hW.fresh id (hget_ge _ _ h')] at e; cases e
  refine wp_mono (wpA_sound hG c _ _ hok h g _ w hst g (hget L) w hk (.refl hW)) fun e a' w' hp => ?_
  obtain ⟨st', g', h1, h2, h3⟩ := hp
  have fin : ((∃ v, resOf E fn.results.toList st' = some v ∧ AvLe L'.length v r) ∧ EntLes L'.length st'.h L') →
      a'.defers = [] ∧ ∃ v, (results fn a'.tmps).run E.P w' = .ok v w' ∧ ∃ v' g'', Ending.returned v = .returned v' ∧ VRel g'' r v' ∧ Evo g (hget L) w g'' (hget L') w' := by
    rintro ⟨⟨v, hv, hvr⟩, hle⟩
    obtain ⟨cv, hc1, hc2⟩ := resOf_sound hG.ty h2 hv
    have hsle : StLe L.length ⟨[], st'.h⟩ ⟨[], L'⟩ := ⟨hL, trivial, hle⟩
    refine ⟨h2.defers, cv, hc1, cv, ?_⟩
    have hst0 : StRel g' ⟨[], st'.h⟩ { tmps := #[], defers := [] } w' := ⟨rfl, by simp, rfl, h2.rel⟩
    obtain ⟨k1, k2⟩ := hsle.sound hst0 hk h3
    exact ⟨⟨g'.I, trunc L'.length g'.ρ⟩, rfl, hvr _ _ _ hc2, k2⟩
  cases e with
  | normal => exact fin h1
  | ret => exact fin h1
  | _ => exact h1.elim

end Go.Ev
