/-
Names told anew: what is known of a world, under other names of the boxes; and calls of functions that take and leave boxes.
-/
import Derived.Test.YtekpjhhbmjcbmaaqTvE
set_option linter.unusedVariables false
set_option linter.unusedSimpArgs false
namespace Go.Ev
open Go
def Gh.ren (g : Gh) (θ : Nat → Option Nat) : Gh := ⟨g.I, fun j => (θ j).bind g.ρ⟩
def RW (θ : Nat → Option Nat) (x y : AV) : Prop := ∀ g v, VRel g x v → VRel (g.ren θ) y v
def RWs (θ : Nat → Option Nat) (l l' : List AV) : Prop := l.length = l'.length ∧ ∀ (k : Nat) (x y : AV), l[k]? = some x → l'[k]? = some y → RW θ x y
theorem RWs.get {θ : Nat → Option Nat} {l l' : List AV} (h : RWs θ l l') {k : Nat} {y : AV} (hy : l'[k]? = some y) : ∃ x, l[k]? = some x ∧ RW θ x y := by
  have hk : k < l.length := by
    rw [h.1]
    rcases Nat.lt_or_ge k l'.length with h' | h'
    · exact h'
    · rw [List.getElem?_eq_none h'] at hy; cases hy
  exact ⟨_, List.getElem?_eq_getElem hk, h.2 k _ y (List.getElem?_eq_getElem hk) hy⟩
def EntRen (θ : Nat → Option Nat) (H : Nat → Ent) (j : Nat) : Ent → Prop
  | .unborn => θ j = none
  | .dead => True
  | .box l' => ∃ i l, θ j = some i ∧ H i = .box l ∧ RWs θ l l'
  | .ibox l' => ∃ i l, θ j = some i ∧ H i = .ibox l ∧ RWs θ l l'
  | .gbx l' => (θ j = none ∧ l' = []) ∨ ∃ i l, θ j = some i ∧ H i = .gbx l ∧ RWs θ l l'
  | .tail => θ j = none ∨ ∃ i, θ j = some i ∧ H i = .tail
  | .rcd ps asg body l' => ∃ i l, θ j = some i ∧ H i = .rcd ps asg body l ∧ RWs θ l l'
  | .rdn c => ∃ i, θ j = some i ∧ H i = .rdn c
structure Rens (θ : Nat → Option Nat) (H H' : Nat → Ent) : Prop where
  ent : ∀ j, EntRen θ H j (H' j)
  inj : ∀ j j' i, (H' j).live → (H' j').live → θ j = some i → θ j' = some i → j = j'
theorem EntRen.live {θ : Nat → Option Nat} {H : Nat → Ent} {j : Nat} {e : Ent} (h : EntRen θ H j e) (hl : e.live) {i : Nat} (hi : θ j = some i) : (H i).live := by
  cases e with
  | box l' => obtain ⟨i', l, e1, e2, _⟩ := h; rw [hi] at e1; cases e1; rw [e2]; trivial
  | tail =>
    rcases h with h | ⟨i', e1, e2⟩
    · rw [hi] at h; cases h
    · rw [hi] at e1; cases e1; rw [e2]; trivial
  | gbx l' =>
    rcases h with ⟨h, _⟩ | ⟨i', l, e1, e2, _⟩
    · rw [hi] at h; cases h
    · rw [hi] at e1; cases e1; rw [e2]; trivial
  | rcd ps asg body l' => obtain ⟨i', l, e1, e2, _⟩ := h; rw [hi] at e1; cases e1; rw [e2]; trivial
  | rdn c => obtain ⟨i', e1, e2⟩ := h; rw [hi] at e1; cases e1; rw [e2]; trivial
  | _ => exact hl.elim
theorem ren_some {g : Gh} {θ : Nat → Option Nat} {j : Nat} {x : Nat × Nat × Nat} (h : (g.ren θ).ρ j = some x) : ∃ i, θ j = some i ∧ g.ρ i = some x := by
  simp only [Gh.ren] at h
  cases hθ : θ j with
  | none => rw [hθ] at h; cases h
  | some i => rw [hθ] at h; exact ⟨i, rfl, h⟩
theorem ren_at {g : Gh} {θ : Nat → Option Nat} {j i : Nat} (h : θ j = some i) : (g.ren θ).ρ j = g.ρ i := by simp [Gh.ren, h]
theorem Rens.rel {g : Gh} {θ : Nat → Option Nat} {H H' : Nat → Ent} {w : World} (h : Rens θ H H') (hW : WRel g H w) : WRel (g.ren θ) H' w := by
  refine ⟨hW.imm, fun j => ?_, fun j hj => ?_, fun j j' x x' hne hl hl' e e' => ?_⟩
  · have he := h.ent j
    cases hH : H' j with
    | unborn => trivial
    | dead => trivial
    | box l' =>
      rw [hH] at he
      obtain ⟨i, l, e1, e2, e3⟩ := he
      have := hW.ent i
      rw [e2] at this
      obtain ⟨b, n, cs, T, fr, k1, k2, k3, k4, k5, k6, k7⟩ := this
      refine ⟨b, n, cs, T, fr, (ren_at e1).trans k1, k2, k3, k4, by rw [← e3.1]; exact k5, fun k y hy => ?_, k7⟩
      obtain ⟨x, hx, hw⟩ := e3.get hy
      obtain ⟨c, hc, hv⟩ := k6 k x hx
      exact ⟨c, hc, hw g c hv⟩
    | ibox l' =>
      rw [hH] at he
      obtain ⟨i, l, e1, e2, e3⟩ := he
      have := hW.ent i
      rw [e2] at this
      obtain ⟨b, n, k1, k2⟩ := this
      refine ⟨b, n, (ren_at e1).trans k1, fun k y hy => ?_⟩
      obtain ⟨x, hx, hw⟩ := e3.get hy
      obtain ⟨c, hc, hv⟩ := k2 k x hx
      exact ⟨c, hc, hw g c hv⟩
    | gbx l' =>
      rw [hH] at he
      rcases he with ⟨h0, h1⟩ | ⟨i, l, e1, e2, e3⟩
      · exact .inl ⟨by simp [Gh.ren, h0], h1⟩
      · have := hW.ent i
        rw [e2] at this
        rcases this with ⟨k0, k1⟩ | ⟨b, n, cs, T, fr, k1, k2, k3, k4, k5, k6, k7⟩
        · subst k1
          have := e3.1
          simp at this
          exact .inl ⟨(ren_at e1).trans k0, List.length_eq_zero_iff.1 this.symm⟩
        · refine .inr ⟨b, n, cs, T, fr, (ren_at e1).trans k1, k2, k3, k4, by rw [← e3.1]; exact k5, fun k y hy => ?_, k7⟩
          obtain ⟨x, hx, hw⟩ := e3.get hy
          obtain ⟨c, hc, hv⟩ := k6 k x hx
          exact ⟨c, hc, hw g c hv⟩
    | tail =>
      rw [hH] at he
      intro b lo n e
      obtain ⟨i, hi, e'⟩ := ren_some e
      rcases he with he | ⟨i', e1, e2⟩
      · rw [hi] at he; cases he
      · rw [hi] at e1; cases e1
        have := hW.ent i
        rw [e2] at this
        exact this b lo n e'
    | rcd ps asg body l' =>
      rw [hH] at he
      obtain ⟨i, l, e1, e2, e3⟩ := he
      have := hW.ent i
      rw [e2] at this
      obtain ⟨b, fn, tm, df, k1, k2, k3⟩ := this
      refine ⟨b, fn, tm, df, (ren_at e1).trans k1, k2, e3.1.symm.trans k3.1, fun k y c hy hc => ?_⟩
      obtain ⟨x, hx, hw⟩ := e3.get hy
      exact hw g c (k3.2 k x c hx hc)
    | rdn c =>
      rw [hH] at he
      obtain ⟨i, e1, e2⟩ := he
      have := hW.ent i
      rw [e2] at this
      obtain ⟨b, r, k1, k2⟩ := this
      exact ⟨b, r, (ren_at e1).trans k1, k2⟩
  · have he := h.ent j
    rw [hj] at he
    simp only [EntRen] at he
    simp [Gh.ren, he]
  · obtain ⟨i, hi, e1⟩ := ren_some e
    obtain ⟨i', hi', e1'⟩ := ren_some e'
    refine hW.inj i i' x x' (fun hii => ?_) ((h.ent j).live hl hi) ((h.ent j').live hl' hi') e1 e1'
    subst hii
    exact hne (h.inj j j' i hl hl' hi hi')
structure StRen (k0 : Nat) (θ : Nat → Option Nat) (s s' : St) : Prop where
  k : ∀ j, j < k0 → θ j = some j
  t : RWs θ s.t s'.t
  h : Rens θ (hget s.h) (hget s'.h)
theorem StRen.sound {k0 : Nat} {θ : Nat → Option Nat} {s s' : St} (h : StRen k0 θ s s') {g : Gh} {a : Act} {w : World} (hst : StRel g s a w) {g0 : Gh} {H0 : Nat → Ent} {w0 : World} (hk : ∀ id x, g0.ρ id = some x → id < k0)
    (hev : Evo g0 H0 w0 g (hget s.h) w) : StRel (g.ren θ) s' a w ∧ Evo g0 H0 w0 (g.ren θ) (hget s'.h) w := by
  have hrel := h.h.rel hst.rel
  refine ⟨⟨h.t.1.symm.trans hst.len, fun k y c hy hc => ?_, hrel⟩, ⟨hev.le.I, fun id x e => ?_⟩, hrel, hev.fr, hev.grow, fun j b lo n hl e => ?_⟩
  · obtain ⟨x, hx, hw⟩ := h.t.get hy
    exact hw g c (hst.t k x c hx hc)
  · rw [ren_at (h.k id (hk id x e))]
    exact hev.le.ρ _ _ e
  · obtain ⟨i, hi, e'⟩ := ren_some e
    exact hev.own i b lo n ((h.h.ent j).live hl hi) e'
def σup (σ : List Nat) (n j : Nat) : Nat := σ.getD j (n + (j - σ.length))
def σdn (σ : List Nat) (n q k : Nat) : Option Nat := if n ≤ k ∧ k < n + q then some (σ.length + (k - n)) else σ.idxOf? k
def θσ (σ : List Nat) (j : Nat) : Option Nat := σ[j]?
def EntUp (s : Nat → Nat) : Ent → Ent → Prop
  | .unborn, e => e = .unborn
  | .dead, e => e = .dead
  | .box l, e => ∃ l', e = .box l' ∧ l.length = l'.length ∧ ∀ (k : Nat) (x y : AV), l[k]? = some x → l'[k]? = some y → ∀ (g g' : Gh) (v : Value), g.I = g'.I → (∀ j p, g.ρ j = some p → g'.ρ (s j) = some p) → VRel g x v → VRel g' y v
  | .ibox l, e => ∃ l', e = .ibox l' ∧ l.length = l'.length ∧ ∀ (k : Nat) (x y : AV), l[k]? = some x → l'[k]? = some y → ∀ (g g' : Gh) (v : Value), g.I = g'.I → (∀ j p, g.ρ j = some p → g'.ρ (s j) = some p) → VRel g x v → VRel g' y v
  | .gbx l, e => ∃ l', e = .gbx l' ∧ l.length = l'.length ∧ ∀ (k : Nat) (x y : AV), l[k]? = some x → l'[k]? = some y → ∀ (g g' : Gh) (v : Value), g.I = g'.I → (∀ j p, g.ρ j = some p → g'.ρ (s j) = some p) → VRel g x v → VRel g' y v
  | .tail, e => e = .tail
  | .rcd ps asg body l, e => ∃ l', e = .rcd ps asg body l' ∧ l.length = l'.length ∧ ∀ (k : Nat) (x y : AV), l[k]? = some x → l'[k]? = some y → ∀ (g g' : Gh) (v : Value), g.I = g'.I → (∀ j p, g.ρ j = some p → g'.ρ (s j) = some p) → VRel g x v → VRel g' y v
  | .rdn c, e => e = .rdn c
theorem heap_ext_of_Fr' {M : Nat → Nat → Prop} {w w' : World} (h : Fr M w w') {b : Nat} (hb : b < w.heap.size) (hM : ∀ o, ¬ M b o) : w'.heap[b]? = w.heap[b]? := by
  have hget : w.heap[b]? = some w.heap[b] := Array.getElem?_eq_getElem hb
  cases ho : w.heap[b] with
  | cells cs T fr =>
    rw [ho] at hget
    obtain ⟨cs', fr', e, hs, hc, hf⟩ := h.cells b cs T fr hget
    have : fr' = fr := hf.elim id fun ⟨o, h⟩ => absurd h (hM o)
    subst this
    have : cs' = cs := by
      apply Array.ext hs
      intro i h1 h2
      have := hc i (hM i)
      rw [Array.getElem?_eq_getElem h1, Array.getElem?_eq_getElem h2] at this
      exact Option.some.inj this
    rw [hget, e, this]
  | _ =>
    rw [ho] at hget
    rw [hget]
    exact h.objs b _ hget (by intros; simp) hM
theorem call_frame_gen {X : Array Value → World → (Ending → World → Prop) → Prop} (hmono : ∀ {c w R R'}, X c w R → (∀ e w', R e w' → R' e w') → X c w R') {Hg : Gh → Prop} {args : List AV} {L L' : List Ent} {r : AV}
    (hs : ∀ g w (cargs : Array Value), Hg g → WRel g (hget L) w → LRel g args cargs.toList → X cargs w fun e w' => ∃ v g', e = .returned v ∧ VRel g' r v ∧ Evo g (hget L) w g' (hget L') w') {g : Gh} {H H2 : Nat → Ent} {w : World} (hW : WRel g H w) {σ : List Nat} {n q : Nat}
    (hL : L.length = σ.length) (hq : L'.length = σ.length + q) (hnd : σ.Nodup) (hlt : ∀ k ∈ σ, k < n) (hfr : ∀ k, n ≤ k → k < n + q → H k = .unborn) (hren : Rens (θσ σ) H (hget L)) {cargs : Array Value}
    (ha : LRel (g.ren (θσ σ)) args cargs.toList) (hH2 : ∀ k, match σdn σ n q k with | some j => EntUp (σup σ n) (hget L' j) (H2 k) | none => H2 k = H k) {r2 : AV}
    (hr2 : ∀ (g g' : Gh) (v : Value), g.I = g'.I → (∀ j p, g.ρ j = some p → g'.ρ (σup σ n j) = some p) → VRel g r v → VRel g' r2 v) (hHg : Hg (g.ren (θσ σ))) :
    X cargs w fun e w' => ∃ v g', e = .returned v ∧ VRel g' r2 v ∧ Evo g H w g' H2 w' := by
  refine hmono (hs (g.ren (θσ σ)) w cargs hHg (hren.rel hW) ha) ?_
  rintro e w' ⟨v, g1, rfl, hv, hev⟩
  let g2 : Gh := ⟨g1.I, fun k => match σdn σ n q k with | some j => g1.ρ j | none => g.ρ k⟩
  have hdn_some : ∀ {k j}, σdn σ n q k = some j → (n ≤ k ∧ k < n + q ∧ j = σ.length + (k - n)) ∨ (k < n ∧ σ[j]? = some k) := fun {k j} e => by
    unfold σdn at e
    split at e
    · rename_i hc; cases e; exact .inl ⟨hc.1, hc.2, rfl⟩
    · right
      rw [List.idxOf?_eq_some_iff] at e
      obtain ⟨h1, h2, h3⟩ := e
      have h2' : σ[j] = k := by simpa using h2
      exact ⟨hlt k (h2' ▸ List.getElem_mem h1), by rw [List.getElem?_eq_getElem h1, h2']⟩
  have hdn_up : ∀ {j}, j < σ.length + q → σdn σ n q (σup σ n j) = some j := fun {j} hj => by
    unfold σup
    rcases Nat.lt_or_ge j σ.length with h | h
    · have e1 : σ.getD j (n + (j - σ.length)) = σ[j] := by simp [List.getD, h]
      rw [e1]
      have hlt' := hlt σ[j] (List.getElem_mem h)
      unfold σdn
      rw [if_neg (by omega)]
      rw [List.idxOf?_eq_some_iff]
      refine ⟨h, by simp, fun j' hj' => ?_⟩
      have hne : σ[j'] ≠ σ[j] := fun e => by
        have := (List.getElem_inj hnd (h₀ := by omega) (h₁ := h)).1 e
        omega
      simpa using hne
    · have e1 : σ.getD j (n + (j - σ.length)) = n + (j - σ.length) := by simp [List.getD, h]
      rw [e1]
      unfold σdn
      rw [if_pos (by omega)]
      congr 1; omega
  have hdn_inj : ∀ {k k' j}, σdn σ n q k = some j → σdn σ n q k' = some j → k = k' := fun {k k' j} e e' => by
    rcases hdn_some e with ⟨h1, h2, h3⟩ | ⟨h1, h2⟩ <;> rcases hdn_some e' with ⟨h1', h2', h3'⟩ | ⟨h1', h2'⟩
    · omega
    · have := (List.getElem?_eq_some_iff.1 h2').1; omega
    · have := (List.getElem?_eq_some_iff.1 h2).1; omega
    · rw [h2] at h2'; exact Option.some.inj h2'
  have hρ1 : ∀ j p, g1.ρ j = some p → j < σ.length + q := fun j p e => by
    rcases Nat.lt_or_ge j (σ.length + q) with h | h
    · exact h
    · rw [hev.rel.fresh j (hget_ge _ _ (by omega))] at e; cases e
  have hup : ∀ j p, g1.ρ j = some p → g2.ρ (σup σ n j) = some p := fun j p e => by
    show (match σdn σ n q (σup σ n j) with | some j => g1.ρ j | none => g.ρ (σup σ n j)) = some p
    rw [hdn_up (hρ1 j p e)]; exact e
  have hg2 : ∀ {k j}, σdn σ n q k = some j → g2.ρ k = g1.ρ j := fun {k j} e => by
    show (match σdn σ n q k with | some j => g1.ρ j | none => g.ρ k) = _
    rw [e]
  have hg2n : ∀ {k}, σdn σ n q k = none → g2.ρ k = g.ρ k := fun {k} e => by
    show (match σdn σ n q k with | some j => g1.ρ j | none => g.ρ k) = _
    rw [e]
  have hin : ∀ {j p}, (hget L j).live → (g.ren (θσ σ)).ρ j = some p → ∃ k, σ[j]? = some k ∧ (H k).live ∧ g.ρ k = some p := fun {j p} hl e => by
    obtain ⟨k, hk, e'⟩ := ren_some e
    exact ⟨k, hk, (hren.ent j).live hl hk, e'⟩
  have hM : ∀ b o, MutOf (g.ren (θσ σ)) (hget L) b o → MutOf g H b o := fun b o ⟨j, lo, m, hl, e, ho⟩ => by
    obtain ⟨k, _, hl', e'⟩ := hin hl e
    exact ⟨k, lo, m, hl', e', ho⟩
  have hle : g.le g2 := ⟨hev.le.I, fun k p e => by
    cases hk : σdn σ n q k with
    | none => rw [hg2n hk]; exact e
    | some j =>
      rw [hg2 hk]
      rcases hdn_some hk with ⟨h1, h2, _⟩ | ⟨h1, h2⟩
      · rw [hW.fresh k (hfr k h1 h2)] at e; cases e
      · exact hev.le.ρ j p (by rw [ren_at (show θσ σ j = some k from h2)]; exact e)⟩
  have hlive2 : ∀ {k j}, σdn σ n q k = some j → (H2 k).live → (hget L' j).live := fun {k j} hk hl => by
    have := hH2 k
    rw [hk] at this
    simp only [] at this
    cases hL' : hget L' j with
    | box l => trivial
    | tail => trivial
    | unborn => rw [hL'] at this; simp only [EntUp] at this; rw [this] at hl; exact hl.elim
    | dead => rw [hL'] at this; simp only [EntUp] at this; rw [this] at hl; exact hl.elim
    | ibox l => rw [hL'] at this; obtain ⟨l', e, _⟩ := this; rw [e] at hl; exact hl.elim
    | gbx l => trivial
    | rcd _ _ _ _ => trivial
    | rdn _ => trivial
  have hliven : ∀ {k}, σdn σ n q k = none → (H2 k).live → (H k).live := fun {k} hk hl => by
    have := hH2 k
    rw [hk] at this
    simp only [] at this
    rw [← this]; exact hl
  have hnot : ∀ {k j}, σdn σ n q k = none → σ[j]? = some k → False := fun {k j} hk hj => by
    have hjl := (List.getElem?_eq_some_iff.1 hj).1
    have := hdn_up (j := j) (by omega)
    have e1 : σup σ n j = k := by simp [σup, List.getD, hj]
    rw [e1, hk] at this; cases this
  -- the blocks of what was not handed in
  have hsep : ∀ {k b lo m}, σdn σ n q k = none → (H k).live → g.ρ k = some (b, lo, m) → ∀ o, ¬ MutOf (g.ren (θσ σ)) (hget L) b o := fun {k b lo m} hk hl e o ⟨j, lo', m', hl', e', _⟩ => by
    obtain ⟨k', hj, hl'', e''⟩ := hin hl' e'
    have hne : k ≠ k' := fun h => hnot hk (h ▸ hj)
    exact hW.inj k k' _ _ hne hl hl'' e e'' rfl
  refine ⟨v, g2, rfl, hr2 g1 g2 v rfl hup hv, hle, ⟨hev.rel.imm, fun k => ?_, fun k hk => ?_, fun k k' x x' hne hl hl' e e' => ?_⟩, hev.fr.mono fun b o _ h => hM b o h, fun b o x h => ?_, fun k b lo m hl e => ?_⟩
  · have h2 := hH2 k
    cases hk : σdn σ n q k with
    | some j =>
      rw [hk] at h2
      simp only [] at h2
      have hent := hev.rel.ent j
      cases hL' : hget L' j with
      | unborn => rw [hL'] at h2; simp only [EntUp] at h2; rw [h2]; trivial
      | dead => rw [hL'] at h2; simp only [EntUp] at h2; rw [h2]; trivial
      | tail =>
        rw [hL'] at h2 hent; simp only [EntUp] at h2; rw [h2]
        intro b lo m e
        rw [hg2 hk] at e
        exact hent b lo m e
      | box l =>
        rw [hL'] at h2 hent
        obtain ⟨l', e, hlen, hx⟩ := h2
        rw [e]
        obtain ⟨b, m, cs, T, fr, k1, k2, k3, k4, k5, k6, k7⟩ := hent
        refine ⟨b, m, cs, T, fr, (hg2 hk).trans k1, k2, k3, k4, by rw [← hlen]; exact k5, fun i y hy => ?_, k7⟩
        have hi : i < l.length := by
          rw [hlen]
          rcases Nat.lt_or_ge i l'.length with h' | h'
          · exact h'
          · rw [List.getElem?_eq_none h'] at hy; cases hy
        obtain ⟨c, hc, hv'⟩ := k6 i _ (List.getElem?_eq_getElem hi)
        exact ⟨c, hc, hx i _ y (List.getElem?_eq_getElem hi) hy g1 g2 c rfl hup hv'⟩
      | ibox l =>
        rw [hL'] at h2 hent
        obtain ⟨l', e, hlen, hx⟩ := h2
        rw [e]
        obtain ⟨b, m, k1, k2⟩ := hent
        refine ⟨b, m, (hg2 hk).trans k1, fun i y hy => ?_⟩
        have hi : i < l.length := by
          rw [hlen]
          rcases Nat.lt_or_ge i l'.length with h' | h'
          · exact h'
          · rw [List.getElem?_eq_none h'] at hy; cases hy
        obtain ⟨c, hc, hv'⟩ := k2 i _ (List.getElem?_eq_getElem hi)
        exact ⟨c, hc, hx i _ y (List.getElem?_eq_getElem hi) hy g1 g2 c rfl hup hv'⟩
      | gbx l =>
        rw [hL'] at h2 hent
        obtain ⟨l', e, hlen, hx⟩ := h2
        rw [e]
        rcases hent with ⟨k0, k1⟩ | ⟨b, m, cs, T, fr, k1, k2, k3, k4, k5, k6, k7⟩
        · subst k1
          simp at hlen
          exact .inl ⟨(hg2 hk).trans k0, List.length_eq_zero_iff.1 hlen.symm⟩
        · refine .inr ⟨b, m, cs, T, fr, (hg2 hk).trans k1, k2, k3, k4, by rw [← hlen]; exact k5, fun i y hy => ?_, k7⟩
          have hi : i < l.length := by
            rw [hlen]
            rcases Nat.lt_or_ge i l'.length with h' | h'
            · exact h'
            · rw [List.getElem?_eq_none h'] at hy; cases hy
          obtain ⟨c, hc, hv'⟩ := k6 i _ (List.getElem?_eq_getElem hi)
          exact ⟨c, hc, hx i _ y (List.getElem?_eq_getElem hi) hy g1 g2 c rfl hup hv'⟩
      | rcd ps asg body l =>
        rw [hL'] at h2 hent
        obtain ⟨l', e, hlen, hx⟩ := h2
        rw [e]
        obtain ⟨b, fn, tm, df, k1, k2, k3⟩ := hent
        refine ⟨b, fn, tm, df, (hg2 hk).trans k1, k2, hlen.symm.trans k3.1, fun i y c hy hc => ?_⟩
        have hi : i < l.length := by
          rw [hlen]
          rcases Nat.lt_or_ge i l'.length with h' | h'
          · exact h'
          · rw [List.getElem?_eq_none h'] at hy; cases hy
        exact hx i _ y (List.getElem?_eq_getElem hi) hy g1 g2 c rfl hup (k3.2 i _ c (List.getElem?_eq_getElem hi) hc)
      | rdn c =>
        rw [hL'] at h2 hent
        rw [h2]
        obtain ⟨b, r, k1, k2⟩ := hent
        exact ⟨b, r, (hg2 hk).trans k1, k2⟩
    | none =>
      rw [hk] at h2
      simp only [] at h2
      rw [h2]
      refine (hW.ent k).keep hle (fun _ => hg2n hk) fun b lo m hl e => ?_
      obtain ⟨_, h1, h4⟩ := hW.live_lt hl e
      have hb := lt_of_heap h1
      have hM' := hsep hk hl e
      refine ⟨heap_ext_of_Fr' hev.fr hb hM', fun o ho => ?_⟩
      show g1.I b o = g.I b o
      rw [h4 o ho]
      cases hI : g1.I b o with
      | none => rfl
      | some x =>
        rcases hev.grow b o x hI with h' | h' | h'
        · have := h4 o ho
          have h'' : g.I b o = some x := h'
          rw [h''] at this; cases this
        · omega
        · exact absurd h' (hM' o)
  · have h2 := hH2 k
    cases hk' : σdn σ n q k with
    | some j =>
      rw [hk'] at h2
      simp only [] at h2
      rw [hg2 hk']
      refine hev.rel.fresh j ?_
      cases hL' : hget L' j with
      | unborn => rfl
      | dead => rw [hL'] at h2; simp only [EntUp] at h2; rw [h2] at hk; cases hk
      | tail => rw [hL'] at h2; simp only [EntUp] at h2; rw [h2] at hk; cases hk
      | box l => rw [hL'] at h2; obtain ⟨l', e, _⟩ := h2; rw [e] at hk; cases hk
      | ibox l => rw [hL'] at h2; obtain ⟨l', e, _⟩ := h2; rw [e] at hk; cases hk
      | gbx l => rw [hL'] at h2; obtain ⟨l', e, _⟩ := h2; rw [e] at hk; cases hk
      | rcd _ _ _ l => rw [hL'] at h2; obtain ⟨l', e, _⟩ := h2; rw [e] at hk; cases hk
      | rdn c => rw [hL'] at h2; simp only [EntUp] at h2; rw [h2] at hk; cases hk
    | none =>
      rw [hk'] at h2
      simp only [] at h2
      rw [hg2n hk']; exact hW.fresh k (h2 ▸ hk)
  · have mixed : ∀ {k k' x x'}, (H2 k).live → (H2 k').live → σdn σ n q k = none → ∀ {j}, σdn σ n q k' = some j → g2.ρ k = some x → g2.ρ k' = some x' → x.1 ≠ x'.1 := fun {k k' x x'} hl hl' hk {j} hk' e e' => by
      rw [hg2n hk] at e
      rw [hg2 hk'] at e'
      obtain ⟨b, lo, m⟩ := x
      obtain ⟨b', lo', m'⟩ := x'
      obtain ⟨_, h1, _⟩ := hW.live_lt (hliven hk hl) e
      have hb := lt_of_heap h1
      rcases hev.own j b' lo' m' (hlive2 hk' hl') e' with h | ⟨id0, lo0, n0, h1, h2, _⟩
      · show b ≠ b'
        omega
      · obtain ⟨k0, hj0, hl0, e0⟩ := hin h1 h2
        have hne0 : k ≠ k0 := fun h => hnot hk (h ▸ hj0)
        exact (hW.inj k k0 _ _ hne0 (hliven hk hl) hl0 e e0 : b ≠ b')
    cases hk : σdn σ n q k with
    | none =>
      cases hk' : σdn σ n q k' with
      | none => rw [hg2n hk] at e; rw [hg2n hk'] at e'; exact hW.inj k k' x x' hne (hliven hk hl) (hliven hk' hl') e e'
      | some j' => exact mixed hl hl' hk hk' e e'
    | some j =>
      cases hk' : σdn σ n q k' with
      | none => exact (mixed hl' hl hk' hk e' e).symm
      | some j' =>
        rw [hg2 hk] at e; rw [hg2 hk'] at e'
        exact hev.rel.inj j j' x x' (fun h => hne (hdn_inj hk (h ▸ hk'))) (hlive2 hk hl) (hlive2 hk' hl') e e'
  · rcases hev.grow b o x h with h' | h' | h'
    · exact .inl h'
    · exact .inr (.inl h')
    · exact .inr (.inr (hM b o h'))
  · cases hk : σdn σ n q k with
    | none =>
      rw [hg2n hk] at e
      exact .inr ⟨k, lo, m, hliven hk hl, e, Nat.le_refl _⟩
    | some j =>
      rw [hg2 hk] at e
      rcases hev.own j b lo m (hlive2 hk hl) e with h | ⟨id0, lo0, n0, h1, h2, h3⟩
      · exact .inl h
      · obtain ⟨k0, _, hl0, e0⟩ := hin h1 h2
        exact .inr ⟨k0, lo0, n0, hl0, e0, h3⟩
end Go.Ev
