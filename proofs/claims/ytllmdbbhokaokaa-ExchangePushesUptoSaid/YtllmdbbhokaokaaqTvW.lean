/-
A loop's rounds, where the loop ranges over a function: the contract of its yield.
-/
import Derived.Test.YtllmdbbhokaokaaqTvV
set_option linter.unusedVariables false
set_option linter.unusedSimpArgs false
namespace Go.Ev
open Go
def Free (g : Gh) (H : Nat → Ent) (l : Nat) : Prop := ∀ b lo, OwnP g H b lo → b ≠ l
theorem Free.own {g g' : Gh} {H H' : Nat → Ent} {w w' : World} {l : Nat} (h : EvoP g H w g' H' w') (hl : l < w.heap.size) (hf : Free g H l) : Free g' H' l := fun b lo ho hb => by
  subst hb
  rcases h.own b lo ho with h1 | ⟨lo0, h1, _⟩
  · omega
  · exact hf b lo0 h1 rfl
theorem Free.obj {g g' : Gh} {H H' : Nat → Ent} {w w' : World} {l : Nat} {r : Loop} (h : EvoP g H w g' H' w') (hl : w.heap[l]? = some (.loop r)) (hf : Free g H l) : w'.heap[l]? = some (.loop r) :=
  h.fr.objs l _ hl (by intros; simp) fun k ⟨lo, ho, _⟩ => hf l lo ho rfl
theorem WRelP.putFree {g : Gh} {H : Nat → Ent} {w : World} (h : WRelP g H w) {l : Nat} {r : Loop} (hl : w.heap[l]? = some (.loop r)) (hf : Free g H l) (o : Obj) : WRelP g H (w.putObj l o) := by
  refine ⟨⟨fun b k v e => ?_, fun id => (h.base.ent id).keep g.le_refl (fun _ => rfl) fun b lo n hlv e => ⟨World.putObj_heap_other (hf b lo (.inl ⟨id, n, hlv, e⟩)), fun _ _ => rfl⟩, h.base.fresh, h.base.inj⟩, h.pool.one, fun p ms j cells h1 h2 => ?_, h.pool.new, h.pool.sep, h.pool.dis⟩
  · obtain ⟨cs, T, fr, h1, h2⟩ := heap_of_cell? (h.base.imm b k v e)
    have hne : b ≠ l := fun e => by subst e; rw [hl] at h1; cases h1
    rw [cell?_of_heap (by rw [World.putObj_heap_other hne]; exact h1)]
    exact h2
  · rcases h.pool.mem p ms j cells h1 h2 with h0 | ⟨b, n, cs, T, fr, e1, e2, e3⟩
    · exact .inl h0
    · exact .inr ⟨b, n, cs, T, fr, e1, (World.putObj_heap_other (hf b 0 (.inr ⟨rfl, j, n, ⟨p, ms, cells, h1, h2⟩, e1⟩))).trans e2, e3⟩
theorem EvoP.both {g g' : Gh} {H H' : Nat → Ent} {w w' : World} (h : EvoP g H w g' H' w') {l : Nat} {r : Loop} (hl : w.heap[l]? = some (.loop r)) (hf : Free g H l) (o : Obj) : EvoP g H (w.putObj l o) g' H' (w'.putObj l o) := by
  have hlt := lt_of_heap hl
  have hl' := hf.obj h hl
  refine ⟨h.al, h.le, h.rel.putFree hl' (hf.own h hlt) o, ⟨?_, h.fr.os, h.fr.out, fun b cs T fr e => ?_, fun b o' e hne hM => ?_⟩, fun b k v e => ?_, fun b lo ho => ?_⟩
  · rw [World.putObj_size, World.putObj_size]; exact h.fr.size
  · by_cases hb : b = l
    · subst hb
      rw [World.putObj_heap_same hlt] at e
      cases e
      exact ⟨cs, fr, World.putObj_heap_same (lt_of_heap hl'), rfl, fun _ _ => rfl, .inl rfl⟩
    · rw [World.putObj_heap_other hb] at e ⊢
      exact h.fr.cells b cs T fr e
  · by_cases hb : b = l
    · subst hb
      rw [World.putObj_heap_same hlt] at e
      cases e
      exact World.putObj_heap_same (lt_of_heap hl')
    · rw [World.putObj_heap_other hb] at e ⊢
      exact h.fr.objs b o' e hne hM
  · rw [World.putObj_size]; exact h.grow b k v e
  · rw [World.putObj_size]; exact h.own b lo ho
theorem EvoP.round {g g' : Gh} {H H' : Nat → Ent} {w w3 : World} (hW : WRelP g H w) {id l : Nat} {r r1 r2 r3 : Loop} (hlive : (H id).live) (hρ : g.ρ id = some (l, 0, 0)) (hl : w.heap[l]? = some (.loop r))
    (h : EvoP g (upd H id .dead) (w.putObj l (.loop r1)) g' H' w3) (hl3 : w3.heap[l]? = some (.loop r2)) (hf : Free g' H' l) (e : Ent) (hel : e.live) (he : EntRel g' (w3.putObj l (.loop r3)) id e) : EvoP g H w g' (upd H' id e) (w3.putObj l (.loop r3)) := by
  have hlt := lt_of_heap hl
  have hlt3 := lt_of_heap hl3
  have hlv : ∀ k, (upd H id .dead k).live → (H k).live := fun k hk => by
    by_cases hki : k = id
    · subst hki; exact hlive
    · rw [upd_ne _ _ hki] at hk; exact hk
  have hρ' : g'.ρ id = some (l, 0, 0) := h.le.ρ _ _ hρ
  have hnp : ∀ ms, H id ≠ .pool ms := fun ms q => by have := hW.base.pool_ρ q; rw [this] at hρ; cases hρ
  have hnp' : ∀ ms, H' id ≠ .pool ms := fun ms q => by have := h.rel.base.pool_ρ q; rw [this] at hρ'; cases hρ'
  have hne' : ∀ ms, e ≠ .pool ms := fun ms q => by
    subst q
    have q : g'.ρ id = none := he
    rw [q] at hρ'; cases hρ'
  have hpd : ∀ p ms, upd H id .dead p = .pool ms ↔ H p = .pool ms := pool_upd hnp (fun ms q => by cases q)
  have hpe : ∀ p ms, upd H' id e p = .pool ms ↔ H' p = .pool ms := pool_upd hnp' hne'
  have hOd : ∀ b lo, OwnP g (upd H id .dead) b lo → OwnP g H b lo := fun b lo ho => by
    rcases ho with ⟨k, n, h1, h2⟩ | ⟨h0, j, n, ⟨p, ms, c, m1, m2⟩, h2⟩
    · exact .inl ⟨k, n, hlv k h1, h2⟩
    · exact .inr ⟨h0, j, n, ⟨p, ms, c, (hpd p ms).1 m1, m2⟩, h2⟩
  have hM : ∀ b o, MutP g (upd H id .dead) b o → MutP g H b o := fun b o ⟨lo, h1, h2⟩ => ⟨lo, hOd b lo h1, h2⟩
  have hmem : ∀ j, Mem (upd H' id e) j → Mem H' j := fun j ⟨p, ms, c, m1, m2⟩ => ⟨p, ms, c, (hpe p ms).1 m1, m2⟩
  have hpf := h.rel.putFree hl3 hf (.loop r3)
  refine ⟨fun hno => ?_, h.le, ⟨⟨hpf.base.imm, fun k => ?_, fun k hk => ?_, fun k k' x x' hne hk hk' a b => ?_⟩, fun p p' ms ms' a b => hpf.pool.one p p' ms ms' ((hpe _ _).1 a) ((hpe _ _).1 b), fun p ms j cells a b => hpf.pool.mem p ms j cells ((hpe _ _).1 a) b, fun p ms j a b => hpf.pool.new p ms j ((hpe _ _).1 a) b, fun k x j b n hk a hm c => ?_, fun j j' b b' n n' hne hm hm' a c => hpf.pool.dis j j' b b' n n' hne (hmem j hm) (hmem j' hm') a c⟩,
    ⟨?_, h.fr.os, h.fr.out, fun b cs T fr ec => ?_, fun b o ec hne hM' => ?_⟩, fun b o v ev => ?_, fun b lo ho => ?_⟩
  · obtain ⟨q1, q2⟩ := h.al fun p ms q => hno p ms ((hpd p ms).1 q)
    exact ⟨q1, fun p ms q => q2 p ms ((hpe p ms).1 q)⟩
  · by_cases hki : k = id
    · subst hki; rw [upd_same]; exact he
    · rw [upd_ne _ _ hki]; exact hpf.base.ent k
  · by_cases hki : k = id
    · subst hki; rw [upd_same] at hk; subst hk; exact hel.elim
    · rw [upd_ne _ _ hki] at hk; exact hpf.base.fresh k hk
  · obtain ⟨b1, lo1, n1⟩ := x
    obtain ⟨b2, lo2, n2⟩ := x'
    by_cases hki : k = id
    · subst hki
      rw [upd_ne _ _ (Ne.symm hne)] at hk'
      rw [hρ'] at a; cases a
      exact fun q => hf b2 lo2 (.inl ⟨k', n2, hk', b⟩) q.symm
    · rw [upd_ne _ _ hki] at hk
      by_cases hki' : k' = id
      · subst hki'
        rw [hρ'] at b; cases b
        exact hf b1 lo1 (.inl ⟨k, n1, hk, a⟩)
      · rw [upd_ne _ _ hki'] at hk'
        exact hpf.base.inj k k' _ _ hne hk hk' a b
  · by_cases hki : k = id
    · subst hki
      rw [hρ'] at a; cases a
      exact fun q => hf b 0 (.inr ⟨rfl, j, n, hmem j hm, c⟩) q.symm
    · rw [upd_ne _ _ hki] at hk
      exact hpf.pool.sep k x j b n hk a (hmem j hm) c
  · have := h.fr.size; rw [World.putObj_size] at this ⊢; exact this
  · have hb : b ≠ l := fun q => by subst q; rw [hl] at ec; cases ec
    obtain ⟨cs', fr', e1, e2, e3, e4⟩ := h.fr.cells b cs T fr (by rw [World.putObj_heap_other hb]; exact ec)
    exact ⟨cs', fr', by rw [World.putObj_heap_other hb]; exact e1, e2, fun o ho => e3 o fun hm => ho (hM b o hm), e4.imp_right fun ⟨o, ho⟩ => ⟨o, hM b o ho⟩⟩
  · have hb : b ≠ l := fun q => by subst q; exact hM' 0 ⟨0, .inl ⟨id, 0, hlive, hρ⟩, Nat.le_refl _⟩
    rw [World.putObj_heap_other hb]
    exact h.fr.objs b o (by rw [World.putObj_heap_other hb]; exact ec) hne fun k hk => hM' k (hM b k hk)
  · rcases h.grow b o v ev with q | q | q
    · exact .inl q
    · rw [World.putObj_size] at q; exact .inr (.inl q)
    · exact .inr (.inr (hM b o q))
  · have key : ∀ {b lo}, OwnP g' H' b lo → w.heap.size ≤ b ∨ ∃ lo0, OwnP g H b lo0 ∧ lo0 ≤ lo := fun {b lo} ho => by
      rcases h.own b lo ho with q | ⟨lo0, h1, h2⟩
      · rw [World.putObj_size] at q; exact .inl q
      · exact .inr ⟨lo0, hOd b lo0 h1, h2⟩
    rcases ho with ⟨k, n, hk, ec⟩ | ⟨h0, j, n, hm, ec⟩
    · by_cases hki : k = id
      · subst hki
        rw [hρ'] at ec; cases ec
        exact .inr ⟨0, .inl ⟨k, 0, hlive, hρ⟩, Nat.le_refl _⟩
      · rw [upd_ne _ _ hki] at hk
        exact key (.inl ⟨k, n, hk, ec⟩)
    · exact key (.inr ⟨h0, j, n, hmem j hm, ec⟩)
section
variable {τ : Nat → Type}
def Dat.atRound (D : Dat τ) (l : Nat) : Dat τ := { D with D := { D.D with E := { D.D.E with ro := some l } }, inr := true }
theorem flatFs_ro (E : Env) (r : Option Nat) (F : TypeId → Option (List Kd)) : ∀ (l : List Field) (o : Nat), flatFs { E with ro := r } F o l = flatFs E F o l
  | [], o => rfl
  | x :: l, o => by
    have ih := flatFs_ro E r F l
    simp only [flatFs, ih]
theorem flatK_ro (E : Env) (r : Option Nat) : ∀ (k : Nat) (t : TypeId), flatK { E with ro := r } k t = flatK E k t
  | 0, t => rfl
  | k + 1, t => by
    have ih : flatK { E with ro := r } k = flatK E k := funext (flatK_ro E r k)
    simp only [flatK, ih, flatFs_ro]
theorem eqOk_ro {E : Env} (r : Option Nat) (h : E.EqOk) : Env.EqOk { E with ro := r } := fun t ks hk => by
  have := h t ks hk
  rw [flatK_ro]; exact this
theorem atRound_ok {D : Dat τ} (h : D.Ok) (l : Nat) : (D.atRound l).Ok where
  ok := ⟨h.ok.E, eqOk_ro _ h.ok.Q, h.ok.C, h.ok.zero⟩
  good := ⟨h.good.ty, eqOk_ro _ h.good.eq, h.good.mixed⟩
  tbl := fun f c hc N a b r hr => by
    have := h.tbl f c hc N a b r hr
    revert this
    cases Nat.beq f yieldF <;> cases c.ext <;> exact id
  ro := fun h => nomatch h
def parT : List (TV τ) → List Tmp → List (TV τ) → List (TV τ)
  | t, p :: ps, x :: xs => parT (tset t p x) ps xs
  | t, _, _ => t
def entryY (C : Cod τ) (ps : List Tmp) (xs shs : List Sh) (L0 : List ESh) (a : Sh.Ts τ xs) (b : Sh.Ts τ shs × ESh.Ts τ L0) : TSt τ :=
  ⟨parT (Sh.encs C shs b.1) ps (Sh.encs C xs a), .dead :: ESh.encs C L0 b.2, [], [], []⟩
def runY {X : Type} (D : Dat τ) (N n : Nat) (asg body : Code) (st : TSt τ) (K : Exit → TSt τ → Option X) : Option X :=
  run D N n [.code asg] st fun e st1 => match e with | .normal => run D N n [.code body] st1 K | _ => none
def stopY (D : TEnv τ) {R : Type} (ta : Option ((A : Alt τ R) × (A.ret.T τ → ESh.Ts τ A.L' → R))) (k0 q : Nat) (st : TSt τ) : Option R :=
  match ta with
  | some ⟨A, t⟩ => endX D A.ret A.L' t k0 (.bool false) { st with h := tput st.h 0 (.rdn q) }
  | none => none
def finY (D : TEnv τ) (ret : Sh) (L' : List ESh) {R : Type} (to : ret.T τ → ESh.Ts τ L' → R) (ta : Option ((A : Alt τ R) × (A.ret.T τ → ESh.Ts τ A.L' → R))) (k0 f k : Nat) (ts : List (TV τ)) (e : Exit) (st : TSt τ) : Option R :=
  match e with
  | .normal => endX D ret L' to k0 (.bool true) { st with h := tput st.h 0 (.rcd f k ts) }
  | .ret => stopY D ta k0 0 st
  | .exit i => stopY D ta k0 (i + 1) st
  | _ => none
theorem parT_rel {C : Cod τ} {g : Gh} : ∀ (ps : List Tmp) (t xs : List (TV τ)) (tm : Array Value) (vs : List Value), LRel g (TV.denL C t) tm.toList → LRel g (TV.denL C xs) vs →
    LRel g (TV.denL C (parT t ps xs)) ((ps.zip vs).foldl (fun (tm : Array Value) p => tm.setIfInBounds p.1 p.2) tm).toList
  | [], t, xs, tm, vs, h, _ => by simpa [parT] using h
  | p :: ps, t, [], tm, vs, h, hx => by
    cases vs with
    | nil => simpa [parT] using h
    | cons v vs => have := hx.1; simp [denL_eq] at this
  | p :: ps, t, x :: xs, tm, [], h, hx => by have := hx.1; simp [denL_eq] at this
  | p :: ps, t, x :: xs, tm, v :: vs, h, hx => by
    simp only [parT, List.zip_cons_cons, List.foldl_cons]
    have hx0 : VRel g (x.den C) v := hx.2 0 _ _ rfl rfl
    refine parT_rel ps _ xs _ vs ?_ ⟨by have := hx.1; simpa [denL_eq] using this, fun k y c a b => hx.2 (k + 1) y c a b⟩
    have hset : TV.denL C (tset t p x) = setT (TV.denL C t) p (x.den C) := by
      have key : ∀ (t : List (TV τ)) (p : Nat), TV.denL C (tset t p x) = setT (TV.denL C t) p (x.den C) := by
        intro t
        induction t with
        | nil => intro p; rfl
        | cons y t ih =>
          intro p
          cases p with
          | zero => rfl
          | succ p => simp only [tset, TV.denL, setT, ih]
      exact key t p
    rw [hset]
    refine ⟨by rw [length_setT]; simpa using h.1, fun k y c a b => ?_⟩
    rw [getElem?_setT] at a
    split at a
    · rename_i hk
      obtain ⟨rfl, hlt⟩ := hk
      cases a
      have hlt' : k < tm.size := by have := h.1; simp at this; omega
      rw [Array.toList_setIfInBounds, List.getElem?_set_self (by simpa using hlt')] at b
      cases b; exact hx0
    · rename_i hk
      by_cases hkp : k = p
      · subst hkp
        have hge : ¬ k < (TV.denL C t).length := fun h' => hk ⟨rfl, h'⟩
        rw [List.getElem?_eq_none (by omega)] at a; cases a
      · rw [Array.toList_setIfInBounds, List.getElem?_set_ne (Ne.symm hkp)] at b
        exact h.2 k y c a b
theorem con_yield {D : Dat τ} (hD : D.Ok) {f k : Nat} {ps : List Tmp} {asg body : Code} {xs shs : List Sh} {L0 : List ESh} {ret : Sh} {L' : List ESh} {R : Type} {dflt : R} {F : Nat → Sh.Ts τ (.yld 0 :: xs) → ESh.Ts τ (.rcd f k shs :: L0) → Option R} {of : R → ret.T τ × ESh.Ts τ L'} {alt : Option (Alt τ R)} {sel : R → Bool}
    (hsite : D.D.C.site f k = (ps.toArray, asg, body)) (hlen : Nat.beq xs.length ps.length = true) (to : ret.T τ → ESh.Ts τ L' → R) (ta : Option ((A : Alt τ R) × (A.ret.T τ → ESh.Ts τ A.L' → R))) (hto : ∀ a b, of (to a b) = (a, b)) (hta : alt = ta.map (·.1))
    (hs1 : ∀ A t, ta = some ⟨A, t⟩ → (∀ a b, sel (to a b) = false) ∧ (∀ a b, sel (t a b) = true) ∧ ∀ a b, A.of (t a b) = (a, b)) (n : Nat) (hok1 : codeOk asg = true) (hok2 : codeOk body = true) (hn1 : noRf asg = true) (hn2 : noRf body = true) (hk : Nat.beq D.k0 (L0.length + 1) = true)
    (h : ∀ l N a b, runY (D.atRound l) N n asg body (entryY D.D.C ps xs shs L0 a.2 b) (finY D.D ret L' to ta D.k0 f k (Sh.encs D.D.C shs b.1)) = F N a b) :
    ConOk D.D.E D.D.C yieldF { args := .yld 0 :: xs, L := .rcd f k shs :: L0, ret := ret, L' := L', R := R, dflt := dflt, F := F, of := of, alt := alt, sel := sel } := by
  intro N a b r hr
  rw [show Nat.beq yieldF yieldF = true from rfl]
  intro g w cargs l hW hargs
  have hk := Nat.eq_of_beq_eq_true hk
  have hlen := Nat.eq_of_beq_eq_true hlen
  have hr1 : F N a b = some r := hr
  have hr2 := (h l N a b).trans hr1
  clear hr hr1
  have hout1 : alt = none ∨ sel r = false → Con.out D.D.C { args := .yld 0 :: xs, L := .rcd f k shs :: L0, ret := ret, L' := L', R := R, dflt := dflt, F := F, of := of, alt := alt, sel := sel } r = (ret.enc D.D.C (of r).1, ESh.encs D.D.C L' (of r).2) := fun hq => by
    unfold Con.out
    cases alt with
    | none => rfl
    | some A => rcases hq with hq | hq
                · cases hq
                · simp only [hq, cond_false]; rfl
  have hout2 : ∀ A, alt = some A → sel r = true → Con.out D.D.C { args := .yld 0 :: xs, L := .rcd f k shs :: L0, ret := ret, L' := L', R := R, dflt := dflt, F := F, of := of, alt := alt, sel := sel } r = A.out D.D.C r := fun A ha hq => by
    unfold Con.out
    subst ha
    simp only [hq, cond_true]
  generalize hoo : Con.out D.D.C { args := .yld 0 :: xs, L := .rcd f k shs :: L0, ret := ret, L' := L', R := R, dflt := dflt, F := F, of := of, alt := alt, sel := sel } r = out at hout1 hout2 ⊢
  clear hoo
  replace hW : WRelP g (hget ((ESh.encs D.D.C (.rcd f k shs :: L0) b).map (TEnt.den D.D.C))) w := hW
  replace hargs : LRel g (TV.denL D.D.C (Sh.encs D.D.C (.yld 0 :: xs) a)) (#[Value.func (.yield l) #[] #[]] ++ cargs).toList := hargs
  show YieldAt Fence.wide 0 D.D.E.P l cargs w fun e w' => ∃ v g', e = .returned v ∧ VRel g' (out.1.den D.D.C) v ∧ EvoP g (hget ((ESh.encs D.D.C (.rcd f k shs :: L0) b).map (TEnt.den D.D.C))) w g' (hget (out.2.map (TEnt.den D.D.C))) w'
  generalize hHL : hget ((ESh.encs D.D.C (.rcd f k shs :: L0) b).map (TEnt.den D.D.C)) = HL at hW ⊢
  have hL0 : HL 0 = .rcd ps.toArray asg body (TV.denL D.D.C (Sh.encs D.D.C shs b.1)) := by
    rw [← hHL]
    show (TEnt.rcd f k (Sh.encs D.D.C shs b.1) : TEnt τ).den D.D.C = _
    simp only [TEnt.den, hsite]
  have hlv0 : (HL 0).live := by rw [hL0]; trivial
  have he0 := hW.base.ent 0
  rw [hL0] at he0
  obtain ⟨l0, fn, tm, df, k1, k2, k3⟩ := he0
  have hy : VRel g (.yld 0) (Value.func (.yield l) #[] #[]) := hargs.2 0 _ _ rfl (by simp)
  cases hy with
  | yld ey =>
  rw [k1] at ey
  simp only [Option.some.injEq, Prod.mk.injEq, and_true] at ey
  have ey := ey.symm
  subst ey
  have hxs : LRel g (TV.denL D.D.C (Sh.encs D.D.C xs a.2)) cargs.toList := by
    refine ⟨by have := hargs.1; simpa [Sh.encs, TV.denL] using this, fun j x c hx hc => hargs.2 (j + 1) x c hx ?_⟩
    simpa using hc
  have hsz : cargs.size = ps.length := by
    have := hxs.1
    rw [denL_eq, List.length_map, encs_length] at this
    simp at this; omega
  refine ⟨fn, _, asg, body, run_yield k2 (by simp [hsz]), ?_⟩
  refine roundIn_of_wpIn (F := Fence.wide) trivial ?_
  -- the round's first state
  have htm : LRel g (TV.denL D.D.C (parT (Sh.encs D.D.C shs b.1) ps (Sh.encs D.D.C xs a.2))) ((ps.toArray.zip cargs).foldl (fun tmps (x : Tmp × Value) => match x with | (t, a) => tmps.setIfInBounds t a) tm).toList := by
    have := parT_rel ps _ _ tm cargs.toList k3 hxs
    have e : (ps.toArray.zip cargs).foldl (fun tmps (x : Tmp × Value) => match x with | (t, a) => tmps.setIfInBounds t a) tm = (ps.zip cargs.toList).foldl (fun (tm : Array Value) p => tm.setIfInBounds p.1 p.2) tm := by
      rw [← Array.foldl_toList, Array.toList_zip]
    rw [e]; exact this
  generalize hT : (ps.toArray.zip cargs).foldl (fun tmps (x : Tmp × Value) => match x with | (t, a) => tmps.setIfInBounds t a) tm = T at htm
  have hmem : ∀ (ps : List Tmp) (t xs : List (TV τ)) (x : TV τ), x ∈ parT t ps xs → x ∈ t ∨ x ∈ xs := by
    intro ps
    induction ps with
    | nil => intro t xs x hx; left; cases xs <;> exact hx
    | cons p ps ih =>
      intro t xs x hx
      cases xs with
      | nil => exact .inl hx
      | cons y ys =>
        rcases ih (tset t p y) ys x hx with h1 | h1
        · have hset : ∀ (t : List (TV τ)) (p : Nat), x ∈ tset t p y → x ∈ t ∨ x = y := by
            intro t
            induction t with
            | nil => intro p hx; cases hx
            | cons z t iht =>
              intro p hx
              cases p with
              | zero => rcases List.mem_cons.1 hx with h2 | h2
                        · exact .inr h2
                        · exact .inl (List.mem_cons_of_mem _ h2)
              | succ p => rcases List.mem_cons.1 hx with h2 | h2
                          · exact .inl (by rw [h2]; simp)
                          · exact (iht p h2).imp (List.mem_cons_of_mem _) id
          rcases hset t p h1 with h2 | h2
          · exact .inl h2
          · exact .inr (by rw [h2]; simp)
        · exact .inr (List.mem_cons_of_mem _ h1)
  have hnc : ∀ x ∈ (entryY D.D.C ps xs shs L0 a.2 b).t, ∀ d w b y, x ≠ .cnd d w b y := fun x hx => by
    rcases hmem ps _ _ x hx with h1 | h1
    · exact encs_nocnd hD.ok.C _ _ x h1
    · exact encs_nocnd hD.ok.C _ _ x h1
  have hg0 : Gd (entryY D.D.C ps xs shs L0 a.2 b) := by
    refine ⟨fun j d w q y e => ?_, fun g hg => by cases hg⟩
    rcases tnth_mem (t := (entryY D.D.C ps xs shs L0 a.2 b).t) (k := j) with hm | hm
    · rw [e] at hm; exact absurd rfl (hnc _ hm d w q y)
    · rw [e] at hm; cases hm
  have hden : (denS D.D.C (entryY D.D.C ps xs shs L0 a.2 b)).t = TV.denL D.D.C (parT (Sh.encs D.D.C shs b.1) ps (Sh.encs D.D.C xs a.2)) := by
    rw [denL_eq]
    refine List.map_congr_left fun x hx => ?_
    cases x with
    | cnd d w b y => exact absurd rfl (hnc _ hx d w b y)
    | _ => rfl
  have hHD : hget (denS D.D.C (entryY D.D.C ps xs shs L0 a.2 b)).h = upd HL 0 .dead := by
    funext j
    rw [← hHL]
    cases j with
    | zero => rw [upd_same]; rfl
    | succ j => rw [upd_ne _ _ (by omega)]; rfl
  have hE0b : Evo g HL w g (upd HL 0 .dead) w := Evo.forget hW.base _ fun j => by
    by_cases hj : j = 0
    · subst hj; right; rw [upd_same]
    · left; rw [upd_ne _ _ hj]
  have hE0 : EvoP g HL w g (upd HL 0 .dead) w := hE0b.toP hW.pool (pool_upd (fun ms q => by rw [hL0] at q; cases q) (fun ms q => by cases q))
  have hfree : Free g (upd HL 0 .dead) l := fun b lo ho hb => by
    rcases ho with ⟨id, n, hlv, e⟩ | ⟨_, j, n, ⟨p, ms, c, m1, m2⟩, e⟩
    · by_cases hid : id = 0
      · subst hid; rw [upd_same] at hlv; exact hlv.elim
      · rw [upd_ne _ _ hid] at hlv
        subst hb
        exact hW.base.inj id 0 _ _ hid hlv hlv0 e k1 rfl
    · by_cases hp : p = 0
      · subst hp; rw [upd_same] at m1; cases m1
      · rw [upd_ne _ _ hp] at m1
        exact hW.pool.sep 0 _ j b n hlv0 k1 ⟨p, ms, c, m1, m2⟩ e hb.symm
  have hids : ∀ id x, g.ρ id = some x → id < D.k0 := fun id x e => by
    rcases Nat.lt_or_ge id D.k0 with h' | h'
    · exact h'
    · rw [hW.base.fresh id (by rw [← hHL]; exact hget_ge _ _ (by rw [List.length_map, length_encs]; simp; omega))] at e; cases e
  -- what a round's end says
  let Qy : Exit → St → Prop := fun e s =>
    (e = .normal ∧ (alt = none ∨ sel r = false) ∧ ∃ θ, (∀ j, j < D.k0 → θ j = some j) ∧ RW θ (.v (.bool true)) ((ret.enc D.D.C (of r).1).den D.D.C) ∧ Rens θ (upd (hget s.h) 0 (.rcd ps.toArray asg body (TV.denL D.D.C (Sh.encs D.D.C shs b.1)))) (hget ((ESh.encs D.D.C L' (of r).2).map (TEnt.den D.D.C)))) ∨
    (∃ q A, ((e = .ret ∧ exitOf q = .ret) ∨ ∃ i, e = .exit i ∧ exitOf q = .exit i) ∧ alt = some A ∧ sel r = true ∧ ∃ θ, (∀ j, j < D.k0 → θ j = some j) ∧ RW θ (.v (.bool false)) ((A.out D.D.C r).1.den D.D.C) ∧ Rens θ (upd (hget s.h) 0 (.rdn (exitOf q))) (hget ((A.out D.D.C r).2.map (TEnt.den D.D.C))))
  have hput : ∀ (st' : TSt τ) (e : TEnt τ), hget (denS D.D.C { st' with h := tput st'.h 0 e }).h = upd (hget (denS D.D.C st').h) 0 (e.den D.D.C) := fun st' e => by
    show hget ((tput st'.h 0 e).map (TEnt.den D.D.C)) = _
    rw [← setH_den, hget_setH]; rfl
  have hfin : ∀ e st', finY D.D ret L' to ta D.k0 f k (Sh.encs D.D.C shs b.1) e st' = some r → Qy e (denS D.D.C st') := fun e st' hf => by
    have hstop : ∀ q, ((e = .ret ∧ exitOf q = .ret) ∨ ∃ i, e = .exit i ∧ exitOf q = .exit i) → stopY D.D ta D.k0 q st' = some r → Qy e (denS D.D.C st') := fun q hq hx => by
      cases hta' : ta with
      | none => rw [hta'] at hx; cases hx
      | some At =>
        obtain ⟨A, t⟩ := At
        rw [hta'] at hx
        obtain ⟨s1, s2, s3⟩ := hs1 A t hta'
        obtain ⟨⟨p, q', hrr⟩, θ, t1, t2, t3⟩ := endX_sound (of := A.of) hD.ok s3 hx
        refine .inr ⟨q, A, hq, by rw [hta, hta']; rfl, by rw [hrr]; exact s2 _ _, θ, t1, t2, ?_⟩
        rw [hput] at t3
        exact t3
    cases e with
    | normal =>
      obtain ⟨⟨p, q, hrr⟩, θ, t1, t2, t3⟩ := endX_sound (of := of) hD.ok hto hf
      refine .inl ⟨rfl, ?_, θ, t1, t2, ?_⟩
      · cases hta' : ta with
        | none => left; rw [hta, hta']; rfl
        | some At =>
          obtain ⟨A, t⟩ := At
          right; rw [hrr]; exact (hs1 A t hta').1 _ _
      · rw [hput] at t3
        have : (TEnt.rcd f k (Sh.encs D.D.C shs b.1) : TEnt τ).den D.D.C = .rcd ps.toArray asg body (TV.denL D.D.C (Sh.encs D.D.C shs b.1)) := by simp only [TEnt.den, hsite]
        rw [this] at t3
        exact t3
    | ret => exact hstop 0 (.inl ⟨rfl, rfl⟩) hf
    | exit i => exact hstop (i + 1) (.inr ⟨i, rfl, rfl⟩) hf
    | _ => cases hf
  have hA1 : AWp (D.atRound l).D.E D.k0 asg (denS D.D.C (entryY D.D.C ps xs shs L0 a.2 b)) fun e s => e = .normal ∧ AWp (D.atRound l).D.E D.k0 body s Qy := by
    refine run_sound (atRound_ok hD l) n [.code asg] _ _ (fun e s => e = .normal ∧ AWp (D.atRound l).D.E D.k0 body s Qy) (fun e st' hk' hg' _ => ?_) hg0 ⟨⟨hok1, subOk_no hn1⟩, trivial⟩ hr2
    cases e with
    | normal =>
      refine ⟨rfl, ?_⟩
      exact run_sound (atRound_ok hD l) n [.code body] st' _ Qy (fun e st2 hk2 _ _ => hfin e st2 hk2) hg' ⟨⟨hok2, subOk_no hn2⟩, trivial⟩ hk'
    | _ => cases hk'
  have hSt : StRel g (denS D.D.C (entryY D.D.C ps xs shs L0 a.2 b)) { tmps := T, defers := [] } w := by
    refine ⟨by rw [hden]; simpa using htm.1, fun j x c hx hc => ?_, by rw [hHD]; exact hE0.rel⟩
    rw [hden] at hx
    exact htm.2 j x c hx (by simpa using hc)
  have hw1 := hA1 g _ w hSt g (upd HL 0 .dead) w hids (by rw [hHD]; exact .refl hE0.rel) DefOk.none
  refine wpIn_mono (F := Fence.wide.inRound l) hw1 fun e a1 w1 hp => ?_
  obtain ⟨s1, g1, ⟨rfl, hB⟩, q1, q2, q3⟩ := hp
  have hl1 := hfree.obj q2 k2
  refine ⟨_, run_beginRound hl1 rfl, ?_⟩
  have hEb := q2.both k2 hfree (.loop { state := .busy, pending := none, fn := fn, tmps := tm, params := ps.toArray, assign := asg, body := body, defers := df })
  have hlt := lt_of_heap k2
  have hdf1 : DefOk (w.putObj l (.loop { state := .busy, pending := none, fn := fn, tmps := tm, params := ps.toArray, assign := asg, body := body, defers := df })) a1 (w1.putObj l (.loop { state := .busy, pending := none, fn := fn, tmps := tm, params := ps.toArray, assign := asg, body := body, defers := df })) := by
    obtain ⟨Ds, d1, d2, d3⟩ := q3
    refine ⟨Ds, d1, d2, fun D hD => ⟨by rw [World.putObj_size]; exact (d3 D hD).1, ?_⟩⟩
    have hne : D ≠ l := fun e => by subst e; have := (d3 D hD).2; rw [hl1] at this; cases this
    rw [World.putObj_heap_other hne]; exact (d3 D hD).2
  have hw2 := hB g1 a1 _ ⟨q1.len, q1.t, hEb.rel⟩ g (upd HL 0 .dead) _ hids hEb hdf1
  refine wpIn_mono (F := Fence.wide.inRound l) hw2 fun e2 a2 w2 hp2 => ?_
  obtain ⟨s2, g2, hQ, p1, p2, p3⟩ := hp2
  have hf2 : Free g2 (hget s2.h) l := Free.own p2 (by rw [World.putObj_size]; exact hlt) hfree
  have hl2 := hfree.obj p2 (World.putObj_heap_same hlt)
  have hρ2 : g2.ρ 0 = some (l, 0, 0) := p2.le.ρ _ _ k1
  have hlt2 := lt_of_heap hl2
  have hren : ∀ (e : Ent) (w4 : World) (rr : AV) (Lf : List Ent) (bb : Bool), (∃ θ, (∀ j, j < D.k0 → θ j = some j) ∧ RW θ (.v (.bool bb)) rr ∧ Rens θ (upd (hget s2.h) 0 e) (hget Lf)) → EvoP g HL w g2 (upd (hget s2.h) 0 e) w4 → ∃ v g', Ending.returned (.bool bb) = .returned v ∧ VRel g' rr v ∧ EvoP g HL w g' (hget Lf) w4 := by
    intro e w4 rr Lf bb ⟨θ, t1, t2, t3⟩ hev
    have hg : hget (setH s2.h 0 e) = upd (hget s2.h) 0 e := hget_setH _ _ _
    have hst0 : StRel g2 ⟨[], setH s2.h 0 e⟩ { tmps := #[], defers := [] } w4 := ⟨rfl, by simp, by rw [hg]; exact hev.rel⟩
    obtain ⟨_, q2⟩ := (StRen.mk (k0 := D.k0) (θ := θ) (s := ⟨[], setH s2.h 0 e⟩) (s' := ⟨[], Lf⟩) t1 ⟨rfl, by simp⟩ (by rw [hg]; exact t3)).sound hst0 hids (by rw [hg]; exact hev)
    exact ⟨_, g2.ren θ, rfl, t2 _ _ (.v _), q2⟩
  rcases hQ with ⟨rfl, ha, hθ⟩ | ⟨q, A, hq, ha, hsel, hθ⟩
  · refine ⟨_, _, run_endRound none hl2, ?_⟩
    rw [hout1 ha]
    refine hren _ _ _ _ true hθ (EvoP.round hW hlv0 k1 k2 p2 hl2 hf2 _ trivial ?_)
    exact ⟨l, fn, tm, df, hρ2, World.putObj_heap_same hlt2, k3.monoU p2.le⟩
  · have hj : ∀ jc, jc = exitOf q → ∃ v w', (Instr.endRound l (some jc)).run D.D.E.P w2 = .ok v w' ∧ ∃ v' g', Ending.returned v = .returned v' ∧ VRel g' (out.1.den D.D.C) v' ∧ EvoP g HL w g' (hget (out.2.map (TEnt.den D.D.C))) w' := by
      intro jc hjc
      refine ⟨_, _, run_endRound (some jc) hl2, ?_⟩
      rw [hout2 A ha hsel]
      refine hren (.rdn jc) _ _ _ false (by rw [hjc]; exact hθ) (EvoP.round hW hlv0 k1 k2 p2 hl2 hf2 _ trivial ?_)
      exact ⟨l, _, hρ2, World.putObj_heap_same hlt2, rfl, rfl⟩
    rcases hq with ⟨rfl, hq⟩ | ⟨i, rfl, hq⟩
    · exact hj .ret hq.symm
    · exact hj (.exit i) hq.symm
theorem con_round {D : Dat τ} (hD : D.Ok) {f k : Nat} {ps : List Tmp} {xs shs : List Sh} {L0 : List ESh} {ret : Sh} {L' : List ESh} {R : Type} {dflt : R} {F : Nat → Sh.Ts τ (.yld 0 :: xs) → ESh.Ts τ (.rcd f k shs :: L0) → Option R} {of : R → ret.T τ × ESh.Ts τ L'} {alt : Option (Alt τ R)} {sel : R → Bool}
    (hps : (D.D.C.site f k).1 = ps.toArray) (hlen : Nat.beq xs.length ps.length = true) (to : ret.T τ → ESh.Ts τ L' → R) (ta : Option ((A : Alt τ R) × (A.ret.T τ → ESh.Ts τ A.L' → R))) (hto : ∀ a b, of (to a b) = (a, b)) (hta : alt = ta.map (·.1))
    (hs1 : ∀ A t, ta = some ⟨A, t⟩ → (∀ a b, sel (to a b) = false) ∧ (∀ a b, sel (t a b) = true) ∧ ∀ a b, A.of (t a b) = (a, b)) (n : Nat) (hok1 : codeOk (D.D.C.site f k).2.1 = true) (hok2 : codeOk (D.D.C.site f k).2.2 = true) (hn1 : noRf (D.D.C.site f k).2.1 = true) (hn2 : noRf (D.D.C.site f k).2.2 = true) (hk : Nat.beq D.k0 (L0.length + 1) = true)
    (h : ∀ l N a b, runY (D.atRound l) N n (D.D.C.site f k).2.1 (D.D.C.site f k).2.2 (entryY D.D.C ps xs shs L0 a.2 b) (finY D.D ret L' to ta D.k0 f k (Sh.encs D.D.C shs b.1)) = F N a b) :
    ConOk D.D.E D.D.C yieldF { args := .yld 0 :: xs, L := .rcd f k shs :: L0, ret := ret, L' := L', R := R, dflt := dflt, F := F, of := of, alt := alt, sel := sel } :=
  con_yield hD (by rw [← hps]) hlen to ta hto hta hs1 n hok1 hok2 hn1 hn2 hk h
end
@[reducible] def Sl.k : Sl := .keep
@[reducible] def Sl.j : Sl := .junk
end Go.Ev
