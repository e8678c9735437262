/-
Pieces of code at an abstract state; loops; functions.
-/
import Derived.LoopN
import Derived.Test.YteinehkdjkobnaaqTvJ
set_option linter.unusedVariables false
set_option linter.unusedSimpArgs false
set_option linter.unnecessarySimpa false
namespace Go.Ev
open Go
def AWp (E : Env) (k0 : Nat) (c : Code) (st : St) (Q : Exit → St → Prop) : Prop :=
  ∀ g a w, StRel g st a w → ∀ g0 H0 w0, (∀ id x, g0.ρ id = some x → id < k0) → Evo g0 H0 w0 g (hget st.h) w → c.wp E.P (Post g0 H0 w0 Q) a w
theorem Post.mono {g : Gh} {H : Nat → Ent} {w : World} {Q Q' : Exit → St → Prop} (h : ∀ e s, Q e s → Q' e s) {e : Exit} {a : Act} {w' : World} (hp : Post g H w Q e a w') : Post g H w Q' e a w' :=
  let ⟨st', g', h1, h2, h3⟩ := hp; ⟨st', g', h e st' h1, h2, h3⟩
def codeOk : Code → Bool
  | .region _ ops draw => !draw || statOk ops
  | .seq a b => codeOk a && codeOk b
  | .cond _ a b => codeOk a && codeOk b
  | .block _ c => codeOk c
  | .loop c => codeOk c
  | .scope c => codeOk c
  | .rangeFunc _ _ a b => codeOk a && codeOk b
  | _ => true
structure Good (E : Env) : Prop where
  ty : E.Ok
  eq : E.EqOk
  mixed : E.P.follows .mixedOrders = true
theorem AWp.region {E : Env} (hG : Good E) {k0 : Nat} {id : Nat} {ops : Array Oper} {draw : Bool} {st st' : St} {xs : List Rec} {Q : Exit → St → Prop} (hok : codeOk (.region id ops draw) = true)
    (h1 : Recs E ops ops.toList st xs st') (h2 : Q .normal st') (h3 : draw = true → indep (masks ops) (trOf 0 xs []) = true) : AWp E k0 (.region id ops draw) st Q := by
  intro g a w hst g0 H0 w0 _ hev
  have hops : ∀ k o, ops.toList[k]? = some o → ops[0 + k]? = some o := fun k o hk => by rw [Nat.zero_add]; simpa using hk
  cases draw with
  | false =>
    refine wp_region ?_
    have := text_sound ops.toList 0 xs st st' hops h1 g0 H0 w0 g a w Q hst hev h2
    rw [Array.length_toList, ← List.range_eq_range'] at this
    exact this
  | true =>
    have hs : statOk ops = true := by simpa [codeOk] using hok
    obtain ⟨g1, g2, g3⟩ := recs_local ops.toList 0 xs st st st' xs hops (fun k x hk => by rw [Nat.zero_add]; exact hk) rfl h1
    rw [Array.length_toList, Nat.zero_add] at g2
    have g1 : xs.length = ops.size := by simpa using g1
    refine wp_region_any hG.mixed ?_
    refine draw_sound (xs := xs) (st0 := st) hs (pairs_of g1 hs (h3 rfl)) (fun i hi => ?_) g2 h2 ops.size (Array.replicate ops.size false) g a { w with drawn := w.drawn + 1 } (by simp) ?_ ?_ ?_ ?_
    · have := g3 i (ops.getD i default) (xs.getD i default) (by simp [Array.getD, hi]) (by simp [List.getD, List.getElem?_eq_getElem (show i < xs.length by omega)])
      rwa [Nat.zero_add] at this
    · intro j o e hj
      simp [isIn, Array.getD] at hj
    · refine Nat.le_trans (List.length_filter_le _ _) (by simp)
    · have : AD ops xs (isIn (Array.replicate ops.size false)) st ops.size = st := by
        have key : ∀ n, AD ops xs (isIn (Array.replicate ops.size false)) st n = st := by
          intro n
          induction n with
          | zero => rfl
          | succ n ih =>
            have : isIn (Array.replicate ops.size false) n = false := by simp [isIn, Array.getD]
            simp only [AD, this, Bool.false_eq_true, if_false, ih]
        exact key _
      rw [this]
      exact ⟨hst.len, hst.t, hst.defers, hst.rel.drew _⟩
    · have : AD ops xs (isIn (Array.replicate ops.size false)) st ops.size = st := by
        have key : ∀ n, AD ops xs (isIn (Array.replicate ops.size false)) st n = st := by
          intro n
          induction n with
          | zero => rfl
          | succ n ih =>
            have : isIn (Array.replicate ops.size false) n = false := by simp [isIn, Array.getD]
            simp only [AD, this, Bool.false_eq_true, if_false, ih]
        exact key _
      rw [this]
      exact hev.trans (Evo.drew hst.rel _)
section
variable {E : Env} {k0 : Nat} {st : St} {Q : Exit → St → Prop}
theorem AWp.mono {c : Code} {Q' : Exit → St → Prop} (hq : ∀ e s, Q e s → Q' e s) (h : AWp E k0 c st Q) : AWp E k0 c st Q' := fun g a w hst g0 H0 w0 hk hev =>
  wp_mono (h g a w hst g0 H0 w0 hk hev) fun e a' w' hp => hp.mono hq
theorem AWp.skip (h : Q .normal st) : AWp E k0 .skip st Q := fun g a w hst g0 H0 w0 _ hev => wp_skip ⟨st, g, h, hst, hev⟩
theorem AWp.exit {id : Nat} (h : Q (.exit id) st) : AWp E k0 (.exit id) st Q := fun g a w hst g0 H0 w0 _ hev => wp_exit ⟨st, g, h, hst, hev⟩
theorem AWp.ret (h : Q .ret st) : AWp E k0 .ret st Q := fun g a w hst g0 H0 w0 _ hev => wp_ret ⟨st, g, h, hst, hev⟩
theorem AWp.label {l : Nat} (h : Q .normal st) : AWp E k0 (.label l) st Q := fun g a w hst g0 H0 w0 _ hev => wp_label ⟨st, g, h, hst, hev⟩
theorem AWp.seq {x y : Code} (h : AWp E k0 x st fun e s => match e with | .normal => AWp E k0 y s Q | e => Q e s) : AWp E k0 (.seq x y) st Q := fun g a w hst g0 H0 w0 hk hev => by
  refine wp_seq (wp_mono (h g a w hst g0 H0 w0 hk hev) fun e a' w' hp => ?_)
  obtain ⟨st', g', h1, h2, h3⟩ := hp
  cases e with
  | normal => exact h1 g' a' w' h2 g0 H0 w0 hk h3
  | _ => exact ⟨st', g', h1, h2, h3⟩
theorem AWp.block {id : Nat} {c : Code} (h : AWp E k0 c st fun e s => match e with | .exit i => if i = id then Q .normal s else Q (.exit i) s | e => Q e s) : AWp E k0 (.block id c) st Q := fun g a w hst g0 H0 w0 hk hev => by
  refine wp_block (wp_mono (h g a w hst g0 H0 w0 hk hev) fun e a' w' hp => ?_)
  obtain ⟨st', g', h1, h2, h3⟩ := hp
  cases e with
  | exit i =>
    simp only [Exit.inBlock]
    simp only [] at h1
    split
    · rename_i hi; rw [if_pos hi] at h1; exact ⟨st', g', h1, h2, h3⟩
    · rename_i hi; rw [if_neg hi] at h1; exact ⟨st', g', h1, h2, h3⟩
  | _ => exact ⟨st', g', h1, h2, h3⟩
theorem AWp.cond {c : Operand} {x y : Code} {b : Bool} (hv : st.val c = .v (.bool b)) (h1 : b = true → AWp E k0 x st Q) (h2 : b = false → AWp E k0 y st Q) : AWp E k0 (.cond c x y) st Q := fun g a w hst g0 H0 w0 hk hev => by
  have := hst.val c
  rw [hv] at this
  generalize hcv : a.eval c = vc at this
  cases this
  exact wp_cond_split hcv (fun e => h1 e g a w hst g0 H0 w0 hk hev) (fun e => h2 e g a w hst g0 H0 w0 hk hev)
def RU (E : Env) (k0 : Nat) (c : Code) (Q : Exit → St → Prop) : Nat → St → Prop
  | 0, _ => False
  | m + 1, st => AWp E k0 c st fun e s => match e with | .normal => RU E k0 c Q m s | e => Q e s
theorem AWp.rounds {c : Code} {m : Nat} (h : RU E k0 c Q m st) : AWp E k0 (.loop c) st Q := by
  intro g a w hst g0 H0 w0 hk hev
  refine wp_loop_rounds m ?_
  have key : ∀ m st g a w, RU E k0 c Q m st → StRel g st a w → Evo g0 H0 w0 g (hget st.h) w → Code.rounds E.P c (Post g0 H0 w0 Q) m a w := by
    intro m
    induction m with
    | zero => intro st g a w h; exact h.elim
    | succ m ih =>
      intro st g a w h hst hev
      rw [rounds_succ]
      refine wp_mono (h g a w hst g0 H0 w0 hk hev) fun e a' w' hp => ?_
      obtain ⟨st', g2, h1, h2, h3⟩ := hp
      cases e with
      | normal => exact ih st' g2 a' w' h1 h2 h3
      | _ => exact ⟨st', g2, h1, h2, h3⟩
  exact key m st g a w h hst hev
end
theorem AWp.ren {E : Env} {k0 : Nat} {c : Code} {θ : Nat → Option Nat} {s s' : St} {Q : Exit → St → Prop} (hle : StRen k0 θ s s') (h : AWp E k0 c s' Q) : AWp E k0 c s Q := by
  intro g a w hst g0 H0 w0 hk hev
  obtain ⟨hst', hev'⟩ := hle.sound hst hk hev
  exact h _ a w hst' g0 H0 w0 hk hev'
def resOne (E : Env) (st : St) : ResultVar → Option AV
  | .tmp t => some (nth st.t t)
  | .cell a t => evLoad E (hget st.h) t (nth st.t a)
def resAll (E : Env) (st : St) : List ResultVar → Option (List AV)
  | [] => some []
  | x :: r => match resOne E st x, resAll E st r with
    | some v, some vs => some (v :: vs)
    | _, _ => none
def resOf (E : Env) (rs : List ResultVar) (st : St) : Option AV :=
  match resAll E st rs with
  | some [v] => some v
  | some vs => some (.tup vs)
  | none => none
theorem resOne_sound {E : Env} (hE : E.Ok) {g : Gh} {st : St} {a : Act} {w : World} (hst : StRel g st a w) {x : ResultVar} {v : AV} (h : resOne E st x = some v) :
    ∃ c, ((match x with | .tmp t => pure (a.tmps.getD t undef) | .cell b t => do loadVar t (← asAddr (a.tmps.getD b undef)) : Sem Value)).run E.P w = .ok c w ∧ VRel g v c := by
  cases x with
  | tmp t =>
    simp only [resOne, Option.some.injEq] at h
    subst h
    exact ⟨_, rfl, by have := hst.val (.tmp t); simpa [St.val, Act.eval] using this⟩
  | cell b t =>
    simp only [resOne] at h
    have hb := hst.val (.tmp b)
    simp only [St.val, Act.eval] at hb
    obtain ⟨c, h1, h2⟩ := evLoad_sound hE hst.rel hb h
    refine ⟨c, ?_, h2⟩
    simp only [Instr.loadAt, Sem.run_bind] at h1 ⊢
    cases hv : a.tmps.getD b undef with
    | pointer p =>
      rw [hv] at h1
      cases p with
      | some ad => exact h1
      | none => simp [Instr.sureAddr] at h1
    | _ => rw [hv] at h1; simp [Instr.sureAddr] at h1
theorem resAll_sound {E : Env} (hE : E.Ok) {g : Gh} {st : St} {a : Act} {w : World} (hst : StRel g st a w) : ∀ {rs : List ResultVar} {vs : List AV}, resAll E st rs = some vs →
    ∃ cs, (rs.mapM fun x => (match x with | .tmp t => pure (a.tmps.getD t undef) | .cell b t => do loadVar t (← asAddr (a.tmps.getD b undef)) : Sem Value)).run E.P w = .ok cs w ∧ LRel g vs cs
  | [], vs, h => by simp [resAll] at h; subst h; exact ⟨[], rfl, .nil⟩
  | x :: rs, vs, h => by
    simp only [resAll] at h
    split at h
    · rename_i v vs' h1 h2
      cases h
      obtain ⟨c, g1, g2⟩ := resOne_sound hE hst h1
      obtain ⟨cs, g3, g4⟩ := resAll_sound hE hst h2
      refine ⟨c :: cs, ?_, g4.cons g2⟩
      rw [List.mapM_cons, Sem.run_bind, g1, Result.andThen_ok, Sem.run_bind, g3, Result.andThen_ok, Sem.run_pure]
    · cases h
theorem resOf_sound {E : Env} (hE : E.Ok) {g : Gh} {st : St} {a : Act} {w : World} (hst : StRel g st a w) {fn : Func} {v : AV} (h : resOf E fn.results.toList st = some v) :
    ∃ c, (results fn a.tmps).run E.P w = .ok c w ∧ VRel g v c := by
  unfold resOf at h
  have run : ∀ {vs : List AV}, resAll E st fn.results.toList = some vs → ∃ cs : Array Value, LRel g vs cs.toList ∧ (results fn a.tmps).run E.P w = .ok (if h : cs.size = 1 then cs[0] else .tuple cs) w := fun hvs => by
    obtain ⟨cs, h1, h2⟩ := resAll_sound hE hst hvs
    refine ⟨cs.toArray, by simpa using h2, ?_⟩
    unfold results
    rw [Sem.run_bind, Array.mapM_eq_mapM_toList, Sem.run_map]
    exact (congrArg (fun r : Result (List Value) => ((r.andThen fun a w' => .ok a.toArray w').andThen fun a w' => Sem.run E.P (pure (if h : a.size = 1 then a[0] else .tuple a)) w')) (show _ = Result.ok cs w from h1)).trans rfl
  split at h
  · rename_i v' hvs
    cases h
    obtain ⟨cs, h1, h2⟩ := run hvs
    have hsz : cs.size = 1 := by have := h1.1; simpa using this.symm
    rw [dif_pos hsz] at h2
    refine ⟨_, h2, h1.2 0 v _ rfl (by simp [hsz])⟩
  · rename_i vs hne hvs
    cases h
    obtain ⟨cs, h1, h2⟩ := run hvs
    have hsz : cs.size ≠ 1 := fun e => by
      have := h1.1
      rw [show cs.toList.length = 1 by simpa using e] at this
      obtain ⟨y, hy⟩ := List.length_eq_one_iff.1 this
      exact hne y hy
    rw [dif_neg hsz] at h2
    exact ⟨_, h2, .tup (by simpa using h1.1) fun k x c e e' => h1.2 k x c e (by simpa using e')⟩
  · cases h
def Ends (E : Env) (k0 : Nat) (rs : List ResultVar) (r : AV) (L' : List Ent) (e : Exit) (st : St) : Prop :=
  match e with
  | .normal | .ret => ∃ v θ, resOf E rs st = some v ∧ (∀ j, j < k0 → θ j = some j) ∧ RW θ v r ∧ Rens θ (hget st.h) (hget L')
  | _ => False
theorem FnSpec.intro {E : Env} (hG : Good E) {f : FuncId} {fn : Func} {c : Code} (hf : E.P.funcs[f]? = some fn) (hb : fn.body = some c) (hname : (fn.name == "runtime.NumGoroutine") = false)
    {args : List AV} {L L' : List Ent} {r : AV} (h : AWp E L.length c ⟨args ++ List.replicate (fn.ntmps - args.length) .junk, L⟩ (Ends E L.length fn.results.toList r L')) : FnSpec E f args L r L' := by
  refine ⟨⟨fn, hf, by rw [hb]; rfl, hname⟩, fun g w cargs hW ha => calls_of_wp hf hb ?_⟩
  have hst : StRel g ⟨args ++ List.replicate (fn.ntmps - args.length) .junk, L⟩ { tmps := cargs ++ Array.replicate (fn.ntmps - cargs.size) undef, defers := [] } w := by
    have hlen : args.length = cargs.size := by simpa using ha.1
    refine ⟨by simp [hlen], fun k x c e e' => ?_, rfl, hW⟩
    have key : LRel g (args ++ List.replicate (fn.ntmps - args.length) .junk) (cargs.toList ++ List.replicate (fn.ntmps - args.length) undef) :=
      ha.append ⟨by simp, fun k x c e e' => by
        rw [List.getElem?_replicate] at e
        split at e
        · cases e; exact .junk _
        · cases e⟩
    refine key.2 k x c e ?_
    rw [hlen]
    have : (cargs ++ Array.replicate (fn.ntmps - cargs.size) undef).toList = cargs.toList ++ List.replicate (fn.ntmps - cargs.size) undef := by simp
    rw [← this, Array.getElem?_toList]
    exact e'
  have hk : ∀ id x, g.ρ id = some x → id < L.length := fun id x e => by
    rcases Nat.lt_or_ge id L.length with h' | h'
    · exact h'
    · rw [hW.fresh id (hget_ge _ _ h')] at e; cases e
  refine wp_mono (h g _ w hst g (hget L) w hk (.refl hW)) fun e a' w' hp => ?_
  obtain ⟨st', g', h1, h2, h3⟩ := hp
  have fin : (∃ v θ, resOf E fn.results.toList st' = some v ∧ (∀ j, j < L.length → θ j = some j) ∧ RW θ v r ∧ Rens θ (hget st'.h) (hget L')) →
      a'.defers = [] ∧ ∃ v, (results fn a'.tmps).run E.P w' = .ok v w' ∧ ∃ v' g'', Ending.returned v = .returned v' ∧ VRel g'' r v' ∧ Evo g (hget L) w g'' (hget L') w' := by
    rintro ⟨v, θ, hv, hθ, hvr, hre⟩
    obtain ⟨cv, hc1, hc2⟩ := resOf_sound hG.ty h2 hv
    refine ⟨h2.defers, cv, hc1, cv, ?_⟩
    have hst0 : StRel g' ⟨[], st'.h⟩ { tmps := #[], defers := [] } w' := ⟨rfl, by simp, rfl, h2.rel⟩
    obtain ⟨k1, k2⟩ := (StRen.mk (k0 := L.length) (θ := θ) (s := ⟨[], st'.h⟩) (s' := ⟨[], L'⟩) hθ ⟨rfl, by simp⟩ hre).sound hst0 hk h3
    exact ⟨g'.ren θ, rfl, hvr _ _ hc2, k2⟩
  cases e with
  | normal => exact fin h1
  | ret => exact fin h1
  | _ => exact h1.elim
end Go.Ev
