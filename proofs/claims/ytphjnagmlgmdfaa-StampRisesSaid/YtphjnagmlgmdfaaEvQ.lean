/-
The evaluator as a machine with a list of what is still to be done: what is left to a prover where it stops.
-/
import Derived.Test.YtphjnagmlgmdfaaEvP
set_option linter.unusedVariables false
set_option linter.unusedSimpArgs false
set_option linter.unnecessarySimpa false
namespace Go.Ev
open Go

inductive Todo where
  | code (c : Code)
  | ops (ops : Array Oper) (draw : Bool) (i : Nat) (rest : List Oper) (tr : List (Nat × List Nat × List Nat))
  | blk (id : Nat)
  | rep (m : Nat) (c : Code)

def exitAt (id : Nat) : List Todo → Option (List Todo)
  | [] => none
  | .blk i :: t => if id = i then some t else exitAt id t
  | _ :: t => exitAt id t

/-- What the list comes to. -/
def semT (E : Env) (k0 : Nat) : List Todo → (Exit → St → Prop) → Exit → St → Prop
  | [], Q, e, st => Q e st
  | .blk id :: t, Q, e, st => match e with
    | .exit i => if i = id then semT E k0 t Q .normal st else semT E k0 t Q (.exit i) st
    | e => semT E k0 t Q e st
  | .code c :: t, Q, e, st => match e with
    | .normal => wpA E k0 c st (semT E k0 t Q)
    | e => semT E k0 t Q e st
  | .rep m c :: t, Q, e, st => match e with
    | .normal => RW E k0 c (semT E k0 t Q) m st
    | e => semT E k0 t Q e st
  | .ops ops draw i rest tr :: t, Q, e, st => match e with
    | .normal => seqOps E ops draw i rest tr st (semT E k0 t Q .normal)
    | e => semT E k0 t Q e st

theorem semT_exit {E : Env} {k0 : Nat} {Q : Exit → St → Prop} {id : Nat} {st : St} : ∀ {t : List Todo}, (match exitAt id t with | some t' => semT E k0 t' Q .normal st | none => Q (.exit id) st) → semT E k0 t Q (.exit id) st
  | [], h => h
  | .blk i :: t, h => by
    simp only [exitAt] at h
    simp only [semT]
    split
    · rename_i hi; rw [if_pos hi] at h; exact h
    · rename_i hi; rw [if_neg hi] at h; exact semT_exit h
  | .code c :: t, h => by simp only [exitAt] at h; simp only [semT]; exact semT_exit h
  | .ops _ _ _ _ _ :: t, h => by simp only [exitAt] at h; simp only [semT]; exact semT_exit h
  | .rep _ _ :: t, h => by simp only [exitAt] at h; simp only [semT]; exact semT_exit h

theorem semT_ret {E : Env} {k0 : Nat} {Q : Exit → St → Prop} {st : St} : ∀ {t : List Todo}, Q .ret st → semT E k0 t Q .ret st
  | [], h => h
  | .blk i :: t, h => by simp only [semT]; exact semT_ret h
  | .code c :: t, h => by simp only [semT]; exact semT_ret h
  | .ops _ _ _ _ _ :: t, h => by simp only [semT]; exact semT_ret h
  | .rep _ _ :: t, h => by simp only [semT]; exact semT_ret h

inductive StepO where
  | fail
  | call (G : Option Bool) (cs : Prop) (f : FuncId) (args : List AV)
  | go (ob : Prop) (x : Rec)
  | split (b : Bool) (ob : Prop) (x : Rec)

def stepO (E : Env) (ops : Array Oper) (o : Oper) (st : St) : StepO :=
  match guardOf ops st o with
  | none => .fail
  | some G =>
    match callOf st o.op with
    | some (f, args) => .call G (underG G (conds st.val (opnds o.op))) f args
    | none =>
      match evOp E (hget st.h) st.h.length o.op st.val with
      | none => .fail
      | some res =>
        match res.U with
        | [] => .go (underG G (conds st.val (opnds o.op)) ∧ underG G res.ob) ⟨cndize G res.r, [], foot o.op st.val⟩
        | U => match G with
          | none => .go (conds st.val (opnds o.op) ∧ res.ob) ⟨res.r, U, foot o.op st.val ++ U.map (·.1)⟩
          | some b => .split b (conds st.val (opnds o.op) ∧ res.ob) ⟨res.r, U, foot o.op st.val ++ U.map (·.1)⟩

/-- What is owed of the boxes where a region draws its order. -/
structure Indep (ops : Array Oper) (tr : List (Nat × List Nat × List Nat)) : Prop where
  h : indep (masks ops) tr = true

/-- The machine stands at a call. -/
structure CallN (E : Env) (k0 : Nat) (ops : Array Oper) (draw : Bool) (i : Nat) (o : Oper) (rest : List Oper) (tr : List (Nat × List Nat × List Nat)) (t : List Todo) (st : St) (G : Option Bool) (cs : Prop) (f : FuncId) (args : List AV) (Q : Exit → St → Prop) : Prop where
  h : callOf st o.op = some (f, args) → guardOf ops st o = some G → cs = underG G (conds st.val (opnds o.op)) → seqOps E ops draw i (o :: rest) tr st (semT E k0 t Q .normal)

/-- The machine stands at a loop, or at what it does not take. -/
structure StopN (E : Env) (k0 : Nat) (c : Code) (t : List Todo) (st : St) (Q : Exit → St → Prop) : Prop where
  h : wpA E k0 c st (semT E k0 t Q)

def exec (E : Env) (k0 : Nat) : Nat → List Todo → St → (Exit → St → Prop) → Prop
  | 0, t, st, Q => semT E k0 t Q .normal st
  | n + 1, t, st, Q =>
    match t with
    | [] => Q .normal st
    | .blk _ :: t => exec E k0 n t st Q
    | .rep 0 _ :: _ => False
    | .rep (m + 1) c :: t => exec E k0 n (.code c :: .rep m c :: t) st Q
    | .code c :: t =>
      match c with
      | .skip => exec E k0 n t st Q
      | .seq a b => exec E k0 n (.code a :: .code b :: t) st Q
      | .block id c => exec E k0 n (.code c :: .blk id :: t) st Q
      | .exit id => match exitAt id t with | some t' => exec E k0 n t' st Q | none => Q (.exit id) st
      | .ret => Q .ret st
      | .label _ => exec E k0 n t st Q
      | .region _ ops draw => exec E k0 n (.ops ops draw 0 ops.toList [] :: t) st Q
      | .cond c x y => (st.val c).cond ∧ match (st.val c).strip with
        | .v (.bool b) => (b = true → exec E k0 n (.code x :: t) st Q) ∧ (b = false → exec E k0 n (.code y :: t) st Q)
        | _ => False
      | .loop c => StopN E k0 (.loop c) t st Q
      | .rangeFunc a b c d => StopN E k0 (.rangeFunc a b c d) t st Q
      | .scope c => StopN E k0 (.scope c) t st Q
      | .goto l => StopN E k0 (.goto l) t st Q
      | .refuse w => StopN E k0 (.refuse w) t st Q
    | .ops ops draw i rest tr :: t =>
      match rest with
      | [] => (match draw with | true => Indep ops tr | false => True) ∧ exec E k0 n t st Q
      | o :: rest =>
        match stepO E ops o st with
        | .fail => False
        | .call G cs f args => CallN E k0 ops draw i o rest tr t st G cs f args Q
        | .go ob x => ob ∧ exec E k0 n (.ops ops draw (i + 1) rest ((i, x.F, x.U.map (·.1)) :: tr) :: t) (st.after o x) Q
        | .split b ob x => (b = true → ob ∧ exec E k0 n (.ops ops draw (i + 1) rest ((i, x.F, x.U.map (·.1)) :: tr) :: t) (st.after o x) Q) ∧
            (b = false → exec E k0 n (.ops ops draw (i + 1) rest ((i, [], []) :: tr) :: t) (st.after o ⟨.v undef, [], []⟩) Q)

theorem wpA_mono {E : Env} {k0 : Nat} : ∀ (c : Code) (st : St) (Q Q' : Exit → St → Prop), (∀ e s, Q e s → Q' e s) → wpA E k0 c st Q → wpA E k0 c st Q'
  | .skip, st, Q, Q', h, hw => h _ _ hw
  | .region _ ops draw, st, Q, Q', h, hw => by
    have key : ∀ (rest : List Oper) i tr st, seqOps E ops draw i rest tr st (Q .normal) → seqOps E ops draw i rest tr st (Q' .normal) := by
      intro rest
      induction rest with
      | nil => intro i tr st hs; exact ⟨hs.1, h _ _ hs.2⟩
      | cons o rest ih =>
        intro i tr st hs
        unfold seqOps at hs ⊢
        split at hs
        · exact hs
        · refine ⟨hs.1, ?_⟩
          have hs := hs.2
          split at hs
          · rcases hs with ⟨r, h1, h2⟩ | ⟨x, h1, h2, h3⟩
            · exact .inl ⟨r, h1, ih _ _ _ h2⟩
            · exact .inr ⟨x, h1, h2, ih _ _ _ h3⟩
          · split at hs
            · exact hs
            · split at hs
              · exact ⟨hs.1, ih _ _ _ hs.2⟩
              · split at hs
                · exact ⟨hs.1, ih _ _ _ hs.2⟩
                · exact ⟨fun e => ⟨(hs.1 e).1, ih _ _ _ (hs.1 e).2⟩, fun e => ih _ _ _ (hs.2 e)⟩
    exact key _ _ _ _ hw
  | .seq a b, st, Q, Q', h, hw => by
    refine wpA_mono a st _ _ (fun e s hs => ?_) hw
    cases e with
    | normal => exact wpA_mono b s _ _ h hs
    | _ => exact h _ _ hs
  | .cond c x y, st, Q, Q', h, hw => by
    refine ⟨hw.1, ?_⟩
    have hw := hw.2
    split at hw
    · exact ⟨fun e => wpA_mono x st _ _ h (hw.1 e), fun e => wpA_mono y st _ _ h (hw.2 e)⟩
    · exact hw
  | .block id c, st, Q, Q', h, hw => by
    refine wpA_mono c st _ _ (fun e s hs => ?_) hw
    cases e with
    | exit i =>
      simp only [] at hs ⊢
      split
      · rename_i hi; rw [if_pos hi] at hs; exact h _ _ hs
      · rename_i hi; rw [if_neg hi] at hs; exact h _ _ hs
    | _ => exact h _ _ hs
  | .exit id, st, Q, Q', h, hw => h _ _ hw
  | .ret, st, Q, Q', h, hw => h _ _ hw
  | .label _, st, Q, Q', h, hw => h _ _ hw
  | .loop c, st, Q, Q', h, hw => fun g a w hst g0 H0 w0 hk hev => wp_mono (hw g a w hst g0 H0 w0 hk hev) fun e a' w' hp => hp.mono h
  | .rangeFunc _ _ _ _, st, Q, Q', h, hw => fun g a w hst g0 H0 w0 hk hev => wp_mono (hw g a w hst g0 H0 w0 hk hev) fun e a' w' hp => hp.mono h
  | .scope _, st, Q, Q', h, hw => fun g a w hst g0 H0 w0 hk hev => wp_mono (hw g a w hst g0 H0 w0 hk hev) fun e a' w' hp => hp.mono h
  | .goto _, st, Q, Q', h, hw => fun g a w hst g0 H0 w0 hk hev => wp_mono (hw g a w hst g0 H0 w0 hk hev) fun e a' w' hp => hp.mono h
  | .refuse _, st, Q, Q', h, hw => fun g a w hst g0 H0 w0 hk hev => wp_mono (hw g a w hst g0 H0 w0 hk hev) fun e a' w' hp => hp.mono h

theorem stepO_sound {E : Env} {ops : Array Oper} {draw : Bool} {i : Nat} {o : Oper} {rest : List Oper} {tr : List (Nat × List Nat × List Nat)} {st : St} {K : St → Prop}
    (h : match stepO E ops o st with
      | .fail => False
      | .call G cs f args => callOf st o.op = some (f, args) → guardOf ops st o = some G → cs = underG G (conds st.val (opnds o.op)) → seqOps E ops draw i (o :: rest) tr st K
      | .go ob x => ob ∧ seqOps E ops draw (i + 1) rest ((i, x.F, x.U.map (·.1)) :: tr) (st.after o x) K
      | .split b ob x => (b = true → ob ∧ seqOps E ops draw (i + 1) rest ((i, x.F, x.U.map (·.1)) :: tr) (st.after o x) K) ∧ (b = false → seqOps E ops draw (i + 1) rest ((i, [], []) :: tr) (st.after o ⟨.v undef, [], []⟩) K)) :
    seqOps E ops draw i (o :: rest) tr st K := by
  unfold stepO at h
  cases hG : guardOf ops st o with
  | none => rw [hG] at h; exact h.elim
  | some G =>
    simp only [hG] at h
    cases hcall : callOf st o.op with
    | some p =>
      obtain ⟨f, args⟩ := p
      simp only [hcall] at h
      simp only [true_implies] at h
      exact h
    | none =>
      simp only [hcall] at h
      cases hres : evOp E (hget st.h) st.h.length o.op st.val with
      | none => simp only [hres] at h
      | some res =>
        simp only [hres] at h
        cases hU : res.U with
        | nil =>
          simp only [hU] at h
          unfold seqOps
          simp only [hG, hcall, hres, hU]
          exact ⟨h.1.1, h.1.2, h.2⟩
        | cons u us =>
          cases G with
          | none =>
            simp only [hU] at h
            unfold seqOps
            simp only [hG, hcall, hres, hU]
            exact ⟨h.1.1, h.1.2, h.2⟩
          | some b =>
            simp only [hU] at h
            unfold seqOps
            simp only [hG, hcall, hres, hU]
            exact ⟨fun e => (h.1 e).1.1, fun e => ⟨(h.1 e).1.2, (h.1 e).2⟩, h.2⟩

theorem exec_sound {E : Env} {k0 : Nat} : ∀ (n : Nat) (t : List Todo) (st : St) (Q : Exit → St → Prop), exec E k0 n t st Q → semT E k0 t Q .normal st
  | 0, t, st, Q, h => h
  | n + 1, [], st, Q, h => h
  | n + 1, .blk id :: t, st, Q, h => by simp only [semT]; exact exec_sound n t st Q h
  | n + 1, .rep 0 c :: t, st, Q, h => h.elim
  | n + 1, .rep (m + 1) c :: t, st, Q, h => by
    have := exec_sound n _ st Q h
    simp only [semT] at this ⊢
    refine wpA_mono c st _ _ (fun e s hs => ?_) this
    cases e <;> exact hs
  | n + 1, .code c :: t, st, Q, h => by
    simp only [semT]
    cases c with
    | skip => exact exec_sound n t st Q h
    | seq a b =>
      have := exec_sound n _ st Q h
      simp only [semT] at this
      refine wpA_mono a st _ _ (fun e s hs => ?_) this
      cases e <;> exact hs
    | block id c =>
      have := exec_sound n _ st Q h
      simp only [semT] at this
      refine wpA_mono c st _ _ (fun e s hs => ?_) this
      cases e <;> exact hs
    | exit id =>
      simp only [exec] at h
      simp only [wpA]
      refine semT_exit ?_
      cases ht : exitAt id t with
      | some t' => simp only [ht] at h; exact exec_sound n t' st Q h
      | none => simp only [ht] at h; exact h
    | ret => exact semT_ret h
    | label l => exact exec_sound n t st Q h
    | region id ops draw => exact exec_sound n _ st Q h
    | cond c x y =>
      refine ⟨h.1, ?_⟩
      have h := h.2
      split at h
      · rename_i b hb
        rw [hb]
        exact ⟨fun e => exec_sound n _ st Q (h.1 e), fun e => exec_sound n _ st Q (h.2 e)⟩
      · exact h.elim
    | loop c => exact h.h
    | rangeFunc a b c d => exact h.h
    | scope c => exact h.h
    | goto l => exact h.h
    | refuse w => exact h.h
  | n + 1, .ops ops draw i rest tr :: t, st, Q, h => by
    simp only [semT]
    cases rest with
    | nil =>
      obtain ⟨h1, h2⟩ := h
      refine ⟨fun e => ?_, exec_sound n t st Q h2⟩
      subst e; exact h1.h
    | cons o rest =>
      simp only [exec] at h
      refine stepO_sound ?_
      cases he : stepO E ops o st with
      | fail => rw [he] at h; exact h.elim
      | call G cs f args => rw [he] at h; exact h.h
      | go ob x =>
        rw [he] at h
        exact ⟨h.1, by have := exec_sound n _ _ Q h.2; simpa only [semT] using this⟩
      | split b ob x =>
        rw [he] at h
        exact ⟨fun e => ⟨(h.1 e).1, by have := exec_sound n _ _ Q (h.1 e).2; simpa only [semT] using this⟩, fun e => by have := exec_sound n _ _ Q (h.2 e); simpa only [semT] using this⟩

/-- A call that touches no box, by its contract. -/
theorem CallN.pure {E : Env} {k0 : Nat} {ops : Array Oper} {draw : Bool} {i : Nat} {o : Oper} {rest : List Oper} {tr : List (Nat × List Nat × List Nat)} {t : List Todo} {st : St} {G : Option Bool} {cs : Prop} {f : FuncId} {args : List AV} {Q : Exit → St → Prop}
    (n : Nat) {r : AV} (hs : FnSpec E f args [] r []) (hno : NoIds args) (hc : cs) (h : exec E k0 n (.ops ops draw (i + 1) rest ((i, [], []) :: tr) :: t) (st.after o ⟨cndize G r, [], []⟩) Q) :
    CallN E k0 ops draw i o rest tr t st G cs f args Q := by
  refine ⟨fun hcall hG hcs => ?_⟩
  have := exec_sound n _ _ Q h
  simp only [semT] at this
  unfold seqOps
  simp only [hG, hcall]
  refine ⟨hcs ▸ hc, .inl ⟨r, ?_, this⟩⟩
  cases G with
  | none => exact ⟨hs, hno⟩
  | some b => exact fun _ => ⟨hs, hno⟩

/-- The same under a guard: what is owed is owed where it holds. -/
theorem CallN.pureG {E : Env} {k0 : Nat} {ops : Array Oper} {draw : Bool} {i : Nat} {o : Oper} {rest : List Oper} {tr : List (Nat × List Nat × List Nat)} {t : List Todo} {st : St} {b : Bool} {cs : Prop} {f : FuncId} {args : List AV} {Q : Exit → St → Prop}
    (n : Nat) {r : AV} (hs : b = true → FnSpec E f args [] r []) (hno : NoIds args) (hc : cs) (h : exec E k0 n (.ops ops draw (i + 1) rest ((i, [], []) :: tr) :: t) (st.after o ⟨.cnd b r, [], []⟩) Q) :
    CallN E k0 ops draw i o rest tr t st (some b) cs f args Q := by
  refine ⟨fun hcall hG hcs => ?_⟩
  have := exec_sound n _ _ Q h
  simp only [semT] at this
  unfold seqOps
  simp only [hG, hcall]
  exact ⟨hcs ▸ hc, .inl ⟨r, fun e => ⟨hs e, hno⟩, this⟩⟩

/-- A loop, by a relation on its rounds. -/
theorem StopN.loop {E : Env} (hG : Good E) {k0 : Nat} {c : Code} {t : List Todo} {st : St} {Q : Exit → St → Prop} (hok : codeOk c = true) {S : Type} (σ : S → St) (Inv : S → Prop) (μ : S → Nat) (n : Nat) (s0 : S) (h0 : Inv s0) (hle : StLe k0 st (σ s0))
    (round : ∀ s, Inv s → exec E k0 n [.code c] (σ s) fun e st' => match e with | .normal => ∃ s', Inv s' ∧ μ s' < μ s ∧ StLe k0 st' (σ s') | e => semT E k0 t Q e st') : StopN E k0 (.loop c) t st Q := by
  refine ⟨AWp.loop hG hok σ Inv μ s0 h0 hle fun s hs => ?_⟩
  have := exec_sound n _ _ _ (round s hs)
  simp only [semT] at this
  exact this

/-- A loop, round by round. -/
theorem StopN.unroll {E : Env} (hG : Good E) {k0 : Nat} {c : Code} {t : List Todo} {st : St} {Q : Exit → St → Prop} (hok : codeOk c = true) (m n : Nat) (h : exec E k0 n (.rep m c :: t) st Q) : StopN E k0 (.loop c) t st Q := by
  refine ⟨AWp.rounds hG hok (m := m) ?_⟩
  have := exec_sound n _ st Q h
  simp only [semT] at this
  exact this

/-- Where a loop is left, the machine goes on. -/
theorem semT_on {E : Env} {k0 : Nat} {t : List Todo} {Q : Exit → St → Prop} {id : Nat} {st : St} (n : Nat) {t' : List Todo} (ht : exitAt id t = some t') (h : exec E k0 n t' st Q) : semT E k0 t Q (.exit id) st :=
  semT_exit (by rw [ht]; exact exec_sound n t' st Q h)

/-- What is owed where a function ends. -/
def FinQ (E : Env) (rs : List ResultVar) (r : AV) (L' : List Ent) (e : Exit) (st : St) : Prop :=
  match e with
  | .normal | .ret => resOf E rs st = some r ∧ EntLes L'.length st.h L'
  | _ => False

theorem FnSpec.body {E : Env} (hG : Good E) {f : FuncId} {fn : Func} {c : Code} (n : Nat) (hf : E.P.funcs[f]? = some fn) (hb : fn.body = some c) (hname : (fn.name == "runtime.NumGoroutine") = false) (hok : codeOk c = true)
    {args : List AV} {L L' : List Ent} {r : AV} (hL : L.length ≤ L'.length) (hr : AvLe L'.length r r) (h : exec E L.length n [.code c] (entry fn.ntmps args L) (FinQ E fn.results.toList r L')) : FnSpec E f args L r L' := by
  refine FnSpec.intro hG hf hb hname hok hL ?_
  have := exec_sound n _ _ _ h
  simp only [semT] at this
  refine wpA_mono c _ _ _ (fun e s hs => ?_) this
  cases e with
  | normal => exact ⟨⟨r, hs.1, hr⟩, hs.2⟩
  | ret => exact ⟨⟨r, hs.1, hr⟩, hs.2⟩
  | _ => exact hs

end Go.Ev
