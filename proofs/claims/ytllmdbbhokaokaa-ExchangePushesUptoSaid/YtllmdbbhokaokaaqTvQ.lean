/-
The typed layer: what the machine comes to is so; contracts of functions out of runs.
-/
import Derived.Test.YtllmdbbhokaokaaqTvP
set_option linter.unusedVariables false
set_option linter.unusedSimpArgs false
namespace Go.Ev
open Go
section
variable {τ : Nat → Type}
theorem RU.ren {E : Env} {k0 : Nat} {c : Code} {Q : Exit → St → Prop} {θ : Nat → Option Nat} {s s' : St} (h : StRen k0 θ s s') : ∀ {m : Nat}, RU E k0 c Q m s' → RU E k0 c Q m s
  | 0, hr => hr
  | m + 1, hr => AWp.ren h hr
theorem idxFrom_mem {α : Type} {p : α → Bool} : ∀ {l : List α} {i k : Nat} {x : α}, l[k]? = some x → p x = true → i + k ∈ idxFrom p l i
  | [], i, k, x, h, _ => by simp at h
  | y :: r, i, 0, x, h, hp => by simp at h; subst h; simp [idxFrom, hp]
  | y :: r, i, k + 1, x, h, hp => by
    have := idxFrom_mem (l := r) (i := i + 1) (k := k) (by simpa using h) hp
    simp only [idxFrom]
    rw [show i + (k + 1) = i + 1 + k by omega]
    cases p y <;> simp [this]
theorem rangeTo_mem {a b k : Nat} (h1 : a ≤ k) (h2 : k < b) : k ∈ rangeTo a b := by
  simp only [rangeTo, List.mem_range'_1]; omega
theorem tnth_ge : ∀ (t : List (TV τ)) (k : Nat), t.length ≤ k → tnth t k = .junk
  | [], k, _ => rfl
  | x :: r, 0, hk => by simp at hk
  | x :: r, k + 1, hk => tnth_ge r k (by simpa using hk)
theorem back_frm {C : Cod τ} {lp : Lp τ} {st st' : TSt τ} {s : lp.S} (h : Frm (lp.head C st s) st') : Frm st (lp.back st st') := by
  have hlen : (lp.head C st s).t.length = st.t.length := length_headT C st.t lp.ts (lp.ot s)
  refine ⟨h.len.trans hlen, fun k hk => ?_, fun i hi => ?_⟩
  · simp only [Lp.back, List.mem_append, not_or, Lp.dirtyT] at hk
    obtain ⟨h1, ⟨h2, h3⟩, h4⟩ := hk
    refine ⟨h4, ?_⟩
    show tnth st'.t k = tnth st.t k
    rw [(h.dt k h1).2]
    rcases Nat.lt_or_ge k lp.ts.length with hlt | hge
    · have hx : lp.ts[k]? = some lp.ts[k] := List.getElem?_eq_getElem hlt
      have hkeep : lp.ts[k] = .keep := by
        cases hs : lp.ts[k] with
        | keep => rfl
        | _ =>
          have := idxFrom_mem (p := fun s : Sl => !s.isKeep) (i := 0) hx (by rw [hs]; rfl)
          rw [Nat.zero_add] at this
          exact absurd this h2
      rw [hkeep] at hx
      exact headT_keep st.t lp.ts (lp.ot s) k hx
    · rcases Nat.lt_or_ge k st.t.length with h5 | h5
      · exact absurd (rangeTo_mem hge h5) h3
      · rw [tnth_ge st.t k h5, tnth_ge _ k (by rw [hlen]; exact h5)]
  · simp only [Lp.back, List.mem_append, not_or, Lp.dirtyH] at hi
    obtain ⟨h1, ⟨h2, h3⟩, h4⟩ := hi
    refine ⟨h4, ?_⟩
    show tget st'.h i = tget st.h i
    rw [(h.dh i h1).2]
    rcases Nat.lt_or_ge i lp.hs.length with hlt | hge
    · have hx : lp.hs[i]? = some lp.hs[i] := List.getElem?_eq_getElem hlt
      have hkeep : lp.hs[i] = .keep := by
        cases hs : lp.hs[i] with
        | keep => rfl
        | _ =>
          have := idxFrom_mem (p := fun s : ESh => !s.isKeep) (i := 0) hx (by rw [hs]; rfl)
          rw [Nat.zero_add] at this
          exact absurd this h2
      rw [hkeep] at hx
      have := headH_keep (C := C) (h := st.h) lp.hs 0 (lp.oh s) i hx
      rw [Nat.zero_add] at this
      exact this
    · rcases Nat.lt_or_ge i st.h.length with h5 | h5
      · exact absurd (rangeTo_mem hge h5) h3
      · rw [tget_ge st.h i h5]
        exact tget_ge _ _ (by show (headH C st.h lp.hs 0 (lp.oh s)).length ≤ i; rw [length_headH]; exact hge)
theorem tnth_clean : ∀ (t : List (TV τ)) (k : Nat), tnth (t.map (fun x => bif x.isCnd then .junk else x)) k = bif (tnth t k).isCnd then .junk else tnth t k
  | [], _ => rfl
  | _ :: _, 0 => rfl
  | _ :: r, k + 1 => tnth_clean r k
theorem tnth_get : ∀ (t : List (TV τ)) (k : Nat) (h : k < t.length), tnth t k = t[k]
  | [], _, h => by cases h
  | _ :: _, 0, _ => rfl
  | _ :: r, k + 1, h => tnth_get r k (Nat.lt_of_succ_lt_succ h)
theorem frm_clean (st : TSt τ) : Frm st (cleanT st) := by
  refine ⟨by simp [cleanT], fun k hk => ?_, fun i hi => ⟨hi, rfl⟩⟩
  simp only [cleanT, List.mem_append, not_or] at hk ⊢
  refine ⟨hk.2, ?_⟩
  rw [tnth_clean]
  cases hc : (tnth st.t k).isCnd with
  | false => rfl
  | true =>
    exfalso
    rcases Nat.lt_or_ge k st.t.length with hlt | hge
    · have hx : st.t[k]? = some st.t[k] := List.getElem?_eq_getElem hlt
      have he : tnth st.t k = st.t[k] := tnth_get st.t k hlt
      have := idxFrom_mem (p := TV.isCnd) (i := 0) hx (by rw [← he]; exact hc)
      rw [Nat.zero_add] at this
      exact hk.1 this
    · rw [tnth_ge st.t k hge] at hc; cases hc
theorem gd_clean (st : TSt τ) : Gd (cleanT st) := by
  refine ⟨fun k d w b x h => ?_, fun g h => by cases h⟩
  simp only [cleanT] at h
  rw [tnth_clean] at h
  cases hc : (tnth st.t k).isCnd with
  | false => rw [hc] at h; simp only [cond_false] at h; rw [h] at hc; cases hc
  | true => rw [hc] at h; cases h
theorem awp_clean {C : Cod τ} {E : Env} {k0 : Nat} {c : Code} {st : TSt τ} {Q : Exit → St → Prop} (h : AWp E k0 c (denS C (cleanT st)) Q) : AWp E k0 c (denS C st) Q := by
  intro g a w hst g0 H0 w0 hk hev hdf
  refine h g a w ⟨?_, fun k x v hx hv => ?_, hst.rel⟩ g0 H0 w0 hk hev hdf
  · have := hst.len; simpa [denS, cleanT] using this
  · simp only [denS, cleanT, List.getElem?_map, Option.map_map] at hx
    cases ht : st.t[k]? with
    | none => rw [ht] at hx; cases hx
    | some y =>
      rw [ht] at hx
      simp only [Option.map_some, Option.some.injEq, Function.comp] at hx
      have := hst.t k (denV C y) v (by simp only [denS, List.getElem?_map, ht, Option.map_some]) hv
      cases hc : y.isCnd with
      | false => rw [hc] at hx; simp only [cond_false] at hx; subst hx; exact this
      | true => rw [hc] at hx; simp only [cond_true] at hx; subst hx; exact .junk v
theorem jumpTo_some {X : Type} {e : Nat} {go : Code → Option X} {x : X} : ∀ {l : List Nat}, jumpTo e go l = some x → ∃ q, e = q ∧ go (exitOf q) = some x
  | [], h => by cases h
  | q :: l, h => by
    simp only [jumpTo] at h
    cases hq : Nat.beq e q with
    | true => rw [hq] at h; exact ⟨q, Nat.eq_of_beq_eq_true hq, h⟩
    | false => rw [hq] at h; exact jumpTo_some (l := l) h
theorem run_rf {D : Dat τ} (hD : D.Ok) (hinr : D.inr = false) {st : TSt τ} {gop : Operand} {ps : Array Tmp} {asg body : Code} (hsite : SiteP D ps asg body) {f : FuncId} {caps : List (TV τ)} (hv : st.val gop = .fn f caps) (hf : Nat.beq f yieldF = false)
    {x : Hit τ} (hx : HitOk D.D.C (rfH D st asg body) (.yld st.h.length :: caps) x) (hxe : x.c.ext = false) (hc : x.c ∈ D.tbl f) {N : Nat} {r : x.c.R} (hr : x.c.F N x.a x.b = some r) (out : TV τ × List (TEnt τ)) (hout : x.c.out D.D.C r = out) (hq : x.c.L.length ≤ out.2.length) {Q : Exit → St → Prop}
    (h : ((∃ a b c, tget (tapp (rfH D st asg body) (rfU st (rfH D st asg body) x.σ out)) st.h.length = .rcd a b c) ∧ Q .normal (denS D.D.C (rfSt st (tapp (rfH D st asg body) (rfU st (rfH D st asg body) x.σ out)) ((rfU st (rfH D st asg body) x.σ out).map (·.1))))) ∨
      ∃ e, tget (tapp (rfH D st asg body) (rfU st (rfH D st asg body) x.σ out)) st.h.length = .rdn e ∧ AWp D.D.E D.k0 (exitOf e) (denS D.D.C (rfSt st (tapp (rfH D st asg body) (rfU st (rfH D st asg body) x.σ out)) ((rfU st (rfH D st asg body) x.σ out).map (·.1)))) Q) :
    AWp D.D.E D.k0 (.rangeFunc gop ps asg body) (denS D.D.C st) Q := by
  have hs := hD.tbl f x.c hc N x.a x.b r hr
  rw [hf, hxe, hout] at hs
  replace hs : FnSpec D.D.E f (TV.denL D.D.C (Sh.encs D.D.C x.c.args x.a)) ((ESh.encs D.D.C x.c.L x.b).map (TEnt.den D.D.C)) (out.1.den D.D.C) (out.2.map (TEnt.den D.D.C)) := hs
  have hv' : (denS D.D.C st).val gop = .fn f (TV.denL D.D.C caps) := by
    cases gop with
    | tmp k =>
      simp only [denS, St.val, nth_den]
      have e : tnth st.t k = .fn f caps := hv
      rw [e]; rfl
    | const v =>
      simp only [TSt.val] at hv
      unfold cval at hv
      split at hv <;> cases hv
    | func f' => cases hv; rfl
    | global g => cases hv
  have hlen : (denS D.D.C st).h.length = st.h.length := by simp [denS]
  have hH1 : upd (hget (denS D.D.C st).h) (denS D.D.C st).h.length (.rcd ps asg body (TV.denL D.D.C (st.t.map nc))) = hget ((rfH D st asg body).map (TEnt.den D.D.C)) := by
    have hsd : (TEnt.rcd D.fid (siteKey asg body) (st.t.map nc) : TEnt τ).den D.D.C = .rcd ps asg body (TV.denL D.D.C (st.t.map nc)) := by
      have hsite' : D.D.C.site D.fid (siteKey asg body) = (ps, asg, body) := hsite
      simp only [TEnt.den, hsite']
    rw [hlen, ← hsd]
    unfold rfH
    rw [← setH_den, hget_setH]; rfl
  refine AWp.rangeFunc (hD.ro hinr) hv' hs.1 (ts := TV.denL D.D.C (st.t.map nc)) ?_ (H2 := app (hget ((rfH D st asg body).map (TEnt.den D.D.C))) (denU D.D.C (rfU st (rfH D st asg body) x.σ out))) ?_
    (h' := (denS D.D.C (rfSt st (tapp (rfH D st asg body) (rfU st (rfH D st asg body) x.σ out)) ((rfU st (rfH D st asg body) x.σ out).map (·.1)))).h) ?_ ?_
  · refine ⟨by simp [denS, denL_eq], fun k a b ha hb => ?_⟩
    simp only [denS, denL_eq, List.map_map, List.getElem?_map, Option.map_eq_some_iff] at ha hb
    obtain ⟨y, hy, rfl⟩ := ha
    obtain ⟨z, hz, rfl⟩ := hb
    rw [hy] at hz; cases hz
    intro g v hvr
    cases y with
    | cnd d w b z => exact .junk v
    | _ => exact hvr
  · intro g w cargs hW hargs
    rw [hH1] at hW ⊢
    rw [hlen] at hargs
    have hr0 : StRel g ⟨[], (rfH D st asg body).map (TEnt.den D.D.C)⟩ { tmps := #[], defers := [] } w := ⟨rfl, by simp, hW⟩
    have key := callee_frame (h := rfH D st asg body) hD.ok hx hq (X := fun c w R => Calls D.D.E.P f c w R) (fun h hr => Calls.mono h hr) (fun g w cargs => hs.2 g w cargs) hr0.rel (fun id _ => hget_den _ _ _) (cargs := cargs) (by simpa only [TV.denL, TV.den] using hargs)
    refine key.mono ?_
    rintro e w' ⟨v, g', rfl, _, hev, _⟩
    exact ⟨v, g', rfl, hev⟩
  · rw [hlen]
    show hget ((tput (tapp (rfH D st asg body) (rfU st (rfH D st asg body) x.σ out)) st.h.length .dead).map (TEnt.den D.D.C)) = _
    rw [← setH_den, hget_setH, ← appH_den, hget_appH]; rfl
  · rw [hlen]
    have he : app (hget ((rfH D st asg body).map (TEnt.den D.D.C))) (denU D.D.C (rfU st (rfH D st asg body) x.σ out)) st.h.length = (tget (tapp (rfH D st asg body) (rfU st (rfH D st asg body) x.σ out)) st.h.length).den D.D.C := by
      rw [← hget_appH, appH_den, hget_den]
    rw [he]
    rcases h with ⟨⟨a, b, c, h1⟩, h2⟩ | ⟨e, h1, h2⟩
    · exact .inl ⟨⟨_, _, _, _, by rw [h1]; rfl⟩, h2⟩
    · exact .inr ⟨_, by rw [h1]; rfl, h2⟩
theorem run_soundG {D : Dat τ} (hD : D.Ok) {N : Nat} {X : Type} {x : X} : ∀ (n : Nat) (t : List Todo) (st : TSt τ) (K : Exit → TSt τ → Option X) (Q : Exit → St → Prop),
    (∀ l s, ¬ Q (.goto l) s) → (∀ e st', (∀ l, e ≠ .goto l) → K e st' = some x → Gd st' → Frm st st' → Q e (denS D.D.C st')) → Gd st → TodoOk (SiteP D) t → run D N n t st K = some x → semU D.D.E D.k0 t Q .normal (denS D.D.C st)
  | 0, t, st, K, Q, hQ, hK, hg, ht, h => by cases h
  | n + 1, t, st, K, Q, hQ, hK, hg, ht, h => by
    cases t with
    | nil => exact hK .normal st (fun _ h => by cases h) h hg (.refl st)
    | cons a t =>
      cases a with
      | blk id =>
        simp only [run] at h
        simp only [semU]
        exact run_soundG hD n t st K Q hQ hK hg ht h
      | rep c m =>
        obtain ⟨hc, ht⟩ := ht
        cases m with
        | zero => simp only [run] at h; cases h
        | succ m =>
          simp only [run] at h
          have := run_soundG hD n (.code c :: .rep c m :: t) (cleanT st) K Q hQ (fun e st' hne hk hg' hf => hK e st' hne hk hg' (.trans (frm_clean st) hf)) (gd_clean st) ⟨hc, hc, ht⟩ h
          simp only [semU] at this ⊢
          refine AWp.mono (fun e s hs => ?_) (awp_clean this)
          cases e <;> exact hs
      | ops ops draw i rest tr =>
        cases rest with
        | nil =>
          simp only [run] at h
          cases hi : (!draw || indep (masks ops) tr) with
          | false => rw [hi] at h; cases h
          | true =>
            rw [hi] at h
            simp only [cond_true] at h
            refine ⟨[], denS D.D.C st, rfl, fun hd => ?_, ?_⟩
            · subst hd; simpa [trOf] using hi
            · exact run_soundG hD n t { st with off := [] } K Q hQ (fun e st' hne hk hg' hf => hK e st' hne hk hg' ⟨hf.len, hf.dt, hf.dh⟩) ⟨hg.inv, fun g hg => by cases hg⟩ ht h
        | cons o rest =>
          simp only [run] at h
          obtain ⟨st1, F, U, ⟨y, t1, t2, t3, t4, t5, t6, t7⟩, h⟩ := step_sound hD hg h
          obtain ⟨xs, st', r1, r2, r3⟩ := run_soundG hD n _ st1 K Q hQ (fun e st' hne hk hg' hf => hK e st' hne hk hg' (t7.trans hf)) t6 (show TodoOk (SiteP D) (.ops ops draw (i + 1) rest ((i, F, U) :: tr) :: t) from ht) h
          refine ⟨y :: xs, st', ⟨t1, t2, ?_⟩, fun hd => ?_, r3⟩
          · rw [t5]; exact r1
          · have := r2 hd
            rw [← t3, ← t4] at this
            exact this
      | code c =>
        obtain ⟨hc, ht⟩ := ht
        simp only [semU]
        cases c with
        | skip => simp only [run] at h; exact .skip (run_soundG hD n t st K Q hQ hK hg ht h)
        | ret => simp only [run] at h; exact .ret (semU_ret (hK .ret st (fun _ h => by cases h) h hg (.refl st)))
        | label l => simp only [run] at h; exact .label (run_soundG hD n t st K Q hQ hK hg ht h)
        | exit id =>
          simp only [run] at h
          refine .exit (semU_exit ?_)
          split at h
          · rename_i t' ht'
            exact run_soundG hD n t' st K Q hQ hK hg (ht.exit ht') h
          · rename_i ht'
            exact hK _ st (fun _ h => by cases h) h hg (.refl st)
        | seq a b =>
          simp only [run] at h
          have := run_soundG hD n (.code a :: .code b :: t) st K Q hQ hK hg ⟨hc.seq.1, hc.seq.2, ht⟩ h
          refine .seq (AWp.mono (fun e s hs => ?_) this)
          cases e <;> exact hs
        | block id c =>
          simp only [run] at h
          have := run_soundG hD n (.code c :: .blk id :: t) st K Q hQ hK hg ⟨hc.block, ht⟩ h
          refine .block (AWp.mono (fun e s hs => ?_) this)
          cases e <;> exact hs
        | scope c =>
          simp only [run] at h
          have := run_soundG hD n (.code c :: t) st K Q hQ hK hg ⟨hc.scope, ht⟩ h
          refine .scope (AWp.mono (fun e s hs => ?_) this)
          cases e with
          | goto l => exact hQ l s (semU_goto hs)
          | _ => exact hs
        | region id ops draw =>
          simp only [run] at h
          obtain ⟨xs, st', r1, r2, r3⟩ := run_soundG hD n (.ops ops draw 0 ops.toList [] :: t) st K Q hQ hK hg ht h
          exact .region hD.good hc.ok r1 r3 r2
        | cond c a b =>
          simp only [run] at h
          replace hc := hc.cond
          split at h
          · rename_i q hq
            have hv : (denS D.D.C st).val c = .v (.bool q) := by
              cases c with
              | tmp k =>
                simp only [denS, St.val, nth_den]
                have e : tnth st.t k = .bool q := hq
                rw [e]; rfl
              | const v =>
                simp only [TSt.val] at hq
                unfold cval at hq
                split at hq <;> cases hq
                rfl
              | func f => cases hq
              | global g => cases hq
            refine .cond hv (fun e => ?_) (fun e => ?_)
            · subst e; exact run_soundG hD n (.code a :: t) st K Q hQ hK hg ⟨hc.1, ht⟩ h
            · subst e; exact run_soundG hD n (.code b :: t) st K Q hQ hK hg ⟨hc.2, ht⟩ h
          · cases h
        | loop c =>
          simp only [run] at h
          split at h
          · cases h
          · split at h
            · rename_i m hm
              have hcc : COk (SiteP D) c := hc.loop
              have := run_soundG hD n (.rep c m :: t) st K Q hQ hK hg ⟨hcc, ht⟩ h
              exact AWp.rounds this
            split at h
            · cases h
            · rename_i lp hlp
              split at h
              · cases h
              · rename_i s0 hs0
                have hcc : COk (SiteP D) c := hc.loop
                have hnc := fun s => Lp.head_nocnd (st := st) hD.ok.C hs0 rfl s
                have hgd : ∀ s, Gd (lp.head D.D.C st s) := fun s => ⟨fun k d w b y e => absurd e (hnc s k d w b y), fun g hg => by cases hg⟩
                have key : ∀ (m : Nat) (s : lp.S), iter m (fun s next => run D N n [.code c] (lp.head D.D.C st s) fun e st' => match e with
                    | .normal => (match lp.dec D.D.C D.k0 st' with | some s' => next s' | none => none)
                    | .ret => K .ret (lp.back st st')
                    | .exit id => (match exitAt id t with | some t' => run D N n t' (lp.back st st') K | none => K (.exit id) (lp.back st st'))
                    | _ => none) s = some x → RU D.D.E D.k0 c (semU D.D.E D.k0 t Q) m (denS D.D.C (lp.head D.D.C st s)) := by
                  intro m
                  induction m with
                  | zero => intro s hs; cases hs
                  | succ m ih =>
                    intro s hs
                    simp only [iter] at hs
                    refine run_soundG hD n [.code c] (lp.head D.D.C st s) _ (fun e s1 => match e with | .normal => RU D.D.E D.k0 c (semU D.D.E D.k0 t Q) m s1 | e => semU D.D.E D.k0 t Q e s1) (fun l s hs => hQ l s (semU_goto hs)) (fun e st' hne hk hg' hf => ?_) (hgd s) ⟨hcc, trivial⟩ hs
                    have hgb : Gd (lp.back st st') := ⟨hg'.inv, fun g hg => by cases hg⟩
                    cases e with
                    | normal =>
                      simp only [] at hk ⊢
                      split at hk
                      · rename_i s' hs'
                        have hlen : st'.t.length = st.t.length := hf.len.trans (length_headT D.D.C st.t lp.ts (lp.ot s))
                        obtain ⟨θ, hθ⟩ := Lp.ren hD.ok.C (base := st) hs' hlen
                          (fun k hkk hnd => ((hf.dt k hnd).2).trans (headT_keep st.t lp.ts (lp.ot s) k hkk))
                          (fun i hkk hnd => ((hf.dh i hnd).2).trans (by have := headH_keep (C := D.D.C) (h := st.h) lp.hs 0 (lp.oh s) i hkk; rw [Nat.zero_add] at this; exact this))
                        exact RU.ren hθ (ih s' hk)
                      · cases hk
                    | ret => exact semU_ret (hK .ret (lp.back st st') (fun _ h => by cases h) (show K .ret (lp.back st st') = some x from hk) hgb (back_frm hf))
                    | exit id =>
                      simp only [] at hk ⊢
                      refine semU_exit ?_
                      split at hk
                      · rename_i t' ht'
                        rw [ht']
                        show semU D.D.E D.k0 t' Q .normal (denS D.D.C (lp.back st st'))
                        exact run_soundG hD n t' (lp.back st st') K Q hQ (fun e st2 hne hk2 hg2 hf2 => hK e st2 hne hk2 hg2 ((back_frm hf).trans hf2)) hgb (ht.exit ht') hk
                      · rename_i ht'
                        rw [ht']
                        exact hK (.exit id) (lp.back st st') (fun _ h => by cases h) hk hgb (back_frm hf)
                    | _ => cases hk
                have h0 := key N s0 h
                obtain ⟨θ, hθ⟩ := Lp.ren hD.ok.C (base := st) hs0 rfl (fun k _ _ => rfl) (fun i _ _ => rfl)
                exact AWp.rounds (RU.ren hθ h0)
        | rangeFunc gop ps asg body =>
          simp only [run] at h
          cases hinr : D.inr with
          | true => rw [hinr] at h; cases h
          | false =>
          rw [hinr] at h
          simp only [cond_false] at h
          split at h
          · rename_i f caps hv
            cases hf : Nat.beq f yieldF with
            | true => rw [hf] at h; cases h
            | false =>
            rw [hf] at h
            simp only [cond_false] at h
            split at h
            · rename_i x' hx
              cases hxe : x'.c.ext with
              | true => rw [hxe] at h; cases h
              | false =>
              rw [hxe] at h
              simp only [cond_false] at h
              cases hq : (Nat.ble x'.c.L.length x'.c.L'.length && altOk x'.c.L.length x'.c.alt) with
              | false => rw [hq] at h; cases h
              | true =>
              rw [hq] at h
              simp only [cond_true] at h
              simp only [Bool.and_eq_true] at hq
              obtain ⟨r, hr, h⟩ := Option.bind_eq_some_iff.1 h
              obtain ⟨h1, h2⟩ := hits_ok hD.ok.C hx
              have hfr : ∀ (hh : List (TEnt τ)) (ids : List Nat), (∀ i, i ∉ ids → tget hh i = tget (rfH D st asg body) i) → Frm st (rfSt st hh ids) := fun hh ids hids => ⟨rfl, fun k hk => ⟨hk, rfl⟩, fun i hi => by
                simp only [rfSt, List.mem_cons, List.mem_append, not_or] at hi
                refine ⟨hi.2.2, ?_⟩
                show tget (tput hh st.h.length .dead) i = tget st.h i
                rw [tget_tput_ne _ _ _ _ hi.1, hids i hi.2.1]
                exact tget_tput_ne _ _ _ _ hi.1⟩
              have hgr : ∀ (hh : List (TEnt τ)) (ids : List Nat), Gd (rfSt st hh ids) := fun hh ids => ⟨hg.inv, fun g hg => by cases hg⟩
              have fin : ∀ out, x'.c.out D.D.C r = out → x'.c.L.length ≤ out.2.length →
                  (match tget (tapp (rfH D st asg body) (rfU st (rfH D st asg body) x'.σ out)) st.h.length with
                  | .rcd _ _ _ => run D N n t (rfSt st (tapp (rfH D st asg body) (rfU st (rfH D st asg body) x'.σ out)) ((rfU st (rfH D st asg body) x'.σ out).map (·.1))) K
                  | .rdn e => jumpTo e (fun c => run D N n (.code c :: t) (rfSt st (tapp (rfH D st asg body) (rfU st (rfH D st asg body) x'.σ out)) ((rfU st (rfH D st asg body) x'.σ out).map (·.1))) K) D.ex
                  | _ => none) = some x → AWp D.D.E D.k0 (.rangeFunc gop ps asg body) (denS D.D.C st) (semU D.D.E D.k0 t Q) := fun out hout hq' hm => by
                have hF := hfr (tapp (rfH D st asg body) (rfU st (rfH D st asg body) x'.σ out)) ((rfU st (rfH D st asg body) x'.σ out).map (·.1)) (fun i hi => tget_tapp_ne _ _ _ hi)
                refine run_rf hD hinr hc.sub hv hf h2 hxe h1 hr out hout hq' ?_
                split at hm
                · rename_i a b c' he
                  exact .inl ⟨⟨a, b, c', he⟩, run_soundG hD n t _ K Q hQ (fun e st' hne hk hg' hf' => hK e st' hne hk hg' (hF.trans hf')) (hgr _ _) ht hm⟩
                · rename_i e he
                  obtain ⟨q, hq1, hq2⟩ := jumpTo_some hm
                  subst hq1
                  refine .inr ⟨e, he, ?_⟩
                  have hco : COk (SiteP D) (exitOf e) := by cases e <;> exact ⟨rfl, trivial⟩
                  exact run_soundG hD n (.code (exitOf e) :: t) _ K Q hQ (fun e st' hne hk hg' hf' => hK e st' hne hk hg' (hF.trans hf')) (hgr _ _) ⟨hco, ht⟩ hq2
                · cases hm
              split at h
              · rename_i ha
                exact fin _ (by unfold Con.out; rw [ha]) (by simp only [Con.out1, length_encs]; exact Nat.le_of_ble_eq_true hq.1) h
              · rename_i A ha
                cases hs : x'.c.sel r with
                | true =>
                  rw [hs] at h
                  exact fin _ (by unfold Con.out; rw [ha]; simp only [hs, cond_true]) (by rw [ha] at hq; simp only [Alt.out, length_encs]; exact Nat.le_of_ble_eq_true hq.2) h
                | false =>
                  rw [hs] at h
                  exact fin _ (by unfold Con.out; rw [ha]; simp only [hs, cond_false]) (by simp only [Con.out1, length_encs]; exact Nat.le_of_ble_eq_true hq.1) h
            · cases h
          · cases h
        | _ => cases h
theorem run_sound {D : Dat τ} (hD : D.Ok) {N : Nat} {X : Type} {x : X} (n : Nat) (t : List Todo) (st : TSt τ) (K : Exit → TSt τ → Option X) (Q : Exit → St → Prop)
    (hK : ∀ e st', K e st' = some x → Gd st' → Frm st st' → Q e (denS D.D.C st')) (hg : Gd st) (ht : TodoOk (SiteP D) t) (h : run D N n t st K = some x) : semU D.D.E D.k0 t Q .normal (denS D.D.C st) :=
  semU_mono (Q := fun e s => (∀ l, e ≠ .goto l) ∧ Q e s) (fun e s hs => hs.2) (run_soundG hD n t st K _ (fun l s hs => hs.1 l rfl) (fun e st' hne hk hg' hf => ⟨hne, hK e st' hk hg' hf⟩) hg ht h)
def resT (D : TEnv τ) (st : TSt τ) : List ResultVar → Option (List (TV τ))
  | [] => some []
  | .tmp k :: r => match tnth st.t k, resT D st r with
    | .cnd _ _ _ _, _ => none
    | x, some l => some (x :: l)
    | _, none => none
  | .cell a t :: r => match tnth st.t a with
    | .ptr id [] => (match tLoad D (tget st.h) t (.ptr id []), resT D st r with
      | some x, some l => some (x :: l)
      | _, _ => none)
    | _ => none
theorem tLoad_ev {D : TEnv τ} (hD : D.Ok) {st : TSt τ} {t id : Nat} {y : TV τ} (h : tLoad D (tget st.h) t (.ptr id []) = some y) : evLoad D.E (hget (denS D.C st).h) t (.ptr id 0) = some (y.den D.C) := by
  unfold tLoad at h
  split at h
  · cases h
  · rename_i i hi
    have main : ∀ {x : TV τ}, (tget st.h id = .box x ∨ tget st.h id = .ibox x) → (match x.sub D.C [] with | some y => (bif fits D.C i y then some y else none) | none => none) = some y → evLoad D.E (hget (denS D.C st).h) t (.ptr id 0) = some (y.den D.C) := fun {x} hx hm => by
      simp only [TV.sub] at hm
      cases hf : fits D.C i x with
      | false => rw [hf] at hm; cases hm
      | true =>
        rw [hf] at hm
        simp only [cond_true, Option.some.injEq] at hm
        subst hm
        have := load_of (x := x) (p := []) hD rfl rfl hf
        simp only [offs] at this
        unfold evLoad
        rcases hx with hx | hx <;> (simp only [hi, cellsAt, denS, hget_den, hx, TEnt.den]; exact this)
    simp only [] at h
    split at h
    · rename_i x hx; exact main (.inl hx) h
    · rename_i x hx; exact main (.inr hx) h
    · cases h
theorem resT_sound {D : TEnv τ} (hD : D.Ok) {st : TSt τ} : ∀ {rs : List ResultVar} {xs : List (TV τ)}, resT D st rs = some xs → resAll D.E (denS D.C st) rs = some (xs.map (TV.den D.C))
  | [], xs, h => by cases h; rfl
  | .tmp k :: r, xs, h => by
    simp only [resT] at h
    split at h
    · cases h
    · rename_i x l hl hne
      cases h
      simp only [resAll, resOne, denS, nth_den]
      have : denV D.C (tnth st.t k) = (tnth st.t k).den D.C := by
        cases hx : tnth st.t k <;> first | rfl | exact absurd hx (hne _ _ _ _)
      have hr := resT_sound hD hl
      simp only [denS] at hr
      rw [this, hr]; rfl
    · cases h
  | .cell a t :: r, xs, h => by
    simp only [resT] at h
    split at h
    · rename_i id ha
      split at h
      · rename_i x l hx hl
        cases h
        have : nth (denS D.C st).t a = .ptr id 0 := by simp only [denS, nth_den, ha]; rfl
        simp only [resAll, resOne, resT_sound hD hl, this, tLoad_ev hD hx]; rfl
      · cases h
    · cases h
def tupT : List (TV τ) → TV τ
  | [x] => x
  | xs => .tup xs
def idPrs : Nat → Prs
  | 0 => []
  | k + 1 => idPrs k ++ [(k, some k)]
def endX (D : TEnv τ) (ret : Sh) (L' : List ESh) {R : Type} (to : ret.T τ → ESh.Ts τ L' → R) (k0 : Nat) (x : TV τ) (st : TSt τ) : Option R :=
  match ret.dec D.C x with
  | some (a, ps) =>
    match decEs D.C st.h L' 0 (idPrs k0 ++ ps) with
    | some (b, ps') =>
      bif prsOk (θof k0 ps') ps' && ps'.all (fun p => Nat.blt p.1 L'.length) && nodupB (liveIds (θof k0 ps') L' 0) && Nat.ble k0 L'.length then some (to a b) else none
    | none => none
  | none => none
def endR (D : TEnv τ) (ret : Sh) (L' : List ESh) {R : Type} (to : ret.T τ → ESh.Ts τ L' → R) (k0 : Nat) (rs : List ResultVar) (st : TSt τ) : Option R :=
  match resT D st rs with
  | some xs => endX D ret L' to k0 (tupT xs) st
  | none => none
def endT (D : TEnv τ) (c : Con τ) (to : c.ret.T τ → ESh.Ts τ c.L' → c.R) (ta : Option ((A : Alt τ c.R) × (A.ret.T τ → ESh.Ts τ A.L' → c.R))) (k0 : Nat) (rs : List ResultVar) (st : TSt τ) : Option c.R :=
  match endR D c.ret c.L' to k0 rs st with
  | some r => some r
  | none => match ta with
    | none => none
    | some ⟨A, t⟩ => endR D A.ret A.L' t k0 rs st
def finK (D : TEnv τ) (c : Con τ) (to : c.ret.T τ → ESh.Ts τ c.L' → c.R) (ta : Option ((A : Alt τ c.R) × (A.ret.T τ → ESh.Ts τ A.L' → c.R))) (k0 : Nat) (rs : List ResultVar) (e : Exit) (st : TSt τ) : Option c.R :=
  match e with
  | .normal => endT D c to ta k0 rs st
  | .ret => endT D c to ta k0 rs st
  | _ => none
def entryT (C : Cod τ) (n : Nat) (c : Con τ) (a : Sh.Ts τ c.args) (b : ESh.Ts τ c.L) : TSt τ :=
  ⟨Sh.encs C c.args a ++ List.replicate (n - c.args.length) .junk, ESh.encs C c.L b, [], [], []⟩
theorem encs_length (C : Cod τ) : ∀ (l : List Sh) (a : Sh.Ts τ l), (Sh.encs C l a).length = l.length
  | [], _ => rfl
  | s :: r, a => by
    show (Sh.enc C s a.1 :: Sh.encs C r a.2).length = _
    simp [encs_length C r a.2]
theorem encs_nocnd {C : Cod τ} (hC : C.Ok) : ∀ (l : List Sh) (a : Sh.Ts τ l) (x : TV τ), x ∈ Sh.encs C l a → ∀ d w b y, x ≠ .cnd d w b y
  | [], _, x, h => by
    have h' : x ∈ ([] : List (TV τ)) := h
    cases h'
  | s :: r, a, x, h => fun d w b y e => by
    have h' : x ∈ Sh.enc C s a.1 :: Sh.encs C r a.2 := h
    rcases List.mem_cons.1 h' with h1 | h1
    · exact head_nocnd hC s a.1 d w b y (h1 ▸ e)
    · exact encs_nocnd hC r a.2 x h1 d w b y e
theorem entE_enc {C : Cod τ} (x : TEnt τ) (hx : x = .dead) : ∀ (e : ESh) (a : e.T τ), entE C x e a = e.enc C a
  | .box s, a => rfl
  | .gbx e, a => rfl
  | .tail, a => rfl
  | .dead, a => rfl
  | .rcd _ _ _, a => rfl
  | .rdn, a => rfl
  | .pool _, a => rfl
  | .keep, a => hx
theorem live_mem' {C : Cod τ} {θ : Nat → Option Nat} : ∀ (l : List ESh) (i : Nat) (b : ESh.Ts τ l) (j n : Nat), j < l.length → ((tget (ESh.encs C l b) j).den C).live → θ (i + j) = some n →
    ∃ p : Nat, (liveIds θ l i)[p]? = some n ∧ (∀ j' n' : Nat, j' < j → ((tget (ESh.encs C l b) j').den C).live → θ (i + j') = some n' → ∃ p' : Nat, p' < p ∧ (liveIds θ l i)[p']? = some n')
  | [], i, b, j, n, hj, _, _ => by simp at hj
  | e :: l, i, b, 0, n, hj, hl, hn => by
    refine ⟨0, ?_, fun j' n' h => by omega⟩
    rw [Nat.add_zero] at hn
    have hl' : ((entE C .dead e b.1).den C).live := by rw [entE_enc .dead rfl]; exact hl
    have := liveOne_live (C := C) (x := .dead) (a := b.1) hl' hn
    simp only [liveIds, this]; rfl
  | e :: l, i, b, j + 1, n, hj, hl, hn => by
    obtain ⟨p, h1, h2⟩ := live_mem' (C := C) (θ := θ) l (i + 1) b.2 j n (by simpa using hj) hl (by rw [← hn]; congr 1; omega)
    simp only [liveIds]
    refine ⟨(liveOne θ i e).length + p, by rw [List.getElem?_append_right (by omega), Nat.add_sub_cancel_left]; exact h1, fun j' n' hj' hl' hn' => ?_⟩
    cases j' with
    | zero =>
      rw [Nat.add_zero] at hn'
      have hl'' : ((entE C .dead e b.1).den C).live := by rw [entE_enc .dead rfl]; exact hl'
      have := liveOne_live (C := C) (x := .dead) (a := b.1) hl'' hn'
      rw [this]
      exact ⟨0, by simp; omega, rfl⟩
    | succ j' =>
      obtain ⟨p', h3, h4⟩ := h2 j' n' (by omega) hl' (by rw [← hn']; congr 1; omega)
      exact ⟨(liveOne θ i e).length + p', by omega, by rw [List.getElem?_append_right (by omega), Nat.add_sub_cancel_left]; exact h4⟩
theorem endX_sound {D : TEnv τ} (hD : D.Ok) {ret : Sh} {L' : List ESh} {R : Type} {to : ret.T τ → ESh.Ts τ L' → R} {of : R → ret.T τ × ESh.Ts τ L'} (hto : ∀ a b, of (to a b) = (a, b)) {k0 : Nat} {x : TV τ} {st : TSt τ} {r : R} (h : endX D ret L' to k0 x st = some r) :
    (∃ a b, r = to a b) ∧ ∃ θ, (∀ j, j < k0 → θ j = some j) ∧ RW θ (x.den D.C) ((ret.enc D.C (of r).1).den D.C) ∧ Rens θ (hget (denS D.C st).h) (hget ((ESh.encs D.C L' (of r).2).map (TEnt.den D.C))) := by
  unfold endX at h
  split at h
  · rename_i a ps ha
    split at h
    · rename_i b ps' hb
      generalize hθ : θof k0 ps' = θ at h
      cases hc : (prsOk θ ps' && ps'.all (fun p => Nat.blt p.1 L'.length) && nodupB (liveIds θ L' 0) && Nat.ble k0 L'.length) with
      | false => rw [hc] at h; cases h
      | true =>
        rw [hc] at h
        simp only [cond_true, Option.some.injEq] at h
        subst h
        refine ⟨⟨a, b, rfl⟩, ?_⟩
        rw [hto]
        simp only [Bool.and_eq_true] at hc
        obtain ⟨⟨⟨c1, c2⟩, c3⟩, c4⟩ := hc
        have hok := prsOk_ok c1
        obtain ⟨h1, h2⟩ := decEs_ren hD.C L' 0 _ ps' b hb hok
        have hk0 : ∀ j, j < k0 → θ j = some j := fun j hj => by
          rw [← hθ]; unfold θof
          rw [show Nat.blt j k0 = true by simp only [Nat.blt, Nat.ble_eq]; exact hj]; rfl
        refine ⟨θ, hk0, (dec_ren hD.C ret _ a ps ha h1.right).1, ⟨fun j => ?_, fun j j' i hl hl' e e' => ?_⟩⟩
        · have eg : hget (denS D.C st).h = fun k => (tget st.h k).den D.C := by funext k; simp only [denS, hget_den]
          rw [eg, hget_den]
          rcases Nat.lt_or_ge j L'.length with hj | hj
          · have := h2 j hj
            rwa [Nat.zero_add] at this
          · rw [tget_ge _ _ (by rw [length_encs]; exact hj)]
            show θ j = none
            have hle : k0 ≤ L'.length := Nat.le_of_ble_eq_true c4
            rw [← hθ]; unfold θof
            rw [show Nat.blt j k0 = false by rw [Bool.eq_false_iff]; intro hb; have : j < k0 := by simpa [Nat.blt, Nat.ble_eq, Nat.lt_iff_add_one_le] using hb
                                             omega, look_none c2 hj]; rfl
        · rw [hget_den] at hl hl'
          have hlt : ∀ k, ((tget (ESh.encs D.C L' b) k).den D.C).live → k < L'.length := fun k hk => by
            rcases Nat.lt_or_ge k L'.length with h' | h'
            · exact h'
            · rw [tget_ge _ _ (by rw [length_encs]; exact h')] at hk; exact hk.elim
          have key : ∀ j j', j' < j → ((tget (ESh.encs D.C L' b) j).den D.C).live → ((tget (ESh.encs D.C L' b) j').den D.C).live → θ j = some i → θ j' = some i → False := fun j j' hjj hl hl' e e' => by
            obtain ⟨p, g1, g2⟩ := live_mem' (C := D.C) (θ := θ) L' 0 b j i (hlt j hl) hl (by rw [Nat.zero_add]; exact e)
            obtain ⟨p', g3, g4⟩ := g2 j' i hjj hl' (by rw [Nat.zero_add]; exact e')
            have hnd := nodupB_nodup c3
            obtain ⟨q1, q2⟩ := List.getElem?_eq_some_iff.1 g1
            obtain ⟨q3, q4⟩ := List.getElem?_eq_some_iff.1 g4
            have := (List.getElem_inj hnd (h₀ := q1) (h₁ := q3)).1 (q2.trans q4.symm)
            omega
          rcases Nat.lt_trichotomy j j' with hjj | hjj | hjj
          · exact (key j' j hjj hl' hl e' e).elim
          · exact hjj
          · exact (key j j' hjj hl hl' e e').elim
    · cases h
  · cases h
theorem endR_sound {D : TEnv τ} (hD : D.Ok) {ret : Sh} {L' : List ESh} {R : Type} {to : ret.T τ → ESh.Ts τ L' → R} {of : R → ret.T τ × ESh.Ts τ L'} (hto : ∀ a b, of (to a b) = (a, b)) {k0 : Nat} {rs : List ResultVar} {st : TSt τ} {r : R} (h : endR D ret L' to k0 rs st = some r) :
    (∃ a b, r = to a b) ∧ ∃ v θ, resOf D.E rs (denS D.C st) = some v ∧ (∀ j, j < k0 → θ j = some j) ∧ RW θ v ((ret.enc D.C (of r).1).den D.C) ∧ Rens θ (hget (denS D.C st).h) (hget ((ESh.encs D.C L' (of r).2).map (TEnt.den D.C))) := by
  unfold endR at h
  split at h
  · rename_i xs hxs
    have hres := resT_sound hD hxs
    have hv : resOf D.E rs (denS D.C st) = some ((tupT xs).den D.C) := by
      unfold resOf
      rw [hres]
      unfold tupT
      split
      · rename_i v hv
        split
        · rename_i x; simp only [List.map_cons, List.map_nil, Option.some.injEq, List.cons.injEq, and_true] at hv; rw [← hv]
        · rename_i hne
          simp only [Option.some.injEq] at hv
          cases xs with
          | nil => simp at hv
          | cons y ys => cases ys with
            | nil => exact absurd rfl (hne y)
            | cons z zs => simp at hv
      · rename_i vs hne hvs
        simp only [Option.some.injEq] at hvs
        subst hvs
        split
        · rename_i x; exact absurd rfl (hne _)
        · simp only [TV.den, denL_eq]
      · rename_i hn; cases hn
    obtain ⟨h1, θ, h2, h3, h4⟩ := endX_sound hD hto h
    exact ⟨h1, _, θ, hv, h2, h3, h4⟩
  · cases h
theorem endT_sound {D : TEnv τ} (hD : D.Ok) {c : Con τ} {to : c.ret.T τ → ESh.Ts τ c.L' → c.R} {ta : Option ((A : Alt τ c.R) × (A.ret.T τ → ESh.Ts τ A.L' → c.R))} (hto : ∀ a b, c.of (to a b) = (a, b)) (hta : c.alt = ta.map (·.1))
    (hs1 : ∀ A t, ta = some ⟨A, t⟩ → (∀ a b, c.sel (to a b) = false) ∧ (∀ a b, c.sel (t a b) = true) ∧ ∀ a b, A.of (t a b) = (a, b)) {k0 : Nat} {rs : List ResultVar} {st : TSt τ} {r : c.R} (h : endT D c to ta k0 rs st = some r) :
    ∃ v θ, resOf D.E rs (denS D.C st) = some v ∧ (∀ j, j < k0 → θ j = some j) ∧ RW θ v ((c.out D.C r).1.den D.C) ∧ Rens θ (hget (denS D.C st).h) (hget ((c.out D.C r).2.map (TEnt.den D.C))) := by
  unfold endT at h
  unfold Con.out
  cases ta with
  | none =>
    rw [show c.alt = none from hta]
    split at h
    · rename_i r' hr
      cases h
      exact (endR_sound hD hto hr).2
    · cases h
  | some At =>
    obtain ⟨A, t⟩ := At
    rw [show c.alt = some A from hta]
    obtain ⟨q1, q2, q3⟩ := hs1 A t rfl
    split at h
    · rename_i r' hr
      cases h
      obtain ⟨⟨a, b, rfl⟩, h2⟩ := endR_sound hD hto hr
      simp only [q1, cond_false]
      exact h2
    · obtain ⟨⟨a, b, rfl⟩, h2⟩ := endR_sound (of := A.of) hD q3 h
      simp only [q2, cond_true]
      exact h2
theorem con_ok {D : Dat τ} (hD : D.Ok) {f : FuncId} {fn : Func} {code : Code} (c : Con τ) (to : c.ret.T τ → ESh.Ts τ c.L' → c.R) (ta : Option ((A : Alt τ c.R) × (A.ret.T τ → ESh.Ts τ A.L' → c.R))) (hto : ∀ a b, c.of (to a b) = (a, b)) (hta : c.alt = ta.map (·.1))
    (hs1 : ∀ A t, ta = some ⟨A, t⟩ → (∀ a b, c.sel (to a b) = false) ∧ (∀ a b, c.sel (t a b) = true) ∧ ∀ a b, A.of (t a b) = (a, b)) (n : Nat) (hf : D.D.E.P.funcs[f]? = some fn) (hb : fn.body = some code)
    (hname : (fn.name == "runtime.NumGoroutine") = false) (hok : codeOk code = true) (hk : D.k0 = c.L.length)
    (h : ∀ N a b, run D N n [.code code] (entryT D.D.C fn.ntmps c a b) (finK D.D c to ta D.k0 fn.results.toList) = c.F N a b) (hsub : subOk (SiteP D) code := by exact subOk_no (by kernel_rfl)) (hy : Nat.beq f yieldF = false := by rfl) (hro : D.D.E.ro = none := by rfl) (hxe : c.ext = false := by rfl) : ConOk D.D.E D.D.C f c := by
  intro N a b r hr
  rw [hy, hxe]
  show FnSpec D.D.E f _ _ _ _
  rw [← h] at hr
  have hg : Gd (entryT D.D.C fn.ntmps c a b) := by
    refine ⟨fun k d w q y e => ?_, fun g hg => by cases hg⟩
    rcases tnth_mem (t := (entryT D.D.C fn.ntmps c a b).t) (k := k) with hm | hm
    · rw [e] at hm
      rcases List.mem_append.1 hm with h1 | h1
      · exact absurd rfl (encs_nocnd hD.ok.C c.args a _ h1 d w q y)
      · have := List.eq_of_mem_replicate h1; cases this
    · rw [e] at hm; cases hm
  have hs := run_sound hD (N := N) n [.code code] (entryT D.D.C fn.ntmps c a b) (finK D.D c to ta D.k0 fn.results.toList)
    (Ends D.D.E D.k0 fn.results.toList ((c.out D.D.C r).1.den D.D.C) ((c.out D.D.C r).2.map (TEnt.den D.D.C))) (fun e st' hk' _ _ => ?_) hg ⟨⟨hok, hsub⟩, trivial⟩ hr
  · refine FnSpec.intro hD.good hro hf hb hname ?_
    rw [List.length_map, length_encs, ← hk]
    have he : denS D.D.C (entryT D.D.C fn.ntmps c a b) = ⟨TV.denL D.D.C (Sh.encs D.D.C c.args a) ++ List.replicate (fn.ntmps - (TV.denL D.D.C (Sh.encs D.D.C c.args a)).length) .junk, (ESh.encs D.D.C c.L b).map (TEnt.den D.D.C)⟩ := by
      have hmap : ∀ l : List (TV τ), (∀ x ∈ l, ∀ d w b y, x ≠ TV.cnd d w b y) → l.map (denV D.D.C) = l.map (TV.den D.D.C) := fun l hl => List.map_congr_left fun x hx => by
        cases x with
        | cnd d w b y => exact absurd rfl (hl _ hx d w b y)
        | _ => rfl
      simp only [denS, entryT, List.map_append, List.map_replicate, denL_eq, List.length_map, encs_length]
      rw [hmap _ (fun x hx => encs_nocnd hD.ok.C c.args a x hx)]
      rfl
    rw [he] at hs
    simp only [semU] at hs
    exact hs
  · unfold finK at hk'
    cases e with
    | normal => exact endT_sound hD.ok hto hta hs1 hk'
    | ret => exact endT_sound hD.ok hto hta hs1 hk'
    | _ => cases hk'
end
end Go.Ev
