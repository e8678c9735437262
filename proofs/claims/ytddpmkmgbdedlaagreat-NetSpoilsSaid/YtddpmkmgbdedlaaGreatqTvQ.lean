/-
The typed layer: what the machine comes to is so; contracts of functions out of runs.
-/
import Derived.Test.YtddpmkmgbdedlaaGreatqTvP
set_option linter.unusedVariables false
set_option linter.unusedSimpArgs false
namespace Go.Ev
open Go
section
variable {τ:Nat→Type}
theorem RU.ren {E:Env} {k0:Nat} {c:Code} {Q:Exit→St→Prop} {θ:Nat→Option Nat} {s s':St} (h:StRen k0 θ s s'):∀ {m:Nat},RU E k0 c Q m s'→RU E k0 c Q m s
 | 0,hr=>hr
 | m+1,hr=>AWp.ren h hr
theorem aDw {α:Type} {p:α→Bool}:∀ {l:List α} {i k:Nat} {x:α},l[k]?=some x→p x=true→i+k∈qK p l i
 | [],i,k,x,h,_=>by simp at h
 | y :: r,i,0,x,h,hp=>by simp at h; subst h; simp [qK,hp]
 | y :: r, i, k + 1, x, h, hp => by
  have:=aDw (l:=r) (i:=i+1) (k:=k) (by simpa using h) hp
  simp only [qK]
  rw [show i+(k+1)=i+1+k by omega]
  cases p y<;>simp [this]
theorem aOa {a b k:Nat} (h1:a≤k) (h2:k < b):k∈aDs a b:=by
 simp only [aDs,List.mem_range'_1]; omega
theorem aDx:∀ (t:List (TV τ)) (k:Nat),t.length≤k→bT t k=.junk
 | [],k,_=>rfl
 | x :: r,0,hk=>by simp at hk
 | x :: r,k+1,hk=>aDx r k (by simpa using hk)
theorem aJ6 {C:Cod τ} {lp:Lp τ} {st st':TSt τ} {s:lp.S} (h:Frm (lp.head C st s) st'):Frm st (lp.back st st'):=by
 have hlen:(lp.head C st s).t.length=st.t.length:=aDn C st.t lp.ts (lp.ot s)
 refine ⟨h.len.trans hlen,fun k hk=>?_,fun i hi=>?_⟩
 ·simp only [Lp.back,List.mem_append,not_or,Lp.dirtyT] at hk
  obtain ⟨h1,⟨h2,h3⟩,h4⟩:=hk
  refine ⟨h4,?_⟩
  show bT st'.t k=bT st.t k
  rw [(h.dt k h1).2]
  rcases Nat.lt_or_ge k lp.ts.length with hlt | hge
  ·have hx:lp.ts[k]?=some lp.ts[k]:=List.getElem?_eq_getElem hlt
   have hkeep:lp.ts[k]=.keep:=by
    cases hs:lp.ts[k] with
    | keep=>rfl
    | _ =>
     have:=aDw (p:=fun s:Sl=>!s.isKeep) (i:=0) hx (by rw [hs]; rfl)
     rw [Nat.zero_add] at this
     exact absurd this h2
   rw [hkeep] at hx
   exact aJW st.t lp.ts (lp.ot s) k hx
  ·rcases Nat.lt_or_ge k st.t.length with h5 | h5
   ·exact absurd (aOa hge h5) h3
   ·rw [aDx st.t k h5,aDx _ k (by rw [hlen]; exact h5)]
 ·simp only [Lp.back,List.mem_append,not_or,Lp.dirtyH] at hi
  obtain ⟨h1,⟨h2,h3⟩,h4⟩:=hi
  refine ⟨h4,?_⟩
  show aM st'.h i=aM st.h i
  rw [(h.dh i h1).2]
  rcases Nat.lt_or_ge i lp.hs.length with hlt | hge
  ·have hx:lp.hs[i]?=some lp.hs[i]:=List.getElem?_eq_getElem hlt
   have hkeep:lp.hs[i]=.keep:=by
    cases hs:lp.hs[i] with
    | keep=>rfl
    | _ =>
     have:=aDw (p:=fun s:ESh=>!s.isKeep) (i:=0) hx (by rw [hs]; rfl)
     rw [Nat.zero_add] at this
     exact absurd this h2
   rw [hkeep] at hx
   have:=aJX (C:=C) (h:=st.h) lp.hs 0 (lp.oh s) i hx
   rw [Nat.zero_add] at this
   exact this
  ·rcases Nat.lt_or_ge i st.h.length with h5 | h5
   ·exact absurd (aOa hge h5) h3
   ·rw [lU st.h i h5]
    exact lU _ _ (by show (kS C st.h lp.hs 0 (lp.oh s)).length≤i; rw [aDm]; exact hge)
theorem aJ7:∀ (t:List (TV τ)) (k:Nat),bT (t.map (fun x=>bif x.isCnd then .junk else x)) k=bif (bT t k).isCnd then .junk else bT t k
 | [],_=>rfl
 | _ :: _,0=>rfl
 | _ :: r,k+1=>aJ7 r k
theorem aOb:∀ (t:List (TV τ)) (k:Nat) (h:k < t.length),bT t k=t[k]
 | [],_,h=>by cases h
 | _ :: _,0,_=>rfl
 | _ :: r,k+1,h=>aOb r k (Nat.lt_of_succ_lt_succ h)
theorem aXp (st:TSt τ):Frm st (mX st):=by
 refine ⟨by simp [mX],fun k hk=>?_,fun i hi=>⟨hi,rfl⟩⟩
 simp only [mX,List.mem_append,not_or] at hk ⊢
 refine ⟨hk.2,?_⟩
 rw [aJ7]
 cases hc:(bT st.t k).isCnd with
 | false=>rfl
 | true =>
  exfalso
  rcases Nat.lt_or_ge k st.t.length with hlt | hge
  ·have hx:st.t[k]?=some st.t[k]:=List.getElem?_eq_getElem hlt
   have he:bT st.t k=st.t[k]:=aOb st.t k hlt
   have:=aDw (p:=TV.isCnd) (i:=0) hx (by rw [← he]; exact hc)
   rw [Nat.zero_add] at this
   exact hk.1 this
  ·rw [aDx st.t k hge] at hc; cases hc
theorem aXq (st:TSt τ):Gd (mX st):=by
 refine ⟨fun k d w b x h=>?_,fun g h=>by cases h⟩
 simp only [mX] at h
 rw [aJ7] at h
 cases hc:(bT st.t k).isCnd with
 | false=>rw [hc] at h; simp only [cond_false] at h; rw [h] at hc; cases hc
 | true=>rw [hc] at h; cases h
theorem aXr {C:Cod τ} {E:Env} {k0:Nat} {c:Code} {st:TSt τ} {Q:Exit→St→Prop} (h:AWp E k0 c (aV C (mX st)) Q):AWp E k0 c (aV C st) Q:=by
 intro g a w hst g0 H0 w0 hk hev hdf
 refine h g a w ⟨?_,fun k x v hx hv=>?_,hst.rel⟩ g0 H0 w0 hk hev hdf
 ·have:=hst.len; simpa [aV,mX] using this
 ·simp only [aV,mX,List.getElem?_map,Option.map_map] at hx
  cases ht:st.t[k]? with
  | none=>rw [ht] at hx; cases hx
  | some y =>
   rw [ht] at hx
   simp only [Option.map_some,Option.some.injEq,Function.comp] at hx
   have:=hst.t k (cO C y) v (by simp only [aV,List.getElem?_map,ht,Option.map_some]) hv
   cases hc:y.isCnd with
   | false=>rw [hc] at hx; simp only [cond_false] at hx; subst hx; exact this
   | true=>rw [hc] at hx; simp only [cond_true] at hx; subst hx; exact .junk v
theorem aOc {X:Type} {e:Nat} {go:Code→Option X} {x:X}:∀ {l:List Nat},tE e go l=some x→∃ q,e=q∧go (vW q)=some x
 | [],h=>by cases h
 | q :: l, h => by
  simp only [tE] at h
  cases hq:Nat.beq e q with
  | true=>rw [hq] at h; exact ⟨q,Nat.eq_of_beq_eq_true hq,h⟩
  | false=>rw [hq] at h; exact aOc (l:=l) h
theorem run_rf {D:Dat τ} (hD:D.Ok) (hinr:D.inr=false) {st:TSt τ} {gop:Operand} {ps:Array Tmp} {asg body:Code} (hsite:kU D ps asg body) {f:FuncId} {caps:List (TV τ)} (hv:st.val gop=.fn f caps) (hf:Nat.beq f kR=false)
  {x:Hit τ} (hx:sW D.D.C (rfH D st asg body) (.yld st.h.length :: caps) x) (hxe:x.c.ext=false) (hc:x.c∈D.tbl f) {N:Nat} {r:x.c.R} (hr:x.c.F N x.a x.b=some r) (out:TV τ×List (TEnt τ)) (hout:x.c.out D.D.C r=out) (hq:x.c.L.length≤out.2.length) {Q:Exit→St→Prop}
  (h:((∃ a b c,aM (dP (rfH D st asg body) (rfU st (rfH D st asg body) x.σ out)) st.h.length=.rcd a b c)∧Q .normal (aV D.D.C (jB st (dP (rfH D st asg body) (rfU st (rfH D st asg body) x.σ out)) ((rfU st (rfH D st asg body) x.σ out).map (·.1))))) ∨
   ∃ e,aM (dP (rfH D st asg body) (rfU st (rfH D st asg body) x.σ out)) st.h.length=.rdn e∧AWp D.D.E D.k0 (vW e) (aV D.D.C (jB st (dP (rfH D st asg body) (rfU st (rfH D st asg body) x.σ out)) ((rfU st (rfH D st asg body) x.σ out).map (·.1)))) Q) :
  AWp D.D.E D.k0 (.rangeFunc gop ps asg body) (aV D.D.C st) Q:=by
 have hs:=hD.tbl f x.c hc N x.a x.b r hr
 rw [hf,hxe,hout] at hs
 replace hs:FnSpec D.D.E f (TV.denL D.D.C (Sh.encs D.D.C x.c.args x.a)) ((ESh.encs D.D.C x.c.L x.b).map (TEnt.den D.D.C)) (out.1.den D.D.C) (out.2.map (TEnt.den D.D.C)):=hs
 have hv':(aV D.D.C st).val gop=.fn f (TV.denL D.D.C caps):=by
  cases gop with
  | tmp k =>
   simp only [aV,St.val,sU]
   have e:bT st.t k=.fn f caps:=hv
   rw [e]; rfl
  | const v =>
   simp only [TSt.val] at hv
   unfold cval at hv
   split at hv<;>cases hv
  | func f'=>cases hv; rfl
  | global g=>cases hv
 have hlen:(aV D.D.C st).h.length=st.h.length:=by simp [aV]
 have hH1:upd (aH (aV D.D.C st).h) (aV D.D.C st).h.length (.rcd ps asg body (TV.denL D.D.C (st.t.map nc)))=aH ((rfH D st asg body).map (TEnt.den D.D.C)):=by
  have hsd:(TEnt.rcd D.fid (aAs asg body) (st.t.map nc):TEnt τ).den D.D.C=.rcd ps asg body (TV.denL D.D.C (st.t.map nc)):=by
   have hsite':D.D.C.site D.fid (aAs asg body)=(ps,asg,body):=hsite
   simp only [TEnt.den,hsite']
  rw [hlen,← hsd]
  unfold rfH
  rw [← aAo,xX]; rfl
 refine AWp.rangeFunc (hD.ro hinr) hv' hs.1 (ts:=TV.denL D.D.C (st.t.map nc)) ?_ (H2:=app (aH ((rfH D st asg body).map (TEnt.den D.D.C))) (bP D.D.C (rfU st (rfH D st asg body) x.σ out))) ?_
  (h':=(aV D.D.C (jB st (dP (rfH D st asg body) (rfU st (rfH D st asg body) x.σ out)) ((rfU st (rfH D st asg body) x.σ out).map (·.1)))).h) ?_ ?_
 ·refine ⟨by simp [aV,kP],fun k a b ha hb=>?_⟩
  simp only [aV,kP,List.map_map,List.getElem?_map,Option.map_eq_some_iff] at ha hb
  obtain ⟨y,hy,rfl⟩:=ha
  obtain ⟨z,hz,rfl⟩:=hb
  rw [hy] at hz; cases hz
  intro g v hvr
  cases y with
  | cnd d w b z=>exact .junk v
  | _=>exact hvr
 ·intro g w cargs hW hargs
  rw [hH1] at hW ⊢
  rw [hlen] at hargs
  have hr0:StRel g ⟨[],(rfH D st asg body).map (TEnt.den D.D.C)⟩ { tmps:=#[],defers:=[] } w:=⟨rfl,by simp,hW⟩
  have key:=aDj (h:=rfH D st asg body) hD.ok hx hq (X:=fun c w R=>Calls D.D.E.P f c w R) (fun h hr=>Calls.mono h hr) (fun g w cargs=>hs.2 g w cargs) hr0.rel (fun id _=>gY _ _ _) (cargs:=cargs) (by simpa only [TV.denL,TV.den] using hargs)
  refine key.mono ?_
  rintro e w' ⟨v,g',rfl,_,hev,_⟩
  exact ⟨v,g',rfl,hev⟩
 ·rw [hlen]
  show aH ((eX (dP (rfH D st asg body) (rfU st (rfH D st asg body) x.σ out)) st.h.length .dead).map (TEnt.den D.D.C))=_
  rw [← aAo,xX,← aC8,uC]; rfl
 ·rw [hlen]
  have he:app (aH ((rfH D st asg body).map (TEnt.den D.D.C))) (bP D.D.C (rfU st (rfH D st asg body) x.σ out)) st.h.length=(aM (dP (rfH D st asg body) (rfU st (rfH D st asg body) x.σ out)) st.h.length).den D.D.C:=by
   rw [← uC,aC8,gY]
  rw [he]
  rcases h with ⟨⟨a,b,c,h1⟩,h2⟩ | ⟨e,h1,h2⟩
  ·exact .inl ⟨⟨_,_,_,_,by rw [h1]; rfl⟩,h2⟩
  ·exact .inr ⟨_,by rw [h1]; rfl,h2⟩
theorem fI {D:Dat τ} (hD:D.Ok) {N:Nat} {X:Type} {x:X}:∀ (n:Nat) (t:List cU) (st:TSt τ) (K:Exit→TSt τ→Option X) (Q:Exit→St→Prop),
  (∀ l s,¬ Q (.goto l) s)→(∀ e st',(∀ l,e≠.goto l)→K e st'=some x→Gd st'→Frm st st'→Q e (aV D.D.C st'))→Gd st→TodoOk (kU D) t→run D N n t st K=some x→bK D.D.E D.k0 t Q .normal (aV D.D.C st)
 | 0,t,st,K,Q,hQ,hK,hg,ht,h=>by cases h
 | n + 1, t, st, K, Q, hQ, hK, hg, ht, h => by
  cases t with
  | nil=>exact hK .normal st (fun _ h=>by cases h) h hg (.refl st)
  | cons a t =>
   cases a with
   | blk id =>
    simp only [run] at h
    simp only [bK]
    exact fI hD n t st K Q hQ hK hg ht h
   | rep c m =>
    obtain ⟨hc,ht⟩:=ht
    cases m with
    | zero=>simp only [run] at h; cases h
    | succ m =>
     simp only [run] at h
     have:=fI hD n (.code c :: .rep c m :: t) (mX st) K Q hQ (fun e st' hne hk hg' hf=>hK e st' hne hk hg' (.trans (aXp st) hf)) (aXq st) ⟨hc,hc,ht⟩ h
     simp only [bK] at this ⊢
     refine AWp.mono (fun e s hs=>?_) (aXr this)
     cases e<;>exact hs
   | ops ops draw i rest tr =>
    cases rest with
    | nil =>
     simp only [run] at h
     cases hi:(!draw || jR (qD ops) tr) with
     | false=>rw [hi] at h; cases h
     | true =>
      rw [hi] at h
      simp only [cond_true] at h
      refine ⟨[],aV D.D.C st,rfl,fun hd=>?_,?_⟩
      ·subst hd; simpa [qF] using hi
      ·exact fI hD n t { st with off:=[] } K Q hQ (fun e st' hne hk hg' hf=>hK e st' hne hk hg' ⟨hf.len,hf.dt,hf.dh⟩) ⟨hg.inv,fun g hg=>by cases hg⟩ ht h
    | cons o rest =>
     simp only [run] at h
     obtain ⟨st1,F,U,⟨y,t1,t2,t3,t4,t5,t6,t7⟩,h⟩:=aXo hD hg h
     obtain ⟨xs,st',r1,r2,r3⟩:=fI hD n _ st1 K Q hQ (fun e st' hne hk hg' hf=>hK e st' hne hk hg' (t7.trans hf)) t6 (show TodoOk (kU D) (.ops ops draw (i+1) rest ((i,F,U) :: tr) :: t) from ht) h
     refine ⟨y :: xs,st',⟨t1,t2,?_⟩,fun hd=>?_,r3⟩
     ·rw [t5]; exact r1
     ·have:=r2 hd
      rw [← t3,← t4] at this
      exact this
   | code c =>
    obtain ⟨hc,ht⟩:=ht
    simp only [bK]
    cases c with
    | skip=>simp only [run] at h; exact .skip (fI hD n t st K Q hQ hK hg ht h)
    | ret=>simp only [run] at h; exact .ret (tF (hK .ret st (fun _ h=>by cases h) h hg (.refl st)))
    | label l=>simp only [run] at h; exact .label (fI hD n t st K Q hQ hK hg ht h)
    | exit id =>
     simp only [run] at h
     refine .exit (wS ?_)
     split at h
     ·rename_i t' ht'
      exact fI hD n t' st K Q hQ hK hg (ht.exit ht') h
     ·rename_i ht'
      exact hK _ st (fun _ h=>by cases h) h hg (.refl st)
    | seq a b =>
     simp only [run] at h
     have:=fI hD n (.code a :: .code b :: t) st K Q hQ hK hg ⟨hc.seq.1,hc.seq.2,ht⟩ h
     refine .seq (AWp.mono (fun e s hs=>?_) this)
     cases e<;>exact hs
    | block id c =>
     simp only [run] at h
     have:=fI hD n (.code c :: .blk id :: t) st K Q hQ hK hg ⟨hc.block,ht⟩ h
     refine .block (AWp.mono (fun e s hs=>?_) this)
     cases e<;>exact hs
    | scope c =>
     simp only [run] at h
     have:=fI hD n (.code c :: t) st K Q hQ hK hg ⟨hc.scope,ht⟩ h
     refine .scope (AWp.mono (fun e s hs=>?_) this)
     cases e with
     | goto l=>exact hQ l s (wT hs)
     | _=>exact hs
    | region id ops draw =>
     simp only [run] at h
     obtain ⟨xs,st',r1,r2,r3⟩:=fI hD n (.ops ops draw 0 ops.toList [] :: t) st K Q hQ hK hg ht h
     exact .region hD.good hc.ok r1 r3 r2
    | cond c a b =>
     simp only [run] at h
     replace hc:=hc.cond
     split at h
     ·rename_i q hq
      have hv:(aV D.D.C st).val c=.v (.bool q):=by
       cases c with
       | tmp k =>
        simp only [aV,St.val,sU]
        have e:bT st.t k=.bool q:=hq
        rw [e]; rfl
       | const v =>
        simp only [TSt.val] at hq
        unfold cval at hq
        split at hq<;>cases hq
        rfl
       | func f=>cases hq
       | global g=>cases hq
      refine .cond hv (fun e=>?_) (fun e=>?_)
      ·subst e; exact fI hD n (.code a :: t) st K Q hQ hK hg ⟨hc.1,ht⟩ h
      ·subst e; exact fI hD n (.code b :: t) st K Q hQ hK hg ⟨hc.2,ht⟩ h
     ·cases h
    | loop c =>
     simp only [run] at h
     split at h
     ·cases h
     ·split at h
      ·rename_i m hm
       have hcc:COk (kU D) c:=hc.loop
       have:=fI hD n (.rep c m :: t) st K Q hQ hK hg ⟨hcc,ht⟩ h
       exact AWp.rounds this
      split at h
      ·cases h
      ·rename_i lp hlp
       split at h
       ·cases h
       ·rename_i s0 hs0
        have hcc:COk (kU D) c:=hc.loop
        have hnc:=fun s=>Lp.head_nocnd (st:=st) hD.ok.C hs0 rfl s
        have hgd:∀ s,Gd (lp.head D.D.C st s):=fun s=>⟨fun k d w b y e=>absurd e (hnc s k d w b y),fun g hg=>by cases hg⟩
        have key:∀ (m:Nat) (s:lp.S),bE m (fun s next=>run D N n [.code c] (lp.head D.D.C st s) fun e st'=>match e with
          | .normal=>(match lp.dec D.D.C D.k0 st' with | some s'=>next s' | none=>none)
          | .ret=>K .ret (lp.back st st')
          | .exit id=>(match kT id t with | some t'=>run D N n t' (lp.back st st') K | none=>K (.exit id) (lp.back st st'))
          | _=>none) s=some x→RU D.D.E D.k0 c (bK D.D.E D.k0 t Q) m (aV D.D.C (lp.head D.D.C st s)):=by
         intro m
         induction m with
         | zero=>intro s hs; cases hs
         | succ m ih =>
          intro s hs
          simp only [bE] at hs
          refine fI hD n [.code c] (lp.head D.D.C st s) _ (fun e s1=>match e with | .normal=>RU D.D.E D.k0 c (bK D.D.E D.k0 t Q) m s1 | e=>bK D.D.E D.k0 t Q e s1) (fun l s hs=>hQ l s (wT hs)) (fun e st' hne hk hg' hf=>?_) (hgd s) ⟨hcc,trivial⟩ hs
          have hgb:Gd (lp.back st st'):=⟨hg'.inv,fun g hg=>by cases hg⟩
          cases e with
          | normal =>
           simp only [] at hk ⊢
           split at hk
           ·rename_i s' hs'
            have hlen:st'.t.length=st.t.length:=hf.len.trans (aDn D.D.C st.t lp.ts (lp.ot s))
            obtain ⟨θ,hθ⟩:=Lp.ren hD.ok.C (base:=st) hs' hlen
             (fun k hkk hnd=>((hf.dt k hnd).2).trans (aJW st.t lp.ts (lp.ot s) k hkk))
             (fun i hkk hnd=>((hf.dh i hnd).2).trans (by have:=aJX (C:=D.D.C) (h:=st.h) lp.hs 0 (lp.oh s) i hkk; rw [Nat.zero_add] at this; exact this))
            exact RU.ren hθ (ih s' hk)
           ·cases hk
          | ret=>exact tF (hK .ret (lp.back st st') (fun _ h=>by cases h) (show K .ret (lp.back st st')=some x from hk) hgb (aJ6 hf))
          | exit id =>
           simp only [] at hk ⊢
           refine wS ?_
           split at hk
           ·rename_i t' ht'
            rw [ht']
            show bK D.D.E D.k0 t' Q .normal (aV D.D.C (lp.back st st'))
            exact fI hD n t' (lp.back st st') K Q hQ (fun e st2 hne hk2 hg2 hf2=>hK e st2 hne hk2 hg2 ((aJ6 hf).trans hf2)) hgb (ht.exit ht') hk
           ·rename_i ht'
            rw [ht']
            exact hK (.exit id) (lp.back st st') (fun _ h=>by cases h) hk hgb (aJ6 hf)
          | _=>cases hk
        have h0:=key N s0 h
        obtain ⟨θ,hθ⟩:=Lp.ren hD.ok.C (base:=st) hs0 rfl (fun k _ _=>rfl) (fun i _ _=>rfl)
        exact AWp.rounds (RU.ren hθ h0)
    | rangeFunc gop ps asg body =>
     simp only [run] at h
     cases hinr:D.inr with
     | true=>rw [hinr] at h; cases h
     | false =>
     rw [hinr] at h
     simp only [cond_false] at h
     split at h
     ·rename_i f caps hv
      cases hf:Nat.beq f kR with
      | true=>rw [hf] at h; cases h
      | false =>
      rw [hf] at h
      simp only [cond_false] at h
      split at h
      ·rename_i x' hx
       cases hxe:x'.c.ext with
       | true=>rw [hxe] at h; cases h
       | false =>
       rw [hxe] at h
       simp only [cond_false] at h
       cases hq:(Nat.ble x'.c.L.length x'.c.L'.length&&wR x'.c.L.length x'.c.alt) with
       | false=>rw [hq] at h; cases h
       | true =>
       rw [hq] at h
       simp only [cond_true] at h
       simp only [Bool.and_eq_true] at hq
       obtain ⟨r,hr,h⟩:=Option.bind_eq_some_iff.1 h
       obtain ⟨h1,h2⟩:=aJR hD.ok.C hx
       have hfr:∀ (hh:List (TEnt τ)) (ids:List Nat),(∀ i,i ∉ ids→aM hh i=aM (rfH D st asg body) i)→Frm st (jB st hh ids):=fun hh ids hids=>⟨rfl,fun k hk=>⟨hk,rfl⟩,fun i hi=>by
        simp only [jB,List.mem_cons,List.mem_append,not_or] at hi
        refine ⟨hi.2.2,?_⟩
        show aM (eX hh st.h.length .dead) i=aM st.h i
        rw [mS _ _ _ _ hi.1,hids i hi.2.1]
        exact mS _ _ _ _ hi.1⟩
       have hgr:∀ (hh:List (TEnt τ)) (ids:List Nat),Gd (jB st hh ids):=fun hh ids=>⟨hg.inv,fun g hg=>by cases hg⟩
       have fin:∀ out,x'.c.out D.D.C r=out→x'.c.L.length≤out.2.length →
         (match aM (dP (rfH D st asg body) (rfU st (rfH D st asg body) x'.σ out)) st.h.length with
         | .rcd _ _ _=>run D N n t (jB st (dP (rfH D st asg body) (rfU st (rfH D st asg body) x'.σ out)) ((rfU st (rfH D st asg body) x'.σ out).map (·.1))) K
         | .rdn e=>tE e (fun c=>run D N n (.code c :: t) (jB st (dP (rfH D st asg body) (rfU st (rfH D st asg body) x'.σ out)) ((rfU st (rfH D st asg body) x'.σ out).map (·.1))) K) D.ex
         | _=>none)=some x→AWp D.D.E D.k0 (.rangeFunc gop ps asg body) (aV D.D.C st) (bK D.D.E D.k0 t Q):=fun out hout hq' hm=>by
        have hF:=hfr (dP (rfH D st asg body) (rfU st (rfH D st asg body) x'.σ out)) ((rfU st (rfH D st asg body) x'.σ out).map (·.1)) (fun i hi=>aJK _ _ _ hi)
        refine run_rf hD hinr hc.sub hv hf h2 hxe h1 hr out hout hq' ?_
        split at hm
        ·rename_i a b c' he
         exact .inl ⟨⟨a,b,c',he⟩,fI hD n t _ K Q hQ (fun e st' hne hk hg' hf'=>hK e st' hne hk hg' (hF.trans hf')) (hgr _ _) ht hm⟩
        ·rename_i e he
         obtain ⟨q,hq1,hq2⟩:=aOc hm
         subst hq1
         refine .inr ⟨e,he,?_⟩
         have hco:COk (kU D) (vW e):=by cases e<;>exact ⟨rfl,trivial⟩
         exact fI hD n (.code (vW e) :: t) _ K Q hQ (fun e st' hne hk hg' hf'=>hK e st' hne hk hg' (hF.trans hf')) (hgr _ _) ⟨hco,ht⟩ hq2
        ·cases hm
       split at h
       ·rename_i ha
        exact fin _ (by unfold Con.out; rw [ha]) (by simp only [Con.out1,iZ]; exact Nat.le_of_ble_eq_true hq.1) h
       ·rename_i A ha
        cases hs:x'.c.sel r with
        | true =>
         rw [hs] at h
         exact fin _ (by unfold Con.out; rw [ha]; simp only [hs,cond_true]) (by rw [ha] at hq; simp only [Alt.out,iZ]; exact Nat.le_of_ble_eq_true hq.2) h
        | false =>
         rw [hs] at h
         exact fin _ (by unfold Con.out; rw [ha]; simp only [hs,cond_false]) (by simp only [Con.out1,iZ]; exact Nat.le_of_ble_eq_true hq.1) h
      ·cases h
     ·cases h
    | _=>cases h
theorem aJ8 {D:Dat τ} (hD:D.Ok) {N:Nat} {X:Type} {x:X} (n:Nat) (t:List cU) (st:TSt τ) (K:Exit→TSt τ→Option X) (Q:Exit→St→Prop)
  (hK:∀ e st',K e st'=some x→Gd st'→Frm st st'→Q e (aV D.D.C st')) (hg:Gd st) (ht:TodoOk (kU D) t) (h:run D N n t st K=some x):bK D.D.E D.k0 t Q .normal (aV D.D.C st) :=
 mY (Q:=fun e s=>(∀ l,e≠.goto l)∧Q e s) (fun e s hs=>hs.2) (fI hD n t st K _ (fun l s hs=>hs.1 l rfl) (fun e st' hne hk hg' hf=>⟨hne,hK e st' hk hg' hf⟩) hg ht h)
def resT (D:TEnv τ) (st:TSt τ):List ResultVar→Option (List (TV τ))
 | []=>some []
 | .tmp k :: r => match bT st.t k, resT D st r with
  | .cnd _ _ _ _,_=>none
  | x,some l=>some (x :: l)
  | _,none=>none
 | .cell a t :: r => match bT st.t a with
  | .ptr id [] => (match wB D (aM st.h) t (.ptr id []), resT D st r with
   | some x,some l=>some (x :: l)
   | _,_=>none)
  | _=>none
theorem aXs {D:TEnv τ} (hD:D.Ok) {st:TSt τ} {t id:Nat} {y:TV τ} (h:wB D (aM st.h) t (.ptr id [])=some y):mF D.E (aH (aV D.C st).h) t (.ptr id 0)=some (y.den D.C):=by
 unfold wB at h
 split at h
 ·cases h
 ·rename_i i hi
  have main:∀ {x:TV τ},(aM st.h id=.box x∨aM st.h id=.ibox x)→(match x.sub D.C [] with | some y=>(bif fY D.C i y then some y else none) | none=>none)=some y→mF D.E (aH (aV D.C st).h) t (.ptr id 0)=some (y.den D.C):=fun {x} hx hm=>by
   simp only [TV.sub] at hm
   cases hf:fY D.C i x with
   | false=>rw [hf] at hm; cases hm
   | true =>
    rw [hf] at hm
    simp only [cond_true,Option.some.injEq] at hm
    subst hm
    have:=aAf (x:=x) (p:=[]) hD rfl rfl hf
    simp only [bM] at this
    unfold mF
    rcases hx with hx | hx<;>(simp only [hi,pA,aV,gY,hx,TEnt.den]; exact this)
  simp only [] at h
  split at h
  ·rename_i x hx; exact main (.inl hx) h
  ·rename_i x hx; exact main (.inr hx) h
  ·cases h
theorem aJ9 {D:TEnv τ} (hD:D.Ok) {st:TSt τ}:∀ {rs:List ResultVar} {xs:List (TV τ)},resT D st rs=some xs→nW D.E (aV D.C st) rs=some (xs.map (TV.den D.C))
 | [],xs,h=>by cases h; rfl
 | .tmp k :: r, xs, h => by
  simp only [resT] at h
  split at h
  ·cases h
  ·rename_i x l hl hne
   cases h
   simp only [nW,wG,aV,sU]
   have:cO D.C (bT st.t k)=(bT st.t k).den D.C:=by
    cases hx:bT st.t k<;>first | rfl | exact absurd hx (hne _ _ _ _)
   have hr:=aJ9 hD hl
   simp only [aV] at hr
   rw [this,hr]; rfl
  ·cases h
 | .cell a t :: r, xs, h => by
  simp only [resT] at h
  split at h
  ·rename_i id ha
   split at h
   ·rename_i x l hx hl
    cases h
    have:nth (aV D.C st).t a=.ptr id 0:=by simp only [aV,sU,ha]; rfl
    simp only [nW,wG,aJ9 hD hl,this,aXs hD hx]; rfl
   ·cases h
  ·cases h
def tupT:List (TV τ)→TV τ
 | [x]=>x
 | xs=>.tup xs
def idPrs:Nat→Prs
 | 0=>[]
 | k+1=>idPrs k++[(k,some k)]
def endX (D:TEnv τ) (ret:Sh) (L':List ESh) {R:Type} (to:ret.T τ→ESh.Ts τ L'→R) (k0:Nat) (x:TV τ) (st:TSt τ):Option R :=
 match ret.dec D.C x with
 | some (a, ps) =>
  match wL D.C st.h L' 0 (idPrs k0++ps) with
  | some (b, ps') =>
   bif wN (θof k0 ps') ps'&&ps'.all (fun p=>Nat.blt p.1 L'.length)&&oA (jA (θof k0 ps') L' 0)&&Nat.ble k0 L'.length then some (to a b) else none
  | none=>none
 | none=>none
def endR (D:TEnv τ) (ret:Sh) (L':List ESh) {R:Type} (to:ret.T τ→ESh.Ts τ L'→R) (k0:Nat) (rs:List ResultVar) (st:TSt τ):Option R :=
 match resT D st rs with
 | some xs=>endX D ret L' to k0 (tupT xs) st
 | none=>none
def endT (D:TEnv τ) (c:Con τ) (to:c.ret.T τ→ESh.Ts τ c.L'→c.R) (ta:Option ((A:Alt τ c.R)×(A.ret.T τ→ESh.Ts τ A.L'→c.R))) (k0:Nat) (rs:List ResultVar) (st:TSt τ):Option c.R :=
 match endR D c.ret c.L' to k0 rs st with
 | some r=>some r
 | none => match ta with
  | none=>none
  | some ⟨A,t⟩=>endR D A.ret A.L' t k0 rs st
def oE (D:TEnv τ) (c:Con τ) (to:c.ret.T τ→ESh.Ts τ c.L'→c.R) (ta:Option ((A:Alt τ c.R)×(A.ret.T τ→ESh.Ts τ A.L'→c.R))) (k0:Nat) (rs:List ResultVar) (e:Exit) (st:TSt τ):Option c.R :=
 match e with
 | .normal=>endT D c to ta k0 rs st
 | .ret=>endT D c to ta k0 rs st
 | _=>none
def iK (C:Cod τ) (n:Nat) (c:Con τ) (a:Sh.Ts τ c.args) (b:ESh.Ts τ c.L):TSt τ :=
 ⟨Sh.encs C c.args a++List.replicate (n - c.args.length) .junk,ESh.encs C c.L b,[],[],[]⟩
theorem aKa (C:Cod τ):∀ (l:List Sh) (a:Sh.Ts τ l),(Sh.encs C l a).length=l.length
 | [],_=>rfl
 | s :: r, a => by
  show (Sh.enc C s a.1 :: Sh.encs C r a.2).length=_
  simp [aKa C r a.2]
theorem aAA {C:Cod τ} (hC:C.Ok):∀ (l:List Sh) (a:Sh.Ts τ l) (x:TV τ),x∈Sh.encs C l a→∀ d w b y,x≠.cnd d w b y
 | [], _, x, h => by
  have h':x∈([]:List (TV τ)):=h
  cases h'
 | s :: r, a, x, h => fun d w b y e => by
  have h':x∈Sh.enc C s a.1 :: Sh.encs C r a.2:=h
  rcases List.mem_cons.1 h' with h1 | h1
  ·exact head_nocnd hC s a.1 d w b y (h1▸e)
  ·exact aAA hC r a.2 x h1 d w b y e
theorem aOd {C:Cod τ} (x:TEnt τ) (hx:x=.dead):∀ (e:ESh) (a:e.T τ),sX C x e a=e.enc C a
 | .box s,a=>rfl
 | .gbx e,a=>rfl
 | .tail,a=>rfl
 | .dead,a=>rfl
 | .rcd _ _ _,a=>rfl
 | .rdn,a=>rfl
 | .pool _,a=>rfl
 | .keep,a=>hx
theorem aOe {C:Cod τ} {θ:Nat→Option Nat}:∀ (l:List ESh) (i:Nat) (b:ESh.Ts τ l) (j n:Nat),j < l.length→((aM (ESh.encs C l b) j).den C).live→θ (i+j)=some n →
  ∃ p:Nat,(jA θ l i)[p]?=some n∧(∀ j' n':Nat,j' < j→((aM (ESh.encs C l b) j').den C).live→θ (i+j')=some n'→∃ p':Nat,p' < p∧(jA θ l i)[p']?=some n')
 | [],i,b,j,n,hj,_,_=>by simp at hj
 | e :: l, i, b, 0, n, hj, hl, hn => by
  refine ⟨0,?_,fun j' n' h=>by omega⟩
  rw [Nat.add_zero] at hn
  have hl':((sX C .dead e b.1).den C).live:=by rw [aOd .dead rfl]; exact hl
  have:=aDl (C:=C) (x:=.dead) (a:=b.1) hl' hn
  simp only [jA,this]; rfl
 | e :: l, i, b, j + 1, n, hj, hl, hn => by
  obtain ⟨p,h1,h2⟩:=aOe (C:=C) (θ:=θ) l (i+1) b.2 j n (by simpa using hj) hl (by rw [← hn]; congr 1; omega)
  simp only [jA]
  refine ⟨(sZ θ i e).length+p,by rw [List.getElem?_append_right (by omega),Nat.add_sub_cancel_left]; exact h1,fun j' n' hj' hl' hn'=>?_⟩
  cases j' with
  | zero =>
   rw [Nat.add_zero] at hn'
   have hl'':((sX C .dead e b.1).den C).live:=by rw [aOd .dead rfl]; exact hl'
   have:=aDl (C:=C) (x:=.dead) (a:=b.1) hl'' hn'
   rw [this]
   exact ⟨0,by simp; omega,rfl⟩
  | succ j' =>
   obtain ⟨p',h3,h4⟩:=h2 j' n' (by omega) hl' (by rw [← hn']; congr 1; omega)
   exact ⟨(sZ θ i e).length+p',by omega,by rw [List.getElem?_append_right (by omega),Nat.add_sub_cancel_left]; exact h4⟩
theorem aXt {D:TEnv τ} (hD:D.Ok) {ret:Sh} {L':List ESh} {R:Type} {to:ret.T τ→ESh.Ts τ L'→R} {of:R→ret.T τ×ESh.Ts τ L'} (hto:∀ a b,of (to a b)=(a,b)) {k0:Nat} {x:TV τ} {st:TSt τ} {r:R} (h:endX D ret L' to k0 x st=some r) :
  (∃ a b,r=to a b)∧∃ θ,(∀ j,j < k0→θ j=some j)∧RW θ (x.den D.C) ((ret.enc D.C (of r).1).den D.C)∧Rens θ (aH (aV D.C st).h) (aH ((ESh.encs D.C L' (of r).2).map (TEnt.den D.C))):=by
 unfold endX at h
 split at h
 ·rename_i a ps ha
  split at h
  ·rename_i b ps' hb
   generalize hθ:θof k0 ps'=θ at h
   cases hc:(wN θ ps'&&ps'.all (fun p=>Nat.blt p.1 L'.length)&&oA (jA θ L' 0)&&Nat.ble k0 L'.length) with
   | false=>rw [hc] at h; cases h
   | true =>
    rw [hc] at h
    simp only [cond_true,Option.some.injEq] at h
    subst h
    refine ⟨⟨a,b,rfl⟩,?_⟩
    rw [hto]
    simp only [Bool.and_eq_true] at hc
    obtain ⟨⟨⟨c1,c2⟩,c3⟩,c4⟩:=hc
    have hok:=aNU c1
    obtain ⟨h1,h2⟩:=aDf hD.C L' 0 _ ps' b hb hok
    have hk0:∀ j,j < k0→θ j=some j:=fun j hj=>by
     rw [← hθ]; unfold θof
     rw [show Nat.blt j k0=true by simp only [Nat.blt,Nat.ble_eq]; exact hj]; rfl
    refine ⟨θ,hk0,(aAn hD.C ret _ a ps ha h1.right).1,⟨fun j=>?_,fun j j' i hl hl' e e'=>?_⟩⟩
    ·have eg:aH (aV D.C st).h=fun k=>(aM st.h k).den D.C:=by funext k; simp only [aV,gY]
     rw [eg,gY]
     rcases Nat.lt_or_ge j L'.length with hj | hj
     ·have:=h2 j hj
      rwa [Nat.zero_add] at this
     ·rw [lU _ _ (by rw [iZ]; exact hj)]
      show θ j=none
      have hle:k0≤L'.length:=Nat.le_of_ble_eq_true c4
      rw [← hθ]; unfold θof
      rw [show Nat.blt j k0=false by rw [Bool.eq_false_iff]; intro hb; (have:j < k0:=by simpa [Nat.blt,Nat.ble_eq,Nat.lt_iff_add_one_le] using hb); omega,aJV c2 hj]; rfl
    ·rw [gY] at hl hl'
     have hlt:∀ k,((aM (ESh.encs D.C L' b) k).den D.C).live→k < L'.length:=fun k hk=>by
      rcases Nat.lt_or_ge k L'.length with h' | h'
      ·exact h'
      ·rw [lU _ _ (by rw [iZ]; exact h')] at hk; exact hk.elim
     have key:∀ j j',j' < j→((aM (ESh.encs D.C L' b) j).den D.C).live→((aM (ESh.encs D.C L' b) j').den D.C).live→θ j=some i→θ j'=some i→False:=fun j j' hjj hl hl' e e'=>by
      obtain ⟨p,g1,g2⟩:=aOe (C:=D.C) (θ:=θ) L' 0 b j i (hlt j hl) hl (by rw [Nat.zero_add]; exact e)
      obtain ⟨p',g3,g4⟩:=g2 j' i hjj hl' (by rw [Nat.zero_add]; exact e')
      have hnd:=aDi c3
      obtain ⟨q1,q2⟩:=List.getElem?_eq_some_iff.1 g1
      obtain ⟨q3,q4⟩:=List.getElem?_eq_some_iff.1 g4
      have:=(List.getElem_inj hnd (h₀:=q1) (h₁:=q3)).1 (q2.trans q4.symm)
      omega
     rcases Nat.lt_trichotomy j j' with hjj | hjj | hjj
     ·exact (key j' j hjj hl' hl e' e).elim
     ·exact hjj
     ·exact (key j j' hjj hl hl' e e').elim
  ·cases h
 ·cases h
theorem aKb {D:TEnv τ} (hD:D.Ok) {ret:Sh} {L':List ESh} {R:Type} {to:ret.T τ→ESh.Ts τ L'→R} {of:R→ret.T τ×ESh.Ts τ L'} (hto:∀ a b,of (to a b)=(a,b)) {k0:Nat} {rs:List ResultVar} {st:TSt τ} {r:R} (h:endR D ret L' to k0 rs st=some r) :
  (∃ a b,r=to a b)∧∃ v θ,qG D.E rs (aV D.C st)=some v∧(∀ j,j < k0→θ j=some j)∧RW θ v ((ret.enc D.C (of r).1).den D.C)∧Rens θ (aH (aV D.C st).h) (aH ((ESh.encs D.C L' (of r).2).map (TEnt.den D.C))):=by
 unfold endR at h
 split at h
 ·rename_i xs hxs
  have hres:=aJ9 hD hxs
  have hv:qG D.E rs (aV D.C st)=some ((tupT xs).den D.C):=by
   unfold qG
   rw [hres]
   unfold tupT
   split
   ·rename_i v hv
    split
    ·rename_i x; simp only [List.map_cons,List.map_nil,Option.some.injEq,List.cons.injEq,and_true] at hv; rw [← hv]
    ·rename_i hne
     simp only [Option.some.injEq] at hv
     cases xs with
     | nil=>simp at hv
     | cons y ys => cases ys with
      | nil=>exact absurd rfl (hne y)
      | cons z zs=>simp at hv
   ·rename_i vs hne hvs
    simp only [Option.some.injEq] at hvs
    subst hvs
    split
    ·rename_i x; exact absurd rfl (hne _)
    ·simp only [TV.den,kP]
   ·rename_i hn; cases hn
  obtain ⟨h1,θ,h2,h3,h4⟩:=aXt hD hto h
  exact ⟨h1,_,θ,hv,h2,h3,h4⟩
 ·cases h
theorem aDy {D:TEnv τ} (hD:D.Ok) {c:Con τ} {to:c.ret.T τ→ESh.Ts τ c.L'→c.R} {ta:Option ((A:Alt τ c.R)×(A.ret.T τ→ESh.Ts τ A.L'→c.R))} (hto:∀ a b,c.of (to a b)=(a,b)) (hta:c.alt=ta.map (·.1))
  (hs1:∀ A t,ta=some ⟨A,t⟩→(∀ a b,c.sel (to a b)=false)∧(∀ a b,c.sel (t a b)=true)∧∀ a b,A.of (t a b)=(a,b)) {k0:Nat} {rs:List ResultVar} {st:TSt τ} {r:c.R} (h:endT D c to ta k0 rs st=some r) :
  ∃ v θ,qG D.E rs (aV D.C st)=some v∧(∀ j,j < k0→θ j=some j)∧RW θ v ((c.out D.C r).1.den D.C)∧Rens θ (aH (aV D.C st).h) (aH ((c.out D.C r).2.map (TEnt.den D.C))):=by
 unfold endT at h
 unfold Con.out
 cases ta with
 | none =>
  rw [show c.alt=none from hta]
  split at h
  ·rename_i r' hr
   cases h
   exact (aKb hD hto hr).2
  ·cases h
 | some At =>
  obtain ⟨A,t⟩:=At
  rw [show c.alt=some A from hta]
  obtain ⟨q1,q2,q3⟩:=hs1 A t rfl
  split at h
  ·rename_i r' hr
   cases h
   obtain ⟨⟨a,b,rfl⟩,h2⟩:=aKb hD hto hr
   simp only [q1,cond_false]
   exact h2
  ·obtain ⟨⟨a,b,rfl⟩,h2⟩:=aKb (of:=A.of) hD q3 h
   simp only [q2,cond_true]
   exact h2
theorem aOf {D:Dat τ} (hD:D.Ok) {f:FuncId} {fn:Func} {code:Code} (c:Con τ) (to:c.ret.T τ→ESh.Ts τ c.L'→c.R) (ta:Option ((A:Alt τ c.R)×(A.ret.T τ→ESh.Ts τ A.L'→c.R))) (hto:∀ a b,c.of (to a b)=(a,b)) (hta:c.alt=ta.map (·.1))
  (hs1:∀ A t,ta=some ⟨A,t⟩→(∀ a b,c.sel (to a b)=false)∧(∀ a b,c.sel (t a b)=true)∧∀ a b,A.of (t a b)=(a,b)) (n:Nat) (hf:D.D.E.P.funcs[f]?=some fn) (hb:fn.body=some code)
  (hname : (fn.name == "runtime.NumGoroutine") = false) (hok : eQ code = true) (hk : D.k0 = c.L.length)
  (h:∀ N a b,run D N n [.code code] (iK D.D.C fn.ntmps c a b) (oE D.D c to ta D.k0 fn.results.toList)=c.F N a b) (hsub:jT (kU D) code:=by exact lW (by kernel_rfl)) (hy:Nat.beq f kR=false:=by rfl) (hro:D.D.E.ro=none:=by rfl) (hxe:c.ext=false:=by rfl):aF D.D.E D.D.C f c:=by
 intro N a b r hr
 rw [hy,hxe]
 show FnSpec D.D.E f _ _ _ _
 rw [← h] at hr
 have hg:Gd (iK D.D.C fn.ntmps c a b):=by
  refine ⟨fun k d w q y e=>?_,fun g hg=>by cases hg⟩
  rcases aAz (t:=(iK D.D.C fn.ntmps c a b).t) (k:=k) with hm | hm
  ·rw [e] at hm
   rcases List.mem_append.1 hm with h1 | h1
   ·exact absurd rfl (aAA hD.ok.C c.args a _ h1 d w q y)
   ·have:=List.eq_of_mem_replicate h1; cases this
  ·rw [e] at hm; cases hm
 have hs:=aJ8 hD (N:=N) n [.code code] (iK D.D.C fn.ntmps c a b) (oE D.D c to ta D.k0 fn.results.toList)
  (Ends D.D.E D.k0 fn.results.toList ((c.out D.D.C r).1.den D.D.C) ((c.out D.D.C r).2.map (TEnt.den D.D.C))) (fun e st' hk' _ _=>?_) hg ⟨⟨hok,hsub⟩,trivial⟩ hr
 ·refine FnSpec.intro hD.good hro hf hb hname ?_
  rw [List.length_map,iZ,← hk]
  have he:aV D.D.C (iK D.D.C fn.ntmps c a b)=⟨TV.denL D.D.C (Sh.encs D.D.C c.args a)++List.replicate (fn.ntmps - (TV.denL D.D.C (Sh.encs D.D.C c.args a)).length) .junk,(ESh.encs D.D.C c.L b).map (TEnt.den D.D.C)⟩:=by
   have hmap:∀ l:List (TV τ),(∀ x∈l,∀ d w b y,x≠TV.cnd d w b y)→l.map (cO D.D.C)=l.map (TV.den D.D.C):=fun l hl=>List.map_congr_left fun x hx=>by
    cases x with
    | cnd d w b y=>exact absurd rfl (hl _ hx d w b y)
    | _=>rfl
   simp only [aV,iK,List.map_append,List.map_replicate,kP,List.length_map,aKa]
   rw [hmap _ (fun x hx=>aAA hD.ok.C c.args a x hx)]
   rfl
  rw [he] at hs
  simp only [bK] at hs
  exact hs
 ·unfold oE at hk'
  cases e with
  | normal=>exact aDy hD.ok hto hta hs1 hk'
  | ret=>exact aDy hD.ok hto hta hs1 hk'
  | _=>cases hk'
end
end Go.Ev
