/-
The typed layer: what the machine comes to is so;contracts of functions out of runs.
-/
import Derived.Test.YtddpmkmgbdedlaaGreatqTvP
set_option linter.unusedVariables false
set_option linter.unusedSimpArgs false
namespace Go.Ev
open Go
section
variable {τ:Nat→Type}
theorem RU.Au {E:Env}{k0:Nat}{c:Code}{Q:Exit→St→Prop}{θ:Nat→Option Nat}{s s':St}(h:XY k0 θ s s'):∀ {m:Nat},RU E k0 c Q m s'→RU E k0 c Q m s
 |0,hr=>hr
 |m+1,hr=>Er.Au h hr
theorem Vc {α:Type}{p:α→Bool}:∀ {l:List α} {i k:Nat} {x:α},l[k]?=some x→p x=true→i+k∈Vb p l i
 |[],i,k,x,h,_=>by simp at h
 |y :: r,i,0,x,h,hp=>by simp at h;subst h;simp[Vb,hp]
 |y :: r,i,k+1,x,h,hp=>by
  have:=Vc (l:=r) (i:=i+1) (k:=k) (by simpa using h) hp
  simp only[Vb]
  rw[show i+(k+1)=i+1+k by omega]
  cases p y<;>simp[this]
theorem VF {a b k:Nat}(h1:a≤k)(h2:k < b):k∈XP a b:=by
 simp only[XP,List.mem_range'_1];omega
theorem XS:∀ (t:List (TV τ)) (k:Nat),t.length≤k→sG t k=.aZ
 |[],k,_=>rfl
 |x :: r,0,hk=>by simp at hk
 |x :: r,k+1,hk=>XS r k (by simpa using hk)
theorem YF {C:eY τ}{lp:Lp τ}{st fZ:mE τ}{s:lp.S}(h:mw (lp.head C st s) fZ):mw st (lp.back st fZ):=by
 have hlen:(lp.head C st s).t.length=st.t.length:=Pb C st.t lp.ts (lp.ot s)
 refine⟨h.len.trans hlen,fun k hk=>?_,fun i hi=>?_⟩
 ·simp only[Lp.back,List.mem_append,not_or,Lp.zq]at hk
  obtain⟨h1,⟨h2,h3⟩,h4⟩:=hk
  refine⟨h4,?_⟩
  show sG fZ.t k=sG st.t k
  rw[(h.dt k h1).2]
  rcases Nat.lt_or_ge k lp.ts.length with nH|w7
  ·have hx:lp.ts[k]?=some lp.ts[k]:=List.getElem?_eq_getElem nH
   have aAs:lp.ts[k]=.iO:=by
    cases hs:lp.ts[k] with
    |iO=>rfl
    |_ =>
     have:=Vc (p:=fun s:Sl=>!s.ZP) (i:=0) hx (by rw[hs];rfl)
     rw[Nat.zero_add]at this
     exact absurd this h2
   rw[aAs]at hx
   exact LS st.t lp.ts (lp.ot s) k hx
  ·rcases Nat.lt_or_ge k st.t.length with h5|h5
   ·exact absurd (VF w7 h5) h3
   ·rw[XS st.t k h5,XS _ k (by rw[hlen];exact h5)]
 ·simp only[Lp.back,List.mem_append,not_or,Lp.zp]at hi
  obtain⟨h1,⟨h2,h3⟩,h4⟩:=hi
  refine⟨h4,?_⟩
  show dA fZ.h i=dA st.h i
  rw[(h.dh i h1).2]
  rcases Nat.lt_or_ge i lp.hs.length with nH|w7
  ·have hx:lp.hs[i]?=some lp.hs[i]:=List.getElem?_eq_getElem nH
   have aAs:lp.hs[i]=.iO:=by
    cases hs:lp.hs[i] with
    |iO=>rfl
    |_ =>
     have:=Vc (p:=fun s:bZ=>!s.ZP) (i:=0) hx (by rw[hs];rfl)
     rw[Nat.zero_add]at this
     exact absurd this h2
   rw[aAs]at hx
   have:=LR (C:=C) (h:=st.h) lp.hs 0 (lp.oh s) i hx
   rw[Nat.zero_add]at this
   exact this
  ·rcases Nat.lt_or_ge i st.h.length with h5|h5
   ·exact absurd (VF w7 h5) h3
   ·rw[Jk st.h i h5]
    exact Jk _ _ (by show (DD C st.h lp.hs 0 (lp.oh s)).length≤i;rw[Pa];exact w7)
theorem NI:∀ (t:List (TV τ)) (k:Nat),sG (t.map (fun x=>bif x.KQ then .aZ else x)) k=bif (sG t k).KQ then .aZ else sG t k
 |[],_=>rfl
 |_ :: _,0=>rfl
 |_ :: r,k+1=>NI r k
theorem dn:∀ (t:List (TV τ)) (k:Nat) (h:k < t.length),sG t k=t[k]
 |[],_,h=>by cases h
 |_ :: _,0,_=>rfl
 |_ :: r,k+1,h=>dn r k (Nat.lt_of_succ_lt_succ h)
theorem th (st:mE τ):mw st (Vr st):=by
 refine⟨by simp[Vr],fun k hk=>?_,fun i hi=>⟨hi,rfl⟩⟩
 simp only[Vr,List.mem_append,not_or]at hk ⊢
 refine⟨hk.2,?_⟩
 rw[NI]
 cases hc:(sG st.t k).KQ with
 |false=>rfl
 |true =>
  exfalso
  rcases Nat.lt_or_ge k st.t.length with nH|w7
  ·have hx:st.t[k]?=some st.t[k]:=List.getElem?_eq_getElem nH
   have he:sG st.t k=st.t[k]:=dn st.t k nH
   have:=Vc (p:=TV.KQ) (i:=0) hx (by rw[← he];exact hc)
   rw[Nat.zero_add]at this
   exact hk.1 this
  ·rw[XS st.t k w7]at hc;cases hc
theorem aAj (st:mE τ):Gd (Vr st):=by
 refine⟨fun k d w b x h=>?_,fun g h=>by cases h⟩
 simp only[Vr]at h
 rw[NI]at h
 cases hc:(sG st.t k).KQ with
 |false=>rw[hc]at h;simp only[cond_false]at h;rw[h]at hc;cases hc
 |true=>rw[hc]at h;cases h
theorem rq {C:eY τ}{E:Env}{k0:Nat}{c:Code}{st:mE τ}{Q:Exit→St→Prop}(h:Er E k0 c (fG C (Vr st)) Q):Er E k0 c (fG C st) Q:=by
 intro g a w sQ g0 H0 w0 hk iP Xw
 refine h g a w ⟨?_,fun k x v hx hv=>?_,sQ.rel⟩ g0 H0 w0 hk iP Xw
 ·have:=sQ.len;simpa[fG,Vr] using this
 ·simp only[fG,Vr,List.getElem?_map,Option.map_map]at hx
  cases ht:st.t[k]? with
  |none=>rw[ht]at hx;cases hx
  |some y =>
   rw[ht]at hx
   simp only[Option.map_some,Option.some.injEq,Function.comp]at hx
   have:=sQ.t k (Dh C y) v (by simp only[fG,List.getElem?_map,ht,Option.map_some]) hv
   cases hc:y.KQ with
   |false=>rw[hc]at hx;simp only[cond_false]at hx;subst hx;exact this
   |true=>rw[hc]at hx;simp only[cond_true]at hx;subst hx;exact .aZ v
theorem UM {X:Type}{e:Nat}{go:Code→Option X}{x:X}:∀ {l:List Nat},MA e go l=some x→∃ q,e=q∧go (Mq q)=some x
 |[],h=>by cases h
 |q :: l,h=>by
  simp only[MA]at h
  cases hq:Nat.beq e q with
  |true=>rw[hq]at h;exact⟨q,Nat.eq_of_beq_eq_true hq,h⟩
  |false=>rw[hq]at h;exact UM (l:=l) h
theorem aGD {D:Zr τ}(hD:D.Ok)(aAr:D.inr=false){st:mE τ}{tn:Operand}{ps:Array Tmp}{asg body:Code}(pd:Uq D ps asg body){f:FuncId}{Ht:List (TV τ)}(hv:st.val tn=.fn f Ht)(hf:Nat.beq f Ae=false)
  {x:wc τ} (hx:XX D.D.C (Gc D st asg body) (.Ar st.h.length :: Ht) x) (ff:x.c.ext=false) (hc:x.c∈D.mi f) {N:Nat} {r:x.c.R} (hr:x.c.F N x.a x.b=some r) (out:TV τ×List (bD τ)) (ah:x.c.out D.D.C r=out) (hq:x.c.L.length≤out.2.length) {Q:Exit→St→Prop}
  (h:((∃ a b c,dA (Me (Gc D st asg body) (IL st (Gc D st asg body) x.σ out)) st.h.length=.yU a b c)∧Q .normal (fG D.D.C (PW st (Me (Gc D st asg body) (IL st (Gc D st asg body) x.σ out)) ((IL st (Gc D st asg body) x.σ out).map (·.1))))) ∨
   ∃ e,dA (Me (Gc D st asg body) (IL st (Gc D st asg body) x.σ out)) st.h.length=.Qa e∧Er D.D.E D.k0 (Mq e) (fG D.D.C (PW st (Me (Gc D st asg body) (IL st (Gc D st asg body) x.σ out)) ((IL st (Gc D st asg body) x.σ out).map (·.1)))) Q) :
  Er D.D.E D.k0 (.rangeFunc tn ps asg body) (fG D.D.C st) Q:=by
 have hs:=hD.mi f x.c hc N x.a x.b r hr
 rw[hf,ff,ah]at hs
 replace hs:mT D.D.E f (TV.kU D.D.C (Sh.fH D.D.C x.c.args x.a)) ((bZ.fH D.D.C x.c.L x.b).map (bD.den D.D.C)) (out.1.den D.D.C) (out.2.map (bD.den D.D.C)):=hs
 have Yg:(fG D.D.C st).val tn=.fn f (TV.kU D.D.C Ht):=by
  cases tn with
  |tmp k =>
   simp only[fG,St.val,BH]
   have e:sG st.t k=.fn f Ht:=hv
   rw[e];rfl
  |const v =>
   simp only[mE.val]at hv
   unfold sk at hv
   split at hv<;>cases hv
  |func f'=>cases hv;rfl
  |global g=>cases hv
 have hlen:(fG D.D.C st).h.length=st.h.length:=by simp[fG]
 have hH1:eQ (bU (fG D.D.C st).h) (fG D.D.C st).h.length (.yU ps asg body (TV.kU D.D.C (st.t.map nc)))=bU ((Gc D st asg body).map (bD.den D.D.C)):=by
  have hsd:(bD.yU D.et (QA asg body) (st.t.map nc):bD τ).den D.D.C=.yU ps asg body (TV.kU D.D.C (st.t.map nc)):=by
   have aGd:D.D.C.site D.et (QA asg body)=(ps,asg,body):=pd
   simp only[bD.den,aGd]
  rw[hlen,← hsd]
  unfold Gc
  rw[← Zk,Km];rfl
 refine Er.rangeFunc (hD.ro aAr) Yg hs.1 (ts:=TV.kU D.D.C (st.t.map nc)) ?_ (H2:=app (bU ((Gc D st asg body).map (bD.den D.D.C))) (pQ D.D.C (IL st (Gc D st asg body) x.σ out))) ?_
  (h':=(fG D.D.C (PW st (Me (Gc D st asg body) (IL st (Gc D st asg body) x.σ out)) ((IL st (Gc D st asg body) x.σ out).map (·.1)))).h) ?_ ?_
 ·refine⟨by simp[fG,uT],fun k a b ha hb=>?_⟩
  simp only[fG,uT,List.map_map,List.getElem?_map,Option.map_eq_some_iff]at ha hb
  obtain⟨y,hy,rfl⟩:=ha
  obtain⟨z,hz,rfl⟩:=hb
  rw[hy]at hz;cases hz
  intro g v hvr
  cases y with
  |yK d w b z=>exact .aZ v
  |_=>exact hvr
 ·intro g w cargs hW pR
  rw[hH1]at hW ⊢
  rw[hlen]at pR
  have fb:pN g ⟨[],(Gc D st asg body).map (bD.den D.D.C)⟩ { tmps:=#[],defers:=[] } w:=⟨rfl,by simp,hW⟩
  have key:=Oq (h:=Gc D st asg body) hD.ok hx hq (X:=fun c w R=>Calls D.D.E.P f c w R) (fun h hr=>Calls.mono h hr) (fun g w cargs=>hs.2 g w cargs) fb.rel (fun id _=>pS _ _ _) (cargs:=cargs) (by simpa only[TV.kU,TV.den] using pR)
  refine key.mono ?_
  rintro e w' ⟨v,g',rfl,_,iP,_⟩
  exact⟨v,g',rfl,iP⟩
 ·rw[hlen]
  show bU ((Qi (Me (Gc D st asg body) (IL st (Gc D st asg body) x.σ out)) st.h.length .dead).map (bD.den D.D.C))=_
  rw[← Zk,Km,← NT,Qm];rfl
 ·rw[hlen]
  have he:app (bU ((Gc D st asg body).map (bD.den D.D.C))) (pQ D.D.C (IL st (Gc D st asg body) x.σ out)) st.h.length=(dA (Me (Gc D st asg body) (IL st (Gc D st asg body) x.σ out)) st.h.length).den D.D.C:=by
   rw[← Qm,NT,pS]
  rw[he]
  rcases h with⟨⟨a,b,c,h1⟩,h2⟩|⟨e,h1,h2⟩
  ·exact .inl ⟨⟨_,_,_,_,by rw[h1];rfl⟩,h2⟩
  ·exact .inr ⟨_,by rw[h1];rfl,h2⟩
theorem gM {D:Zr τ}(hD:D.Ok){N:Nat}{X:Type}{x:X}:∀ (n:Nat) (t:List Ec) (st:mE τ) (K:Exit→mE τ→Option X) (Q:Exit→St→Prop),
  (∀ l s,¬ Q (.goto l) s)→(∀ e fZ,(∀ l,e≠.goto l)→K e fZ=some x→Gd fZ→mw st fZ→Q e (fG D.D.C fZ))→Gd st→Fj (Uq D) t→run D N n t st K=some x→lQ D.D.E D.k0 t Q .normal (fG D.D.C st)
 |0,t,st,K,Q,hQ,hK,hg,ht,h=>by cases h
 |n+1,t,st,K,Q,hQ,hK,hg,ht,h=>by
  cases t with
  |nil=>exact hK .normal st (fun _ h=>by cases h) h hg (.refl st)
  |cons a t =>
   cases a with
   |we id =>
    simp only[run]at h
    simp only[lQ]
    exact gM hD n t st K Q hQ hK hg ht h
   |rep c m =>
    obtain⟨hc,ht⟩:=ht
    cases m with
    |zero=>simp only[run]at h;cases h
    |succ m =>
     simp only[run]at h
     have:=gM hD n (.code c :: .rep c m :: t) (Vr st) K Q hQ (fun e fZ dF hk w6 hf=>hK e fZ dF hk w6 (.trans (th st) hf)) (aAj st) ⟨hc,hc,ht⟩ h
     simp only[lQ]at this ⊢
     refine Er.mono (fun e s hs=>?_) (rq this)
     cases e<;>exact hs
   |ops ops draw i rest tr =>
    cases rest with
    |nil =>
     simp only[run]at h
     cases hi:(!draw || indep (UU ops) tr) with
     |false=>rw[hi]at h;cases h
     |true =>
      rw[hi]at h
      simp only[cond_true]at h
      refine⟨[],fG D.D.C st,rfl,fun hd=>?_,?_⟩
      ·subst hd;simpa[dr] using hi
      ·exact gM hD n t { st with off:=[] } K Q hQ (fun e fZ dF hk w6 hf=>hK e fZ dF hk w6 ⟨hf.len,hf.dt,hf.dh⟩) ⟨hg.inv,fun g hg=>by cases hg⟩ ht h
    |cons o rest =>
     simp only[run]at h
     obtain⟨st1,F,U,⟨y,t1,t2,t3,t4,t5,t6,t7⟩,h⟩:=lu hD hg h
     obtain⟨xs,fZ,r1,r2,r3⟩:=gM hD n _ st1 K Q hQ (fun e fZ dF hk w6 hf=>hK e fZ dF hk w6 (t7.trans hf)) t6 (show Fj (Uq D) (.ops ops draw (i+1) rest ((i,F,U) :: tr) :: t) from ht) h
     refine⟨y :: xs,fZ,⟨t1,t2,?_⟩,fun hd=>?_,r3⟩
     ·rw[t5];exact r1
     ·have:=r2 hd
      rw[← t3,← t4]at this
      exact this
   |code c =>
    obtain⟨hc,ht⟩:=ht
    simp only[lQ]
    cases c with
    |skip=>simp only[run]at h;exact .skip (gM hD n t st K Q hQ hK hg ht h)
    |ret=>simp only[run]at h;exact .ret (Tg (hK .ret st (fun _ h=>by cases h) h hg (.refl st)))
    |label l=>simp only[run]at h;exact .label (gM hD n t st K Q hQ hK hg ht h)
    |exit id =>
     simp only[run]at h
     refine .exit (Qs ?_)
     split at h
     ·rename_i t' jt
      exact gM hD n t' st K Q hQ hK hg (ht.exit jt) h
     ·rename_i jt
      exact hK _ st (fun _ h=>by cases h) h hg (.refl st)
    |seq a b =>
     simp only[run]at h
     have:=gM hD n (.code a :: .code b :: t) st K Q hQ hK hg ⟨hc.seq.1,hc.seq.2,ht⟩ h
     refine .seq (Er.mono (fun e s hs=>?_) this)
     cases e<;>exact hs
    |block id c =>
     simp only[run]at h
     have:=gM hD n (.code c :: .we id :: t) st K Q hQ hK hg ⟨hc.block,ht⟩ h
     refine .block (Er.mono (fun e s hs=>?_) this)
     cases e<;>exact hs
    |scope c =>
     simp only[run]at h
     have:=gM hD n (.code c :: t) st K Q hQ hK hg ⟨hc.scope,ht⟩ h
     refine .scope (Er.mono (fun e s hs=>?_) this)
     cases e with
     |goto l=>exact hQ l s (Qt hs)
     |_=>exact hs
    |region id ops draw =>
     simp only[run]at h
     obtain⟨xs,fZ,r1,r2,r3⟩:=gM hD n (.ops ops draw 0 ops.toList [] :: t) st K Q hQ hK hg ht h
     exact .region hD.iw hc.ok r1 r3 r2
    |cond c a b =>
     simp only[run]at h
     replace hc:=hc.cond
     split at h
     ·rename_i q hq
      have hv:(fG D.D.C st).val c=.v (.bool q):=by
       cases c with
       |tmp k =>
        simp only[fG,St.val,BH]
        have e:sG st.t k=.bool q:=hq
        rw[e];rfl
       |const v =>
        simp only[mE.val]at hq
        unfold sk at hq
        split at hq<;>cases hq
        rfl
       |func f=>cases hq
       |global g=>cases hq
      refine .cond hv (fun e=>?_) (fun e=>?_)
      ·subst e;exact gM hD n (.code a :: t) st K Q hQ hK hg ⟨hc.1,ht⟩ h
      ·subst e;exact gM hD n (.code b :: t) st K Q hQ hK hg ⟨hc.2,ht⟩ h
     ·cases h
    |loop c =>
     simp only[run]at h
     split at h
     ·cases h
     ·split at h
      ·rename_i m hm
       have hcc:QX (Uq D) c:=hc.loop
       have:=gM hD n (.rep c m :: t) st K Q hQ hK hg ⟨hcc,ht⟩ h
       exact Er.rounds this
      split at h
      ·cases h
      ·rename_i lp hlp
       split at h
       ·cases h
       ·rename_i s0 V2
        have hcc:QX (Uq D) c:=hc.loop
        have hnc:=fun s=>Lp.AR (st:=st) hD.ok.C V2 rfl s
        have ji:∀ s,Gd (lp.head D.D.C st s):=fun s=>⟨fun k d w b y e=>absurd e (hnc s k d w b y),fun g hg=>by cases hg⟩
        have key:∀ (m:Nat) (s:lp.S),iter m (fun s next=>run D N n [.code c] (lp.head D.D.C st s) fun e fZ=>match e with
          |.normal=>(match lp.dec D.D.C D.k0 fZ with|some s'=>next s' | none=>none)
          |.ret=>K .ret (lp.back st fZ)
          |.exit id=>(match Mp id t with|some t'=>run D N n t' (lp.back st fZ) K|none=>K (.exit id) (lp.back st fZ))
          |_=>none) s=some x→RU D.D.E D.k0 c (lQ D.D.E D.k0 t Q) m (fG D.D.C (lp.head D.D.C st s)):=by
         intro m
         induction m with
         |zero=>intro s hs;cases hs
         |succ m ih =>
          intro s hs
          simp only[iter]at hs
          refine gM hD n [.code c] (lp.head D.D.C st s) _ (fun e s1=>match e with | .normal=>RU D.D.E D.k0 c (lQ D.D.E D.k0 t Q) m s1|e=>lQ D.D.E D.k0 t Q e s1) (fun l s hs=>hQ l s (Qt hs)) (fun e fZ dF hk w6 hf=>?_) (ji s) ⟨hcc,trivial⟩ hs
          have hgb:Gd (lp.back st fZ):=⟨w6.inv,fun g hg=>by cases hg⟩
          cases e with
          |normal =>
           simp only[]at hk ⊢
           split at hk
           ·rename_i s' UK
            have hlen:fZ.t.length=st.t.length:=hf.len.trans (Pb D.D.C st.t lp.ts (lp.ot s))
            obtain⟨θ,tZ⟩:=Lp.Au hD.ok.C (base:=st) UK hlen
             (fun k hkk ag=>((hf.dt k ag).2).trans (LS st.t lp.ts (lp.ot s) k hkk))
             (fun i hkk ag=>((hf.dh i ag).2).trans (by have:=LR (C:=D.D.C) (h:=st.h) lp.hs 0 (lp.oh s) i hkk;rw[Nat.zero_add]at this;exact this))
            exact RU.Au tZ (ih s' hk)
           ·cases hk
          |ret=>exact Tg (hK .ret (lp.back st fZ) (fun _ h=>by cases h) (show K .ret (lp.back st fZ)=some x from hk) hgb (YF hf))
          |exit id =>
           simp only[]at hk ⊢
           refine Qs ?_
           split at hk
           ·rename_i t' jt
            rw[jt]
            show lQ D.D.E D.k0 t' Q .normal (fG D.D.C (lp.back st fZ))
            exact gM hD n t' (lp.back st fZ) K Q hQ (fun e st2 dF KO N8 hf2=>hK e st2 dF KO N8 ((YF hf).trans hf2)) hgb (ht.exit jt) hk
           ·rename_i jt
            rw[jt]
            exact hK (.exit id) (lp.back st fZ) (fun _ h=>by cases h) hk hgb (YF hf)
          |_=>cases hk
        have h0:=key N s0 h
        obtain⟨θ,tZ⟩:=Lp.Au hD.ok.C (base:=st) V2 rfl (fun k _ _=>rfl) (fun i _ _=>rfl)
        exact Er.rounds (RU.Au tZ h0)
    |rangeFunc tn ps asg body =>
     simp only[run]at h
     cases aAr:D.inr with
     |true=>rw[aAr]at h;cases h
     |false =>
     rw[aAr]at h
     simp only[cond_false]at h
     split at h
     ·rename_i f Ht hv
      cases hf:Nat.beq f Ae with
      |true=>rw[hf]at h;cases h
      |false =>
      rw[hf]at h
      simp only[cond_false]at h
      split at h
      ·rename_i x' hx
       cases ff:x'.c.ext with
       |true=>rw[ff]at h;cases h
       |false =>
       rw[ff]at h
       simp only[cond_false]at h
       cases hq:(Nat.ble x'.c.L.length x'.c.L'.length&&D3 x'.c.L.length x'.c.alt) with
       |false=>rw[hq]at h;cases h
       |true =>
       rw[hq]at h
       simp only[cond_true]at h
       simp only[Bool.and_eq_true]at hq
       obtain⟨r,hr,h⟩:=Option.bind_eq_some_iff.1 h
       obtain⟨h1,h2⟩:=O0 hD.ok.C hx
       have aa:∀ (hh:List (bD τ)) (ids:List Nat),(∀ i,i ∉ ids→dA hh i=dA (Gc D st asg body) i)→mw st (PW st hh ids):=fun hh ids aAq=>⟨rfl,fun k hk=>⟨hk,rfl⟩,fun i hi=>by
        simp only[PW,List.mem_cons,List.mem_append,not_or]at hi
        refine⟨hi.2.2,?_⟩
        show dA (Qi hh st.h.length .dead) i=dA st.h i
        rw[nT _ _ _ _ hi.1,aAq i hi.2.1]
        exact nT _ _ _ _ hi.1⟩
       have hgr:∀ (hh:List (bD τ)) (ids:List Nat),Gd (PW st hh ids):=fun hh ids=>⟨hg.inv,fun g hg=>by cases hg⟩
       have fin:∀ out,x'.c.out D.D.C r=out→x'.c.L.length≤out.2.length →
         (match dA (Me (Gc D st asg body) (IL st (Gc D st asg body) x'.σ out)) st.h.length with
         |.yU _ _ _=>run D N n t (PW st (Me (Gc D st asg body) (IL st (Gc D st asg body) x'.σ out)) ((IL st (Gc D st asg body) x'.σ out).map (·.1))) K
         |.Qa e=>MA e (fun c=>run D N n (.code c :: t) (PW st (Me (Gc D st asg body) (IL st (Gc D st asg body) x'.σ out)) ((IL st (Gc D st asg body) x'.σ out).map (·.1))) K) D.ex
         |_=>none)=some x→Er D.D.E D.k0 (.rangeFunc tn ps asg body) (fG D.D.C st) (lQ D.D.E D.k0 t Q):=fun out ah hq' hm=>by
        have hF:=aa (Me (Gc D st asg body) (IL st (Gc D st asg body) x'.σ out)) ((IL st (Gc D st asg body) x'.σ out).map (·.1)) (fun i hi=>CR _ _ _ hi)
        refine aGD hD aAr hc.sub hv hf h2 ff h1 hr out ah hq' ?_
        split at hm
        ·rename_i a b c' he
         exact .inl ⟨⟨a,b,c',he⟩,gM hD n t _ K Q hQ (fun e fZ dF hk w6 hf'=>hK e fZ dF hk w6 (hF.trans hf')) (hgr _ _) ht hm⟩
        ·rename_i e he
         obtain⟨q,hq1,hq2⟩:=UM hm
         subst hq1
         refine .inr ⟨e,he,?_⟩
         have N5:QX (Uq D) (Mq e):=by cases e<;>exact⟨rfl,trivial⟩
         exact gM hD n (.code (Mq e) :: t) _ K Q hQ (fun e fZ dF hk w6 hf'=>hK e fZ dF hk w6 (hF.trans hf')) (hgr _ _) ⟨N5,ht⟩ hq2
        ·cases hm
       split at h
       ·rename_i ha
        exact fin _ (by unfold dL.out;rw[ha]) (by simp only[dL.Ze,iU];exact Nat.le_of_ble_eq_true hq.1) h
       ·rename_i A ha
        cases hs:x'.c.JY r with
        |true =>
         rw[hs]at h
         exact fin _ (by unfold dL.out;rw[ha];simp only[hs,cond_true]) (by rw[ha]at hq;simp only[Alt.out,iU];exact Nat.le_of_ble_eq_true hq.2) h
        |false =>
         rw[hs]at h
         exact fin _ (by unfold dL.out;rw[ha];simp only[hs,cond_false]) (by simp only[dL.Ze,iU];exact Nat.le_of_ble_eq_true hq.1) h
      ·cases h
     ·cases h
    |_=>cases h
theorem Zh {D:Zr τ}(hD:D.Ok){N:Nat}{X:Type}{x:X}(n:Nat)(t:List Ec)(st:mE τ)(K:Exit→mE τ→Option X)(Q:Exit→St→Prop)
  (hK:∀ e fZ,K e fZ=some x→Gd fZ→mw st fZ→Q e (fG D.D.C fZ)) (hg:Gd st) (ht:Fj (Uq D) t) (h:run D N n t st K=some x):lQ D.D.E D.k0 t Q .normal (fG D.D.C st) :=
 zI (Q:=fun e s=>(∀ l,e≠.goto l)∧Q e s) (fun e s hs=>hs.2) (gM hD n t st K _ (fun l s hs=>hs.1 l rfl) (fun e fZ dF hk w6 hf=>⟨dF,hK e fZ hk w6 hf⟩) hg ht h)
def uz (D:fA τ)(st:mE τ):List ResultVar→Option (List (TV τ))
 |[]=>some []
 |.tmp k :: r=>match sG st.t k,uz D st r with
  |.yK _ _ _ _,_=>none
  |x,some l=>some (x :: l)
  |_,none=>none
 |.cell a t :: r=>match sG st.t a with
  |.ptr id []=>(match J5 D (dA st.h) t (.ptr id []),uz D st r with
   |some x,some l=>some (x :: l)
   |_,_=>none)
  |_=>none
theorem aBE {D:fA τ}(hD:D.Ok){st:mE τ}{t id:Nat}{y:TV τ}(h:J5 D (dA st.h) t (.ptr id [])=some y):Wa D.E (bU (fG D.C st).h) t (.ptr id 0)=some (y.den D.C):=by
 unfold J5 at h
 split at h
 ·cases h
 ·rename_i i hi
  have main:∀ {x:TV τ},(dA st.h id=.box x∨dA st.h id=.Aa x)→(match x.sub D.C [] with|some y=>(bif fits D.C i y then some y else none) | none=>none)=some y→Wa D.E (bU (fG D.C st).h) t (.ptr id 0)=some (y.den D.C):=fun {x} hx hm=>by
   simp only[TV.sub]at hm
   cases hf:fits D.C i x with
   |false=>rw[hf]at hm;cases hm
   |true =>
    rw[hf]at hm
    simp only[cond_true,Option.some.injEq]at hm
    subst hm
    have:=OW (x:=x) (p:=[]) hD rfl rfl hf
    simp only[oF]at this
    unfold Wa
    rcases hx with hx|hx<;>(simp only[hi,Ur,fG,pS,hx,bD.den];exact this)
  simp only[]at h
  split at h
  ·rename_i x hx;exact main (.inl hx) h
  ·rename_i x hx;exact main (.inr hx) h
  ·cases h
theorem MZ {D:fA τ}(hD:D.Ok){st:mE τ}:∀ {rs:List ResultVar} {xs:List (TV τ)},uz D st rs=some xs→CK D.E (fG D.C st) rs=some (xs.map (TV.den D.C))
 |[],xs,h=>by cases h;rfl
 |.tmp k :: r,xs,h=>by
  simp only[uz]at h
  split at h
  ·cases h
  ·rename_i x l hl dF
   cases h
   simp only[CK,TB,fG,BH]
   have:Dh D.C (sG st.t k)=(sG st.t k).den D.C:=by
    cases hx:sG st.t k<;>first|rfl|exact absurd hx (dF _ _ _ _)
   have hr:=MZ hD hl
   simp only[fG]at hr
   rw[this,hr];rfl
  ·cases h
 |.cell a t :: r,xs,h=>by
  simp only[uz]at h
  split at h
  ·rename_i id ha
   split at h
   ·rename_i x l hx hl
    cases h
    have:nth (fG D.C st).t a=.ptr id 0:=by simp only[fG,BH,ha];rfl
    simp only[CK,TB,MZ hD hl,this,aBE hD hx];rfl
   ·cases h
  ·cases h
def aHw:List (TV τ)→TV τ
 |[x]=>x
 |xs=>.jE xs
def aEk:Nat→Zs
 |0=>[]
 |k+1=>aEk k++[(k,some k)]
def aAc (D:fA τ)(ret:Sh)(L':List bZ){R:Type}(to:ret.T τ→bZ.Ts τ L'→R)(k0:Nat)(x:TV τ)(st:mE τ):Option R :=
 match ret.dec D.C x with
 |some (a,ps) =>
  match E3 D.C st.h L' 0 (aEk k0++ps) with
  |some (b,WT) =>
   bif I4 (TP k0 WT) WT&&WT.all (fun p=>Nat.blt p.1 L'.length)&&BG (Ap (TP k0 WT) L' 0)&&Nat.ble k0 L'.length then some (to a b) else none
  |none=>none
 |none=>none
def aCu (D:fA τ)(ret:Sh)(L':List bZ){R:Type}(to:ret.T τ→bZ.Ts τ L'→R)(k0:Nat)(rs:List ResultVar)(st:mE τ):Option R :=
 match uz D st rs with
 |some xs=>aAc D ret L' to k0 (aHw xs) st
 |none=>none
def aCv (D:fA τ)(c:dL τ)(to:c.ret.T τ→bZ.Ts τ c.L'→c.R)(ta:Option ((A:Alt τ c.R)×(A.ret.T τ→bZ.Ts τ A.L'→c.R)))(k0:Nat)(rs:List ResultVar)(st:mE τ):Option c.R :=
 match aCu D c.ret c.L' to k0 rs st with
 |some r=>some r
 |none=>match ta with
  |none=>none
  |some ⟨A,t⟩=>aCu D A.ret A.L' t k0 rs st
def M9 (D:fA τ)(c:dL τ)(to:c.ret.T τ→bZ.Ts τ c.L'→c.R)(ta:Option ((A:Alt τ c.R)×(A.ret.T τ→bZ.Ts τ A.L'→c.R)))(k0:Nat)(rs:List ResultVar)(e:Exit)(st:mE τ):Option c.R :=
 match e with
 |.normal=>aCv D c to ta k0 rs st
 |.ret=>aCv D c to ta k0 rs st
 |_=>none
def Fq (C:eY τ)(n:Nat)(c:dL τ)(a:Sh.Ts τ c.args)(b:bZ.Ts τ c.L):mE τ :=
 ⟨Sh.fH C c.args a++List.replicate (n - c.args.length) .aZ,bZ.fH C c.L b,[],[],[]⟩
theorem Ut (C:eY τ):∀ (l:List Sh) (a:Sh.Ts τ l),(Sh.fH C l a).length=l.length
 |[],_=>rfl
 |s :: r,a=>by
  show (Sh.enc C s a.1 :: Sh.fH C r a.2).length=_
  simp[Ut C r a.2]
theorem Fp {C:eY τ}(hC:C.Ok):∀ (l:List Sh) (a:Sh.Ts τ l) (x:TV τ),x∈Sh.fH C l a→∀ d w b y,x≠.yK d w b y
 |[],_,x,h=>by
  have h':x∈([]:List (TV τ)):=h
  cases h'
 |s :: r,a,x,h=>fun d w b y e=>by
  have h':x∈Sh.enc C s a.1 :: Sh.fH C r a.2:=h
  rcases List.mem_cons.1 h' with h1|h1
  ·exact AR hC s a.1 d w b y (h1▸e)
  ·exact Fp hC r a.2 x h1 d w b y e
theorem Y7 {C:eY τ}(x:bD τ)(hx:x=.dead):∀ (e:bZ) (a:e.T τ),im C x e a=e.enc C a
 |.box s,a=>rfl
 |.eD e,a=>rfl
 |.tail,a=>rfl
 |.dead,a=>rfl
 |.yU _ _ _,a=>rfl
 |.Qa,a=>rfl
 |.aX _,a=>rfl
 |.iO,a=>hx
theorem G7 {C:eY τ}{θ:Nat→Option Nat}:∀ (l:List bZ) (i:Nat) (b:bZ.Ts τ l) (j n:Nat),j < l.length→((dA (bZ.fH C l b) j).den C).live→θ (i+j)=some n →
  ∃ p:Nat,(Ap θ l i)[p]?=some n∧(∀ j' n':Nat,j' < j→((dA (bZ.fH C l b) j').den C).live→θ (i+j')=some n'→∃ p':Nat,p' < p∧(Ap θ l i)[p']?=some n')
 |[],i,b,j,n,hj,_,_=>by simp at hj
 |e :: l,i,b,0,n,hj,hl,hn=>by
  refine⟨0,?_,fun j' n' h=>by omega⟩
  rw[Nat.add_zero]at hn
  have oI:((im C .dead e b.1).den C).live:=by rw[Y7 .dead rfl];exact hl
  have:=Pc (C:=C) (x:=.dead) (a:=b.1) oI hn
  simp only[Ap,this];rfl
 |e :: l,i,b,j+1,n,hj,hl,hn=>by
  obtain⟨p,h1,h2⟩:=G7 (C:=C) (θ:=θ) l (i+1) b.2 j n (by simpa using hj) hl (by rw[← hn];congr 1;omega)
  simp only[Ap]
  refine⟨(BB θ i e).length+p,by rw[List.getElem?_append_right (by omega),Nat.add_sub_cancel_left];exact h1,fun j' n' ub oI hn'=>?_⟩
  cases j' with
  |zero =>
   rw[Nat.add_zero]at hn'
   have hl'':((im C .dead e b.1).den C).live:=by rw[Y7 .dead rfl];exact oI
   have:=Pc (C:=C) (x:=.dead) (a:=b.1) hl'' hn'
   rw[this]
   exact⟨0,by simp;omega,rfl⟩
  |succ j' =>
   obtain⟨p',h3,h4⟩:=h2 j' n' (by omega) oI (by rw[← hn'];congr 1;omega)
   exact⟨(BB θ i e).length+p',by omega,by rw[List.getElem?_append_right (by omega),Nat.add_sub_cancel_left];exact h4⟩
theorem LK {D:fA τ}(hD:D.Ok){ret:Sh}{L':List bZ}{R:Type}{to:ret.T τ→bZ.Ts τ L'→R}{of:R→ret.T τ×bZ.Ts τ L'}(G2:∀ a b,of (to a b)=(a,b)){k0:Nat}{x:TV τ}{st:mE τ}{r:R}(h:aAc D ret L' to k0 x st=some r) :
  (∃ a b,r=to a b)∧∃ θ,(∀ j,j < k0→θ j=some j)∧RW θ (x.den D.C) ((ret.enc D.C (of r).1).den D.C)∧DO θ (bU (fG D.C st).h) (bU ((bZ.fH D.C L' (of r).2).map (bD.den D.C))):=by
 unfold aAc at h
 split at h
 ·rename_i a ps ha
  split at h
  ·rename_i b WT hb
   generalize tZ:TP k0 WT=θ at h
   cases hc:(I4 θ WT&&WT.all (fun p=>Nat.blt p.1 L'.length)&&BG (Ap θ L' 0)&&Nat.ble k0 L'.length) with
   |false=>rw[hc]at h;cases h
   |true =>
    rw[hc]at h
    simp only[cond_true,Option.some.injEq]at h
    subst h
    refine⟨⟨a,b,rfl⟩,?_⟩
    rw[G2]
    simp only[Bool.and_eq_true]at hc
    obtain⟨⟨⟨c1,c2⟩,c3⟩,c4⟩:=hc
    have Hm:=cc c1
    obtain⟨h1,h2⟩:=HZ hD.C L' 0 _ WT b hb Hm
    have hk0:∀ j,j < k0→θ j=some j:=fun j hj=>by
     rw[← tZ];unfold TP
     rw[show Nat.blt j k0=true by simp only[Nat.blt,Nat.ble_eq];exact hj];rfl
    refine⟨θ,hk0,(NX hD.C ret _ a ps ha h1.right).1,⟨fun j=>?_,fun j j' i hl oI e e'=>?_⟩⟩
    ·have eg:bU (fG D.C st).h=fun k=>(dA st.h k).den D.C:=by funext k;simp only[fG,pS]
     rw[eg,pS]
     rcases Nat.lt_or_ge j L'.length with hj|hj
     ·have:=h2 j hj
      rwa [Nat.zero_add]at this
     ·rw[Jk _ _ (by rw[iU];exact hj)]
      show θ j=none
      have hle:k0≤L'.length:=Nat.le_of_ble_eq_true c4
      rw[← tZ];unfold TP
      rw[show Nat.blt j k0=false by rw[Bool.eq_false_iff];intro hb;(have:j < k0:=by simpa[Nat.blt,Nat.ble_eq,Nat.lt_iff_add_one_le] using hb);omega,RS c2 hj];rfl
    ·rw[pS]at hl oI
     have nH:∀ k,((dA (bZ.fH D.C L' b) k).den D.C).live→k < L'.length:=fun k hk=>by
      rcases Nat.lt_or_ge k L'.length with h' | h'
      ·exact h'
      ·rw[Jk _ _ (by rw[iU];exact h')]at hk;exact hk.elim
     have key:∀ j j',j' < j→((dA (bZ.fH D.C L' b) j).den D.C).live→((dA (bZ.fH D.C L' b) j').den D.C).live→θ j=some i→θ j'=some i→False:=fun j j' U9 hl oI e e'=>by
      obtain⟨p,g1,g2⟩:=G7 (C:=D.C) (θ:=θ) L' 0 b j i (nH j hl) hl (by rw[Nat.zero_add];exact e)
      obtain⟨p',g3,g4⟩:=g2 j' i U9 oI (by rw[Nat.zero_add];exact e')
      have ag:=Pk c3
      obtain⟨q1,q2⟩:=List.getElem?_eq_some_iff.1 g1
      obtain⟨q3,q4⟩:=List.getElem?_eq_some_iff.1 g4
      have:=(List.getElem_inj ag (h₀:=q1) (h₁:=q3)).1 (q2.trans q4.symm)
      omega
     rcases Nat.lt_trichotomy j j' with U9|U9|U9
     ·exact (key j' j U9 oI hl e' e).elim
     ·exact U9
     ·exact (key j j' U9 hl oI e e').elim
  ·cases h
 ·cases h
theorem LJ {D:fA τ}(hD:D.Ok){ret:Sh}{L':List bZ}{R:Type}{to:ret.T τ→bZ.Ts τ L'→R}{of:R→ret.T τ×bZ.Ts τ L'}(G2:∀ a b,of (to a b)=(a,b)){k0:Nat}{rs:List ResultVar}{st:mE τ}{r:R}(h:aCu D ret L' to k0 rs st=some r) :
  (∃ a b,r=to a b)∧∃ v θ,VH D.E rs (fG D.C st)=some v∧(∀ j,j < k0→θ j=some j)∧RW θ v ((ret.enc D.C (of r).1).den D.C)∧DO θ (bU (fG D.C st).h) (bU ((bZ.fH D.C L' (of r).2).map (bD.den D.C))):=by
 unfold aCu at h
 split at h
 ·rename_i xs AX
  have ZM:=MZ hD AX
  have hv:VH D.E rs (fG D.C st)=some ((aHw xs).den D.C):=by
   unfold VH
   rw[ZM]
   unfold aHw
   split
   ·rename_i v hv
    split
    ·rename_i x;simp only[List.map_cons,List.map_nil,Option.some.injEq,List.cons.injEq,and_true]at hv;rw[← hv]
    ·rename_i dF
     simp only[Option.some.injEq]at hv
     cases xs with
     |nil=>simp at hv
     |cons y ys=>cases ys with
      |nil=>exact absurd rfl (dF y)
      |cons z zs=>simp at hv
   ·rename_i vs dF pe
    simp only[Option.some.injEq]at pe
    subst pe
    split
    ·rename_i x;exact absurd rfl (dF _)
    ·simp only[TV.den,uT]
   ·rename_i hn;cases hn
  obtain⟨h1,θ,h2,h3,h4⟩:=LK hD G2 h
  exact⟨h1,_,θ,hv,h2,h3,h4⟩
 ·cases h
theorem AL {D:fA τ}(hD:D.Ok){c:dL τ}{to:c.ret.T τ→bZ.Ts τ c.L'→c.R}{ta:Option ((A:Alt τ c.R)×(A.ret.T τ→bZ.Ts τ A.L'→c.R))}(G2:∀ a b,c.of (to a b)=(a,b))(ai:c.alt=ta.map (·.1))
  (UL:∀ A t,ta=some ⟨A,t⟩→(∀ a b,c.JY (to a b)=false)∧(∀ a b,c.JY (t a b)=true)∧∀ a b,A.of (t a b)=(a,b)) {k0:Nat} {rs:List ResultVar} {st:mE τ} {r:c.R} (h:aCv D c to ta k0 rs st=some r) :
  ∃ v θ,VH D.E rs (fG D.C st)=some v∧(∀ j,j < k0→θ j=some j)∧RW θ v ((c.out D.C r).1.den D.C)∧DO θ (bU (fG D.C st).h) (bU ((c.out D.C r).2.map (bD.den D.C))):=by
 unfold aCv at h
 unfold dL.out
 cases ta with
 |none =>
  rw[show c.alt=none from ai]
  split at h
  ·rename_i r' hr
   cases h
   exact (LJ hD G2 hr).2
  ·cases h
 |some At =>
  obtain⟨A,t⟩:=At
  rw[show c.alt=some A from ai]
  obtain⟨q1,q2,q3⟩:=UL A t rfl
  split at h
  ·rename_i r' hr
   cases h
   obtain⟨⟨a,b,rfl⟩,h2⟩:=LJ hD G2 hr
   simp only[q1,cond_false]
   exact h2
  ·obtain⟨⟨a,b,rfl⟩,h2⟩:=LJ (of:=A.of) hD q3 h
   simp only[q2,cond_true]
   exact h2
theorem L8 {D:Zr τ}(hD:D.Ok){f:FuncId}{fn:Func}{code:Code}(c:dL τ)(to:c.ret.T τ→bZ.Ts τ c.L'→c.R)(ta:Option ((A:Alt τ c.R)×(A.ret.T τ→bZ.Ts τ A.L'→c.R)))(G2:∀ a b,c.of (to a b)=(a,b))(ai:c.alt=ta.map (·.1))
  (UL:∀ A t,ta=some ⟨A,t⟩→(∀ a b,c.JY (to a b)=false)∧(∀ a b,c.JY (t a b)=true)∧∀ a b,A.of (t a b)=(a,b)) (n:Nat) (hf:D.D.E.P.funcs[f]?=some fn) (hb:fn.body=some code)
  (FL : (fn.name == "runtime.NumGoroutine") = false) (Hm : codeOk code = true) (hk : D.k0 = c.L.length)
  (h:∀ N a b,run D N n [.code code] (Fq D.D.C fn.ntmps c a b) (M9 D.D c to ta D.k0 fn.results.toList)=c.F N a b) (hsub:Zm (Uq D) code:=by exact fX (by kernel_rfl)) (hy:Nat.beq f Ae=false:=by rfl) (V1:D.D.E.ro=none:=by rfl) (ff:c.ext=false:=by rfl):aR D.D.E D.D.C f c:=by
 intro N a b r hr
 rw[hy,ff]
 show mT D.D.E f _ _ _ _
 rw[← h]at hr
 have hg:Gd (Fq D.D.C fn.ntmps c a b):=by
  refine⟨fun k d w q y e=>?_,fun g hg=>by cases hg⟩
  rcases Zo (t:=(Fq D.D.C fn.ntmps c a b).t) (k:=k) with hm|hm
  ·rw[e]at hm
   rcases List.mem_append.1 hm with h1|h1
   ·exact absurd rfl (Fp hD.ok.C c.args a _ h1 d w q y)
   ·have:=List.eq_of_mem_replicate h1;cases this
  ·rw[e]at hm;cases hm
 have hs:=Zh hD (N:=N) n [.code code] (Fq D.D.C fn.ntmps c a b) (M9 D.D c to ta D.k0 fn.results.toList)
  (Ends D.D.E D.k0 fn.results.toList ((c.out D.D.C r).1.den D.D.C) ((c.out D.D.C r).2.map (bD.den D.D.C))) (fun e fZ jR _ _=>?_) hg ⟨⟨Hm,hsub⟩,trivial⟩ hr
 ·refine mT.intro hD.iw V1 hf hb FL ?_
  rw[List.length_map,iU,← hk]
  have he:fG D.D.C (Fq D.D.C fn.ntmps c a b)=⟨TV.kU D.D.C (Sh.fH D.D.C c.args a)++List.replicate (fn.ntmps - (TV.kU D.D.C (Sh.fH D.D.C c.args a)).length) .aZ,(bZ.fH D.D.C c.L b).map (bD.den D.D.C)⟩:=by
   have uc:∀ l:List (TV τ),(∀ x∈l,∀ d w b y,x≠TV.yK d w b y)→l.map (Dh D.D.C)=l.map (TV.den D.D.C):=fun l hl=>List.map_congr_left fun x hx=>by
    cases x with
    |yK d w b y=>exact absurd rfl (hl _ hx d w b y)
    |_=>rfl
   simp only[fG,Fq,List.map_append,List.map_replicate,uT,List.length_map,Ut]
   rw[uc _ (fun x hx=>Fp hD.ok.C c.args a x hx)]
   rfl
  rw[he]at hs
  simp only[lQ]at hs
  exact hs
 ·unfold M9 at jR
  cases e with
  |normal=>exact AL hD.ok G2 ai UL jR
  |ret=>exact AL hD.ok G2 ai UL jR
  |_=>cases jR
end
end Go.Ev
