/-
A body cut in two: the first part's run leaves a state told by a shape,the second part is run from that shape once.
-/
import Derived.Test.YtddpmkmgbdedlaaGreatqTvU
set_option linter.unusedVariables false
namespace Go.Ev
open Go
def SW:Code→List Bool→List Code
 |.seq a b,true :: p=>a :: SW b p
 |.seq a b,false :: p=>SW a p
 |_,_=>[]
def Hf:Code→List Bool→List Code
 |.seq a b,true :: p=>Hf b p
 |.seq a b,false :: p=>Hf a p++[b]
 |c,_=>[c]
section
variable {E:Env} {k0:Nat}
theorem J2 {Q:Exit→St→Prop}{e:Exit}(he:e≠.normal)(t:List Ec)(st:St):∀ l:List Code,lQ E k0 (l.map Ec.code++t) Q e st=lQ E k0 t Q e st
 |[]=>rfl
 |c :: l=>by
  rw[← J2 he t st l]
  cases e with
  |normal=>exact absurd rfl he
  |_=>rfl
theorem NA {Q:Exit→St→Prop}:∀ (p:List Bool) (c:Code) (t:List Ec) (st:St),lQ E k0 ((SW c p++Hf c p).map Ec.code++t) Q .normal st→lQ E k0 (.code c :: t) Q .normal st
 |[],c,t,st,h=>by cases c<;>exact h
 |true :: p,.seq a b,t,st,h=>by
  refine Er.seq (Er.mono (fun e s hs=>?_) (show Er E k0 a st (lQ E k0 ((SW b p++Hf b p).map Ec.code++t) Q) from h))
  cases e with
  |normal=>exact NA p b t s hs
  |_=>rw[J2 (by intro h;cases h)]at hs;exact hs
 |false :: p,.seq a b,t,st,h=>by
  have h1:lQ E k0 ((SW a p++Hf a p).map Ec.code++(.code b :: t)) Q .normal st:=by
   have e:(SW (.seq a b) (false :: p)++Hf (.seq a b) (false :: p)).map Ec.code++t=(SW a p++Hf a p).map Ec.code++(.code b :: t):=by
    simp[SW,Hf]
   rw[← e];exact h
  refine Er.seq (Er.mono (fun e s hs=>?_) (show Er E k0 a st (lQ E k0 (.code b :: t) Q) from NA p a (.code b :: t) st h1))
  cases e with
  |normal=>exact hs
  |_=>exact hs
 |_ :: _,.skip,t,st,h|_ :: _,.exit _,t,st,h|_ :: _,.ret,t,st,h|_ :: _,.label _,t,st,h|_ :: _,.region _ _ _,t,st,h|_ :: _,.cond _ _ _,t,st,h|_ :: _,.block _ _,t,st,h|_ :: _,.loop _,t,st,h=>h
 |_ :: _,.scope _,t,st,h|_ :: _,.rangeFunc _ _ _ _,t,st,h=>h
 |_ :: _,.goto _,t,st,h|_ :: _,.refuse _,t,st,h=>h
end
theorem AA {S:Array Tmp→Code→Code→Prop}:∀ (p:List Bool) (c:Code),QX S c→(∀ x∈SW c p,QX S x)∧∀ x∈Hf c p,QX S x
 |[],c,h=>by
  have e1:SW c []=[]:=by cases c<;>rfl
  have e2:Hf c []=[c]:=by cases c<;>rfl
  rw[e1,e2]
  exact⟨fun x hx=>(by cases hx),fun x hx=>by rw[List.mem_singleton.1 hx];exact h⟩
 |true :: p,.seq a b,h=>by
  obtain⟨h1,h2⟩:=AA p b h.seq.2
  exact⟨fun x hx=>(List.mem_cons.1 hx).elim (fun e=>by rw[e];exact h.seq.1) (h1 x),h2⟩
 |false :: p,.seq a b,h=>by
  obtain⟨h1,h2⟩:=AA p a h.seq.1
  exact⟨h1,fun x hx=>(List.mem_append.1 hx).elim (h2 x) fun e=>by rw[List.mem_singleton.1 e];exact h.seq.2⟩
 |_ :: _,.skip,h|_ :: _,.exit _,h|_ :: _,.ret,h|_ :: _,.label _,h|_ :: _,.region _ _ _,h|_ :: _,.cond _ _ _,h|_ :: _,.block _ _,h|_ :: _,.loop _,h=>⟨fun x hx=>(by cases hx),fun x hx=>by rw[List.mem_singleton.1 hx];exact h⟩
 |_ :: _,.scope _,h|_ :: _,.rangeFunc _ _ _ _,h|_ :: _,.goto _,h|_ :: _,.refuse _,h=>⟨fun x hx=>(by cases hx),fun x hx=>by rw[List.mem_singleton.1 hx];exact h⟩
variable {τ:Nat→Type}
theorem CS {S:Array Tmp→Code→Code→Prop}:∀ l:List Code,(∀ x∈l,QX S x)→Fj S (l.map Ec.code)
 |[],_=>trivial
 |c :: l,h=>⟨h c (by simp),CS l fun x hx=>h x (by simp[hx])⟩
def za {X:Type}(D:Zr τ)(lp:Lp τ)(K:Exit→mE τ→Option X)(e:Exit)(st:mE τ):Option (lp.S ⊕ X) :=
 match e with
 |.normal=>(match lp.dec D.D.C D.k0 st with|some s=>some (.inl s) | none=>none)
 |.ret=>(match K .ret st with|some x=>some (.inr x) | none=>none)
 |_=>none
theorem aCZ {D:Zr τ}(hD:D.Ok){N n:Nat}{X:Type}{lp:Lp τ}{code:Code}{p:List Bool}{st:mE τ}{K:Exit→mE τ→Option X}{Q:Exit→St→Prop}{x:X}(hg:Gd st)(Hm:QX (Uq D) code)(h0:st.dt=[])(h0':st.dh=[])
  (hK:∀ e fZ,K e fZ=some x→Gd fZ→Q e (fG D.D.C fZ)) (dF:Hf code p≠[]) (hc:∀ s,(lp.head D.D.C st s).t.all (fun y=>!y.KQ)=true) {z:lp.S ⊕ X}
  (h1:run D N n ((SW code p).map Ec.code) st (za D lp K)=some z)
  (h2:(match z with | .inl s=>run D N n ((Hf code p).map Ec.code) (lp.head D.D.C st s) K | .inr y=>some y)=some x) :
  lQ D.D.E D.k0 [.code code] Q .normal (fG D.D.C st):=by
 obtain⟨ok1,ok2⟩:=AA p code Hm
 refine NA p code [] _ ?_
 rw[List.append_nil,List.map_append]
 obtain⟨q,qs,hq⟩:∃ q qs,Hf code p=q :: qs:=by
  cases h:Hf code p with
  |nil=>exact absurd h dF
  |cons q qs=>exact⟨q,qs,rfl⟩
 have key:=Zh hD (N:=N) n ((SW code p).map Ec.code) st (za D lp K) (lQ D.D.E D.k0 ((Hf code p).map Ec.code) Q) (x:=z) (fun e fZ hk w6 hf=>?_) hg (CS _ ok1) h1
 ·have hcat:∀ (l:List Code) (e:Exit) (s:St),lQ D.D.E D.k0 (l.map Ec.code) (lQ D.D.E D.k0 ((Hf code p).map Ec.code) Q) e s→lQ D.D.E D.k0 (l.map Ec.code++(Hf code p).map Ec.code) Q e s:=by
   intro l
   induction l with
   |nil=>exact fun e s h=>h
   |cons c l ih =>
    intro e s h
    cases e with
    |normal=>exact Er.mono (fun e s=>ih e s) h
    |_=>exact ih _ _ h
  exact hcat _ _ _ key
 ·cases e with
  |normal =>
   simp only[za]at hk
   split at hk
   ·rename_i s hs
    cases hk
    simp only at h2
    have hgh:Gd (lp.head D.D.C st s):=by
     refine⟨fun k d w b y hy=>?_,fun g hg=>by cases hg⟩
     rcases Zo (t:=(lp.head D.D.C st s).t) (k:=k) with hm|hm
     ·have:=List.all_eq_true.1 (hc s) _ hm
      rw[hy]at this;cases this
     ·rw[hm]at hy;cases hy
    have hs2:=Zh hD (N:=N) n ((Hf code p).map Ec.code) (lp.head D.D.C st s) K Q (fun e st2 KO N8 _=>hK e st2 KO N8) hgh (CS _ ok2) h2
    obtain⟨θ,tZ⟩:=Lp.Au hD.ok.C (base:=st) hs hf.len (fun k _ ag=>(hf.dt k ag).2) (fun i _ ag=>(hf.dh i ag).2)
    rw[hq]at hs2 ⊢
    exact Er.Au tZ hs2
   ·cases hk
  |ret =>
   simp only[za]at hk
   split at hk
   ·rename_i y hy
    cases hk
    simp only[Option.some.injEq]at h2
    subst h2
    exact Tg (hK .ret fZ hy w6)
   ·cases hk
  |_=>cases hk
theorem aCg {D:Zr τ}(hD:D.Ok){f:FuncId}{fn:Func}{code:Code}(c:dL τ)(to:c.ret.T τ→bZ.Ts τ c.L'→c.R)(ta:Option ((A:Alt τ c.R)×(A.ret.T τ→bZ.Ts τ A.L'→c.R)))(G2:∀ a b,c.of (to a b)=(a,b))(ai:c.alt=ta.map (·.1))
  (UL:∀ A t,ta=some ⟨A,t⟩→(∀ a b,c.JY (to a b)=false)∧(∀ a b,c.JY (t a b)=true)∧∀ a b,A.of (t a b)=(a,b)) (n:Nat) (p:List Bool) (lp:Lp τ)
  (F1:Nat→Sh.Ts τ c.args→bZ.Ts τ c.L→Option (lp.S ⊕ c.R)) (F2:Nat→Sh.Ts τ c.args→bZ.Ts τ c.L→lp.S→Option c.R)
  (hF:∀ N a b,c.F N a b=(F1 N a b).bind fun z=>match z with | .inl s=>F2 N a b s | .inr r=>some r)
  (hf:D.D.E.P.funcs[f]?=some fn) (hb:fn.body=some code)
  (FL : (fn.name == "runtime.NumGoroutine") = false) (Hm : codeOk code = true) (hk : D.k0 = c.L.length) (dF : (Hf code p).isEmpty = false)
  (hc:∀ a b s,(lp.head D.D.C (Fq D.D.C fn.ntmps c a b) s).t.all (fun y=>!y.KQ)=true)
  (h1:∀ N a b,run D N n ((SW code p).map Ec.code) (Fq D.D.C fn.ntmps c a b) (za D lp (M9 D.D c to ta D.k0 fn.results.toList))=F1 N a b)
  (h2:∀ N a b s,run D N n ((Hf code p).map Ec.code) (lp.head D.D.C (Fq D.D.C fn.ntmps c a b) s) (M9 D.D c to ta D.k0 fn.results.toList)=F2 N a b s) (hsub:Zm (Uq D) code:=by exact fX (by kernel_rfl)) (hy:Nat.beq f Ae=false:=by rfl) (V1:D.D.E.ro=none:=by rfl) (ff:c.ext=false:=by rfl):aR D.D.E D.D.C f c:=by
 intro N a b r hr
 rw[hy,ff]
 show mT D.D.E f _ _ _ _
 rw[hF]at hr
 obtain⟨z,hz,hr⟩:=Option.bind_eq_some_iff.1 hr
 rw[← h1]at hz
 have hg:Gd (Fq D.D.C fn.ntmps c a b):=by
  refine⟨fun k d w q y e=>?_,fun g hg=>by cases hg⟩
  rcases Zo (t:=(Fq D.D.C fn.ntmps c a b).t) (k:=k) with hm|hm
  ·rw[e]at hm
   rcases List.mem_append.1 hm with h1|h1
   ·exact absurd rfl (Fp hD.ok.C c.args a _ h1 d w q y)
   ·have:=List.eq_of_mem_replicate h1;cases this
  ·rw[e]at hm;cases hm
 have hs:=aCZ hD (N:=N) (n:=n) (lp:=lp) (p:=p) (K:=M9 D.D c to ta D.k0 fn.results.toList) (x:=r)
  (Q:=Ends D.D.E D.k0 fn.results.toList ((c.out D.D.C r).1.den D.D.C) ((c.out D.D.C r).2.map (bD.den D.D.C))) hg ⟨Hm,hsub⟩ rfl rfl (fun e fZ jR _=>?_) (fun h=>by rw[h]at dF;cases dF) (hc a b) hz ?_
 ·refine mT.intro hD.iw V1 hf hb FL ?_
  rw[List.length_map,iU,← hk]
  have he:fG D.D.C (Fq D.D.C fn.ntmps c a b)=⟨TV.kU D.D.C (Sh.fH D.D.C c.args a)++List.replicate (fn.ntmps - (TV.kU D.D.C (Sh.fH D.D.C c.args a)).length) .aZ,(bZ.fH D.D.C c.L b).map (bD.den D.D.C)⟩:=by
   have uc:∀ l:List (TV τ),(∀ x∈l,∀ d w b y,x≠TV.yK d w b y)→l.map (Dh D.D.C)=l.map (TV.den D.D.C):=fun l hl=>List.map_congr_left fun x hx=>by
    cases x with
    |yK d w b y=>exact absurd rfl (hl _ hx d w b y)
    |_=>rfl
   simp only[fG,Fq,List.map_append,List.map_replicate,uT,List.length_map,Ut]
   rw[uc _ (fun x hx=>Fp hD.ok.C c.args a x hx)]
   rfl
  rw[he]at hs
  simp only[lQ]at hs
  exact hs
 ·unfold M9 at jR
  cases e with
  |normal=>exact AL hD.ok G2 ai UL jR
  |ret=>exact AL hD.ok G2 ai UL jR
  |_=>cases jR
 ·cases z with
  |inl s=>simp only at hr ⊢;rw[h2];exact hr
  |inr y=>exact hr
end Go.Ev
