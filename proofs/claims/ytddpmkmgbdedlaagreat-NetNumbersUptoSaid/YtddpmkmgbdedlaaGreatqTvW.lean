/-
A loop's rounds,where the loop ranges over a function: the contract of its yield.
-/
import Derived.Test.YtddpmkmgbdedlaaGreatqTvV
set_option linter.unusedVariables false
set_option linter.unusedSimpArgs false
namespace Go.Ev
open Go
def XW (g:Gh)(H:Nat→dD)(l:Nat):Prop:=∀ b lo,K2 g H b lo→b≠l
theorem XW.own {g g':Gh}{H H':Nat→dD}{w w':World}{l:Nat}(h:iH g H w g' H' w')(hl:l < w.heap.size)(hf:XW g H l):XW g' H' l:=fun b lo ho hb=>by
 subst hb
 rcases h.own b lo ho with h1|⟨QU,h1,_⟩
 ·omega
 ·exact hf b QU h1 rfl
theorem XW.obj {g g':Gh}{H H':Nat→dD}{w w':World}{l:Nat}{r:Loop}(h:iH g H w g' H' w')(hl:w.heap[l]?=some (.loop r))(hf:XW g H l):w'.heap[l]?=some (.loop r) :=
 h.fr.A2 l _ hl (by intros;simp) fun k ⟨lo,ho,_⟩=>hf l lo ho rfl
theorem kT.qe {g:Gh}{H:Nat→dD}{w:World}(h:kT g H w){l:Nat}{r:Loop}(hl:w.heap[l]?=some (.loop r))(hf:XW g H l)(o:Obj):kT g H (w.putObj l o):=by
 refine⟨⟨fun b k v e=>?_,fun id=>(h.base.zD id).iO g.le_refl (fun _=>rfl) fun b lo n Oc e=>⟨World.putObj_heap_other (hf b lo (.inl ⟨id,n,Oc,e⟩)),fun _ _=>rfl⟩,h.base.fresh,h.base.inj⟩,h.aX.one,fun p ms j cells h1 h2=>?_,h.aX.new,h.aX.sep,h.aX.ij⟩
 ·obtain⟨cs,T,fr,h1,h2⟩:=fB (h.base.AY b k v e)
  have dF:b≠l:=fun e=>by subst e;rw[hl]at h1;cases h1
  rw[bL (by rw[World.putObj_heap_other dF];exact h1)]
  exact h2
 ·rcases h.aX.mem p ms j cells h1 h2 with h0|⟨b,n,cs,T,fr,e1,e2,e3⟩
  ·exact .inl h0
  ·exact .inr ⟨b,n,cs,T,fr,e1,(World.putObj_heap_other (hf b 0 (.inr ⟨rfl,j,n,⟨p,ms,cells,h1,h2⟩,e1⟩))).trans e2,e3⟩
theorem iH.both {g g':Gh}{H H':Nat→dD}{w w':World}(h:iH g H w g' H' w'){l:Nat}{r:Loop}(hl:w.heap[l]?=some (.loop r))(hf:XW g H l)(o:Obj):iH g H (w.putObj l o) g' H' (w'.putObj l o):=by
 have nH:=cU hl
 have oI:=hf.obj h hl
 refine⟨h.al,h.le,h.rel.qe oI (hf.own h nH) o,⟨?_,h.fr.os,h.fr.out,fun b cs T fr e=>?_,fun b o' e dF hM=>?_⟩,fun b k v e=>?_,fun b lo ho=>?_⟩
 ·rw[World.putObj_size,World.putObj_size];exact h.fr.size
 ·by_cases hb:b=l
  ·subst hb
   rw[World.putObj_heap_same nH]at e
   cases e
   exact⟨cs,fr,World.putObj_heap_same (cU oI),rfl,fun _ _=>rfl,.inl rfl⟩
  ·rw[World.putObj_heap_other hb]at e ⊢
   exact h.fr.cells b cs T fr e
 ·by_cases hb:b=l
  ·subst hb
   rw[World.putObj_heap_same nH]at e
   cases e
   exact World.putObj_heap_same (cU oI)
  ·rw[World.putObj_heap_other hb]at e ⊢
   exact h.fr.A2 b o' e dF hM
 ·rw[World.putObj_size];exact h.grow b k v e
 ·rw[World.putObj_size];exact h.own b lo ho
theorem iH.round {g g':Gh}{H H':Nat→dD}{w w3:World}(hW:kT g H w){id l:Nat}{r r1 r2 r3:Loop}(eE:(H id).live)(gO:g.ρ id=some (l,0,0))(hl:w.heap[l]?=some (.loop r))
  (h:iH g (eQ H id .dead) (w.putObj l (.loop r1)) g' H' w3) (hl3:w3.heap[l]?=some (.loop r2)) (hf:XW g' H' l) (e:dD) (hel:e.live) (he:Hn g' (w3.putObj l (.loop r3)) id e):iH g H w g' (eQ H' id e) (w3.putObj l (.loop r3)):=by
 have nH:=cU hl
 have hlt3:=cU hl3
 have Oc:∀ k,(eQ H id .dead k).live→(H k).live:=fun k hk=>by
  by_cases DF:k=id
  ·subst DF;exact eE
  ·rw[aM _ _ DF]at hk;exact hk
 have ao:g'.ρ id=some (l,0,0):=h.le.ρ _ _ gO
 have hnp:∀ ms,H id≠.aX ms:=fun ms q=>by have:=hW.base.CH q;rw[this]at gO;cases gO
 have hnp':∀ ms,H' id≠.aX ms:=fun ms q=>by have:=h.rel.base.CH q;rw[this]at ao;cases ao
 have aF9:∀ ms,e≠.aX ms:=fun ms q=>by
  subst q
  have q:g'.ρ id=none:=he
  rw[q]at ao;cases ao
 have hpd:∀ p ms,eQ H id .dead p=.aX ms↔H p=.aX ms:=Jg hnp (fun ms q=>by cases q)
 have hpe:∀ p ms,eQ H' id e p=.aX ms↔H' p=.aX ms:=Jg hnp' aF9
 have hOd:∀ b lo,K2 g (eQ H id .dead) b lo→K2 g H b lo:=fun b lo ho=>by
  rcases ho with⟨k,n,h1,h2⟩|⟨h0,j,n,⟨p,ms,c,m1,m2⟩,h2⟩
  ·exact .inl ⟨k,n,Oc k h1,h2⟩
  ·exact .inr ⟨h0,j,n,⟨p,ms,c,(hpd p ms).1 m1,m2⟩,h2⟩
 have hM:∀ b o,QY g (eQ H id .dead) b o→QY g H b o:=fun b o ⟨lo,h1,h2⟩=>⟨lo,hOd b lo h1,h2⟩
 have rZ:∀ j,Mem (eQ H' id e) j→Mem H' j:=fun j ⟨p,ms,c,m1,m2⟩=>⟨p,ms,c,(hpe p ms).1 m1,m2⟩
 have js:=h.rel.qe hl3 hf (.loop r3)
 refine⟨fun NQ=>?_,h.le,⟨⟨js.base.AY,fun k=>?_,fun k hk=>?_,fun k k' x x' dF hk jR a b=>?_⟩,fun p p' ms kS a b=>js.aX.one p p' ms kS ((hpe _ _).1 a) ((hpe _ _).1 b),fun p ms j cells a b=>js.aX.mem p ms j cells ((hpe _ _).1 a) b,fun p ms j a b=>js.aX.new p ms j ((hpe _ _).1 a) b,fun k x j b n hk a hm c=>?_,fun j j' b b' n n' dF hm XJ a c=>js.aX.ij j j' b b' n n' dF (rZ j hm) (rZ j' XJ) a c⟩,
  ⟨?_,h.fr.os,h.fr.out,fun b cs T fr ec=>?_,fun b o ec dF hM'=>?_⟩,fun b o v ev=>?_,fun b lo ho=>?_⟩
 ·obtain⟨q1,q2⟩:=h.al fun p ms q=>NQ p ms ((hpd p ms).1 q)
  exact⟨q1,fun p ms q=>q2 p ms ((hpe p ms).1 q)⟩
 ·by_cases DF:k=id
  ·subst DF;rw[aP];exact he
  ·rw[aM _ _ DF];exact js.base.zD k
 ·by_cases DF:k=id
  ·subst DF;rw[aP]at hk;subst hk;exact hel.elim
  ·rw[aM _ _ DF]at hk;exact js.base.fresh k hk
 ·obtain⟨b1,pk,n1⟩:=x
  obtain⟨b2,lo2,n2⟩:=x'
  by_cases DF:k=id
  ·subst DF
   rw[aM _ _ (Ne.symm dF)]at jR
   rw[ao]at a;cases a
   exact fun q=>hf b2 lo2 (.inl ⟨k',n2,jR,b⟩) q.symm
  ·rw[aM _ _ DF]at hk
   by_cases hki':k'=id
   ·subst hki'
    rw[ao]at b;cases b
    exact hf b1 pk (.inl ⟨k,n1,hk,a⟩)
   ·rw[aM _ _ hki']at jR
    exact js.base.inj k k' _ _ dF hk jR a b
 ·by_cases DF:k=id
  ·subst DF
   rw[ao]at a;cases a
   exact fun q=>hf b 0 (.inr ⟨rfl,j,n,rZ j hm,c⟩) q.symm
  ·rw[aM _ _ DF]at hk
   exact js.aX.sep k x j b n hk a (rZ j hm) c
 ·have:=h.fr.size;rw[World.putObj_size]at this ⊢;exact this
 ·have hb:b≠l:=fun q=>by subst q;rw[hl]at ec;cases ec
  obtain⟨Ju,UH,e1,e2,e3,e4⟩:=h.fr.cells b cs T fr (by rw[World.putObj_heap_other hb];exact ec)
  exact⟨Ju,UH,by rw[World.putObj_heap_other hb];exact e1,e2,fun o ho=>e3 o fun hm=>ho (hM b o hm),e4.imp_right fun ⟨o,ho⟩=>⟨o,hM b o ho⟩⟩
 ·have hb:b≠l:=fun q=>by subst q;exact hM' 0 ⟨0,.inl ⟨id,0,eE,gO⟩,Nat.le_refl _⟩
  rw[World.putObj_heap_other hb]
  exact h.fr.A2 b o (by rw[World.putObj_heap_other hb];exact ec) dF fun k hk=>hM' k (hM b k hk)
 ·rcases h.grow b o v ev with q|q|q
  ·exact .inl q
  ·rw[World.putObj_size]at q;exact .inr (.inl q)
  ·exact .inr (.inr (hM b o q))
 ·have key:∀ {b lo},K2 g' H' b lo→w.heap.size≤b∨∃ QU,K2 g H b QU∧QU≤lo:=fun {b lo} ho=>by
   rcases h.own b lo ho with q|⟨QU,h1,h2⟩
   ·rw[World.putObj_size]at q;exact .inl q
   ·exact .inr ⟨QU,hOd b QU h1,h2⟩
  rcases ho with⟨k,n,hk,ec⟩|⟨h0,j,n,hm,ec⟩
  ·by_cases DF:k=id
   ·subst DF
    rw[ao]at ec;cases ec
    exact .inr ⟨0,.inl ⟨k,0,eE,gO⟩,Nat.le_refl _⟩
   ·rw[aM _ _ DF]at hk
    exact key (.inl ⟨k,n,hk,ec⟩)
  ·exact key (.inr ⟨h0,j,n,rZ j hm,ec⟩)
section
variable {τ:Nat→Type}
def Zr.HW (D:Zr τ)(l:Nat):Zr τ:={ D with D:={ D.D with E:={ D.D.E with ro:=some l } },inr:=true }
theorem F7 (E:Env)(r:Option Nat)(F:TypeId→Option (List Kd)):∀ (l:List Field) (o:Nat),EZ { E with ro:=r } F o l=EZ E F o l
 |[],o=>rfl
 |x :: l,o=>by
  have ih:=F7 E r F l
  simp only[EZ,ih]
theorem Z2 (E:Env)(r:Option Nat):∀ (k:Nat) (t:TypeId),Rp { E with ro:=r } k t=Rp E k t
 |0,t=>rfl
 |k+1,t=>by
  have ih:Rp { E with ro:=r } k=Rp E k:=funext (Z2 E r k)
  simp only[Rp,ih,F7]
theorem oo {E:Env}(r:Option Nat)(h:E.fp):Env.fp { E with ro:=r }:=fun t ks hk=>by
 have:=h t ks hk
 rw[Z2];exact this
theorem YD {D:Zr τ}(h:D.Ok)(l:Nat):(D.HW l).Ok where
 ok:=⟨h.ok.E,oo _ h.ok.Q,h.ok.C,h.ok.zero⟩
 iw:=⟨h.iw.ty,oo _ h.iw.eq,h.iw.mixed⟩
 mi:=fun f c hc N a b r hr=>by
  have:=h.mi f c hc N a b r hr
  revert this
  cases Nat.beq f Ae<;>cases c.ext<;>exact id
 ro:=fun h=>nomatch h
def R2:List (TV τ)→List Tmp→List (TV τ)→List (TV τ)
 |t,p :: ps,x :: xs=>R2 (KH t p x) ps xs
 |t,_,_=>t
def AN (C:eY τ)(ps:List Tmp)(xs KA:List Sh)(L0:List bZ)(a:Sh.Ts τ xs)(b:Sh.Ts τ KA×bZ.Ts τ L0):mE τ :=
 ⟨R2 (Sh.fH C KA b.1) ps (Sh.fH C xs a),.dead :: bZ.fH C L0 b.2,[],[],[]⟩
def runY {X:Type}(D:Zr τ)(N n:Nat)(asg body:Code)(st:mE τ)(K:Exit→mE τ→Option X):Option X :=
 run D N n [.code asg] st fun e st1=>match e with | .normal=>run D N n [.code body] st1 K|_=>none
def aBA (D:fA τ){R:Type}(ta:Option ((A:Alt τ R)×(A.ret.T τ→bZ.Ts τ A.L'→R)))(k0 q:Nat)(st:mE τ):Option R :=
 match ta with
 |some ⟨A,t⟩=>aAc D A.ret A.L' t k0 (.bool false) { st with h:=Qi st.h 0 (.Qa q) }
 |none=>none
def aFL (D:fA τ)(ret:Sh)(L':List bZ){R:Type}(to:ret.T τ→bZ.Ts τ L'→R)(ta:Option ((A:Alt τ R)×(A.ret.T τ→bZ.Ts τ A.L'→R)))(k0 f k:Nat)(ts:List (TV τ))(e:Exit)(st:mE τ):Option R :=
 match e with
 |.normal=>aAc D ret L' to k0 (.bool true) { st with h:=Qi st.h 0 (.yU f k ts) }
 |.ret=>aBA D ta k0 0 st
 |.exit i=>aBA D ta k0 (i+1) st
 |_=>none
theorem bz {C:eY τ}{g:Gh}:∀ (ps:List Tmp) (t xs:List (TV τ)) (tm:Array Value) (vs:List Value),cW g (TV.kU C t) tm.toList→cW g (TV.kU C xs) vs →
  cW g (TV.kU C (R2 t ps xs)) ((ps.zip vs).foldl (fun (tm:Array Value) p=>tm.setIfInBounds p.1 p.2) tm).toList
 |[],t,xs,tm,vs,h,_=>by simpa[R2] using h
 |p :: ps,t,[],tm,vs,h,hx=>by
  cases vs with
  |nil=>simpa[R2] using h
  |cons v vs=>have:=hx.1;simp[uT]at this
 |p :: ps,t,x :: xs,tm,[],h,hx=>by have:=hx.1;simp[uT]at this
 |p :: ps,t,x :: xs,tm,v :: vs,h,hx=>by
  simp only[R2,List.zip_cons_cons,List.foldl_cons]
  have fc:aF g (x.den C) v:=hx.2 0 _ _ rfl rfl
  refine bz ps _ xs _ vs ?_ ⟨by have:=hx.1;simpa[uT] using this,fun k y c a b=>hx.2 (k+1) y c a b⟩
  have RO:TV.kU C (KH t p x)=NB (TV.kU C t) p (x.den C):=by
   have key:∀ (t:List (TV τ)) (p:Nat),TV.kU C (KH t p x)=NB (TV.kU C t) p (x.den C):=by
    intro t
    induction t with
    |nil=>intro p;rfl
    |cons y t ih =>
     intro p
     cases p with
     |zero=>rfl
     |succ p=>simp only[KH,TV.kU,NB,ih]
   exact key t p
  rw[RO]
  refine⟨by rw[Ve];simpa using h.1,fun k y c a b=>?_⟩
  rw[zG]at a
  split at a
  ·rename_i hk
   obtain⟨rfl,nH⟩:=hk
   cases a
   have VY:k < tm.size:=by have:=h.1;simp at this;omega
   rw[Array.toList_setIfInBounds,List.getElem?_set_self (by simpa using VY)]at b
   cases b;exact fc
  ·rename_i hk
   by_cases hkp:k=p
   ·subst hkp
    have w7:¬ k < (TV.kU C t).length:=fun h'=>hk ⟨rfl,h'⟩
    rw[List.getElem?_eq_none (by omega)]at a;cases a
   ·rw[Array.toList_setIfInBounds,List.getElem?_set_ne (Ne.symm hkp)]at b
    exact h.2 k y c a b
theorem sg {D:Zr τ}(hD:D.Ok){f k:Nat}{ps:List Tmp}{asg body:Code}{xs KA:List Sh}{L0:List bZ}{ret:Sh}{L':List bZ}{R:Type}{IQ:R}{F:Nat→Sh.Ts τ (.Ar 0 :: xs)→bZ.Ts τ (.yU f k KA :: L0)→Option R}{of:R→ret.T τ×bZ.Ts τ L'}{alt:Option (Alt τ R)}{JY:R→Bool}
  (pd:D.D.C.site f k=(ps.toArray,asg,body)) (hlen:Nat.beq xs.length ps.length=true) (to:ret.T τ→bZ.Ts τ L'→R) (ta:Option ((A:Alt τ R)×(A.ret.T τ→bZ.Ts τ A.L'→R))) (G2:∀ a b,of (to a b)=(a,b)) (ai:alt=ta.map (·.1))
  (UL:∀ A t,ta=some ⟨A,t⟩→(∀ a b,JY (to a b)=false)∧(∀ a b,JY (t a b)=true)∧∀ a b,A.of (t a b)=(a,b)) (n:Nat) (aGa:codeOk asg=true) (aGb:codeOk body=true) (hn1:PE asg=true) (hn2:PE body=true) (hk:Nat.beq D.k0 (L0.length+1)=true)
  (h:∀ l N a b,runY (D.HW l) N n asg body (AN D.D.C ps xs KA L0 a.2 b) (aFL D.D ret L' to ta D.k0 f k (Sh.fH D.D.C KA b.1))=F N a b) :
  aR D.D.E D.D.C Ae { args:=.Ar 0 :: xs,L:=.yU f k KA :: L0,ret:=ret,L':=L',R:=R,IQ:=IQ,F:=F,of:=of,alt:=alt,JY:=JY }:=by
 intro N a b r hr
 rw[show Nat.beq Ae Ae=true from rfl]
 intro g w cargs l hW pR
 have hk:=Nat.eq_of_beq_eq_true hk
 have hlen:=Nat.eq_of_beq_eq_true hlen
 have hr1:F N a b=some r:=hr
 have hr2:=(h l N a b).trans hr1
 clear hr hr1
 have aEe:alt=none∨JY r=false→dL.out D.D.C { args:=.Ar 0 :: xs,L:=.yU f k KA :: L0,ret:=ret,L':=L',R:=R,IQ:=IQ,F:=F,of:=of,alt:=alt,JY:=JY } r=(ret.enc D.D.C (of r).1,bZ.fH D.D.C L' (of r).2):=fun hq=>by
  unfold dL.out
  cases alt with
  |none=>rfl
  |some A =>
   rcases hq with hq|hq
   ·cases hq
   ·simp only[hq,cond_false];rfl
 have aEf:∀ A,alt=some A→JY r=true→dL.out D.D.C { args:=.Ar 0 :: xs,L:=.yU f k KA :: L0,ret:=ret,L':=L',R:=R,IQ:=IQ,F:=F,of:=of,alt:=alt,JY:=JY } r=A.out D.D.C r:=fun A ha hq=>by
  unfold dL.out
  subst ha
  simp only[hq,cond_true]
 generalize hoo:dL.out D.D.C { args:=.Ar 0 :: xs,L:=.yU f k KA :: L0,ret:=ret,L':=L',R:=R,IQ:=IQ,F:=F,of:=of,alt:=alt,JY:=JY } r=out at aEe aEf ⊢
 clear hoo
 replace hW:kT g (bU ((bZ.fH D.D.C (.yU f k KA :: L0) b).map (bD.den D.D.C))) w:=hW
 replace pR:cW g (TV.kU D.D.C (Sh.fH D.D.C (.Ar 0 :: xs) a)) (#[Value.func (.yield l) #[] #[]]++cargs).toList:=pR
 show YieldAt Fence.wide 0 D.D.E.P l cargs w fun e w'=>∃ v g',e=.returned v∧aF g' (out.1.den D.D.C) v∧iH g (bU ((bZ.fH D.D.C (.yU f k KA :: L0) b).map (bD.den D.D.C))) w g' (bU (out.2.map (bD.den D.D.C))) w'
 generalize hHL:bU ((bZ.fH D.D.C (.yU f k KA :: L0) b).map (bD.den D.D.C))=HL at hW ⊢
 have hL0:HL 0=.yU ps.toArray asg body (TV.kU D.D.C (Sh.fH D.D.C KA b.1)):=by
  rw[← hHL]
  show (bD.yU f k (Sh.fH D.D.C KA b.1):bD τ).den D.D.C=_
  simp only[bD.den,pd]
 have aCD:(HL 0).live:=by rw[hL0];trivial
 have he0:=hW.base.zD 0
 rw[hL0]at he0
 obtain⟨l0,fn,tm,df,k1,k2,k3⟩:=he0
 have hy:aF g (.Ar 0) (Value.func (.yield l) #[] #[]):=pR.2 0 _ _ rfl (by simp)
 cases hy with
 |Ar ey =>
 rw[k1]at ey
 simp only[Option.some.injEq,Prod.mk.injEq,and_true]at ey
 have ey:=ey.symm
 subst ey
 have AX:cW g (TV.kU D.D.C (Sh.fH D.D.C xs a.2)) cargs.toList:=by
  refine⟨by have:=pR.1;simpa[Sh.fH,TV.kU] using this,fun j x c hx hc=>pR.2 (j+1) x c hx ?_⟩
  simpa using hc
 have Ch:cargs.size=ps.length:=by
  have:=AX.1
  rw[uT,List.length_map,Ut]at this
  simp at this;omega
 refine⟨fn,_,asg,body,run_yield k2 (by simp[Ch]),?_⟩
 refine roundIn_of_wpIn (F:=Fence.wide) trivial ?_
 -- the aCY first state
 have htm:cW g (TV.kU D.D.C (R2 (Sh.fH D.D.C KA b.1) ps (Sh.fH D.D.C xs a.2))) ((ps.toArray.zip cargs).foldl (fun tmps (x:Tmp×Value)=>match x with | (t,a)=>tmps.setIfInBounds t a) tm).toList:=by
  have:=bz ps _ _ tm cargs.toList k3 AX
  have e:(ps.toArray.zip cargs).foldl (fun tmps (x:Tmp×Value)=>match x with | (t,a)=>tmps.setIfInBounds t a) tm=(ps.zip cargs.toList).foldl (fun (tm:Array Value) p=>tm.setIfInBounds p.1 p.2) tm:=by
   rw[← Array.foldl_toList,Array.toList_zip]
  rw[e];exact this
 generalize hT:(ps.toArray.zip cargs).foldl (fun tmps (x:Tmp×Value)=>match x with | (t,a)=>tmps.setIfInBounds t a) tm=T at htm
 have rZ:∀ (ps:List Tmp) (t xs:List (TV τ)) (x:TV τ),x∈R2 t ps xs→x∈t∨x∈xs:=by
  intro ps
  induction ps with
  |nil=>intro t xs x hx;left;cases xs<;>exact hx
  |cons p ps ih =>
   intro t xs x hx
   cases xs with
   |nil=>exact .inl hx
   |cons y ys =>
    rcases ih (KH t p y) ys x hx with h1|h1
    ·have RO:∀ (t:List (TV τ)) (p:Nat),x∈KH t p y→x∈t∨x=y:=by
      intro t
      induction t with
      |nil=>intro p hx;cases hx
      |cons z t iht =>
       intro p hx
       cases p with
       |zero =>
        rcases List.mem_cons.1 hx with h2|h2
        ·exact .inr h2
        ·exact .inl (List.mem_cons_of_mem _ h2)
       |succ p =>
        rcases List.mem_cons.1 hx with h2|h2
        ·exact .inl (by rw[h2];simp)
        ·exact (iht p h2).imp (List.mem_cons_of_mem _) id
     rcases RO t p h1 with h2|h2
     ·exact .inl h2
     ·exact .inr (by rw[h2];simp)
    ·exact .inr (List.mem_cons_of_mem _ h1)
 have hnc:∀ x∈(AN D.D.C ps xs KA L0 a.2 b).t,∀ d w b y,x≠.yK d w b y:=fun x hx=>by
  rcases rZ ps _ _ x hx with h1|h1
  ·exact Fp hD.ok.C _ _ x h1
  ·exact Fp hD.ok.C _ _ x h1
 have hg0:Gd (AN D.D.C ps xs KA L0 a.2 b):=by
  refine⟨fun j d w q y e=>?_,fun g hg=>by cases hg⟩
  rcases Zo (t:=(AN D.D.C ps xs KA L0 a.2 b).t) (k:=j) with hm|hm
  ·rw[e]at hm;exact absurd rfl (hnc _ hm d w q y)
  ·rw[e]at hm;cases hm
 have tx:(fG D.D.C (AN D.D.C ps xs KA L0 a.2 b)).t=TV.kU D.D.C (R2 (Sh.fH D.D.C KA b.1) ps (Sh.fH D.D.C xs a.2)):=by
  rw[uT]
  refine List.map_congr_left fun x hx=>?_
  cases x with
  |yK d w b y=>exact absurd rfl (hnc _ hx d w b y)
  |_=>rfl
 have hHD:bU (fG D.D.C (AN D.D.C ps xs KA L0 a.2 b)).h=eQ HL 0 .dead:=by
  funext j
  rw[← hHL]
  cases j with
  |zero=>rw[aP];rfl
  |succ j=>rw[aM _ _ (by omega)];rfl
 have hE0b:fC g HL w g (eQ HL 0 .dead) w:=fC.forget hW.base _ fun j=>by
  by_cases hj:j=0
  ·subst hj;right;rw[aP]
  ·left;rw[aM _ _ hj]
 have hE0:iH g HL w g (eQ HL 0 .dead) w:=hE0b.xa hW.aX (Jg (fun ms q=>by rw[hL0]at q;cases q) (fun ms q=>by cases q))
 have pc:XW g (eQ HL 0 .dead) l:=fun b lo ho hb=>by
  rcases ho with⟨id,n,Oc,e⟩|⟨_,j,n,⟨p,ms,c,m1,m2⟩,e⟩
  ·by_cases gY:id=0
   ·subst gY;rw[aP]at Oc;exact Oc.elim
   ·rw[aM _ _ gY]at Oc
    subst hb
    exact hW.base.inj id 0 _ _ gY Oc aCD e k1 rfl
  ·by_cases hp:p=0
   ·subst hp;rw[aP]at m1;cases m1
   ·rw[aM _ _ hp]at m1
    exact hW.aX.sep 0 _ j b n aCD k1 ⟨p,ms,c,m1,m2⟩ e hb.symm
 have aAq:∀ id x,g.ρ id=some x→id < D.k0:=fun id x e=>by
  rcases Nat.lt_or_ge id D.k0 with h' | h'
  ·exact h'
  ·rw[hW.base.fresh id (by rw[← hHL];exact AT _ _ (by rw[List.length_map,iU];simp;omega))]at e;cases e
 -- what a aCY end says
 let Qy:Exit→St→Prop:=fun e s =>
  (e=.normal∧(alt=none∨JY r=false)∧∃ θ,(∀ j,j < D.k0→θ j=some j)∧RW θ (.v (.bool true)) ((ret.enc D.D.C (of r).1).den D.D.C)∧DO θ (eQ (bU s.h) 0 (.yU ps.toArray asg body (TV.kU D.D.C (Sh.fH D.D.C KA b.1)))) (bU ((bZ.fH D.D.C L' (of r).2).map (bD.den D.D.C)))) ∨
  (∃ q A,((e=.ret∧Mq q=.ret)∨∃ i,e=.exit i∧Mq q=.exit i)∧alt=some A∧JY r=true∧∃ θ,(∀ j,j < D.k0→θ j=some j)∧RW θ (.v (.bool false)) ((A.out D.D.C r).1.den D.D.C)∧DO θ (eQ (bU s.h) 0 (.Qa (Mq q))) (bU ((A.out D.D.C r).2.map (bD.den D.D.C))))
 have hput:∀ (fZ:mE τ) (e:bD τ),bU (fG D.D.C { fZ with h:=Qi fZ.h 0 e }).h=eQ (bU (fG D.D.C fZ).h) 0 (e.den D.D.C):=fun fZ e=>by
  show bU ((Qi fZ.h 0 e).map (bD.den D.D.C))=_
  rw[← Zk,Km];rfl
 have RM:∀ e fZ,aFL D.D ret L' to ta D.k0 f k (Sh.fH D.D.C KA b.1) e fZ=some r→Qy e (fG D.D.C fZ):=fun e fZ hf=>by
  have aEi:∀ q,((e=.ret∧Mq q=.ret)∨∃ i,e=.exit i∧Mq q=.exit i)→aBA D.D ta D.k0 q fZ=some r→Qy e (fG D.D.C fZ):=fun q hq hx=>by
   cases ju:ta with
   |none=>rw[ju]at hx;cases hx
   |some At =>
    obtain⟨A,t⟩:=At
    rw[ju]at hx
    obtain⟨s1,s2,s3⟩:=UL A t ju
    obtain⟨⟨p,q',hrr⟩,θ,t1,t2,t3⟩:=LK (of:=A.of) hD.ok s3 hx
    refine .inr ⟨q,A,hq,by rw[ai,ju];rfl,by rw[hrr];exact s2 _ _,θ,t1,t2,?_⟩
    rw[hput]at t3
    exact t3
  cases e with
  |normal =>
   obtain⟨⟨p,q,hrr⟩,θ,t1,t2,t3⟩:=LK (of:=of) hD.ok G2 hf
   refine .inl ⟨rfl,?_,θ,t1,t2,?_⟩
   ·cases ju:ta with
    |none=>left;rw[ai,ju];rfl
    |some At =>
     obtain⟨A,t⟩:=At
     right;rw[hrr];exact (UL A t ju).1 _ _
   ·rw[hput]at t3
    have:(bD.yU f k (Sh.fH D.D.C KA b.1):bD τ).den D.D.C=.yU ps.toArray asg body (TV.kU D.D.C (Sh.fH D.D.C KA b.1)):=by simp only[bD.den,pd]
    rw[this]at t3
    exact t3
  |ret=>exact aEi 0 (.inl ⟨rfl,rfl⟩) hf
  |exit i=>exact aEi (i+1) (.inr ⟨i,rfl,rfl⟩) hf
  |_=>cases hf
 have hA1:Er (D.HW l).D.E D.k0 asg (fG D.D.C (AN D.D.C ps xs KA L0 a.2 b)) fun e s=>e=.normal∧Er (D.HW l).D.E D.k0 body s Qy:=by
  refine Zh (YD hD l) n [.code asg] _ _ (fun e s=>e=.normal∧Er (D.HW l).D.E D.k0 body s Qy) (fun e fZ jR w6 _=>?_) hg0 ⟨⟨aGa,fX hn1⟩,trivial⟩ hr2
  cases e with
  |normal =>
   refine⟨rfl,?_⟩
   exact Zh (YD hD l) n [.code body] fZ _ Qy (fun e st2 KO _ _=>RM e st2 KO) w6 ⟨⟨aGb,fX hn2⟩,trivial⟩ jR
  |_=>cases jR
 have hSt:pN g (fG D.D.C (AN D.D.C ps xs KA L0 a.2 b)) { tmps:=T,defers:=[] } w:=by
  refine⟨by rw[tx];simpa using htm.1,fun j x c hx hc=>?_,by rw[hHD];exact hE0.rel⟩
  rw[tx]at hx
  exact htm.2 j x c hx (by simpa using hc)
 have hw1:=hA1 g _ w hSt g (eQ HL 0 .dead) w aAq (by rw[hHD];exact .refl hE0.rel) Nz.none
 refine wpIn_mono (F:=Fence.wide.inRound l) hw1 fun e a1 w1 hp=>?_
 obtain⟨s1,g1,⟨rfl,hB⟩,q1,q2,q3⟩:=hp
 have hl1:=pc.obj q2 k2
 refine⟨_,run_beginRound hl1 rfl,?_⟩
 have hEb:=q2.both k2 pc (.loop { state:=.busy,pending:=none,fn:=fn,tmps:=tm,params:=ps.toArray,assign:=asg,body:=body,defers:=df })
 have nH:=cU k2
 have aF1:Nz (w.putObj l (.loop { state:=.busy,pending:=none,fn:=fn,tmps:=tm,params:=ps.toArray,assign:=asg,body:=body,defers:=df })) a1 (w1.putObj l (.loop { state:=.busy,pending:=none,fn:=fn,tmps:=tm,params:=ps.toArray,assign:=asg,body:=body,defers:=df })):=by
  obtain⟨Ds,d1,d2,d3⟩:=q3
  refine⟨Ds,d1,d2,fun D hD=>⟨by rw[World.putObj_size];exact (d3 D hD).1,?_⟩⟩
  have dF:D≠l:=fun e=>by subst e;have:=(d3 D hD).2;rw[hl1]at this;cases this
  rw[World.putObj_heap_other dF];exact (d3 D hD).2
 have hw2:=hB g1 a1 _ ⟨q1.len,q1.t,hEb.rel⟩ g (eQ HL 0 .dead) _ aAq hEb aF1
 refine wpIn_mono (F:=Fence.wide.inRound l) hw2 fun e2 a2 w2 hp2=>?_
 obtain⟨s2,g2,hQ,p1,p2,p3⟩:=hp2
 have hf2:XW g2 (bU s2.h) l:=XW.own p2 (by rw[World.putObj_size];exact nH) pc
 have V0:=pc.obj p2 (World.putObj_heap_same nH)
 have Yh:g2.ρ 0=some (l,0,0):=p2.le.ρ _ _ k1
 have hlt2:=cU V0
 have O2:∀ (e:dD) (w4:World) (rr:AV) (Lf:List dD) (bb:Bool),(∃ θ,(∀ j,j < D.k0→θ j=some j)∧RW θ (.v (.bool bb)) rr∧DO θ (eQ (bU s2.h) 0 e) (bU Lf))→iH g HL w g2 (eQ (bU s2.h) 0 e) w4→∃ v g',Ending.returned (.bool bb)=.returned v∧aF g' rr v∧iH g HL w g' (bU Lf) w4:=by
  intro e w4 rr Lf bb ⟨θ,t1,t2,t3⟩ iP
  have hg:bU (JZ s2.h 0 e)=eQ (bU s2.h) 0 e:=Km _ _ _
  have aGe:pN g2 ⟨[],JZ s2.h 0 e⟩ { tmps:=#[],defers:=[] } w4:=⟨rfl,by simp,by rw[hg];exact iP.rel⟩
  obtain⟨_,q2⟩:=(XY.mk (k0:=D.k0) (θ:=θ) (s:=⟨[],JZ s2.h 0 e⟩) (s':=⟨[],Lf⟩) t1 ⟨rfl,by simp⟩ (by rw[hg];exact t3)).sound aGe aAq (by rw[hg];exact iP)
  exact⟨_,g2.Au θ,rfl,t2 _ _ (.v _),q2⟩
 rcases hQ with⟨rfl,ha,tZ⟩|⟨q,A,hq,ha,aCF,tZ⟩
 ·refine⟨_,_,run_endRound none V0,?_⟩
  rw[aEe ha]
  refine O2 _ _ _ _ true tZ (iH.round hW aCD k1 k2 p2 V0 hf2 _ trivial ?_)
  exact⟨l,fn,tm,df,Yh,World.putObj_heap_same hlt2,k3.rD p2.le⟩
 ·have hj:∀ jc,jc=Mq q→∃ v w',(Instr.endRound l (some jc)).run D.D.E.P w2=.ok v w'∧∃ v' g',Ending.returned v=.returned v'∧aF g' (out.1.den D.D.C) v'∧iH g HL w g' (bU (out.2.map (bD.den D.D.C))) w':=by
   intro jc hjc
   refine⟨_,_,run_endRound (some jc) V0,?_⟩
   rw[aEf A ha aCF]
   refine O2 (.Qa jc) _ _ _ false (by rw[hjc];exact tZ) (iH.round hW aCD k1 k2 p2 V0 hf2 _ trivial ?_)
   exact⟨l,_,Yh,World.putObj_heap_same hlt2,rfl,rfl⟩
  rcases hq with⟨rfl,hq⟩|⟨i,rfl,hq⟩
  ·exact hj .ret hq.symm
  ·exact hj (.exit i) hq.symm
theorem sf {D:Zr τ}(hD:D.Ok){f k:Nat}{ps:List Tmp}{xs KA:List Sh}{L0:List bZ}{ret:Sh}{L':List bZ}{R:Type}{IQ:R}{F:Nat→Sh.Ts τ (.Ar 0 :: xs)→bZ.Ts τ (.yU f k KA :: L0)→Option R}{of:R→ret.T τ×bZ.Ts τ L'}{alt:Option (Alt τ R)}{JY:R→Bool}
  (ue:(D.D.C.site f k).1=ps.toArray) (hlen:Nat.beq xs.length ps.length=true) (to:ret.T τ→bZ.Ts τ L'→R) (ta:Option ((A:Alt τ R)×(A.ret.T τ→bZ.Ts τ A.L'→R))) (G2:∀ a b,of (to a b)=(a,b)) (ai:alt=ta.map (·.1))
  (UL:∀ A t,ta=some ⟨A,t⟩→(∀ a b,JY (to a b)=false)∧(∀ a b,JY (t a b)=true)∧∀ a b,A.of (t a b)=(a,b)) (n:Nat) (aGa:codeOk (D.D.C.site f k).2.1=true) (aGb:codeOk (D.D.C.site f k).2.2=true) (hn1:PE (D.D.C.site f k).2.1=true) (hn2:PE (D.D.C.site f k).2.2=true) (hk:Nat.beq D.k0 (L0.length+1)=true)
  (h:∀ l N a b,runY (D.HW l) N n (D.D.C.site f k).2.1 (D.D.C.site f k).2.2 (AN D.D.C ps xs KA L0 a.2 b) (aFL D.D ret L' to ta D.k0 f k (Sh.fH D.D.C KA b.1))=F N a b) :
  aR D.D.E D.D.C Ae { args:=.Ar 0 :: xs,L:=.yU f k KA :: L0,ret:=ret,L':=L',R:=R,IQ:=IQ,F:=F,of:=of,alt:=alt,JY:=JY } :=
 sg hD (by rw[← ue]) hlen to ta G2 ai UL n aGa aGb hn1 hn2 hk h
end
@[reducible] def Sl.k:Sl:=.iO
@[reducible] def Sl.j:Sl:=.aZ
end Go.Ev
