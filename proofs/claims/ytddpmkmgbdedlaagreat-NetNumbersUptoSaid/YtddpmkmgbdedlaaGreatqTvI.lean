/-
Regions that draw their order: any order that the edges allow comes to what the text's order comes to.
-/
import Derived.Test.YtddpmkmgbdedlaaGreatqTvH
set_option linter.unusedVariables false
set_option linter.unusedSimpArgs false
set_option linter.unnecessarySimpa false
namespace Go.Ev
open Go
def Lo {α:Type}(p:Nat→Bool)(val:Nat→α)(v0:α):Nat→α
 |0=>v0
 |i+1=>if p i then val i else Lo p val v0 i
theorem FQ {α:Type}{p q:Nat→Bool}{val:Nat→α}{v0:α}:∀ {n:Nat},(∀ j,j < n→p j=q j)→Lo p val v0 n=Lo q val v0 n
 |0,_=>rfl
 |n+1,h=>by simp only[Lo];rw[h n (Nat.lt_succ_self _),FQ fun j hj=>h j (Nat.lt_succ_of_lt hj)]
theorem AZ {α:Type}{p:Nat→Bool}{val:Nat→α}{v0:α}{i:Nat}:∀ {n:Nat},i≤n→(∀ j,i≤j→j < n→p j=false)→Lo p val v0 n=Lo p val v0 i
 |0,h,_=>by
  have:i=0:=by omega
  subst this;rfl
 |n+1,h,hp=>by
  by_cases hi:i=n+1
  ·subst hi;rfl
  ·simp only[Lo]
   rw[hp n (by omega) (Nat.lt_succ_self _),AZ (n:=n) (by omega) fun j h1 h2=>hp j h1 (by omega)]
   simp
def FP:List (Nat×dD)→Nat→Option dD
 |[],_=>none
 |(k,e) :: r,id=>match FP r id with|some e'=>some e' | none=>if id=k then some e else none
theorem cA:∀ (U:List (Nat×dD)) (H:Nat→dD) (id:Nat),app H U id=(FP U id).getD (H id)
 |[],H,id=>rfl
 |(k,e) :: r,H,id=>by
  simp only[app,FP,cA r]
  cases FP r id with
  |some e'=>rfl
  |none =>
   simp only[Option.getD_none,eQ]
   split<;>rfl
theorem ZQ:∀ {U:List (Nat×dD)} {id:Nat},id ∉ U.map (·.1)→FP U id=none
 |[],_,_=>rfl
 |(k,e) :: r,id,h=>by
  simp only[List.map_cons,List.mem_cons,not_or]at h
  simp only[FP,ZQ h.2,if_neg h.1]
def AD (ops:Array Oper)(xs:List Rec)(D:Nat→Bool)(st:St):Nat→St
 |0=>st
 |i+1=>if D i then (AD ops xs D st i).after (ops.getD i default) (xs.getD i default) else AD ops xs D st i
theorem XC (s:St)(o:Oper)(x:Rec):(s.after o x).t=match o.dst with|some d=>NB s.t d x.r|none=>s.t:=by
 simp only[St.after,St.put];cases o.dst<;>rfl
theorem K4 (s:St)(o:Oper)(x:Rec):(s.after o x).h=YC s.h x.U:=by
 simp only[St.after,St.put];cases o.dst<;>rfl
theorem OT (s:St)(o:Oper)(x:Rec):(s.after o x).t.length=s.t.length:=by
 rw[XC];cases o.dst<;>simp[Ve]
theorem Qp (ops:Array Oper)(xs:List Rec)(D:Nat→Bool)(st:St):∀ n,(AD ops xs D st n).t.length=st.t.length
 |0=>rfl
 |n+1=>by simp only[AD];split<;>simp[OT,Qp ops xs D st n]
def wrT (ops:Array Oper)(st:St)(k i:Nat):Bool:=(ops.getD i default).dst==some k&&decide (k < st.t.length)
def wrH (xs:List Rec)(id i:Nat):Bool:=(FP (xs.getD i default).U id).isSome
theorem ZY (ops:Array Oper)(xs:List Rec)(D:Nat→Bool)(st:St)(k:Nat):∀ n,nth (AD ops xs D st n).t k=Lo (fun i=>D i&&wrT ops st k i) (fun i=>(xs.getD i default).r) (nth st.t k) n
 |0=>rfl
 |n+1=>by
  have ih:=ZY ops xs D st k n
  simp only[AD,Lo]
  cases hD:D n with
  |false=>simpa using ih
  |true =>
   simp only[if_true,Bool.true_and]
   rw[show wrT ops st k n=((ops.getD n default).dst==some k&&decide (k < st.t.length)) from rfl,XC]
   cases hd:(ops.getD n default).dst with
   |none=>simpa using ih
   |some d =>
    simp only[SA,zG,Qp]at ih ⊢
    by_cases hk:k=d∧d < st.t.length
    ·obtain⟨rfl,h2⟩:=hk
     rw[if_pos ⟨rfl,h2⟩];simp[h2]
    ·rw[if_neg hk,ih,if_neg]
     intro h
     simp at h
     exact hk ⟨h.1.symm,by rw[h.1];exact h.2⟩
theorem OM (ops:Array Oper)(xs:List Rec)(D:Nat→Bool)(st:St)(id:Nat):∀ n,bU (AD ops xs D st n).h id=Lo (fun i=>D i&&wrH xs id i) (fun i=>(FP (xs.getD i default).U id).getD .bX) (bU st.h id) n
 |0=>rfl
 |n+1=>by
  have ih:=OM ops xs D st id n
  simp only[AD,Lo]
  cases hD:D n with
  |false=>simpa using ih
  |true =>
   simp only[if_true,Bool.true_and]
   rw[show wrH xs id n=(FP (xs.getD n default).U id).isSome from rfl,K4,Qm,cA,ih]
   cases FP (xs.getD n default).U id<;>simp
theorem OV:∀ {l m:List AV},l.length=m.length→(∀ k,nth l k=nth m k)→l=m
 |[],[],_,_=>rfl
 |[],_ :: _,h,_=>by simp at h
 |_ :: _,[],h,_=>by simp at h
 |x :: l,y :: m,h,hk=>by
  have h0:=hk 0
  simp only[nth]at h0
  rw[h0,OV (l:=l) (m:=m) (by simpa using h) fun k=>by simpa[nth] using hk (k+1)]
theorem pN.congr {g:Gh}{s s':St}{a:Act}{w:World}(h:pN g s a w)(ht:s.t=s'.t)(hh:∀ id,bU s.h id=bU s'.h id):pN g s' a w:=by
 have hf:bU s.h=bU s'.h:=funext hh
 exact⟨ht▸h.len,ht▸h.t,hf▸h.rel⟩
inductive Reach (ops:Array Oper):Nat→Nat→Prop
 |aFt {j:Nat} {o:Oper} {e:Edge}:ops[j]?=some o→e∈o.after→Region.binds .any e=true→Reach ops e.on j
 |step {i j:Nat} {o:Oper} {e:Edge}:ops[j]?=some o→e∈o.after→Region.binds .any e=true→Reach ops i e.on→Reach ops i j
theorem P3 {ops:Array Oper}{acc:Array Nat}(tv:∀ j,j < acc.size→∀ i,(acc.getD j 0).testBit i=true→Reach ops i j){j:Nat}{o:Oper}(ho:ops[j]?=some o){i:Nat}(h:(MG acc o).testBit i=true):Reach ops i j:=by
 unfold MG at h
 have key:∀ (l:List Edge) (s:Nat),(∀ e∈l,e∈o.after)→(∀ i,s.testBit i=true→Reach ops i j)→(l.foldl (fun s e=>if Region.binds .any e then s ||| 2 ^ e.on ||| acc.getD e.on 0 else s) s).testBit i=true→Reach ops i j:=by
  intro l
  induction l with
  |nil=>intro s _ hs h;exact hs i h
  |cons e l ih =>
   intro s hl hs h
   rw[List.foldl_cons]at h
   refine ih _ (fun e' he'=>hl e' (by simp[he'])) (fun i' FK=>?_) h
   split at FK
   ·rename_i hb
    rw[Nat.testBit_or,Nat.testBit_or,Bool.or_eq_true,Bool.or_eq_true]at FK
    rcases FK with (FK|FK) | FK
    ·exact hs i' FK
    ·rw[Nat.testBit_two_pow]at FK
     have:e.on=i':=by simpa using FK
     rw[← this]
     exact .aFt ho (hl e (by simp)) hb
    ·have nH:e.on < acc.size:=by
      rcases Nat.lt_or_ge e.on acc.size with h' | h'
      ·exact h'
      ·simp[Array.getD,Nat.not_lt.2 h']at FK
     exact .step ho (hl e (by simp)) hb (tv e.on nH i' FK)
   ·exact hs i' FK
 exact key o.after.toList 0 (fun e he=>by simpa using he) (fun i' FK=>by simp at FK) h
theorem DG {ops:Array Oper}:∀ (l:List Oper) (acc:Array Nat),(∀ k o,l[k]?=some o→ops[acc.size+k]?=some o)→(∀ j,j < acc.size→∀ i,(acc.getD j 0).testBit i=true→Reach ops i j) →
  ∀ j i,((Ym acc l).getD j 0).testBit i=true→Reach ops i j
 |[],acc,_,tv,j,i,h=>by
  simp only[Ym]at h
  rcases Nat.lt_or_ge j acc.size with h' | h'
  ·exact tv j h' i h
  ·simp[Array.getD,Nat.not_lt.2 h']at h
 |o :: l,acc,hl,tv,j,i,h=>by
  simp only[Ym]at h
  refine DG l (acc.push (MG acc o)) (fun k o' hk=>?_) (fun j' ub i' FK=>?_) j i h
  ·rw[Array.size_push,Nat.add_assoc,Nat.add_comm 1 k]
   exact hl (k+1) o' (by simpa using hk)
  ·rw[Array.size_push]at ub
   by_cases nH:j' < acc.size
   ·refine tv j' nH i' ?_
    have:(acc.push (MG acc o)).getD j' 0=acc.getD j' 0:=by simp[Array.getD,nH,Nat.lt_succ_of_lt nH,Array.getElem_push_lt nH]
    rwa [this]at FK
   ·have hj:j'=acc.size:=by omega
    subst hj
    have:(acc.push (MG acc o)).getD acc.size 0=MG acc o:=by simp[Array.getD]
    rw[this]at FK
    exact P3 tv (by have:=hl 0 o rfl;simpa using this) FK
theorem UW {ops:Array Oper}{i j:Nat}(h:((UU ops).getD j 0).testBit i=true):Reach ops i j :=
 DG ops.toList #[] (fun k o hk=>by simpa using hk) (fun j hj=>by simp at hj) j i h
def KZ (ops:Array Oper)(D:Nat→Bool):Prop:=∀ j o e,D j=true→ops[j]?=some o→e∈o.after→Region.binds .any e=true→D e.on=true
theorem KZ.reach {ops:Array Oper}{D:Nat→Bool}(h:KZ ops D){i j:Nat}(hr:Reach ops i j):D j=true→D i=true:=by
 induction hr with
 |aFt ho he hb=>exact fun hj=>h _ _ _ hj ho he hb
 |step ho he hb _ ih=>exact fun hj=>ih (h _ _ _ hj ho he hb)
def R1 (m:Array Nat)(p q:Nat×List Nat×List Nat):Prop:=(m.getD p.1 0).testBit q.1=true∨(ss p.2.2 q.2.1=true∧ss q.2.2 p.2.1=true)
theorem ZN {m:Array Nat}{p:Nat×List Nat×List Nat}{r:List (Nat×List Nat×List Nat)}(h:indep m (p :: r)=true):(∀ q∈r,R1 m p q)∧indep m r=true:=by
 obtain⟨j,f,u⟩:=p
 simp only[indep,Bool.and_eq_true,List.all_eq_true]at h
 refine⟨fun q hq=>?_,h.2⟩
 obtain⟨i,f',u'⟩:=q
 have:=h.1 _ hq
 simp only[Bool.or_eq_true,Bool.and_eq_true]at this
 exact this
theorem ar {m:Array Nat}:∀ (xs:List Rec) (i:Nat) (tr:List (Nat×List Nat×List Nat)),indep m (dr i xs tr)=true→indep m tr=true
 |[],i,tr,h=>h
 |x :: xs,i,tr,h=>(ZN (ar xs (i+1) _ h)).2
theorem G4 {m:Array Nat}:∀ (xs:List Rec) (i:Nat) (tr:List (Nat×List Nat×List Nat)),indep m (dr i xs tr)=true→∀ k x,xs[k]?=some x→∀ p∈tr,R1 m (i+k,x.F,x.U.map (·.1)) p
 |[],i,tr,h,k,x,hx,_,_=>by simp at hx
 |y :: xs,i,tr,h,0,x,hx,p,hp=>by
  simp at hx;subst hx
  exact (ZN (ar xs (i+1) _ h)).1 p hp
 |y :: xs,i,tr,h,k+1,x,hx,p,hp=>by
  have:=G4 xs (i+1) _ h k x (by simpa using hx) p (by simp[hp])
  rwa [Nat.add_assoc,Nat.add_comm 1 k]at this
theorem ZO {m:Array Nat}:∀ (xs:List Rec) (i:Nat) (tr:List (Nat×List Nat×List Nat)),indep m (dr i xs tr)=true→∀ k l x y,k < l→xs[k]?=some x→xs[l]?=some y →
  R1 m (i+l,y.F,y.U.map (·.1)) (i+k,x.F,x.U.map (·.1))
 |[],i,tr,h,k,l,x,y,_,hx,_=>by simp at hx
 |z :: xs,i,tr,h,0,l+1,x,y,hkl,hx,hy=>by
  simp at hx;subst hx
  have:=G4 xs (i+1) _ h l y (by simpa using hy) (i,z.F,z.U.map (·.1)) (by simp)
  rwa [Nat.add_assoc,Nat.add_comm 1 l]at this
 |z :: xs,i,tr,h,k+1,l+1,x,y,hkl,hx,hy=>by
  have:=ZO xs (i+1) _ h k l x y (by omega) (by simpa using hx) (by simpa using hy)
  rwa [Nat.add_assoc,Nat.add_comm 1 l,Nat.add_assoc,Nat.add_comm 1 k]at this
theorem E5 {l m:List Nat}(h:ss l m=true){x:Nat}(hx:x∈l):x ∉ m:=by
 unfold ss at h
 have:=List.all_eq_true.1 h x hx
 simpa using this
theorem l7 {E:Env}{ops:Array Oper}:∀ (rest:List Oper) (i:Nat) (ys:List Rec) (st0 st fZ:St) (xs:List Rec),(∀ k o,rest[k]?=some o→ops[i+k]?=some o)→(∀ k x,ys[k]?=some x→xs[i+k]?=some x) →
  st=AD ops xs (fun _=>true) st0 i→fw E ops rest st ys fZ →
  ys.length=rest.length∧fZ=AD ops xs (fun _=>true) st0 (i+rest.length) ∧
  ∀ k o x,rest[k]?=some o→ys[k]?=some x→Local E ops o (AD ops xs (fun _=>true) st0 (i+k)) x∧∀ id∈x.U.map (·.1),id∈x.F
 |[],i,ys,st0,st,fZ,xs,_,_,sQ,h=>by
  cases ys with
  |nil=>simp only[fw]at h;exact⟨rfl,by rw[h,sQ];rfl,fun k o x hk=>by simp at hk⟩
  |cons y ys=>exact h.elim
 |o :: rest,i,ys,st0,st,fZ,xs,ho,hy,sQ,h=>by
  cases ys with
  |nil=>exact h.elim
  |cons y ys =>
   obtain⟨h1,h2,h3⟩:=h
   have hoi:ops.getD i default=o:=by have:=ho 0 o rfl;simp at this;simp[Array.getD_eq_getD_getElem?,this]
   have hxi:xs.getD i default=y:=by have:=hy 0 y rfl;simp at this;simp[List.getD,this]
   have hst2:st.after o y=AD ops xs (fun _=>true) st0 (i+1):=by simp only[AD,if_true,hoi,hxi,sQ]
   obtain⟨g1,g2,g3⟩:=l7 rest (i+1) ys st0 _ fZ xs (fun k o' hk=>by rw[Nat.add_assoc,Nat.add_comm 1 k];exact ho (k+1) o' (by simpa using hk))
    (fun k x hk=>by rw[Nat.add_assoc,Nat.add_comm 1 k];exact hy (k+1) x (by simpa using hk)) hst2 h3
   refine⟨by simp[g1],by rw[g2];congr 1;simp;omega,fun k o' x hk hx=>?_⟩
   cases k with
   |zero=>simp at hk hx;subst hk;subst hx;rw[Nat.add_zero,← sQ];exact⟨h1,h2⟩
   |succ k =>
    have:=g3 k o' x (by simpa using hk) (by simpa using hx)
    rwa [Nat.add_assoc,Nat.add_comm 1 k]at this
end Go.Ev
