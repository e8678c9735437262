/-
The typed layer: contracts of functions over typed data,and calls.
-/
import Derived.Test.YtddpmkmgbdedlaaGreatqTvM
set_option linter.unusedVariables false
set_option linter.unusedSimpArgs false
namespace Go.Ev
open Go
inductive bZ where
 |box (s:Sh)
 |eD (e:Nat)
 |tail|dead|iO
 |yU (f k:Nat) (l:List Sh)
 |Qa
 |aX (t:Nat)
section
variable {τ:Nat→Type}
def bZ.T (τ:Nat→Type):bZ→Type
 |.box s=>s.T τ
 |.eD e=>List (τ e)
 |.yU _ _ l=>Sh.Ts τ l
 |.Qa=>Nat
 |.aX t=>List (Option (List (τ t)))
 |_=>Unit
def bZ.Ts (τ:Nat→Type):List bZ→Type
 |[]=>Unit
 |s :: r=>bZ.T τ s×bZ.Ts τ r
def bZ.enc (C:eY τ):(e:bZ)→e.T τ→bD τ
 |.box s,a=>.box (s.enc C a)
 |.eD e,l=>.eD e l
 |.tail,_=>.tail
 |.dead,_=>.dead
 |.iO,_=>.dead
 |.yU f k l,a=>.yU f k (Sh.fH C l a)
 |.Qa,e=>.Qa e
 |.aX t,ms=>.aX t ms
def bZ.fH (C:eY τ):(l:List bZ)→bZ.Ts τ l→List (bD τ)
 |[],_=>[]
 |e :: r,a=>bZ.enc C e a.1 :: bZ.fH C r a.2
def YN {t:Nat}(e:Nat)(l:List (Option (List (τ t)))):Option (List (Option (List (τ e)))):=if h:t=e then some (h▸l) else none
theorem Zy {t e:Nat}{l:List (Option (List (τ t)))}{r:List (Option (List (τ e)))}(h:YN e l=some r):∃ h:t=e,r=h▸l:=by
 unfold YN at h
 split at h
 ·rename_i ht;exact⟨ht,(Option.some.inj h).symm⟩
 ·cases h
def look:Zs→Nat→Option (Option Nat)
 |[],_=>none
 |(k,o) :: r,j=>bif Nat.beq k j then some o else look r j
theorem ZS {j:Nat}{o:Option Nat}:∀ {ps:Zs},look ps j=some o→(j,o)∈ps
 |[],h=>by cases h
 |(k,o') :: r,h=>by
  simp only[look]at h
  cases hk:Nat.beq k j with
  |true =>
   rw[hk]at h
   simp only[cond_true,Option.some.injEq]at h
   have:=Nat.eq_of_beq_eq_true hk
   subst this;subst h;simp
  |false =>
   rw[hk]at h
   exact List.mem_cons_of_mem _ (ZS h)
def decE (C:eY τ):(e:bZ)→bD τ→Option (e.T τ×Zs)
 |.box s,x=>(match x with | .box y=>s.dec C y|_=>none)
 |.eD e,x=>(match x with | .eD t l=>(match Bh (t:=t) e l with|some l=>some (l,[]) | none=>none) | _=>none)
 |.tail,x=>(match x with | .tail=>some ((),[]) | _=>none)
 |.dead,_=>some ((),[])
 |.iO,_=>none
 |.yU f k l,x=>(match x with | .yU f' k' ts=>bif Nat.beq f f'&&Nat.beq k k' then Sh.Ri C l ts else none|_=>none)
 |.Qa,x=>(match x with | .Qa e=>some (e,[]) | _=>none)
 |.aX t,x=>(match x with | .aX t' ms=>(match YN (t:=t') t ms with|some l=>some (l,[]) | none=>none) | _=>none)
def noE:(e:bZ)→Option (e.T τ)
 |.tail=>some ()
 |.dead=>some ()
 |.eD e=>some ([]:List (τ e))
 |_=>none
def E3 (C:eY τ)(h:List (bD τ)):(L:List bZ)→Nat→Zs→Option (bZ.Ts τ L×Zs)
 |[],_,ps=>some ((),ps)
 |e :: r,j,ps =>
  match look ps j with
  |some (some id) =>
   match decE C e (dA h id) with
   |some (a,qs)=>(match E3 C h r (j+1) (ps++qs) with
    |some (b,WT)=>some ((a,b),WT)
    |none=>none)
   |none=>none
  |some none =>
   match noE e with
   |some a=>(match E3 C h r (j+1) ps with
    |some (b,WT)=>some ((a,b),WT)
    |none=>none)
   |none=>none
  |none=>none
theorem td {C:eY τ}(hC:C.Ok){θ:Nat→Option Nat}{t:Nat}(l:List (τ t)):Hr θ (l.flatMap (C.cel t)) (l.flatMap (C.cel t)) :=
 Hr.bj (.refl _) (rA.MI fun y hy=>by
  obtain⟨z,_,hz⟩:=List.mem_flatMap.1 hy
  obtain⟨k,hk⟩:=List.getElem?_of_mem hz
  exact (hC.dB _ z).get hk)
theorem I3 {C:eY τ}{t:Nat}{ms:List (Option (List (τ t)))}{k:Nat}{c:List AV}(h:(iJ C t ms)[k]?=some (some c)):∃ l,ms[k]?=some (some l)∧c=l.flatMap (C.cel t):=by
 simp only[iJ,List.getElem?_map,Option.map_eq_some_iff]at h
 obtain⟨m,h1,h2⟩:=h
 obtain⟨l,rfl,h3⟩:=h2
 exact⟨l,h1,h3.symm⟩
theorem SV {C:eY τ}(hC:C.Ok){θ:Nat→Option Nat}(t:Nat)(ms:List (Option (List (τ t)))):aE2 θ (iJ C t ms) (iJ C t ms) :=
 ⟨rfl,fun k c h=>by
  obtain⟨l,_,rfl⟩:=I3 h
  exact⟨_,h,td hC l⟩⟩
theorem zj {C:eY τ}(hC:C.Ok){θ:Nat→Option Nat}{H:Nat→dD}{j id:Nat}(hj:θ j=some id){x:bD τ}(hx:H id=x.den C):∀ (e:bZ) (a:e.T τ) (qs:Zs),decE C e x=some (a,qs)→GW θ qs→Mi θ H j ((e.enc C a).den C)
 |.box s,a,qs,h,tZ=>by
  cases x with
  |box y=>exact⟨id,y.cells C,hj,hx,(NX hC s y a qs h tZ).2⟩
  |_=>exact nomatch h
 |.tail,a,qs,h,tZ=>by
  cases x with
  |tail=>exact .inr ⟨id,hj,hx⟩
  |_=>exact nomatch h
 |.eD e,a,qs,h,tZ=>by
  cases x with
  |eD t l =>
   have h':(match Bh (t:=t) e l with|some l=>some (l,([]:Zs)) | none=>none)=some (a,qs):=h
   split at h'
   ·rename_i l' hl
    have e1:=(Prod.mk.inj (Option.some.inj h')).1
    obtain⟨ht,hl⟩:=iT hl
    subst ht
    subst hl
    subst e1
    refine .inr ⟨id,_,hj,hx,?_⟩
    refine Hr.bj (.refl _) (rA.MI fun y hy=>?_)
    obtain⟨z,_,hz⟩:=List.mem_flatMap.1 hy
    obtain⟨k,hk⟩:=List.getElem?_of_mem hz
    exact (hC.dB _ z).get hk
   ·cases h'
  |_=>exact nomatch h
 |.dead,a,qs,h,tZ=>trivial
 |.iO,a,qs,h,tZ=>nomatch h
 |.yU f k l,a,qs,h,tZ=>by
  cases x with
  |yU f' k' ts =>
   have h':(bif Nat.beq f f'&&Nat.beq k k' then Sh.Ri C l ts else none)=some (a,qs):=h
   cases hb:(Nat.beq f f'&&Nat.beq k k') with
   |false=>rw[hb]at h';cases h'
   |true =>
    rw[hb]at h'
    simp only[Bool.and_eq_true]at hb
    have e1:=Nat.eq_of_beq_eq_true hb.1
    have e2:=Nat.eq_of_beq_eq_true hb.2
    subst e1;subst e2
    exact⟨id,_,hj,hx,(Lk hC l ts a qs h' tZ).1⟩
  |_=>exact nomatch h
 |.Qa,a,qs,h,tZ=>by
  cases x with
  |Qa e =>
   have h':some (e,([]:Zs))=some (a,qs):=h
   have:e=a:=(Prod.mk.inj (Option.some.inj h')).1
   subst this
   exact⟨id,hj,hx⟩
  |_=>exact nomatch h
 |.aX t,a,qs,h,tZ=>by
  cases x with
  |aX t' ms =>
   have h':(match YN (t:=t') t ms with|some l=>some (l,([]:Zs)) | none=>none)=some (a,qs):=h
   split at h'
   ·rename_i l' hl
    have e1:=(Prod.mk.inj (Option.some.inj h')).1
    obtain⟨ht,hl⟩:=Zy hl
    subst ht
    subst hl
    subst e1
    exact⟨id,_,hj,hx,SV hC _ _⟩
   ·cases h'
  |_=>exact nomatch h
theorem HZ {C:eY τ}(hC:C.Ok){θ:Nat→Option Nat}{h:List (bD τ)}:∀ (L:List bZ) (j:Nat) (ps WT:Zs) (b:bZ.Ts τ L),E3 C h L j ps=some (b,WT)→GW θ WT →
  GW θ ps∧∀ k,k < L.length→Mi θ (fun i=>(dA h i).den C) (j+k) ((dA (bZ.fH C L b) k).den C)
 |[],j,ps,WT,b,hd,tZ=>by
  have:ps=WT:=(Prod.mk.inj (Option.some.inj hd)).2
  subst this
  exact⟨tZ,fun k hk=>by simp at hk⟩
 |e :: r,j,ps,WT,b,hd,tZ=>by
  simp only[E3]at hd
  split at hd
  ·rename_i id hl
   split at hd
   ·rename_i a qs ha
    split at hd
    ·rename_i b' aGt hb
     have e1:=(Prod.mk.inj (Option.some.inj hd)).1
     have e2:=(Prod.mk.inj (Option.some.inj hd)).2
     subst e2
     obtain⟨h1,h2⟩:=HZ hC r (j+1) (ps++qs) aGt b' hb tZ
     refine⟨h1.left,fun k hk=>?_⟩
     cases k with
     |zero =>
      rw[← e1]
      exact zj hC (h1.left (j,some id) (ZS hl)) rfl e a qs ha h1.right
     |succ k =>
      rw[← e1]
      have:=h2 k (by simpa using hk)
      rw[show j+(k+1)=j+1+k by omega]
      exact this
    ·exact nomatch hd
   ·exact nomatch hd
  ·rename_i hl
   split at hd
   ·rename_i a ha
    split at hd
    ·rename_i b' aGt hb
     have e1:=(Prod.mk.inj (Option.some.inj hd)).1
     have e2:=(Prod.mk.inj (Option.some.inj hd)).2
     subst e2
     obtain⟨h1,h2⟩:=HZ hC r (j+1) ps aGt b' hb tZ
     refine⟨h1,fun k hk=>?_⟩
     cases k with
     |zero =>
      rw[← e1]
      have hj:θ j=none:=h1 (j,none) (ZS hl)
      cases e with
      |tail=>exact .inl hj
      |dead=>trivial
      |eD e =>
       have ou:some ([]:List (τ e))=some a:=ha
       have:([]:List (τ e))=a:=Option.some.inj ou
       subst this
       exact .inl ⟨hj,rfl⟩
      |box s=>exact nomatch ha
      |iO=>exact nomatch ha
      |yU f k l=>exact nomatch ha
      |Qa=>exact nomatch ha
      |aX t=>exact nomatch ha
     |succ k =>
      rw[← e1]
      have:=h2 k (by simpa using hk)
      rw[show j+(k+1)=j+1+k by omega]
      exact this
    ·exact nomatch hd
   ·exact nomatch hd
  ·exact nomatch hd
theorem iU (C:eY τ):∀ (L:List bZ) (b:bZ.Ts τ L),(bZ.fH C L b).length=L.length
 |[],b=>rfl
 |e :: r,b=>by simp only[bZ.fH,List.length_cons,iU C r b.2]
structure Alt (τ:Nat→Type) (R:Type) where
 ret:Sh
 L':List bZ
 of:R→ret.T τ×bZ.Ts τ L'
structure dL (τ:Nat→Type) where
 args:List Sh
 L:List bZ
 ret:Sh
 L':List bZ
 R:Type
 IQ:R
 F:Nat→Sh.Ts τ args→bZ.Ts τ L→Option R
 of:R→ret.T τ×bZ.Ts τ L'
 alt:Option (Alt τ R):=none
 JY:R→Bool:=fun _=>false
 ext:Bool:=false
def dL.Ze (C:eY τ)(c:dL τ)(r:c.R):TV τ×List (bD τ):=(c.ret.enc C (c.of r).1,bZ.fH C c.L' (c.of r).2)
def Alt.out {R:Type}(C:eY τ)(A:Alt τ R)(r:R):TV τ×List (bD τ):=(A.ret.enc C (A.of r).1,bZ.fH C A.L' (A.of r).2)
def dL.out (C:eY τ)(c:dL τ)(r:c.R):TV τ×List (bD τ) :=
 match c.alt with
 |none=>c.Ze C r
 |some A=>bif c.JY r then A.out C r else c.Ze C r
def Ae:Nat:=1000000
def aDw (E:Env)(args:List AV)(L:List dD)(r:AV)(L':List dD):Prop :=
 ∀ g w (cargs:Array Value) (l:Nat),kT g (bU L) w→cW g args (#[Value.func (.yield l) #[] #[]]++cargs).toList →
  YieldAt Fence.wide 0 E.P l cargs w fun e w'=>∃ v g',e=.returned v∧aF g' r v∧iH g (bU L) w g' (bU L') w'
def aDv (E:Env)(f:FuncId)(args:List AV)(L:List dD)(r:AV)(L':List dD):Prop :=
 ∀ g w (cargs:Array Value),kT g (bU L) w→cW g args cargs.toList →
  ∃ v w' g',(callFunc f cargs).run E.P w=.ok (.value v) w'∧aF g' r v∧iH g (bU L) w g' (bU L') w'
def aDu:Bool→Bool→Env→FuncId→List AV→List dD→AV→List dD→Prop
 |false,false,E,f,args,L,r,L'=>mT E f args L r L'
 |false,true,E,f,args,L,r,L'=>aDv E f args L r L'
 |true,_,E,_,args,L,r,L'=>aDw E args L r L'
def aR (E:Env)(C:eY τ)(f:FuncId)(c:dL τ):Prop :=
 ∀ N a b r,c.F N a b=some r →
  aDu (Nat.beq f Ae) c.ext E f (TV.kU C (Sh.fH C c.args a)) ((bZ.fH C c.L b).map (bD.den C)) ((c.out C r).1.den C) ((c.out C r).2.map (bD.den C))
structure wc (τ:Nat→Type) where
 c:dL τ
 a:Sh.Ts τ c.args
 b:bZ.Ts τ c.L
 σ:List Nat
def qp (ps:Zs)(m:Nat):Option (List Nat) :=
 match m with
 |0=>some []
 |m+1=>match qp ps m,look ps m with
  |some l,some (some id)=>some (l++[id])
  |_,_=>none
def BG:List Nat→Bool
 |[]=>true
 |x :: r=>!WE x r&&BG r
def qo (ps:Zs)(σ:List Nat)(n:Nat):Bool:=ps.all (fun p=>Zc p.2 σ[p.1]?)&&BG σ&&σ.all (fun k=>Nat.blt k n)
theorem Pk:∀ {l:List Nat},BG l=true→l.Nodup
 |[],_=>List.nodup_nil
 |x :: r,h=>by
  simp only[BG,Bool.and_eq_true,Bool.not_eq_true']at h
  refine List.nodup_cons.2 ⟨fun hm=>?_,Pk h.2⟩
  rw[Yn.2 hm]at h;exact absurd h.1 (by simp)
theorem aBt {ps:Zs}{σ:List Nat}{n:Nat}(h:qo ps σ n=true):GW (TQ σ) ps∧σ.Nodup∧∀ k∈σ,k < n:=by
 simp only[qo,Bool.and_eq_true]at h
 obtain⟨⟨h1,h2⟩,h3⟩:=h
 refine⟨fun p hp=>?_,Pk h2,fun k hk=>?_⟩
 ·have:=List.all_eq_true.1 h1 p hp
  unfold Zc at this
  split at this
  ·rename_i a b ha hb
   have:=Nat.eq_of_beq_eq_true this
   subst this
   rw[ha];exact hb
  ·cases this
 ·have:=List.all_eq_true.1 h3 k hk
  simpa[Nat.blt,Nat.ble_eq,Nat.lt_iff_add_one_le] using this
theorem PZ {ps:Zs}:∀ {m:Nat} {σ:List Nat},qp ps m=some σ→σ.length=m
 |0,σ,h=>by cases h;rfl
 |m+1,σ,h=>by
  simp only[qp]at h
  split at h
  ·rename_i l id h1 h2
   cases h
   simp[PZ h1]
  ·cases h
def bD.LZ:bD τ→Bool
 |.aX _ _=>true
 |_=>false
def bZ.LZ:bZ→Bool
 |.aX _=>true
 |_=>false
def ZD {α:Type}(p:α→Bool):List α→Nat→Option Nat
 |[],_=>none
 |x :: r,i=>bif p x then some i else ZD p r (i+1)
def aCU (L:List bZ)(h:List (bD τ)):Zs :=
 match ZD bZ.LZ L 0 with
 |some j=>(match ZD bD.LZ h 0 with|some p=>[(j,some p)] | none=>[])
 |none=>[]
def hit (C:eY τ)(c:dL τ)(h:List (bD τ))(args:List (TV τ)):Option (wc τ) :=
 match Sh.Ri C c.args args with
 |some (a,ps) =>
  match E3 C h c.L 0 (ps++aCU c.L h) with
  |some (b,WT) =>
   match qp WT c.L.length with
   |some σ=>bif qo WT σ h.length then some ⟨c,a,b,σ⟩ else none
   |none=>none
  |none=>none
 |none=>none
structure XX (C:eY τ) (h:List (bD τ)) (args:List (TV τ)) (x:wc τ):Prop where
 args:Hr (TQ x.σ) (TV.kU C args) (TV.kU C (Sh.fH C x.c.args x.a))
 MY:DO (TQ x.σ) (fun i=>(dA h i).den C) (fun j=>(dA (bZ.fH C x.c.L x.b) j).den C)
 nd:x.σ.Nodup
 lt:∀ k∈x.σ,k < h.length
 len:x.σ.length=x.c.L.length
theorem aF6 {C:eY τ}(hC:C.Ok){c:dL τ}{h:List (bD τ)}{args:List (TV τ)}{x:wc τ}(hh:hit C c h args=some x):x.c=c∧XX C h args x:=by
 unfold hit at hh
 split at hh
 ·rename_i a ps ha
  split at hh
  ·rename_i b WT hb
   split at hh
   ·rename_i σ hσ
    cases hs:qo WT σ h.length with
    |false=>rw[hs]at hh;cases hh
    |true =>
     rw[hs]at hh
     simp only[cond_true,Option.some.injEq]at hh
     subst hh
     obtain⟨h1,h2,h3⟩:=aBt hs
     obtain⟨h4,h5⟩:=HZ hC c.L 0 _ WT b hb h1
     have hlen:=PZ hσ
     refine⟨rfl,(Lk hC c.args args a ps ha h4.left).1,⟨fun j=>?_,fun j j' i _ _ e e'=>?_⟩,h2,h3,hlen⟩
     ·show Mi (TQ σ) (fun i=>(dA h i).den C) j ((dA (bZ.fH C c.L b) j).den C)
      rcases Nat.lt_or_ge j c.L.length with hj|hj
      ·have:=h5 j hj
       rwa [Nat.zero_add]at this
      ·rw[Jk _ _ (by rw[iU];exact hj)]
       show σ[j]?=none
       exact List.getElem?_eq_none (by omega)
     ·have e1:σ[j]?=some i:=e
      have e2:σ[j']?=some i:=e'
      obtain⟨h1,FG⟩:=List.getElem?_eq_some_iff.1 e1
      obtain⟨QR,h2''⟩:=List.getElem?_eq_some_iff.1 e2
      exact (List.getElem_inj h2).1 (FG.trans h2''.symm)
   ·cases hh
  ·cases hh
 ·cases hh
def ua (C:eY τ):List (dL τ)→List (bD τ)→List (TV τ)→Option (wc τ)
 |[],_,_=>none
 |c :: r,h,args=>match hit C c h args with
  |some x=>some x
  |none=>ua C r h args
theorem O0 {C:eY τ}(hC:C.Ok){h:List (bD τ)}{args:List (TV τ)}{x:wc τ}:∀ {l:List (dL τ)},ua C l h args=some x→x.c∈l∧XX C h args x
 |[],hh=>by cases hh
 |c :: r,hh=>by
  simp only[ua]at hh
  split at hh
  ·rename_i y hy
   cases hh
   obtain⟨h1,h2⟩:=aF6 hC hy
   exact⟨h1▸List.mem_cons_self,h2⟩
  ·obtain⟨h1,h2⟩:=O0 hC (l:=r) hh
   exact⟨List.mem_cons_of_mem _ h1,h2⟩
def bD.Au (s:Nat→Nat):bD τ→bD τ
 |.box x=>.box (x.Au s)
 |.Aa x=>.Aa (x.Au s)
 |.yU f k ts=>.yU f k (TV.MY s ts)
 |e=>e
theorem aFG {C:eY τ}(hC:C.Ok)(s:Nat→Nat)(e:bD τ):Qv s (e.den C) ((e.Au s).den C):=by
 cases e with
 |eD t l =>
  refine⟨_,rfl,rfl,fun k x y hx hy g g' v hI gO hv=>?_⟩
  rw[hx]at hy;cases hy
  obtain⟨z,_,hz⟩:=List.mem_flatMap.1 (List.mem_of_getElem? hx)
  obtain⟨k',jR⟩:=List.getElem?_of_mem hz
  exact Ek ((hC.dB _ z).get jR) hI hv
 |box x=>exact⟨_,rfl,(MX hC s x).2.1,(MX hC s x).2.2⟩
 |Aa x=>exact⟨_,rfl,(MX hC s x).2.1,(MX hC s x).2.2⟩
 |yU f k ts=>exact⟨_,rfl,(CJ hC s ts).1.1,(CJ hC s ts).1.2⟩
 |aX t ms =>
  refine⟨_,rfl,rfl,fun q l' hl=>⟨l',hl,rfl,fun k x y hx hy g g' v hI gO hv=>?_⟩⟩
  rw[hx]at hy;cases hy
  obtain⟨l,_,rfl⟩:=I3 hl
  obtain⟨z,_,hz⟩:=List.mem_flatMap.1 (List.mem_of_getElem? hx)
  obtain⟨k',jR⟩:=List.getElem?_of_mem hz
  exact Ek ((hC.dB _ z).get jR) hI hv
 |_=>rfl
def U4 (s:Nat→Nat):List (bD τ)→Nat→List (Nat×bD τ)
 |[],_=>[]
 |e :: r,j=>(s j,e.Au s) :: U4 s r (j+1)
theorem K5 (C:eY τ)(s:Nat→Nat):∀ (l:List (bD τ)) (j:Nat) (H:Nat→dD) (k:Nat),(∀ i,i < l.length→k≠s (j+i))→app H (pQ C (U4 s l j)) k=H k
 |[],j,H,k,h=>rfl
 |e :: r,j,H,k,h=>by
  simp only[U4,pQ,List.map_cons,app]
  have:=K5 C s r (j+1) (eQ H (s j) ((e.Au s).den C)) k (fun i hi=>by rw[show j+1+i=j+(i+1) by omega];exact h (i+1) (by simpa using hi))
  simp only[pQ]at this
  rw[this,aM _ _ (by have:=h 0 (by simp);simpa using this)]
theorem xq (C:eY τ)(s:Nat→Nat):∀ (l:List (bD τ)) (j:Nat) (H:Nat→dD),(∀ i i',i < l.length→i' < l.length→s (j+i)=s (j+i')→i=i')→∀ i,i < l.length →
  app H (pQ C (U4 s l j)) (s (j+i))=((dA l i).Au s).den C
 |[],j,H,hs,i,hi=>by simp at hi
 |e :: r,j,H,hs,0,hi=>by
  simp only[U4,pQ,List.map_cons,app,Nat.add_zero]
  have:=K5 C s r (j+1) (eQ H (s j) ((e.Au s).den C)) (s j) (fun i hi e=>by
   have:=hs 0 (i+1) (by simp) (by simpa using hi) (by rw[Nat.add_zero,e,show j+1+i=j+(i+1) by omega])
   omega)
  simp only[pQ]at this
  rw[this,aP];rfl
 |e :: r,j,H,hs,i+1,hi=>by
  simp only[U4,pQ,List.map_cons,app]
  have:=xq C s r (j+1) (eQ H (s j) ((e.Au s).den C)) (fun a b ha hb e=>by
   have:=hs (a+1) (b+1) (by simpa using ha) (by simpa using hb) (by rw[show j+(a+1)=j+1+a by omega,show j+(b+1)=j+1+b by omega];exact e)
   omega) i (by simpa using hi)
  simp only[pQ]at this
  rw[show j+(i+1)=j+1+i by omega,this];rfl
def W9 (val:Operand→TV τ)(o:Op):Option (FuncId×List (TV τ)) :=
 match o with
 |.call c=>(match c.callee with
  |.value f=>(match val f with
   |.fn et cap=>bif Nat.beq et Ae then none else some (et,(c.args.toList.map val)++cap)
   |.Ar id=>some (Ae,.Ar id :: c.args.toList.map val)
   |_=>none)
  |_=>none)
 |_=>none
def xK (σ:List Nat)(n:Nat)(o:TV τ×List (bD τ)):jG τ :=
 { r:=o.1.Au (Ny σ n),U:=U4 (Ny σ n) o.2 0,F:=(List.range' 0 o.2.length).map (Ny σ n) }
theorem Oq {D:fA τ}(hD:D.Ok){h:List (bD τ)}{args:List (TV τ)}{x:wc τ}(hx:XX D.C h args x){out:TV τ×List (bD τ)}(hq:x.c.L.length≤out.2.length){X:Array Value→World→(Ending→World→Prop)→Prop}(aAu:∀ {c w R R'},X c w R→(∀ e w',R e w'→R' e w')→X c w R')
  (hs:∀ g w (cargs:Array Value),kT g (bU ((bZ.fH D.C x.c.L x.b).map (bD.den D.C))) w→cW g (TV.kU D.C (Sh.fH D.C x.c.args x.a)) cargs.toList→X cargs w fun e w'=>∃ v g',e=.returned v∧aF g' (out.1.den D.C) v∧iH g (bU ((bZ.fH D.C x.c.L x.b).map (bD.den D.C))) w g' (bU (out.2.map (bD.den D.C))) w')
  {H:Nat→dD} {g:Gh} {w:World} (hr:kT g H w) (hH:∀ id∈(xK x.σ h.length out).F,H id=(dA h id).den D.C) {cargs:Array Value} (pR:cW g (TV.kU D.C args) cargs.toList) :
  X cargs w fun e w'=>∃ v g',e=.returned v∧aF g' ((xK x.σ h.length out).r.den D.C) v∧iH g H w g' (app H (pQ D.C (xK x.σ h.length out).U)) w'∧((∀ p ms,bU ((bZ.fH D.C x.c.L x.b).map (bD.den D.C)) p≠.aX ms)→g'.α=g.α):=by
 -- names handed in, and new ones
 have hσF:∀ j,j < out.2.length→Ny x.σ h.length j∈(xK x.σ h.length out).F:=fun j hj=>by
  simp only[xK,List.mem_map]
  exact⟨j,by simp[List.mem_range'];exact hj,rfl⟩
 have jv:∀ j k,x.σ[j]?=some k→Ny x.σ h.length j=k:=fun j k e=>by simp[Ny,List.getD,e]
 have jw:∀ j,x.σ.length≤j→Ny x.σ h.length j=h.length+(j - x.σ.length):=fun j hj=>by simp[Ny,List.getD,List.getElem?_eq_none hj]
 have hH':∀ j k,x.σ[j]?=some k→H k=(dA h k).den D.C:=fun j k e=>by
  have hj:=(List.getElem?_eq_some_iff.1 e).1
  have:=hσF j (by have:=hx.len;omega)
  rw[jv j k e]at this
  exact hH k this
 have O2:DO (TQ x.σ) (H) (bU ((bZ.fH D.C x.c.L x.b).map (bD.den D.C))):=by
  refine⟨fun j=>?_,fun j j' i hl oI e e'=>hx.MY.inj j j' i (by rw[pS]at hl;exact hl) (by rw[pS]at oI;exact oI) e e'⟩
  rw[pS]
  have h0:=hx.MY.zD j
  cases he:(dA (bZ.fH D.C x.c.L x.b) j).den D.C with
  |bX=>rw[he]at h0;exact h0
  |dead=>trivial
  |box l=>rw[he]at h0;obtain⟨i,l0,a1,a2,a3⟩:=h0;exact⟨i,l0,a1,(hH' j i a1).trans a2,a3⟩
  |Aa l=>rw[he]at h0;obtain⟨i,l0,a1,a2,a3⟩:=h0;exact⟨i,l0,a1,(hH' j i a1).trans a2,a3⟩
  |eD l =>
   rw[he]at h0
   rcases h0 with h0|⟨i,l0,a1,a2,a3⟩
   ·exact .inl h0
   ·exact .inr ⟨i,l0,a1,(hH' j i a1).trans a2,a3⟩
  |tail =>
   rw[he]at h0
   rcases h0 with h0|⟨i,a1,a2⟩
   ·exact .inl h0
   ·exact .inr ⟨i,a1,(hH' j i a1).trans a2⟩
  |yU ps asg body l=>rw[he]at h0;obtain⟨i,l0,a1,a2,a3⟩:=h0;exact⟨i,l0,a1,(hH' j i a1).trans a2,a3⟩
  |Qa c=>rw[he]at h0;obtain⟨i,a1,a2⟩:=h0;exact⟨i,a1,(hH' j i a1).trans a2⟩
  |aX ms=>rw[he]at h0;obtain⟨i,l0,a1,a2,a3⟩:=h0;exact⟨i,l0,a1,(hH' j i a1).trans a2,a3⟩
 refine (YM (X:=X) aAu (Hg:=fun _=>True) (args:=TV.kU D.C (Sh.fH D.C x.c.args x.a)) (L:=(bZ.fH D.C x.c.L x.b).map (bD.den D.C)) (L':=out.2.map (bD.den D.C)) (r:=out.1.den D.C) (fun g w cargs _=>hs g w cargs) hr (σ:=x.σ) (n:=h.length) (q:=out.2.length - x.c.L.length) (H2:=app H (pQ D.C (xK x.σ h.length out).U)) (r2:=(xK x.σ h.length out).r.den D.C)
  (by rw[List.length_map,iU,hx.len]) (by rw[List.length_map,hx.len];omega) hx.nd hx.lt (fun k h1 h2=>?_) O2 (hx.args.WD pR) (fun k=>?_) (fun g1 g2 v hI' gO Yg=>?_) trivial)
 ·have hk:Ny x.σ h.length (x.σ.length+(k - h.length))=k:=by rw[jw _ (by omega)];omega
  have:=hσF (x.σ.length+(k - h.length)) (by have:=hx.len;omega)
  rw[hk]at this
  rw[hH k this,Jk _ _ h1];rfl
 ·have N9:∀ i i',i < out.2.length→i' < out.2.length→Ny x.σ h.length (0+i)=Ny x.σ h.length (0+i')→i=i':=fun i i' hi FK e=>by
   rw[Nat.zero_add,Nat.zero_add]at e
   rcases Nat.lt_or_ge i x.σ.length with h1|h1<;>rcases Nat.lt_or_ge i' x.σ.length with h2|h2
   ·rw[jv i _ (List.getElem?_eq_getElem h1),jv i' _ (List.getElem?_eq_getElem h2)]at e
    exact (List.getElem_inj hx.nd).1 e
   ·rw[jv i _ (List.getElem?_eq_getElem h1),jw i' h2]at e
    have:=hx.lt _ (List.getElem_mem h1);omega
   ·rw[jw i h1,jv i' _ (List.getElem?_eq_getElem h2)]at e
    have:=hx.lt _ (List.getElem_mem h2);omega
   ·rw[jw i h1,jw i' h2]at e;omega
  have hq':=hx.len
  cases hk:Av x.σ h.length (out.2.length - x.c.L.length) k with
  |some j =>
   have hjk:Ny x.σ h.length j=k∧j < out.2.length:=by
    unfold Av at hk
    split at hk
    ·rename_i hc
     cases hk
     exact⟨by rw[jw _ (by omega)];omega,by omega⟩
    ·rw[List.idxOf?_eq_some_iff]at hk
     obtain⟨a1,a2,_⟩:=hk
     have a2':x.σ[j]=k:=by simpa using a2
     exact⟨jv j k (by rw[List.getElem?_eq_getElem a1,a2']),by omega⟩
   have:=xq D.C (Ny x.σ h.length) out.2 0 (H) N9 j hjk.2
   rw[Nat.zero_add,hjk.1]at this
   show Qv _ _ (app H (pQ D.C (U4 (Ny x.σ h.length) out.2 0)) k)
   rw[this,pS]
   exact aFG hD.C _ _
  |none =>
   simp only[xK]
   refine K5 D.C _ _ 0 _ k fun i hi e=>?_
   rw[Nat.zero_add]at e
   unfold Av at hk
   split at hk
   ·cases hk
   ·rename_i hc
    rcases Nat.lt_or_ge i x.σ.length with h1|h1
    ·rw[jv i _ (List.getElem?_eq_getElem h1)]at e
     rw[List.idxOf?_eq_none_iff]at hk
     exact hk (e▸List.getElem_mem h1)
    ·rw[jw i h1]at e
     omega
 ·exact (MX hD.C _ _).1 g1 g2 v hI' gO Yg
def Pj (L:List bZ):Bool:=L.all fun e=>!e.LZ
theorem ZX {C:eY τ}:∀ {L:List bZ} (b:bZ.Ts τ L),Pj L=true→∀ p ms,bU ((bZ.fH C L b).map (bD.den C)) p≠.aX ms
 |[],b,_,p,ms,e=>by cases p<;>cases e
 |e0 :: r,b,h,0,ms,e=>by
  simp only[Pj,List.all_cons,Bool.and_eq_true]at h
  cases e0 with
  |aX t=>exact absurd h.1 (by simp[bZ.LZ])
  |_=>simp only[bZ.fH,bZ.enc,List.map_cons,bU,bD.den]at e;cases e
 |e0 :: r,b,h,p+1,ms,e=>by
  simp only[Pj,List.all_cons,Bool.and_eq_true]at h
  exact ZX (L:=r) b.2 h.2 p ms e
theorem HY {D:fA τ}(hD:D.Ok){o:Oper}{val:Operand→TV τ}{h:List (bD τ)}{f:FuncId}{args:List (TV τ)}
  (hc:W9 val o.op=some (f,args)) {x:wc τ} (hx:XX D.C h args x) {out:TV τ×List (bD τ)}
  (hs:aDu (Nat.beq f Ae) x.c.ext D.E f (TV.kU D.C (Sh.fH D.C x.c.args x.a)) ((bZ.fH D.C x.c.L x.b).map (bD.den D.C)) (out.1.den D.C) (out.2.map (bD.den D.C))) (hq:x.c.L.length≤out.2.length) :
  lZ D.E D.C (Pj x.c.L) o val (dA h) (xK x.σ h.length out).r (xK x.σ h.length out).U (xK x.σ h.length out).F:=by
 intro H g a w hr wU hH _ next Q hn
 have hnp:Pj x.c.L=true→∀ p ms,bU ((bZ.fH D.C x.c.L x.b).map (bD.den D.C)) p≠.aX ms:=ZX x.b
 unfold W9 at hc
 split at hc
 ·rename_i c ho
  split at hc
  ·rename_i fo Rq
   split at hc
   ·rename_i et cap hf
    cases hy:Nat.beq et Ae with
    |true=>rw[hy]at hc;cases hc
    |false =>
    rw[hy]at hc
    simp only[cond_false,Option.some.injEq,Prod.mk.injEq]at hc
    obtain⟨rfl,rfl⟩:=hc
    rw[hy]at hs
    have O1:eC o.op=[fo]++c.args.toList:=by rw[ho];simp only[eC,Rq]
    have aa:=wU fo (by rw[O1];simp)
    rw[hf]at aa
    simp only[TV.den,uT]at aa
    have pR:∀ cs:Array Value,cW g (cap.map (TV.den D.C)) cs.toList→cW g (TV.kU D.C ((c.args.toList.map val)++cap)) (c.args.map a.eval++cs).toList:=fun cs Tr=>by
     rw[uT,List.map_append,Array.toList_append]
     refine cW.append ⟨by simp,fun k y v e e'=>?_⟩ Tr
     simp at e e'
     obtain⟨z,hz,rfl⟩:=e
     rw[hz]at e'
     simp at e';subst e'
     exact wU z (by rw[O1];simp;right;exact Array.mem_of_getElem? hz)
    cases ff:x.c.ext with
    |true =>
     rw[ff]at hs
     replace hs:aDv D.E et (TV.kU D.C (Sh.fH D.C x.c.args x.a)) ((bZ.fH D.C x.c.L x.b).map (bD.den D.C)) (out.1.den D.C) (out.2.map (bD.den D.C)):=hs
     generalize hvf:a.eval fo=vf at aa
     cases aa with
     |fn e1 e2 =>
      rename_i cs
      obtain⟨v,w',aI2,v2,g',hve,Yg,iP,QT⟩:=Oq hD hx hq (X:=fun c w R=>∃ v w',(callFunc et c).run D.E.P w=.ok (.value v) w'∧R (.returned v) w') (fun h hr=>by obtain⟨v,w',h1,h2⟩:=h;exact⟨v,w',h1,hr _ _ h2⟩)
       (fun g w cargs hw hl=>by obtain⟨v,w',g',h1,h2,h3⟩:=hs g w cargs hw hl;exact⟨v,w',h1,v,g',rfl,h2,h3⟩) hr hH (pR cs ⟨by simpa using e1,fun k y v e e'=>e2 k y v e (by simpa using e')⟩)
      cases hve
      have Ms:(execOp a.eval o).run D.E.P w=.ok (.value v) w':=by
       rw[← aI2]
       simp[execOp,ho,resolve,Rq,hvf,Deferred.ofValue,invoke]
      refine j3 Ms (fun d=>by simp) ?_
      exact hn v g' w' Yg iP fun hf=>QT (hnp hf)
    |false =>
    rw[ff]at hs
    replace hs:mT D.E et (TV.kU D.C (Sh.fH D.C x.c.args x.a)) ((bZ.fH D.C x.c.L x.b).map (bD.den D.C)) (out.1.den D.C) (out.2.map (bD.den D.C)):=hs
    obtain⟨fn,h1,h2,h3⟩:=hs.1
    generalize hvf:a.eval fo=vf at aa
    cases aa with
    |fn e1 e2 =>
     rename_i cs
     have hb:fn.body≠none:=fun e=>by rw[e]at h2;cases h2
     have h3' : ¬ fn.name = "runtime.NumGoroutine" := by simpa using h3
     have Ms:(execOp a.eval o).run D.E.P w=.ok (.enter et (c.args.map a.eval++cs)) w:=by
      simp[execOp,ho,resolve,Rq,hvf,Deferred.ofValue,invoke,callFunc,h1,h3',hb]
     replace pR:=pR cs ⟨by simpa using e1,fun k y v e e'=>e2 k y v e (by simpa using e')⟩
     refine j3 Ms (fun d=>by simp) ?_
     refine⟨fun h=>(by cases h),?_⟩
     refine (callsIn_wide (n:=0)).2 ((Oq hD hx hq (X:=fun c w R=>Calls D.E.P et c w R) (fun h hr=>Calls.mono h hr) (fun g w cargs=>hs.2 g w cargs) hr hH pR).mono ?_)
     rintro e w' ⟨v,g',rfl,Yg,iP,QT⟩
     exact hn v g' w' Yg iP fun hf=>QT (hnp hf)
   ·rename_i id hf
    simp only[Option.some.injEq,Prod.mk.injEq]at hc
    obtain⟨rfl,rfl⟩:=hc
    replace hs:aDw D.E (TV.kU D.C (Sh.fH D.C x.c.args x.a)) ((bZ.fH D.C x.c.L x.b).map (bD.den D.C)) (out.1.den D.C) (out.2.map (bD.den D.C)):=hs
    have O1:eC o.op=[fo]++c.args.toList:=by rw[ho];simp only[eC,Rq]
    have aa:=wU fo (by rw[O1];simp)
    rw[hf]at aa
    simp only[TV.den]at aa
    generalize hvf:a.eval fo=vf at aa
    cases aa with
    |@Ar _ l e1 =>
     have pR:cW g (TV.kU D.C (.Ar id :: c.args.toList.map val)) (#[Value.func (.yield l) #[] #[]]++c.args.map a.eval).toList:=by
      rw[uT,List.map_cons,Array.toList_append]
      refine cW.cons (.Ar e1) ⟨by simp,fun k y v e e'=>?_⟩
      simp at e e'
      obtain⟨z,hz,rfl⟩:=e
      rw[hz]at e'
      simp at e';subst e'
      exact wU z (by rw[O1];simp;right;exact Array.mem_of_getElem? hz)
     have key:=Oq hD hx hq (X:=fun c w R=>∀ cargs,c=#[Value.func (.yield l) #[] #[]]++cargs→YieldAt Fence.wide 0 D.E.P l cargs w R)
      (fun h hr cargs hc=>by
       obtain⟨fn,tm,asg,bd,h1,h2⟩:=h cargs hc
       exact⟨fn,tm,asg,bd,h1,h2.mono hr⟩) (fun g w cargs hw hl aE5 hc=>by subst hc;exact hs g w aE5 l hw hl) hr hH pR (c.args.map a.eval) rfl
     obtain⟨fn,tm,asg,bd,h1,h2⟩:=key
     have Ms:(execOp a.eval o).run D.E.P w=.ok (.round l fn tm asg bd) w:=by
      simp only[execOp,ho,resolve,Rq,hvf]
      simpa[Deferred.ofValue,invoke] using h1
     refine j3 Ms (fun d=>by simp) ?_
     refine⟨fun h=>(by cases h),?_⟩
     refine RoundIn.mono (F:=fe D.E) h2 ?_
     rintro e w' ⟨v,g',rfl,Yg,iP,QT⟩
     exact hn v g' w' Yg iP fun hf=>QT (hnp hf)
   ·cases hc
  ·cases hc
 ·cases hc
end
end Go.Ev
