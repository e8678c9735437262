/-
The typed layer: loops' heads.
-/
import Derived.Test.YtddpmkmgbdedlaaGreatqTvZ
set_option linter.unusedVariables false
set_option linter.unusedSimpArgs false
namespace Go.Ev
open Go
inductive Sl where
 |iO|aZ
 |sh (s:Sh)
section
variable {τ:Nat→Type}
def Sl.T (τ:Nat→Type):Sl→Type
 |.sh s=>s.T τ
 |_=>Unit
def Sl.Ts (τ:Nat→Type):List Sl→Type
 |[]=>Unit
 |s :: r=>Sl.T τ s×Sl.Ts τ r
structure Lp (τ:Nat→Type) where
 ts:List Sl
 hs:List bZ
 S:Type
 to:Sl.Ts τ ts→bZ.Ts τ hs→S
 ot:S→Sl.Ts τ ts
 oh:S→bZ.Ts τ hs
 hk:List Nat
 tk:List Nat
 eZ:∀ a b,ot (to a b)=a
 eX:∀ a b,oh (to a b)=b
def slE (C:eY τ)(x:TV τ):(l:Sl)→l.T τ→TV τ
 |.iO,_=>x
 |.aZ,_=>.aZ
 |.sh s,a=>s.enc C a
def Ye (C:eY τ):List (TV τ)→(l:List Sl)→Sl.Ts τ l→List (TV τ)
 |[],_,_=>[]
 |_ :: r,[],p=>.aZ :: Ye C r [] p
 |x :: r,s :: l,p=>slE C x s p.1 :: Ye C r l p.2
def im (C:eY τ)(x:bD τ):(e:bZ)→e.T τ→bD τ
 |.iO,_=>x
 |.box s,a=>.box (s.enc C a)
 |.eD e,l=>.eD e l
 |.tail,_=>.tail
 |.dead,_=>.dead
 |.yU f k l,a=>.yU f k (Sh.fH C l a)
 |.Qa,e=>.Qa e
 |.aX t,ms=>.aX t ms
def DD (C:eY τ)(h:List (bD τ)):(l:List bZ)→Nat→bZ.Ts τ l→List (bD τ)
 |[],_,_=>[]
 |e :: l,i,p=>im C (dA h i) e p.1 :: DD C h l (i+1) p.2
def Lp.head (C:eY τ)(lp:Lp τ)(st:mE τ)(s:lp.S):mE τ:=⟨Ye C st.t lp.ts (lp.ot s),DD C st.h lp.hs 0 (lp.oh s),[],[],[]⟩
mutual
def TV.KP (θ:Nat→Option Nat):TV τ→Bool
 |.ptr id _=>Zc (θ id) (some id)
 |.sl _ _ k=>(match k with | .own id | .tl id | .q8 id=>Zc (θ id) (some id) | _=>true)
 |.mS _ id _=>Zc (θ id) (some id)
 |.nG _ id _ _ _ _=>Zc (θ id) (some id)
 |.Bw _ _ _ _ _ _=>true
 |.qO _ _ _=>true
 |.ls _ l=>TV.FO θ l
 |.kQ=>true
 |.Ar id=>Zc (θ id) (some id)
 |.agg l=>TV.FO θ l
 |.jE l=>TV.FO θ l
 |.LY x=>TV.KP θ x
 |.fn _ l=>TV.FO θ l
 |.yK _ _ _ _=>false
 |.int _ _=>true
 |.bool _=>true
 |.str _=>true
 |.nil _=>true
 |.arr _ _ _=>true
 |.aZ=>true
def TV.FO (θ:Nat→Option Nat):List (TV τ)→Bool
 |[]=>true
 |x :: r=>TV.KP θ x&&TV.FO θ r
end
theorem BX {a b:Option Nat}(h:Zc a b=true):a=b:=by
 unfold Zc at h
 split at h
 ·rw[Nat.eq_of_beq_eq_true h]
 ·cases h
theorem RW.GB {θ:Nat→Option Nat}{x:AV}(hn:gR x):RW θ x x:=RW.dB (W.refl x) hn
mutual
theorem FN {C:eY τ}(hC:C.Ok){θ:Nat→Option Nat}:∀ x:TV τ,x.KP θ=true→RW θ (x.den C) (x.den C)∧Hr θ (x.cells C) (x.cells C)
 |.ptr id p,h=>by
  have h1:=BX (show Zc (θ id) (some id)=true from h)
  have hw:RW θ (yT id p) (yT id p):=fun g v hv=>by
   obtain⟨hb,Yg⟩:=Fe hv
   simp only[yT,hb,cond_true]
   cases Yg with
   |ptr e=>exact .ptr (by rw[qU h1];exact e)
  exact⟨hw,.one hw⟩
 |.sl t l k,h=>by
  have hw:RW θ (Gf C t l k) (Gf C t l k):=fun g v hv=>by
   cases k with
   |any=>exact Ek (g:=g) (g':=g.Au θ) (gR.xA (kK hC t l)) ⟨rfl,fun _ _ e=>e⟩ hv
   |nn=>exact Ek (g:=g) (g':=g.Au θ) (gR.VA (kK hC t l)) ⟨rfl,fun _ _ e=>e⟩ hv
   |non=>exact QB (g:=g) (g':=g.Au θ) (tok:=.no) (tok':=.no) ⟨rfl,fun _ _ e=>e⟩ (kK hC t l) (fun _ _ _ _ h=>h) hv
   |full=>exact QB (g:=g) (g':=g.Au θ) (tok:=.full) (tok':=.full) ⟨rfl,fun _ _ e=>e⟩ (kK hC t l) (fun _ _ _ _ h=>h) hv
   |own id =>
    have h1:=BX (show Zc (θ id) (some id)=true from h)
    exact RJ (g:=g) (g':=g.Au θ) ⟨rfl,fun _ _ e=>e⟩ (kK hC t l) (fun p hp=>by rw[qU h1];exact hp) hv
   |q8 id =>
    have h1:=BX (show Zc (θ id) (some id)=true from h)
    exact RJ (g:=g) (g':=g.Au θ) ⟨rfl,fun _ _ e=>e⟩ (kK hC t l) (fun p hp=>by rw[qU h1];exact hp) hv
   |tl id =>
    have h1:=BX (show Zc (θ id) (some id)=true from h)
    exact QB (g:=g) (g':=g.Au θ) (tok:=.tail id) (tok':=.tail id) ⟨rfl,fun _ _ e=>e⟩ (kK hC t l) (fun b o len cap ⟨n,FG,h2⟩=>⟨n,by rw[qU h1];exact FG,h2⟩) hv
  exact⟨hw,.one hw⟩
 |.agg l,h=>by
  have h1:=(Qo hC l h).2.1
  exact⟨RW.agg h1,h1⟩
 |.jE l,h=>by
  have h1:=(Qo hC l h).1
  exact⟨RW.jE h1,Hr.one fun g v hv=>.aZ v⟩
 |.LY x,h=>by
  have h1:=(FN hC x h).2
  have hw:RW θ (.rL (x.cells C) 0) (.rL (x.cells C) 0):=fun g v hv=>by
   cases hv with
   |rL c e1 e2=>exact .rL c e1 fun k y hy=>h1.2 k y y hy hy g _ (e2 k y hy)
  exact⟨hw,.one hw⟩
 |.fn f l,h=>by
  have hw:RW θ (.fn f (TV.kU C l)) (.fn f (TV.kU C l)):=RW.fn (Qo hC l h).1
  exact⟨hw,.one hw⟩
 |.ls s l,h=>by
  have hw:RW θ (.sl s (TV.pW C l) .full) (.sl s (TV.pW C l) .full):=(Qo hC l h).2.2.sl
  exact⟨hw,.one hw⟩
 |.mS t id n,h=>by
  have h1:=BX (show Zc (θ id) (some id)=true from h)
  have hw:RW θ (.Fk id 0 n (C.sz t)) (.Fk id 0 n (C.sz t)):=fun g v hv=>by
   cases hv with
   |Fk q1 q2 q3=>exact .Fk (by rw[qU h1];exact q1) q2 q3
   |Ml=>exact .Ml
  exact⟨hw,.one hw⟩
 |.nG t id o n c nn,h=>by
  have h1:=BX (show Zc (θ id) (some id)=true from h)
  have hw:RW θ (.nG id (o * C.sz t) n c nn (C.sz t)) (.nG id (o * C.sz t) n c nn (C.sz t)):=fun g v hv=>by
   cases hv with
   |nG q1 q2 q3 q4=>exact .nG (by rw[qU h1];exact q1) q2 q3 q4
   |Jr q=>exact .Jr q
  exact⟨hw,.one hw⟩
 |.Bw t j o n c nn,_=>by
  have hw:RW θ (.Bw j (o * C.sz t) n c nn (C.sz t)) (.Bw j (o * C.sz t) n c nn (C.sz t)):=RW.GB gR.Bw
  exact⟨hw,.one hw⟩
 |.qO t j p,_=>by
  have hw:RW θ (Ko j p) (Ko j p):=RW.GB (UY j p)
  exact⟨hw,.one hw⟩
 |.kQ,_=>by
  have hw:RW θ .kQ .kQ:=RW.GB gR.kQ
  exact⟨hw,.one hw⟩
 |.Ar id,h=>by
  have h1:=BX (show Zc (θ id) (some id)=true from h)
  have hw:RW θ (.Ar id) (.Ar id):=fun g v hv=>by
   cases hv with
   |Ar e=>exact .Ar (by rw[qU h1];exact e)
  exact⟨hw,.one hw⟩
 |.yK _ _ _ _,h=>by cases h
 |.int k n,_=>⟨RW.GB (gR.v _),.one (RW.GB (gR.v _))⟩
 |.bool b,_=>⟨RW.GB (gR.v _),.one (RW.GB (gR.v _))⟩
 |.str l,_=>⟨RW.GB (gR.v _),.one (RW.GB (gR.v _))⟩
 |.nil k,_=>⟨RW.GB (gR.v _),.one (RW.GB (gR.v _))⟩
 |.arr t n v,_=>by
  have hn:rA (v.toList.flatMap (C.cel t)):=rA.MI fun x hx=>by
   obtain⟨a,_,ha⟩:=List.mem_flatMap.1 hx
   obtain⟨k,hk⟩:=List.getElem?_of_mem ha
   exact (hC.dB t a).get hk
  have h1:Hr θ (v.toList.flatMap (C.cel t)) (v.toList.flatMap (C.cel t)):=.bj (.refl _) hn
  exact⟨RW.agg h1,h1⟩
 |.aZ,_=>⟨fun g v _=>.aZ v,.one fun g v _=>.aZ v⟩
theorem Qo {C:eY τ}(hC:C.Ok){θ:Nat→Option Nat}:∀ l:List (TV τ),TV.FO θ l=true→Hr θ (TV.kU C l) (TV.kU C l)∧Hr θ (TV.gL C l) (TV.gL C l)∧RWE θ (TV.pW C l) (TV.pW C l)
 |[],_=>⟨.nil,.nil,.nil⟩
 |x :: r,h=>by
  simp only[TV.FO,Bool.and_eq_true]at h
  obtain⟨h1,h2⟩:=FN hC x h.1
  obtain⟨h3,h4,h5⟩:=Qo hC r h.2
  exact⟨Hr.append (a:=[_]) (a':=[_]) (.one h1) h3,h2.append h4,.cons h2 h5⟩
end
def bD.KP (θ:Nat→Option Nat):bD τ→Bool
 |.box x=>x.KP θ
 |.Aa x=>x.KP θ
 |.bX=>false
 |.yU _ _ ts=>TV.FO θ ts
 |_=>true
def slD (C:eY τ)(x:TV τ):(l:Sl)→Option (l.T τ×Zs)
 |.iO=>some ((),[])
 |.aZ=>some ((),[])
 |.sh s=>s.dec C x
def VS (C:eY τ):List (TV τ)→(l:List Sl)→Option (Sl.Ts τ l×Zs)
 |_,[]=>some ((),[])
 |[],s :: l=>match slD C .aZ s,VS C [] l with
  |some (a,ps),some (b,qs)=>some ((a,b),ps++qs)
  |_,_=>none
 |x :: r,s :: l=>match slD C x s,VS C r l with
  |some (a,ps),some (b,qs)=>some ((a,b),ps++qs)
  |_,_=>none
def aCA (e:Nat)(x:bD τ):Option (List (τ e)):=match x with | .eD t l=>Bh (t:=t) e l|_=>none
def sx (C:eY τ)(h:List (bD τ))(ps0:Zs)(i:Nat):(e:bZ)→Option (e.T τ×Zs)
 |.iO=>some ((),[(i,some i)])
 |.box s=>(match look ps0 i with
  |some none=>none
  |some (some n)=>(match dA h n with
   |.box y=>(match s.dec C y with|some (a,ps)=>some (a,(i,some n) :: ps) | none=>none)
   |_=>none)
  |none=>(match dA h i with
   |.box y=>(match s.dec C y with|some (a,ps)=>some (a,(i,some i) :: ps) | none=>none)
   |_=>none))
 |.eD e=>(match look ps0 i with
  |some none=>some (([]:List (τ e)),[(i,none)])
  |some (some n)=>(match aCA e (dA h n) with|some l=>some (l,[(i,some n)]) | none=>none)
  |none=>(match aCA e (dA h i) with|some l=>some (l,[(i,some i)]) | none=>none))
 |.tail=>some ((),[])
 |.dead=>some ((),[(i,some i)])
 |.yU f k l=>(match dA h i with
  |.yU f' k' ts=>bif Nat.beq f f'&&Nat.beq k k' then (match Sh.Ri C l ts with|some (a,ps)=>some (a,(i,some i) :: ps) | none=>none) else none
  |_=>none)
 |.Qa=>(match dA h i with | .Qa e=>some (e,[(i,some i)]) | _=>none)
 |.aX t=>(match dA h i with | .aX t' ms=>(match YN (t:=t') t ms with|some l=>some (l,[(i,some i)]) | none=>none) | _=>none)
def aCj (C:eY τ)(h:List (bD τ))(ps0:Zs):(l:List bZ)→Nat→Option (bZ.Ts τ l×Zs)
 |[],_=>some ((),[])
 |e :: l,i=>match sx C h ps0 i e with
  |some (a,ps)=>(match aCj C h (ps0++ps) l (i+1) with
   |some (b,qs)=>some ((a,b),ps++qs)
   |none=>none)
  |none=>none
def TP (k0:Nat)(ps:Zs)(j:Nat):Option Nat:=bif Nat.blt j k0 then some j else match look ps j with|some o=>o|none=>none
def aA0:Option Nat→Option Nat→Bool
 |some a,some b=>Nat.beq a b
 |none,none=>true
 |_,_=>false
def I4 (θ:Nat→Option Nat)(ps:Zs):Bool:=ps.all fun p=>aA0 (θ p.1) p.2
def KR (θ:Nat→Option Nat)(dt:List Nat):List (TV τ)→List Sl→Nat→Bool
 |[],_,_=>true
 |_ :: r,[],k=>KR θ dt r [] (k+1)
 |x :: r,s :: l,k=>(match s with | .iO=>!WE k dt&&x.KP θ|_=>true)&&KR θ dt r l (k+1)
def G5 (θ:Nat→Option Nat)(dh:List Nat)(h:List (bD τ)):List bZ→Nat→Bool
 |[],_=>true
 |e :: l,i=>(match e with
  |.iO=>!WE i dh&&(dA h i).KP θ
  |.tail=>(match θ i with|none=>true|some n=>(match dA h n with | .tail=>true|_=>false))
  |_=>true)&&G5 θ dh h l (i+1)
def BB (θ:Nat→Option Nat)(i:Nat):bZ→List Nat
 |.dead=>[]
 |_=>(match θ i with|some n=>[n] | none=>[])
def Ap (θ:Nat→Option Nat):List bZ→Nat→List Nat
 |[],_=>[]
 |e :: l,i=>BB θ i e++Ap θ l (i+1)
theorem Pc {C:eY τ}{θ:Nat→Option Nat}{i n:Nat}{e:bZ}{x:bD τ}{a:e.T τ}(hl:((im C x e a).den C).live)(hn:θ i=some n):BB θ i e=[n]:=by
 cases e with
 |dead=>exact hl.elim
 |_=>simp only[BB,hn]
def Lp.dec (C:eY τ)(k0:Nat)(lp:Lp τ)(st:mE τ):Option lp.S :=
 match VS C st.t lp.ts with
 |none=>none
 |some (a,ps) =>
 match aCj C st.h ps lp.hs 0 with
 |none=>none
 |some (b,qs) =>
  bif Nat.ble k0 lp.hs.length&&I4 (TP k0 (ps++qs)) (ps++qs)&&(ps++qs).all (fun p=>Nat.blt p.1 lp.hs.length)&&KR (TP k0 (ps++qs)) st.dt st.t lp.ts 0&&G5 (TP k0 (ps++qs)) st.dh st.h lp.hs 0&&BG (Ap (TP k0 (ps++qs)) lp.hs 0)
  then some (lp.to a b) else none
def bD.kind:bD τ→Nat
 |.bX=>0
 |.dead=>1
 |.box _=>2
 |.Aa _=>3
 |.eD _ _=>4
 |.tail=>5
 |.yU _ _ _=>6
 |.Qa _=>7
 |.aX _ _=>8
def aAF:List (bD τ)→List Nat→Bool
 |[],[]=>true
 |e :: r,k :: l=>Nat.beq e.kind k&&aAF r l
 |_,_=>false
def TV.kind:TV τ→Nat
 |.ptr id _=>id+2
 |.nil .ptr=>1
 |_=>0
def tkB:List (TV τ)→List Nat→Bool
 |[],_=>true
 |x :: r,[]=>Nat.beq x.kind 0&&tkB r []
 |x :: r,k :: l=>Nat.beq x.kind k&&tkB r l
def aA6 (t:List (TV τ))(h:List (bD τ)):List (Lp τ)→Option (Lp τ)
 |[]=>none
 |lp :: r=>bif aAF h lp.hk&&tkB t lp.tk then some lp else aA6 t h r
theorem aA1 {a b:Option Nat}(h:aA0 a b=true):a=b:=by
 unfold aA0 at h
 split at h
 ·rw[Nat.eq_of_beq_eq_true h]
 ·rfl
 ·cases h
theorem cc {θ:Nat→Option Nat}{ps:Zs}(h:I4 θ ps=true):GW θ ps:=fun p hp=>aA1 (List.all_eq_true.1 h p hp)
theorem zm {C:eY τ}(hC:C.Ok){θ:Nat→Option Nat}{s:Sh}{x:TV τ}{a:s.T τ}{ps:Zs}(h:s.dec C x=some (a,ps))(tZ:GW θ ps):RW θ (Dh C x) (Dh C (s.enc C a)):=by
 have h1:=(NX hC s x a ps h tZ).1
 have enc':Dh C (s.enc C a)=(s.enc C a).den C:=by
  cases s with
  |ty t =>
   have:=hC.ok t a
   show Dh C (C.enc t a)=(C.enc t a).den C
   cases he:C.enc t a<;>first|rfl | (rw[he]at this;simp[TV.ok]at this)
  |_=>rfl
 rw[enc']
 cases x with
 |yK d w b z =>
  cases s with
  |ty t =>
   have:=hC.cD t _ a (YV h)
   simp[TV.ok]at this
  |aZ=>exact fun g v hv=>.aZ v
  |own e j=>exact nomatch h
  |nn e=>exact nomatch h
  |ptr j=>exact nomatch h
  |fn f=>exact nomatch h
  |nil k=>exact nomatch h
  |agg l=>exact nomatch h
  |jE l=>exact nomatch h
  |q8 e j=>exact nomatch h
  |mS e j=>exact nomatch h
  |nG e j=>exact nomatch h
  |kQ=>rw[Y0]at h;simp[TV.ok]at h
  |Ar j=>exact nomatch h
  |bo b=>exact nomatch h
  |ls s l=>exact nomatch h
 |_=>exact h1
theorem AR {C:eY τ}(hC:C.Ok)(s:Sh)(a:s.T τ):∀ d w b x,s.enc C a≠.yK d w b x:=fun d w b x e=>by
 cases s with
 |ty t =>
  have:=hC.ok t a
  have e':C.enc t a=.yK d w b x:=e
  rw[e']at this;simp[TV.ok]at this
 |own e j=>exact nomatch e
 |nn e=>exact nomatch e
 |ptr j=>exact nomatch e
 |fn f=>exact nomatch e
 |nil k=>exact nomatch e
 |agg l=>exact nomatch e
 |jE l=>exact nomatch e
 |q8 e j=>exact nomatch e
 |mS e j=>exact nomatch e
 |nG e j=>exact nomatch e
 |kQ=>exact nomatch e
 |Ar j=>exact nomatch e
 |bo b=>exact nomatch e
 |ls s l=>exact nomatch e
 |aZ=>exact nomatch e
theorem YU {C:eY τ}(hC:C.Ok){θ:Nat→Option Nat}{dt:List Nat}:∀ (t base:List (TV τ)) (l:List Sl) (a:Sl.Ts τ l) (ps:Zs) (k:Nat),t.length=base.length→VS C t l=some (a,ps)→GW θ ps→KR θ dt t l k=true →
  (∀ j,l[j]?=some .iO→k+j ∉ dt→sG t j=sG base j)→Hr θ (t.map (Dh C)) ((Ye C base l a).map (Dh C))
 |[],[],l,a,ps,k,_,h,tZ,hk,hb=>by simp only[Ye,List.map_nil];exact .nil
 |x :: r,y :: r',[],a,ps,k,hl,h,tZ,hk,hb=>by
  have ih:=YU hC r r' [] a ps (k+1) (by simpa using hl) (by cases r<;>exact h) tZ hk (fun j hj=>by simp at hj)
  simp only[Ye,List.map_cons]
  exact Hr.append (a:=[_]) (a':=[_]) (.one fun g v _=>.aZ v) ih
 |x :: r,y :: r',s :: l,a,ps,k,hl,h,tZ,hk,hb=>by
  simp only[VS]at h
  split at h
  ·rename_i a1 ps1 b1 qs1 h1 h2
   have e1:=(Prod.mk.inj (Option.some.inj h)).1
   have e2:=(Prod.mk.inj (Option.some.inj h)).2
   subst e2
   simp only[KR,Bool.and_eq_true]at hk
   have ih:=YU hC r r' l b1 qs1 (k+1) (by simpa using hl) h2 tZ.right hk.2 (fun j hl hj=>hb (j+1) (by simpa using hl) (by rw[show k+(j+1)=k+1+j by omega];exact hj))
   rw[← e1]
   simp only[Ye,List.map_cons]
   refine Hr.append (a:=[_]) (a':=[_]) (.one ?_) ih
   cases s with
   |iO =>
    have XI:=hk.1
    simp only[Bool.and_eq_true,Bool.not_eq_true']at XI
    have ag:k ∉ dt:=fun hm=>by rw[Yn.2 hm]at XI;exact absurd XI.1 (by simp)
    have hxy:x=y:=hb 0 rfl ag
    subst hxy
    have:=(FN hC x XI.2).1
    show RW θ (Dh C x) (Dh C x)
    cases x<;>first|exact this | (exact absurd XI.2 (by simp[TV.KP]))
   |aZ=>exact fun g v _=>.aZ v
   |sh sh=>exact zm hC h1 tZ.left
  ·cases h
 |[],_ :: _,_,_,_,_,hl,_,_,_,_=>by simp at hl
 |_ :: _,[],_,_,_,_,hl,_,_,_,_=>by simp at hl
theorem Z3 {C:eY τ}(hC:C.Ok){θ:Nat→Option Nat}{t:Nat}(l:List (τ t)):Hr θ (l.flatMap (C.cel t)) (l.flatMap (C.cel t)) :=
 Hr.bj (.refl _) (rA.MI fun y hy=>by
  obtain⟨z,_,hz⟩:=List.mem_flatMap.1 hy
  obtain⟨k,hk⟩:=List.getElem?_of_mem hz
  exact (hC.dB _ z).get hk)
theorem X9 {C:eY τ}(hC:C.Ok){θ:Nat→Option Nat}{dh:List Nat}{ps0:Zs}{h base:List (bD τ)}:∀ (l:List bZ) (i:Nat) (b:bZ.Ts τ l) (ps:Zs),(∀ j,l[j]?=some .iO→i+j ∉ dh→dA h (i+j)=dA base (i+j))→aCj C h ps0 l i=some (b,ps)→GW θ ps→G5 θ dh h l i=true →
  ∀ j,j < l.length→Mi θ (fun k=>(dA h k).den C) (i+j) ((dA (DD C base l i b) j).den C)
 |[],i,b,ps,hb,hd,tZ,hk,j,hj=>by simp at hj
 |e :: l,i,b,ps,hb,hd,tZ,hk,j,hj=>by
  simp only[aCj]at hd
  split at hd
  ·rename_i a1 ps1 h1
   split at hd
   ·rename_i b1 qs1 h2
    have e1:=(Prod.mk.inj (Option.some.inj hd)).1
    have e2:=(Prod.mk.inj (Option.some.inj hd)).2
    subst e2
    simp only[G5,Bool.and_eq_true]at hk
    have ih:=X9 (base:=base) hC l (i+1) b1 qs1 (fun j hl hj=>by have:=hb (j+1) (by simpa using hl);rw[show i+(j+1)=i+1+j by omega]at this;exact this hj) h2 tZ.right hk.2
    rw[← e1]
    cases j with
    |succ j =>
     have:=ih j (by simpa using hj)
     rw[show i+(j+1)=i+1+j by omega]
     exact this
    |zero =>
     rw[Nat.add_zero]
     show Mi θ _ i ((im C (dA base i) e a1).den C)
     cases e with
     |iO =>
      have XI:=hk.1
      simp only[Bool.and_eq_true,Bool.not_eq_true']at XI
      have ag:i ∉ dh:=fun hm=>by rw[Yn.2 hm]at XI;exact absurd XI.1 (by simp)
      have gY:θ i=some i:=by
       have:ps1=[(i,some i)]:=((Prod.mk.inj (Option.some.inj h1)).2).symm
       exact tZ.left (i,some i) (by rw[this];simp)
      show Mi θ _ i ((dA base i).den C)
      have ov:=hb 0 rfl (by rw[Nat.add_zero];exact ag)
      rw[Nat.add_zero]at ov
      rw[← ov]
      have KO:=XI.2
      cases hx:dA h i with
      |box y=>rw[hx]at KO;exact⟨i,y.cells C,gY,by simp only[hx];rfl,(FN hC y KO).2⟩
      |Aa y=>rw[hx]at KO;exact⟨i,y.cells C,gY,by simp only[hx];rfl,(FN hC y KO).2⟩
      |eD t l=>exact .inr ⟨i,_,gY,by simp only[hx];rfl,Z3 hC l⟩
      |tail=>exact .inr ⟨i,gY,by simp only[hx];rfl⟩
      |dead=>trivial
      |bX=>rw[hx]at KO;cases KO
      |yU f k ts=>rw[hx]at KO;exact⟨i,_,gY,by simp only[hx];rfl,(Qo hC ts KO).1⟩
      |Qa e=>exact⟨i,gY,by simp only[hx];rfl⟩
      |aX t ms=>exact⟨i,_,gY,by simp only[hx];rfl,SV hC t ms⟩
     |box s =>
      have fin:∀ n,(match dA h n with
        |.box y=>(match s.dec C y with|some (a,ps)=>some (a,(i,some n) :: ps) | none=>none)
        |_=>none)=some (a1,ps1)→Mi θ (fun k=>(dA h k).den C) i ((im C (dA base i) (.box s) a1).den C):=fun n h1=>by
       split at h1
       ·rename_i y hy
        split at h1
        ·rename_i a2 ps2 h3
         have f1:=(Prod.mk.inj (Option.some.inj h1)).1
         have f2:=(Prod.mk.inj (Option.some.inj h1)).2
         subst f2
         have gY:θ i=some n:=tZ.left (i,some n) (by simp)
         rw[← f1]
         exact⟨n,y.cells C,gY,by simp only[hy];rfl,(NX hC s y a2 ps2 h3 (fun p hp=>tZ.left p (List.mem_cons_of_mem _ hp))).2⟩
        ·cases h1
       ·cases h1
      simp only[sx]at h1
      split at h1
      ·cases h1
      ·exact fin _ h1
      ·exact fin _ h1
     |eD e =>
      have fin:∀ {n:Nat} {l:List (τ e)},aCA e (dA h n)=some l→θ i=some n→Mi θ (fun k=>(dA h k).den C) i ((bD.eD e l:bD τ).den C):=fun {n l} hg hn=>by
       unfold aCA at hg
       split at hg
       ·rename_i t l0 ht
        obtain⟨h2,rfl⟩:=iT hg
        subst h2
        exact .inr ⟨n,_,hn,by simp only[ht];rfl,Z3 hC l0⟩
       ·cases hg
      simp only[sx]at h1
      split at h1
      ·have f1:=(Prod.mk.inj (Option.some.inj h1)).1
       have f2:=(Prod.mk.inj (Option.some.inj h1)).2
       subst f2
       have gY:θ i=none:=tZ.left (i,none) (by simp)
       rw[← f1]
       exact .inl ⟨gY,rfl⟩
      ·rename_i n _
       split at h1
       ·rename_i l hl
        have f1:=(Prod.mk.inj (Option.some.inj h1)).1
        have f2:=(Prod.mk.inj (Option.some.inj h1)).2
        subst f2
        rw[← f1]
        exact fin hl (tZ.left (i,some n) (by simp))
       ·cases h1
      ·split at h1
       ·rename_i l hl
        have f1:=(Prod.mk.inj (Option.some.inj h1)).1
        have f2:=(Prod.mk.inj (Option.some.inj h1)).2
        subst f2
        rw[← f1]
        exact fin hl (tZ.left (i,some i) (by simp))
       ·cases h1
     |tail =>
      have XI:=hk.1
      simp only[]at XI
      show θ i=none∨∃ n,θ i=some n∧(dA h n).den C=.tail
      split at XI
      ·rename_i hn;exact .inl hn
      ·rename_i n hn
       split at XI
       ·rename_i ht;exact .inr ⟨n,hn,by rw[ht];rfl⟩
       ·cases XI
     |dead=>trivial
     |yU f k sl =>
      simp only[sx]at h1
      split at h1
      ·rename_i f' k' ts hy
       cases hb:(Nat.beq f f'&&Nat.beq k k') with
       |false=>rw[hb]at h1;cases h1
       |true =>
        rw[hb]at h1
        simp only[cond_true]at h1
        simp only[Bool.and_eq_true]at hb
        have q1:=Nat.eq_of_beq_eq_true hb.1
        have q2:=Nat.eq_of_beq_eq_true hb.2
        subst q1;subst q2
        split at h1
        ·rename_i a2 ps2 h3
         have f1:=(Prod.mk.inj (Option.some.inj h1)).1
         have f2:=(Prod.mk.inj (Option.some.inj h1)).2
         subst f2
         have gY:θ i=some i:=tZ.left (i,some i) (by simp)
         rw[← f1]
         exact⟨i,_,gY,by simp only[hy];rfl,(Lk hC sl ts a2 ps2 h3 (fun p hp=>tZ.left p (List.mem_cons_of_mem _ hp))).1⟩
        ·cases h1
      ·cases h1
     |Qa =>
      simp only[sx]at h1
      split at h1
      ·rename_i e hy
       have f1:=(Prod.mk.inj (Option.some.inj h1)).1
       have f2:=(Prod.mk.inj (Option.some.inj h1)).2
       subst f2
       have gY:θ i=some i:=tZ.left (i,some i) (by simp)
       subst f1
       exact⟨i,gY,by simp only[hy];rfl⟩
      ·cases h1
     |aX t =>
      simp only[sx]at h1
      split at h1
      ·rename_i t' ms hy
       split at h1
       ·rename_i l hl
        have f1:=(Prod.mk.inj (Option.some.inj h1)).1
        have f2:=(Prod.mk.inj (Option.some.inj h1)).2
        subst f2
        have gY:θ i=some i:=tZ.left (i,some i) (by simp)
        obtain⟨h3,rfl⟩:=Zy hl
        subst h3
        rw[← f1]
        exact⟨i,_,gY,by simp only[hy];rfl,SV hC _ _⟩
       ·cases h1
      ·cases h1
   ·cases hd
  ·cases hd
theorem Pa (C:eY τ)(h:List (bD τ)):∀ (l:List bZ) (i:Nat) (b:bZ.Ts τ l),(DD C h l i b).length=l.length
 |[],i,b=>rfl
 |e :: l,i,b=>by simp only[DD,List.length_cons,Pa C h l (i+1) b.2]
theorem Pb (C:eY τ):∀ (t:List (TV τ)) (l:List Sl) (a:Sl.Ts τ l),(Ye C t l a).length=t.length
 |[],l,a=>by cases l<;>rfl
 |x :: r,[],a=>by simp only[Ye,List.length_cons,Pb C r [] a]
 |x :: r,s :: l,a=>by simp only[Ye,List.length_cons,Pb C r l a.2]
theorem aw {C:eY τ}{θ:Nat→Option Nat}{base:List (bD τ)}:∀ (l:List bZ) (i:Nat) (b:bZ.Ts τ l) (j n:Nat),j < l.length→((dA (DD C base l i b) j).den C).live→θ (i+j)=some n →
  ∃ p:Nat,(Ap θ l i)[p]?=some n∧(∀ j' n':Nat,j' < j→((dA (DD C base l i b) j').den C).live→θ (i+j')=some n'→∃ p':Nat,p' < p∧(Ap θ l i)[p']?=some n')
 |[],i,b,j,n,hj,_,_=>by simp at hj
 |e :: l,i,b,0,n,hj,hl,hn=>by
  refine⟨0,?_,fun j' n' h=>by omega⟩
  rw[Nat.add_zero]at hn
  have:=Pc (C:=C) (x:=dA base i) (a:=b.1) hl hn
  simp only[Ap,this];rfl
 |e :: l,i,b,j+1,n,hj,hl,hn=>by
  obtain⟨p,h1,h2⟩:=aw (C:=C) (θ:=θ) (base:=base) l (i+1) b.2 j n (by simpa using hj) hl (by rw[← hn];congr 1;omega)
  simp only[Ap]
  refine⟨(BB θ i e).length+p,by rw[List.getElem?_append_right (by omega),Nat.add_sub_cancel_left];exact h1,fun j' n' ub oI hn'=>?_⟩
  cases j' with
  |zero =>
   rw[Nat.add_zero]at hn'
   have:=Pc (C:=C) (x:=dA base i) (a:=b.1) oI hn'
   rw[this]
   exact⟨0,by simp;omega,rfl⟩
  |succ j' =>
   obtain⟨p',h3,h4⟩:=h2 j' n' (by omega) oI (by rw[← hn'];congr 1;omega)
   exact⟨(BB θ i e).length+p',by omega,by rw[List.getElem?_append_right (by omega),Nat.add_sub_cancel_left];exact h4⟩
theorem RS {j m:Nat}:∀ {ps:Zs},(ps.all fun p=>Nat.blt p.1 m)=true→m≤j→look ps j=none
 |[],_,_=>rfl
 |(k,o) :: r,h,hj=>by
  simp only[List.all_cons,Bool.and_eq_true]at h
  have hk:k < m:=by simpa[Nat.blt,Nat.ble_eq,Nat.lt_iff_add_one_le] using h.1
  simp only[look]
  have hkj:Nat.beq k j=false:=by
   cases hb:Nat.beq k j with
   |false=>rfl
   |true=>exact absurd (Nat.eq_of_beq_eq_true hb) (by omega)
  rw[hkj]
  exact RS h.2 hj
theorem Lp.Au {C:eY τ}(hC:C.Ok){k0:Nat}{lp:Lp τ}{st base:mE τ}{s:lp.S}(h:lp.dec C k0 st=some s)(hlen:st.t.length=base.t.length)(ht:∀ k,lp.ts[k]?=some .iO→k ∉ st.dt→sG st.t k=sG base.t k)(hh:∀ i,lp.hs[i]?=some .iO→i ∉ st.dh→dA st.h i=dA base.h i) :
  ∃ θ,XY k0 θ (fG C st) (fG C (lp.head C base s)):=by
 unfold Lp.dec at h
 split at h
 ·cases h
 rename_i a ps h1
 split at h
 ·cases h
 ·rename_i b qs h2
  generalize tZ:TP k0 (ps++qs)=θ at h
  cases hc:(Nat.ble k0 lp.hs.length&&I4 θ (ps++qs)&&(ps++qs).all (fun p=>Nat.blt p.1 lp.hs.length)&&KR θ st.dt st.t lp.ts 0&&G5 θ st.dh st.h lp.hs 0&&BG (Ap θ lp.hs 0)) with
  |false=>rw[hc]at h;cases h
  |true =>
   rw[hc]at h
   simp only[cond_true,Option.some.injEq]at h
   subst h
   simp only[Bool.and_eq_true]at hc
   obtain⟨⟨⟨⟨⟨c1,c2⟩,c3⟩,c4⟩,c5⟩,c6⟩:=hc
   have hk0:k0≤lp.hs.length:=Nat.le_of_ble_eq_true c1
   have Hm:=cc c2
   have hT:=YU hC st.t base.t lp.ts a ps 0 hlen h1 Hm.left c4 (fun j hl hj=>ht j hl (by simpa using hj))
   have hH:=X9 (base:=base.h) hC lp.hs 0 b qs (fun j hl hj=>by rw[Nat.zero_add]at hj ⊢;exact hh j hl hj) h2 Hm.right c5
   refine⟨θ,fun j hj=>?_,?_,⟨fun j=>?_,fun j j' i hl oI e e'=>?_⟩⟩
   ·rw[← tZ];unfold TP
    rw[show Nat.blt j k0=true by simp only[Nat.blt,Nat.ble_eq];exact hj];rfl
   ·simp only[fG,Lp.head,lp.eZ];exact hT
   ·have eg:bU (fG C st).h=fun k=>(dA st.h k).den C:=by funext k;simp only[fG,pS]
    rw[eg]
    simp only[fG,Lp.head,pS,lp.eX]
    rcases Nat.lt_or_ge j lp.hs.length with hj|hj
    ·have:=hH j hj
     rwa [Nat.zero_add]at this
    ·rw[Jk _ _ (by rw[Pa];exact hj)]
     show θ j=none
     rw[← tZ];unfold TP
     rw[show Nat.blt j k0=false by rw[Bool.eq_false_iff];intro hb;(have:j < k0:=by simpa[Nat.blt,Nat.ble_eq,Nat.lt_iff_add_one_le] using hb);omega,RS c3 hj];rfl
   ·simp only[fG,Lp.head,pS,lp.eX]at hl oI
    have nH:∀ k,((dA (DD C base.h lp.hs 0 b) k).den C).live→k < lp.hs.length:=fun k hk=>by
     rcases Nat.lt_or_ge k lp.hs.length with h' | h'
     ·exact h'
     ·rw[Jk _ _ (by rw[Pa];exact h')]at hk;exact hk.elim
    have key:∀ j j',j' < j→((dA (DD C base.h lp.hs 0 b) j).den C).live→((dA (DD C base.h lp.hs 0 b) j').den C).live→θ j=some i→θ j'=some i→False:=fun j j' U9 hl oI e e'=>by
     obtain⟨p,g1,g2⟩:=aw (C:=C) (θ:=θ) (base:=base.h) lp.hs 0 b j i (nH j hl) hl (by rw[Nat.zero_add];exact e)
     obtain⟨p',g3,g4⟩:=g2 j' i U9 oI (by rw[Nat.zero_add];exact e')
     have ag:=Pk c6
     obtain⟨q1,q2⟩:=List.getElem?_eq_some_iff.1 g1
     obtain⟨q3,q4⟩:=List.getElem?_eq_some_iff.1 g4
     have:=(List.getElem_inj ag (h₀:=q1) (h₁:=q3)).1 (q2.trans q4.symm)
     omega
    rcases Nat.lt_trichotomy j j' with U9|U9|U9
    ·exact (key j' j U9 oI hl e' e).elim
    ·exact U9
    ·exact (key j j' U9 hl oI e e').elim
theorem LS {C:eY τ}:∀ (t:List (TV τ)) (l:List Sl) (a:Sl.Ts τ l) (k:Nat),l[k]?=some .iO→sG (Ye C t l a) k=sG t k
 |[],l,a,k,h=>by cases l<;>rfl
 |x :: r,[],a,k,h=>by simp at h
 |x :: r,s :: l,a,0,h=>by simp at h;subst h;rfl
 |x :: r,s :: l,a,k+1,h=>LS r l a.2 k (by simpa using h)
theorem LR {C:eY τ}{h:List (bD τ)}:∀ (l:List bZ) (i:Nat) (b:bZ.Ts τ l) (k:Nat),l[k]?=some .iO→dA (DD C h l i b) k=dA h (i+k)
 |[],i,b,k,hk=>by simp at hk
 |e :: l,i,b,0,hk=>by simp at hk;subst hk;rfl
 |e :: l,i,b,k+1,hk=>by
  have:=LR (C:=C) (h:=h) l (i+1) b.2 k (by simpa using hk)
  rw[show i+(k+1)=i+1+k by omega]
  exact this
theorem FJ {C:eY τ}(hC:C.Ok){θ:Nat→Option Nat}{dt:List Nat}:∀ (t:List (TV τ)) (l:List Sl) (a:Sl.Ts τ l) (k:Nat),KR θ dt t l k=true→∀ j d w b x,sG (Ye C t l a) j≠.yK d w b x
 |[],l,a,k,hk,j,d,w,b,x=>by cases l<;>(simp only[Ye,sG];exact fun e=>nomatch e)
 |y :: r,[],a,k,hk,0,d,w,b,x=>fun e=>nomatch e
 |y :: r,[],a,k,hk,j+1,d,w,b,x=>FJ hC r [] a (k+1) hk j d w b x
 |y :: r,s :: l,a,k,hk,0,d,w,b,x=>fun e=>by
  simp only[KR,Bool.and_eq_true]at hk
  have e':slE C y s a.1=.yK d w b x:=e
  cases s with
  |iO =>
   have e'':y=.yK d w b x:=e'
   have XI:=hk.1
   simp only[Bool.and_eq_true]at XI
   rw[e'']at XI
   exact absurd XI.2 (by simp[TV.KP])
  |aZ=>exact nomatch e'
  |sh sh=>exact AR hC sh a.1 d w b x e'
 |y :: r,s :: l,a,k,hk,j+1,d,w,b,x=>by
  simp only[KR,Bool.and_eq_true]at hk
  exact FJ hC r l a.2 (k+1) hk.2 j d w b x
theorem Lp.AR {C:eY τ}(hC:C.Ok){k0:Nat}{lp:Lp τ}{st st0:mE τ}{s0:lp.S}(h:lp.dec C k0 st0=some s0)(ht:st0.t=st.t)(s:lp.S):∀ j d w b x,sG (lp.head C st s).t j≠.yK d w b x:=by
 unfold Lp.dec at h
 split at h
 ·cases h
 rename_i a ps h1
 split at h
 ·cases h
 ·rename_i b qs h2
  generalize tZ:TP k0 (ps++qs)=θ at h
  cases hc:(Nat.ble k0 lp.hs.length&&I4 θ (ps++qs)&&(ps++qs).all (fun p=>Nat.blt p.1 lp.hs.length)&&KR θ st0.dt st0.t lp.ts 0&&G5 θ st0.dh st0.h lp.hs 0&&BG (Ap θ lp.hs 0)) with
  |false=>rw[hc]at h;cases h
  |true =>
   simp only[Bool.and_eq_true]at hc
   obtain⟨⟨⟨⟨⟨c1,c2⟩,c3⟩,c4⟩,c5⟩,c6⟩:=hc
   rw[ht]at c4
   intro j d w b x
   exact FJ hC st.t lp.ts (lp.ot s) 0 c4 j d w b x
end
end Go.Ev
