/-
Members of the aX,lent to an operation for a while;boxes that come to the aX;members that are fixed.
-/
import Derived.Test.YtddpmkmgbdedlaaGreatqTvN
set_option linter.unusedVariables false
set_option linter.unusedSimpArgs false
namespace Go.Ev
open Go
theorem LN {sz:Nat}:∀ (elems:List (List AV)) (rest:List AV) (i k:Nat) (cs:List AV) (x:AV),(∀ cs∈elems,cs.length=sz)→elems[i]?=some cs→cs[k]?=some x→(elems.flatten++rest)[i * sz+k]?=some x
 |[],_,i,k,cs,x,_,h,_=>by simp at h
 |e :: r,rest,0,k,cs,x,hs,h,hx=>by
  simp only[List.getElem?_cons_zero,Option.some.injEq]at h
  subst h
  have hk:k < e.length:=(List.getElem?_eq_some_iff.1 hx).1
  rw[List.flatten_cons,List.append_assoc,Nat.zero_mul,Nat.zero_add,List.getElem?_append_left hk]
  exact hx
 |e :: r,rest,i+1,k,cs,x,hs,h,hx=>by
  have he:e.length=sz:=hs e (by simp)
  have:=LN r rest i k cs x (fun c hc=>hs c (List.mem_cons_of_mem _ hc)) (by simpa using h) hx
  rw[List.flatten_cons,List.append_assoc,List.getElem?_append_right (by rw[he,Nat.succ_mul];omega)]
  rw[← this]
  congr 1
  rw[he,Nat.succ_mul];omega
theorem fC.swap {g:Gh}{H H2:Nat→dD}{w:World}{g':Gh}{H':Nat→dD}{w':World}(hl:∀ k,(H2 k).live→(H k).live)(h:fC g H2 w g' H' w'):fC g H w g' H' w':=by
 have hm:∀ b o,Jx g H2 b o→Jx g H b o:=fun b o ⟨id,lo,n,h1,h2,h3⟩=>⟨id,lo,n,hl id h1,h2,h3⟩
 refine⟨h.le,h.rel,h.fr.mono fun b o _ hx=>hm b o hx,fun b o v e=>?_,fun id b lo n Oc e=>?_⟩
 ·rcases h.grow b o v e with h1|h1|h1
  ·exact .inl h1
  ·exact .inr (.inl h1)
  ·exact .inr (.inr (hm b o h1))
 ·rcases h.own id b lo n Oc e with h1|⟨a1,a2,a3,h1,h2⟩
  ·exact .inl h1
  ·exact .inr ⟨a1,a2,a3,hl a1 h1,h2⟩
theorem ir {α:Type}{cel:α→List AV}{sz:Nat}:∀ (l:List α) (i k:Nat) (a:α) (x:AV),(∀ a∈l,(cel a).length=sz)→l[i]?=some a→(cel a)[k]?=some x→(l.flatMap cel)[i * sz+k]?=some x:=fun l i k a x hs hi hk=>by
 have:=LN (sz:=sz) (l.map cel) [] i k (cel a) x (fun cs Tr=>by obtain⟨b,hb,rfl⟩:=List.mem_map.1 Tr;exact hs b hb) (by rw[List.getElem?_map,hi];rfl) hk
 rwa [List.append_nil,← List.flatMap_def]at this
theorem fC.oq {g:Gh}{H:Nat→dD}{w:World}(h:eR g H w){id:Nat}{cells:List AV}(gY:H id=.eD cells) :
  ∃ g',fC g H w g' (eQ H id .dead) w∧∀ b lo m,g.ρ id=some (b,lo,m)→∀ (k:Nat) (x:AV),cells[k]?=some x→∃ c,g'.I b k=some c∧aF g' x c:=by
 have he:=h.zD id
 rw[gY]at he
 rcases he with⟨he,h0⟩|he
 ·refine⟨g,fC.H8 h _ fun k=>?_,fun b lo m e=>by rw[he]at e;cases e⟩
  by_cases e:k=id
  ·subst e;rw[aP];exact .inr (.inl rfl)
  ·rw[aM _ _ e];exact .inl rfl
 ·have hw2:eR g (eQ H id (.box cells)) w:=by
   refine⟨h.AY,fun k=>?_,fun k hk=>?_,fun k k' x x' dF hl oI a b=>?_⟩
   ·by_cases e:k=id
    ·subst e;rw[aP];exact he
    ·rw[aM _ _ e];exact h.zD k
   ·by_cases e:k=id
    ·subst e;rw[aP]at hk;cases hk
    ·rw[aM _ _ e]at hk;exact h.fresh k hk
   ·have Oc:∀ j,(eQ H id (.box cells) j).live→(H j).live:=fun j hj=>by
     by_cases e:j=id
     ·subst e;rw[gY];trivial
     ·rw[aM _ _ e]at hj;exact hj
    exact h.inj k k' x x' dF (Oc k hl) (Oc k' oI) a b
  obtain⟨g',iP⟩:=fC.freeze hw2 (aP _ _ _)
  have hev1:=fC.swap (H:=H) (fun k hk=>by
   by_cases e:k=id
   ·subst e;rw[gY];trivial
   ·rw[aM _ _ e]at hk;exact hk) iP
  have aIW:fC g' (eQ (eQ H id (.box cells)) id (.Aa cells)) w g' (eQ H id .dead) w:=fC.H8 iP.rel _ fun k=>by
   by_cases e:k=id
   ·subst e;rw[aP];exact .inr (.inl rfl)
   ·rw[aM _ _ e,aM _ _ e,aM _ _ e];exact .inl rfl
  refine⟨g',hev1.trans aIW,fun b lo m e1=>?_⟩
  have Qn:=iP.rel.zD id
  rw[aP]at Qn
  obtain⟨b',n',i1,i2⟩:=Qn
  have i0:=iP.le.ρ _ _ e1
  rw[i1]at i0
  simp only[Option.some.injEq,Prod.mk.injEq]at i0
  obtain⟨rfl,rfl,rfl⟩:=i0
  exact i2
theorem fC.aCy {g:Gh}{H:Nat→dD}{w:World}(h:eR g H w){α:Type}{cel:α→List AV}{l:List α}{id sz:Nat}(gY:H id=.eD (l.flatMap cel))(hs:∀ a∈l,(cel a).length=sz) :
  ∃ g',fC g H w g' (eQ H id .dead) w∧∀ (off n c:Nat) (nn:Bool) (v:Value),off+n≤l.length→aF g (.nG id (off * sz) n c nn sz) v→aF g' (.xA sz (((l.drop off).take n).map cel)) v:=by
 obtain⟨g',iP,hI⟩:=fC.oq h gY
 refine⟨g',iP,fun off n c nn v ho hv=>?_⟩
 cases hv with
 |Jr h1=>simpa using aF.Jt
 |@nG _ _ _ _ _ b lo m cap _ e1 e2 e2' e3 =>
  have key:∀ (i:Nat) (cs:List AV) (k:Nat) (x:AV),(((l.drop off).take n).map cel)[i]?=some cs→cs[k]?=some x→∃ c,g'.I b (off * sz+i * sz+k)=some c∧aF g' x c:=fun i cs k x hi hk=>by
   simp only[List.getElem?_map,Option.map_eq_some_iff]at hi
   obtain⟨a,ha,rfl⟩:=hi
   have ou:l[off+i]?=some a:=by
    rw[List.getElem?_take]at ha
    split at ha
    ·rw[List.getElem?_drop]at ha;exact ha
    ·cases ha
   have:=hI b lo m e1 ((off+i) * sz+k) x (ir l (off+i) k a x hs ou hk)
   rwa [Nat.add_mul]at this
  refine .xA (.sl (o:=off * sz) (fun i k=>(g'.I b (off * sz+i * sz+k)).getD undef) ?_ (Nat.le_trans e2 e2') (fun i cs hi=>?_) (fun i cs k x hi hk=>?_) (fun i cs k x hi hk=>?_) trivial)
  ·simp;omega
  ·simp only[List.getElem?_map,Option.map_eq_some_iff]at hi
   obtain⟨a,ha,rfl⟩:=hi
   exact hs a (List.mem_of_mem_drop (List.mem_of_mem_take (List.mem_of_getElem? ha)))
  ·obtain⟨c,h1,h2⟩:=key i cs k x hi hk
   rw[h1];rfl
  ·obtain⟨c,h1,h2⟩:=key i cs k x hi hk
   show aF g' x ((g'.I b (off * sz+i * sz+k)).getD undef)
   rw[h1];exact h2
def gW {α:Type}:List (Nat×α)→Nat→Option α
 |[],_=>none
 |(k,e) :: r,i=>match gW r i with
  |some x=>some x
  |none=>bif Nat.beq k i then some e else none
def Ij {α:Type}(m:Nat):List (Nat×α)→List (Nat×α)
 |[]=>[]
 |p :: r=>bif Nat.beq p.1 m then Ij m r else p :: Ij m r
theorem rT:∀ (U:List (Nat×dD)) (H:Nat→dD) (k:Nat),app H U k=match gW U k with|some e=>e|none=>H k
 |[],H,k=>rfl
 |(i,e) :: r,H,k=>by
  rw[app,rT r (eQ H i e) k]
  simp only[gW]
  cases hl:gW r k with
  |some x=>rfl
  |none =>
   by_cases h:k=i
   ·subst h;simp[aP,Nat.beq_eq_true_eq]
   ·rw[aM _ _ h]
    have:Nat.beq i k=false:=by
     cases hb:Nat.beq i k with
     |false=>rfl
     |true=>exact absurd (Nat.eq_of_beq_eq_true hb).symm h
    rw[this];rfl
theorem yC {α:Type}:∀ (U V:List (Nat×α)) (k:Nat),gW (U++V) k=match gW V k with|some e=>some e|none=>gW U k
 |[],V,k=>by
  show gW V k=_
  cases gW V k<;>rfl
 |(i,e) :: r,V,k=>by
  simp only[List.cons_append,gW,yC r V k]
  cases gW V k<;>rfl
theorem Fx {α:Type}{m k:Nat}(h:k≠m):∀ (U:List (Nat×α)),gW (Ij m U) k=gW U k
 |[]=>rfl
 |(i,e) :: r=>by
  simp only[Ij]
  cases hb:Nat.beq i m with
  |true =>
   have:=Nat.eq_of_beq_eq_true hb
   subst this
   simp only[cond_true,gW,Fx h r]
   have:Nat.beq i k=false:=by
    cases hb:Nat.beq i k with
    |false=>rfl
    |true=>exact absurd (Nat.eq_of_beq_eq_true hb).symm h
   rw[this]
   cases gW r k<;>rfl
  |false=>simp only[cond_false,gW,Fx h r]
section
variable {τ:Nat→Type}
theorem nD (C:eY τ):∀ (U:List (Nat×bD τ)) (k:Nat),gW (pQ C U) k=(gW U k).map (bD.den C)
 |[],k=>rfl
 |(i,e) :: r,k=>by
  have:=nD C r k
  simp only[pQ]at this
  simp only[pQ,List.map_cons,gW,this]
  cases gW r k with
  |some x=>rfl
  |none=>cases Nat.beq i k<;>rfl
theorem wY:∀ (h:List (bD τ)) (k:Nat) (e:bD τ),dA (Qi h k e) k=e
 |[],0,e=>rfl
 |[],k+1,e=>wY [] k e
 |x :: r,0,e=>rfl
 |x :: r,k+1,e=>wY r k e
def CE {α:Type}(ms:List (Option α)):Nat→Option α
 |0=>none
 |j+1=>match ms[j]? with
  |some m=>m
  |none=>none
def As {α:Type}(ms:List (Option α)):Nat→Option α→List (Option α)
 |0,_=>ms
 |j+1,x=>ms.set j x
def EI {α:Type}(ms:List (Option α))(j:Nat):Bool:=(CE ms j).isSome
def Kx {α:Type}(ms:List (Option (List α)))(j:Nat):List α:=(CE ms j).getD []
theorem Qr {α:Type}{ms:List (Option α)}{j:Nat}{l:α}(h:CE ms j=some l):∃ i,j=i+1∧ms[i]?=some (some l):=by
 cases j with
 |zero=>cases h
 |succ i =>
  simp only[CE]at h
  cases hm:ms[i]? with
  |none=>rw[hm]at h;cases h
  |some m=>rw[hm]at h;simp only[]at h;subst h;exact⟨i,rfl,hm⟩
def TV.tu (j:Nat):TV τ→Prop
 |.Bw _ j' _ _ _ _=>j'=j
 |.qO _ j' _=>j'=j
 |_=>True
def OS (m:Nat):TV τ→TV τ
 |.Bw t _ o n c nn=>.nG t m o n c nn
 |.qO _ _ p=>.ptr m p
 |x=>x
def D4 (t j m:Nat):TV τ→TV τ
 |.nG t' id o n c nn=>bif Nat.beq id m then .Bw t' j o n c nn else .nG t' id o n c nn
 |.mS t' id n=>bif Nat.beq id m then .Bw t' j 0 n n false else .mS t' id n
 |.ptr id p=>bif Nat.beq id m then .qO t j p else .ptr id p
 |x=>x
def YE (t j m:Nat):TV τ→TV τ
 |.jE l=>.jE (l.map (D4 t j m))
 |x=>D4 t j m x
theorem G6 {C:eY τ}{g:Gh}{m j:Nat}(hle:g.up (Is g m j)){x:TV τ}(hx:x.tu (j+1)){v:Value}(h:aF g (x.den C) v):aF (Is g m j) ((OS m x).den C) v:=by
 cases x with
 |Bw t j' o n c nn =>
  have e:j'=j+1:=hx
  subst e
  exact av h
 |qO t j' p =>
  have e:j'=j+1:=hx
  subst e
  simp only[OS,TV.den,Ko,yT]at h ⊢
  cases hb:Ej p with
  |true=>rw[hb]at h;exact aAN h
  |false=>rw[hb]at h;exact absurd h XO
 |_=>exact h.rD hle
theorem uh {C:eY τ}{g:Gh}{m:Nat}{x:TV τ}(hx:x.tu 0){v:Value}(h:aF g (x.den C) v):aF g ((OS m x).den C) v:=by
 cases x with
 |Bw t j' o n c nn =>
  have e:j'=0:=hx
  subst e
  simp only[OS,TV.den]at h ⊢
  cases h with
  |LV h1=>exact .Jr h1
 |qO t j' p =>
  have e:j'=0:=hx
  subst e
  simp only[OS,TV.den,Ko,yT]at h ⊢
  cases hb:Ej p with
  |true=>rw[hb]at h;simp only[cond_true]at h;cases h
  |false=>rw[hb]at h;exact absurd h XO
 |_=>exact h
theorem D5 {C:eY τ}{g:Gh}{m j t:Nat}(hle:g.up (Od g m j)){x:TV τ}{v:Value}(h:aF g (x.den C) v):aF (Od g m j) ((D4 t (j+1) m x).den C) v:=by
 cases x with
 |nG t' id o n c nn =>
  simp only[D4]
  cases hb:Nat.beq id m with
  |true =>
   have:=Nat.eq_of_beq_eq_true hb
   subst this
   exact aAE h
  |false=>exact h.rD hle
 |mS t' id n =>
  simp only[D4]
  cases hb:Nat.beq id m with
  |true =>
   have:=Nat.eq_of_beq_eq_true hb
   subst this
   have:=aAC (j:=j) h
   simpa[TV.den] using this
  |false=>exact h.rD hle
 |ptr id p =>
  simp only[D4]
  cases hb:Nat.beq id m with
  |true =>
   have:=Nat.eq_of_beq_eq_true hb
   subst this
   simp only[cond_true,TV.den,Ko,yT]at h ⊢
   cases hb:Ej p with
   |true=>rw[hb]at h;exact aAD h
   |false=>rw[hb]at h;exact absurd h XO
  |false=>exact h.rD hle
 |_=>exact h.rD hle
theorem D6 {C:eY τ}{g:Gh}{m j t:Nat}(hle:g.up (Od g m j)){x:TV τ}{v:Value}(h:aF g (x.den C) v):aF (Od g m j) ((YE t (j+1) m x).den C) v:=by
 cases x with
 |jE l =>
  simp only[YE,TV.den,uT]at h ⊢
  cases h with
  |jE e h' =>
   refine .jE (by simpa using e) fun k y c hy hc=>?_
   simp only[List.getElem?_map,Option.map_eq_some_iff]at hy
   obtain⟨_,⟨z,hz,rfl⟩,rfl⟩:=hy
   exact D5 hle (h' k (z.den C) c (by rw[List.getElem?_map,hz];rfl) hc)
 |_=>exact D5 (t:=t) (x:=_) hle h
def OU (h:List (bD τ))(p m t:Nat)(ms:List (Option (List (τ t))))(l:List (τ t)):List (bD τ):=Qi (Qi h p (.aX t ms)) m (.eD t l)
theorem O8 (h:List (bD τ))(p m t:Nat)(ms:List (Option (List (τ t))))(l:List (τ t)):dA (OU h p m t ms l) m=.eD t l:=wY _ _ _
theorem O9 (h:List (bD τ)){p m:Nat}(t:Nat)(ms:List (Option (List (τ t))))(l:List (τ t))(dF:p≠m):dA (OU h p m t ms l) p=.aX t ms:=by
 unfold OU
 rw[nT _ _ _ _ dF,wY]
theorem O7 (h:List (bD τ)){p m k:Nat}(t:Nat)(ms:List (Option (List (τ t))))(l:List (τ t))(h1:k≠p)(h2:k≠m):dA (OU h p m t ms l) k=dA h k:=by
 unfold OU
 rw[nT _ _ _ _ h2,nT _ _ _ _ h1]
theorem Tf (C:eY τ)(t:Nat)(ms:List (Option (List (τ t))))(j:Nat)(x:Option (List (τ t))):iJ C t (ms.set j x)=(iJ C t ms).set j (x.map fun l=>l.flatMap (C.cel t)):=by simp[iJ,List.map_set]
theorem MU {C:eY τ}{t:Nat}{ms:List (Option (List (τ t)))}{j:Nat}{l:List (τ t)}(h:ms[j]?=some (some l)):(iJ C t ms)[j]?=some (some (l.flatMap (C.cel t))):=by simp[iJ,h]
theorem CG (C:eY τ)(t:Nat)(ms:List (Option (List (τ t)))):(iJ C t ms).length=ms.length:=by simp[iJ]
theorem Uv {H:Nat→dD}(h:∃ k,∀ m,k≤m→H m=.bX)(i:Nat)(e:dD):∃ k,∀ m,k≤m→eQ H i e m=.bX:=by
 obtain⟨k,hk⟩:=h
 exact⟨k+i+1,fun m hm=>by rw[aM _ _ (by omega)];exact hk m (by omega)⟩
theorem tne {h:List (bD τ)}{p m t:Nat}{ms:List (Option (List (τ t)))}(hp:dA h p=.aX t ms)(hm:dA h m=.bX):p≠m:=fun e=>by subst e;rw[hp]at hm;cases hm
theorem D9 {E:Env}{C:eY τ}{o:Oper}{val:Operand→TV τ}{h:List (bD τ)}{t p m j:Nat}{ms:List (Option (List (τ t)))}(hp:dA h p=.aX t ms)(hm:dA h m=.bX){l:List (τ t)}(hj:ms[j]?=some (some l))
  (hv:∀ x∈eC o.op,(val x).tu (j+1)) {r:TV τ} {U:List (Nat×bD τ)} {F:List Nat} (hc:lZ E C true o (fun x=>OS m (val x)) (dA (OU h p m t (ms.set j none) l)) r U F) (hpU:gW U p=none)
  {l':List (τ t)} (oI:gW U m=some (.eD t l')∨(gW U m=none∧l'=l)) :
  lZ E C false o val (dA h) (YE t (j+1) m r) (Ij m U++[(p,.aX t (ms.set j (some l'))),(m,.dead)]) (p :: m :: F):=by
 intro H g a w hW wU hH RM next Q hn
 have dF:=tne hp hm
 have eu:H p=.aX (iJ C t ms):=by rw[hH p (by simp),hp];rfl
 have hHm:H m=.bX:=by rw[hH m (by simp),hm];rfl
 have hjA:=MU (C:=C) hj
 have F0:=iH.DT hW eu hjA hHm
 have hs:(iJ C t ms).set j none=iJ C t (ms.set j none):=(Tf C t ms j none).symm
 rw[hs]at F0
 have hle:=F0.le
 refine hc _ _ a w F0.rel (fun x hx=>G6 hle (hv x hx) (wU x hx)) (fun id gY=>?_) (Uv (Uv RM _ _) _ _) next Q fun v g' w' Yg iP QT=>?_
 ·by_cases h1:id=m
  ·subst h1;rw[aP,O8];rfl
  ·by_cases h2:id=p
   ·subst h2;rw[aM _ _ h1,aP,O9 _ _ _ _ dF];rfl
   ·rw[aM _ _ h1,aM _ _ h2,O7 _ _ _ _ h2 h1];exact hH id (by simp[gY])
 ·have hαg:g'.α=g.α:=QT rfl
  have h2p:app (eQ (eQ H p (.aX (iJ C t (ms.set j none)))) m (.eD (l.flatMap (C.cel t)))) (pQ C U) p=.aX (iJ C t (ms.set j none)):=by
   rw[rT,nD,hpU]
   show eQ (eQ H p _) m _ p=_
   rw[aM _ _ dF,aP]
  have h2m:app (eQ (eQ H p (.aX (iJ C t (ms.set j none)))) m (.eD (l.flatMap (C.cel t)))) (pQ C U) m=.eD (l'.flatMap (C.cel t)):=by
   rw[rT,nD]
   rcases oI with e|⟨e,rfl⟩
   ·rw[e];rfl
   ·rw[e]
    show eQ (eQ H p _) m _ m=_
    rw[aP]
  have hjlt:j < ms.length:=(List.getElem?_eq_some_iff.1 hj).1
  have iq:=iH.aEl (j:=j) iP.rel h2p h2m (.inl ⟨by rw[← hs,List.getElem?_set_self (by rw[CG];exact hjlt)],fun x hx=>by
   rw[hαg]at hx
   refine iP.le.ρ _ _ ?_
   have:(Is g m j).ρ m=eo (g.α j):=by simp[Is]
   rw[this,hx];rfl⟩)
  rw[if_pos (by rw[CG];simpa using hjlt)]at iq
  have RO:(iJ C t (ms.set j none)).set j (some (l'.flatMap (C.cel t)))=iJ C t (ms.set j (some l')):=by
   rw[Tf,Tf];simp
  rw[RO]at iq
  have AS:eQ (eQ (app (eQ (eQ H p (.aX (iJ C t (ms.set j none)))) m (.eD (l.flatMap (C.cel t)))) (pQ C U)) m .dead) p (.aX (iJ C t (ms.set j (some l'))))=app H (pQ C (Ij m U++[(p,.aX t (ms.set j (some l'))),(m,.dead)])):=by
   funext k
   rw[rT (pQ C (Ij m U++_)),nD,yC]
   by_cases h1:k=p
   ·subst h1
    rw[aP]
    simp only[gW,Nat.beq_refl,cond_true]
    have:Nat.beq m k=false:=by
     cases hb:Nat.beq m k with
     |false=>rfl
     |true=>exact absurd (Nat.eq_of_beq_eq_true hb).symm dF
    rw[this];rfl
   ·rw[aM _ _ h1]
    by_cases h2:k=m
    ·subst h2
     rw[aP]
     simp only[gW,Nat.beq_refl,cond_true];rfl
    ·rw[aM _ _ h2,rT,nD]
     have b1:Nat.beq p k=false:=by
      cases hb:Nat.beq p k with
      |false=>rfl
      |true=>exact absurd (Nat.eq_of_beq_eq_true hb).symm h1
     have b2:Nat.beq m k=false:=by
      cases hb:Nat.beq m k with
      |false=>rfl
      |true=>exact absurd (Nat.eq_of_beq_eq_true hb).symm h2
     simp only[gW,b1,b2,cond_false,Fx h2]
     rw[aM _ _ h2,aM _ _ h1]
  rw[AS]at iq
  exact hn v _ w' (D6 iq.le Yg) ((F0.trans iP).trans iq) (fun e=>by cases e)
theorem sj {E:Env}{C:eY τ}{o:Oper}{val:Operand→TV τ}{h:List (bD τ)}{t p m j:Nat}{ms:List (Option (List (τ t)))}(hp:dA h p=.aX t ms)(hm:dA h m=.bX){l:List (τ t)}(hj:ms[j]?=some (some l))
  (hv:∀ x∈eC o.op,(val x).tu (j+1)) {fl:Bool} {r:TV τ} {U:List (Nat×bD τ)} {F:List Nat} (hc:lZ E C fl o (fun x=>OS m (val x)) (dA (OU h p m t (ms.set j none) l)) r U F) (hpU:gW U p=none)
  (oI:gW U m=some .dead):lZ E C false o val (dA h) r (Ij m U++[(p,.aX t (ms.set j none)),(m,.dead)]) (p :: m :: F):=by
 intro H g a w hW wU hH RM next Q hn
 have dF:=tne hp hm
 have eu:H p=.aX (iJ C t ms):=by rw[hH p (by simp),hp];rfl
 have hHm:H m=.bX:=by rw[hH m (by simp),hm];rfl
 have F0:=iH.DT hW eu (MU (C:=C) hj) hHm
 have hs:(iJ C t ms).set j none=iJ C t (ms.set j none):=(Tf C t ms j none).symm
 rw[hs]at F0
 have hle:=F0.le
 refine hc _ _ a w F0.rel (fun x hx=>G6 hle (hv x hx) (wU x hx)) (fun id gY=>?_) (Uv (Uv RM _ _) _ _) next Q fun v g' w' Yg iP QT=>?_
 ·by_cases h1:id=m
  ·subst h1;rw[aP,O8];rfl
  ·by_cases h2:id=p
   ·subst h2;rw[aM _ _ h1,aP,O9 _ _ _ _ dF];rfl
   ·rw[aM _ _ h1,aM _ _ h2,O7 _ _ _ _ h2 h1];exact hH id (by simp[gY])
 ·have AS:app (eQ (eQ H p (.aX (iJ C t (ms.set j none)))) m (.eD (l.flatMap (C.cel t)))) (pQ C U)=app H (pQ C (Ij m U++[(p,.aX t (ms.set j none)),(m,.dead)])):=by
   funext k
   rw[rT (pQ C (Ij m U++_)),rT,nD,nD,yC]
   by_cases h1:k=p
   ·subst h1
    have:Nat.beq m k=false:=by
     cases hb:Nat.beq m k with
     |false=>rfl
     |true=>exact absurd (Nat.eq_of_beq_eq_true hb).symm dF
    simp only[gW,Nat.beq_refl,cond_true,this,cond_false,hpU]
    show eQ (eQ H k _) m _ k=_
    rw[aM _ _ dF,aP];rfl
   ·by_cases h2:k=m
    ·subst h2
     simp only[gW,Nat.beq_refl,cond_true,oI];rfl
    ·have b1:Nat.beq p k=false:=by
      cases hb:Nat.beq p k with
      |false=>rfl
      |true=>exact absurd (Nat.eq_of_beq_eq_true hb).symm h1
     have b2:Nat.beq m k=false:=by
      cases hb:Nat.beq m k with
      |false=>rfl
      |true=>exact absurd (Nat.eq_of_beq_eq_true hb).symm h2
     simp only[gW,b1,b2,cond_false,Fx h2]
     rw[aM _ _ h2,aM _ _ h1]
  rw[AS]at iP
  exact hn v _ w' Yg (F0.trans iP) (fun e=>by cases e)
theorem gl {E:Env}{C:eY τ}{o:Oper}{val:Operand→TV τ}{h:List (bD τ)}{t p m:Nat}{ms:List (Option (List (τ t)))}(hp:dA h p=.aX t ms)(hm:dA h m=.bX)
  (hv:∀ x∈eC o.op,(val x).tu 0) {fl:Bool} {r:TV τ} {U:List (Nat×bD τ)} {F:List Nat} (hc:lZ E C fl o (fun x=>OS m (val x)) (dA (OU h p m t ms [])) r U F) (hpU:gW U p=none)
  (oI:gW U m=some .dead):lZ E C false o val (dA h) r (Ij m U++[(p,.aX t ms),(m,.dead)]) (p :: m :: F):=by
 intro H g a w hW wU hH RM next Q hn
 have dF:=tne hp hm
 have eu:H p=.aX (iJ C t ms):=by rw[hH p (by simp),hp];rfl
 have hHm:H m=.bX:=by rw[hH m (by simp),hm];rfl
 have ev0:fC g H w g (eQ H m (.eD [])) w:=fC.H8 hW.base _ fun k=>by
  by_cases e:k=m
  ·subst e;rw[aP];exact .inr (.inr ⟨rfl,hW.base.fresh k hHm⟩)
  ·rw[aM _ _ e];exact .inl rfl
 have F0:=ev0.xa hW.aX fun q kS=>Jg (fun ms e=>by rw[hHm]at e;cases e) (fun ms e=>by cases e) q kS
 refine hc _ _ a w F0.rel (fun x hx=>uh (hv x hx) (wU x hx)) (fun id gY=>?_) (Uv RM _ _) next Q fun v g' w' Yg iP QT=>?_
 ·by_cases h1:id=m
  ·subst h1;rw[aP,O8];rfl
  ·rw[aM _ _ h1]
   by_cases h2:id=p
   ·subst h2;rw[O9 _ _ _ _ dF];exact eu
   ·rw[O7 _ _ _ _ h2 h1];exact hH id (by simp[gY])
 ·have AS:app (eQ H m (.eD [])) (pQ C U)=app H (pQ C (Ij m U++[(p,.aX t ms),(m,.dead)])):=by
   funext k
   rw[rT (pQ C (Ij m U++_)),rT,nD,nD,yC]
   by_cases h1:k=p
   ·subst h1
    have:Nat.beq m k=false:=by
     cases hb:Nat.beq m k with
     |false=>rfl
     |true=>exact absurd (Nat.eq_of_beq_eq_true hb).symm dF
    simp only[gW,Nat.beq_refl,cond_true,this,cond_false,hpU]
    show eQ H m _ k=_
    rw[aM _ _ dF];exact eu
   ·by_cases h2:k=m
    ·subst h2
     simp only[gW,Nat.beq_refl,cond_true,oI];rfl
    ·have b1:Nat.beq p k=false:=by
      cases hb:Nat.beq p k with
      |false=>rfl
      |true=>exact absurd (Nat.eq_of_beq_eq_true hb).symm h1
     have b2:Nat.beq m k=false:=by
      cases hb:Nat.beq m k with
      |false=>rfl
      |true=>exact absurd (Nat.eq_of_beq_eq_true hb).symm h2
     simp only[gW,b1,b2,cond_false,Fx h2]
     rw[aM _ _ h2]
  rw[AS]at iP
  exact hn v _ w' Yg (F0.trans iP) (fun e=>by cases e)
theorem gk {E:Env}{C:eY τ}{o:Oper}{val:Operand→TV τ}{h:List (bD τ)}{t p n:Nat}{ms:List (Option (List (τ t)))}{fl:Bool}{r:TV τ}{U:List (Nat×bD τ)}{F:List Nat}(hc:lZ E C fl o val (dA h) r U F)
  (hp:gW U p=some (.aX t ms)∨(gW U p=none∧dA h p=.aX t ms)) {l:List (τ t)} (hl:gW U n=some (.eD t l)) :
  lZ E C false o val (dA h) (YE t (ms.length+1) n r) (Ij n U++[(p,.aX t (ms++[some l])),(n,.dead)]) (p :: F):=by
 intro H g a w hW wU hH RM next Q hn
 have dF:p≠n:=fun e=>by
  subst e
  rcases hp with e|⟨e,_⟩
  ·rw[hl]at e;cases e
  ·rw[hl]at e;cases e
 refine hc H g a w hW wU (fun id gY=>hH id (by simp[gY])) RM next Q fun v g' w' Yg iP QT=>?_
 have h2p:app H (pQ C U) p=.aX (iJ C t ms):=by
  rw[rT,nD]
  rcases hp with e|⟨e,e'⟩
  ·rw[e];rfl
  ·rw[e]
   show H p=_
   rw[hH p (by simp),e'];rfl
 have h2n:app H (pQ C U) n=.eD (l.flatMap (C.cel t)):=by
  rw[rT,nD,hl];rfl
 have iq:=iH.aEl (j:=ms.length) iP.rel h2p h2n (.inr (CG C t ms).symm)
 rw[if_neg (by rw[CG];omega)]at iq
 have RO:iJ C t ms++[some (l.flatMap (C.cel t))]=iJ C t (ms++[some l]):=by simp[iJ]
 rw[RO]at iq
 have AS:eQ (eQ (app H (pQ C U)) n .dead) p (.aX (iJ C t (ms++[some l])))=app H (pQ C (Ij n U++[(p,.aX t (ms++[some l])),(n,.dead)])):=by
  funext k
  rw[rT (pQ C (Ij n U++_)),nD,yC]
  by_cases h1:k=p
  ·subst h1
   rw[aP]
   have:Nat.beq n k=false:=by
    cases hb:Nat.beq n k with
    |false=>rfl
    |true=>exact absurd (Nat.eq_of_beq_eq_true hb).symm dF
   simp only[gW,Nat.beq_refl,cond_true,this,cond_false];rfl
  ·rw[aM _ _ h1]
   by_cases h2:k=n
   ·subst h2
    rw[aP]
    simp only[gW,Nat.beq_refl,cond_true];rfl
   ·rw[aM _ _ h2,rT,nD]
    have b1:Nat.beq p k=false:=by
     cases hb:Nat.beq p k with
     |false=>rfl
     |true=>exact absurd (Nat.eq_of_beq_eq_true hb).symm h1
    have b2:Nat.beq n k=false:=by
     cases hb:Nat.beq n k with
     |false=>rfl
     |true=>exact absurd (Nat.eq_of_beq_eq_true hb).symm h2
    simp only[gW,b1,b2,cond_false,Fx h2]
 rw[AS]at iq
 exact hn v _ w' (D6 iq.le Yg) (iP.trans iq) (fun e=>by cases e)
def aCz {t:Nat}(l:List (τ t)):TV τ→TV τ
 |.Bw t' _ o n _ _=>bif Nat.beq t' t then .sl t ((l.drop o).take n) .any else .aZ
 |x=>x
def TV.fOk (t j len:Nat):TV τ→Prop
 |.Bw _ j' o n _ _=>j'=j∧o+n≤len
 |.qO _ _ _=>False
 |_=>True
theorem yz {E:Env}{C:eY τ}(hC:C.Ok){o:Oper}{val:Operand→TV τ}{h:List (bD τ)}{t p m j:Nat}{ms:List (Option (List (τ t)))}(hp:dA h p=.aX t ms)(hm:dA h m=.bX){l:List (τ t)}(hj:ms[j]?=some (some l))
  (hv:∀ x∈eC o.op,(val x).fOk t (j+1) l.length) {fl:Bool} {r:TV τ} {U:List (Nat×bD τ)} {F:List Nat} (hc:lZ E C fl o (fun x=>aCz l (val x)) (dA (Qi (Qi h p (.aX t (ms.set j none))) m .dead)) r U F) :
  lZ E C false o val (dA h) r ((p,.aX t (ms.set j none)) :: (m,.dead) :: U) (p :: m :: F):=by
 intro H g a w hW wU hH RM next Q hn
 have dF:=tne hp hm
 have eu:H p=.aX (iJ C t ms):=by rw[hH p (by simp),hp];rfl
 have hHm:H m=.bX:=by rw[hH m (by simp),hm];rfl
 have F0:=iH.DT hW eu (MU (C:=C) hj) hHm
 have hs:(iJ C t ms).set j none=iJ C t (ms.set j none):=(Tf C t ms j none).symm
 rw[hs]at F0
 have hle:=F0.le
 generalize hH1:eQ (eQ H p (.aX (iJ C t (ms.set j none)))) m (.eD (l.flatMap (C.cel t)))=H1 at F0
 have hm1:H1 m=.eD (l.flatMap (C.cel t)):=by rw[← hH1,aP]
 obtain⟨g2,ev2,OO⟩:∃ g2,fC (Is g m j) H1 w g2 (eQ H1 m .dead) w∧∀ (off n c:Nat) (nn:Bool) (v:Value),off+n≤l.length→aF (Is g m j) (.nG m (off * C.sz t) n c nn (C.sz t)) v→aF g2 (.xA (C.sz t) (((l.drop off).take n).map (C.cel t))) v:=by
  exact fC.aCy F0.rel.base hm1 (fun x hx=>hC.len t x)
 have iq:iH (Is g m j) H1 w g2 (eQ H1 m .dead) w:=ev2.xa F0.rel.aX fun q kS=>Jg (fun ms e=>by rw[hm1]at e;cases e) (fun ms e=>by cases e) q kS
 refine hc _ g2 a w iq.rel (fun x hx=>?_) (fun id gY=>?_) ?_ next Q fun v g' w' Yg iP QT=>?_
 ·have h1:=hv x hx
  have h2:=wU x hx
  have hup:g.up g2:=F0.le.trans iq.le
  show aF g2 ((aCz l (val x)).den C) _
  generalize val x=y at h1 h2 ⊢
  cases y with
  |Bw t' j' off n c nn =>
   obtain⟨rfl,h3⟩:=h1
   simp only[aCz]
   cases hb:Nat.beq t' t with
   |false=>exact .aZ _
   |true =>
    have:=Nat.eq_of_beq_eq_true hb
    subst this
    exact OO off n c nn _ h3 (av h2)
  |qO t' j' pp=>exact h1.elim
  |_=>exact h2.rD hup
 ·by_cases h1:id=m
  ·subst h1;rw[aP,wY];rfl
  ·rw[aM _ _ h1,nT _ _ _ _ h1,← hH1,aM _ _ h1]
   by_cases h2:id=p
   ·subst h2;rw[aP,wY];rfl
   ·rw[aM _ _ h2,nT _ _ _ _ h2];exact hH id (by simp[gY])
 ·rw[← hH1];exact Uv (Uv (Uv RM _ _) _ _) _ _
 ·refine hn v g' w' Yg ?_ (fun e=>by cases e)
  have AS:app (eQ H1 m .dead) (pQ C U)=app H (pQ C ((p,.aX t (ms.set j none)) :: (m,.dead) :: U)):=by
   show _=app (eQ (eQ H p _) m _) (pQ C U)
   congr 1
   funext k
   rw[← hH1]
   by_cases h1:k=m
   ·subst h1;rw[aP,aP];rfl
   ·rw[aM _ _ h1,aM _ _ h1,aM _ _ h1];rfl
  rw[← AS]
  exact (F0.trans iq).trans iP
end
end Go.Ev
