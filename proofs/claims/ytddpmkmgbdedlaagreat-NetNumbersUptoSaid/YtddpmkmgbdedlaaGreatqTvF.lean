/-
Names told anew: what is known of a world,under other names of the boxes;and calls of functions that take and leave boxes.
-/
import Derived.Test.YtddpmkmgbdedlaaGreatqTvE
set_option linter.unusedVariables false
set_option linter.unusedSimpArgs false
namespace Go.Ev
open Go
def Gh.Au (g:Gh)(θ:Nat→Option Nat):Gh:=⟨g.I,fun j=>(θ j).bind g.ρ,g.α⟩
def RW (θ:Nat→Option Nat)(x y:AV):Prop:=∀ g v,aF g x v→aF (g.Au θ) y v
def Hr (θ:Nat→Option Nat)(l l':List AV):Prop:=l.length=l'.length∧∀ (k:Nat) (x y:AV),l[k]?=some x→l'[k]?=some y→RW θ x y
theorem Hr.get {θ:Nat→Option Nat}{l l':List AV}(h:Hr θ l l'){k:Nat}{y:AV}(hy:l'[k]?=some y):∃ x,l[k]?=some x∧RW θ x y:=by
 have hk:k < l.length:=by
  rw[h.1]
  rcases Nat.lt_or_ge k l'.length with h' | h'
  ·exact h'
  ·rw[List.getElem?_eq_none h']at hy;cases hy
 exact⟨_,List.getElem?_eq_getElem hk,h.2 k _ y (List.getElem?_eq_getElem hk) hy⟩
def aE2 (θ:Nat→Option Nat)(ms kS:List (Option (List AV))):Prop:=ms.length=kS.length∧∀ (k:Nat) (c':List AV),kS[k]?=some (some c')→∃ c,ms[k]?=some (some c)∧Hr θ c c'
def Mi (θ:Nat→Option Nat)(H:Nat→dD)(j:Nat):dD→Prop
 |.bX=>θ j=none
 |.dead=>True
 |.box l'=>∃ i l,θ j=some i∧H i=.box l∧Hr θ l l'
 |.Aa l'=>∃ i l,θ j=some i∧H i=.Aa l∧Hr θ l l'
 |.eD l'=>(θ j=none∧l'=[])∨∃ i l,θ j=some i∧H i=.eD l∧Hr θ l l'
 |.tail=>θ j=none∨∃ i,θ j=some i∧H i=.tail
 |.yU ps asg body l'=>∃ i l,θ j=some i∧H i=.yU ps asg body l∧Hr θ l l'
 |.Qa c=>∃ i,θ j=some i∧H i=.Qa c
 |.aX kS=>∃ i ms,θ j=some i∧H i=.aX ms∧aE2 θ ms kS
structure DO (θ:Nat→Option Nat) (H H':Nat→dD):Prop where
 zD:∀ j,Mi θ H j (H' j)
 inj:∀ j j' i,(H' j).live→(H' j').live→θ j=some i→θ j'=some i→j=j'
theorem Mi.live {θ:Nat→Option Nat}{H:Nat→dD}{j:Nat}{e:dD}(h:Mi θ H j e)(hl:e.live){i:Nat}(hi:θ j=some i):(H i).live:=by
 cases e with
 |box l'=>obtain⟨i',l,e1,e2,_⟩:=h;rw[hi]at e1;cases e1;rw[e2];trivial
 |tail =>
  rcases h with h|⟨i',e1,e2⟩
  ·rw[hi]at h;cases h
  ·rw[hi]at e1;cases e1;rw[e2];trivial
 |eD l' =>
  rcases h with⟨h,_⟩|⟨i',l,e1,e2,_⟩
  ·rw[hi]at h;cases h
  ·rw[hi]at e1;cases e1;rw[e2];trivial
 |yU ps asg body l'=>obtain⟨i',l,e1,e2,_⟩:=h;rw[hi]at e1;cases e1;rw[e2];trivial
 |Qa c=>obtain⟨i',e1,e2⟩:=h;rw[hi]at e1;cases e1;rw[e2];trivial
 |aX ms=>obtain⟨i',_,e1,e2,_⟩:=h;rw[hi]at e1;cases e1;rw[e2];trivial
 |_=>exact hl.elim
theorem Zg {g:Gh}{θ:Nat→Option Nat}{j:Nat}{x:Nat×Nat×Nat}(h:(g.Au θ).ρ j=some x):∃ i,θ j=some i∧g.ρ i=some x:=by
 simp only[Gh.Au]at h
 cases tZ:θ j with
 |none=>rw[tZ]at h;cases h
 |some i=>rw[tZ]at h;exact⟨i,rfl,h⟩
theorem qU {g:Gh}{θ:Nat→Option Nat}{j i:Nat}(h:θ j=some i):(g.Au θ).ρ j=g.ρ i:=by simp[Gh.Au,h]
theorem DO.relB {g:Gh}{θ:Nat→Option Nat}{H H':Nat→dD}{w:World}(h:DO θ H H')(hW:eR g H w):eR (g.Au θ) H' w:=by
 refine⟨hW.AY,fun j=>?_,fun j hj=>?_,fun j j' x x' dF hl oI e e'=>?_⟩
 ·have he:=h.zD j
  cases hH:H' j with
  |bX=>trivial
  |dead=>trivial
  |box l' =>
   rw[hH]at he
   obtain⟨i,l,e1,e2,e3⟩:=he
   have:=hW.zD i
   rw[e2]at this
   obtain⟨b,n,cs,T,fr,k1,k2,k3,k4,k5,k6,k7⟩:=this
   refine⟨b,n,cs,T,fr,(qU e1).trans k1,k2,k3,k4,by rw[← e3.1];exact k5,fun k y hy=>?_,k7⟩
   obtain⟨x,hx,hw⟩:=e3.get hy
   obtain⟨c,hc,hv⟩:=k6 k x hx
   exact⟨c,hc,hw g c hv⟩
  |Aa l' =>
   rw[hH]at he
   obtain⟨i,l,e1,e2,e3⟩:=he
   have:=hW.zD i
   rw[e2]at this
   obtain⟨b,n,k1,k2⟩:=this
   refine⟨b,n,(qU e1).trans k1,fun k y hy=>?_⟩
   obtain⟨x,hx,hw⟩:=e3.get hy
   obtain⟨c,hc,hv⟩:=k2 k x hx
   exact⟨c,hc,hw g c hv⟩
  |eD l' =>
   rw[hH]at he
   rcases he with⟨h0,h1⟩|⟨i,l,e1,e2,e3⟩
   ·exact .inl ⟨by simp[Gh.Au,h0],h1⟩
   ·have:=hW.zD i
    rw[e2]at this
    rcases this with⟨k0,k1⟩|⟨b,n,cs,T,fr,k1,k2,k3,k4,k5,k6,k7⟩
    ·subst k1
     have:=e3.1
     simp at this
     exact .inl ⟨(qU e1).trans k0,List.length_eq_zero_iff.1 this.symm⟩
    ·refine .inr ⟨b,n,cs,T,fr,(qU e1).trans k1,k2,k3,k4,by rw[← e3.1];exact k5,fun k y hy=>?_,k7⟩
     obtain⟨x,hx,hw⟩:=e3.get hy
     obtain⟨c,hc,hv⟩:=k6 k x hx
     exact⟨c,hc,hw g c hv⟩
  |tail =>
   rw[hH]at he
   intro b lo n e
   obtain⟨i,hi,e'⟩:=Zg e
   rcases he with he|⟨i',e1,e2⟩
   ·rw[hi]at he;cases he
   ·rw[hi]at e1;cases e1
    have:=hW.zD i
    rw[e2]at this
    exact this b lo n e'
  |yU ps asg body l' =>
   rw[hH]at he
   obtain⟨i,l,e1,e2,e3⟩:=he
   have:=hW.zD i
   rw[e2]at this
   obtain⟨b,fn,tm,df,k1,k2,k3⟩:=this
   refine⟨b,fn,tm,df,(qU e1).trans k1,k2,e3.1.symm.trans k3.1,fun k y c hy hc=>?_⟩
   obtain⟨x,hx,hw⟩:=e3.get hy
   exact hw g c (k3.2 k x c hx hc)
  |Qa c =>
   rw[hH]at he
   obtain⟨i,e1,e2⟩:=he
   have:=hW.zD i
   rw[e2]at this
   obtain⟨b,r,k1,k2⟩:=this
   exact⟨b,r,(qU e1).trans k1,k2⟩
  |aX kS =>
   rw[hH]at he
   obtain⟨i,ms,e1,e2,_⟩:=he
   exact (qU e1).trans (hW.CH e2)
 ·have he:=h.zD j
  rw[hj]at he
  simp only[Mi]at he
  simp[Gh.Au,he]
 ·obtain⟨i,hi,e1⟩:=Zg e
  obtain⟨i',FK,e1'⟩:=Zg e'
  refine hW.inj i i' x x' (fun hii=>?_) ((h.zD j).live hl hi) ((h.zD j').live oI FK) e1 e1'
  subst hii
  exact dF (h.inj j j' i hl oI hi FK)
theorem DO.mem {θ:Nat→Option Nat}{H H':Nat→dD}(h:DO θ H H'){j:Nat}(hm:Mem H' j):Mem H j:=by
 obtain⟨p,kS,c,e1,e2⟩:=hm
 have:=h.zD p
 rw[e1]at this
 obtain⟨i,ms,k1,k2,_,k3⟩:=this
 obtain⟨c',k4,_⟩:=k3 j c e2
 exact⟨i,ms,c',k2,k4⟩
theorem DO.rel {g:Gh}{θ:Nat→Option Nat}{H H':Nat→dD}{w:World}(h:DO θ H H')(hW:kT g H w):kT (g.Au θ) H' w:=by
 have hB:=h.relB hW.base
 have hpl:∀ {p kS},H' p=.aX kS→∃ i ms,θ p=some i∧H i=.aX ms∧aE2 θ ms kS:=fun {p kS} e=>by
  have:=h.zD p
  rw[e]at this
  exact this
 refine⟨hB,fun p p' ms kS e1 e2=>?_,fun p ms j cells e1 e2=>?_,fun p ms j e1 e2=>?_,fun id x j b n hl e hm e'=>?_,fun j j' b b' n n' dF hm XJ e e'=>?_⟩
 ·obtain⟨i,m1,k1,k2,_⟩:=hpl e1
  obtain⟨i',m2,k1',k2',_⟩:=hpl e2
  have hii:=hW.aX.one i i' _ _ k2 k2'
  subst hii
  exact h.inj p p' i (by rw[e1];trivial) (by rw[e2];trivial) k1 k1'
 ·obtain⟨i,m1,k1,k2,k3,k4⟩:=hpl e1
  obtain⟨c,k5,k6⟩:=k4 j cells e2
  rcases hW.aX.mem i m1 j c k2 k5 with⟨h0,hc⟩|⟨b,n,cs,T,fr,q1,q2,q3,q4,q5,q6,q7⟩
  ·subst hc
   have:=k6.1
   simp at this
   exact .inl ⟨h0,List.length_eq_zero_iff.1 this.symm⟩
  ·refine .inr ⟨b,n,cs,T,fr,q1,q2,q3,q4,by rw[← k6.1];exact q5,fun k y hy=>?_,q7⟩
   obtain⟨x,hx,hw⟩:=k6.get hy
   obtain⟨c,hc,hv⟩:=q6 k x hx
   exact⟨c,hc,hw g c hv⟩
 ·obtain⟨i,m1,k1,k2,k3,k4⟩:=hpl e1
  exact hW.aX.new i m1 j k2 (by rw[k3];exact e2)
 ·obtain⟨i,hi,e1⟩:=Zg e
  exact hW.aX.sep i x j b n ((h.zD id).live hl hi) e1 (h.mem hm) e'
 ·exact hW.aX.ij j j' b b' n n' dF (h.mem hm) (h.mem XJ) e e'
structure XY (k0:Nat) (θ:Nat→Option Nat) (s s':St):Prop where
 k:∀ j,j < k0→θ j=some j
 t:Hr θ s.t s'.t
 h:DO θ (bU s.h) (bU s'.h)
theorem XY.sound {k0:Nat}{θ:Nat→Option Nat}{s s':St}(h:XY k0 θ s s'){g:Gh}{a:Act}{w:World}(sQ:pN g s a w){g0:Gh}{H0:Nat→dD}{w0:World}(hk:∀ id x,g0.ρ id=some x→id < k0)
  (iP:iH g0 H0 w0 g (bU s.h) w):pN (g.Au θ) s' a w∧iH g0 H0 w0 (g.Au θ) (bU s'.h) w:=by
 have wU:=h.h.rel sQ.rel
 refine⟨⟨h.t.1.symm.trans sQ.len,fun k y c hy hc=>?_,wU⟩,⟨fun hn=>⟨(iP.al hn).1,fun p ms e=>?_⟩,⟨iP.le.I,fun id x e=>?_,iP.le.α⟩,wU,iP.fr,iP.grow,fun b lo ho=>?_⟩⟩
 ·obtain⟨x,hx,hw⟩:=h.t.get hy
  exact hw g c (sQ.t k x c hx hc)
 ·have:=h.h.zD p
  rw[e]at this
  obtain⟨i,m1,k1,k2,_⟩:=this
  exact (iP.al hn).2 i m1 k2
 ·rw[qU (h.k id (hk id x e))]
  exact iP.le.ρ _ _ e
 ·rcases ho with⟨j,n,hl,e⟩|⟨h0,j,n,hm,e⟩
  ·obtain⟨i,hi,e'⟩:=Zg e
   exact iP.own b lo (.inl ⟨i,n,(h.h.zD j).live hl hi,e'⟩)
  ·exact iP.own b lo (.inr ⟨h0,j,n,h.h.mem hm,e⟩)
def Ny (σ:List Nat)(n j:Nat):Nat:=σ.getD j (n+(j - σ.length))
def Av (σ:List Nat)(n q k:Nat):Option Nat:=if n≤k∧k < n+q then some (σ.length+(k - n)) else σ.idxOf? k
def TQ (σ:List Nat)(j:Nat):Option Nat:=σ[j]?
def IA (g g':Gh):Prop:=g.I=g'.I∧∀ j p,g.α j=some p→g'.α j=some p
def Qv (s:Nat→Nat):dD→dD→Prop
 |.bX,e=>e=.bX
 |.dead,e=>e=.dead
 |.box l,e=>∃ l',e=.box l'∧l.length=l'.length∧∀ (k:Nat) (x y:AV),l[k]?=some x→l'[k]?=some y→∀ (g g':Gh) (v:Value),IA g g'→(∀ j p,g.ρ j=some p→g'.ρ (s j)=some p)→aF g x v→aF g' y v
 |.Aa l,e=>∃ l',e=.Aa l'∧l.length=l'.length∧∀ (k:Nat) (x y:AV),l[k]?=some x→l'[k]?=some y→∀ (g g':Gh) (v:Value),IA g g'→(∀ j p,g.ρ j=some p→g'.ρ (s j)=some p)→aF g x v→aF g' y v
 |.eD l,e=>∃ l',e=.eD l'∧l.length=l'.length∧∀ (k:Nat) (x y:AV),l[k]?=some x→l'[k]?=some y→∀ (g g':Gh) (v:Value),IA g g'→(∀ j p,g.ρ j=some p→g'.ρ (s j)=some p)→aF g x v→aF g' y v
 |.tail,e=>e=.tail
 |.yU ps asg body l,e=>∃ l',e=.yU ps asg body l'∧l.length=l'.length∧∀ (k:Nat) (x y:AV),l[k]?=some x→l'[k]?=some y→∀ (g g':Gh) (v:Value),IA g g'→(∀ j p,g.ρ j=some p→g'.ρ (s j)=some p)→aF g x v→aF g' y v
 |.Qa c,e=>e=.Qa c
 |.aX ms,e=>∃ kS,e=.aX kS∧ms.length=kS.length∧∀ (q:Nat) (l':List AV),kS[q]?=some (some l')→∃ l,ms[q]?=some (some l)∧l.length=l'.length∧∀ (k:Nat) (x y:AV),l[k]?=some x→l'[k]?=some y→∀ (g g':Gh) (v:Value),IA g g'→(∀ j p,g.ρ j=some p→g'.ρ (s j)=some p)→aF g x v→aF g' y v
theorem YM {X:Array Value→World→(Ending→World→Prop)→Prop}(aAu:∀ {c w R R'},X c w R→(∀ e w',R e w'→R' e w')→X c w R'){Hg:Gh→Prop}{args:List AV}{L L':List dD}{r:AV}
  (hs:∀ g w (cargs:Array Value),Hg g→kT g (bU L) w→cW g args cargs.toList→X cargs w fun e w'=>∃ v g',e=.returned v∧aF g' r v∧iH g (bU L) w g' (bU L') w') {g:Gh} {H H2:Nat→dD} {w:World} (hW:kT g H w) {σ:List Nat} {n q:Nat}
  (hL:L.length=σ.length) (hq:L'.length=σ.length+q) (ag:σ.Nodup) (nH:∀ k∈σ,k < n) (aa:∀ k,n≤k→k < n+q→H k=.bX) (O2:DO (TQ σ) H (bU L)) {cargs:Array Value}
  (ha:cW (g.Au (TQ σ)) args cargs.toList) (hH2:∀ k,match Av σ n q k with|some j=>Qv (Ny σ n) (bU L' j) (H2 k) | none=>H2 k=H k) {r2:AV}
  (hr2:∀ (g g':Gh) (v:Value),IA g g'→(∀ j p,g.ρ j=some p→g'.ρ (Ny σ n j)=some p)→aF g r v→aF g' r2 v) (hHg:Hg (g.Au (TQ σ))) :
  X cargs w fun e w'=>∃ v g',e=.returned v∧aF g' r2 v∧iH g H w g' H2 w'∧((∀ p ms,bU L p≠.aX ms)→g'.α=g.α):=by
 refine aAu (hs (g.Au (TQ σ)) w cargs hHg (O2.rel hW) ha) ?_
 rintro e w' ⟨v,g1,rfl,hv,iP⟩
 let g2:Gh:=⟨g1.I,fun k=>match Av σ n q k with|some j=>g1.ρ j|none=>g.ρ k,g1.α⟩
 have ZJ:∀ {k j},Av σ n q k=some j→(n≤k∧k < n+q∧j=σ.length+(k - n))∨(k < n∧σ[j]?=some k):=fun {k j} e=>by
  unfold Av at e
  split at e
  ·rename_i hc;cases e;exact .inl ⟨hc.1,hc.2,rfl⟩
  ·right
   rw[List.idxOf?_eq_some_iff]at e
   obtain⟨h1,h2,h3⟩:=e
   have QR:σ[j]=k:=by simpa using h2
   exact⟨nH k (QR▸List.getElem_mem h1),by rw[List.getElem?_eq_getElem h1,QR]⟩
 have aAp:∀ {j},j < σ.length+q→Av σ n q (Ny σ n j)=some j:=fun {j} hj=>by
  unfold Ny
  rcases Nat.lt_or_ge j σ.length with h|h
  ·have e1:σ.getD j (n+(j - σ.length))=σ[j]:=by simp[List.getD,h]
   rw[e1]
   have VY:=nH σ[j] (List.getElem_mem h)
   unfold Av
   rw[if_neg (by omega)]
   rw[List.idxOf?_eq_some_iff]
   refine⟨h,by simp,fun j' ub=>?_⟩
   have dF:σ[j']≠σ[j]:=fun e=>by
    have:=(List.getElem_inj ag (h₀:=by omega) (h₁:=h)).1 e
    omega
   simpa using dF
  ·have e1:σ.getD j (n+(j - σ.length))=n+(j - σ.length):=by simp[List.getD,h]
   rw[e1]
   unfold Av
   rw[if_pos (by omega)]
   congr 1;omega
 have pa:∀ {k k' j},Av σ n q k=some j→Av σ n q k'=some j→k=k':=fun {k k' j} e e'=>by
  rcases ZJ e with⟨h1,h2,h3⟩|⟨h1,h2⟩<;>rcases ZJ e' with⟨FG,QR,h3'⟩|⟨FG,QR⟩
  ·omega
  ·have:=(List.getElem?_eq_some_iff.1 QR).1;omega
  ·have:=(List.getElem?_eq_some_iff.1 h2).1;omega
  ·rw[h2]at QR;exact Option.some.inj QR
 have uf:∀ j p,g1.ρ j=some p→j < σ.length+q:=fun j p e=>by
  rcases Nat.lt_or_ge j (σ.length+q) with h|h
  ·exact h
  ·rw[iP.rel.base.fresh j (AT _ _ (by omega))]at e;cases e
 have hup:∀ j p,g1.ρ j=some p→g2.ρ (Ny σ n j)=some p:=fun j p e=>by
  show (match Av σ n q (Ny σ n j) with|some j=>g1.ρ j|none=>g.ρ (Ny σ n j))=some p
  rw[aAp (uf j p e)];exact e
 have N8:∀ {k j},Av σ n q k=some j→g2.ρ k=g1.ρ j:=fun {k j} e=>by
  show (match Av σ n q k with|some j=>g1.ρ j|none=>g.ρ k)=_
  rw[e]
 have aCC:∀ {k},Av σ n q k=none→g2.ρ k=g.ρ k:=fun {k} e=>by
  show (match Av σ n q k with|some j=>g1.ρ j|none=>g.ρ k)=_
  rw[e]
 have hIA:IA g1 g2:=⟨rfl,fun _ _ h=>h⟩
 have hpl:∀ {j kS},bU L j=.aX kS→∃ k ms,σ[j]?=some k∧H k=.aX ms:=fun {j kS} e=>by
  have:=O2.zD j
  rw[e]at this
  obtain⟨i,ms,e1,e2,_⟩:=this
  exact⟨i,ms,e1,e2⟩
 have ud:∀ {k j},Av σ n q k=none→σ[j]?=some k→False:=fun {k j} hk hj=>by
  have wk:=(List.getElem?_eq_some_iff.1 hj).1
  have:=aAp (j:=j) (by omega)
  have e1:Ny σ n j=k:=by simp[Ny,List.getD,hj]
  rw[e1,hk]at this;cases this
 have ak:(∀ p ms,bU L p≠.aX ms)→g1.α=g.α∧∀ p ms,bU L' p≠.aX ms:=fun h=>iP.al h
 have aI5:∀ j p,g.α j=some p→g1.α j=some p:=iP.le.α
 let Pass:Nat ⊕ Nat→Prop:=fun y=>match y with | .inl k=>∃ j:Nat,σ[j]?=some k | .inr _=>∃ p ms,bU L p=.aX ms
 let Cal:Nat ⊕ Nat→Nat ⊕ Nat→Prop:=fun x z=>match x,z with | .inl k,.inl j=>Av σ n q k=some j | .inr i,.inr j=>i=j|_,_=>False
 have DR:∀ {z b lo},Pl (g.Au (TQ σ)) (bU L) z b lo→∃ y,Pl g H y b lo∧Pass y:=fun {z b lo} hz=>by
  cases z with
  |inl j =>
   obtain⟨m,hl,e⟩:=hz
   obtain⟨k,hk,e'⟩:=Zg e
   exact⟨.inl k,⟨m,(O2.zD j).live hl hk,e'⟩,j,hk⟩
  |inr j =>
   obtain⟨h0,m,hm,e⟩:=hz
   obtain⟨p,ms,c,e1,e2⟩:=hm
   exact⟨.inr j,⟨h0,m,O2.mem ⟨p,ms,c,e1,e2⟩,e⟩,p,ms,e1⟩
 have hM:∀ b o,QY (g.Au (TQ σ)) (bU L) b o→QY g H b o:=fun b o ⟨lo,ho,IV⟩=>by
  obtain⟨z,hz⟩:=Nm.1 ho
  obtain⟨y,hy,_⟩:=DR hz
  exact⟨lo,Nm.2 ⟨y,hy⟩,IV⟩
 have hle:g.up g2:=⟨iP.le.I,fun k p e=>by
  cases hk:Av σ n q k with
  |none=>rw[aCC hk];exact e
  |some j =>
   rw[N8 hk]
   rcases ZJ hk with⟨h1,h2,_⟩|⟨h1,h2⟩
   ·rw[hW.base.fresh k (aa k h1 h2)]at e;cases e
   ·exact iP.le.ρ j p (by rw[qU (show TQ σ j=some k from h2)];exact e),aI5⟩
 have aF7:∀ {k j},Av σ n q k=some j→(H2 k).live→(bU L' j).live:=fun {k j} hk hl=>by
  have:=hH2 k
  rw[hk]at this
  simp only[]at this
  cases IG:bU L' j with
  |bX=>rw[IG]at this;simp only[Qv]at this;rw[this]at hl;exact hl.elim
  |dead=>rw[IG]at this;simp only[Qv]at this;rw[this]at hl;exact hl.elim
  |Aa l=>rw[IG]at this;obtain⟨l',e,_⟩:=this;rw[e]at hl;exact hl.elim
  |_=>trivial
 have Z5:∀ {k},Av σ n q k=none→H2 k=H k:=fun {k} hk=>by
  have:=hH2 k
  rw[hk]at this
  exact this
 have je:∀ {k j kS},Av σ n q k=some j→H2 k=.aX kS→∃ ms,bU L' j=.aX ms∧ms.length=kS.length∧∀ (i:Nat) (l':List AV),kS[i]?=some (some l')→∃ l,ms[i]?=some (some l)∧l.length=l'.length∧∀ (k:Nat) (x y:AV),l[k]?=some x→l'[k]?=some y→∀ (g g':Gh) (v:Value),IA g g'→(∀ j p,g.ρ j=some p→g'.ρ (Ny σ n j)=some p)→aF g x v→aF g' y v:=fun {k j kS} hk e=>by
  have:=hH2 k
  rw[hk]at this
  simp only[]at this
  rw[e]at this
  cases IG:bU L' j with
  |aX ms =>
   rw[IG]at this
   obtain⟨Ub,e1,e2,e3⟩:=this
   cases e1
   exact⟨ms,rfl,e2,e3⟩
  |bX=>rw[IG]at this;simp only[Qv]at this;cases this
  |dead=>rw[IG]at this;simp only[Qv]at this;cases this
  |tail=>rw[IG]at this;simp only[Qv]at this;cases this
  |Qa c=>rw[IG]at this;simp only[Qv]at this;cases this
  |box l=>rw[IG]at this;obtain⟨_,e,_⟩:=this;cases e
  |Aa l=>rw[IG]at this;obtain⟨_,e,_⟩:=this;cases e
  |eD l=>rw[IG]at this;obtain⟨_,e,_⟩:=this;cases e
  |yU _ _ _ l=>rw[IG]at this;obtain⟨_,e,_⟩:=this;cases e
 have hPn:∀ {k ms},Av σ n q k=none→H k=.aX ms→∀ p kS,bU L p≠.aX kS:=fun {k ms} hk e p kS e'=>by
  obtain⟨k0,m0,h1,h2⟩:=hpl e'
  have:=hW.aX.one k0 k _ _ h2 e
  subst this
  exact ud hk h1
 have ah:∀ {x b lo},Pl g2 H2 x b lo→(∃ z,Pl g1 (bU L') z b lo∧Cal x z)∨(Pl g H x b lo∧¬ Pass x):=fun {x b lo} hx=>by
  cases x with
  |inl k =>
   obtain⟨m,hl,e⟩:=hx
   cases hk:Av σ n q k with
   |some j=>exact .inl ⟨.inl j,⟨m,aF7 hk hl,by rw[← N8 hk];exact e⟩,hk⟩
   |none=>exact .inr ⟨⟨m,by rw[← Z5 hk];exact hl,by rw[← aCC hk];exact e⟩,fun ⟨j,hj⟩=>ud hk hj⟩
  |inr i =>
   obtain⟨h0,m,⟨k,kS,c,e1,e2⟩,e⟩:=hx
   cases hk:Av σ n q k with
   |some j =>
    obtain⟨ms,q1,q2,q3⟩:=je hk e1
    obtain⟨l,q4,_⟩:=q3 i c e2
    exact .inl ⟨.inr i,⟨h0,m,⟨j,ms,l,q1,q4⟩,e⟩,rfl⟩
   |none =>
    rw[Z5 hk]at e1
    have NQ:=hPn hk e1
    exact .inr ⟨⟨h0,m,⟨k,kS,c,e1,e2⟩,by rw[← (ak NQ).1];exact e⟩,fun ⟨p,Ub,h⟩=>NQ p Ub h⟩
 have hmix:∀ {z y b lo b' IW},Pl g1 (bU L') z b lo→Pl g H y b' IW→¬ Pass y→b≠b':=fun {z y b lo b' IW} hz hy hny=>by
  rcases iP.own b lo (Nm.2 ⟨z,hz⟩) with h|⟨QU,h0,_⟩
  ·have:=(aEz hW hy).1;omega
  ·obtain⟨z0,G3⟩:=Nm.1 h0
   obtain⟨y0,hy0,hp0⟩:=DR G3
   exact j4 hW (x:=y0) (y:=y) (fun e=>by subst e;exact hny hp0) hy0 hy
 have aIZ:∀ {x y b lo b' IW},x≠y→Pl g2 H2 x b lo→Pl g2 H2 y b' IW→b≠b':=fun {x y b lo b' IW} dF hx hy=>by
  rcases ah hx with⟨z,hz,cz⟩|⟨Lm,nx⟩<;>rcases ah hy with⟨z',hz',cz'⟩|⟨hy',ny⟩
  ·refine j4 iP.rel (fun e=>dF ?_) hz hz'
   subst e
   cases x with
   |inl k =>
    cases z with
    |inl j =>
     cases y with
     |inl k'=>exact congrArg _ (pa (show Av σ n q k=some j from cz) (show Av σ n q k'=some j from cz'))
     |inr _=>exact cz'.elim
    |inr _=>exact cz.elim
   |inr i =>
    cases z with
    |inl j=>exact cz.elim
    |inr j =>
     cases y with
     |inl k'=>exact cz'.elim
     |inr i'=>exact congrArg _ ((show i=j from cz).trans (show i'=j from cz').symm)
  ·exact hmix hz hy' ny
  ·exact (hmix hz' Lm nx).symm
  ·exact j4 hW dF Lm hy'
 have hsep:∀ {y b lo},Pl g H y b lo→¬ Pass y→∀ o,¬ QY (g.Au (TQ σ)) (bU L) b o:=fun {y b lo} hy hny o ⟨IW,ho,_⟩=>by
  obtain⟨z,hz⟩:=Nm.1 ho
  obtain⟨y',hy',hp'⟩:=DR hz
  exact j4 hW (x:=y') (y:=y) (fun e=>by subst e;exact hny hp') hy' hy rfl
 have aEh:∀ {y b lo},Pl g H y b lo→¬ Pass y→w'.heap[b]?=w.heap[b]?∧∀ o,lo≤o→g2.I b o=g.I b o:=fun {y b lo} hy hny=>by
  obtain⟨hb,h4⟩:=aEz hW hy
  have hM':=hsep hy hny
  refine⟨DE iP.fr hb hM',fun o ho=>?_⟩
  show g1.I b o=g.I b o
  rw[h4 o ho]
  cases hI:g1.I b o with
  |none=>rfl
  |some x =>
   rcases iP.grow b o x hI with h' | h' | h'
   ·have h'':g.I b o=some x:=h'
    rw[h4 o ho]at h'';cases h''
   ·omega
   ·exact absurd h' (hM' o)
 refine⟨v,g2,rfl,hr2 g1 g2 v hIA hup hv,⟨fun NQ=>⟨(ak fun p ms e=>?_).1,fun p ms e=>?_⟩,hle,kT.of iP.rel.base.AY (fun k=>?_) (fun k hk=>?_) (fun k k' ms kS e e'=>?_) (fun k kS j l' e1 e2=>?_) (fun k kS j e1 e2=>?_) aIZ,iP.fr.mono fun b o _ h=>hM b o h,fun b o x h=>?_,fun b lo ho=>?_⟩,fun NQ=>(ak NQ).1⟩
 ·obtain⟨k,m1,_,h2⟩:=hpl e;exact NQ k m1 h2
 ·cases hk:Av σ n q p with
  |none=>rw[Z5 hk]at e;exact NQ p ms e
  |some j =>
   obtain⟨m1,h1,_⟩:=je hk e
   exact (ak fun p' kS e'=>by obtain⟨k,m2,_,h2⟩:=hpl e';exact NQ k m2 h2).2 j m1 h1
 ·have h2:=hH2 k
  cases hk:Av σ n q k with
  |some j =>
   rw[hk]at h2
   simp only[]at h2
   have Fs:=iP.rel.base.zD j
   cases IG:bU L' j with
   |bX=>rw[IG]at h2;simp only[Qv]at h2;rw[h2];trivial
   |dead=>rw[IG]at h2;simp only[Qv]at h2;rw[h2];trivial
   |tail =>
    rw[IG]at h2 Fs;simp only[Qv]at h2;rw[h2]
    intro b lo m e
    rw[N8 hk]at e
    exact Fs b lo m e
   |box l =>
    rw[IG]at h2 Fs
    obtain⟨l',e,hlen,hx⟩:=h2
    rw[e]
    obtain⟨b,m,cs,T,fr,k1,k2,k3,k4,k5,k6,k7⟩:=Fs
    refine⟨b,m,cs,T,fr,(N8 hk).trans k1,k2,k3,k4,by rw[← hlen];exact k5,fun i y hy=>?_,k7⟩
    have hi:i < l.length:=by
     rw[hlen]
     rcases Nat.lt_or_ge i l'.length with h' | h'
     ·exact h'
     ·rw[List.getElem?_eq_none h']at hy;cases hy
    obtain⟨c,hc,Yg⟩:=k6 i _ (List.getElem?_eq_getElem hi)
    exact⟨c,hc,hx i _ y (List.getElem?_eq_getElem hi) hy g1 g2 c hIA hup Yg⟩
   |Aa l =>
    rw[IG]at h2 Fs
    obtain⟨l',e,hlen,hx⟩:=h2
    rw[e]
    obtain⟨b,m,k1,k2⟩:=Fs
    refine⟨b,m,(N8 hk).trans k1,fun i y hy=>?_⟩
    have hi:i < l.length:=by
     rw[hlen]
     rcases Nat.lt_or_ge i l'.length with h' | h'
     ·exact h'
     ·rw[List.getElem?_eq_none h']at hy;cases hy
    obtain⟨c,hc,Yg⟩:=k2 i _ (List.getElem?_eq_getElem hi)
    exact⟨c,hc,hx i _ y (List.getElem?_eq_getElem hi) hy g1 g2 c hIA hup Yg⟩
   |eD l =>
    rw[IG]at h2 Fs
    obtain⟨l',e,hlen,hx⟩:=h2
    rw[e]
    rcases Fs with⟨k0,k1⟩|⟨b,m,cs,T,fr,k1,k2,k3,k4,k5,k6,k7⟩
    ·subst k1
     simp at hlen
     exact .inl ⟨(N8 hk).trans k0,List.length_eq_zero_iff.1 hlen.symm⟩
    ·refine .inr ⟨b,m,cs,T,fr,(N8 hk).trans k1,k2,k3,k4,by rw[← hlen];exact k5,fun i y hy=>?_,k7⟩
     have hi:i < l.length:=by
      rw[hlen]
      rcases Nat.lt_or_ge i l'.length with h' | h'
      ·exact h'
      ·rw[List.getElem?_eq_none h']at hy;cases hy
     obtain⟨c,hc,Yg⟩:=k6 i _ (List.getElem?_eq_getElem hi)
     exact⟨c,hc,hx i _ y (List.getElem?_eq_getElem hi) hy g1 g2 c hIA hup Yg⟩
   |yU ps asg body l =>
    rw[IG]at h2 Fs
    obtain⟨l',e,hlen,hx⟩:=h2
    rw[e]
    obtain⟨b,fn,tm,df,k1,k2,k3⟩:=Fs
    refine⟨b,fn,tm,df,(N8 hk).trans k1,k2,hlen.symm.trans k3.1,fun i y c hy hc=>?_⟩
    have hi:i < l.length:=by
     rw[hlen]
     rcases Nat.lt_or_ge i l'.length with h' | h'
     ·exact h'
     ·rw[List.getElem?_eq_none h']at hy;cases hy
    exact hx i _ y (List.getElem?_eq_getElem hi) hy g1 g2 c hIA hup (k3.2 i _ c (List.getElem?_eq_getElem hi) hc)
   |Qa c =>
    rw[IG]at h2 Fs
    rw[h2]
    obtain⟨b,r,k1,k2⟩:=Fs
    exact⟨b,r,(N8 hk).trans k1,k2⟩
   |aX ms =>
    rw[IG]at h2
    obtain⟨kS,e,_⟩:=h2
    rw[e]
    exact (N8 hk).trans (iP.rel.base.CH IG)
  |none =>
   rw[hk]at h2
   simp only[]at h2
   rw[h2]
   exact (hW.base.zD k).aI7 hle (aCC hk) fun b lo m hl e=>aEh (y:=.inl k) ⟨m,hl,e⟩ fun ⟨j,hj⟩=>ud hk hj
 ·have h2:=hH2 k
  cases jR:Av σ n q k with
  |some j =>
   rw[jR]at h2
   simp only[]at h2
   rw[N8 jR]
   refine iP.rel.base.fresh j ?_
   cases IG:bU L' j with
   |bX=>rfl
   |dead=>rw[IG]at h2;simp only[Qv]at h2;rw[h2]at hk;cases hk
   |tail=>rw[IG]at h2;simp only[Qv]at h2;rw[h2]at hk;cases hk
   |box l=>rw[IG]at h2;obtain⟨l',e,_⟩:=h2;rw[e]at hk;cases hk
   |Aa l=>rw[IG]at h2;obtain⟨l',e,_⟩:=h2;rw[e]at hk;cases hk
   |eD l=>rw[IG]at h2;obtain⟨l',e,_⟩:=h2;rw[e]at hk;cases hk
   |yU _ _ _ l=>rw[IG]at h2;obtain⟨l',e,_⟩:=h2;rw[e]at hk;cases hk
   |Qa c=>rw[IG]at h2;simp only[Qv]at h2;rw[h2]at hk;cases hk
   |aX ms=>rw[IG]at h2;obtain⟨l',e,_⟩:=h2;rw[e]at hk;cases hk
  |none =>
   rw[jR]at h2
   simp only[]at h2
   rw[aCC jR];exact hW.base.fresh k (h2▸hk)
 ·cases hk:Av σ n q k with
  |none =>
   rw[Z5 hk]at e
   have NQ:=hPn hk e
   cases jR:Av σ n q k' with
   |none=>rw[Z5 jR]at e';exact hW.aX.one k k' _ _ e e'
   |some j' =>
    obtain⟨m1,h1,_⟩:=je jR e'
    exact absurd h1 ((ak NQ).2 j' m1)
  |some j =>
   obtain⟨m0,h0,_⟩:=je hk e
   cases jR:Av σ n q k' with
   |none =>
    rw[Z5 jR]at e'
    exact absurd h0 ((ak (hPn jR e')).2 j m0)
   |some j' =>
    obtain⟨m1,h1,_⟩:=je jR e'
    have:=iP.rel.aX.one j j' _ _ h0 h1
    subst this
    exact pa hk jR
 ·cases hk:Av σ n q k with
  |none =>
   rw[Z5 hk]at e1
   have NQ:=hPn hk e1
   have hα1:=(ak NQ).1
   rcases hW.aX.mem k kS j l' e1 e2 with⟨h0,hc⟩|⟨b,m,cs,T,fr,q1,q2,q3,q4,q5,q6,q7⟩
   ·exact .inl ⟨show g1.α j=none by rw[hα1];exact h0,hc⟩
   ·obtain⟨s1,s2⟩:=aEh (y:=.inr j) (lo:=0) ⟨rfl,m,⟨k,kS,l',e1,e2⟩,q1⟩ fun ⟨p,Ub,h⟩=>NQ p Ub h
    exact .inr ⟨b,m,cs,T,fr,show g1.α j=_ by rw[hα1];exact q1,s1.trans q2,q3,q4,q5,fun i x hx=>let ⟨c,hc,hv⟩:=q6 i x hx;⟨c,hc,hv.rD hle⟩,fun o=>(s2 o (Nat.zero_le _)).trans (q7 o)⟩
  |some i =>
   obtain⟨ms,h1,h2,h3⟩:=je hk e1
   obtain⟨l,h4,h5,h6⟩:=h3 j l' e2
   rcases iP.rel.aX.mem i ms j l h1 h4 with⟨h0,hc⟩|⟨b,m,cs,T,fr,q1,q2,q3,q4,q5,q6,q7⟩
   ·subst hc
    simp at h5
    exact .inl ⟨h0,List.length_eq_zero_iff.1 h5.symm⟩
   ·refine .inr ⟨b,m,cs,T,fr,q1,q2,q3,q4,by rw[← h5];exact q5,fun t y hy=>?_,q7⟩
    have hi:t < l.length:=by
     rw[h5]
     rcases Nat.lt_or_ge t l'.length with h' | h'
     ·exact h'
     ·rw[List.getElem?_eq_none h']at hy;cases hy
    obtain⟨c,hc,Yg⟩:=q6 t _ (List.getElem?_eq_getElem hi)
    exact⟨c,hc,h6 t _ y (List.getElem?_eq_getElem hi) hy g1 g2 c hIA hup Yg⟩
 ·cases hk:Av σ n q k with
  |none =>
   rw[Z5 hk]at e1
   show g1.α j=none
   rw[(ak (hPn hk e1)).1]
   exact hW.aX.new k kS j e1 e2
  |some i =>
   obtain⟨ms,h1,h2,_⟩:=je hk e1
   exact iP.rel.aX.new i ms j h1 (by rw[h2];exact e2)
 ·rcases iP.grow b o x h with h' | h' | h'
  ·exact .inl h'
  ·exact .inr (.inl h')
  ·exact .inr (.inr (hM b o h'))
 ·obtain⟨x,hx⟩:=Nm.1 ho
  rcases ah hx with⟨z,hz,_⟩|⟨Lm,_⟩
  ·rcases iP.own b lo (Nm.2 ⟨z,hz⟩) with h|⟨QU,h0,h3⟩
   ·exact .inl h
   ·obtain⟨z0,G3⟩:=Nm.1 h0
    obtain⟨y0,hy0,_⟩:=DR G3
    exact .inr ⟨QU,Nm.2 ⟨y0,hy0⟩,h3⟩
  ·exact .inr ⟨lo,Nm.2 ⟨x,Lm⟩,Nat.le_refl _⟩
end Go.Ev
