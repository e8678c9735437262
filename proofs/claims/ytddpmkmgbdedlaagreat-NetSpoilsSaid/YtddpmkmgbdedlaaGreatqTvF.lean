/-
Names told anew: what is known of a world,under other names of the boxes; and tD of functions that take and leave boxes.
-/
import Derived.Test.YtddpmkmgbdedlaaGreatqTvE
set_option linter.unusedVariables false
set_option linter.unusedSimpArgs false
namespace Go.Ev
open Go
def Gh.ren (g:Gh) (θ:Nat→Option Nat):Gh:=⟨g.I,fun j=>(θ j).bind g.ρ,g.α⟩
def RW (θ:Nat→Option Nat) (x y:AV):Prop:=∀ g v,VRel g x v→VRel (g.ren θ) y v
def RWs (θ:Nat→Option Nat) (l l':List AV):Prop:=l.length=l'.length∧∀ (k:Nat) (x y:AV),l[k]?=some x→l'[k]?=some y→RW θ x y
theorem RWs.get {θ:Nat→Option Nat} {l l':List AV} (h:RWs θ l l') {k:Nat} {y:AV} (hy:l'[k]?=some y):∃ x,l[k]?=some x∧RW θ x y:=by
 have hk:k < l.length:=by
  rw [h.1]
  rcases Nat.lt_or_ge k l'.length with h' | h'
  ·exact h'
  ·rw [List.getElem?_eq_none h'] at hy; cases hy
 exact ⟨_,List.getElem?_eq_getElem hk,h.2 k _ y (List.getElem?_eq_getElem hk) hy⟩
def PRen (θ:Nat→Option Nat) (ms ms':List (Option (List AV))):Prop:=ms.length=ms'.length∧∀ (k:Nat) (c':List AV),ms'[k]?=some (some c')→∃ c,ms[k]?=some (some c)∧RWs θ c c'
def EntRen (θ:Nat→Option Nat) (H:Nat→Ent) (j:Nat):Ent→Prop
 | .unborn=>θ j=none
 | .dead=>True
 | .box l'=>∃ i l,θ j=some i∧H i=.box l∧RWs θ l l'
 | .ibox l'=>∃ i l,θ j=some i∧H i=.ibox l∧RWs θ l l'
 | .gbx l'=>(θ j=none∧l'=[])∨∃ i l,θ j=some i∧H i=.gbx l∧RWs θ l l'
 | .tail=>θ j=none∨∃ i,θ j=some i∧H i=.tail
 | .rcd ps asg body l'=>∃ i l,θ j=some i∧H i=.rcd ps asg body l∧RWs θ l l'
 | .rdn c=>∃ i,θ j=some i∧H i=.rdn c
 | .pool ms'=>∃ i ms,θ j=some i∧H i=.pool ms∧PRen θ ms ms'
structure Rens (θ:Nat→Option Nat) (H H':Nat→Ent):Prop where
 ent:∀ j,EntRen θ H j (H' j)
 inj:∀ j j' i,(H' j).live→(H' j').live→θ j=some i→θ j'=some i→j=j'
theorem EntRen.live {θ:Nat→Option Nat} {H:Nat→Ent} {j:Nat} {e:Ent} (h:EntRen θ H j e) (hl:e.live) {i:Nat} (hi:θ j=some i):(H i).live:=by
 cases e with
 | box l'=>obtain ⟨i',l,e1,e2,_⟩:=h; rw [hi] at e1; cases e1; rw [e2]; trivial
 | tail =>
  rcases h with h | ⟨i',e1,e2⟩
  ·rw [hi] at h; cases h
  ·rw [hi] at e1; cases e1; rw [e2]; trivial
 | gbx l' =>
  rcases h with ⟨h,_⟩ | ⟨i',l,e1,e2,_⟩
  ·rw [hi] at h; cases h
  ·rw [hi] at e1; cases e1; rw [e2]; trivial
 | rcd ps asg body l'=>obtain ⟨i',l,e1,e2,_⟩:=h; rw [hi] at e1; cases e1; rw [e2]; trivial
 | rdn c=>obtain ⟨i',e1,e2⟩:=h; rw [hi] at e1; cases e1; rw [e2]; trivial
 | pool ms=>obtain ⟨i',_,e1,e2,_⟩:=h; rw [hi] at e1; cases e1; rw [e2]; trivial
 | _=>exact hl.elim
theorem wD {g:Gh} {θ:Nat→Option Nat} {j:Nat} {x:Nat×Nat×Nat} (h:(g.ren θ).ρ j=some x):∃ i,θ j=some i∧g.ρ i=some x:=by
 simp only [Gh.ren] at h
 cases hθ:θ j with
 | none=>rw [hθ] at h; cases h
 | some i=>rw [hθ] at h; exact ⟨i,rfl,h⟩
theorem dY {g:Gh} {θ:Nat→Option Nat} {j i:Nat} (h:θ j=some i):(g.ren θ).ρ j=g.ρ i:=by simp [Gh.ren,h]
theorem Rens.relB {g:Gh} {θ:Nat→Option Nat} {H H':Nat→Ent} {w:World} (h:Rens θ H H') (hW:WRel g H w):WRel (g.ren θ) H' w:=by
 refine ⟨hW.imm,fun j=>?_,fun j hj=>?_,fun j j' x x' hne hl hl' e e'=>?_⟩
 ·have he:=h.ent j
  cases hH:H' j with
  | unborn=>trivial
  | dead=>trivial
  | box l' =>
   rw [hH] at he
   obtain ⟨i,l,e1,e2,e3⟩:=he
   have:=hW.ent i
   rw [e2] at this
   obtain ⟨b,n,cs,T,fr,k1,k2,k3,k4,k5,k6,k7⟩:=this
   refine ⟨b,n,cs,T,fr,(dY e1).trans k1,k2,k3,k4,by rw [← e3.1]; exact k5,fun k y hy=>?_,k7⟩
   obtain ⟨x,hx,hw⟩:=e3.get hy
   obtain ⟨c,hc,hv⟩:=k6 k x hx
   exact ⟨c,hc,hw g c hv⟩
  | ibox l' =>
   rw [hH] at he
   obtain ⟨i,l,e1,e2,e3⟩:=he
   have:=hW.ent i
   rw [e2] at this
   obtain ⟨b,n,k1,k2⟩:=this
   refine ⟨b,n,(dY e1).trans k1,fun k y hy=>?_⟩
   obtain ⟨x,hx,hw⟩:=e3.get hy
   obtain ⟨c,hc,hv⟩:=k2 k x hx
   exact ⟨c,hc,hw g c hv⟩
  | gbx l' =>
   rw [hH] at he
   rcases he with ⟨h0,h1⟩ | ⟨i,l,e1,e2,e3⟩
   ·exact .inl ⟨by simp [Gh.ren,h0],h1⟩
   ·have:=hW.ent i
    rw [e2] at this
    rcases this with ⟨k0,k1⟩ | ⟨b,n,cs,T,fr,k1,k2,k3,k4,k5,k6,k7⟩
    ·subst k1
     have:=e3.1
     simp at this
     exact .inl ⟨(dY e1).trans k0,List.length_eq_zero_iff.1 this.symm⟩
    ·refine .inr ⟨b,n,cs,T,fr,(dY e1).trans k1,k2,k3,k4,by rw [← e3.1]; exact k5,fun k y hy=>?_,k7⟩
     obtain ⟨x,hx,hw⟩:=e3.get hy
     obtain ⟨c,hc,hv⟩:=k6 k x hx
     exact ⟨c,hc,hw g c hv⟩
  | tail =>
   rw [hH] at he
   intro b lo n e
   obtain ⟨i,hi,e'⟩:=wD e
   rcases he with he | ⟨i',e1,e2⟩
   ·rw [hi] at he; cases he
   ·rw [hi] at e1; cases e1
    have:=hW.ent i
    rw [e2] at this
    exact this b lo n e'
  | rcd ps asg body l' =>
   rw [hH] at he
   obtain ⟨i,l,e1,e2,e3⟩:=he
   have:=hW.ent i
   rw [e2] at this
   obtain ⟨b,fn,tm,df,k1,k2,k3⟩:=this
   refine ⟨b,fn,tm,df,(dY e1).trans k1,k2,e3.1.symm.trans k3.1,fun k y c hy hc=>?_⟩
   obtain ⟨x,hx,hw⟩:=e3.get hy
   exact hw g c (k3.2 k x c hx hc)
  | rdn c =>
   rw [hH] at he
   obtain ⟨i,e1,e2⟩:=he
   have:=hW.ent i
   rw [e2] at this
   obtain ⟨b,r,k1,k2⟩:=this
   exact ⟨b,r,(dY e1).trans k1,k2⟩
  | pool ms' =>
   rw [hH] at he
   obtain ⟨i,ms,e1,e2,_⟩:=he
   exact (dY e1).trans (hW.pool_ρ e2)
 ·have he:=h.ent j
  rw [hj] at he
  simp only [EntRen] at he
  simp [Gh.ren,he]
 ·obtain ⟨i,hi,e1⟩:=wD e
  obtain ⟨i',hi',e1'⟩:=wD e'
  refine hW.inj i i' x x' (fun hii=>?_) ((h.ent j).live hl hi) ((h.ent j').live hl' hi') e1 e1'
  subst hii
  exact hne (h.inj j j' i hl hl' hi hi')
theorem Rens.mem {θ:Nat→Option Nat} {H H':Nat→Ent} (h:Rens θ H H') {j:Nat} (hm:Mem H' j):Mem H j:=by
 obtain ⟨p,ms',c,e1,e2⟩:=hm
 have:=h.ent p
 rw [e1] at this
 obtain ⟨i,ms,k1,k2,_,k3⟩:=this
 obtain ⟨c',k4,_⟩:=k3 j c e2
 exact ⟨i,ms,c',k2,k4⟩
theorem Rens.rel {g:Gh} {θ:Nat→Option Nat} {H H':Nat→Ent} {w:World} (h:Rens θ H H') (hW:WRelP g H w):WRelP (g.ren θ) H' w:=by
 have hB:=h.relB hW.base
 have hpl:∀ {p ms'},H' p=.pool ms'→∃ i ms,θ p=some i∧H i=.pool ms∧PRen θ ms ms':=fun {p ms'} e=>by
  have:=h.ent p
  rw [e] at this
  exact this
 refine ⟨hB,fun p p' ms ms' e1 e2=>?_,fun p ms j cells e1 e2=>?_,fun p ms j e1 e2=>?_,fun id x j b n hl e hm e'=>?_,fun j j' b b' n n' hne hm hm' e e'=>?_⟩
 ·obtain ⟨i,m1,k1,k2,_⟩:=hpl e1
  obtain ⟨i',m2,k1',k2',_⟩:=hpl e2
  have hii:=hW.pool.one i i' _ _ k2 k2'
  subst hii
  exact h.inj p p' i (by rw [e1]; trivial) (by rw [e2]; trivial) k1 k1'
 ·obtain ⟨i,m1,k1,k2,k3,k4⟩:=hpl e1
  obtain ⟨c,k5,k6⟩:=k4 j cells e2
  rcases hW.pool.mem i m1 j c k2 k5 with ⟨h0,hc⟩ | ⟨b,n,cs,T,fr,q1,q2,q3,q4,q5,q6,q7⟩
  ·subst hc
   have:=k6.1
   simp at this
   exact .inl ⟨h0,List.length_eq_zero_iff.1 this.symm⟩
  ·refine .inr ⟨b,n,cs,T,fr,q1,q2,q3,q4,by rw [← k6.1]; exact q5,fun k y hy=>?_,q7⟩
   obtain ⟨x,hx,hw⟩:=k6.get hy
   obtain ⟨c,hc,hv⟩:=q6 k x hx
   exact ⟨c,hc,hw g c hv⟩
 ·obtain ⟨i,m1,k1,k2,k3,k4⟩:=hpl e1
  exact hW.pool.new i m1 j k2 (by rw [k3]; exact e2)
 ·obtain ⟨i,hi,e1⟩:=wD e
  exact hW.pool.sep i x j b n ((h.ent id).live hl hi) e1 (h.mem hm) e'
 ·exact hW.pool.dis j j' b b' n n' hne (h.mem hm) (h.mem hm') e e'
structure StRen (k0:Nat) (θ:Nat→Option Nat) (s s':St):Prop where
 k:∀ j,j < k0→θ j=some j
 t:RWs θ s.t s'.t
 h:Rens θ (aH s.h) (aH s'.h)
theorem StRen.sound {k0:Nat} {θ:Nat→Option Nat} {s s':St} (h:StRen k0 θ s s') {g:Gh} {a:Act} {w:World} (hst:StRel g s a w) {g0:Gh} {H0:Nat→Ent} {w0:World} (hk:∀ id x,g0.ρ id=some x→id < k0)
  (hev:EvoP g0 H0 w0 g (aH s.h) w):StRel (g.ren θ) s' a w∧EvoP g0 H0 w0 (g.ren θ) (aH s'.h) w:=by
 have hrel:=h.h.rel hst.rel
 refine ⟨⟨h.t.1.symm.trans hst.len,fun k y c hy hc=>?_,hrel⟩,⟨fun hn=>⟨(hev.al hn).1,fun p ms e=>?_⟩,⟨hev.le.I,fun id x e=>?_,hev.le.α⟩,hrel,hev.fr,hev.grow,fun b lo ho=>?_⟩⟩
 ·obtain ⟨x,hx,hw⟩:=h.t.get hy
  exact hw g c (hst.t k x c hx hc)
 ·have:=h.h.ent p
  rw [e] at this
  obtain ⟨i,m1,k1,k2,_⟩:=this
  exact (hev.al hn).2 i m1 k2
 ·rw [dY (h.k id (hk id x e))]
  exact hev.le.ρ _ _ e
 ·rcases ho with ⟨j,n,hl,e⟩ | ⟨h0,j,n,hm,e⟩
  ·obtain ⟨i,hi,e'⟩:=wD e
   exact hev.own b lo (.inl ⟨i,n,(h.h.ent j).live hl hi,e'⟩)
  ·exact hev.own b lo (.inr ⟨h0,j,n,h.h.mem hm,e⟩)
def σup (σ:List Nat) (n j:Nat):Nat:=σ.getD j (n+(j - σ.length))
def σdn (σ:List Nat) (n q k:Nat):Option Nat:=if n≤k∧k < n+q then some (σ.length+(k - n)) else σ.idxOf? k
def θσ (σ:List Nat) (j:Nat):Option Nat:=σ[j]?
def IA (g g':Gh):Prop:=g.I=g'.I∧∀ j p,g.α j=some p→g'.α j=some p
def iH (s:Nat→Nat):Ent→Ent→Prop
 | .unborn,e=>e=.unborn
 | .dead,e=>e=.dead
 | .box l,e=>∃ l',e=.box l'∧l.length=l'.length∧∀ (k:Nat) (x y:AV),l[k]?=some x→l'[k]?=some y→∀ (g g':Gh) (v:Value),IA g g'→(∀ j p,g.ρ j=some p→g'.ρ (s j)=some p)→VRel g x v→VRel g' y v
 | .ibox l,e=>∃ l',e=.ibox l'∧l.length=l'.length∧∀ (k:Nat) (x y:AV),l[k]?=some x→l'[k]?=some y→∀ (g g':Gh) (v:Value),IA g g'→(∀ j p,g.ρ j=some p→g'.ρ (s j)=some p)→VRel g x v→VRel g' y v
 | .gbx l,e=>∃ l',e=.gbx l'∧l.length=l'.length∧∀ (k:Nat) (x y:AV),l[k]?=some x→l'[k]?=some y→∀ (g g':Gh) (v:Value),IA g g'→(∀ j p,g.ρ j=some p→g'.ρ (s j)=some p)→VRel g x v→VRel g' y v
 | .tail,e=>e=.tail
 | .rcd ps asg body l,e=>∃ l',e=.rcd ps asg body l'∧l.length=l'.length∧∀ (k:Nat) (x y:AV),l[k]?=some x→l'[k]?=some y→∀ (g g':Gh) (v:Value),IA g g'→(∀ j p,g.ρ j=some p→g'.ρ (s j)=some p)→VRel g x v→VRel g' y v
 | .rdn c,e=>e=.rdn c
 | .pool ms,e=>∃ ms',e=.pool ms'∧ms.length=ms'.length∧∀ (q:Nat) (l':List AV),ms'[q]?=some (some l')→∃ l,ms[q]?=some (some l)∧l.length=l'.length∧∀ (k:Nat) (x y:AV),l[k]?=some x→l'[k]?=some y→∀ (g g':Gh) (v:Value),IA g g'→(∀ j p,g.ρ j=some p→g'.ρ (s j)=some p)→VRel g x v→VRel g' y v
theorem aWt {X:Array Value→World→(Ending→World→Prop)→Prop} (hmono:∀ {c w R R'},X c w R→(∀ e w',R e w'→R' e w')→X c w R') {Hg:Gh→Prop} {args:List AV} {L L':List Ent} {r:AV}
  (hs:∀ g w (cargs:Array Value),Hg g→WRelP g (aH L) w→LRel g args cargs.toList→X cargs w fun e w'=>∃ v g',e=.returned v∧VRel g' r v∧EvoP g (aH L) w g' (aH L') w') {g:Gh} {H H2:Nat→Ent} {w:World} (hW:WRelP g H w) {σ:List Nat} {n q:Nat}
  (hL:L.length=σ.length) (hq:L'.length=σ.length+q) (hnd:σ.Nodup) (hlt:∀ k∈σ,k < n) (hfr:∀ k,n≤k→k < n+q→H k=.unborn) (hren:Rens (θσ σ) H (aH L)) {cargs:Array Value}
  (ha:LRel (g.ren (θσ σ)) args cargs.toList) (hH2:∀ k,match σdn σ n q k with | some j=>iH (σup σ n) (aH L' j) (H2 k) | none=>H2 k=H k) {r2:AV}
  (hr2:∀ (g g':Gh) (v:Value),IA g g'→(∀ j p,g.ρ j=some p→g'.ρ (σup σ n j)=some p)→VRel g r v→VRel g' r2 v) (hHg:Hg (g.ren (θσ σ))) :
  X cargs w fun e w'=>∃ v g',e=.returned v∧VRel g' r2 v∧EvoP g H w g' H2 w'∧((∀ p ms,aH L p≠.pool ms)→g'.α=g.α):=by
 refine hmono (hs (g.ren (θσ σ)) w cargs hHg (hren.rel hW) ha) ?_
 rintro e w' ⟨v,g1,rfl,hv,hev⟩
 let g2:Gh:=⟨g1.I,fun k=>match σdn σ n q k with | some j=>g1.ρ j | none=>g.ρ k,g1.α⟩
 have hdn_some:∀ {k j},σdn σ n q k=some j→(n≤k∧k < n+q∧j=σ.length+(k - n))∨(k < n∧σ[j]?=some k):=fun {k j} e=>by
  unfold σdn at e
  split at e
  ·rename_i hc; cases e; exact .inl ⟨hc.1,hc.2,rfl⟩
  ·right
   rw [List.idxOf?_eq_some_iff] at e
   obtain ⟨h1,h2,h3⟩:=e
   have h2':σ[j]=k:=by simpa using h2
   exact ⟨hlt k (h2'▸List.getElem_mem h1),by rw [List.getElem?_eq_getElem h1,h2']⟩
 have hdn_up:∀ {j},j < σ.length+q→σdn σ n q (σup σ n j)=some j:=fun {j} hj=>by
  unfold σup
  rcases Nat.lt_or_ge j σ.length with h | h
  ·have e1:σ.getD j (n+(j - σ.length))=σ[j]:=by simp [List.getD,h]
   rw [e1]
   have hlt':=hlt σ[j] (List.getElem_mem h)
   unfold σdn
   rw [if_neg (by omega)]
   rw [List.idxOf?_eq_some_iff]
   refine ⟨h,by simp,fun j' hj'=>?_⟩
   have hne:σ[j']≠σ[j]:=fun e=>by
    have:=(List.getElem_inj hnd (h₀:=by omega) (h₁:=h)).1 e
    omega
   simpa using hne
  ·have e1:σ.getD j (n+(j - σ.length))=n+(j - σ.length):=by simp [List.getD,h]
   rw [e1]
   unfold σdn
   rw [if_pos (by omega)]
   congr 1; omega
 have hdn_inj:∀ {k k' j},σdn σ n q k=some j→σdn σ n q k'=some j→k=k':=fun {k k' j} e e'=>by
  rcases hdn_some e with ⟨h1,h2,h3⟩ | ⟨h1,h2⟩<;>rcases hdn_some e' with ⟨h1',h2',h3'⟩ | ⟨h1',h2'⟩
  ·omega
  ·have:=(List.getElem?_eq_some_iff.1 h2').1; omega
  ·have:=(List.getElem?_eq_some_iff.1 h2).1; omega
  ·rw [h2] at h2'; exact Option.some.inj h2'
 have hρ1:∀ j p,g1.ρ j=some p→j < σ.length+q:=fun j p e=>by
  rcases Nat.lt_or_ge j (σ.length+q) with h | h
  ·exact h
  ·rw [hev.rel.base.fresh j (uB _ _ (by omega))] at e; cases e
 have hup:∀ j p,g1.ρ j=some p→g2.ρ (σup σ n j)=some p:=fun j p e=>by
  show (match σdn σ n q (σup σ n j) with | some j=>g1.ρ j | none=>g.ρ (σup σ n j))=some p
  rw [hdn_up (hρ1 j p e)]; exact e
 have hg2:∀ {k j},σdn σ n q k=some j→g2.ρ k=g1.ρ j:=fun {k j} e=>by
  show (match σdn σ n q k with | some j=>g1.ρ j | none=>g.ρ k)=_
  rw [e]
 have hg2n:∀ {k},σdn σ n q k=none→g2.ρ k=g.ρ k:=fun {k} e=>by
  show (match σdn σ n q k with | some j=>g1.ρ j | none=>g.ρ k)=_
  rw [e]
 have hIA:IA g1 g2:=⟨rfl,fun _ _ h=>h⟩
 have hpl:∀ {j ms'},aH L j=.pool ms'→∃ k ms,σ[j]?=some k∧H k=.pool ms:=fun {j ms'} e=>by
  have:=hren.ent j
  rw [e] at this
  obtain ⟨i,ms,e1,e2,_⟩:=this
  exact ⟨i,ms,e1,e2⟩
 have hnot:∀ {k j},σdn σ n q k=none→σ[j]?=some k→False:=fun {k j} hk hj=>by
  have hjl:=(List.getElem?_eq_some_iff.1 hj).1
  have:=hdn_up (j:=j) (by omega)
  have e1:σup σ n j=k:=by simp [σup,List.getD,hj]
  rw [e1,hk] at this; cases this
 have hαn:(∀ p ms,aH L p≠.pool ms)→g1.α=g.α∧∀ p ms,aH L' p≠.pool ms:=fun h=>hev.al h
 have hαle:∀ j p,g.α j=some p→g1.α j=some p:=hev.le.α
 let Pass:Nat ⊕ Nat→Prop:=fun y=>match y with | .inl k=>∃ j:Nat,σ[j]?=some k | .inr _=>∃ p ms,aH L p=.pool ms
 let Cal:Nat ⊕ Nat→Nat ⊕ Nat→Prop:=fun x z=>match x,z with | .inl k,.inl j=>σdn σ n q k=some j | .inr i,.inr j=>i=j | _,_=>False
 have hin:∀ {z b lo},Pl (g.ren (θσ σ)) (aH L) z b lo→∃ y,Pl g H y b lo∧Pass y:=fun {z b lo} hz=>by
  cases z with
  | inl j =>
   obtain ⟨m,hl,e⟩:=hz
   obtain ⟨k,hk,e'⟩:=wD e
   exact ⟨.inl k,⟨m,(hren.ent j).live hl hk,e'⟩,j,hk⟩
  | inr j =>
   obtain ⟨h0,m,hm,e⟩:=hz
   obtain ⟨p,ms,c,e1,e2⟩:=hm
   exact ⟨.inr j,⟨h0,m,hren.mem ⟨p,ms,c,e1,e2⟩,e⟩,p,ms,e1⟩
 have hM:∀ b o,jM (g.ren (θσ σ)) (aH L) b o→jM g H b o:=fun b o ⟨lo,ho,hlo⟩=>by
  obtain ⟨z,hz⟩:=kI.1 ho
  obtain ⟨y,hy,_⟩:=hin hz
  exact ⟨lo,kI.2 ⟨y,hy⟩,hlo⟩
 have hle:g.up g2:=⟨hev.le.I,fun k p e=>by
  cases hk:σdn σ n q k with
  | none=>rw [hg2n hk]; exact e
  | some j =>
   rw [hg2 hk]
   rcases hdn_some hk with ⟨h1,h2,_⟩ | ⟨h1,h2⟩
   ·rw [hW.base.fresh k (hfr k h1 h2)] at e; cases e
   ·exact hev.le.ρ j p (by rw [dY (show θσ σ j=some k from h2)]; exact e),hαle⟩
 have hlive2:∀ {k j},σdn σ n q k=some j→(H2 k).live→(aH L' j).live:=fun {k j} hk hl=>by
  have:=hH2 k
  rw [hk] at this
  simp only [] at this
  cases hL':aH L' j with
  | unborn=>rw [hL'] at this; simp only [iH] at this; rw [this] at hl; exact hl.elim
  | dead=>rw [hL'] at this; simp only [iH] at this; rw [this] at hl; exact hl.elim
  | ibox l=>rw [hL'] at this; obtain ⟨l',e,_⟩:=this; rw [e] at hl; exact hl.elim
  | _=>trivial
 have hH2n:∀ {k},σdn σ n q k=none→H2 k=H k:=fun {k} hk=>by
  have:=hH2 k
  rw [hk] at this
  exact this
 have hH2p:∀ {k j ms'},σdn σ n q k=some j→H2 k=.pool ms'→∃ ms,aH L' j=.pool ms∧ms.length=ms'.length∧∀ (i:Nat) (l':List AV),ms'[i]?=some (some l')→∃ l,ms[i]?=some (some l)∧l.length=l'.length∧∀ (k:Nat) (x y:AV),l[k]?=some x→l'[k]?=some y→∀ (g g':Gh) (v:Value),IA g g'→(∀ j p,g.ρ j=some p→g'.ρ (σup σ n j)=some p)→VRel g x v→VRel g' y v:=fun {k j ms'} hk e=>by
  have:=hH2 k
  rw [hk] at this
  simp only [] at this
  rw [e] at this
  cases hL':aH L' j with
  | pool ms =>
   rw [hL'] at this
   obtain ⟨ms1,e1,e2,e3⟩:=this
   cases e1
   exact ⟨ms,rfl,e2,e3⟩
  | unborn=>rw [hL'] at this; simp only [iH] at this; cases this
  | dead=>rw [hL'] at this; simp only [iH] at this; cases this
  | tail=>rw [hL'] at this; simp only [iH] at this; cases this
  | rdn c=>rw [hL'] at this; simp only [iH] at this; cases this
  | box l=>rw [hL'] at this; obtain ⟨_,e,_⟩:=this; cases e
  | ibox l=>rw [hL'] at this; obtain ⟨_,e,_⟩:=this; cases e
  | gbx l=>rw [hL'] at this; obtain ⟨_,e,_⟩:=this; cases e
  | rcd _ _ _ l=>rw [hL'] at this; obtain ⟨_,e,_⟩:=this; cases e
 have hPn:∀ {k ms},σdn σ n q k=none→H k=.pool ms→∀ p ms',aH L p≠.pool ms':=fun {k ms} hk e p ms' e'=>by
  obtain ⟨k0,m0,h1,h2⟩:=hpl e'
  have:=hW.pool.one k0 k _ _ h2 e
  subst this
  exact hnot hk h1
 have hout:∀ {x b lo},Pl g2 H2 x b lo→(∃ z,Pl g1 (aH L') z b lo∧Cal x z)∨(Pl g H x b lo∧¬ Pass x):=fun {x b lo} hx=>by
  cases x with
  | inl k =>
   obtain ⟨m,hl,e⟩:=hx
   cases hk:σdn σ n q k with
   | some j=>exact .inl ⟨.inl j,⟨m,hlive2 hk hl,by rw [← hg2 hk]; exact e⟩,hk⟩
   | none=>exact .inr ⟨⟨m,by rw [← hH2n hk]; exact hl,by rw [← hg2n hk]; exact e⟩,fun ⟨j,hj⟩=>hnot hk hj⟩
  | inr i =>
   obtain ⟨h0,m,⟨k,ms',c,e1,e2⟩,e⟩:=hx
   cases hk:σdn σ n q k with
   | some j =>
    obtain ⟨ms,q1,q2,q3⟩:=hH2p hk e1
    obtain ⟨l,q4,_⟩:=q3 i c e2
    exact .inl ⟨.inr i,⟨h0,m,⟨j,ms,l,q1,q4⟩,e⟩,rfl⟩
   | none =>
    rw [hH2n hk] at e1
    have hno:=hPn hk e1
    exact .inr ⟨⟨h0,m,⟨k,ms',c,e1,e2⟩,by rw [← (hαn hno).1]; exact e⟩,fun ⟨p,ms1,h⟩=>hno p ms1 h⟩
 have hmix:∀ {z y b lo b' lo'},Pl g1 (aH L') z b lo→Pl g H y b' lo'→¬ Pass y→b≠b':=fun {z y b lo b' lo'} hz hy hny=>by
  rcases hev.own b lo (kI.2 ⟨z,hz⟩) with h | ⟨lo0,h0,_⟩
  ·have:=(pl_at hW hy).1; omega
  ·obtain ⟨z0,hz0⟩:=kI.1 h0
   obtain ⟨y0,hy0,hp0⟩:=hin hz0
   exact xY hW (x:=y0) (y:=y) (fun e=>by subst e; exact hny hp0) hy0 hy
 have hinj2:∀ {x y b lo b' lo'},x≠y→Pl g2 H2 x b lo→Pl g2 H2 y b' lo'→b≠b':=fun {x y b lo b' lo'} hne hx hy=>by
  rcases hout hx with ⟨z,hz,cz⟩ | ⟨hx',nx⟩<;>rcases hout hy with ⟨z',hz',cz'⟩ | ⟨hy',ny⟩
  ·refine xY hev.rel (fun e=>hne ?_) hz hz'
   subst e
   cases x with
   | inl k =>
    cases z with
    | inl j =>
     cases y with
     | inl k'=>exact congrArg _ (hdn_inj (show σdn σ n q k=some j from cz) (show σdn σ n q k'=some j from cz'))
     | inr _=>exact cz'.elim
    | inr _=>exact cz.elim
   | inr i =>
    cases z with
    | inl j=>exact cz.elim
    | inr j =>
     cases y with
     | inl k'=>exact cz'.elim
     | inr i'=>exact congrArg _ ((show i=j from cz).trans (show i'=j from cz').symm)
  ·exact hmix hz hy' ny
  ·exact (hmix hz' hx' nx).symm
  ·exact xY hW hne hx' hy'
 have hsep:∀ {y b lo},Pl g H y b lo→¬ Pass y→∀ o,¬ jM (g.ren (θσ σ)) (aH L) b o:=fun {y b lo} hy hny o ⟨lo',ho,_⟩=>by
  obtain ⟨z,hz⟩:=kI.1 ho
  obtain ⟨y',hy',hp'⟩:=hin hz
  exact xY hW (x:=y') (y:=y) (fun e=>by subst e; exact hny hp') hy' hy rfl
 have hstay:∀ {y b lo},Pl g H y b lo→¬ Pass y→w'.heap[b]?=w.heap[b]?∧∀ o,lo≤o→g2.I b o=g.I b o:=fun {y b lo} hy hny=>by
  obtain ⟨hb,h4⟩:=pl_at hW hy
  have hM':=hsep hy hny
  refine ⟨aLW hev.fr hb hM',fun o ho=>?_⟩
  show g1.I b o=g.I b o
  rw [h4 o ho]
  cases hI:g1.I b o with
  | none=>rfl
  | some x =>
   rcases hev.grow b o x hI with h' | h' | h'
   ·have h'':g.I b o=some x:=h'
    rw [h4 o ho] at h''; cases h''
   ·omega
   ·exact absurd h' (hM' o)
 refine ⟨v,g2,rfl,hr2 g1 g2 v hIA hup hv,⟨fun hno=>⟨(hαn fun p ms e=>?_).1,fun p ms e=>?_⟩,hle,WRelP.of hev.rel.base.imm (fun k=>?_) (fun k hk=>?_) (fun k k' ms ms' e e'=>?_) (fun k ms' j l' e1 e2=>?_) (fun k ms' j e1 e2=>?_) hinj2,hev.fr.mono fun b o _ h=>hM b o h,fun b o x h=>?_,fun b lo ho=>?_⟩,fun hno=>(hαn hno).1⟩
 ·obtain ⟨k,m1,_,h2⟩:=hpl e; exact hno k m1 h2
 ·cases hk:σdn σ n q p with
  | none=>rw [hH2n hk] at e; exact hno p ms e
  | some j =>
   obtain ⟨m1,h1,_⟩:=hH2p hk e
   exact (hαn fun p' ms' e'=>by obtain ⟨k,m2,_,h2⟩:=hpl e'; exact hno k m2 h2).2 j m1 h1
 ·have h2:=hH2 k
  cases hk:σdn σ n q k with
  | some j =>
   rw [hk] at h2
   simp only [] at h2
   have hent:=hev.rel.base.ent j
   cases hL':aH L' j with
   | unborn=>rw [hL'] at h2; simp only [iH] at h2; rw [h2]; trivial
   | dead=>rw [hL'] at h2; simp only [iH] at h2; rw [h2]; trivial
   | tail =>
    rw [hL'] at h2 hent; simp only [iH] at h2; rw [h2]
    intro b lo m e
    rw [hg2 hk] at e
    exact hent b lo m e
   | box l =>
    rw [hL'] at h2 hent
    obtain ⟨l',e,hlen,hx⟩:=h2
    rw [e]
    obtain ⟨b,m,cs,T,fr,k1,k2,k3,k4,k5,k6,k7⟩:=hent
    refine ⟨b,m,cs,T,fr,(hg2 hk).trans k1,k2,k3,k4,by rw [← hlen]; exact k5,fun i y hy=>?_,k7⟩
    have hi:i < l.length:=by
     rw [hlen]
     rcases Nat.lt_or_ge i l'.length with h' | h'
     ·exact h'
     ·rw [List.getElem?_eq_none h'] at hy; cases hy
    obtain ⟨c,hc,hv'⟩:=k6 i _ (List.getElem?_eq_getElem hi)
    exact ⟨c,hc,hx i _ y (List.getElem?_eq_getElem hi) hy g1 g2 c hIA hup hv'⟩
   | ibox l =>
    rw [hL'] at h2 hent
    obtain ⟨l',e,hlen,hx⟩:=h2
    rw [e]
    obtain ⟨b,m,k1,k2⟩:=hent
    refine ⟨b,m,(hg2 hk).trans k1,fun i y hy=>?_⟩
    have hi:i < l.length:=by
     rw [hlen]
     rcases Nat.lt_or_ge i l'.length with h' | h'
     ·exact h'
     ·rw [List.getElem?_eq_none h'] at hy; cases hy
    obtain ⟨c,hc,hv'⟩:=k2 i _ (List.getElem?_eq_getElem hi)
    exact ⟨c,hc,hx i _ y (List.getElem?_eq_getElem hi) hy g1 g2 c hIA hup hv'⟩
   | gbx l =>
    rw [hL'] at h2 hent
    obtain ⟨l',e,hlen,hx⟩:=h2
    rw [e]
    rcases hent with ⟨k0,k1⟩ | ⟨b,m,cs,T,fr,k1,k2,k3,k4,k5,k6,k7⟩
    ·subst k1
     simp at hlen
     exact .inl ⟨(hg2 hk).trans k0,List.length_eq_zero_iff.1 hlen.symm⟩
    ·refine .inr ⟨b,m,cs,T,fr,(hg2 hk).trans k1,k2,k3,k4,by rw [← hlen]; exact k5,fun i y hy=>?_,k7⟩
     have hi:i < l.length:=by
      rw [hlen]
      rcases Nat.lt_or_ge i l'.length with h' | h'
      ·exact h'
      ·rw [List.getElem?_eq_none h'] at hy; cases hy
     obtain ⟨c,hc,hv'⟩:=k6 i _ (List.getElem?_eq_getElem hi)
     exact ⟨c,hc,hx i _ y (List.getElem?_eq_getElem hi) hy g1 g2 c hIA hup hv'⟩
   | rcd ps asg body l =>
    rw [hL'] at h2 hent
    obtain ⟨l',e,hlen,hx⟩:=h2
    rw [e]
    obtain ⟨b,fn,tm,df,k1,k2,k3⟩:=hent
    refine ⟨b,fn,tm,df,(hg2 hk).trans k1,k2,hlen.symm.trans k3.1,fun i y c hy hc=>?_⟩
    have hi:i < l.length:=by
     rw [hlen]
     rcases Nat.lt_or_ge i l'.length with h' | h'
     ·exact h'
     ·rw [List.getElem?_eq_none h'] at hy; cases hy
    exact hx i _ y (List.getElem?_eq_getElem hi) hy g1 g2 c hIA hup (k3.2 i _ c (List.getElem?_eq_getElem hi) hc)
   | rdn c =>
    rw [hL'] at h2 hent
    rw [h2]
    obtain ⟨b,r,k1,k2⟩:=hent
    exact ⟨b,r,(hg2 hk).trans k1,k2⟩
   | pool ms =>
    rw [hL'] at h2
    obtain ⟨ms',e,_⟩:=h2
    rw [e]
    exact (hg2 hk).trans (hev.rel.base.pool_ρ hL')
  | none =>
   rw [hk] at h2
   simp only [] at h2
   rw [h2]
   exact (hW.base.ent k).keepU hle (hg2n hk) fun b lo m hl e=>hstay (y:=.inl k) ⟨m,hl,e⟩ fun ⟨j,hj⟩=>hnot hk hj
 ·have h2:=hH2 k
  cases hk':σdn σ n q k with
  | some j =>
   rw [hk'] at h2
   simp only [] at h2
   rw [hg2 hk']
   refine hev.rel.base.fresh j ?_
   cases hL':aH L' j with
   | unborn=>rfl
   | dead=>rw [hL'] at h2; simp only [iH] at h2; rw [h2] at hk; cases hk
   | tail=>rw [hL'] at h2; simp only [iH] at h2; rw [h2] at hk; cases hk
   | box l=>rw [hL'] at h2; obtain ⟨l',e,_⟩:=h2; rw [e] at hk; cases hk
   | ibox l=>rw [hL'] at h2; obtain ⟨l',e,_⟩:=h2; rw [e] at hk; cases hk
   | gbx l=>rw [hL'] at h2; obtain ⟨l',e,_⟩:=h2; rw [e] at hk; cases hk
   | rcd _ _ _ l=>rw [hL'] at h2; obtain ⟨l',e,_⟩:=h2; rw [e] at hk; cases hk
   | rdn c=>rw [hL'] at h2; simp only [iH] at h2; rw [h2] at hk; cases hk
   | pool ms=>rw [hL'] at h2; obtain ⟨l',e,_⟩:=h2; rw [e] at hk; cases hk
  | none =>
   rw [hk'] at h2
   simp only [] at h2
   rw [hg2n hk']; exact hW.base.fresh k (h2▸hk)
 ·cases hk:σdn σ n q k with
  | none =>
   rw [hH2n hk] at e
   have hno:=hPn hk e
   cases hk':σdn σ n q k' with
   | none=>rw [hH2n hk'] at e'; exact hW.pool.one k k' _ _ e e'
   | some j' =>
    obtain ⟨m1,h1,_⟩:=hH2p hk' e'
    exact absurd h1 ((hαn hno).2 j' m1)
  | some j =>
   obtain ⟨m0,h0,_⟩:=hH2p hk e
   cases hk':σdn σ n q k' with
   | none =>
    rw [hH2n hk'] at e'
    exact absurd h0 ((hαn (hPn hk' e')).2 j m0)
   | some j' =>
    obtain ⟨m1,h1,_⟩:=hH2p hk' e'
    have:=hev.rel.pool.one j j' _ _ h0 h1
    subst this
    exact hdn_inj hk hk'
 ·cases hk:σdn σ n q k with
  | none =>
   rw [hH2n hk] at e1
   have hno:=hPn hk e1
   have hα1:=(hαn hno).1
   rcases hW.pool.mem k ms' j l' e1 e2 with ⟨h0,hc⟩ | ⟨b,m,cs,T,fr,q1,q2,q3,q4,q5,q6,q7⟩
   ·exact .inl ⟨show g1.α j=none by rw [hα1]; exact h0,hc⟩
   ·obtain ⟨s1,s2⟩:=hstay (y:=.inr j) (lo:=0) ⟨rfl,m,⟨k,ms',l',e1,e2⟩,q1⟩ fun ⟨p,ms1,h⟩=>hno p ms1 h
    exact .inr ⟨b,m,cs,T,fr,show g1.α j=_ by rw [hα1]; exact q1,s1.trans q2,q3,q4,q5,fun i x hx=>let ⟨c,hc,hv⟩:=q6 i x hx; ⟨c,hc,hv.monoU hle⟩,fun o=>(s2 o (Nat.zero_le _)).trans (q7 o)⟩
  | some i =>
   obtain ⟨ms,h1,h2,h3⟩:=hH2p hk e1
   obtain ⟨l,h4,h5,h6⟩:=h3 j l' e2
   rcases hev.rel.pool.mem i ms j l h1 h4 with ⟨h0,hc⟩ | ⟨b,m,cs,T,fr,q1,q2,q3,q4,q5,q6,q7⟩
   ·subst hc
    simp at h5
    exact .inl ⟨h0,List.length_eq_zero_iff.1 h5.symm⟩
   ·refine .inr ⟨b,m,cs,T,fr,q1,q2,q3,q4,by rw [← h5]; exact q5,fun t y hy=>?_,q7⟩
    have hi:t < l.length:=by
     rw [h5]
     rcases Nat.lt_or_ge t l'.length with h' | h'
     ·exact h'
     ·rw [List.getElem?_eq_none h'] at hy; cases hy
    obtain ⟨c,hc,hv'⟩:=q6 t _ (List.getElem?_eq_getElem hi)
    exact ⟨c,hc,h6 t _ y (List.getElem?_eq_getElem hi) hy g1 g2 c hIA hup hv'⟩
 ·cases hk:σdn σ n q k with
  | none =>
   rw [hH2n hk] at e1
   show g1.α j=none
   rw [(hαn (hPn hk e1)).1]
   exact hW.pool.new k ms' j e1 e2
  | some i =>
   obtain ⟨ms,h1,h2,_⟩:=hH2p hk e1
   exact hev.rel.pool.new i ms j h1 (by rw [h2]; exact e2)
 ·rcases hev.grow b o x h with h' | h' | h'
  ·exact .inl h'
  ·exact .inr (.inl h')
  ·exact .inr (.inr (hM b o h'))
 ·obtain ⟨x,hx⟩:=kI.1 ho
  rcases hout hx with ⟨z,hz,_⟩ | ⟨hx',_⟩
  ·rcases hev.own b lo (kI.2 ⟨z,hz⟩) with h | ⟨lo0,h0,h3⟩
   ·exact .inl h
   ·obtain ⟨z0,hz0⟩:=kI.1 h0
    obtain ⟨y0,hy0,_⟩:=hin hz0
    exact .inr ⟨lo0,kI.2 ⟨y0,hy0⟩,h3⟩
  ·exact .inr ⟨lo,kI.2 ⟨x,hx'⟩,Nat.le_refl _⟩
end Go.Ev
