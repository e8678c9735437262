/-
A aX of blocks that stand inside other blocks' cells: members are told by their numbers,of which the ghost knows the blocks.
-/
import Derived.Test.YtddpmkmgbdedlaaGreatqEvI
set_option linter.unusedVariables false
set_option linter.unusedSimpArgs false
namespace Go.Ev
open Go
def Mem (H:Nat→dD)(j:Nat):Prop:=∃ p ms c,H p=.aX ms∧ms[j]?=some (some c)
def RY (g:Gh)(w:World)(j:Nat)(cells:List AV):Prop:=(g.α j=none∧cells=[])∨∃ (b n:Nat) (cs:Array Value) (T:TypeId) (fr:Nat×Nat),g.α j=some (b,n)∧w.heap[b]?=some (.cells cs T fr)∧cs.size=n∧HR fr 0 n∧cells.length≤n ∧
   (∀ (k:Nat) (x:AV),cells[k]?=some x→∃ c,cs[k]?=some c∧aF g x c)∧∀ o,g.I b o=none
structure LA (g:Gh) (H:Nat→dD) (w:World):Prop where
 one:∀ p p' ms kS,H p=.aX ms→H p'=.aX kS→p=p'
 mem:∀ p ms j cells,H p=.aX ms→ms[j]?=some (some cells)→RY g w j cells
 new:∀ p ms j,H p=.aX ms→ms.length≤j→g.α j=none
 sep:∀ id x j b n,(H id).live→g.ρ id=some x→Mem H j→g.α j=some (b,n)→x.1≠b
 ij:∀ j j' b b' n n',j≠j'→Mem H j→Mem H j'→g.α j=some (b,n)→g.α j'=some (b',n')→b≠b'
structure kT (g:Gh) (H:Nat→dD) (w:World):Prop where
 base:eR g H w
 aX:LA g H w
def K2 (g:Gh)(H:Nat→dD)(b lo:Nat):Prop:=(∃ id n,(H id).live∧g.ρ id=some (b,lo,n))∨(lo=0∧∃ j n,Mem H j∧g.α j=some (b,n))
def QY (g:Gh)(H:Nat→dD)(b o:Nat):Prop:=∃ lo,K2 g H b lo∧lo≤o
theorem Jx.xa {g:Gh}{H:Nat→dD}{b o:Nat}(h:Jx g H b o):QY g H b o:=let ⟨id,lo,n,hl,e,ho⟩:=h;⟨lo,.inl ⟨id,n,hl,e⟩,ho⟩
structure iH (g:Gh) (H:Nat→dD) (w:World) (g':Gh) (H':Nat→dD) (w':World):Prop where
 al:(∀ p ms,H p≠.aX ms)→g'.α=g.α∧∀ p ms,H' p≠.aX ms
 le:g.up g'
 rel:kT g' H' w'
 fr:Fr (QY g H) w w'
 grow:∀ b o v,g'.I b o=some v→g.I b o=some v∨w.heap.size≤b∨QY g H b o
 own:∀ b lo,K2 g' H' b lo→w.heap.size≤b∨∃ QU,K2 g H b QU∧QU≤lo
theorem iH.refl {g:Gh}{H:Nat→dD}{w:World}(h:kT g H w):iH g H w g H w :=
 ⟨fun h=>⟨rfl,h⟩,g.U5,h,.refl _ _,fun _ _ _ e=>.inl e,fun b lo h=>.inr ⟨lo,h,Nat.le_refl _⟩⟩
theorem iH.mut {g g':Gh}{H H':Nat→dD}{w w':World}(h:iH g H w g' H' w'){b o:Nat}(hm:QY g' H' b o):w.heap.size≤b∨QY g H b o:=by
 obtain⟨lo,hl,ho⟩:=hm
 rcases h.own b lo hl with hb|⟨QU,h0,IV⟩
 ·exact .inl hb
 ·exact .inr ⟨QU,h0,Nat.le_trans IV ho⟩
theorem iH.trans {g g' g'':Gh}{H H' H'':Nat→dD}{w w' w'':World}(h:iH g H w g' H' w')(h':iH g' H' w' g'' H'' w''):iH g H w g'' H'' w'':=by
 refine⟨fun hn=>⟨(h'.al (h.al hn).2).1.trans (h.al hn).1,(h'.al (h.al hn).2).2⟩,h.le.trans h'.le,h'.rel,h.fr.trans h'.fr (fun b o hb hm=>?_),fun b o v e=>?_,fun b lo hl=>?_⟩
 ·rcases h.mut hm with h1|h1
  ·omega
  ·exact h1
 ·rcases h'.grow b o v e with h1|h1|h1
  ·exact h.grow b o v h1
  ·exact .inr (.inl (Nat.le_trans h.fr.size h1))
  ·exact .inr (h.mut h1)
 ·rcases h'.own b lo hl with h1|⟨QU,h0,IV⟩
  ·exact .inl (Nat.le_trans h.fr.size h1)
  ·rcases h.own b QU h0 with h2|⟨pk,h1,aF8⟩
   ·exact .inl h2
   ·exact .inr ⟨pk,h1,Nat.le_trans aF8 IV⟩
theorem DE {M:Nat→Nat→Prop}{w w':World}(h:Fr M w w'){b:Nat}(hb:b < w.heap.size)(hM:∀ o,¬ M b o):w'.heap[b]?=w.heap[b]?:=by
 have bU:w.heap[b]?=some w.heap[b]:=Array.getElem?_eq_getElem hb
 cases ho:w.heap[b] with
 |cells cs T fr =>
  rw[ho]at bU
  obtain⟨Ju,UH,e,hs,hc,hf⟩:=h.cells b cs T fr bU
  have:UH=fr:=hf.elim id fun ⟨o,h⟩=>absurd h (hM o)
  subst this
  have:Ju=cs:=by
   apply Array.ext hs
   intro i h1 h2
   have:=hc i (hM i)
   rw[Array.getElem?_eq_getElem h1,Array.getElem?_eq_getElem h2]at this
   exact Option.some.inj this
  rw[bU,e,this]
 |_ =>
  rw[ho]at bU
  rw[bU]
  exact h.A2 b _ bU (by intros;simp) hM
theorem LA.at {g:Gh}{H:Nat→dD}{w:World}(h:LA g H w){j b n:Nat}(hm:Mem H j)(e:g.α j=some (b,n)):∃ cs T fr,w.heap[b]?=some (.cells cs T fr)∧∀ o,g.I b o=none:=by
 obtain⟨p,ms,c,h1,h2⟩:=hm
 rcases h.mem p ms j c h1 h2 with⟨h0,_⟩|⟨b',n',cs,T,fr,e1,e2,e3,e4,e5,e6,e7⟩
 ·rw[e]at h0;cases h0
 ·rw[e]at e1;cases e1
  exact⟨cs,T,fr,e2,e7⟩
theorem fC.xa {g g':Gh}{H H':Nat→dD}{w w':World}(h:fC g H w g' H' w')(hp:LA g H w)(hk:∀ p ms,H' p=.aX ms↔H p=.aX ms):iH g H w g' H' w':=by
 have QT:=h.le.α
 have rZ:∀ j,Mem H' j↔Mem H j:=fun j=>⟨fun ⟨p,ms,c,h1,h2⟩=>⟨p,ms,c,(hk p ms).1 h1,h2⟩,fun ⟨p,ms,c,h1,h2⟩=>⟨p,ms,c,(hk p ms).2 h1,h2⟩⟩
 have NQ:∀ {j b n},Mem H j→g.α j=some (b,n)→∀ o,¬ Jx g H b o:=fun {j b n} hm e o ⟨id,lo,m,hl,e',_⟩=>hp.sep id _ j b n hl e' hm e rfl
 refine⟨fun hn=>⟨QT,fun p ms e=>hn p ms ((hk p ms).1 e)⟩,h.le.up,⟨h.rel,fun p p' ms kS h1 h2=>hp.one p p' ms kS ((hk _ _).1 h1) ((hk _ _).1 h2),fun p ms j cells h1 h2=>?_,fun p ms j h1 h2=>by rw[QT];exact hp.new p ms j ((hk _ _).1 h1) h2,fun id x j b n hl e hm e'=>?_,
  fun j j' b b' n n' dF hm XJ e e'=>hp.ij j j' b b' n n' dF ((rZ j).1 hm) ((rZ j').1 XJ) (by rw[← QT];exact e) (by rw[← QT];exact e')⟩,h.fr.mono fun b o _ hm=>hm.xa,fun b o v e=>?_,fun b lo hl=>?_⟩
 ·have FG:=(hk p ms).1 h1
  rcases hp.mem p ms j cells FG h2 with⟨h0,hc⟩|⟨b,n,cs,T,fr,e1,e2,e3,e4,e5,e6,e7⟩
  ·exact .inl ⟨by rw[QT];exact h0,hc⟩
  ·have hm:Mem H j:=⟨p,ms,cells,FG,h2⟩
   have hb:=cU e2
   refine .inr ⟨b,n,cs,T,fr,by rw[QT];exact e1,(DE h.fr hb (NQ hm e1)).trans e2,e3,e4,e5,fun k x hx=>let ⟨c,hc,hv⟩:=e6 k x hx;⟨c,hc,hv.mono h.le⟩,fun o=>?_⟩
   cases hI:g'.I b o with
   |none=>rfl
   |some v =>
    rcases h.grow b o v hI with h' | h' | h'
    ·rw[e7 o]at h';cases h'
    ·omega
    ·exact absurd h' (NQ hm e1 o)
 ·rw[QT]at e'
  have XJ:=(rZ j).1 hm
  obtain⟨cs,T,fr,e2,_⟩:=hp.at XJ e'
  have hb:=cU e2
  obtain⟨b1,lo,n1⟩:=x
  rcases h.own id b1 lo n1 hl e with h1|⟨id0,QU,n0,h1,h2,_⟩
  ·show b1≠b;omega
  ·exact (hp.sep id0 _ j b n h1 h2 XJ e':b1≠b)
 ·rcases h.grow b o v e with h' | h' | h'
  ·exact .inl h'
  ·exact .inr (.inl h')
  ·exact .inr (.inr h'.xa)
 ·rcases hl with⟨id,n,h1,h2⟩|⟨h0,j,n,h1,h2⟩
  ·rcases h.own id b lo n h1 h2 with h' | ⟨id0,QU,n0,k1,k2,k3⟩
   ·exact .inl h'
   ·exact .inr ⟨QU,.inl ⟨id0,n0,k1,k2⟩,k3⟩
  ·exact .inr ⟨lo,.inr ⟨h0,j,n,(rZ j).1 h1,by rw[← QT];exact h2⟩,Nat.le_refl _⟩
def eo (x:Option (Nat×Nat)):Option (Nat×Nat×Nat):=x.map fun p=>(p.1,0,p.2)
theorem eR.CH {g:Gh}{H:Nat→dD}{w:World}(h:eR g H w){p:Nat}{ms:List (Option (List AV))}(hp:H p=.aX ms):g.ρ p=none:=by
 have:=h.zD p
 rw[hp]at this
 exact this
def Is (g:Gh)(n j:Nat):Gh:={ g with ρ:=fun k=>if k=n then eo (g.α j) else g.ρ k }
theorem iH.DT {g:Gh}{H:Nat→dD}{w:World}(h:kT g H w){p n j:Nat}{ms:List (Option (List AV))}{cells:List AV}(hp:H p=.aX ms)(hj:ms[j]?=some (some cells))(hn:H n=.bX) :
  iH g H w (Is g n j) (eQ (eQ H p (.aX (ms.set j none))) n (.eD cells)) w:=by
 have hW:=h.base
 have hP:=h.aX
 have hnp:n≠p:=fun e=>by subst e;rw[hn]at hp;cases hp
 have hpρ:=hW.CH hp
 have hnρ:=hW.fresh n hn
 have hmj:Mem H j:=⟨p,ms,cells,hp,hj⟩
 have wk:j < ms.length:=(List.getElem?_eq_some_iff.1 hj).1
 have aGf:(Is g n j).ρ n=eo (g.α j):=by simp[Is]
 have O4:∀ k,k≠n→(Is g n j).ρ k=g.ρ k:=fun k hk=>by simp[Is,hk]
 have hle:g.up (Is g n j):=⟨fun _ _ _ e=>e,fun id x e=>by
  by_cases gY:id=n
  ·subst gY;rw[hnρ]at e;cases e
  ·rw[O4 id gY];exact e,fun _ _ e=>e⟩
 have hH:∀ k,k≠n→k≠p→eQ (eQ H p (.aX (ms.set j none))) n (.eD cells) k=H k:=fun k h1 h2=>by rw[aM _ _ h1,aM _ _ h2]
 have hHn:eQ (eQ H p (.aX (ms.set j none))) n (.eD cells) n=.eD cells:=aP _ _ _
 have eu:eQ (eQ H p (.aX (ms.set j none))) n (.eD cells) p=.aX (ms.set j none):=by rw[aM _ _ (Ne.symm hnp),aP]
 have FM:∀ q kS,eQ (eQ H p (.aX (ms.set j none))) n (.eD cells) q=.aX kS→q=p∧kS=ms.set j none:=fun q kS e=>by
  by_cases h1:q=n
  ·subst h1;rw[hHn]at e;cases e
  ·by_cases h2:q=p
   ·subst h2;rw[eu]at e;cases e;exact⟨rfl,rfl⟩
   ·rw[hH q h1 h2]at e;exact absurd (hP.one q p _ _ e hp) h2
 have rZ:∀ i,Mem (eQ (eQ H p (.aX (ms.set j none))) n (.eD cells)) i→Mem H i∧i≠j:=fun i ⟨q,kS,c,e1,e2⟩=>by
  obtain⟨rfl,rfl⟩:=FM q kS e1
  have wj:i≠j:=fun e=>by subst e;rw[List.getElem?_set_self wk]at e2;cases e2
  rw[List.getElem?_set_ne (Ne.symm wj)]at e2
  exact⟨⟨q,ms,c,hp,e2⟩,wj⟩
 have eE:∀ k,k≠n→(eQ (eQ H p (.aX (ms.set j none))) n (.eD cells) k).live→(H k).live:=fun k h1 hl=>by
  by_cases h2:k=p
  ·subst h2;rw[hp];trivial
  ·rw[hH k h1 h2]at hl;exact hl
 have QT:∀ {x},(Is g n j).ρ n=some x→∃ b m,g.α j=some (b,m)∧x=(b,0,m):=fun {x} e=>by
  rw[aGf]at e
  unfold eo at e
  cases ha:g.α j with
  |none=>rw[ha]at e;cases e
  |some y=>rw[ha]at e;cases e;exact⟨_,_,rfl,rfl⟩
 refine⟨fun NQ=>absurd hp (NQ p ms),hle,⟨⟨hW.AY,fun k=>?_,fun k hk=>?_,fun k k' x x' dF hl oI e e'=>?_⟩,fun q q' Ub ms2 e1 e2=>(FM q _ e1).1.trans (FM q' _ e2).1.symm,fun q Ub i c e1 e2=>?_,fun q Ub i e1 e2=>?_,fun id x i b m hl e hm e'=>?_,
  fun i i' b b' m m' dF hm XJ e e'=>hP.ij i i' b b' m m' dF (rZ i hm).1 (rZ i' XJ).1 e e'⟩,.refl _ _,fun _ _ _ e=>.inl e,fun b lo ho=>?_⟩
 ·by_cases h1:k=n
  ·subst h1
   rw[hHn]
   rcases hP.mem p ms j cells hp hj with⟨h0,hc⟩|⟨b,m,cs,T,fr,e1,e2,e3,e4,e5,e6,e7⟩
   ·exact .inl ⟨by rw[aGf,h0];rfl,hc⟩
   ·exact .inr ⟨b,m,cs,T,fr,by rw[aGf,e1];rfl,e2,e3,e4,e5,fun i x hx=>let ⟨c,hc,hv⟩:=e6 i x hx;⟨c,hc,hv.rD hle⟩,e7⟩
  ·by_cases h2:k=p
   ·subst h2
    rw[eu]
    show (Is g n j).ρ k=none
    rw[O4 k h1];exact hpρ
   ·rw[hH k h1 h2]
    have:=hW.zD k
    have jn:=O4 k h1
    cases hk:H k with
    |bX=>trivial
    |dead=>trivial
    |box l =>
     rw[hk]at this
     obtain⟨b,m,cs,T,fr,e1,e2,e3,e4,e5,e6,e7⟩:=this
     exact⟨b,m,cs,T,fr,jn.trans e1,e2,e3,e4,e5,fun i x hx=>let ⟨c,hc,hv⟩:=e6 i x hx;⟨c,hc,hv.rD hle⟩,e7⟩
    |eD l =>
     rw[hk]at this
     rcases this with⟨e0,e1⟩|⟨b,m,cs,T,fr,e1,e2,e3,e4,e5,e6,e7⟩
     ·exact .inl ⟨jn.trans e0,e1⟩
     ·exact .inr ⟨b,m,cs,T,fr,jn.trans e1,e2,e3,e4,e5,fun i x hx=>let ⟨c,hc,hv⟩:=e6 i x hx;⟨c,hc,hv.rD hle⟩,e7⟩
    |Aa l =>
     rw[hk]at this
     obtain⟨b,m,e1,e2⟩:=this
     exact⟨b,m,jn.trans e1,fun i x hx=>let ⟨c,hc,hv⟩:=e2 i x hx;⟨c,hc,hv.rD hle⟩⟩
    |tail =>
     rw[hk]at this
     intro b lo m e
     rw[jn]at e
     exact this b lo m e
    |yU ps asg body ts =>
     rw[hk]at this
     obtain⟨l,fn,tm,df,e1,e2,e3⟩:=this
     exact⟨l,fn,tm,df,jn.trans e1,e2,e3.rD hle⟩
    |Qa c =>
     rw[hk]at this
     obtain⟨l,r,e1,e2⟩:=this
     exact⟨l,r,jn.trans e1,e2⟩
    |aX Ub=>exact absurd (hP.one k p _ _ hk hp) h2
 ·by_cases h1:k=n
  ·subst h1;rw[hHn]at hk;cases hk
  ·by_cases h2:k=p
   ·subst h2;rw[eu]at hk;cases hk
   ·rw[hH k h1 h2]at hk;rw[O4 k h1];exact hW.fresh k hk
 ·by_cases h1:k=n
  ·subst h1
   obtain⟨b,m,e1,rfl⟩:=QT e
   rw[O4 k' (Ne.symm dF)]at e'
   exact (hP.sep k' x' j b m (eE k' (Ne.symm dF) oI) e' hmj e1).symm
  ·rw[O4 k h1]at e
   by_cases h2:k'=n
   ·subst h2
    obtain⟨b,m,e1,rfl⟩:=QT e'
    exact hP.sep k x j b m (eE k h1 hl) e hmj e1
   ·rw[O4 k' h2]at e'
    exact hW.inj k k' x x' dF (eE k h1 hl) (eE k' h2 oI) e e'
 ·obtain⟨rfl,rfl⟩:=FM q Ub e1
  have wj:i≠j:=fun e=>by subst e;rw[List.getElem?_set_self wk]at e2;cases e2
  rw[List.getElem?_set_ne (Ne.symm wj)]at e2
  rcases hP.mem q ms i c hp e2 with⟨h0,hc⟩|⟨b,m,cs,T,fr,e1,e2,e3,e4,e5,e6,e7⟩
  ·exact .inl ⟨h0,hc⟩
  ·exact .inr ⟨b,m,cs,T,fr,e1,e2,e3,e4,e5,fun i x hx=>let ⟨c,hc,hv⟩:=e6 i x hx;⟨c,hc,hv.rD hle⟩,e7⟩
 ·obtain⟨rfl,rfl⟩:=FM q Ub e1
  exact hP.new q ms i hp (by simpa using e2)
 ·obtain⟨hm2,wj⟩:=rZ i hm
  by_cases h1:id=n
  ·subst h1
   obtain⟨b1,m1,e1,rfl⟩:=QT e
   exact hP.ij j i b1 b m1 m (Ne.symm wj) hmj hm2 e1 e'
  ·rw[O4 id h1]at e
   exact hP.sep id x i b m (eE id h1 hl) e hm2 e'
 ·rcases ho with⟨id,m,hl,e⟩|⟨h0,i,m,hm,e⟩
  ·by_cases h1:id=n
   ·subst h1
    obtain⟨b1,m1,e1,e2⟩:=QT e
    cases e2
    exact .inr ⟨0,.inr ⟨rfl,j,_,hmj,e1⟩,Nat.le_refl _⟩
   ·rw[O4 id h1]at e
    exact .inr ⟨lo,.inl ⟨id,m,eE id h1 hl,e⟩,Nat.le_refl _⟩
  ·exact .inr ⟨lo,.inr ⟨h0,i,m,(rZ i hm).1,e⟩,Nat.le_refl _⟩
def Pl (g:Gh)(H:Nat→dD)(x:Nat ⊕ Nat)(b lo:Nat):Prop :=
 match x with
 |.inl id=>∃ n,(H id).live∧g.ρ id=some (b,lo,n)
 |.inr j=>lo=0∧∃ n,Mem H j∧g.α j=some (b,n)
theorem j4 {g:Gh}{H:Nat→dD}{w:World}(h:kT g H w){x y:Nat ⊕ Nat}{b lo b' IW:Nat}(dF:x≠y)(hx:Pl g H x b lo)(hy:Pl g H y b' IW):b≠b':=by
 cases x with
 |inl id =>
  obtain⟨n,h1,h2⟩:=hx
  cases y with
  |inl id' =>
   obtain⟨n',FG,QR⟩:=hy
   exact (h.base.inj id id' _ _ (fun e=>dF (by rw[e])) h1 FG h2 QR:b≠b')
  |inr j =>
   obtain⟨_,n',FG,QR⟩:=hy
   exact (h.aX.sep id _ j b' n' h1 h2 FG QR:b≠b')
 |inr j =>
  obtain⟨_,n,h1,h2⟩:=hx
  cases y with
  |inl id' =>
   obtain⟨n',FG,QR⟩:=hy
   exact (h.aX.sep id' _ j b n FG QR h1 h2:b'≠b).symm
  |inr j' =>
   obtain⟨_,n',FG,QR⟩:=hy
   exact h.aX.ij j j' b b' n n' (fun e=>dF (by rw[e])) h1 FG h2 QR
theorem Nm {g:Gh}{H:Nat→dD}{b lo:Nat}:K2 g H b lo↔∃ x,Pl g H x b lo:=by
 constructor
 ·rintro (⟨id,n,h1,h2⟩|⟨h0,j,n,h1,h2⟩)
  ·exact⟨.inl id,n,h1,h2⟩
  ·exact⟨.inr j,h0,n,h1,h2⟩
 ·rintro⟨id|j,h⟩
  ·obtain⟨n,h1,h2⟩:=h;exact .inl ⟨id,n,h1,h2⟩
  ·obtain⟨h0,n,h1,h2⟩:=h;exact .inr ⟨h0,j,n,h1,h2⟩
theorem iH.ghost {g g':Gh}{H H':Nat→dD}{w:World}(h:kT g H w)(hal:¬ ∀ p ms,H p≠.aX ms)(hle:g.up g')(hI:g'.I=g.I)(Fs:∀ k,Hn g' w k (H' k))(aF4:∀ k,H' k=.bX→g'.ρ k=none)
  (Kn:∀ p p' ms kS,H' p=.aX ms→H' p'=.aX kS→p=p') (rZ:∀ p ms j cells,H' p=.aX ms→ms[j]?=some (some cells)→RY g' w j cells) (jq:∀ p ms j,H' p=.aX ms→ms.length≤j→g'.α j=none)
  (f:Nat ⊕ Nat→Nat ⊕ Nat) (hf:∀ x y b lo b' IW,Pl g' H' x b lo→Pl g' H' y b' IW→x≠y→f x≠f y) (hp:∀ x b lo,Pl g' H' x b lo→Pl g H (f x) b lo):iH g H w g' H' w:=by
 have N9:∀ {x y b lo b' IW},x≠y→Pl g' H' x b lo→Pl g' H' y b' IW→b≠b':=fun {x y b lo b' IW} dF hx hy=>j4 h (hf x y b lo b' IW hx hy dF) (hp x b lo hx) (hp y b' IW hy)
 refine⟨fun NQ=>absurd NQ hal,hle,⟨⟨fun b o v e=>h.base.AY b o v (by rw[← hI];exact e),Fs,aF4,fun k k' x x' dF hl oI e e'=>?_⟩,Kn,rZ,jq,fun id x j b n hl e hm e'=>?_,fun j j' b b' n n' dF hm XJ e e'=>?_⟩,.refl _ _,fun b o v e=>.inl (by rw[← hI];exact e),fun b lo ho=>?_⟩
 ·obtain⟨b,lo,n⟩:=x
  obtain⟨b',IW,n'⟩:=x'
  exact N9 (x:=.inl k) (y:=.inl k') (fun e=>dF (by cases e;rfl)) ⟨n,hl,e⟩ ⟨n',oI,e'⟩
 ·obtain⟨b1,lo,n1⟩:=x
  exact N9 (x:=.inl id) (y:=.inr j) (fun e=>by cases e) ⟨n1,hl,e⟩ ⟨rfl,n,hm,e'⟩
 ·exact N9 (x:=.inr j) (y:=.inr j') (fun e=>dF (by cases e;rfl)) ⟨rfl,n,hm,e⟩ ⟨rfl,n',XJ,e'⟩
 ·obtain⟨x,hx⟩:=Nm.1 ho
  exact .inr ⟨lo,Nm.2 ⟨f x,hp x b lo hx⟩,Nat.le_refl _⟩
theorem Hn.up {g g':Gh}{w:World}{k:Nat}{e:dD}(hle:g.up g')(hI:g'.I=g.I)(gO:g'.ρ k=g.ρ k)(h:Hn g w k e):Hn g' w k e:=by
 cases e with
 |bX=>trivial
 |dead=>trivial
 |box l =>
  obtain⟨b,m,cs,T,fr,e1,e2,e3,e4,e5,e6,e7⟩:=h
  exact⟨b,m,cs,T,fr,gO.trans e1,e2,e3,e4,e5,fun i x hx=>let ⟨c,hc,hv⟩:=e6 i x hx;⟨c,hc,hv.rD hle⟩,fun o=>by rw[hI];exact e7 o⟩
 |eD l =>
  rcases h with⟨e0,e1⟩|⟨b,m,cs,T,fr,e1,e2,e3,e4,e5,e6,e7⟩
  ·exact .inl ⟨gO.trans e0,e1⟩
  ·exact .inr ⟨b,m,cs,T,fr,gO.trans e1,e2,e3,e4,e5,fun i x hx=>let ⟨c,hc,hv⟩:=e6 i x hx;⟨c,hc,hv.rD hle⟩,fun o=>by rw[hI];exact e7 o⟩
 |Aa l =>
  obtain⟨b,m,e1,e2⟩:=h
  exact⟨b,m,gO.trans e1,fun i x hx=>let ⟨c,hc,hv⟩:=e2 i x hx;⟨c,by rw[hI];exact hc,hv.rD hle⟩⟩
 |tail =>
  intro b lo m e
  rw[gO]at e
  obtain⟨cs,T,fr,e2,e3,e4,e5⟩:=h b lo m e
  exact⟨cs,T,fr,e2,e3,e4,fun o ho=>by rw[hI];exact e5 o ho⟩
 |yU ps asg body ts =>
  obtain⟨l,fn,tm,df,e1,e2,e3⟩:=h
  exact⟨l,fn,tm,df,gO.trans e1,e2,e3.rD hle⟩
 |Qa c =>
  obtain⟨l,r,e1,e2⟩:=h
  exact⟨l,r,gO.trans e1,e2⟩
 |aX ms=>exact gO.trans h
theorem RY.up {g g':Gh}{w:World}{j:Nat}{cells:List AV}(hle:g.up g')(hI:g'.I=g.I)(QT:g'.α j=g.α j)(h:RY g w j cells):RY g' w j cells:=by
 rcases h with⟨h0,hc⟩|⟨b,m,cs,T,fr,e1,e2,e3,e4,e5,e6,e7⟩
 ·exact .inl ⟨QT.trans h0,hc⟩
 ·exact .inr ⟨b,m,cs,T,fr,QT.trans e1,e2,e3,e4,e5,fun i x hx=>let ⟨c,hc,hv⟩:=e6 i x hx;⟨c,hc,hv.rD hle⟩,fun o=>by rw[hI];exact e7 o⟩
def Od (g:Gh)(n j:Nat):Gh:={ g with α:=fun k=>if k=j then (g.ρ n).map (fun p=>(p.1,p.2.2)) else g.α k }
theorem iH.aEl {g:Gh}{H:Nat→dD}{w:World}(h:kT g H w){p n j:Nat}{ms:List (Option (List AV))}{cells:List AV}(hp:H p=.aX ms)(hn:H n=.eD cells)
  (hj:(ms[j]?=some none∧∀ x,g.α j=some x→g.ρ n=some (x.1,0,x.2))∨j=ms.length) :
  iH g H w (Od g n j) (eQ (eQ H n .dead) p (.aX (if j < ms.length then ms.set j (some cells) else ms++[some cells]))) w:=by
 have hW:=h.base
 have hP:=h.aX
 have hnp:n≠p:=fun e=>by subst e;rw[hn]at hp;cases hp
 generalize hms:(if j < ms.length then ms.set j (some cells) else ms++[some cells])=kS
 have U9:kS[j]?=some (some cells):=by
  rw[← hms]
  rcases hj with⟨h1,_⟩|h1
  ·have wk:=(List.getElem?_eq_some_iff.1 h1).1
   rw[if_pos wk,List.getElem?_set_self wk]
  ·subst h1;rw[if_neg (by omega)];simp
 have hji:∀ i,i≠j→kS[i]?=ms[i]?:=fun i hi=>by
  rw[← hms]
  rcases hj with⟨h1,_⟩|h1
  ·have wk:=(List.getElem?_eq_some_iff.1 h1).1
   rw[if_pos wk,List.getElem?_set_ne (Ne.symm hi)]
  ·subst h1
   rw[if_neg (by omega),List.getElem?_append]
   split
   ·rfl
   ·rename_i h2
    rw[List.getElem?_eq_none (show ms.length≤i by omega),List.getElem?_eq_none (by simp;omega)]
 have hlen:ms.length≤kS.length∧j < kS.length:=⟨by rw[← hms];split<;>simp,(List.getElem?_eq_some_iff.1 U9).1⟩
 have aCG:(Od g n j).α j=(g.ρ n).map (fun p=>(p.1,p.2.2)):=by simp[Od]
 have aCH:∀ k,k≠j→(Od g n j).α k=g.α k:=fun k hk=>by simp[Od,hk]
 have hle:g.up (Od g n j):=⟨fun _ _ _ e=>e,fun _ _ e=>e,fun k x e=>by
  by_cases hk:k=j
  ·subst hk
   rw[aCG]
   rcases hj with⟨_,h2⟩|h2
   ·rw[h2 _ e];rfl
   ·rw[hP.new p ms k hp (by omega)]at e;cases e
  ·rw[aCH k hk];exact e⟩
 have hH:∀ k,k≠n→k≠p→eQ (eQ H n .dead) p (.aX kS) k=H k:=fun k h1 h2=>by rw[aM _ _ h2,aM _ _ h1]
 have hHn:eQ (eQ H n .dead) p (.aX kS) n=.dead:=by rw[aM _ _ hnp,aP]
 have eu:eQ (eQ H n .dead) p (.aX kS) p=.aX kS:=aP _ _ _
 have FM:∀ q Ub,eQ (eQ H n .dead) p (.aX kS) q=.aX Ub→q=p∧Ub=kS:=fun q Ub e=>by
  by_cases h1:q=n
  ·subst h1;rw[hHn]at e;cases e
  ·by_cases h2:q=p
   ·subst h2;rw[eu]at e;cases e;exact⟨rfl,rfl⟩
   ·rw[hH q h1 h2]at e;exact absurd (hP.one q p _ _ e hp) h2
 have rZ:∀ i,i≠j→Mem (eQ (eQ H n .dead) p (.aX kS)) i→Mem H i:=fun i hi ⟨q,Ub,c,e1,e2⟩=>by
  obtain⟨rfl,rfl⟩:=FM q Ub e1
  rw[hji i hi]at e2
  exact⟨q,ms,c,hp,e2⟩
 have hnl:(H n).live:=by rw[hn];trivial
 have eE:∀ k,(eQ (eQ H n .dead) p (.aX kS) k).live→k≠n∧(H k).live:=fun k hl=>by
  by_cases h1:k=n
  ·subst h1;rw[hHn]at hl;exact hl.elim
  ·by_cases h2:k=p
   ·subst h2;exact⟨h1,by rw[hp];trivial⟩
   ·rw[hH k h1 h2]at hl;exact⟨h1,hl⟩
 have hgn:=hW.zD n
 rw[hn]at hgn
 refine iH.ghost h (fun NQ=>absurd hp (NQ p ms)) hle rfl (fun k=>?_) (fun k hk=>?_) (fun q q' Ub ms2 e1 e2=>(FM q _ e1).1.trans (FM q' _ e2).1.symm) (fun q Ub i c e1 e2=>?_) (fun q Ub i e1 e2=>?_) (fun x=>if x=.inr j then .inl n else x) (fun x y b lo b' IW hx hy dF=>?_) (fun x b lo hx=>?_)
 ·by_cases h1:k=n
  ·subst h1;rw[hHn];trivial
  ·by_cases h2:k=p
   ·subst h2;rw[eu];exact hW.CH hp
   ·rw[hH k h1 h2];exact (hW.zD k).up hle rfl rfl
 ·by_cases h1:k=n
  ·subst h1;rw[hHn]at hk;cases hk
  ·by_cases h2:k=p
   ·subst h2;rw[eu]at hk;cases hk
   ·rw[hH k h1 h2]at hk;exact hW.fresh k hk
 ·obtain⟨rfl,rfl⟩:=FM q Ub e1
  by_cases hi:i=j
  ·subst hi
   rw[U9]at e2
   cases e2
   rcases hgn with⟨e0,e1⟩|⟨b,m,cs,T,fr,e1,e2,e3,e4,e5,e6,e7⟩
   ·exact .inl ⟨by rw[aCG,e0];rfl,e1⟩
   ·exact .inr ⟨b,m,cs,T,fr,by rw[aCG,e1];rfl,e2,e3,e4,e5,fun i x hx=>let ⟨c,hc,hv⟩:=e6 i x hx;⟨c,hc,hv.rD hle⟩,e7⟩
  ·rw[hji i hi]at e2
   exact (hP.mem q ms i c hp e2).up hle rfl (aCH i hi)
 ·obtain⟨rfl,rfl⟩:=FM q Ub e1
  rw[aCH i (by omega)]
  exact hP.new q ms i hp (by omega)
 ·have hxn:∀ {z b lo},Pl (Od g n j) (eQ (eQ H n .dead) p (.aX kS)) z b lo→z≠.inl n:=fun {z b lo} hz e=>by
   subst e
   obtain⟨_,hl,_⟩:=hz
   exact (eE n hl).1 rfl
  show (if x=.inr j then _ else x)≠(if y=.inr j then _ else y)
  split
  ·rename_i h1
   rw[if_neg (fun e=>dF (h1.trans e.symm))]
   exact (hxn hy).symm
  ·split
   ·exact hxn hx
   ·exact dF
 ·show Pl g H (if x=.inr j then _ else x) b lo
  split
  ·rename_i h1
   subst h1
   obtain⟨h0,m,hm,e⟩:=hx
   rw[aCG]at e
   rcases hgn with⟨e0,e1⟩|⟨b',m',cs,T,fr,e1,_⟩
   ·rw[e0]at e;cases e
   ·rw[e1]at e
    cases e
    exact⟨_,hnl,by rw[h0];exact e1⟩
  ·rename_i h1
   cases x with
   |inl id=>obtain⟨m,hl,e⟩:=hx;exact⟨m,(eE id hl).2,e⟩
   |inr i =>
    have hi:i≠j:=fun e=>h1 (by rw[e])
    obtain⟨h0,m,hm,e⟩:=hx
    exact⟨h0,m,rZ i hi hm,by rw[← aCH i hi];exact e⟩
theorem kT.of {g:Gh}{H:Nat→dD}{w:World}(AY:∀ b o v,g.I b o=some v→w.cell? ⟨b,o,none⟩=some v)(zD:∀ k,Hn g w k (H k))(fresh:∀ k,H k=.bX→g.ρ k=none)
  (one:∀ p p' ms kS,H p=.aX ms→H p'=.aX kS→p=p') (mem:∀ p ms j cells,H p=.aX ms→ms[j]?=some (some cells)→RY g w j cells) (new:∀ p ms j,H p=.aX ms→ms.length≤j→g.α j=none)
  (N9:∀ {x y:Nat ⊕ Nat} {b lo b' IW:Nat},x≠y→Pl g H x b lo→Pl g H y b' IW→b≠b'):kT g H w:=by
 refine⟨⟨AY,zD,fresh,fun k k' x x' dF hl oI e e'=>?_⟩,one,mem,new,fun id x j b n hl e hm e'=>?_,fun j j' b b' n n' dF hm XJ e e'=>?_⟩
 ·obtain⟨b,lo,n⟩:=x
  obtain⟨b',IW,n'⟩:=x'
  exact N9 (x:=.inl k) (y:=.inl k') (fun e=>dF (by cases e;rfl)) ⟨n,hl,e⟩ ⟨n',oI,e'⟩
 ·obtain⟨b1,lo,n1⟩:=x
  exact N9 (x:=.inl id) (y:=.inr j) (fun e=>by cases e) ⟨n1,hl,e⟩ ⟨rfl,n,hm,e'⟩
 ·exact N9 (x:=.inr j) (y:=.inr j') (fun e=>dF (by cases e;rfl)) ⟨rfl,n,hm,e⟩ ⟨rfl,n',XJ,e'⟩
theorem aEz {g:Gh}{H:Nat→dD}{w:World}(h:kT g H w){x:Nat ⊕ Nat}{b lo:Nat}(hx:Pl g H x b lo):b < w.heap.size∧∀ o,lo≤o→g.I b o=none:=by
 cases x with
 |inl id =>
  obtain⟨n,h1,h2⟩:=hx
  obtain⟨o,e,h4⟩:=h.base.Cu h1 h2
  exact⟨cU e,h4⟩
 |inr j =>
  obtain⟨_,n,h1,h2⟩:=hx
  obtain⟨cs,T,fr,e,h4⟩:=h.aX.at h1 h2
  exact⟨cU e,fun o _=>h4 o⟩
theorem Hn.aI7 {g g':Gh}{w w':World}{id:Nat}{e:dD}(hle:g.up g')(h:Hn g w id e)(gO:g'.ρ id=g.ρ id)
  (hb:∀ b lo n,e.live→g.ρ id=some (b,lo,n)→w'.heap[b]?=w.heap[b]?∧∀ o,lo≤o→g'.I b o=g.I b o):Hn g' w' id e:=by
 cases e with
 |bX=>trivial
 |dead=>trivial
 |box cells =>
  obtain⟨b,n,cs,T,fr,e1,e2,e3,e4,e5,e6,e7⟩:=h
  obtain⟨h1,h2⟩:=hb b 0 n trivial e1
  exact⟨b,n,cs,T,fr,gO.trans e1,h1.trans e2,e3,e4,e5,fun k x hk=>let ⟨c,hc,hv⟩:=e6 k x hk;⟨c,hc,hv.rD hle⟩,fun o=>(h2 o (Nat.zero_le _)).trans (e7 o)⟩
 |Aa cells =>
  obtain⟨b,n,e1,e2⟩:=h
  exact⟨b,n,gO.trans e1,fun k x hk=>let ⟨c,hc,hv⟩:=e2 k x hk;⟨c,hle.I _ _ _ hc,hv.rD hle⟩⟩
 |tail =>
  intro b lo n e1
  rw[gO]at e1
  obtain⟨cs,T,fr,e2,e3,e4,e5⟩:=h b lo n e1
  obtain⟨h1,h2⟩:=hb b lo n trivial e1
  exact⟨cs,T,fr,h1.trans e2,e3,e4,fun o ho=>(h2 o ho).trans (e5 o ho)⟩
 |eD cells =>
  rcases h with⟨e0,e0'⟩|⟨b,n,cs,T,fr,e1,e2,e3,e4,e5,e6,e7⟩
  ·exact .inl ⟨gO.trans e0,e0'⟩
  ·obtain⟨h1,h2⟩:=hb b 0 n trivial e1
   exact .inr ⟨b,n,cs,T,fr,gO.trans e1,h1.trans e2,e3,e4,e5,fun k x hk=>let ⟨c,hc,hv⟩:=e6 k x hk;⟨c,hc,hv.rD hle⟩,fun o=>(h2 o (Nat.zero_le _)).trans (e7 o)⟩
 |yU ps asg body ts =>
  obtain⟨l,fn,tm,df,e1,e2,e3⟩:=h
  obtain⟨h1,_⟩:=hb l 0 0 trivial e1
  exact⟨l,fn,tm,df,gO.trans e1,h1.trans e2,e3.rD hle⟩
 |Qa c =>
  obtain⟨l,r,e1,e2,e3,e4⟩:=h
  obtain⟨h1,_⟩:=hb l 0 0 trivial e1
  exact⟨l,r,gO.trans e1,h1.trans e2,e3,e4⟩
 |aX ms=>exact gO.trans h
theorem iH.drew {g:Gh}{H:Nat→dD}{w:World}(h:kT g H w)(n:Nat):iH g H w g H { w with drawn:=n }:=(fC.drew h.base n).xa h.aX fun _ _=>Iff.rfl
theorem Jg {H:Nat→dD}{id:Nat}{e:dD}(h1:∀ ms,H id≠.aX ms)(h2:∀ ms,e≠.aX ms)(p:Nat)(ms:List (Option (List AV))):eQ H id e p=.aX ms↔H p=.aX ms:=by
 by_cases hp:p=id
 ·subst hp;rw[aP];exact⟨fun e'=>absurd e' (h2 ms),fun e'=>absurd e' (h1 ms)⟩
 ·rw[aM _ _ hp]
theorem kT.drew {g:Gh}{H:Nat→dD}{w:World}(h:kT g H w)(n:Nat):kT g H { w with drawn:=n }:=(iH.drew h n).rel
theorem LA.stay {g:Gh}{H:Nat→dD}{w w':World}(h:LA g H w)(hs:∀ (b:Nat) (cs:Array Value) (T:TypeId) (fr:Nat×Nat),w.heap[b]?=some (Obj.cells cs T fr)→w'.heap[b]?=some (Obj.cells cs T fr)):LA g H w' :=
 ⟨h.one,fun p ms j cells h1 h2=>by
  rcases h.mem p ms j cells h1 h2 with h0|⟨b,n,cs,T,fr,e1,e2,e3⟩
  ·exact .inl h0
  ·exact .inr ⟨b,n,cs,T,fr,e1,hs _ _ _ _ e2,e3⟩,h.new,h.sep,h.ij⟩
theorem ph {g:Gh}{n j b m:Nat}(e:g.α j=some (b,m)):(Is g n j).ρ n=some (b,0,m):=by simp[Is,eo,e]
theorem O5 {g:Gh}{n j b lo m:Nat}(e:g.ρ n=some (b,lo,m)):(Od g n j).α j=some (b,m):=by simp[Od,e]
theorem av {g:Gh}{n j off len c sz:Nat}{nn:Bool}{v:Value}(h:aF g (.Bw (j+1) off len c nn sz) v):aF (Is g n j) (.nG n off len c nn sz) v:=by
 cases h with
 |Bw e h1 h2 h3=>exact .nG (ph e) h1 h2 h3
 |LV h1=>exact .Jr h1
theorem aAN {g:Gh}{n j off:Nat}{v:Value}(h:aF g (.qO (j+1) off) v):aF (Is g n j) (.ptr n off) v:=by
 cases h with
 |qO e=>exact .ptr (ph e)
theorem aAE {g:Gh}{n j off len c sz:Nat}{nn:Bool}{v:Value}(h:aF g (.nG n off len c nn sz) v):aF (Od g n j) (.Bw (j+1) off len c nn sz) v:=by
 cases h with
 |nG e h1 h2 h3=>exact .Bw (O5 e) h1 h2 h3
 |Jr h1=>exact .LV h1
theorem aAC {g:Gh}{n j off len sz:Nat}{v:Value}(h:aF g (.Fk n off len sz) v):aF (Od g n j) (.Bw (j+1) off len len false sz) v:=by
 cases h with
 |Fk e h1 h2=>exact .Bw (O5 e) (Nat.le_refl _) h1 h2
 |Ml=>exact .LV (fun e=>by cases e)
theorem aAD {g:Gh}{n j off:Nat}{v:Value}(h:aF g (.ptr n off) v):aF (Od g n j) (.qO (j+1) off) v:=by
 cases h with
 |ptr e=>exact .qO (O5 e)
end Go.Ev
