/-
A pool of blocks that stand inside other blocks' cells: members are told by their numbers,of which the ghost knows the blocks.
-/
import Derived.Test.YtddpmkmgbdedlaaGreatqEvI
set_option linter.unusedVariables false
set_option linter.unusedSimpArgs false
namespace Go.Ev
open Go
def Mem (H:Nat→Ent) (j:Nat):Prop:=∃ p ms c,H p=.pool ms∧ms[j]?=some (some c)
def memRel (g:Gh) (w:World) (j:Nat) (cells:List AV):Prop:=(g.α j=none∧cells=[])∨∃ (b n:Nat) (cs:Array Value) (T:TypeId) (fr:Nat×Nat),g.α j=some (b,n)∧w.heap[b]?=some (.cells cs T fr)∧cs.size=n∧xO fr 0 n∧cells.length≤n ∧
   (∀ (k:Nat) (x:AV),cells[k]?=some x→∃ c,cs[k]?=some c∧VRel g x c)∧∀ o,g.I b o=none
structure PoolOk (g:Gh) (H:Nat→Ent) (w:World):Prop where
 one:∀ p p' ms ms',H p=.pool ms→H p'=.pool ms'→p=p'
 mem:∀ p ms j cells,H p=.pool ms→ms[j]?=some (some cells)→memRel g w j cells
 new:∀ p ms j,H p=.pool ms→ms.length≤j→g.α j=none
 sep:∀ id x j b n,(H id).live→g.ρ id=some x→Mem H j→g.α j=some (b,n)→x.1≠b
 dis:∀ j j' b b' n n',j≠j'→Mem H j→Mem H j'→g.α j=some (b,n)→g.α j'=some (b',n')→b≠b'
structure WRelP (g:Gh) (H:Nat→Ent) (w:World):Prop where
 base:WRel g H w
 pool:PoolOk g H w
def nL (g:Gh) (H:Nat→Ent) (b lo:Nat):Prop:=(∃ id n,(H id).live∧g.ρ id=some (b,lo,n))∨(lo=0∧∃ j n,Mem H j∧g.α j=some (b,n))
def jM (g:Gh) (H:Nat→Ent) (b o:Nat):Prop:=∃ lo,nL g H b lo∧lo≤o
theorem MutOf.toP {g:Gh} {H:Nat→Ent} {b o:Nat} (h:MutOf g H b o):jM g H b o:=let ⟨id,lo,n,hl,e,ho⟩:=h; ⟨lo,.inl ⟨id,n,hl,e⟩,ho⟩
structure EvoP (g:Gh) (H:Nat→Ent) (w:World) (g':Gh) (H':Nat→Ent) (w':World):Prop where
 al:(∀ p ms,H p≠.pool ms)→g'.α=g.α∧∀ p ms,H' p≠.pool ms
 le:g.up g'
 rel:WRelP g' H' w'
 fr:Fr (jM g H) w w'
 grow:∀ b o v,g'.I b o=some v→g.I b o=some v∨w.heap.size≤b∨jM g H b o
 own:∀ b lo,nL g' H' b lo→w.heap.size≤b∨∃ lo0,nL g H b lo0∧lo0≤lo
theorem EvoP.refl {g:Gh} {H:Nat→Ent} {w:World} (h:WRelP g H w):EvoP g H w g H w :=
 ⟨fun h=>⟨rfl,h⟩,g.up_refl,h,.refl _ _,fun _ _ _ e=>.inl e,fun b lo h=>.inr ⟨lo,h,Nat.le_refl _⟩⟩
theorem EvoP.mut {g g':Gh} {H H':Nat→Ent} {w w':World} (h:EvoP g H w g' H' w') {b o:Nat} (hm:jM g' H' b o):w.heap.size≤b∨jM g H b o:=by
 obtain ⟨lo,hl,ho⟩:=hm
 rcases h.own b lo hl with hb | ⟨lo0,h0,hlo⟩
 ·exact .inl hb
 ·exact .inr ⟨lo0,h0,Nat.le_trans hlo ho⟩
theorem EvoP.trans {g g' g'':Gh} {H H' H'':Nat→Ent} {w w' w'':World} (h:EvoP g H w g' H' w') (h':EvoP g' H' w' g'' H'' w''):EvoP g H w g'' H'' w'':=by
 refine ⟨fun hn=>⟨(h'.al (h.al hn).2).1.trans (h.al hn).1,(h'.al (h.al hn).2).2⟩,h.le.trans h'.le,h'.rel,h.fr.trans h'.fr (fun b o hb hm=>?_),fun b o v e=>?_,fun b lo hl=>?_⟩
 ·rcases h.mut hm with h1 | h1
  ·omega
  ·exact h1
 ·rcases h'.grow b o v e with h1 | h1 | h1
  ·exact h.grow b o v h1
  ·exact .inr (.inl (Nat.le_trans h.fr.size h1))
  ·exact .inr (h.mut h1)
 ·rcases h'.own b lo hl with h1 | ⟨lo0,h0,hlo⟩
  ·exact .inl (Nat.le_trans h.fr.size h1)
  ·rcases h.own b lo0 h0 with h2 | ⟨lo1,h1,hlo1⟩
   ·exact .inl h2
   ·exact .inr ⟨lo1,h1,Nat.le_trans hlo1 hlo⟩
theorem aLW {M:Nat→Nat→Prop} {w w':World} (h:Fr M w w') {b:Nat} (hb:b < w.heap.size) (hM:∀ o,¬ M b o):w'.heap[b]?=w.heap[b]?:=by
 have aH:w.heap[b]?=some w.heap[b]:=Array.getElem?_eq_getElem hb
 cases ho:w.heap[b] with
 | cells cs T fr =>
  rw [ho] at aH
  obtain ⟨cs',fr',e,hs,hc,hf⟩:=h.cells b cs T fr aH
  have:fr'=fr:=hf.elim id fun ⟨o,h⟩=>absurd h (hM o)
  subst this
  have:cs'=cs:=by
   apply Array.ext hs
   intro i h1 h2
   have:=hc i (hM i)
   rw [Array.getElem?_eq_getElem h1,Array.getElem?_eq_getElem h2] at this
   exact Option.some.inj this
  rw [aH,e,this]
 | _ =>
  rw [ho] at aH
  rw [aH]
  exact h.objs b _ aH (by intros; simp) hM
theorem PoolOk.at {g:Gh} {H:Nat→Ent} {w:World} (h:PoolOk g H w) {j b n:Nat} (hm:Mem H j) (e:g.α j=some (b,n)):∃ cs T fr,w.heap[b]?=some (.cells cs T fr)∧∀ o,g.I b o=none:=by
 obtain ⟨p,ms,c,h1,h2⟩:=hm
 rcases h.mem p ms j c h1 h2 with ⟨h0,_⟩ | ⟨b',n',cs,T,fr,e1,e2,e3,e4,e5,e6,e7⟩
 ·rw [e] at h0; cases h0
 ·rw [e] at e1; cases e1
  exact ⟨cs,T,fr,e2,e7⟩
theorem Evo.toP {g g':Gh} {H H':Nat→Ent} {w w':World} (h:Evo g H w g' H' w') (hp:PoolOk g H w) (hk:∀ p ms,H' p=.pool ms↔H p=.pool ms):EvoP g H w g' H' w':=by
 have hα:=h.le.α
 have hmem:∀ j,Mem H' j↔Mem H j:=fun j=>⟨fun ⟨p,ms,c,h1,h2⟩=>⟨p,ms,c,(hk p ms).1 h1,h2⟩,fun ⟨p,ms,c,h1,h2⟩=>⟨p,ms,c,(hk p ms).2 h1,h2⟩⟩
 have hno:∀ {j b n},Mem H j→g.α j=some (b,n)→∀ o,¬ MutOf g H b o:=fun {j b n} hm e o ⟨id,lo,m,hl,e',_⟩=>hp.sep id _ j b n hl e' hm e rfl
 refine ⟨fun hn=>⟨hα,fun p ms e=>hn p ms ((hk p ms).1 e)⟩,h.le.up,⟨h.rel,fun p p' ms ms' h1 h2=>hp.one p p' ms ms' ((hk _ _).1 h1) ((hk _ _).1 h2),fun p ms j cells h1 h2=>?_,fun p ms j h1 h2=>by rw [hα]; exact hp.new p ms j ((hk _ _).1 h1) h2,fun id x j b n hl e hm e'=>?_,
  fun j j' b b' n n' hne hm hm' e e'=>hp.dis j j' b b' n n' hne ((hmem j).1 hm) ((hmem j').1 hm') (by rw [← hα]; exact e) (by rw [← hα]; exact e')⟩,h.fr.mono fun b o _ hm=>hm.toP,fun b o v e=>?_,fun b lo hl=>?_⟩
 ·have h1':=(hk p ms).1 h1
  rcases hp.mem p ms j cells h1' h2 with ⟨h0,hc⟩ | ⟨b,n,cs,T,fr,e1,e2,e3,e4,e5,e6,e7⟩
  ·exact .inl ⟨by rw [hα]; exact h0,hc⟩
  ·have hm:Mem H j:=⟨p,ms,cells,h1',h2⟩
   have hb:=cZ e2
   refine .inr ⟨b,n,cs,T,fr,by rw [hα]; exact e1,(aLW h.fr hb (hno hm e1)).trans e2,e3,e4,e5,fun k x hx=>let ⟨c,hc,hv⟩:=e6 k x hx; ⟨c,hc,hv.mono h.le⟩,fun o=>?_⟩
   cases hI:g'.I b o with
   | none=>rfl
   | some v =>
    rcases h.grow b o v hI with h' | h' | h'
    ·rw [e7 o] at h'; cases h'
    ·omega
    ·exact absurd h' (hno hm e1 o)
 ·rw [hα] at e'
  have hm':=(hmem j).1 hm
  obtain ⟨cs,T,fr,e2,_⟩:=hp.at hm' e'
  have hb:=cZ e2
  obtain ⟨b1,lo,n1⟩:=x
  rcases h.own id b1 lo n1 hl e with h1 | ⟨id0,lo0,n0,h1,h2,_⟩
  ·show b1≠b; omega
  ·exact (hp.sep id0 _ j b n h1 h2 hm' e':b1≠b)
 ·rcases h.grow b o v e with h' | h' | h'
  ·exact .inl h'
  ·exact .inr (.inl h')
  ·exact .inr (.inr h'.toP)
 ·rcases hl with ⟨id,n,h1,h2⟩ | ⟨h0,j,n,h1,h2⟩
  ·rcases h.own id b lo n h1 h2 with h' | ⟨id0,lo0,n0,k1,k2,k3⟩
   ·exact .inl h'
   ·exact .inr ⟨lo0,.inl ⟨id0,n0,k1,k2⟩,k3⟩
  ·exact .inr ⟨lo,.inr ⟨h0,j,n,(hmem j).1 h1,by rw [← hα]; exact h2⟩,Nat.le_refl _⟩
def α2ρ (x:Option (Nat×Nat)):Option (Nat×Nat×Nat):=x.map fun p=>(p.1,0,p.2)
theorem WRel.pool_ρ {g:Gh} {H:Nat→Ent} {w:World} (h:WRel g H w) {p:Nat} {ms:List (Option (List AV))} (hp:H p=.pool ms):g.ρ p=none:=by
 have:=h.ent p
 rw [hp] at this
 exact this
def fG (g:Gh) (n j:Nat):Gh:={ g with ρ:=fun k=>if k=n then α2ρ (g.α j) else g.ρ k }
theorem EvoP.lend {g:Gh} {H:Nat→Ent} {w:World} (h:WRelP g H w) {p n j:Nat} {ms:List (Option (List AV))} {cells:List AV} (hp:H p=.pool ms) (hj:ms[j]?=some (some cells)) (hn:H n=.unborn) :
  EvoP g H w (fG g n j) (upd (upd H p (.pool (ms.set j none))) n (.gbx cells)) w:=by
 have hW:=h.base
 have hP:=h.pool
 have hnp:n≠p:=fun e=>by subst e; rw [hn] at hp; cases hp
 have hpρ:=hW.pool_ρ hp
 have hnρ:=hW.fresh n hn
 have hmj:Mem H j:=⟨p,ms,cells,hp,hj⟩
 have hjl:j < ms.length:=(List.getElem?_eq_some_iff.1 hj).1
 have hρn:(fG g n j).ρ n=α2ρ (g.α j):=by simp [fG]
 have hρk:∀ k,k≠n→(fG g n j).ρ k=g.ρ k:=fun k hk=>by simp [fG,hk]
 have hle:g.up (fG g n j):=⟨fun _ _ _ e=>e,fun id x e=>by
  by_cases hid:id=n
  ·subst hid; rw [hnρ] at e; cases e
  ·rw [hρk id hid]; exact e,fun _ _ e=>e⟩
 have hH:∀ k,k≠n→k≠p→upd (upd H p (.pool (ms.set j none))) n (.gbx cells) k=H k:=fun k h1 h2=>by rw [aJ _ _ h1,aJ _ _ h2]
 have hHn:upd (upd H p (.pool (ms.set j none))) n (.gbx cells) n=.gbx cells:=aR _ _ _
 have hHp:upd (upd H p (.pool (ms.set j none))) n (.gbx cells) p=.pool (ms.set j none):=by rw [aJ _ _ (Ne.symm hnp),aR]
 have hpool:∀ q ms',upd (upd H p (.pool (ms.set j none))) n (.gbx cells) q=.pool ms'→q=p∧ms'=ms.set j none:=fun q ms' e=>by
  by_cases h1:q=n
  ·subst h1; rw [hHn] at e; cases e
  ·by_cases h2:q=p
   ·subst h2; rw [hHp] at e; cases e; exact ⟨rfl,rfl⟩
   ·rw [hH q h1 h2] at e; exact absurd (hP.one q p _ _ e hp) h2
 have hmem:∀ i,Mem (upd (upd H p (.pool (ms.set j none))) n (.gbx cells)) i→Mem H i∧i≠j:=fun i ⟨q,ms',c,e1,e2⟩=>by
  obtain ⟨rfl,rfl⟩:=hpool q ms' e1
  have hij:i≠j:=fun e=>by subst e; rw [List.getElem?_set_self hjl] at e2; cases e2
  rw [List.getElem?_set_ne (Ne.symm hij)] at e2
  exact ⟨⟨q,ms,c,hp,e2⟩,hij⟩
 have hlive:∀ k,k≠n→(upd (upd H p (.pool (ms.set j none))) n (.gbx cells) k).live→(H k).live:=fun k h1 hl=>by
  by_cases h2:k=p
  ·subst h2; rw [hp]; trivial
  ·rw [hH k h1 h2] at hl; exact hl
 have hα:∀ {x},(fG g n j).ρ n=some x→∃ b m,g.α j=some (b,m)∧x=(b,0,m):=fun {x} e=>by
  rw [hρn] at e
  unfold α2ρ at e
  cases ha:g.α j with
  | none=>rw [ha] at e; cases e
  | some y=>rw [ha] at e; cases e; exact ⟨_,_,rfl,rfl⟩
 refine ⟨fun hno=>absurd hp (hno p ms),hle,⟨⟨hW.imm,fun k=>?_,fun k hk=>?_,fun k k' x x' hne hl hl' e e'=>?_⟩,fun q q' ms1 ms2 e1 e2=>(hpool q _ e1).1.trans (hpool q' _ e2).1.symm,fun q ms1 i c e1 e2=>?_,fun q ms1 i e1 e2=>?_,fun id x i b m hl e hm e'=>?_,
  fun i i' b b' m m' hne hm hm' e e'=>hP.dis i i' b b' m m' hne (hmem i hm).1 (hmem i' hm').1 e e'⟩,.refl _ _,fun _ _ _ e=>.inl e,fun b lo ho=>?_⟩
 ·by_cases h1:k=n
  ·subst h1
   rw [hHn]
   rcases hP.mem p ms j cells hp hj with ⟨h0,hc⟩ | ⟨b,m,cs,T,fr,e1,e2,e3,e4,e5,e6,e7⟩
   ·exact .inl ⟨by rw [hρn,h0]; rfl,hc⟩
   ·exact .inr ⟨b,m,cs,T,fr,by rw [hρn,e1]; rfl,e2,e3,e4,e5,fun i x hx=>let ⟨c,hc,hv⟩:=e6 i x hx; ⟨c,hc,hv.monoU hle⟩,e7⟩
  ·by_cases h2:k=p
   ·subst h2
    rw [hHp]
    show (fG g n j).ρ k=none
    rw [hρk k h1]; exact hpρ
   ·rw [hH k h1 h2]
    have:=hW.ent k
    have hkρ:=hρk k h1
    cases hk:H k with
    | unborn=>trivial
    | dead=>trivial
    | box l =>
     rw [hk] at this
     obtain ⟨b,m,cs,T,fr,e1,e2,e3,e4,e5,e6,e7⟩:=this
     exact ⟨b,m,cs,T,fr,hkρ.trans e1,e2,e3,e4,e5,fun i x hx=>let ⟨c,hc,hv⟩:=e6 i x hx; ⟨c,hc,hv.monoU hle⟩,e7⟩
    | gbx l =>
     rw [hk] at this
     rcases this with ⟨e0,e1⟩ | ⟨b,m,cs,T,fr,e1,e2,e3,e4,e5,e6,e7⟩
     ·exact .inl ⟨hkρ.trans e0,e1⟩
     ·exact .inr ⟨b,m,cs,T,fr,hkρ.trans e1,e2,e3,e4,e5,fun i x hx=>let ⟨c,hc,hv⟩:=e6 i x hx; ⟨c,hc,hv.monoU hle⟩,e7⟩
    | ibox l =>
     rw [hk] at this
     obtain ⟨b,m,e1,e2⟩:=this
     exact ⟨b,m,hkρ.trans e1,fun i x hx=>let ⟨c,hc,hv⟩:=e2 i x hx; ⟨c,hc,hv.monoU hle⟩⟩
    | tail =>
     rw [hk] at this
     intro b lo m e
     rw [hkρ] at e
     exact this b lo m e
    | rcd ps asg body ts =>
     rw [hk] at this
     obtain ⟨l,fn,tm,df,e1,e2,e3⟩:=this
     exact ⟨l,fn,tm,df,hkρ.trans e1,e2,e3.monoU hle⟩
    | rdn c =>
     rw [hk] at this
     obtain ⟨l,r,e1,e2⟩:=this
     exact ⟨l,r,hkρ.trans e1,e2⟩
    | pool ms1=>exact absurd (hP.one k p _ _ hk hp) h2
 ·by_cases h1:k=n
  ·subst h1; rw [hHn] at hk; cases hk
  ·by_cases h2:k=p
   ·subst h2; rw [hHp] at hk; cases hk
   ·rw [hH k h1 h2] at hk; rw [hρk k h1]; exact hW.fresh k hk
 ·by_cases h1:k=n
  ·subst h1
   obtain ⟨b,m,e1,rfl⟩:=hα e
   rw [hρk k' (Ne.symm hne)] at e'
   exact (hP.sep k' x' j b m (hlive k' (Ne.symm hne) hl') e' hmj e1).symm
  ·rw [hρk k h1] at e
   by_cases h2:k'=n
   ·subst h2
    obtain ⟨b,m,e1,rfl⟩:=hα e'
    exact hP.sep k x j b m (hlive k h1 hl) e hmj e1
   ·rw [hρk k' h2] at e'
    exact hW.inj k k' x x' hne (hlive k h1 hl) (hlive k' h2 hl') e e'
 ·obtain ⟨rfl,rfl⟩:=hpool q ms1 e1
  have hij:i≠j:=fun e=>by subst e; rw [List.getElem?_set_self hjl] at e2; cases e2
  rw [List.getElem?_set_ne (Ne.symm hij)] at e2
  rcases hP.mem q ms i c hp e2 with ⟨h0,hc⟩ | ⟨b,m,cs,T,fr,e1,e2,e3,e4,e5,e6,e7⟩
  ·exact .inl ⟨h0,hc⟩
  ·exact .inr ⟨b,m,cs,T,fr,e1,e2,e3,e4,e5,fun i x hx=>let ⟨c,hc,hv⟩:=e6 i x hx; ⟨c,hc,hv.monoU hle⟩,e7⟩
 ·obtain ⟨rfl,rfl⟩:=hpool q ms1 e1
  exact hP.new q ms i hp (by simpa using e2)
 ·obtain ⟨hm2,hij⟩:=hmem i hm
  by_cases h1:id=n
  ·subst h1
   obtain ⟨b1,m1,e1,rfl⟩:=hα e
   exact hP.dis j i b1 b m1 m (Ne.symm hij) hmj hm2 e1 e'
  ·rw [hρk id h1] at e
   exact hP.sep id x i b m (hlive id h1 hl) e hm2 e'
 ·rcases ho with ⟨id,m,hl,e⟩ | ⟨h0,i,m,hm,e⟩
  ·by_cases h1:id=n
   ·subst h1
    obtain ⟨b1,m1,e1,e2⟩:=hα e
    cases e2
    exact .inr ⟨0,.inr ⟨rfl,j,_,hmj,e1⟩,Nat.le_refl _⟩
   ·rw [hρk id h1] at e
    exact .inr ⟨lo,.inl ⟨id,m,hlive id h1 hl,e⟩,Nat.le_refl _⟩
  ·exact .inr ⟨lo,.inr ⟨h0,i,m,(hmem i hm).1,e⟩,Nat.le_refl _⟩
def Pl (g:Gh) (H:Nat→Ent) (x:Nat ⊕ Nat) (b lo:Nat):Prop :=
 match x with
 | .inl id=>∃ n,(H id).live∧g.ρ id=some (b,lo,n)
 | .inr j=>lo=0∧∃ n,Mem H j∧g.α j=some (b,n)
theorem xY {g:Gh} {H:Nat→Ent} {w:World} (h:WRelP g H w) {x y:Nat ⊕ Nat} {b lo b' lo':Nat} (hne:x≠y) (hx:Pl g H x b lo) (hy:Pl g H y b' lo'):b≠b':=by
 cases x with
 | inl id =>
  obtain ⟨n,h1,h2⟩:=hx
  cases y with
  | inl id' =>
   obtain ⟨n',h1',h2'⟩:=hy
   exact (h.base.inj id id' _ _ (fun e=>hne (by rw [e])) h1 h1' h2 h2':b≠b')
  | inr j =>
   obtain ⟨_,n',h1',h2'⟩:=hy
   exact (h.pool.sep id _ j b' n' h1 h2 h1' h2':b≠b')
 | inr j =>
  obtain ⟨_,n,h1,h2⟩:=hx
  cases y with
  | inl id' =>
   obtain ⟨n',h1',h2'⟩:=hy
   exact (h.pool.sep id' _ j b n h1' h2' h1 h2:b'≠b).symm
  | inr j' =>
   obtain ⟨_,n',h1',h2'⟩:=hy
   exact h.pool.dis j j' b b' n n' (fun e=>hne (by rw [e])) h1 h1' h2 h2'
theorem kI {g:Gh} {H:Nat→Ent} {b lo:Nat}:nL g H b lo↔∃ x,Pl g H x b lo:=by
 constructor
 ·rintro (⟨id,n,h1,h2⟩ | ⟨h0,j,n,h1,h2⟩)
  ·exact ⟨.inl id,n,h1,h2⟩
  ·exact ⟨.inr j,h0,n,h1,h2⟩
 ·rintro ⟨id | j,h⟩
  ·obtain ⟨n,h1,h2⟩:=h; exact .inl ⟨id,n,h1,h2⟩
  ·obtain ⟨h0,n,h1,h2⟩:=h; exact .inr ⟨h0,j,n,h1,h2⟩
theorem EvoP.ghost {g g':Gh} {H H':Nat→Ent} {w:World} (h:WRelP g H w) (hal:¬ ∀ p ms,H p≠.pool ms) (hle:g.up g') (hI:g'.I=g.I) (hent:∀ k,EntRel g' w k (H' k)) (hfresh:∀ k,H' k=.unborn→g'.ρ k=none)
  (hone:∀ p p' ms ms',H' p=.pool ms→H' p'=.pool ms'→p=p') (hmem:∀ p ms j cells,H' p=.pool ms→ms[j]?=some (some cells)→memRel g' w j cells) (hnew:∀ p ms j,H' p=.pool ms→ms.length≤j→g'.α j=none)
  (f:Nat ⊕ Nat→Nat ⊕ Nat) (hf:∀ x y b lo b' lo',Pl g' H' x b lo→Pl g' H' y b' lo'→x≠y→f x≠f y) (hp:∀ x b lo,Pl g' H' x b lo→Pl g H (f x) b lo):EvoP g H w g' H' w:=by
 have hinj:∀ {x y b lo b' lo'},x≠y→Pl g' H' x b lo→Pl g' H' y b' lo'→b≠b':=fun {x y b lo b' lo'} hne hx hy=>xY h (hf x y b lo b' lo' hx hy hne) (hp x b lo hx) (hp y b' lo' hy)
 refine ⟨fun hno=>absurd hno hal,hle,⟨⟨fun b o v e=>h.base.imm b o v (by rw [← hI]; exact e),hent,hfresh,fun k k' x x' hne hl hl' e e'=>?_⟩,hone,hmem,hnew,fun id x j b n hl e hm e'=>?_,fun j j' b b' n n' hne hm hm' e e'=>?_⟩,.refl _ _,fun b o v e=>.inl (by rw [← hI]; exact e),fun b lo ho=>?_⟩
 ·obtain ⟨b,lo,n⟩:=x
  obtain ⟨b',lo',n'⟩:=x'
  exact hinj (x:=.inl k) (y:=.inl k') (fun e=>hne (by cases e; rfl)) ⟨n,hl,e⟩ ⟨n',hl',e'⟩
 ·obtain ⟨b1,lo,n1⟩:=x
  exact hinj (x:=.inl id) (y:=.inr j) (fun e=>by cases e) ⟨n1,hl,e⟩ ⟨rfl,n,hm,e'⟩
 ·exact hinj (x:=.inr j) (y:=.inr j') (fun e=>hne (by cases e; rfl)) ⟨rfl,n,hm,e⟩ ⟨rfl,n',hm',e'⟩
 ·obtain ⟨x,hx⟩:=kI.1 ho
  exact .inr ⟨lo,kI.2 ⟨f x,hp x b lo hx⟩,Nat.le_refl _⟩
theorem EntRel.up {g g':Gh} {w:World} {k:Nat} {e:Ent} (hle:g.up g') (hI:g'.I=g.I) (hρ:g'.ρ k=g.ρ k) (h:EntRel g w k e):EntRel g' w k e:=by
 cases e with
 | unborn=>trivial
 | dead=>trivial
 | box l =>
  obtain ⟨b,m,cs,T,fr,e1,e2,e3,e4,e5,e6,e7⟩:=h
  exact ⟨b,m,cs,T,fr,hρ.trans e1,e2,e3,e4,e5,fun i x hx=>let ⟨c,hc,hv⟩:=e6 i x hx; ⟨c,hc,hv.monoU hle⟩,fun o=>by rw [hI]; exact e7 o⟩
 | gbx l =>
  rcases h with ⟨e0,e1⟩ | ⟨b,m,cs,T,fr,e1,e2,e3,e4,e5,e6,e7⟩
  ·exact .inl ⟨hρ.trans e0,e1⟩
  ·exact .inr ⟨b,m,cs,T,fr,hρ.trans e1,e2,e3,e4,e5,fun i x hx=>let ⟨c,hc,hv⟩:=e6 i x hx; ⟨c,hc,hv.monoU hle⟩,fun o=>by rw [hI]; exact e7 o⟩
 | ibox l =>
  obtain ⟨b,m,e1,e2⟩:=h
  exact ⟨b,m,hρ.trans e1,fun i x hx=>let ⟨c,hc,hv⟩:=e2 i x hx; ⟨c,by rw [hI]; exact hc,hv.monoU hle⟩⟩
 | tail =>
  intro b lo m e
  rw [hρ] at e
  obtain ⟨cs,T,fr,e2,e3,e4,e5⟩:=h b lo m e
  exact ⟨cs,T,fr,e2,e3,e4,fun o ho=>by rw [hI]; exact e5 o ho⟩
 | rcd ps asg body ts =>
  obtain ⟨l,fn,tm,df,e1,e2,e3⟩:=h
  exact ⟨l,fn,tm,df,hρ.trans e1,e2,e3.monoU hle⟩
 | rdn c =>
  obtain ⟨l,r,e1,e2⟩:=h
  exact ⟨l,r,hρ.trans e1,e2⟩
 | pool ms=>exact hρ.trans h
theorem memRel.up {g g':Gh} {w:World} {j:Nat} {cells:List AV} (hle:g.up g') (hI:g'.I=g.I) (hα:g'.α j=g.α j) (h:memRel g w j cells):memRel g' w j cells:=by
 rcases h with ⟨h0,hc⟩ | ⟨b,m,cs,T,fr,e1,e2,e3,e4,e5,e6,e7⟩
 ·exact .inl ⟨hα.trans h0,hc⟩
 ·exact .inr ⟨b,m,cs,T,fr,hα.trans e1,e2,e3,e4,e5,fun i x hx=>let ⟨c,hc,hv⟩:=e6 i x hx; ⟨c,hc,hv.monoU hle⟩,fun o=>by rw [hI]; exact e7 o⟩
def gO (g:Gh) (n j:Nat):Gh:={ g with α:=fun k=>if k=j then (g.ρ n).map (fun p=>(p.1,p.2.2)) else g.α k }
theorem EvoP.keepM {g:Gh} {H:Nat→Ent} {w:World} (h:WRelP g H w) {p n j:Nat} {ms:List (Option (List AV))} {cells:List AV} (hp:H p=.pool ms) (hn:H n=.gbx cells)
  (hj:(ms[j]?=some none∧∀ x,g.α j=some x→g.ρ n=some (x.1,0,x.2))∨j=ms.length) :
  EvoP g H w (gO g n j) (upd (upd H n .dead) p (.pool (if j < ms.length then ms.set j (some cells) else ms++[some cells]))) w:=by
 have hW:=h.base
 have hP:=h.pool
 have hnp:n≠p:=fun e=>by subst e; rw [hn] at hp; cases hp
 generalize hms:(if j < ms.length then ms.set j (some cells) else ms++[some cells])=ms'
 have hjj:ms'[j]?=some (some cells):=by
  rw [← hms]
  rcases hj with ⟨h1,_⟩ | h1
  ·have hjl:=(List.getElem?_eq_some_iff.1 h1).1
   rw [if_pos hjl,List.getElem?_set_self hjl]
  ·subst h1; rw [if_neg (by omega)]; simp
 have hji:∀ i,i≠j→ms'[i]?=ms[i]?:=fun i hi=>by
  rw [← hms]
  rcases hj with ⟨h1,_⟩ | h1
  ·have hjl:=(List.getElem?_eq_some_iff.1 h1).1
   rw [if_pos hjl,List.getElem?_set_ne (Ne.symm hi)]
  ·subst h1
   rw [if_neg (by omega),List.getElem?_append]
   split
   ·rfl
   ·rename_i h2
    rw [List.getElem?_eq_none (show ms.length≤i by omega),List.getElem?_eq_none (by simp; omega)]
 have hlen:ms.length≤ms'.length∧j < ms'.length:=⟨by rw [← hms]; split<;>simp,(List.getElem?_eq_some_iff.1 hjj).1⟩
 have hαj:(gO g n j).α j=(g.ρ n).map (fun p=>(p.1,p.2.2)):=by simp [gO]
 have hαk:∀ k,k≠j→(gO g n j).α k=g.α k:=fun k hk=>by simp [gO,hk]
 have hle:g.up (gO g n j):=⟨fun _ _ _ e=>e,fun _ _ e=>e,fun k x e=>by
  by_cases hk:k=j
  ·subst hk
   rw [hαj]
   rcases hj with ⟨_,h2⟩ | h2
   ·rw [h2 _ e]; rfl
   ·rw [hP.new p ms k hp (by omega)] at e; cases e
  ·rw [hαk k hk]; exact e⟩
 have hH:∀ k,k≠n→k≠p→upd (upd H n .dead) p (.pool ms') k=H k:=fun k h1 h2=>by rw [aJ _ _ h2,aJ _ _ h1]
 have hHn:upd (upd H n .dead) p (.pool ms') n=.dead:=by rw [aJ _ _ hnp,aR]
 have hHp:upd (upd H n .dead) p (.pool ms') p=.pool ms':=aR _ _ _
 have hpool:∀ q ms1,upd (upd H n .dead) p (.pool ms') q=.pool ms1→q=p∧ms1=ms':=fun q ms1 e=>by
  by_cases h1:q=n
  ·subst h1; rw [hHn] at e; cases e
  ·by_cases h2:q=p
   ·subst h2; rw [hHp] at e; cases e; exact ⟨rfl,rfl⟩
   ·rw [hH q h1 h2] at e; exact absurd (hP.one q p _ _ e hp) h2
 have hmem:∀ i,i≠j→Mem (upd (upd H n .dead) p (.pool ms')) i→Mem H i:=fun i hi ⟨q,ms1,c,e1,e2⟩=>by
  obtain ⟨rfl,rfl⟩:=hpool q ms1 e1
  rw [hji i hi] at e2
  exact ⟨q,ms,c,hp,e2⟩
 have hnl:(H n).live:=by rw [hn]; trivial
 have hlive:∀ k,(upd (upd H n .dead) p (.pool ms') k).live→k≠n∧(H k).live:=fun k hl=>by
  by_cases h1:k=n
  ·subst h1; rw [hHn] at hl; exact hl.elim
  ·by_cases h2:k=p
   ·subst h2; exact ⟨h1,by rw [hp]; trivial⟩
   ·rw [hH k h1 h2] at hl; exact ⟨h1,hl⟩
 have hgn:=hW.ent n
 rw [hn] at hgn
 refine EvoP.ghost h (fun hno=>absurd hp (hno p ms)) hle rfl (fun k=>?_) (fun k hk=>?_) (fun q q' ms1 ms2 e1 e2=>(hpool q _ e1).1.trans (hpool q' _ e2).1.symm) (fun q ms1 i c e1 e2=>?_) (fun q ms1 i e1 e2=>?_) (fun x=>if x=.inr j then .inl n else x) (fun x y b lo b' lo' hx hy hne=>?_) (fun x b lo hx=>?_)
 ·by_cases h1:k=n
  ·subst h1; rw [hHn]; trivial
  ·by_cases h2:k=p
   ·subst h2; rw [hHp]; exact hW.pool_ρ hp
   ·rw [hH k h1 h2]; exact (hW.ent k).up hle rfl rfl
 ·by_cases h1:k=n
  ·subst h1; rw [hHn] at hk; cases hk
  ·by_cases h2:k=p
   ·subst h2; rw [hHp] at hk; cases hk
   ·rw [hH k h1 h2] at hk; exact hW.fresh k hk
 ·obtain ⟨rfl,rfl⟩:=hpool q ms1 e1
  by_cases hi:i=j
  ·subst hi
   rw [hjj] at e2
   cases e2
   rcases hgn with ⟨e0,e1⟩ | ⟨b,m,cs,T,fr,e1,e2,e3,e4,e5,e6,e7⟩
   ·exact .inl ⟨by rw [hαj,e0]; rfl,e1⟩
   ·exact .inr ⟨b,m,cs,T,fr,by rw [hαj,e1]; rfl,e2,e3,e4,e5,fun i x hx=>let ⟨c,hc,hv⟩:=e6 i x hx; ⟨c,hc,hv.monoU hle⟩,e7⟩
  ·rw [hji i hi] at e2
   exact (hP.mem q ms i c hp e2).up hle rfl (hαk i hi)
 ·obtain ⟨rfl,rfl⟩:=hpool q ms1 e1
  rw [hαk i (by omega)]
  exact hP.new q ms i hp (by omega)
 ·have hxn:∀ {z b lo},Pl (gO g n j) (upd (upd H n .dead) p (.pool ms')) z b lo→z≠.inl n:=fun {z b lo} hz e=>by
   subst e
   obtain ⟨_,hl,_⟩:=hz
   exact (hlive n hl).1 rfl
  show (if x=.inr j then _ else x)≠(if y=.inr j then _ else y)
  split
  ·rename_i h1
   rw [if_neg (fun e=>hne (h1.trans e.symm))]
   exact (hxn hy).symm
  ·split
   ·exact hxn hx
   ·exact hne
 ·show Pl g H (if x=.inr j then _ else x) b lo
  split
  ·rename_i h1
   subst h1
   obtain ⟨h0,m,hm,e⟩:=hx
   rw [hαj] at e
   rcases hgn with ⟨e0,e1⟩ | ⟨b',m',cs,T,fr,e1,_⟩
   ·rw [e0] at e; cases e
   ·rw [e1] at e
    cases e
    exact ⟨_,hnl,by rw [h0]; exact e1⟩
  ·rename_i h1
   cases x with
   | inl id=>obtain ⟨m,hl,e⟩:=hx; exact ⟨m,(hlive id hl).2,e⟩
   | inr i =>
    have hi:i≠j:=fun e=>h1 (by rw [e])
    obtain ⟨h0,m,hm,e⟩:=hx
    exact ⟨h0,m,hmem i hi hm,by rw [← hαk i hi]; exact e⟩
theorem WRelP.of {g:Gh} {H:Nat→Ent} {w:World} (imm:∀ b o v,g.I b o=some v→w.cell? ⟨b,o,none⟩=some v) (ent:∀ k,EntRel g w k (H k)) (fresh:∀ k,H k=.unborn→g.ρ k=none)
  (one:∀ p p' ms ms',H p=.pool ms→H p'=.pool ms'→p=p') (mem:∀ p ms j cells,H p=.pool ms→ms[j]?=some (some cells)→memRel g w j cells) (new:∀ p ms j,H p=.pool ms→ms.length≤j→g.α j=none)
  (hinj:∀ {x y:Nat ⊕ Nat} {b lo b' lo':Nat},x≠y→Pl g H x b lo→Pl g H y b' lo'→b≠b'):WRelP g H w:=by
 refine ⟨⟨imm,ent,fresh,fun k k' x x' hne hl hl' e e'=>?_⟩,one,mem,new,fun id x j b n hl e hm e'=>?_,fun j j' b b' n n' hne hm hm' e e'=>?_⟩
 ·obtain ⟨b,lo,n⟩:=x
  obtain ⟨b',lo',n'⟩:=x'
  exact hinj (x:=.inl k) (y:=.inl k') (fun e=>hne (by cases e; rfl)) ⟨n,hl,e⟩ ⟨n',hl',e'⟩
 ·obtain ⟨b1,lo,n1⟩:=x
  exact hinj (x:=.inl id) (y:=.inr j) (fun e=>by cases e) ⟨n1,hl,e⟩ ⟨rfl,n,hm,e'⟩
 ·exact hinj (x:=.inr j) (y:=.inr j') (fun e=>hne (by cases e; rfl)) ⟨rfl,n,hm,e⟩ ⟨rfl,n',hm',e'⟩
theorem pl_at {g:Gh} {H:Nat→Ent} {w:World} (h:WRelP g H w) {x:Nat ⊕ Nat} {b lo:Nat} (hx:Pl g H x b lo):b < w.heap.size∧∀ o,lo≤o→g.I b o=none:=by
 cases x with
 | inl id =>
  obtain ⟨n,h1,h2⟩:=hx
  obtain ⟨o,e,h4⟩:=h.base.live_lt h1 h2
  exact ⟨cZ e,h4⟩
 | inr j =>
  obtain ⟨_,n,h1,h2⟩:=hx
  obtain ⟨cs,T,fr,e,h4⟩:=h.pool.at h1 h2
  exact ⟨cZ e,fun o _=>h4 o⟩
theorem EntRel.keepU {g g':Gh} {w w':World} {id:Nat} {e:Ent} (hle:g.up g') (h:EntRel g w id e) (hρ:g'.ρ id=g.ρ id)
  (hb:∀ b lo n,e.live→g.ρ id=some (b,lo,n)→w'.heap[b]?=w.heap[b]?∧∀ o,lo≤o→g'.I b o=g.I b o):EntRel g' w' id e:=by
 cases e with
 | unborn=>trivial
 | dead=>trivial
 | box cells =>
  obtain ⟨b,n,cs,T,fr,e1,e2,e3,e4,e5,e6,e7⟩:=h
  obtain ⟨h1,h2⟩:=hb b 0 n trivial e1
  exact ⟨b,n,cs,T,fr,hρ.trans e1,h1.trans e2,e3,e4,e5,fun k x hk=>let ⟨c,hc,hv⟩:=e6 k x hk; ⟨c,hc,hv.monoU hle⟩,fun o=>(h2 o (Nat.zero_le _)).trans (e7 o)⟩
 | ibox cells =>
  obtain ⟨b,n,e1,e2⟩:=h
  exact ⟨b,n,hρ.trans e1,fun k x hk=>let ⟨c,hc,hv⟩:=e2 k x hk; ⟨c,hle.I _ _ _ hc,hv.monoU hle⟩⟩
 | tail =>
  intro b lo n e1
  rw [hρ] at e1
  obtain ⟨cs,T,fr,e2,e3,e4,e5⟩:=h b lo n e1
  obtain ⟨h1,h2⟩:=hb b lo n trivial e1
  exact ⟨cs,T,fr,h1.trans e2,e3,e4,fun o ho=>(h2 o ho).trans (e5 o ho)⟩
 | gbx cells =>
  rcases h with ⟨e0,e0'⟩ | ⟨b,n,cs,T,fr,e1,e2,e3,e4,e5,e6,e7⟩
  ·exact .inl ⟨hρ.trans e0,e0'⟩
  ·obtain ⟨h1,h2⟩:=hb b 0 n trivial e1
   exact .inr ⟨b,n,cs,T,fr,hρ.trans e1,h1.trans e2,e3,e4,e5,fun k x hk=>let ⟨c,hc,hv⟩:=e6 k x hk; ⟨c,hc,hv.monoU hle⟩,fun o=>(h2 o (Nat.zero_le _)).trans (e7 o)⟩
 | rcd ps asg body ts =>
  obtain ⟨l,fn,tm,df,e1,e2,e3⟩:=h
  obtain ⟨h1,_⟩:=hb l 0 0 trivial e1
  exact ⟨l,fn,tm,df,hρ.trans e1,h1.trans e2,e3.monoU hle⟩
 | rdn c =>
  obtain ⟨l,r,e1,e2,e3,e4⟩:=h
  obtain ⟨h1,_⟩:=hb l 0 0 trivial e1
  exact ⟨l,r,hρ.trans e1,h1.trans e2,e3,e4⟩
 | pool ms=>exact hρ.trans h
theorem EvoP.drew {g:Gh} {H:Nat→Ent} {w:World} (h:WRelP g H w) (n:Nat):EvoP g H w g H { w with drawn:=n }:=(Evo.drew h.base n).toP h.pool fun _ _=>Iff.rfl
theorem pG {H:Nat→Ent} {id:Nat} {e:Ent} (h1:∀ ms,H id≠.pool ms) (h2:∀ ms,e≠.pool ms) (p:Nat) (ms:List (Option (List AV))):upd H id e p=.pool ms↔H p=.pool ms:=by
 by_cases hp:p=id
 ·subst hp; rw [aR]; exact ⟨fun e'=>absurd e' (h2 ms),fun e'=>absurd e' (h1 ms)⟩
 ·rw [aJ _ _ hp]
theorem WRelP.drew {g:Gh} {H:Nat→Ent} {w:World} (h:WRelP g H w) (n:Nat):WRelP g H { w with drawn:=n }:=(EvoP.drew h n).rel
theorem PoolOk.stay {g:Gh} {H:Nat→Ent} {w w':World} (h:PoolOk g H w) (hs:∀ (b:Nat) (cs:Array Value) (T:TypeId) (fr:Nat×Nat),w.heap[b]?=some (Obj.cells cs T fr)→w'.heap[b]?=some (Obj.cells cs T fr)):PoolOk g H w' :=
 ⟨h.one,fun p ms j cells h1 h2=>by
  rcases h.mem p ms j cells h1 h2 with h0 | ⟨b,n,cs,T,fr,e1,e2,e3⟩
  ·exact .inl h0
  ·exact .inr ⟨b,n,cs,T,fr,e1,hs _ _ _ _ e2,e3⟩,h.new,h.sep,h.dis⟩
theorem aLX {g:Gh} {n j b m:Nat} (e:g.α j=some (b,m)):(fG g n j).ρ n=some (b,0,m):=by simp [fG,α2ρ,e]
theorem aFk {g:Gh} {n j b lo m:Nat} (e:g.ρ n=some (b,lo,m)):(gO g n j).α j=some (b,m):=by simp [gO,e]
theorem aLY {g:Gh} {n j off len c sz:Nat} {nn:Bool} {v:Value} (h:VRel g (.hsl (j+1) off len c nn sz) v):VRel (fG g n j) (.wsl n off len c nn sz) v:=by
 cases h with
 | hsl e h1 h2 h3=>exact .wsl (aLX e) h1 h2 h3
 | hsl0 h1=>exact .wsl0 h1
theorem aQv {g:Gh} {n j off:Nat} {v:Value} (h:VRel g (.hptr (j+1) off) v):VRel (fG g n j) (.ptr n off) v:=by
 cases h with
 | hptr e=>exact .ptr (aLX e)
theorem aQw {g:Gh} {n j off len c sz:Nat} {nn:Bool} {v:Value} (h:VRel g (.wsl n off len c nn sz) v):VRel (gO g n j) (.hsl (j+1) off len c nn sz) v:=by
 cases h with
 | wsl e h1 h2 h3=>exact .hsl (aFk e) h1 h2 h3
 | wsl0 h1=>exact .hsl0 h1
theorem aQx {g:Gh} {n j off len sz:Nat} {v:Value} (h:VRel g (.bsl n off len sz) v):VRel (gO g n j) (.hsl (j+1) off len len false sz) v:=by
 cases h with
 | bsl e h1 h2=>exact .hsl (aFk e) (Nat.le_refl _) h1 h2
 | bsl0=>exact .hsl0 (fun e=>by cases e)
theorem aQy {g:Gh} {n j off:Nat} {v:Value} (h:VRel g (.ptr n off) v):VRel (gO g n j) (.hptr (j+1) off) v:=by
 cases h with
 | ptr e=>exact .hptr (aFk e)
end Go.Ev
