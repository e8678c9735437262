/-
How the abstract heap and the ghost follow a world that goes on: a new block,a written block,a pE slice.
-/
import Derived.Test.YtddpmkmgbdedlaaGreatqEvA
import Derived.Laws.Tables
set_option linter.unusedVariables false
set_option linter.unusedSimpArgs false
namespace Go.Ev
open Go
def iD (cs:Array Value):Nat→List Value→Array Value
 | _,[]=>cs
 | o,v :: r=>iD (cs.setIfInBounds o v) (o+1) r
theorem lG:∀ (vs:List Value) (cs:Array Value) (o:Nat),(iD cs o vs).size=cs.size
 | [],_,_=>rfl
 | v :: r,cs,o=>by rw [iD,lG r]; simp
theorem iR:∀ (vs:List Value) (cs:Array Value) (o k:Nat),(k < o∨o+vs.length≤k)→(iD cs o vs)[k]?=cs[k]?
 | [],_,_,_,_=>rfl
 | v :: r, cs, o, k, h => by
  rw [iD,iR r _ _ _ (by simp at h; omega),Array.getElem?_setIfInBounds_ne (by simp at h; omega)]
theorem oZ:∀ (vs:List Value) (cs:Array Value) (o j:Nat),o+vs.length≤cs.size→j < vs.length→(iD cs o vs)[o+j]?=vs[j]?
 | v :: r, cs, o, 0, h, _ => by
  rw [iD,iR r _ _ _ (by left; omega)]
  simp at h
  simp [Array.getElem?_setIfInBounds_self_of_lt (show o < cs.size by omega)]
 | v :: r, cs, o, j + 1, h, hj => by
  rw [iD,show o+(j+1)=o+1+j by omega,oZ r _ _ _ (by simp at h ⊢; omega) (by simpa using hj)]
  simp
theorem mE:∀ (vs:List Value) (w:World) (b o:Nat) (cs:Array Value) (T:TypeId) (fr:Nat×Nat),w.heap[b]?=some (.cells cs T fr) →
  (w.setCells b o vs).heap[b]?=some (.cells (iD cs o vs) T fr)
 | [],_,_,_,_,_,_,h=>h
 | v :: r, w, b, o, cs, T, fr, h => by
  rw [World.setCells,iD]
  refine mE r _ b (o+1) _ T fr ?_
  simp [World.setCell,Array.getElem?_modify,h]
theorem iE:∀ (vs:List Value) (w:World) (b o k:Nat),k≠b→(w.setCells b o vs).heap[k]?=w.heap[k]?
 | [],_,_,_,_,_=>rfl
 | v :: r, w, b, o, k, h => by
  rw [World.setCells,iE r _ _ _ _ h]
  simp [World.setCell,Array.getElem?_modify,Ne.symm h]
theorem aLq:∀ (vs:List Value) (w:World) (b o:Nat),(w.setCells b o vs).heap.size=w.heap.size
 | [],_,_,_=>rfl
 | v :: r,w,b,o=>by rw [World.setCells,aLq r]; simp [World.setCell]
theorem aLr:∀ (vs:List Value) (w:World) (b o:Nat),(w.setCells b o vs).os=w.os
 | [],_,_,_=>rfl
 | v :: r,w,b,o=>by rw [World.setCells,aLr r]; rfl
theorem aLs:∀ (vs:List Value) (w:World) (b o:Nat),(w.setCells b o vs).output=w.output
 | [],_,_,_=>rfl
 | v :: r,w,b,o=>by rw [World.setCells,aLs r]; rfl
theorem cI {w:World} {b:Nat} {cs:Array Value} {T:TypeId} {fr:Nat×Nat} (h:w.heap[b]?=some (.cells cs T fr)) (o:Nat):w.cell? ⟨b,o,none⟩=cs[o]?:=by
 simp [World.cell?,h]
theorem gM {w:World} {b o:Nat} {v:Value} (h:w.cell? ⟨b,o,none⟩=some v):∃ cs T fr,w.heap[b]?=some (.cells cs T fr)∧cs[o]?=some v:=by
 unfold World.cell? at h
 split at h
 ·rename_i c e fr hc
  exact ⟨c,e,fr,hc,by simpa using h⟩
 ·cases h
theorem cZ {w:World} {b:Nat} {o:Obj} (h:w.heap[b]?=some o):b < w.heap.size:=by
 rcases Nat.lt_or_ge b w.heap.size with hb | hb
 ·exact hb
 ·rw [Array.getElem?_eq_none hb] at h; cases h
theorem WRel.I_lt {g:Gh} {H:Nat→Ent} {w:World} (h:WRel g H w) {b o:Nat} {v:Value} (e:g.I b o=some v):b < w.heap.size:=by
 obtain ⟨cs,T,fr,h1,_⟩:=gM (h.imm b o v e)
 exact cZ h1
theorem WRel.tail_at {g:Gh} {H:Nat→Ent} {w:World} (h:WRel g H w) {id b lo n:Nat} (hl:H id=.tail) (e:g.ρ id=some (b,lo,n)) :
  ∃ cs T fr,w.heap[b]?=some (.cells cs T fr)∧cs.size=n∧xO fr lo n∧∀ o,lo≤o→g.I b o=none:=by
 have he:=h.ent id
 rw [hl] at he
 exact he b lo n e
theorem WRel.noI {g:Gh} {H:Nat→Ent} {w:World} (h:WRel g H w) {l:Nat} {o:Obj} (hl:w.heap[l]?=some o) (ho:∀ cs T fr,o≠.cells cs T fr) (k:Nat):g.I l k=none:=by
 cases hI:g.I l k with
 | none=>rfl
 | some v =>
  obtain ⟨cs,T,fr,h1,_⟩:=gM (h.imm l k v hI)
  rw [hl] at h1; cases h1; exact absurd rfl (ho cs T fr)
theorem WRel.live_lt {g:Gh} {H:Nat→Ent} {w:World} (h:WRel g H w) {id b lo n:Nat} (hl:(H id).live) (e:g.ρ id=some (b,lo,n)) :
  ∃ o,w.heap[b]?=some o∧∀ o,lo≤o→g.I b o=none:=by
 have he:=h.ent id
 cases hH:H id with
 | box cells =>
  rw [hH] at he
  obtain ⟨b',n',cs,T,fr,e1,e2,e3,e4,e5,e6,e7⟩:=he
  rw [e] at e1; cases e1
  exact ⟨_,e2,fun o _=>e7 o⟩
 | tail =>
  rw [hH] at he
  obtain ⟨cs,T,fr,e2,_,_,e5⟩:=he b lo n e
  exact ⟨_,e2,e5⟩
 | gbx cells =>
  rw [hH] at he
  rcases he with ⟨e0,_⟩ | ⟨b',n',cs,T,fr,e1,e2,e3,e4,e5,e6,e7⟩
  ·rw [e] at e0; cases e0
  ·rw [e] at e1; cases e1
   exact ⟨_,e2,fun o _=>e7 o⟩
 | rcd ps asg body ts =>
  rw [hH] at he
  obtain ⟨l,fn,tm,df,e1,e2,_⟩:=he
  rw [e] at e1; cases e1
  exact ⟨_,e2,fun o _=>h.noI e2 (fun _ _ _=>by simp) o⟩
 | rdn c =>
  rw [hH] at he
  obtain ⟨l,r,e1,e2,_⟩:=he
  rw [e] at e1; cases e1
  exact ⟨_,e2,fun o _=>h.noI e2 (fun _ _ _=>by simp) o⟩
 | pool ms=>rw [hH] at he; have he':g.ρ id=none:=he; rw [he'] at e; cases e
 | unborn=>rw [hH] at hl; exact hl.elim
 | dead=>rw [hH] at hl; exact hl.elim
 | ibox c=>rw [hH] at hl; exact hl.elim
def upd (H:Nat→Ent) (id:Nat) (e:Ent):Nat→Ent:=fun k=>if k=id then e else H k
@[simp] theorem aR (H:Nat→Ent) (id:Nat) (e:Ent):upd H id e id=e:=by simp [upd]
theorem aJ (H:Nat→Ent) {id k:Nat} (e:Ent) (h:k≠id):upd H id e k=H k:=by simp [upd,h]
theorem EntRel.keep {g g':Gh} {w w':World} {id:Nat} {e:Ent} (hle:g.le g') (h:EntRel g w id e) (hρ:True→g'.ρ id=g.ρ id)
  (hb:∀ b lo n,e.live→g.ρ id=some (b,lo,n)→w'.heap[b]?=w.heap[b]?∧∀ o,lo≤o→g'.I b o=g.I b o):EntRel g' w' id e:=by
 cases e with
 | unborn=>trivial
 | dead=>trivial
 | box cells =>
  obtain ⟨b,n,cs,T,fr,e1,e2,e3,e4,e5,e6,e7⟩:=h
  obtain ⟨h1,h2⟩:=hb b 0 n trivial e1
  exact ⟨b,n,cs,T,fr,hle.ρ _ _ e1,h1.trans e2,e3,e4,e5,fun k x hk=>let ⟨c,hc,hv⟩:=e6 k x hk; ⟨c,hc,hv.mono hle⟩,fun o=>(h2 o (Nat.zero_le _)).trans (e7 o)⟩
 | ibox cells =>
  obtain ⟨b,n,e1,e2⟩:=h
  exact ⟨b,n,hle.ρ _ _ e1,fun k x hk=>let ⟨c,hc,hv⟩:=e2 k x hk; ⟨c,hle.I _ _ _ hc,hv.mono hle⟩⟩
 | tail =>
  intro b lo n e1
  rw [hρ trivial] at e1
  obtain ⟨cs,T,fr,e2,e3,e4,e5⟩:=h b lo n e1
  obtain ⟨h1,h2⟩:=hb b lo n trivial e1
  exact ⟨cs,T,fr,h1.trans e2,e3,e4,fun o ho=>(h2 o ho).trans (e5 o ho)⟩
 | gbx cells =>
  rcases h with ⟨e0,e0'⟩ | ⟨b,n,cs,T,fr,e1,e2,e3,e4,e5,e6,e7⟩
  ·exact .inl ⟨(hρ trivial).trans e0,e0'⟩
  ·obtain ⟨h1,h2⟩:=hb b 0 n trivial e1
   exact .inr ⟨b,n,cs,T,fr,hle.ρ _ _ e1,h1.trans e2,e3,e4,e5,fun k x hk=>let ⟨c,hc,hv⟩:=e6 k x hk; ⟨c,hc,hv.mono hle⟩,fun o=>(h2 o (Nat.zero_le _)).trans (e7 o)⟩
 | rcd ps asg body ts =>
  obtain ⟨l,fn,tm,df,e1,e2,e3⟩:=h
  obtain ⟨h1,_⟩:=hb l 0 0 trivial e1
  exact ⟨l,fn,tm,df,hle.ρ _ _ e1,h1.trans e2,e3.mono hle⟩
 | rdn c =>
  obtain ⟨l,r,e1,e2,e3,e4⟩:=h
  obtain ⟨h1,_⟩:=hb l 0 0 trivial e1
  exact ⟨l,r,hle.ρ _ _ e1,h1.trans e2,e3,e4⟩
 | pool ms=>exact (hρ trivial).trans h
def Gh.setρ (g:Gh) (id:Nat) (x:Nat×Nat×Nat):Gh:={ g with ρ:=fun k=>if k=id then some x else g.ρ k }
theorem Gh.le_setρ {g:Gh} {id:Nat} {x:Nat×Nat×Nat} (h:g.ρ id=none):g.le (g.setρ id x):=by
 refine ⟨fun _ _ _ e=>e,fun k y e=>?_,rfl⟩
 simp only [Gh.setρ]
 split
 ·rename_i hk; rw [hk,h] at e; cases e
 ·exact e
def Gh.addI (g:Gh) (b lo:Nat) (vs:List Value):Gh :=
 { g with I:=fun b' o=>if b'=b∧lo≤o∧o < lo+vs.length then vs[o - lo]? else g.I b' o }
theorem Gh.le_addI {g:Gh} {b lo:Nat} {vs:List Value} (h:∀ o,lo≤o→g.I b o=none):g.le (g.addI b lo vs):=by
 refine ⟨fun b' o v e=>?_,fun _ _ e=>e,rfl⟩
 simp only [Gh.addI]
 split
 ·rename_i hk
  rw [hk.1,h o hk.2.1] at e
  cases e
 ·exact e
theorem Gh.addI_at {g:Gh} {b lo:Nat} {vs:List Value} {k:Nat} (hk:k < vs.length):(g.addI b lo vs).I b (lo+k)=vs[k]?:=by
 simp [Gh.addI,hk]
theorem World.heap_push (w:World) (o:Obj) (k:Nat):({ w with heap:=w.heap.push o }:World).heap[k]?=if k=w.heap.size then some o else w.heap[k]?:=by
 simp [Array.getElem?_push]
theorem WRel.drew {g:Gh} {H:Nat→Ent} {w:World} (h:WRel g H w) (n:Nat):WRel g H { w with drawn:=n } :=
 ⟨h.imm,fun id=>by have:=h.ent id; exact this,h.fresh,h.inj⟩
theorem Evo.drew {g:Gh} {H:Nat→Ent} {w:World} (h:WRel g H w) (n:Nat):Evo g H w g H { w with drawn:=n } :=
 ⟨g.le_refl,h.drew n,.drew _ _ n,fun _ _ _ e=>.inl e,fun id b lo n hl e=>.inr ⟨id,lo,n,hl,e,Nat.le_refl _⟩⟩
theorem Fr.push (M:Nat→Nat→Prop) (w:World) (o:Obj):Fr M w { w with heap:=w.heap.push o }:=by
 refine ⟨by simp,rfl,rfl,fun b cs T fr e=>⟨cs,fr,?_,rfl,fun _ _=>rfl,.inl rfl⟩,fun b o' e _ _=>?_⟩
 ·rw [World.heap_push,if_neg (by have:=cZ e; omega)]; exact e
 ·rw [World.heap_push,if_neg (by have:=cZ e; omega)]; exact e
theorem Evo.box {g:Gh} {H:Nat→Ent} {w:World} (h:WRel g H w) {id:Nat} (hid:H id=.unborn) (cells:List AV) (cs:Array Value) (T:TypeId)
  (hc:LRel g cells cs.toList) :
  VRel (g.setρ id (w.heap.size,0,cs.size)) (.ptr id 0) (.pointer (some ⟨w.heap.size,0,none⟩)) ∧
  Evo g H w (g.setρ id (w.heap.size,0,cs.size)) (upd H id (.box cells)) { w with heap:=w.heap.push (.cells cs T) }:=by
 have hle:g.le (g.setρ id (w.heap.size,0,cs.size)):=Gh.le_setρ (h.fresh id hid)
 have hρ:(g.setρ id (w.heap.size,0,cs.size)).ρ id=some (w.heap.size,0,cs.size):=by simp [Gh.setρ]
 have hρne:∀ k,k≠id→(g.setρ id (w.heap.size,0,cs.size)).ρ k=g.ρ k:=fun k hk=>by simp [Gh.setρ,hk]
 have hcell:∀ b o v,g.I b o=some v→b < w.heap.size:=fun b o v e=>h.I_lt e
 refine ⟨.ptr hρ,hle,⟨fun b o v e=>?_,fun k=>?_,fun k hk=>?_,fun k k' x x' hne hl hl' e e'=>?_⟩,.push _ _ _,fun b o v e=>.inl e,fun k b lo n hl e=>?_⟩
 ·have hb:=hcell b o v e
  obtain ⟨cs',T',fr',h1,h2⟩:=gM (h.imm b o v e)
  rw [cI (by rw [World.heap_push,if_neg (by omega)]; exact h1)]
  exact h2
 ·by_cases hk:k=id
  ·subst hk
   rw [aR]
   refine ⟨w.heap.size,cs.size,cs,T,(0,0),hρ,by simp [World.heap_push],rfl,fun o _ _=>by simp,Nat.le_of_eq (by simpa using hc.1),fun j x hx=>?_,fun o=>?_⟩
   ·obtain ⟨c,h1,h2⟩:=hc.get hx
    exact ⟨c,by simpa using h1,h2.mono hle⟩
   ·cases hI:g.I w.heap.size o with
    | none=>exact hI
    | some v=>have:=hcell _ _ _ hI; omega
  ·rw [aJ _ _ hk]
   refine (h.ent k).keep hle (fun _=>hρne k hk) fun b lo n hl e=>?_
   obtain ⟨o',h1,_⟩:=h.live_lt hl e
   refine ⟨?_,fun o _=>rfl⟩
   rw [World.heap_push,if_neg (by have:=cZ h1; omega)]
 ·by_cases hk':k=id
  ·subst hk'; simp at hk
  ·rw [aJ _ _ hk'] at hk
   rw [hρne k hk']; exact h.fresh k hk
 ·by_cases hk:k=id
  ·subst hk
   have hk':k'≠k:=Ne.symm hne
   rw [hρ] at e; cases e
   rw [hρne k' hk'] at e'
   rw [aJ _ _ hk'] at hl'
   obtain ⟨b',lo',n'⟩:=x'
   obtain ⟨o',h1,_⟩:=h.live_lt hl' e'
   have:=cZ h1
   simp; omega
  ·rw [hρne k hk] at e
   rw [aJ _ _ hk] at hl
   obtain ⟨b,lo,n⟩:=x
   obtain ⟨o',h1,_⟩:=h.live_lt hl e
   have hb:=cZ h1
   by_cases hk':k'=id
   ·subst hk'
    rw [hρ] at e'; cases e'
    simp; omega
   ·rw [hρne k' hk'] at e'
    rw [aJ _ _ hk'] at hl'
    exact h.inj k k' _ _ hne hl hl' e e'
 ·by_cases hk:k=id
  ·subst hk
   rw [hρ] at e; cases e
   exact .inl (Nat.le_refl _)
  ·rw [hρne k hk] at e
   rw [aJ _ _ hk] at hl
   exact .inr ⟨k,lo,n,hl,e,Nat.le_refl _⟩
theorem Evo.fixed {g:Gh} {H:Nat→Ent} {w:World} (h:WRel g H w) (cs:Array Value) (T:TypeId) (n:Nat) :
  (∀ k,k < n→k < cs.size→(g.addI w.heap.size 0 (cs.toList.take n)).I w.heap.size k=cs[k]?) ∧
  Evo g H w (g.addI w.heap.size 0 (cs.toList.take n)) H { w with heap:=w.heap.push (.cells cs T) }:=by
 have hI0:∀ o,g.I w.heap.size o=none:=fun o=>by
  cases hI:g.I w.heap.size o with
  | none=>rfl
  | some v=>have:=h.I_lt hI; omega
 have hle:g.le (g.addI w.heap.size 0 (cs.toList.take n)):=Gh.le_addI fun o _=>hI0 o
 have hne:∀ b o,b≠w.heap.size→(g.addI w.heap.size 0 (cs.toList.take n)).I b o=g.I b o:=fun b o hb=>by simp [Gh.addI,hb]
 have hin:∀ o v,(g.addI w.heap.size 0 (cs.toList.take n)).I w.heap.size o=some v→cs[o]?=some v:=fun o v e=>by
  simp only [Gh.addI,Nat.zero_le,true_and,Nat.zero_add,Nat.sub_zero] at e
  split at e
  ·rw [List.getElem?_take] at e
   split at e
   ·simpa using e
   ·cases e
  ·rw [hI0] at e; cases e
 refine ⟨fun k hk hk2=>?_,hle,⟨fun b o v e=>?_,fun k=>?_,h.fresh,h.inj⟩,.push _ _ _,fun b o v e=>?_,fun k b lo n hl e=>.inr ⟨k,lo,n,hl,e,Nat.le_refl _⟩⟩
 ·have:=Gh.addI_at (g:=g) (b:=w.heap.size) (lo:=0) (vs:=cs.toList.take n) (k:=k) (by simp; omega)
  rw [Nat.zero_add] at this
  rw [this,List.getElem?_take,if_pos hk]
  simp
 ·by_cases hb:b=w.heap.size
  ·subst hb
   rw [cI (cs:=cs) (T:=T) (fr:=(0,0)) (by simp [World.heap_push])]
   exact hin o v e
  ·rw [hne b o hb] at e
   obtain ⟨cs',T',fr',h1,h2⟩:=gM (h.imm b o v e)
   rw [cI (by rw [World.heap_push,if_neg hb]; exact h1)]
   exact h2
 ·refine (h.ent k).keep hle (fun _=>rfl) fun b lo n' hl e=>?_
  obtain ⟨o',h1,_⟩:=h.live_lt hl e
  have hb:=cZ h1
  exact ⟨by rw [World.heap_push,if_neg (by omega)],fun o _=>hne b o (by omega)⟩
 ·by_cases hb:b=w.heap.size
  ·exact .inr (.inl (by omega))
  ·rw [hne b o hb] at e; exact .inl e
theorem Evo.fixedTail {g:Gh} {H:Nat→Ent} {w:World} (h:WRel g H w) {id:Nat} (hid:H id=.unborn) (cs:Array Value) (T:TypeId) (n:Nat) (fr:Nat×Nat)
  (hn:n≤cs.size) (hfr:xO fr n cs.size) (w':World) (hw':w'={ w with heap:=w.heap.push (.cells cs T fr) }) :
  let g':=(g.addI w.heap.size 0 (cs.toList.take n)).setρ id (w.heap.size,n,cs.size)
  (∀ k,k < n→g'.I w.heap.size k=cs[k]?)∧g'.ρ id=some (w.heap.size,n,cs.size)∧Evo g H w g' (upd H id .tail) w':=by
 subst hw'
 intro g'
 have hI0:∀ o,g.I w.heap.size o=none:=fun o=>by
  cases hI:g.I w.heap.size o with
  | none=>rfl
  | some v=>have:=h.I_lt hI; omega
 have hle:g.le g':=(Gh.le_addI fun o _=>hI0 o).trans (Gh.le_setρ (h.fresh id hid))
 have hne:∀ b o,b≠w.heap.size→g'.I b o=g.I b o:=fun b o hb=>by simp [g',Gh.addI,Gh.setρ,hb]
 have hin:∀ o v,g'.I w.heap.size o=some v→o < n∧cs[o]?=some v:=fun o v e=>by
  simp only [g',Gh.addI,Gh.setρ,Nat.zero_le,true_and,Nat.zero_add,Nat.sub_zero] at e
  split at e
  ·rename_i hlt
   rw [List.getElem?_take] at e
   split at e
   ·exact ⟨by assumption,by simpa using e⟩
   ·cases e
  ·rw [hI0] at e; cases e
 have hρ:g'.ρ id=some (w.heap.size,n,cs.size):=by simp [g',Gh.setρ]
 have hρne:∀ k,k≠id→g'.ρ k=g.ρ k:=fun k hk=>by simp [g',Gh.setρ,Gh.addI,hk]
 refine ⟨fun k hk=>?_,hρ,hle,⟨fun b o v e=>?_,fun k=>?_,fun k hk=>?_,fun k k' x x' hnek hl hl' e e'=>?_⟩,.push _ _ _,fun b o v e=>?_,fun k b lo n' hl e=>?_⟩
 ·have:=Gh.addI_at (g:=g) (b:=w.heap.size) (lo:=0) (vs:=cs.toList.take n) (k:=k) (by simp; omega)
  rw [Nat.zero_add] at this
  show (g.addI w.heap.size 0 (cs.toList.take n)).I w.heap.size k=_
  rw [this,List.getElem?_take,if_pos hk]
  simp
 ·by_cases hb:b=w.heap.size
  ·subst hb
   rw [cI (cs:=cs) (T:=T) (fr:=fr) (by simp [World.heap_push])]
   exact (hin o v e).2
  ·rw [hne b o hb] at e
   obtain ⟨cs',T',fr',h1,h2⟩:=gM (h.imm b o v e)
   rw [cI (by rw [World.heap_push,if_neg hb]; exact h1)]
   exact h2
 ·by_cases hk:k=id
  ·subst hk
   rw [aR]
   intro b' lo' n' e'
   rw [hρ] at e'; cases e'
   refine ⟨cs,T,fr,by simp [World.heap_push],rfl,hfr,fun o ho=>?_⟩
   cases hI:g'.I w.heap.size o with
   | none=>rfl
   | some v=>have:=(hin o v hI).1; omega
  ·rw [aJ _ _ hk]
   refine (h.ent k).keep hle (fun _=>hρne k hk) fun b lo n' hl e=>?_
   obtain ⟨o',h1,_⟩:=h.live_lt hl e
   have hb:=cZ h1
   exact ⟨by rw [World.heap_push,if_neg (by omega)],fun o _=>hne b o (by omega)⟩
 ·by_cases hk':k=id
  ·subst hk'; simp at hk
  ·rw [aJ _ _ hk'] at hk
   rw [hρne k hk']; exact h.fresh k hk
 ·by_cases hk:k=id
  ·subst hk
   have hk':k'≠k:=Ne.symm hnek
   rw [hρ] at e; cases e
   rw [hρne k' hk'] at e'
   rw [aJ _ _ hk'] at hl'
   obtain ⟨b',lo',n'⟩:=x'
   obtain ⟨o',h1,_⟩:=h.live_lt hl' e'
   have:=cZ h1
   simp; omega
  ·rw [hρne k hk] at e
   rw [aJ _ _ hk] at hl
   obtain ⟨b,lo,n'⟩:=x
   obtain ⟨o',h1,_⟩:=h.live_lt hl e
   have hb:=cZ h1
   by_cases hk':k'=id
   ·subst hk'
    rw [hρ] at e'; cases e'
    simp; omega
   ·rw [hρne k' hk'] at e'
    rw [aJ _ _ hk'] at hl'
    exact h.inj k k' _ _ hnek hl hl' e e'
 ·by_cases hb:b=w.heap.size
  ·exact .inr (.inl (by omega))
  ·rw [hne b o hb] at e; exact .inl e
 ·by_cases hk:k=id
  ·subst hk
   rw [hρ] at e; cases e
   exact .inl (Nat.le_refl _)
  ·rw [hρne k hk] at e
   rw [aJ _ _ hk] at hl
   exact .inr ⟨k,lo,n',hl,e,Nat.le_refl _⟩
theorem Fr.setCells {M:Nat→Nat→Prop} (w:World) (b o:Nat) (vs:List Value) {cs:Array Value} {T:TypeId} {fr:Nat×Nat} (hb:w.heap[b]?=some (.cells cs T fr))
  (hm:∀ k,o≤k→k < o+vs.length→M b k):Fr M w (w.setCells b o vs):=by
 refine ⟨Nat.le_of_eq (aLq _ _ _ _).symm,aLr _ _ _ _,aLs _ _ _ _,fun b' cs' T' fr' e=>?_,fun b' o' e hne=>?_⟩
 ·by_cases h:b'=b
  ·subst h
   rw [hb] at e; cases e
   refine ⟨_,_,mE vs w b' o cs T fr hb,lG _ _ _,fun k hk=>iR _ _ _ _ ?_,.inl rfl⟩
   by_cases h1:o≤k∧k < o+vs.length
   ·exact absurd (hm k h1.1 h1.2) hk
   ·omega
  ·exact ⟨cs',fr',by rw [iE _ _ _ _ _ h]; exact e,rfl,fun _ _=>rfl,.inl rfl⟩
 ·have h:b'≠b:=fun h=>by subst h; rw [hb] at e; cases e; exact hne _ _ _ rfl
  rw [iE _ _ _ _ _ h]; exact fun _=>e
def wr (l:List AV) (off:Nat) (xs:List AV):List AV:=l.take off++xs++l.drop (off+xs.length)
def rd (l:List AV) (off n:Nat):List AV:=(l.drop off).take n
theorem aEX (l:List AV) (off:Nat) (xs:List AV) (h:off+xs.length≤l.length) (k:Nat) :
  (wr l off xs)[k]?=if k < off then l[k]? else if k < off+xs.length then xs[k - off]? else l[k]?:=by
 unfold wr
 rw [List.getElem?_append,List.getElem?_append]
 simp only [List.length_append,List.length_take,List.getElem?_take,List.getElem?_drop]
 rw [Nat.min_eq_left (by omega)]
 split
 ·split
  ·simp
  ·rfl
 ·rw [if_neg (by omega)]
  congr 1; omega
theorem xP (l:List AV) (off:Nat) (xs:List AV) (h:off+xs.length≤l.length):(wr l off xs).length=l.length:=by
 simp [wr]; omega
theorem Evo.write {g:Gh} {H:Nat→Ent} {w:World} (h:WRel g H w) {id b n off:Nat} {cells xs:List AV} {vs:List Value} (hid:H id=.box cells) (hρ:g.ρ id=some (b,0,n))
  (hx:LRel g xs vs) (hoff:off+xs.length≤cells.length) :
  Evo g H w g (upd H id (.box (wr cells off xs))) (w.setCells b off vs):=by
 have he:=h.ent id
 rw [hid] at he
 obtain ⟨b',n',cs,T,fr,e1,e2,e3,e4,e5,e6,e7⟩:=he
 rw [hρ] at e1; cases e1
 have hlv:(H id).live:=by rw [hid]; trivial
 have hM:∀ k,MutOf g H b k:=fun k=>⟨id,0,n,hlv,hρ,Nat.zero_le _⟩
 have hlen:vs.length=xs.length:=hx.1.symm
 have hlen':(upd H id (.box (wr cells off xs)) id).live:=by rw [aR]; trivial
 have hlive:∀ k,(upd H id (.box (wr cells off xs)) k).live→(H k).live:=fun k hk=>by
  by_cases e:k=id
  ·subst e; exact hlv
  ·rw [aJ _ _ e] at hk; exact hk
 refine ⟨g.le_refl,⟨fun b1 o v e=>?_,fun k=>?_,fun k hk=>?_,fun k k' x x' hne hl hl' e e'=>h.inj k k' x x' hne (hlive k hl) (hlive k' hl') e e'⟩,.setCells w b off vs e2 fun k _ _=>hM k,
  fun b o v e=>.inl e,fun k b lo n hl e=>.inr ⟨k,lo,n,hlive k hl,e,Nat.le_refl _⟩⟩
 ·have hb1:b1≠b:=fun hb=>by subst hb; rw [e7] at e; cases e
  obtain ⟨cs',T',fr',h1,h2⟩:=gM (h.imm b1 o v e)
  rw [cI (by rw [iE _ _ _ _ _ hb1]; exact h1)]
  exact h2
 ·by_cases hk:k=id
  ·subst hk
   rw [aR]
   refine ⟨b,n,_,T,fr,hρ,mE vs w b off cs T fr e2,(lG _ _ _).trans e3,e4,by rw [xP _ _ _ hoff]; exact e5,fun j x hj=>?_,e7⟩
   rw [aEX _ _ _ hoff] at hj
   split at hj
   ·rw [iR _ _ _ _ (.inl ‹_›)]; exact e6 j x hj
   ·split at hj
    ·obtain ⟨c,h1,h2⟩:=hx.get hj
     refine ⟨c,?_,h2⟩
     have:=oZ vs cs off (j - off) (by omega) (by omega)
     rw [show off+(j - off)=j by omega] at this
     rw [this]; exact h1
    ·rw [iR _ _ _ _ (.inr (by omega))]; exact e6 j x hj
  ·rw [aJ _ _ hk]
   refine (h.ent k).keep g.le_refl (fun _=>rfl) fun b1 lo n1 hl e=>⟨?_,fun _ _=>rfl⟩
   have:=h.inj k id _ _ hk hl hlv e hρ
   exact iE _ _ _ _ _ this
 ·by_cases e:k=id
  ·subst e; simp at hk
  ·rw [aJ _ _ e] at hk; exact h.fresh k hk
theorem Evo.freeze {g:Gh} {H:Nat→Ent} {w:World} (h:WRel g H w) {id:Nat} {cells:List AV} (hid:H id=.box cells) :
  ∃ g',Evo g H w g' (upd H id (.ibox cells)) w:=by
 have he:=h.ent id
 rw [hid] at he
 obtain ⟨b,n,cs,T,fr,e1,e2,e3,e4,e5,e6,e7⟩:=he
 have hlv:(H id).live:=by rw [hid]; trivial
 have hlive:∀ k,(upd H id (.ibox cells) k).live→k≠id∧(H k).live:=fun k hk=>by
  by_cases e:k=id
  ·subst e; rw [aR] at hk; exact hk.elim
  ·rw [aJ _ _ e] at hk; exact ⟨e,hk⟩
 have hle:g.le (g.addI b 0 (cs.toList.take cells.length)):=Gh.le_addI fun o _=>e7 o
 have hne:∀ b' o,b'≠b→(g.addI b 0 (cs.toList.take cells.length)).I b' o=g.I b' o:=fun b' o hb=>by simp [Gh.addI,hb]
 have hin:∀ o v,(g.addI b 0 (cs.toList.take cells.length)).I b o=some v→cs[o]?=some v:=fun o v e=>by
  simp only [Gh.addI,Nat.zero_le,true_and,Nat.zero_add,Nat.sub_zero] at e
  split at e
  ·rw [List.getElem?_take] at e
   split at e
   ·simpa using e
   ·cases e
  ·rw [e7] at e; cases e
 refine ⟨g.addI b 0 (cs.toList.take cells.length),hle,⟨fun b1 o v e=>?_,fun k=>?_,fun k hk=>?_,fun k k' x x' hnek hl hl' e e'=>?_⟩,.refl _ _,fun b1 o v e=>?_,fun k b lo n hl e=>?_⟩
 ·by_cases hb:b1=b
  ·subst hb
   rw [cI e2]; exact hin o v e
  ·rw [hne b1 o hb] at e; exact h.imm b1 o v e
 ·by_cases hk:k=id
  ·subst hk
   rw [aR]
   refine ⟨b,n,e1,fun j x hj=>?_⟩
   obtain ⟨c,h1,h2⟩:=e6 j x hj
   have hjl:j < cells.length:=by
    rcases Nat.lt_or_ge j cells.length with h' | h'
    ·exact h'
    ·rw [List.getElem?_eq_none h'] at hj; cases hj
   refine ⟨c,?_,h2.mono hle⟩
   have:=Gh.addI_at (g:=g) (b:=b) (lo:=0) (vs:=cs.toList.take cells.length) (k:=j) (by simp; omega)
   rw [Nat.zero_add] at this
   rw [this,List.getElem?_take,if_pos hjl]
   simpa using h1
  ·rw [aJ _ _ hk]
   refine (h.ent k).keep hle (fun _=>rfl) fun b1 lo n1 hl e=>⟨rfl,fun o _=>?_⟩
   have:=h.inj k id _ _ hk hl hlv e e1
   exact hne b1 o this
 ·by_cases e:k=id
  ·subst e; simp at hk
  ·rw [aJ _ _ e] at hk; exact h.fresh k hk
 ·obtain ⟨h1,h2⟩:=hlive k hl
  obtain ⟨h1',h2'⟩:=hlive k' hl'
  exact h.inj k k' x x' hnek h2 h2' e e'
 ·by_cases hb:b1=b
  ·subst hb
   exact .inr (.inr ⟨id,0,n,hlv,e1,Nat.zero_le _⟩)
  ·rw [hne b1 o hb] at e; exact .inl e
 ·obtain ⟨h1,h2⟩:=hlive k hl
  exact .inr ⟨k,lo,n,h2,e,Nat.le_refl _⟩
theorem Evo.extend {g:Gh} {H:Nat→Ent} {w:World} (h:WRel g H w) {id id2 b lo n:Nat} (hid:H id=.tail) (hid2:H id2=.unborn) (hρ:g.ρ id=some (b,lo,n))
  (vs:List Value) (hn:lo+vs.length≤n) :
  let g':=(g.addI b lo vs).setρ id2 (b,lo+vs.length,n)
  (∀ k,k < vs.length→g'.I b (lo+k)=vs[k]?)∧g'.ρ id2=some (b,lo+vs.length,n)∧Evo g H w g' (upd (upd H id .dead) id2 .tail) (w.setCells b lo vs):=by
 intro g'
 have hlv:(H id).live:=by rw [hid]; trivial
 have hne2:id≠id2:=fun e=>by subst e; rw [hid] at hid2; cases hid2
 obtain ⟨cs,T,fr,e2,e3,e4,e5⟩:=h.tail_at hid hρ
 have hle:g.le g':=(Gh.le_addI e5).trans (Gh.le_setρ (h.fresh id2 hid2))
 have hne:∀ b' o,b'≠b→g'.I b' o=g.I b' o:=fun b' o hb=>by simp [g',Gh.addI,Gh.setρ,hb]
 have hin:∀ o v,g'.I b o=some v→(lo≤o∧o < lo+vs.length∧vs[o - lo]?=some v)∨(g.I b o=some v∧o < lo):=fun o v e=>by
  simp only [g',Gh.addI,Gh.setρ,true_and] at e
  split at e
  ·rename_i hc; exact .inl ⟨hc.1,hc.2,e⟩
  ·refine .inr ⟨e,?_⟩
   rcases Nat.lt_or_ge o lo with h' | h'
   ·exact h'
   ·rw [e5 o h'] at e; cases e
 have hρ2:g'.ρ id2=some (b,lo+vs.length,n):=by simp [g',Gh.setρ]
 have hρne:∀ k,k≠id2→g'.ρ k=g.ρ k:=fun k hk=>by simp [g',Gh.setρ,Gh.addI,hk]
 have hlive:∀ k,(upd (upd H id .dead) id2 .tail k).live→k=id2∨(k≠id2∧k≠id∧(H k).live):=fun k hk=>by
  by_cases e:k=id2
  ·exact .inl e
  ·rw [aJ _ _ e] at hk
   by_cases e':k=id
   ·subst e'; rw [aR] at hk; exact hk.elim
   ·rw [aJ _ _ e'] at hk; exact .inr ⟨e,e',hk⟩
 have hM:∀ k,lo≤k→MutOf g H b k:=fun k hk=>⟨id,lo,n,hlv,hρ,hk⟩
 refine ⟨fun k hk=>?_,hρ2,hle,⟨fun b1 o v e=>?_,fun k=>?_,fun k hk=>?_,fun k k' x x' hnek hl hl' e e'=>?_⟩,.setCells w b lo vs e2 fun k h1 _=>hM k h1,fun b1 o v e=>?_,fun k b1 lo1 n1 hl e=>?_⟩
 ·exact Gh.addI_at hk
 ·by_cases hb:b1=b
  ·subst hb
   rw [cI (mE vs w b1 lo cs T fr e2)]
   rcases hin o v e with ⟨h1,h2,h3⟩ | ⟨h1,h2⟩
   ·have:=oZ vs cs lo (o - lo) (by omega) (by omega)
    rw [show lo+(o - lo)=o by omega] at this
    rw [this]; exact h3
   ·rw [iR _ _ _ _ (.inl h2)]
    have:=h.imm b1 o v h1
    rwa [cI e2] at this
  ·rw [hne b1 o hb] at e
   obtain ⟨cs',T',fr',h1,h2⟩:=gM (h.imm b1 o v e)
   rw [cI (by rw [iE _ _ _ _ _ hb]; exact h1)]
   exact h2
 ·by_cases hk:k=id2
  ·subst hk
   rw [aR]
   intro b' lo' n' e'
   rw [hρ2] at e'; cases e'
   refine ⟨_,T,fr,mE vs w b lo cs T fr e2,(lG _ _ _).trans e3,fun o h1 h2=>e4 o (by omega) h2,fun o ho=>?_⟩
   cases hI:g'.I b o with
   | none=>rfl
   | some v =>
    rcases hin o v hI with ⟨h1,h2,h3⟩ | ⟨h1,h2⟩<;>omega
  ·rw [aJ _ _ hk]
   by_cases hk':k=id
   ·subst hk'; rw [aR]; trivial
   ·rw [aJ _ _ hk']
    refine (h.ent k).keep hle (fun _=>hρne k hk) fun b1 lo1 n1 hl e=>?_
    have:=h.inj k id _ _ hk' hl hlv e hρ
    exact ⟨iE _ _ _ _ _ this,fun o _=>hne b1 o this⟩
 ·by_cases e:k=id2
  ·subst e; simp at hk
  ·rw [aJ _ _ e] at hk
   by_cases e':k=id
   ·subst e'; simp at hk
   ·rw [aJ _ _ e'] at hk
    rw [hρne k e]; exact h.fresh k hk
 ·rcases hlive k hl with rfl | ⟨h1,h2,h3⟩
  ·rcases hlive k' hl' with rfl | ⟨h1',h2',h3'⟩
   ·exact absurd rfl hnek
   ·rw [hρ2] at e; cases e
    rw [hρne k' h1'] at e'
    exact (h.inj k' id x' (b,lo,n) h2' h3' hlv e' hρ:x'.1≠b).symm
  ·rw [hρne k h1] at e
   rcases hlive k' hl' with rfl | ⟨h1',h2',h3'⟩
   ·rw [hρ2] at e'; cases e'
    exact (h.inj k id x (b,lo,n) h2 h3 hlv e hρ:x.1≠b)
   ·rw [hρne k' h1'] at e'
    exact h.inj k k' _ _ hnek h3 h3' e e'
 ·by_cases hb:b1=b
  ·subst hb
   rcases hin o v e with ⟨h1,h2,h3⟩ | ⟨h1,h2⟩
   ·exact .inr (.inr (hM o h1))
   ·exact .inl h1
  ·rw [hne b1 o hb] at e; exact .inl e
 ·rcases hlive k hl with rfl | ⟨h1,h2,h3⟩
  ·rw [hρ2] at e; cases e
   exact .inr ⟨id,lo,n,hlv,hρ,Nat.le_add_right _ _⟩
  ·rw [hρne k h1] at e
   exact .inr ⟨k,lo1,n1,h3,e,Nat.le_refl _⟩
theorem Evo.forget' {g:Gh} {H:Nat→Ent} {w:World} (h:WRel g H w) (H':Nat→Ent) (hH:∀ k,H' k=H k∨H' k=.dead∨(H' k=.tail∧g.ρ k=none)):Evo g H w g H' w:=by
 have hlive:∀ k x,(H' k).live→g.ρ k=some x→(H k).live:=fun k x hk hx=>by
  rcases hH k with e | e | ⟨e,e'⟩
  ·rw [← e]; exact hk
  ·rw [e] at hk; exact hk.elim
  ·rw [e'] at hx; cases hx
 refine ⟨g.le_refl,⟨h.imm,fun k=>?_,fun k hk=>?_,fun k k' x x' hne hl hl' e e'=>h.inj k k' x x' hne (hlive k x hl e) (hlive k' x' hl' e') e e'⟩,.refl _ _,fun _ _ _ e=>.inl e,
  fun k b lo n hl e=>.inr ⟨k,lo,n,hlive k _ hl e,e,Nat.le_refl _⟩⟩
 ·rcases hH k with e | e | ⟨e,e'⟩
  ·rw [e]; exact h.ent k
  ·rw [e]; trivial
  ·rw [e]; intro b lo n e1; rw [e'] at e1; cases e1
 ·rcases hH k with e | e | ⟨e,e'⟩
  ·exact h.fresh k (e▸hk)
  ·rw [e] at hk; cases hk
  ·rw [e] at hk; cases hk
theorem Evo.forget {g:Gh} {H:Nat→Ent} {w:World} (h:WRel g H w) (H':Nat→Ent) (hH:∀ k,H' k=H k∨H' k=.dead):Evo g H w g H' w:=by
 have hlive:∀ k,(H' k).live→(H k).live:=fun k hk=>by
  rcases hH k with e | e
  ·rw [← e]; exact hk
  ·rw [e] at hk; exact hk.elim
 refine ⟨g.le_refl,⟨h.imm,fun k=>?_,fun k hk=>?_,fun k k' x x' hne hl hl' e e'=>h.inj k k' x x' hne (hlive k hl) (hlive k' hl') e e'⟩,.refl _ _,fun _ _ _ e=>.inl e,
  fun k b lo n hl e=>.inr ⟨k,lo,n,hlive k hl,e,Nat.le_refl _⟩⟩
 ·rcases hH k with e | e
  ·rw [e]; exact h.ent k
  ·rw [e]; trivial
 ·rcases hH k with e | e
  ·exact h.fresh k (e▸hk)
  ·rw [e] at hk; cases hk
theorem aP9 {w:World} {b o:Nat} {cs:Array Value} {T:TypeId} {fr:Nat×Nat} (hb:w.heap[b]?=some (.cells cs T fr)) :
  (∃ fr',(w.freeze ⟨b,o,none⟩ 1).heap[b]?=some (.cells cs T fr'))∧(∀ k,k≠b→(w.freeze ⟨b,o,none⟩ 1).heap[k]?=w.heap[k]?)∧(w.freeze ⟨b,o,none⟩ 1).heap.size=w.heap.size:=by
 simp only [World.freeze,Nat.one_ne_zero,if_false,Array.getElem?_modify]
 refine ⟨?_,fun k hk=>by rw [if_neg (Ne.symm hk)],by simp⟩
 rw [hb]
 simp only [if_true,Option.map_some]
 exact ⟨_,rfl⟩
theorem Evo.mark {g:Gh} {H:Nat→Ent} {w:World} (h:WRel g H w) {id:Nat} (hid:H id=.tail) {b lo n o:Nat} (hρ:g.ρ id=some (b,lo,n)) :
  Evo g H w g (upd H id .dead) (w.freeze ⟨b,o,none⟩ 1):=by
 have hlive:(H id).live:=by rw [hid]; trivial
 obtain ⟨cs,T,fr,e1,_,_,_⟩:=h.tail_at hid hρ
 obtain ⟨⟨fr',f1⟩,f2,f3⟩:=aP9 (o:=o) e1
 have hM:∃ o,MutOf g H b o:=⟨lo,id,lo,n,hlive,hρ,Nat.le_refl _⟩
 refine ⟨g.le_refl,⟨fun b' o' v hI=>?_,fun k=>?_,fun k hk=>?_,fun k k' x x' hne hl hl' e e'=>?_⟩,⟨Nat.le_of_eq f3.symm,?_,?_,fun b' cs' T' fr1 e=>?_,fun b' o' e hne=>?_⟩,fun _ _ _ e=>.inl e,fun k b' lo' n' hl e=>?_⟩
 ·have:=h.imm b' o' v hI
  by_cases hb:b'=b
  ·subst hb
   rw [cI f1]; rw [cI e1] at this; exact this
  ·unfold World.cell? at this ⊢
   rw [show (⟨b',o',none⟩:Addr).block=b' from rfl] at this ⊢
   rw [f2 b' hb]; exact this
 ·by_cases hk:k=id
  ·subst hk; rw [aR]; trivial
  ·rw [aJ _ _ hk]
   refine (h.ent k).keep g.le_refl (fun _=>rfl) fun b' lo' n' hl e=>⟨f2 b' ?_,fun _ _=>rfl⟩
   exact fun hb=>h.inj k id _ _ hk hl hlive e hρ hb
 ·by_cases hk':k=id
  ·subst hk'; rw [aR] at hk; cases hk
  ·rw [aJ _ _ hk'] at hk; exact h.fresh k hk
 ·have h1:k≠id:=fun hk=>by subst hk; rw [aR] at hl; exact hl.elim
  have h2:k'≠id:=fun hk=>by subst hk; rw [aR] at hl'; exact hl'.elim
  rw [aJ _ _ h1] at hl
  rw [aJ _ _ h2] at hl'
  exact h.inj k k' x x' hne hl hl' e e'
 ·simp [World.freeze]
 ·simp [World.freeze]
 ·by_cases hb:b'=b
  ·subst hb
   rw [e1] at e; cases e
   exact ⟨cs,fr',f1,rfl,fun _ _=>rfl,.inr hM⟩
  ·exact ⟨cs',fr1,by rw [f2 b' hb]; exact e,rfl,fun _ _=>rfl,.inl rfl⟩
 ·have hb:b'≠b:=fun hb=>by subst hb; rw [e1] at e; cases e; exact hne _ _ _ rfl
  rw [f2 b' hb]; exact fun _=>e
 ·have h1:k≠id:=fun hk=>by subst hk; rw [aR] at hl; exact hl.elim
  rw [aJ _ _ h1] at hl
  exact .inr ⟨k,lo',n',hl,e,Nat.le_refl _⟩
theorem Evo.scribble {g:Gh} {H:Nat→Ent} {w:World} (h:WRel g H w) {id b lo n:Nat} (hid:H id=.tail) (hρ:g.ρ id=some (b,lo,n)) (vs:List Value) (hn:lo+vs.length≤n) :
  Evo g H w g H (w.setCells b lo vs):=by
 have hlv:(H id).live:=by rw [hid]; trivial
 obtain ⟨cs,T,fr,e2,e3,e4,e5⟩:=h.tail_at hid hρ
 have hM:∀ k,lo≤k→MutOf g H b k:=fun k hk=>⟨id,lo,n,hlv,hρ,hk⟩
 refine ⟨g.le_refl,⟨fun b1 o v e=>?_,fun k=>?_,h.fresh,h.inj⟩,.setCells w b lo vs e2 fun k h1 _=>hM k h1,fun b1 o v e=>.inl e,fun k b1 lo1 n1 hl e=>.inr ⟨k,lo1,n1,hl,e,Nat.le_refl _⟩⟩
 ·by_cases hb:b1=b
  ·subst hb
   have ho:o < lo:=by
    rcases Nat.lt_or_ge o lo with h' | h'
    ·exact h'
    ·rw [e5 o h'] at e; cases e
   rw [cI (mE vs w b1 lo cs T fr e2),iR _ _ _ _ (.inl ho)]
   have:=h.imm b1 o v e
   rwa [cI e2] at this
  ·obtain ⟨cs',T',fr',h1,h2⟩:=gM (h.imm b1 o v e)
   rw [cI (by rw [iE _ _ _ _ _ hb]; exact h1)]
   exact h2
 ·by_cases hk:k=id
  ·subst hk
   rw [hid]
   intro b' lo' n' e'
   rw [hρ] at e'; cases e'
   exact ⟨_,T,fr,mE vs w b lo cs T fr e2,(lG _ _ _).trans e3,e4,e5⟩
  ·refine (h.ent k).keep g.le_refl (fun _=>rfl) fun b1 lo1 n1 hl e=>⟨?_,fun _ _=>rfl⟩
   exact iE _ _ _ _ _ (h.inj k id _ _ hk hl hlv e hρ)
theorem Evo.boxM {g:Gh} {H:Nat→Ent} {w:World} (h:WRel g H w) {id:Nat} (hid:H id=.unborn) (cells:List AV) (cs rest:Array Value) (T:TypeId)
  (hc:LRel g cells cs.toList) :
  (g.setρ id (w.heap.size,0,(cs++rest).size)).ρ id=some (w.heap.size,0,(cs++rest).size) ∧
  Evo g H w (g.setρ id (w.heap.size,0,(cs++rest).size)) (upd H id (.gbx cells)) { w with heap:=w.heap.push (.cells (cs++rest) T) }:=by
 generalize hm:(cs++rest).size=m
 have hle:g.le (g.setρ id (w.heap.size,0,m)):=Gh.le_setρ (h.fresh id hid)
 have hρ:(g.setρ id (w.heap.size,0,m)).ρ id=some (w.heap.size,0,m):=by simp [Gh.setρ]
 have hρne:∀ k,k≠id→(g.setρ id (w.heap.size,0,m)).ρ k=g.ρ k:=fun k hk=>by simp [Gh.setρ,hk]
 have hcell:∀ b o v,g.I b o=some v→b < w.heap.size:=fun b o v e=>h.I_lt e
 refine ⟨hρ,hle,⟨fun b o v e=>?_,fun k=>?_,fun k hk=>?_,fun k k' x x' hne hl hl' e e'=>?_⟩,.push _ _ _,fun b o v e=>.inl e,fun k b lo n hl e=>?_⟩
 ·have hb:=hcell b o v e
  obtain ⟨cs',T',fr',h1,h2⟩:=gM (h.imm b o v e)
  rw [cI (by rw [World.heap_push,if_neg (by omega)]; exact h1)]
  exact h2
 ·by_cases hk:k=id
  ·subst hk
   rw [aR]
   refine .inr ⟨w.heap.size,m,cs++rest,T,(0,0),hρ,by simp [World.heap_push],hm,fun o _ _=>by simp,?_,fun j x hx=>?_,fun o=>?_⟩
   ·have:=hc.1; rw [← hm,Array.size_append]; simp at this; omega
   ·obtain ⟨c,h1,h2⟩:=hc.get hx
    refine ⟨c,?_,h2.mono hle⟩
    have h1':cs[j]?=some c:=by simpa using h1
    obtain ⟨q1,q2⟩:=Array.getElem?_eq_some_iff.1 h1'
    rw [Array.getElem?_append_left q1]; exact h1'
   ·cases hI:g.I w.heap.size o with
    | none=>exact hI
    | some v=>have:=hcell _ _ _ hI; omega
  ·rw [aJ _ _ hk]
   refine (h.ent k).keep hle (fun _=>hρne k hk) fun b lo n hl e=>?_
   obtain ⟨o',h1,_⟩:=h.live_lt hl e
   refine ⟨?_,fun o _=>rfl⟩
   rw [World.heap_push,if_neg (by have:=cZ h1; omega)]
 ·by_cases hk':k=id
  ·subst hk'; simp at hk
  ·rw [aJ _ _ hk'] at hk
   rw [hρne k hk']; exact h.fresh k hk
 ·by_cases hk:k=id
  ·subst hk
   have hk':k'≠k:=Ne.symm hne
   rw [hρ] at e; cases e
   rw [hρne k' hk'] at e'
   rw [aJ _ _ hk'] at hl'
   obtain ⟨b',lo',n'⟩:=x'
   obtain ⟨o',h1,_⟩:=h.live_lt hl' e'
   have:=cZ h1
   simp; omega
  ·rw [hρne k hk] at e
   rw [aJ _ _ hk] at hl
   obtain ⟨b,lo,n⟩:=x
   obtain ⟨o',h1,_⟩:=h.live_lt hl e
   have hb:=cZ h1
   by_cases hk':k'=id
   ·subst hk'
    rw [hρ] at e'; cases e'
    simp; omega
   ·rw [hρne k' hk'] at e'
    rw [aJ _ _ hk'] at hl'
    exact h.inj k k' _ _ hne hl hl' e e'
 ·by_cases hk:k=id
  ·subst hk
   rw [hρ] at e; cases e
   exact .inl (Nat.le_refl _)
  ·rw [hρne k hk] at e
   rw [aJ _ _ hk] at hl
   exact .inr ⟨k,lo,n,hl,e,Nat.le_refl _⟩
theorem Evo.moveM {g:Gh} {H:Nat→Ent} {w:World} (h:WRel g H w) {id id2 b n off:Nat} {cells cells':List AV} {vs:List Value} (hid:H id=.gbx cells) (hid2:H id2=.unborn) (hρ:g.ρ id=some (b,0,n))
  (hx:∃ xs,LRel g xs vs∧cells'=cells.take off++xs∧off≤cells.length∧off+xs.length≤n) :
  (g.setρ id2 (b,0,n)).ρ id2=some (b,0,n)∧Evo g H w (g.setρ id2 (b,0,n)) (upd (upd H id .dead) id2 (.gbx cells')) (w.setCells b off vs):=by
 obtain ⟨xs,hx,rfl,hoff,hn⟩:=hx
 have he:=h.ent id
 rw [hid] at he
 rcases he with ⟨e0,_⟩ | ⟨b',n',cs,T,fr,e1,e2,e3,e4,e5,e6,e7⟩
 ·rw [hρ] at e0; cases e0
 rw [hρ] at e1; cases e1
 have hlv:(H id).live:=by rw [hid]; trivial
 have hne2:id≠id2:=fun e=>by subst e; rw [hid] at hid2; cases hid2
 have hM:∀ k,MutOf g H b k:=fun k=>⟨id,0,n,hlv,hρ,Nat.zero_le _⟩
 have hlen:vs.length=xs.length:=hx.1.symm
 have hle:g.le (g.setρ id2 (b,0,n)):=Gh.le_setρ (h.fresh id2 hid2)
 have hρ2:(g.setρ id2 (b,0,n)).ρ id2=some (b,0,n):=by simp [Gh.setρ]
 have hρne:∀ k,k≠id2→(g.setρ id2 (b,0,n)).ρ k=g.ρ k:=fun k hk=>by simp [Gh.setρ,hk]
 have hlive:∀ k,(upd (upd H id .dead) id2 (.gbx (cells.take off++xs)) k).live→k=id2∨(k≠id2∧k≠id∧(H k).live):=fun k hk=>by
  by_cases e:k=id2
  ·exact .inl e
  ·rw [aJ _ _ e] at hk
   by_cases e':k=id
   ·subst e'; rw [aR] at hk; exact hk.elim
   ·rw [aJ _ _ e'] at hk; exact .inr ⟨e,e',hk⟩
 refine ⟨hρ2,hle,⟨fun b1 o v e=>?_,fun k=>?_,fun k hk=>?_,fun k k' x x' hnek hl hl' e e'=>?_⟩,.setCells w b off vs e2 fun k _ _=>hM k,fun b1 o v e=>.inl e,fun k b1 lo1 n1 hl e=>?_⟩
 ·have hb1:b1≠b:=fun hb=>by
   subst hb
   have:g.I b1 o=some v:=e
   rw [e7] at this; cases this
  obtain ⟨cs',T',fr',h1,h2⟩:=gM (h.imm b1 o v e)
  rw [cI (by rw [iE _ _ _ _ _ hb1]; exact h1)]
  exact h2
 ·by_cases hk:k=id2
  ·subst hk
   rw [aR]
   refine .inr ⟨b,n,_,T,fr,hρ2,mE vs w b off cs T fr e2,(lG _ _ _).trans e3,e4,?_,fun j x hj=>?_,e7⟩
   ·rw [List.length_append,List.length_take]; omega
   ·rw [List.getElem?_append] at hj
    rw [List.length_take,Nat.min_eq_left hoff] at hj
    split at hj
    ·rename_i hlt
     rw [iR _ _ _ _ (.inl hlt)]
     rw [List.getElem?_take,if_pos hlt] at hj
     obtain ⟨c,h1,h2⟩:=e6 j x hj
     exact ⟨c,h1,h2.mono hle⟩
    ·obtain ⟨c,h1,h2⟩:=hx.get hj
     refine ⟨c,?_,h2.mono hle⟩
     have hjl:j - off < vs.length:=by
      rcases Nat.lt_or_ge (j - off) vs.length with h' | h'
      ·exact h'
      ·rw [List.getElem?_eq_none h'] at h1; cases h1
     have:=oZ vs cs off (j - off) (by omega) hjl
     rw [show off+(j - off)=j by omega] at this
     rw [this]; exact h1
  ·rw [aJ _ _ hk]
   by_cases hk':k=id
   ·subst hk'; rw [aR]; trivial
   ·rw [aJ _ _ hk']
    refine (h.ent k).keep hle (fun _=>hρne k hk) fun b1 lo1 n1 hl e=>⟨?_,fun _ _=>rfl⟩
    exact iE _ _ _ _ _ (h.inj k id _ _ hk' hl hlv e hρ)
 ·by_cases e:k=id2
  ·subst e; simp at hk
  ·rw [aJ _ _ e] at hk
   by_cases e':k=id
   ·subst e'; simp at hk
   ·rw [aJ _ _ e'] at hk
    rw [hρne k e]; exact h.fresh k hk
 ·rcases hlive k hl with rfl | ⟨h1,h2,h3⟩
  ·rcases hlive k' hl' with rfl | ⟨h1',h2',h3'⟩
   ·exact absurd rfl hnek
   ·rw [hρ2] at e; cases e
    rw [hρne k' h1'] at e'
    exact (h.inj k' id x' (b,0,n) h2' h3' hlv e' hρ:x'.1≠b).symm
  ·rw [hρne k h1] at e
   rcases hlive k' hl' with rfl | ⟨h1',h2',h3'⟩
   ·rw [hρ2] at e'; cases e'
    exact (h.inj k id x (b,0,n) h2 h3 hlv e hρ:x.1≠b)
   ·rw [hρne k' h1'] at e'
    exact h.inj k k' _ _ hnek h3 h3' e e'
 ·rcases hlive k hl with rfl | ⟨h1,h2,h3⟩
  ·rw [hρ2] at e; cases e
   exact .inr ⟨id,0,n,hlv,hρ,Nat.zero_le _⟩
  ·rw [hρne k h1] at e
   exact .inr ⟨k,lo1,n1,h3,e,Nat.le_refl _⟩
theorem Evo.noneM {g:Gh} {H:Nat→Ent} {w:World} (h:WRel g H w) (H':Nat→Ent) (hH:∀ k,H' k=H k∨H' k=.dead∨(H' k=.gbx []∧g.ρ k=none)):Evo g H w g H' w:=by
 have hlive:∀ k x,(H' k).live→g.ρ k=some x→(H k).live:=fun k x hk hx=>by
  rcases hH k with e | e | ⟨e,e'⟩
  ·rw [← e]; exact hk
  ·rw [e] at hk; exact hk.elim
  ·rw [e'] at hx; cases hx
 refine ⟨g.le_refl,⟨h.imm,fun k=>?_,fun k hk=>?_,fun k k' x x' hne hl hl' e e'=>h.inj k k' x x' hne (hlive k x hl e) (hlive k' x' hl' e') e e'⟩,.refl _ _,fun _ _ _ e=>.inl e,
  fun k b lo n hl e=>.inr ⟨k,lo,n,hlive k _ hl e,e,Nat.le_refl _⟩⟩
 ·rcases hH k with e | e | ⟨e,e'⟩
  ·rw [e]; exact h.ent k
  ·rw [e]; trivial
  ·rw [e]; exact .inl ⟨e',rfl⟩
 ·rcases hH k with e | e | ⟨e,e'⟩
  ·exact h.fresh k (e▸hk)
  ·rw [e] at hk; cases hk
  ·rw [e] at hk; cases hk
theorem Evo.writeM {g:Gh} {H:Nat→Ent} {w:World} (h:WRel g H w) {id b n off:Nat} {cells xs:List AV} {vs:List Value} (hid:H id=.gbx cells) (hρ:g.ρ id=some (b,0,n))
  (hx:LRel g xs vs) (hoff:off+xs.length≤cells.length) :
  Evo g H w g (upd H id (.gbx (wr cells off xs))) (w.setCells b off vs):=by
 have he:=h.ent id
 rw [hid] at he
 rcases he with ⟨e0,_⟩ | ⟨b',n',cs,T,fr,e1,e2,e3,e4,e5,e6,e7⟩
 ·rw [hρ] at e0; cases e0
 rw [hρ] at e1; cases e1
 have hlv:(H id).live:=by rw [hid]; trivial
 have hM:∀ k,MutOf g H b k:=fun k=>⟨id,0,n,hlv,hρ,Nat.zero_le _⟩
 have hlen:vs.length=xs.length:=hx.1.symm
 have hlive:∀ k,(upd H id (.gbx (wr cells off xs)) k).live→(H k).live:=fun k hk=>by
  by_cases e:k=id
  ·subst e; exact hlv
  ·rw [aJ _ _ e] at hk; exact hk
 refine ⟨g.le_refl,⟨fun b1 o v e=>?_,fun k=>?_,fun k hk=>?_,fun k k' x x' hne hl hl' e e'=>h.inj k k' x x' hne (hlive k hl) (hlive k' hl') e e'⟩,.setCells w b off vs e2 fun k _ _=>hM k,
  fun b o v e=>.inl e,fun k b lo n hl e=>.inr ⟨k,lo,n,hlive k hl,e,Nat.le_refl _⟩⟩
 ·have hb1:b1≠b:=fun hb=>by subst hb; rw [e7] at e; cases e
  obtain ⟨cs',T',fr',h1,h2⟩:=gM (h.imm b1 o v e)
  rw [cI (by rw [iE _ _ _ _ _ hb1]; exact h1)]
  exact h2
 ·by_cases hk:k=id
  ·subst hk
   rw [aR]
   refine .inr ⟨b,n,_,T,fr,hρ,mE vs w b off cs T fr e2,(lG _ _ _).trans e3,e4,by rw [xP _ _ _ hoff]; exact e5,fun j x hj=>?_,e7⟩
   rw [aEX _ _ _ hoff] at hj
   split at hj
   ·rw [iR _ _ _ _ (.inl ‹_›)]; exact e6 j x hj
   ·split at hj
    ·obtain ⟨c,h1,h2⟩:=hx.get hj
     refine ⟨c,?_,h2⟩
     have:=oZ vs cs off (j - off) (by omega) (by omega)
     rw [show off+(j - off)=j by omega] at this
     rw [this]; exact h1
    ·rw [iR _ _ _ _ (.inr (by omega))]; exact e6 j x hj
  ·rw [aJ _ _ hk]
   refine (h.ent k).keep g.le_refl (fun _=>rfl) fun b1 lo n1 hl e=>⟨?_,fun _ _=>rfl⟩
   exact iE _ _ _ _ _ (h.inj k id _ _ hk hl hlv e hρ)
 ·by_cases e:k=id
  ·subst e; simp at hk
  ·rw [aJ _ _ e] at hk; exact h.fresh k hk
end Go.Ev
