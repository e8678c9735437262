/-
How the abstract heap and the ghost follow a world that goes on: a new block,a written block,a grown slice.
-/
import Derived.Test.YtddpmkmgbdedlaaGreatqEvA
import Derived.Laws.Tables
set_option linter.unusedVariables false
set_option linter.unusedSimpArgs false
namespace Go.Ev
open Go
def sF (cs:Array Value):Nat→List Value→Array Value
 |_,[]=>cs
 |o,v :: r=>sF (cs.setIfInBounds o v) (o+1) r
theorem jT:∀ (vs:List Value) (cs:Array Value) (o:Nat),(sF cs o vs).size=cs.size
 |[],_,_=>rfl
 |v :: r,cs,o=>by rw[sF,jT r];simp
theorem iG:∀ (vs:List Value) (cs:Array Value) (o k:Nat),(k < o∨o+vs.length≤k)→(sF cs o vs)[k]?=cs[k]?
 |[],_,_,_,_=>rfl
 |v :: r,cs,o,k,h=>by
  rw[sF,iG r _ _ _ (by simp at h;omega),Array.getElem?_setIfInBounds_ne (by simp at h;omega)]
theorem xC:∀ (vs:List Value) (cs:Array Value) (o j:Nat),o+vs.length≤cs.size→j < vs.length→(sF cs o vs)[o+j]?=vs[j]?
 |v :: r,cs,o,0,h,_=>by
  rw[sF,iG r _ _ _ (by left;omega)]
  simp at h
  simp[Array.getElem?_setIfInBounds_self_of_lt (show o < cs.size by omega)]
 |v :: r,cs,o,j+1,h,hj=>by
  rw[sF,show o+(j+1)=o+1+j by omega,xC r _ _ _ (by simp at h ⊢;omega) (by simpa using hj)]
  simp
theorem fL:∀ (vs:List Value) (w:World) (b o:Nat) (cs:Array Value) (T:TypeId) (fr:Nat×Nat),w.heap[b]?=some (.cells cs T fr) →
  (w.setCells b o vs).heap[b]?=some (.cells (sF cs o vs) T fr)
 |[],_,_,_,_,_,_,h=>h
 |v :: r,w,b,o,cs,T,fr,h=>by
  rw[World.setCells,sF]
  refine fL r _ b (o+1) _ T fr ?_
  simp[World.setCell,Array.getElem?_modify,h]
theorem cQ:∀ (vs:List Value) (w:World) (b o k:Nat),k≠b→(w.setCells b o vs).heap[k]?=w.heap[k]?
 |[],_,_,_,_,_=>rfl
 |v :: r,w,b,o,k,h=>by
  rw[World.setCells,cQ r _ _ _ _ h]
  simp[World.setCell,Array.getElem?_modify,Ne.symm h]
theorem KW:∀ (vs:List Value) (w:World) (b o:Nat),(w.setCells b o vs).heap.size=w.heap.size
 |[],_,_,_=>rfl
 |v :: r,w,b,o=>by rw[World.setCells,KW r];simp[World.setCell]
theorem VE:∀ (vs:List Value) (w:World) (b o:Nat),(w.setCells b o vs).os=w.os
 |[],_,_,_=>rfl
 |v :: r,w,b,o=>by rw[World.setCells,VE r];rfl
theorem DM:∀ (vs:List Value) (w:World) (b o:Nat),(w.setCells b o vs).output=w.output
 |[],_,_,_=>rfl
 |v :: r,w,b,o=>by rw[World.setCells,DM r];rfl
theorem bL {w:World}{b:Nat}{cs:Array Value}{T:TypeId}{fr:Nat×Nat}(h:w.heap[b]?=some (.cells cs T fr))(o:Nat):w.cell? ⟨b,o,none⟩=cs[o]?:=by
 simp[World.cell?,h]
theorem fB {w:World}{b o:Nat}{v:Value}(h:w.cell? ⟨b,o,none⟩=some v):∃ cs T fr,w.heap[b]?=some (.cells cs T fr)∧cs[o]?=some v:=by
 unfold World.cell? at h
 split at h
 ·rename_i c e fr hc
  exact⟨c,e,fr,hc,by simpa using h⟩
 ·cases h
theorem cU {w:World}{b:Nat}{o:Obj}(h:w.heap[b]?=some o):b < w.heap.size:=by
 rcases Nat.lt_or_ge b w.heap.size with hb|hb
 ·exact hb
 ·rw[Array.getElem?_eq_none hb]at h;cases h
theorem eR.aB8 {g:Gh}{H:Nat→dD}{w:World}(h:eR g H w){b o:Nat}{v:Value}(e:g.I b o=some v):b < w.heap.size:=by
 obtain⟨cs,T,fr,h1,_⟩:=fB (h.AY b o v e)
 exact cU h1
theorem eR.tail_at {g:Gh}{H:Nat→dD}{w:World}(h:eR g H w){id b lo n:Nat}(hl:H id=.tail)(e:g.ρ id=some (b,lo,n)) :
  ∃ cs T fr,w.heap[b]?=some (.cells cs T fr)∧cs.size=n∧HR fr lo n∧∀ o,lo≤o→g.I b o=none:=by
 have he:=h.zD id
 rw[hl]at he
 exact he b lo n e
theorem eR.noI {g:Gh}{H:Nat→dD}{w:World}(h:eR g H w){l:Nat}{o:Obj}(hl:w.heap[l]?=some o)(ho:∀ cs T fr,o≠.cells cs T fr)(k:Nat):g.I l k=none:=by
 cases hI:g.I l k with
 |none=>rfl
 |some v =>
  obtain⟨cs,T,fr,h1,_⟩:=fB (h.AY l k v hI)
  rw[hl]at h1;cases h1;exact absurd rfl (ho cs T fr)
theorem eR.Cu {g:Gh}{H:Nat→dD}{w:World}(h:eR g H w){id b lo n:Nat}(hl:(H id).live)(e:g.ρ id=some (b,lo,n)) :
  ∃ o,w.heap[b]?=some o∧∀ o,lo≤o→g.I b o=none:=by
 have he:=h.zD id
 cases hH:H id with
 |box cells =>
  rw[hH]at he
  obtain⟨b',n',cs,T,fr,e1,e2,e3,e4,e5,e6,e7⟩:=he
  rw[e]at e1;cases e1
  exact⟨_,e2,fun o _=>e7 o⟩
 |tail =>
  rw[hH]at he
  obtain⟨cs,T,fr,e2,_,_,e5⟩:=he b lo n e
  exact⟨_,e2,e5⟩
 |eD cells =>
  rw[hH]at he
  rcases he with⟨e0,_⟩|⟨b',n',cs,T,fr,e1,e2,e3,e4,e5,e6,e7⟩
  ·rw[e]at e0;cases e0
  ·rw[e]at e1;cases e1
   exact⟨_,e2,fun o _=>e7 o⟩
 |yU ps asg body ts =>
  rw[hH]at he
  obtain⟨l,fn,tm,df,e1,e2,_⟩:=he
  rw[e]at e1;cases e1
  exact⟨_,e2,fun o _=>h.noI e2 (fun _ _ _=>by simp) o⟩
 |Qa c =>
  rw[hH]at he
  obtain⟨l,r,e1,e2,_⟩:=he
  rw[e]at e1;cases e1
  exact⟨_,e2,fun o _=>h.noI e2 (fun _ _ _=>by simp) o⟩
 |aX ms=>rw[hH]at he;have he':g.ρ id=none:=he;rw[he']at e;cases e
 |bX=>rw[hH]at hl;exact hl.elim
 |dead=>rw[hH]at hl;exact hl.elim
 |Aa c=>rw[hH]at hl;exact hl.elim
def eQ (H:Nat→dD)(id:Nat)(e:dD):Nat→dD:=fun k=>if k=id then e else H k
@[simp] theorem aP (H:Nat→dD) (id:Nat) (e:dD):eQ H id e id=e:=by simp[eQ]
theorem aM (H:Nat→dD){id k:Nat}(e:dD)(h:k≠id):eQ H id e k=H k:=by simp[eQ,h]
theorem Hn.iO {g g':Gh}{w w':World}{id:Nat}{e:dD}(hle:g.le g')(h:Hn g w id e)(gO:True→g'.ρ id=g.ρ id)
  (hb:∀ b lo n,e.live→g.ρ id=some (b,lo,n)→w'.heap[b]?=w.heap[b]?∧∀ o,lo≤o→g'.I b o=g.I b o):Hn g' w' id e:=by
 cases e with
 |bX=>trivial
 |dead=>trivial
 |box cells =>
  obtain⟨b,n,cs,T,fr,e1,e2,e3,e4,e5,e6,e7⟩:=h
  obtain⟨h1,h2⟩:=hb b 0 n trivial e1
  exact⟨b,n,cs,T,fr,hle.ρ _ _ e1,h1.trans e2,e3,e4,e5,fun k x hk=>let ⟨c,hc,hv⟩:=e6 k x hk;⟨c,hc,hv.mono hle⟩,fun o=>(h2 o (Nat.zero_le _)).trans (e7 o)⟩
 |Aa cells =>
  obtain⟨b,n,e1,e2⟩:=h
  exact⟨b,n,hle.ρ _ _ e1,fun k x hk=>let ⟨c,hc,hv⟩:=e2 k x hk;⟨c,hle.I _ _ _ hc,hv.mono hle⟩⟩
 |tail =>
  intro b lo n e1
  rw[gO trivial]at e1
  obtain⟨cs,T,fr,e2,e3,e4,e5⟩:=h b lo n e1
  obtain⟨h1,h2⟩:=hb b lo n trivial e1
  exact⟨cs,T,fr,h1.trans e2,e3,e4,fun o ho=>(h2 o ho).trans (e5 o ho)⟩
 |eD cells =>
  rcases h with⟨e0,e0'⟩|⟨b,n,cs,T,fr,e1,e2,e3,e4,e5,e6,e7⟩
  ·exact .inl ⟨(gO trivial).trans e0,e0'⟩
  ·obtain⟨h1,h2⟩:=hb b 0 n trivial e1
   exact .inr ⟨b,n,cs,T,fr,hle.ρ _ _ e1,h1.trans e2,e3,e4,e5,fun k x hk=>let ⟨c,hc,hv⟩:=e6 k x hk;⟨c,hc,hv.mono hle⟩,fun o=>(h2 o (Nat.zero_le _)).trans (e7 o)⟩
 |yU ps asg body ts =>
  obtain⟨l,fn,tm,df,e1,e2,e3⟩:=h
  obtain⟨h1,_⟩:=hb l 0 0 trivial e1
  exact⟨l,fn,tm,df,hle.ρ _ _ e1,h1.trans e2,e3.mono hle⟩
 |Qa c =>
  obtain⟨l,r,e1,e2,e3,e4⟩:=h
  obtain⟨h1,_⟩:=hb l 0 0 trivial e1
  exact⟨l,r,hle.ρ _ _ e1,h1.trans e2,e3,e4⟩
 |aX ms=>exact (gO trivial).trans h
def Gh.jX (g:Gh)(id:Nat)(x:Nat×Nat×Nat):Gh:={ g with ρ:=fun k=>if k=id then some x else g.ρ k }
theorem Gh.Yj {g:Gh}{id:Nat}{x:Nat×Nat×Nat}(h:g.ρ id=none):g.le (g.jX id x):=by
 refine⟨fun _ _ _ e=>e,fun k y e=>?_,rfl⟩
 simp only[Gh.jX]
 split
 ·rename_i hk;rw[hk,h]at e;cases e
 ·exact e
def Gh.Li (g:Gh)(b lo:Nat)(vs:List Value):Gh :=
 { g with I:=fun b' o=>if b'=b∧lo≤o∧o < lo+vs.length then vs[o - lo]? else g.I b' o }
theorem Gh.XM {g:Gh}{b lo:Nat}{vs:List Value}(h:∀ o,lo≤o→g.I b o=none):g.le (g.Li b lo vs):=by
 refine⟨fun b' o v e=>?_,fun _ _ e=>e,rfl⟩
 simp only[Gh.Li]
 split
 ·rename_i hk
  rw[hk.1,h o hk.2.1]at e
  cases e
 ·exact e
theorem Gh.XB {g:Gh}{b lo:Nat}{vs:List Value}{k:Nat}(hk:k < vs.length):(g.Li b lo vs).I b (lo+k)=vs[k]?:=by
 simp[Gh.Li,hk]
theorem World.nB (w:World)(o:Obj)(k:Nat):({ w with heap:=w.heap.push o }:World).heap[k]?=if k=w.heap.size then some o else w.heap[k]?:=by
 simp[Array.getElem?_push]
theorem eR.drew {g:Gh}{H:Nat→dD}{w:World}(h:eR g H w)(n:Nat):eR g H { w with drawn:=n } :=
 ⟨h.AY,fun id=>by have:=h.zD id;exact this,h.fresh,h.inj⟩
theorem fC.drew {g:Gh}{H:Nat→dD}{w:World}(h:eR g H w)(n:Nat):fC g H w g H { w with drawn:=n } :=
 ⟨g.le_refl,h.drew n,.drew _ _ n,fun _ _ _ e=>.inl e,fun id b lo n hl e=>.inr ⟨id,lo,n,hl,e,Nat.le_refl _⟩⟩
theorem Fr.push (M:Nat→Nat→Prop)(w:World)(o:Obj):Fr M w { w with heap:=w.heap.push o }:=by
 refine⟨by simp,rfl,rfl,fun b cs T fr e=>⟨cs,fr,?_,rfl,fun _ _=>rfl,.inl rfl⟩,fun b o' e _ _=>?_⟩
 ·rw[World.nB,if_neg (by have:=cU e;omega)];exact e
 ·rw[World.nB,if_neg (by have:=cU e;omega)];exact e
theorem fC.box {g:Gh}{H:Nat→dD}{w:World}(h:eR g H w){id:Nat}(gY:H id=.bX)(cells:List AV)(cs:Array Value)(T:TypeId)
  (hc:cW g cells cs.toList) :
  aF (g.jX id (w.heap.size,0,cs.size)) (.ptr id 0) (.pointer (some ⟨w.heap.size,0,none⟩)) ∧
  fC g H w (g.jX id (w.heap.size,0,cs.size)) (eQ H id (.box cells)) { w with heap:=w.heap.push (.cells cs T) }:=by
 have hle:g.le (g.jX id (w.heap.size,0,cs.size)):=Gh.Yj (h.fresh id gY)
 have gO:(g.jX id (w.heap.size,0,cs.size)).ρ id=some (w.heap.size,0,cs.size):=by simp[Gh.jX]
 have lM:∀ k,k≠id→(g.jX id (w.heap.size,0,cs.size)).ρ k=g.ρ k:=fun k hk=>by simp[Gh.jX,hk]
 have DC:∀ b o v,g.I b o=some v→b < w.heap.size:=fun b o v e=>h.aB8 e
 refine⟨.ptr gO,hle,⟨fun b o v e=>?_,fun k=>?_,fun k hk=>?_,fun k k' x x' dF hl oI e e'=>?_⟩,.push _ _ _,fun b o v e=>.inl e,fun k b lo n hl e=>?_⟩
 ·have hb:=DC b o v e
  obtain⟨Ju,T',UH,h1,h2⟩:=fB (h.AY b o v e)
  rw[bL (by rw[World.nB,if_neg (by omega)];exact h1)]
  exact h2
 ·by_cases hk:k=id
  ·subst hk
   rw[aP]
   refine⟨w.heap.size,cs.size,cs,T,(0,0),gO,by simp[World.nB],rfl,fun o _ _=>by simp,Nat.le_of_eq (by simpa using hc.1),fun j x hx=>?_,fun o=>?_⟩
   ·obtain⟨c,h1,h2⟩:=hc.get hx
    exact⟨c,by simpa using h1,h2.mono hle⟩
   ·cases hI:g.I w.heap.size o with
    |none=>exact hI
    |some v=>have:=DC _ _ _ hI;omega
  ·rw[aM _ _ hk]
   refine (h.zD k).iO hle (fun _=>lM k hk) fun b lo n hl e=>?_
   obtain⟨o',h1,_⟩:=h.Cu hl e
   refine⟨?_,fun o _=>rfl⟩
   rw[World.nB,if_neg (by have:=cU h1;omega)]
 ·by_cases jR:k=id
  ·subst jR;simp at hk
  ·rw[aM _ _ jR]at hk
   rw[lM k jR];exact h.fresh k hk
 ·by_cases hk:k=id
  ·subst hk
   have jR:k'≠k:=Ne.symm dF
   rw[gO]at e;cases e
   rw[lM k' jR]at e'
   rw[aM _ _ jR]at oI
   obtain⟨b',IW,n'⟩:=x'
   obtain⟨o',h1,_⟩:=h.Cu oI e'
   have:=cU h1
   simp;omega
  ·rw[lM k hk]at e
   rw[aM _ _ hk]at hl
   obtain⟨b,lo,n⟩:=x
   obtain⟨o',h1,_⟩:=h.Cu hl e
   have hb:=cU h1
   by_cases jR:k'=id
   ·subst jR
    rw[gO]at e';cases e'
    simp;omega
   ·rw[lM k' jR]at e'
    rw[aM _ _ jR]at oI
    exact h.inj k k' _ _ dF hl oI e e'
 ·by_cases hk:k=id
  ·subst hk
   rw[gO]at e;cases e
   exact .inl (Nat.le_refl _)
  ·rw[lM k hk]at e
   rw[aM _ _ hk]at hl
   exact .inr ⟨k,lo,n,hl,e,Nat.le_refl _⟩
theorem fC.fixed {g:Gh}{H:Nat→dD}{w:World}(h:eR g H w)(cs:Array Value)(T:TypeId)(n:Nat) :
  (∀ k,k < n→k < cs.size→(g.Li w.heap.size 0 (cs.toList.take n)).I w.heap.size k=cs[k]?) ∧
  fC g H w (g.Li w.heap.size 0 (cs.toList.take n)) H { w with heap:=w.heap.push (.cells cs T) }:=by
 have hI0:∀ o,g.I w.heap.size o=none:=fun o=>by
  cases hI:g.I w.heap.size o with
  |none=>rfl
  |some v=>have:=h.aB8 hI;omega
 have hle:g.le (g.Li w.heap.size 0 (cs.toList.take n)):=Gh.XM fun o _=>hI0 o
 have dF:∀ b o,b≠w.heap.size→(g.Li w.heap.size 0 (cs.toList.take n)).I b o=g.I b o:=fun b o hb=>by simp[Gh.Li,hb]
 have DR:∀ o v,(g.Li w.heap.size 0 (cs.toList.take n)).I w.heap.size o=some v→cs[o]?=some v:=fun o v e=>by
  simp only[Gh.Li,Nat.zero_le,true_and,Nat.zero_add,Nat.sub_zero]at e
  split at e
  ·rw[List.getElem?_take]at e
   split at e
   ·simpa using e
   ·cases e
  ·rw[hI0]at e;cases e
 refine⟨fun k hk KO=>?_,hle,⟨fun b o v e=>?_,fun k=>?_,h.fresh,h.inj⟩,.push _ _ _,fun b o v e=>?_,fun k b lo n hl e=>.inr ⟨k,lo,n,hl,e,Nat.le_refl _⟩⟩
 ·have:=Gh.XB (g:=g) (b:=w.heap.size) (lo:=0) (vs:=cs.toList.take n) (k:=k) (by simp;omega)
  rw[Nat.zero_add]at this
  rw[this,List.getElem?_take,if_pos hk]
  simp
 ·by_cases hb:b=w.heap.size
  ·subst hb
   rw[bL (cs:=cs) (T:=T) (fr:=(0,0)) (by simp[World.nB])]
   exact DR o v e
  ·rw[dF b o hb]at e
   obtain⟨Ju,T',UH,h1,h2⟩:=fB (h.AY b o v e)
   rw[bL (by rw[World.nB,if_neg hb];exact h1)]
   exact h2
 ·refine (h.zD k).iO hle (fun _=>rfl) fun b lo n' hl e=>?_
  obtain⟨o',h1,_⟩:=h.Cu hl e
  have hb:=cU h1
  exact⟨by rw[World.nB,if_neg (by omega)],fun o _=>dF b o (by omega)⟩
 ·by_cases hb:b=w.heap.size
  ·exact .inr (.inl (by omega))
  ·rw[dF b o hb]at e;exact .inl e
theorem fC.RI {g:Gh}{H:Nat→dD}{w:World}(h:eR g H w){id:Nat}(gY:H id=.bX)(cs:Array Value)(T:TypeId)(n:Nat)(fr:Nat×Nat)
  (hn:n≤cs.size) (aa:HR fr n cs.size) (w':World) (hw':w'={ w with heap:=w.heap.push (.cells cs T fr) }) :
  let g':=(g.Li w.heap.size 0 (cs.toList.take n)).jX id (w.heap.size,n,cs.size)
  (∀ k,k < n→g'.I w.heap.size k=cs[k]?)∧g'.ρ id=some (w.heap.size,n,cs.size)∧fC g H w g' (eQ H id .tail) w':=by
 subst hw'
 intro g'
 have hI0:∀ o,g.I w.heap.size o=none:=fun o=>by
  cases hI:g.I w.heap.size o with
  |none=>rfl
  |some v=>have:=h.aB8 hI;omega
 have hle:g.le g':=(Gh.XM fun o _=>hI0 o).trans (Gh.Yj (h.fresh id gY))
 have dF:∀ b o,b≠w.heap.size→g'.I b o=g.I b o:=fun b o hb=>by simp[g',Gh.Li,Gh.jX,hb]
 have DR:∀ o v,g'.I w.heap.size o=some v→o < n∧cs[o]?=some v:=fun o v e=>by
  simp only[g',Gh.Li,Gh.jX,Nat.zero_le,true_and,Nat.zero_add,Nat.sub_zero]at e
  split at e
  ·rename_i nH
   rw[List.getElem?_take]at e
   split at e
   ·exact⟨by assumption,by simpa using e⟩
   ·cases e
  ·rw[hI0]at e;cases e
 have gO:g'.ρ id=some (w.heap.size,n,cs.size):=by simp[g',Gh.jX]
 have lM:∀ k,k≠id→g'.ρ k=g.ρ k:=fun k hk=>by simp[g',Gh.jX,Gh.Li,hk]
 refine⟨fun k hk=>?_,gO,hle,⟨fun b o v e=>?_,fun k=>?_,fun k hk=>?_,fun k k' x x' w8 hl oI e e'=>?_⟩,.push _ _ _,fun b o v e=>?_,fun k b lo n' hl e=>?_⟩
 ·have:=Gh.XB (g:=g) (b:=w.heap.size) (lo:=0) (vs:=cs.toList.take n) (k:=k) (by simp;omega)
  rw[Nat.zero_add]at this
  show (g.Li w.heap.size 0 (cs.toList.take n)).I w.heap.size k=_
  rw[this,List.getElem?_take,if_pos hk]
  simp
 ·by_cases hb:b=w.heap.size
  ·subst hb
   rw[bL (cs:=cs) (T:=T) (fr:=fr) (by simp[World.nB])]
   exact (DR o v e).2
  ·rw[dF b o hb]at e
   obtain⟨Ju,T',UH,h1,h2⟩:=fB (h.AY b o v e)
   rw[bL (by rw[World.nB,if_neg hb];exact h1)]
   exact h2
 ·by_cases hk:k=id
  ·subst hk
   rw[aP]
   intro b' IW n' e'
   rw[gO]at e';cases e'
   refine⟨cs,T,fr,by simp[World.nB],rfl,aa,fun o ho=>?_⟩
   cases hI:g'.I w.heap.size o with
   |none=>rfl
   |some v=>have:=(DR o v hI).1;omega
  ·rw[aM _ _ hk]
   refine (h.zD k).iO hle (fun _=>lM k hk) fun b lo n' hl e=>?_
   obtain⟨o',h1,_⟩:=h.Cu hl e
   have hb:=cU h1
   exact⟨by rw[World.nB,if_neg (by omega)],fun o _=>dF b o (by omega)⟩
 ·by_cases jR:k=id
  ·subst jR;simp at hk
  ·rw[aM _ _ jR]at hk
   rw[lM k jR];exact h.fresh k hk
 ·by_cases hk:k=id
  ·subst hk
   have jR:k'≠k:=Ne.symm w8
   rw[gO]at e;cases e
   rw[lM k' jR]at e'
   rw[aM _ _ jR]at oI
   obtain⟨b',IW,n'⟩:=x'
   obtain⟨o',h1,_⟩:=h.Cu oI e'
   have:=cU h1
   simp;omega
  ·rw[lM k hk]at e
   rw[aM _ _ hk]at hl
   obtain⟨b,lo,n'⟩:=x
   obtain⟨o',h1,_⟩:=h.Cu hl e
   have hb:=cU h1
   by_cases jR:k'=id
   ·subst jR
    rw[gO]at e';cases e'
    simp;omega
   ·rw[lM k' jR]at e'
    rw[aM _ _ jR]at oI
    exact h.inj k k' _ _ w8 hl oI e e'
 ·by_cases hb:b=w.heap.size
  ·exact .inr (.inl (by omega))
  ·rw[dF b o hb]at e;exact .inl e
 ·by_cases hk:k=id
  ·subst hk
   rw[gO]at e;cases e
   exact .inl (Nat.le_refl _)
  ·rw[lM k hk]at e
   rw[aM _ _ hk]at hl
   exact .inr ⟨k,lo,n',hl,e,Nat.le_refl _⟩
theorem Fr.setCells {M:Nat→Nat→Prop}(w:World)(b o:Nat)(vs:List Value){cs:Array Value}{T:TypeId}{fr:Nat×Nat}(hb:w.heap[b]?=some (.cells cs T fr))
  (hm:∀ k,o≤k→k < o+vs.length→M b k):Fr M w (w.setCells b o vs):=by
 refine⟨Nat.le_of_eq (KW _ _ _ _).symm,VE _ _ _ _,DM _ _ _ _,fun b' Ju T' UH e=>?_,fun b' o' e dF=>?_⟩
 ·by_cases h:b'=b
  ·subst h
   rw[hb]at e;cases e
   refine⟨_,_,fL vs w b' o cs T fr hb,jT _ _ _,fun k hk=>iG _ _ _ _ ?_,.inl rfl⟩
   by_cases h1:o≤k∧k < o+vs.length
   ·exact absurd (hm k h1.1 h1.2) hk
   ·omega
  ·exact⟨Ju,UH,by rw[cQ _ _ _ _ _ h];exact e,rfl,fun _ _=>rfl,.inl rfl⟩
 ·have h:b'≠b:=fun h=>by subst h;rw[hb]at e;cases e;exact dF _ _ _ rfl
  rw[cQ _ _ _ _ _ h];exact fun _=>e
def wr (l:List AV)(off:Nat)(xs:List AV):List AV:=l.take off++xs++l.drop (off+xs.length)
def rd (l:List AV)(off n:Nat):List AV:=(l.drop off).take n
theorem FD (l:List AV)(off:Nat)(xs:List AV)(h:off+xs.length≤l.length)(k:Nat) :
  (wr l off xs)[k]?=if k < off then l[k]? else if k < off+xs.length then xs[k - off]? else l[k]?:=by
 unfold wr
 rw[List.getElem?_append,List.getElem?_append]
 simp only[List.length_append,List.length_take,List.getElem?_take,List.getElem?_drop]
 rw[Nat.min_eq_left (by omega)]
 split
 ·split
  ·simp
  ·rfl
 ·rw[if_neg (by omega)]
  congr 1;omega
theorem Yk (l:List AV)(off:Nat)(xs:List AV)(h:off+xs.length≤l.length):(wr l off xs).length=l.length:=by
 simp[wr];omega
theorem fC.write {g:Gh}{H:Nat→dD}{w:World}(h:eR g H w){id b n off:Nat}{cells xs:List AV}{vs:List Value}(gY:H id=.box cells)(gO:g.ρ id=some (b,0,n))
  (hx:cW g xs vs) (DS:off+xs.length≤cells.length) :
  fC g H w g (eQ H id (.box (wr cells off xs))) (w.setCells b off vs):=by
 have he:=h.zD id
 rw[gY]at he
 obtain⟨b',n',cs,T,fr,e1,e2,e3,e4,e5,e6,e7⟩:=he
 rw[gO]at e1;cases e1
 have Oc:(H id).live:=by rw[gY];trivial
 have hM:∀ k,Jx g H b k:=fun k=>⟨id,0,n,Oc,gO,Nat.zero_le _⟩
 have hlen:vs.length=xs.length:=hx.1.symm
 have hlen':(eQ H id (.box (wr cells off xs)) id).live:=by rw[aP];trivial
 have eE:∀ k,(eQ H id (.box (wr cells off xs)) k).live→(H k).live:=fun k hk=>by
  by_cases e:k=id
  ·subst e;exact Oc
  ·rw[aM _ _ e]at hk;exact hk
 refine⟨g.le_refl,⟨fun b1 o v e=>?_,fun k=>?_,fun k hk=>?_,fun k k' x x' dF hl oI e e'=>h.inj k k' x x' dF (eE k hl) (eE k' oI) e e'⟩,.setCells w b off vs e2 fun k _ _=>hM k,
  fun b o v e=>.inl e,fun k b lo n hl e=>.inr ⟨k,lo,n,eE k hl,e,Nat.le_refl _⟩⟩
 ·have UJ:b1≠b:=fun hb=>by subst hb;rw[e7]at e;cases e
  obtain⟨Ju,T',UH,h1,h2⟩:=fB (h.AY b1 o v e)
  rw[bL (by rw[cQ _ _ _ _ _ UJ];exact h1)]
  exact h2
 ·by_cases hk:k=id
  ·subst hk
   rw[aP]
   refine⟨b,n,_,T,fr,gO,fL vs w b off cs T fr e2,(jT _ _ _).trans e3,e4,by rw[Yk _ _ _ DS];exact e5,fun j x hj=>?_,e7⟩
   rw[FD _ _ _ DS]at hj
   split at hj
   ·rw[iG _ _ _ _ (.inl ‹_›)];exact e6 j x hj
   ·split at hj
    ·obtain⟨c,h1,h2⟩:=hx.get hj
     refine⟨c,?_,h2⟩
     have:=xC vs cs off (j - off) (by omega) (by omega)
     rw[show off+(j - off)=j by omega]at this
     rw[this];exact h1
    ·rw[iG _ _ _ _ (.inr (by omega))];exact e6 j x hj
  ·rw[aM _ _ hk]
   refine (h.zD k).iO g.le_refl (fun _=>rfl) fun b1 lo n1 hl e=>⟨?_,fun _ _=>rfl⟩
   have:=h.inj k id _ _ hk hl Oc e gO
   exact cQ _ _ _ _ _ this
 ·by_cases e:k=id
  ·subst e;simp at hk
  ·rw[aM _ _ e]at hk;exact h.fresh k hk
theorem fC.freeze {g:Gh}{H:Nat→dD}{w:World}(h:eR g H w){id:Nat}{cells:List AV}(gY:H id=.box cells) :
  ∃ g',fC g H w g' (eQ H id (.Aa cells)) w:=by
 have he:=h.zD id
 rw[gY]at he
 obtain⟨b,n,cs,T,fr,e1,e2,e3,e4,e5,e6,e7⟩:=he
 have Oc:(H id).live:=by rw[gY];trivial
 have eE:∀ k,(eQ H id (.Aa cells) k).live→k≠id∧(H k).live:=fun k hk=>by
  by_cases e:k=id
  ·subst e;rw[aP]at hk;exact hk.elim
  ·rw[aM _ _ e]at hk;exact⟨e,hk⟩
 have hle:g.le (g.Li b 0 (cs.toList.take cells.length)):=Gh.XM fun o _=>e7 o
 have dF:∀ b' o,b'≠b→(g.Li b 0 (cs.toList.take cells.length)).I b' o=g.I b' o:=fun b' o hb=>by simp[Gh.Li,hb]
 have DR:∀ o v,(g.Li b 0 (cs.toList.take cells.length)).I b o=some v→cs[o]?=some v:=fun o v e=>by
  simp only[Gh.Li,Nat.zero_le,true_and,Nat.zero_add,Nat.sub_zero]at e
  split at e
  ·rw[List.getElem?_take]at e
   split at e
   ·simpa using e
   ·cases e
  ·rw[e7]at e;cases e
 refine⟨g.Li b 0 (cs.toList.take cells.length),hle,⟨fun b1 o v e=>?_,fun k=>?_,fun k hk=>?_,fun k k' x x' w8 hl oI e e'=>?_⟩,.refl _ _,fun b1 o v e=>?_,fun k b lo n hl e=>?_⟩
 ·by_cases hb:b1=b
  ·subst hb
   rw[bL e2];exact DR o v e
  ·rw[dF b1 o hb]at e;exact h.AY b1 o v e
 ·by_cases hk:k=id
  ·subst hk
   rw[aP]
   refine⟨b,n,e1,fun j x hj=>?_⟩
   obtain⟨c,h1,h2⟩:=e6 j x hj
   have wk:j < cells.length:=by
    rcases Nat.lt_or_ge j cells.length with h' | h'
    ·exact h'
    ·rw[List.getElem?_eq_none h']at hj;cases hj
   refine⟨c,?_,h2.mono hle⟩
   have:=Gh.XB (g:=g) (b:=b) (lo:=0) (vs:=cs.toList.take cells.length) (k:=j) (by simp;omega)
   rw[Nat.zero_add]at this
   rw[this,List.getElem?_take,if_pos wk]
   simpa using h1
  ·rw[aM _ _ hk]
   refine (h.zD k).iO hle (fun _=>rfl) fun b1 lo n1 hl e=>⟨rfl,fun o _=>?_⟩
   have:=h.inj k id _ _ hk hl Oc e e1
   exact dF b1 o this
 ·by_cases e:k=id
  ·subst e;simp at hk
  ·rw[aM _ _ e]at hk;exact h.fresh k hk
 ·obtain⟨h1,h2⟩:=eE k hl
  obtain⟨FG,QR⟩:=eE k' oI
  exact h.inj k k' x x' w8 h2 QR e e'
 ·by_cases hb:b1=b
  ·subst hb
   exact .inr (.inr ⟨id,0,n,Oc,e1,Nat.zero_le _⟩)
  ·rw[dF b1 o hb]at e;exact .inl e
 ·obtain⟨h1,h2⟩:=eE k hl
  exact .inr ⟨k,lo,n,h2,e,Nat.le_refl _⟩
theorem fC.extend {g:Gh}{H:Nat→dD}{w:World}(h:eR g H w){id id2 b lo n:Nat}(gY:H id=.tail)(jk:H id2=.bX)(gO:g.ρ id=some (b,lo,n))
  (vs:List Value) (hn:lo+vs.length≤n) :
  let g':=(g.Li b lo vs).jX id2 (b,lo+vs.length,n)
  (∀ k,k < vs.length→g'.I b (lo+k)=vs[k]?)∧g'.ρ id2=some (b,lo+vs.length,n)∧fC g H w g' (eQ (eQ H id .dead) id2 .tail) (w.setCells b lo vs):=by
 intro g'
 have Oc:(H id).live:=by rw[gY];trivial
 have hne2:id≠id2:=fun e=>by subst e;rw[gY]at jk;cases jk
 obtain⟨cs,T,fr,e2,e3,e4,e5⟩:=h.tail_at gY gO
 have hle:g.le g':=(Gh.XM e5).trans (Gh.Yj (h.fresh id2 jk))
 have dF:∀ b' o,b'≠b→g'.I b' o=g.I b' o:=fun b' o hb=>by simp[g',Gh.Li,Gh.jX,hb]
 have DR:∀ o v,g'.I b o=some v→(lo≤o∧o < lo+vs.length∧vs[o - lo]?=some v)∨(g.I b o=some v∧o < lo):=fun o v e=>by
  simp only[g',Gh.Li,Gh.jX,true_and]at e
  split at e
  ·rename_i hc;exact .inl ⟨hc.1,hc.2,e⟩
  ·refine .inr ⟨e,?_⟩
   rcases Nat.lt_or_ge o lo with h' | h'
   ·exact h'
   ·rw[e5 o h']at e;cases e
 have Yh:g'.ρ id2=some (b,lo+vs.length,n):=by simp[g',Gh.jX]
 have lM:∀ k,k≠id2→g'.ρ k=g.ρ k:=fun k hk=>by simp[g',Gh.jX,Gh.Li,hk]
 have eE:∀ k,(eQ (eQ H id .dead) id2 .tail k).live→k=id2∨(k≠id2∧k≠id∧(H k).live):=fun k hk=>by
  by_cases e:k=id2
  ·exact .inl e
  ·rw[aM _ _ e]at hk
   by_cases e':k=id
   ·subst e';rw[aP]at hk;exact hk.elim
   ·rw[aM _ _ e']at hk;exact .inr ⟨e,e',hk⟩
 have hM:∀ k,lo≤k→Jx g H b k:=fun k hk=>⟨id,lo,n,Oc,gO,hk⟩
 refine⟨fun k hk=>?_,Yh,hle,⟨fun b1 o v e=>?_,fun k=>?_,fun k hk=>?_,fun k k' x x' w8 hl oI e e'=>?_⟩,.setCells w b lo vs e2 fun k h1 _=>hM k h1,fun b1 o v e=>?_,fun k b1 pk n1 hl e=>?_⟩
 ·exact Gh.XB hk
 ·by_cases hb:b1=b
  ·subst hb
   rw[bL (fL vs w b1 lo cs T fr e2)]
   rcases DR o v e with⟨h1,h2,h3⟩|⟨h1,h2⟩
   ·have:=xC vs cs lo (o - lo) (by omega) (by omega)
    rw[show lo+(o - lo)=o by omega]at this
    rw[this];exact h3
   ·rw[iG _ _ _ _ (.inl h2)]
    have:=h.AY b1 o v h1
    rwa [bL e2]at this
  ·rw[dF b1 o hb]at e
   obtain⟨Ju,T',UH,h1,h2⟩:=fB (h.AY b1 o v e)
   rw[bL (by rw[cQ _ _ _ _ _ hb];exact h1)]
   exact h2
 ·by_cases hk:k=id2
  ·subst hk
   rw[aP]
   intro b' IW n' e'
   rw[Yh]at e';cases e'
   refine⟨_,T,fr,fL vs w b lo cs T fr e2,(jT _ _ _).trans e3,fun o h1 h2=>e4 o (by omega) h2,fun o ho=>?_⟩
   cases hI:g'.I b o with
   |none=>rfl
   |some v =>
    rcases DR o v hI with⟨h1,h2,h3⟩|⟨h1,h2⟩<;>omega
  ·rw[aM _ _ hk]
   by_cases jR:k=id
   ·subst jR;rw[aP];trivial
   ·rw[aM _ _ jR]
    refine (h.zD k).iO hle (fun _=>lM k hk) fun b1 pk n1 hl e=>?_
    have:=h.inj k id _ _ jR hl Oc e gO
    exact⟨cQ _ _ _ _ _ this,fun o _=>dF b1 o this⟩
 ·by_cases e:k=id2
  ·subst e;simp at hk
  ·rw[aM _ _ e]at hk
   by_cases e':k=id
   ·subst e';simp at hk
   ·rw[aM _ _ e']at hk
    rw[lM k e];exact h.fresh k hk
 ·rcases eE k hl with rfl|⟨h1,h2,h3⟩
  ·rcases eE k' oI with rfl|⟨FG,QR,h3'⟩
   ·exact absurd rfl w8
   ·rw[Yh]at e;cases e
    rw[lM k' FG]at e'
    exact (h.inj k' id x' (b,lo,n) QR h3' Oc e' gO:x'.1≠b).symm
  ·rw[lM k h1]at e
   rcases eE k' oI with rfl|⟨FG,QR,h3'⟩
   ·rw[Yh]at e';cases e'
    exact (h.inj k id x (b,lo,n) h2 h3 Oc e gO:x.1≠b)
   ·rw[lM k' FG]at e'
    exact h.inj k k' _ _ w8 h3 h3' e e'
 ·by_cases hb:b1=b
  ·subst hb
   rcases DR o v e with⟨h1,h2,h3⟩|⟨h1,h2⟩
   ·exact .inr (.inr (hM o h1))
   ·exact .inl h1
  ·rw[dF b1 o hb]at e;exact .inl e
 ·rcases eE k hl with rfl|⟨h1,h2,h3⟩
  ·rw[Yh]at e;cases e
   exact .inr ⟨id,lo,n,Oc,gO,Nat.le_add_right _ _⟩
  ·rw[lM k h1]at e
   exact .inr ⟨k,pk,n1,h3,e,Nat.le_refl _⟩
theorem fC.XE {g:Gh}{H:Nat→dD}{w:World}(h:eR g H w)(H':Nat→dD)(hH:∀ k,H' k=H k∨H' k=.dead∨(H' k=.tail∧g.ρ k=none)):fC g H w g H' w:=by
 have eE:∀ k x,(H' k).live→g.ρ k=some x→(H k).live:=fun k x hk hx=>by
  rcases hH k with e|e|⟨e,e'⟩
  ·rw[← e];exact hk
  ·rw[e]at hk;exact hk.elim
  ·rw[e']at hx;cases hx
 refine⟨g.le_refl,⟨h.AY,fun k=>?_,fun k hk=>?_,fun k k' x x' dF hl oI e e'=>h.inj k k' x x' dF (eE k x hl e) (eE k' x' oI e') e e'⟩,.refl _ _,fun _ _ _ e=>.inl e,
  fun k b lo n hl e=>.inr ⟨k,lo,n,eE k _ hl e,e,Nat.le_refl _⟩⟩
 ·rcases hH k with e|e|⟨e,e'⟩
  ·rw[e];exact h.zD k
  ·rw[e];trivial
  ·rw[e];intro b lo n e1;rw[e']at e1;cases e1
 ·rcases hH k with e|e|⟨e,e'⟩
  ·exact h.fresh k (e▸hk)
  ·rw[e]at hk;cases hk
  ·rw[e]at hk;cases hk
theorem fC.forget {g:Gh}{H:Nat→dD}{w:World}(h:eR g H w)(H':Nat→dD)(hH:∀ k,H' k=H k∨H' k=.dead):fC g H w g H' w:=by
 have eE:∀ k,(H' k).live→(H k).live:=fun k hk=>by
  rcases hH k with e|e
  ·rw[← e];exact hk
  ·rw[e]at hk;exact hk.elim
 refine⟨g.le_refl,⟨h.AY,fun k=>?_,fun k hk=>?_,fun k k' x x' dF hl oI e e'=>h.inj k k' x x' dF (eE k hl) (eE k' oI) e e'⟩,.refl _ _,fun _ _ _ e=>.inl e,
  fun k b lo n hl e=>.inr ⟨k,lo,n,eE k hl,e,Nat.le_refl _⟩⟩
 ·rcases hH k with e|e
  ·rw[e];exact h.zD k
  ·rw[e];trivial
 ·rcases hH k with e|e
  ·exact h.fresh k (e▸hk)
  ·rw[e]at hk;cases hk
theorem Z8 {w:World}{b o:Nat}{cs:Array Value}{T:TypeId}{fr:Nat×Nat}(hb:w.heap[b]?=some (.cells cs T fr)) :
  (∃ UH,(w.freeze ⟨b,o,none⟩ 1).heap[b]?=some (.cells cs T UH))∧(∀ k,k≠b→(w.freeze ⟨b,o,none⟩ 1).heap[k]?=w.heap[k]?)∧(w.freeze ⟨b,o,none⟩ 1).heap.size=w.heap.size:=by
 simp only[World.freeze,Nat.one_ne_zero,if_false,Array.getElem?_modify]
 refine⟨?_,fun k hk=>by rw[if_neg (Ne.symm hk)],by simp⟩
 rw[hb]
 simp only[if_true,Option.map_some]
 exact⟨_,rfl⟩
theorem fC.mark {g:Gh}{H:Nat→dD}{w:World}(h:eR g H w){id:Nat}(gY:H id=.tail){b lo n o:Nat}(gO:g.ρ id=some (b,lo,n)) :
  fC g H w g (eQ H id .dead) (w.freeze ⟨b,o,none⟩ 1):=by
 have eE:(H id).live:=by rw[gY];trivial
 obtain⟨cs,T,fr,e1,_,_,_⟩:=h.tail_at gY gO
 obtain⟨⟨UH,f1⟩,f2,f3⟩:=Z8 (o:=o) e1
 have hM:∃ o,Jx g H b o:=⟨lo,id,lo,n,eE,gO,Nat.le_refl _⟩
 refine⟨g.le_refl,⟨fun b' o' v hI=>?_,fun k=>?_,fun k hk=>?_,fun k k' x x' dF hl oI e e'=>?_⟩,⟨Nat.le_of_eq f3.symm,?_,?_,fun b' Ju T' fr1 e=>?_,fun b' o' e dF=>?_⟩,fun _ _ _ e=>.inl e,fun k b' IW n' hl e=>?_⟩
 ·have:=h.AY b' o' v hI
  by_cases hb:b'=b
  ·subst hb
   rw[bL f1];rw[bL e1]at this;exact this
  ·unfold World.cell? at this ⊢
   rw[show (⟨b',o',none⟩:Addr).block=b' from rfl]at this ⊢
   rw[f2 b' hb];exact this
 ·by_cases hk:k=id
  ·subst hk;rw[aP];trivial
  ·rw[aM _ _ hk]
   refine (h.zD k).iO g.le_refl (fun _=>rfl) fun b' IW n' hl e=>⟨f2 b' ?_,fun _ _=>rfl⟩
   exact fun hb=>h.inj k id _ _ hk hl eE e gO hb
 ·by_cases jR:k=id
  ·subst jR;rw[aP]at hk;cases hk
  ·rw[aM _ _ jR]at hk;exact h.fresh k hk
 ·have h1:k≠id:=fun hk=>by subst hk;rw[aP]at hl;exact hl.elim
  have h2:k'≠id:=fun hk=>by subst hk;rw[aP]at oI;exact oI.elim
  rw[aM _ _ h1]at hl
  rw[aM _ _ h2]at oI
  exact h.inj k k' x x' dF hl oI e e'
 ·simp[World.freeze]
 ·simp[World.freeze]
 ·by_cases hb:b'=b
  ·subst hb
   rw[e1]at e;cases e
   exact⟨cs,UH,f1,rfl,fun _ _=>rfl,.inr hM⟩
  ·exact⟨Ju,fr1,by rw[f2 b' hb];exact e,rfl,fun _ _=>rfl,.inl rfl⟩
 ·have hb:b'≠b:=fun hb=>by subst hb;rw[e1]at e;cases e;exact dF _ _ _ rfl
  rw[f2 b' hb];exact fun _=>e
 ·have h1:k≠id:=fun hk=>by subst hk;rw[aP]at hl;exact hl.elim
  rw[aM _ _ h1]at hl
  exact .inr ⟨k,IW,n',hl,e,Nat.le_refl _⟩
theorem fC.aBr {g:Gh}{H:Nat→dD}{w:World}(h:eR g H w){id b lo n:Nat}(gY:H id=.tail)(gO:g.ρ id=some (b,lo,n))(vs:List Value)(hn:lo+vs.length≤n) :
  fC g H w g H (w.setCells b lo vs):=by
 have Oc:(H id).live:=by rw[gY];trivial
 obtain⟨cs,T,fr,e2,e3,e4,e5⟩:=h.tail_at gY gO
 have hM:∀ k,lo≤k→Jx g H b k:=fun k hk=>⟨id,lo,n,Oc,gO,hk⟩
 refine⟨g.le_refl,⟨fun b1 o v e=>?_,fun k=>?_,h.fresh,h.inj⟩,.setCells w b lo vs e2 fun k h1 _=>hM k h1,fun b1 o v e=>.inl e,fun k b1 pk n1 hl e=>.inr ⟨k,pk,n1,hl,e,Nat.le_refl _⟩⟩
 ·by_cases hb:b1=b
  ·subst hb
   have ho:o < lo:=by
    rcases Nat.lt_or_ge o lo with h' | h'
    ·exact h'
    ·rw[e5 o h']at e;cases e
   rw[bL (fL vs w b1 lo cs T fr e2),iG _ _ _ _ (.inl ho)]
   have:=h.AY b1 o v e
   rwa [bL e2]at this
  ·obtain⟨Ju,T',UH,h1,h2⟩:=fB (h.AY b1 o v e)
   rw[bL (by rw[cQ _ _ _ _ _ hb];exact h1)]
   exact h2
 ·by_cases hk:k=id
  ·subst hk
   rw[gY]
   intro b' IW n' e'
   rw[gO]at e';cases e'
   exact⟨_,T,fr,fL vs w b lo cs T fr e2,(jT _ _ _).trans e3,e4,e5⟩
  ·refine (h.zD k).iO g.le_refl (fun _=>rfl) fun b1 pk n1 hl e=>⟨?_,fun _ _=>rfl⟩
   exact cQ _ _ _ _ _ (h.inj k id _ _ hk hl Oc e gO)
theorem fC.ye {g:Gh}{H:Nat→dD}{w:World}(h:eR g H w){id:Nat}(gY:H id=.bX)(cells:List AV)(cs rest:Array Value)(T:TypeId)
  (hc:cW g cells cs.toList) :
  (g.jX id (w.heap.size,0,(cs++rest).size)).ρ id=some (w.heap.size,0,(cs++rest).size) ∧
  fC g H w (g.jX id (w.heap.size,0,(cs++rest).size)) (eQ H id (.eD cells)) { w with heap:=w.heap.push (.cells (cs++rest) T) }:=by
 generalize hm:(cs++rest).size=m
 have hle:g.le (g.jX id (w.heap.size,0,m)):=Gh.Yj (h.fresh id gY)
 have gO:(g.jX id (w.heap.size,0,m)).ρ id=some (w.heap.size,0,m):=by simp[Gh.jX]
 have lM:∀ k,k≠id→(g.jX id (w.heap.size,0,m)).ρ k=g.ρ k:=fun k hk=>by simp[Gh.jX,hk]
 have DC:∀ b o v,g.I b o=some v→b < w.heap.size:=fun b o v e=>h.aB8 e
 refine⟨gO,hle,⟨fun b o v e=>?_,fun k=>?_,fun k hk=>?_,fun k k' x x' dF hl oI e e'=>?_⟩,.push _ _ _,fun b o v e=>.inl e,fun k b lo n hl e=>?_⟩
 ·have hb:=DC b o v e
  obtain⟨Ju,T',UH,h1,h2⟩:=fB (h.AY b o v e)
  rw[bL (by rw[World.nB,if_neg (by omega)];exact h1)]
  exact h2
 ·by_cases hk:k=id
  ·subst hk
   rw[aP]
   refine .inr ⟨w.heap.size,m,cs++rest,T,(0,0),gO,by simp[World.nB],hm,fun o _ _=>by simp,?_,fun j x hx=>?_,fun o=>?_⟩
   ·have:=hc.1;rw[← hm,Array.size_append];simp at this;omega
   ·obtain⟨c,h1,h2⟩:=hc.get hx
    refine⟨c,?_,h2.mono hle⟩
    have FG:cs[j]?=some c:=by simpa using h1
    obtain⟨q1,q2⟩:=Array.getElem?_eq_some_iff.1 FG
    rw[Array.getElem?_append_left q1];exact FG
   ·cases hI:g.I w.heap.size o with
    |none=>exact hI
    |some v=>have:=DC _ _ _ hI;omega
  ·rw[aM _ _ hk]
   refine (h.zD k).iO hle (fun _=>lM k hk) fun b lo n hl e=>?_
   obtain⟨o',h1,_⟩:=h.Cu hl e
   refine⟨?_,fun o _=>rfl⟩
   rw[World.nB,if_neg (by have:=cU h1;omega)]
 ·by_cases jR:k=id
  ·subst jR;simp at hk
  ·rw[aM _ _ jR]at hk
   rw[lM k jR];exact h.fresh k hk
 ·by_cases hk:k=id
  ·subst hk
   have jR:k'≠k:=Ne.symm dF
   rw[gO]at e;cases e
   rw[lM k' jR]at e'
   rw[aM _ _ jR]at oI
   obtain⟨b',IW,n'⟩:=x'
   obtain⟨o',h1,_⟩:=h.Cu oI e'
   have:=cU h1
   simp;omega
  ·rw[lM k hk]at e
   rw[aM _ _ hk]at hl
   obtain⟨b,lo,n⟩:=x
   obtain⟨o',h1,_⟩:=h.Cu hl e
   have hb:=cU h1
   by_cases jR:k'=id
   ·subst jR
    rw[gO]at e';cases e'
    simp;omega
   ·rw[lM k' jR]at e'
    rw[aM _ _ jR]at oI
    exact h.inj k k' _ _ dF hl oI e e'
 ·by_cases hk:k=id
  ·subst hk
   rw[gO]at e;cases e
   exact .inl (Nat.le_refl _)
  ·rw[lM k hk]at e
   rw[aM _ _ hk]at hl
   exact .inr ⟨k,lo,n,hl,e,Nat.le_refl _⟩
theorem fC.aJo {g:Gh}{H:Nat→dD}{w:World}(h:eR g H w){id id2 b n off:Nat}{cells cells':List AV}{vs:List Value}(gY:H id=.eD cells)(jk:H id2=.bX)(gO:g.ρ id=some (b,0,n))
  (hx:∃ xs,cW g xs vs∧cells'=cells.take off++xs∧off≤cells.length∧off+xs.length≤n) :
  (g.jX id2 (b,0,n)).ρ id2=some (b,0,n)∧fC g H w (g.jX id2 (b,0,n)) (eQ (eQ H id .dead) id2 (.eD cells')) (w.setCells b off vs):=by
 obtain⟨xs,hx,rfl,DS,hn⟩:=hx
 have he:=h.zD id
 rw[gY]at he
 rcases he with⟨e0,_⟩|⟨b',n',cs,T,fr,e1,e2,e3,e4,e5,e6,e7⟩
 ·rw[gO]at e0;cases e0
 rw[gO]at e1;cases e1
 have Oc:(H id).live:=by rw[gY];trivial
 have hne2:id≠id2:=fun e=>by subst e;rw[gY]at jk;cases jk
 have hM:∀ k,Jx g H b k:=fun k=>⟨id,0,n,Oc,gO,Nat.zero_le _⟩
 have hlen:vs.length=xs.length:=hx.1.symm
 have hle:g.le (g.jX id2 (b,0,n)):=Gh.Yj (h.fresh id2 jk)
 have Yh:(g.jX id2 (b,0,n)).ρ id2=some (b,0,n):=by simp[Gh.jX]
 have lM:∀ k,k≠id2→(g.jX id2 (b,0,n)).ρ k=g.ρ k:=fun k hk=>by simp[Gh.jX,hk]
 have eE:∀ k,(eQ (eQ H id .dead) id2 (.eD (cells.take off++xs)) k).live→k=id2∨(k≠id2∧k≠id∧(H k).live):=fun k hk=>by
  by_cases e:k=id2
  ·exact .inl e
  ·rw[aM _ _ e]at hk
   by_cases e':k=id
   ·subst e';rw[aP]at hk;exact hk.elim
   ·rw[aM _ _ e']at hk;exact .inr ⟨e,e',hk⟩
 refine⟨Yh,hle,⟨fun b1 o v e=>?_,fun k=>?_,fun k hk=>?_,fun k k' x x' w8 hl oI e e'=>?_⟩,.setCells w b off vs e2 fun k _ _=>hM k,fun b1 o v e=>.inl e,fun k b1 pk n1 hl e=>?_⟩
 ·have UJ:b1≠b:=fun hb=>by
   subst hb
   have:g.I b1 o=some v:=e
   rw[e7]at this;cases this
  obtain⟨Ju,T',UH,h1,h2⟩:=fB (h.AY b1 o v e)
  rw[bL (by rw[cQ _ _ _ _ _ UJ];exact h1)]
  exact h2
 ·by_cases hk:k=id2
  ·subst hk
   rw[aP]
   refine .inr ⟨b,n,_,T,fr,Yh,fL vs w b off cs T fr e2,(jT _ _ _).trans e3,e4,?_,fun j x hj=>?_,e7⟩
   ·rw[List.length_append,List.length_take];omega
   ·rw[List.getElem?_append]at hj
    rw[List.length_take,Nat.min_eq_left DS]at hj
    split at hj
    ·rename_i nH
     rw[iG _ _ _ _ (.inl nH)]
     rw[List.getElem?_take,if_pos nH]at hj
     obtain⟨c,h1,h2⟩:=e6 j x hj
     exact⟨c,h1,h2.mono hle⟩
    ·obtain⟨c,h1,h2⟩:=hx.get hj
     refine⟨c,?_,h2.mono hle⟩
     have wk:j - off < vs.length:=by
      rcases Nat.lt_or_ge (j - off) vs.length with h' | h'
      ·exact h'
      ·rw[List.getElem?_eq_none h']at h1;cases h1
     have:=xC vs cs off (j - off) (by omega) wk
     rw[show off+(j - off)=j by omega]at this
     rw[this];exact h1
  ·rw[aM _ _ hk]
   by_cases jR:k=id
   ·subst jR;rw[aP];trivial
   ·rw[aM _ _ jR]
    refine (h.zD k).iO hle (fun _=>lM k hk) fun b1 pk n1 hl e=>⟨?_,fun _ _=>rfl⟩
    exact cQ _ _ _ _ _ (h.inj k id _ _ jR hl Oc e gO)
 ·by_cases e:k=id2
  ·subst e;simp at hk
  ·rw[aM _ _ e]at hk
   by_cases e':k=id
   ·subst e';simp at hk
   ·rw[aM _ _ e']at hk
    rw[lM k e];exact h.fresh k hk
 ·rcases eE k hl with rfl|⟨h1,h2,h3⟩
  ·rcases eE k' oI with rfl|⟨FG,QR,h3'⟩
   ·exact absurd rfl w8
   ·rw[Yh]at e;cases e
    rw[lM k' FG]at e'
    exact (h.inj k' id x' (b,0,n) QR h3' Oc e' gO:x'.1≠b).symm
  ·rw[lM k h1]at e
   rcases eE k' oI with rfl|⟨FG,QR,h3'⟩
   ·rw[Yh]at e';cases e'
    exact (h.inj k id x (b,0,n) h2 h3 Oc e gO:x.1≠b)
   ·rw[lM k' FG]at e'
    exact h.inj k k' _ _ w8 h3 h3' e e'
 ·rcases eE k hl with rfl|⟨h1,h2,h3⟩
  ·rw[Yh]at e;cases e
   exact .inr ⟨id,0,n,Oc,gO,Nat.zero_le _⟩
  ·rw[lM k h1]at e
   exact .inr ⟨k,pk,n1,h3,e,Nat.le_refl _⟩
theorem fC.H8 {g:Gh}{H:Nat→dD}{w:World}(h:eR g H w)(H':Nat→dD)(hH:∀ k,H' k=H k∨H' k=.dead∨(H' k=.eD []∧g.ρ k=none)):fC g H w g H' w:=by
 have eE:∀ k x,(H' k).live→g.ρ k=some x→(H k).live:=fun k x hk hx=>by
  rcases hH k with e|e|⟨e,e'⟩
  ·rw[← e];exact hk
  ·rw[e]at hk;exact hk.elim
  ·rw[e']at hx;cases hx
 refine⟨g.le_refl,⟨h.AY,fun k=>?_,fun k hk=>?_,fun k k' x x' dF hl oI e e'=>h.inj k k' x x' dF (eE k x hl e) (eE k' x' oI e') e e'⟩,.refl _ _,fun _ _ _ e=>.inl e,
  fun k b lo n hl e=>.inr ⟨k,lo,n,eE k _ hl e,e,Nat.le_refl _⟩⟩
 ·rcases hH k with e|e|⟨e,e'⟩
  ·rw[e];exact h.zD k
  ·rw[e];trivial
  ·rw[e];exact .inl ⟨e',rfl⟩
 ·rcases hH k with e|e|⟨e,e'⟩
  ·exact h.fresh k (e▸hk)
  ·rw[e]at hk;cases hk
  ·rw[e]at hk;cases hk
theorem fC.aHI {g:Gh}{H:Nat→dD}{w:World}(h:eR g H w){id b n off:Nat}{cells xs:List AV}{vs:List Value}(gY:H id=.eD cells)(gO:g.ρ id=some (b,0,n))
  (hx:cW g xs vs) (DS:off+xs.length≤cells.length) :
  fC g H w g (eQ H id (.eD (wr cells off xs))) (w.setCells b off vs):=by
 have he:=h.zD id
 rw[gY]at he
 rcases he with⟨e0,_⟩|⟨b',n',cs,T,fr,e1,e2,e3,e4,e5,e6,e7⟩
 ·rw[gO]at e0;cases e0
 rw[gO]at e1;cases e1
 have Oc:(H id).live:=by rw[gY];trivial
 have hM:∀ k,Jx g H b k:=fun k=>⟨id,0,n,Oc,gO,Nat.zero_le _⟩
 have hlen:vs.length=xs.length:=hx.1.symm
 have eE:∀ k,(eQ H id (.eD (wr cells off xs)) k).live→(H k).live:=fun k hk=>by
  by_cases e:k=id
  ·subst e;exact Oc
  ·rw[aM _ _ e]at hk;exact hk
 refine⟨g.le_refl,⟨fun b1 o v e=>?_,fun k=>?_,fun k hk=>?_,fun k k' x x' dF hl oI e e'=>h.inj k k' x x' dF (eE k hl) (eE k' oI) e e'⟩,.setCells w b off vs e2 fun k _ _=>hM k,
  fun b o v e=>.inl e,fun k b lo n hl e=>.inr ⟨k,lo,n,eE k hl,e,Nat.le_refl _⟩⟩
 ·have UJ:b1≠b:=fun hb=>by subst hb;rw[e7]at e;cases e
  obtain⟨Ju,T',UH,h1,h2⟩:=fB (h.AY b1 o v e)
  rw[bL (by rw[cQ _ _ _ _ _ UJ];exact h1)]
  exact h2
 ·by_cases hk:k=id
  ·subst hk
   rw[aP]
   refine .inr ⟨b,n,_,T,fr,gO,fL vs w b off cs T fr e2,(jT _ _ _).trans e3,e4,by rw[Yk _ _ _ DS];exact e5,fun j x hj=>?_,e7⟩
   rw[FD _ _ _ DS]at hj
   split at hj
   ·rw[iG _ _ _ _ (.inl ‹_›)];exact e6 j x hj
   ·split at hj
    ·obtain⟨c,h1,h2⟩:=hx.get hj
     refine⟨c,?_,h2⟩
     have:=xC vs cs off (j - off) (by omega) (by omega)
     rw[show off+(j - off)=j by omega]at this
     rw[this];exact h1
    ·rw[iG _ _ _ _ (.inr (by omega))];exact e6 j x hj
  ·rw[aM _ _ hk]
   refine (h.zD k).iO g.le_refl (fun _=>rfl) fun b1 lo n1 hl e=>⟨?_,fun _ _=>rfl⟩
   exact cQ _ _ _ _ _ (h.inj k id _ _ hk hl Oc e gO)
 ·by_cases e:k=id
  ·subst e;simp at hk
  ·rw[aM _ _ e]at hk;exact h.fresh k hk
end Go.Ev
