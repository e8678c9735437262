/-
A loop's rounds,where the loop ranges over a function: the contract of its yield.
-/
import Derived.Test.YtddpmkmgbdedlaaGreatqTvV
set_option linter.unusedVariables false
set_option linter.unusedSimpArgs false
namespace Go.Ev
open Go
def Free (g:Gh) (H:Nat→Ent) (l:Nat):Prop:=∀ b lo,nL g H b lo→b≠l
theorem Free.own {g g':Gh} {H H':Nat→Ent} {w w':World} {l:Nat} (h:EvoP g H w g' H' w') (hl:l < w.heap.size) (hf:Free g H l):Free g' H' l:=fun b lo ho hb=>by
 subst hb
 rcases h.own b lo ho with h1 | ⟨lo0,h1,_⟩
 ·omega
 ·exact hf b lo0 h1 rfl
theorem Free.obj {g g':Gh} {H H':Nat→Ent} {w w':World} {l:Nat} {r:Loop} (h:EvoP g H w g' H' w') (hl:w.heap[l]?=some (.loop r)) (hf:Free g H l):w'.heap[l]?=some (.loop r) :=
 h.fr.objs l _ hl (by intros; simp) fun k ⟨lo,ho,_⟩=>hf l lo ho rfl
theorem WRelP.putFree {g:Gh} {H:Nat→Ent} {w:World} (h:WRelP g H w) {l:Nat} {r:Loop} (hl:w.heap[l]?=some (.loop r)) (hf:Free g H l) (o:Obj):WRelP g H (w.putObj l o):=by
 refine ⟨⟨fun b k v e=>?_,fun id=>(h.base.ent id).keep g.le_refl (fun _=>rfl) fun b lo n hlv e=>⟨World.putObj_heap_other (hf b lo (.inl ⟨id,n,hlv,e⟩)),fun _ _=>rfl⟩,h.base.fresh,h.base.inj⟩,h.pool.one,fun p ms j cells h1 h2=>?_,h.pool.new,h.pool.sep,h.pool.dis⟩
 ·obtain ⟨cs,T,fr,h1,h2⟩:=gM (h.base.imm b k v e)
  have hne:b≠l:=fun e=>by subst e; rw [hl] at h1; cases h1
  rw [cI (by rw [World.putObj_heap_other hne]; exact h1)]
  exact h2
 ·rcases h.pool.mem p ms j cells h1 h2 with h0 | ⟨b,n,cs,T,fr,e1,e2,e3⟩
  ·exact .inl h0
  ·exact .inr ⟨b,n,cs,T,fr,e1,(World.putObj_heap_other (hf b 0 (.inr ⟨rfl,j,n,⟨p,ms,cells,h1,h2⟩,e1⟩))).trans e2,e3⟩
theorem EvoP.both {g g':Gh} {H H':Nat→Ent} {w w':World} (h:EvoP g H w g' H' w') {l:Nat} {r:Loop} (hl:w.heap[l]?=some (.loop r)) (hf:Free g H l) (o:Obj):EvoP g H (w.putObj l o) g' H' (w'.putObj l o):=by
 have hlt:=cZ hl
 have hl':=hf.obj h hl
 refine ⟨h.al,h.le,h.rel.putFree hl' (hf.own h hlt) o,⟨?_,h.fr.os,h.fr.out,fun b cs T fr e=>?_,fun b o' e hne hM=>?_⟩,fun b k v e=>?_,fun b lo ho=>?_⟩
 ·rw [World.putObj_size,World.putObj_size]; exact h.fr.size
 ·by_cases hb:b=l
  ·subst hb
   rw [World.putObj_heap_same hlt] at e
   cases e
   exact ⟨cs,fr,World.putObj_heap_same (cZ hl'),rfl,fun _ _=>rfl,.inl rfl⟩
  ·rw [World.putObj_heap_other hb] at e ⊢
   exact h.fr.cells b cs T fr e
 ·by_cases hb:b=l
  ·subst hb
   rw [World.putObj_heap_same hlt] at e
   cases e
   exact World.putObj_heap_same (cZ hl')
  ·rw [World.putObj_heap_other hb] at e ⊢
   exact h.fr.objs b o' e hne hM
 ·rw [World.putObj_size]; exact h.grow b k v e
 ·rw [World.putObj_size]; exact h.own b lo ho
theorem EvoP.round {g g':Gh} {H H':Nat→Ent} {w w3:World} (hW:WRelP g H w) {id l:Nat} {r r1 r2 r3:Loop} (hlive:(H id).live) (hρ:g.ρ id=some (l,0,0)) (hl:w.heap[l]?=some (.loop r))
  (h:EvoP g (upd H id .dead) (w.putObj l (.loop r1)) g' H' w3) (hl3:w3.heap[l]?=some (.loop r2)) (hf:Free g' H' l) (e:Ent) (hel:e.live) (he:EntRel g' (w3.putObj l (.loop r3)) id e):EvoP g H w g' (upd H' id e) (w3.putObj l (.loop r3)):=by
 have hlt:=cZ hl
 have hlt3:=cZ hl3
 have hlv:∀ k,(upd H id .dead k).live→(H k).live:=fun k hk=>by
  by_cases hki:k=id
  ·subst hki; exact hlive
  ·rw [aJ _ _ hki] at hk; exact hk
 have hρ':g'.ρ id=some (l,0,0):=h.le.ρ _ _ hρ
 have hnp:∀ ms,H id≠.pool ms:=fun ms q=>by have:=hW.base.pool_ρ q; rw [this] at hρ; cases hρ
 have hnp':∀ ms,H' id≠.pool ms:=fun ms q=>by have:=h.rel.base.pool_ρ q; rw [this] at hρ'; cases hρ'
 have hne':∀ ms,e≠.pool ms:=fun ms q=>by
  subst q
  have q:g'.ρ id=none:=he
  rw [q] at hρ'; cases hρ'
 have hpd:∀ p ms,upd H id .dead p=.pool ms↔H p=.pool ms:=pG hnp (fun ms q=>by cases q)
 have hpe:∀ p ms,upd H' id e p=.pool ms↔H' p=.pool ms:=pG hnp' hne'
 have hOd:∀ b lo,nL g (upd H id .dead) b lo→nL g H b lo:=fun b lo ho=>by
  rcases ho with ⟨k,n,h1,h2⟩ | ⟨h0,j,n,⟨p,ms,c,m1,m2⟩,h2⟩
  ·exact .inl ⟨k,n,hlv k h1,h2⟩
  ·exact .inr ⟨h0,j,n,⟨p,ms,c,(hpd p ms).1 m1,m2⟩,h2⟩
 have hM:∀ b o,jM g (upd H id .dead) b o→jM g H b o:=fun b o ⟨lo,h1,h2⟩=>⟨lo,hOd b lo h1,h2⟩
 have hmem:∀ j,Mem (upd H' id e) j→Mem H' j:=fun j ⟨p,ms,c,m1,m2⟩=>⟨p,ms,c,(hpe p ms).1 m1,m2⟩
 have hpf:=h.rel.putFree hl3 hf (.loop r3)
 refine ⟨fun hno=>?_,h.le,⟨⟨hpf.base.imm,fun k=>?_,fun k hk=>?_,fun k k' x x' hne hk hk' a b=>?_⟩,fun p p' ms ms' a b=>hpf.pool.one p p' ms ms' ((hpe _ _).1 a) ((hpe _ _).1 b),fun p ms j cells a b=>hpf.pool.mem p ms j cells ((hpe _ _).1 a) b,fun p ms j a b=>hpf.pool.new p ms j ((hpe _ _).1 a) b,fun k x j b n hk a hm c=>?_,fun j j' b b' n n' hne hm hm' a c=>hpf.pool.dis j j' b b' n n' hne (hmem j hm) (hmem j' hm') a c⟩,
  ⟨?_,h.fr.os,h.fr.out,fun b cs T fr ec=>?_,fun b o ec hne hM'=>?_⟩,fun b o v ev=>?_,fun b lo ho=>?_⟩
 ·obtain ⟨q1,q2⟩:=h.al fun p ms q=>hno p ms ((hpd p ms).1 q)
  exact ⟨q1,fun p ms q=>q2 p ms ((hpe p ms).1 q)⟩
 ·by_cases hki:k=id
  ·subst hki; rw [aR]; exact he
  ·rw [aJ _ _ hki]; exact hpf.base.ent k
 ·by_cases hki:k=id
  ·subst hki; rw [aR] at hk; subst hk; exact hel.elim
  ·rw [aJ _ _ hki] at hk; exact hpf.base.fresh k hk
 ·obtain ⟨b1,lo1,n1⟩:=x
  obtain ⟨b2,lo2,n2⟩:=x'
  by_cases hki:k=id
  ·subst hki
   rw [aJ _ _ (Ne.symm hne)] at hk'
   rw [hρ'] at a; cases a
   exact fun q=>hf b2 lo2 (.inl ⟨k',n2,hk',b⟩) q.symm
  ·rw [aJ _ _ hki] at hk
   by_cases hki':k'=id
   ·subst hki'
    rw [hρ'] at b; cases b
    exact hf b1 lo1 (.inl ⟨k,n1,hk,a⟩)
   ·rw [aJ _ _ hki'] at hk'
    exact hpf.base.inj k k' _ _ hne hk hk' a b
 ·by_cases hki:k=id
  ·subst hki
   rw [hρ'] at a; cases a
   exact fun q=>hf b 0 (.inr ⟨rfl,j,n,hmem j hm,c⟩) q.symm
  ·rw [aJ _ _ hki] at hk
   exact hpf.pool.sep k x j b n hk a (hmem j hm) c
 ·have:=h.fr.size; rw [World.putObj_size] at this ⊢; exact this
 ·have hb:b≠l:=fun q=>by subst q; rw [hl] at ec; cases ec
  obtain ⟨cs',fr',e1,e2,e3,e4⟩:=h.fr.cells b cs T fr (by rw [World.putObj_heap_other hb]; exact ec)
  exact ⟨cs',fr',by rw [World.putObj_heap_other hb]; exact e1,e2,fun o ho=>e3 o fun hm=>ho (hM b o hm),e4.imp_right fun ⟨o,ho⟩=>⟨o,hM b o ho⟩⟩
 ·have hb:b≠l:=fun q=>by subst q; exact hM' 0 ⟨0,.inl ⟨id,0,hlive,hρ⟩,Nat.le_refl _⟩
  rw [World.putObj_heap_other hb]
  exact h.fr.objs b o (by rw [World.putObj_heap_other hb]; exact ec) hne fun k hk=>hM' k (hM b k hk)
 ·rcases h.grow b o v ev with q | q | q
  ·exact .inl q
  ·rw [World.putObj_size] at q; exact .inr (.inl q)
  ·exact .inr (.inr (hM b o q))
 ·have key:∀ {b lo},nL g' H' b lo→w.heap.size≤b∨∃ lo0,nL g H b lo0∧lo0≤lo:=fun {b lo} ho=>by
   rcases h.own b lo ho with q | ⟨lo0,h1,h2⟩
   ·rw [World.putObj_size] at q; exact .inl q
   ·exact .inr ⟨lo0,hOd b lo0 h1,h2⟩
  rcases ho with ⟨k,n,hk,ec⟩ | ⟨h0,j,n,hm,ec⟩
  ·by_cases hki:k=id
   ·subst hki
    rw [hρ'] at ec; cases ec
    exact .inr ⟨0,.inl ⟨k,0,hlive,hρ⟩,Nat.le_refl _⟩
   ·rw [aJ _ _ hki] at hk
    exact key (.inl ⟨k,n,hk,ec⟩)
  ·exact key (.inr ⟨h0,j,n,hmem j hm,ec⟩)
section
variable {τ:Nat→Type}
end
@[reducible] def Sl.k:Sl:=.keep
@[reducible] def Sl.j:Sl:=.junk
end Go.Ev
