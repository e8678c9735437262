/-
A loop's rounds,where the loop ranges over a function: the contract of its yield.
-/
import Derived.Test.YteinehkdjkobnaaGreatqTvV
set_option linter.unusedVariables false
set_option linter.unusedSimpArgs false
namespace Go.Ev
open Go
def Free (g : Gh) (H : Nat → Ent) (l : Nat) : Prop := ∀ id b lo n,(H id).live → g.ρ id = some (b,lo,n) → b ≠ l
theorem Free.own {g g' : Gh} {H H' : Nat → Ent} {w w' : World} {l : Nat} (h : Evo g H w g' H' w') (hl : l < w.heap.size) (hf : Free g H l) : Free g' H' l := fun id b lo n hlv e hb => by
  subst hb
  rcases h.own id b lo n hlv e with h1 | ⟨id0,lo0,n0,h1,h2,_⟩
  · omega
  · exact hf id0 b lo0 n0 h1 h2 rfl
theorem Free.obj {g g' : Gh} {H H' : Nat → Ent} {w w' : World} {l : Nat} {r : Loop} (h : Evo g H w g' H' w') (hl : w.heap[l]? = some (.loop r)) (hf : Free g H l) : w'.heap[l]? = some (.loop r) :=
  h.fr.objs l _ hl (by intros; simp) fun k ⟨id,lo,n,hlv,e,_⟩ => hf id l lo n hlv e rfl
theorem WRel.putFree {g : Gh} {H : Nat → Ent} {w : World} (h : WRel g H w) {l : Nat} {r : Loop} (hl : w.heap[l]? = some (.loop r)) (hf : Free g H l) (o : Obj) : WRel g H (w.putObj l o) := by
  refine ⟨fun b k v e => ?_,fun id => (h.ent id).keep g.le_refl (fun _ => rfl) fun b lo n hlv e => ⟨World.putObj_heap_other (hf id b lo n hlv e),fun _ _ => rfl⟩,h.fresh,h.inj⟩
  obtain ⟨cs,T,fr,h1,h2⟩ := z1u (h.imm b k v e)
  have hne : b ≠ l := fun e => by subst e; rw [hl] at h1; cases h1
  rw [zo (by rw [World.putObj_heap_other hne]; exact h1)]
  exact h2
theorem Evo.both {g g' : Gh} {H H' : Nat → Ent} {w w' : World} (h : Evo g H w g' H' w') {l : Nat} {r : Loop} (hl : w.heap[l]? = some (.loop r)) (hf : Free g H l) (o : Obj) : Evo g H (w.putObj l o) g' H' (w'.putObj l o) := by
  have hlt := z1h hl
  have hl' := hf.obj h hl
  refine ⟨h.le,h.rel.putFree hl' (hf.own h hlt) o,⟨?_,h.fr.os,h.fr.out,fun b cs T fr e => ?_,fun b o' e hne hM => ?_⟩,fun b k v e => ?_,fun id b lo n hlv e => ?_⟩
  · rw [World.putObj_size,World.putObj_size]; exact h.fr.size
  · by_cases hb : b = l
    · subst hb
      rw [World.putObj_heap_same hlt] at e
      cases e
      exact ⟨cs,fr,World.putObj_heap_same (z1h hl'),rfl,fun _ _ => rfl,.inl rfl⟩
    · rw [World.putObj_heap_other hb] at e ⊢
      exact h.fr.cells b cs T fr e
  · by_cases hb : b = l
    · subst hb
      rw [World.putObj_heap_same hlt] at e
      cases e
      exact World.putObj_heap_same (z1h hl')
    · rw [World.putObj_heap_other hb] at e ⊢
      exact h.fr.objs b o' e hne hM
  · rw [World.putObj_size]; exact h.grow b k v e
  · rw [World.putObj_size]; exact h.own id b lo n hlv e
theorem Evo.round {g g' : Gh} {H H' : Nat → Ent} {w w3 : World} (hW : WRel g H w) {id l : Nat} {r r1 r2 r3 : Loop} (hlive : (H id).live) (hρ : g.ρ id = some (l,0,0)) (hl : w.heap[l]? = some (.loop r))
    (h : Evo g (upd H id .dead) (w.putObj l (.loop r1)) g' H' w3) (hl3 : w3.heap[l]? = some (.loop r2)) (hf : Free g' H' l) (e : Ent) (hel : e.live) (he : EntRel g' (w3.putObj l (.loop r3)) id e) : Evo g H w g' (upd H' id e) (w3.putObj l (.loop r3)) := by
  have hlt := z1h hl
  have hlt3 := z1h hl3
  have hlv : ∀ k,(upd H id .dead k).live → (H k).live := fun k hk => by
    by_cases hki : k = id
    · subst hki; exact hlive
    · rw [zr _ _ hki] at hk; exact hk
  have hM : ∀ b o,MutOf g (upd H id .dead) b o → MutOf g H b o := fun b o ⟨k,lo,n,h1,h2,h3⟩ => ⟨k,lo,n,hlv k h1,h2,h3⟩
  have hρ' : g'.ρ id = some (l,0,0) := h.le.ρ _ _ hρ
  have hpf := h.rel.putFree hl3 hf (.loop r3)
  refine ⟨h.le,⟨hpf.imm,fun k => ?_,fun k hk => ?_,fun k k' x x' hne hk hk' a b => ?_⟩,⟨?_,h.fr.os,h.fr.out,fun b cs T fr ec => ?_,fun b o ec hne hM' => ?_⟩,fun b o v ev => ?_,fun k b lo n hk ec => ?_⟩
  · by_cases hki : k = id
    · subst hki; rw [zp]; exact he
    · rw [zr _ _ hki]; exact hpf.ent k
  · by_cases hki : k = id
    · subst hki; rw [zp] at hk; subst hk; exact hel.elim
    · rw [zr _ _ hki] at hk; exact hpf.fresh k hk
  · obtain ⟨b1,lo1,n1⟩ := x
    obtain ⟨b2,lo2,n2⟩ := x'
    by_cases hki : k = id
    · subst hki
      rw [zr _ _ (Ne.symm hne)] at hk'
      rw [hρ'] at a; cases a
      exact fun q => hf k' b2 lo2 n2 hk' b q.symm
    · rw [zr _ _ hki] at hk
      by_cases hki' : k' = id
      · subst hki'
        rw [hρ'] at b; cases b
        exact hf k b1 lo1 n1 hk a
      · rw [zr _ _ hki'] at hk'
        exact hpf.inj k k' _ _ hne hk hk' a b
  · have := h.fr.size; rw [World.putObj_size] at this ⊢; exact this
  · have hb : b ≠ l := fun q => by subst q; rw [hl] at ec; cases ec
    obtain ⟨cs',fr',e1,e2,e3,e4⟩ := h.fr.cells b cs T fr (by rw [World.putObj_heap_other hb]; exact ec)
    exact ⟨cs',fr',by rw [World.putObj_heap_other hb]; exact e1,e2,fun o ho => e3 o fun hm => ho (hM b o hm),e4.imp_right fun ⟨o,ho⟩ => ⟨o,hM b o ho⟩⟩
  · have hb : b ≠ l := fun q => by subst q; exact hM' 0 ⟨id,0,0,hlive,hρ,Nat.le_refl _⟩
    rw [World.putObj_heap_other hb]
    exact h.fr.objs b o (by rw [World.putObj_heap_other hb]; exact ec) hne fun k hk => hM' k (hM b k hk)
  · rcases h.grow b o v ev with q | q | q
    · exact .inl q
    · rw [World.putObj_size] at q; exact .inr (.inl q)
    · exact .inr (.inr (hM b o q))
  · by_cases hki : k = id
    · subst hki
      rw [hρ'] at ec; cases ec
      exact .inr ⟨k,0,0,hlive,hρ,Nat.le_refl _⟩
    · rw [zr _ _ hki] at hk
      rcases h.own k b lo n hk ec with q | ⟨a1,a2,a3,h1,h2,h3⟩
      · rw [World.putObj_size] at q; exact .inl q
      · exact .inr ⟨a1,a2,a3,hlv a1 h1,h2,h3⟩
section
variable {τ : Nat → Type}
end
@[reducible] def Sl.k : Sl := .keep
@[reducible] def Sl.j : Sl := .junk
end Go.Ev
