/-
A slice that could grow, fixed from now on, when a function answers it.
-/
import Derived.Test.YtekpjhhbmjcbmaaqTvT
set_option linter.unusedVariables false
namespace Go.Ev
open Go
theorem flatten_at {sz : Nat} : ∀ (elems : List (List AV)) (rest : List AV) (i k : Nat) (cs : List AV) (x : AV), (∀ cs ∈ elems, cs.length = sz) → elems[i]? = some cs → cs[k]? = some x → (elems.flatten ++ rest)[i * sz + k]? = some x
  | [], _, i, k, cs, x, _, h, _ => by simp at h
  | e :: r, rest, 0, k, cs, x, hs, h, hx => by
    simp only [List.getElem?_cons_zero, Option.some.injEq] at h
    subst h
    have hk : k < e.length := (List.getElem?_eq_some_iff.1 hx).1
    rw [List.flatten_cons, List.append_assoc, Nat.zero_mul, Nat.zero_add, List.getElem?_append_left hk]
    exact hx
  | e :: r, rest, i + 1, k, cs, x, hs, h, hx => by
    have he : e.length = sz := hs e (by simp)
    have := flatten_at r rest i k cs x (fun c hc => hs c (List.mem_cons_of_mem _ hc)) (by simpa using h) hx
    rw [List.flatten_cons, List.append_assoc, List.getElem?_append_right (by rw [he, Nat.succ_mul]; omega)]
    rw [← this]
    congr 1
    rw [he, Nat.succ_mul]; omega
theorem Evo.swap {g : Gh} {H H2 : Nat → Ent} {w : World} {g' : Gh} {H' : Nat → Ent} {w' : World} (hl : ∀ k, (H2 k).live → (H k).live) (h : Evo g H2 w g' H' w') : Evo g H w g' H' w' := by
  have hm : ∀ b o, MutOf g H2 b o → MutOf g H b o := fun b o ⟨id, lo, n, h1, h2, h3⟩ => ⟨id, lo, n, hl id h1, h2, h3⟩
  refine ⟨h.le, h.rel, h.fr.mono fun b o _ hx => hm b o hx, fun b o v e => ?_, fun id b lo n hlv e => ?_⟩
  · rcases h.grow b o v e with h1 | h1 | h1
    · exact .inl h1
    · exact .inr (.inl h1)
    · exact .inr (.inr (hm b o h1))
  · rcases h.own id b lo n hlv e with h1 | ⟨a1, a2, a3, h1, h2⟩
    · exact .inl h1
    · exact .inr ⟨a1, a2, a3, hl a1 h1, h2⟩
theorem Evo.freezeG {g : Gh} {H : Nat → Ent} {w : World} (h : WRel g H w) {id n sz : Nat} {elems : List (List AV)} {rest : List AV} (hid : H id = .gbx (elems.flatten ++ rest)) (hn : elems.length = n) (hs : ∀ cs ∈ elems, cs.length = sz)
    {v : Value} (hv : VRel g (.bsl id 0 n sz) v) : ∃ g', Evo g H w g' (upd H id .dead) w ∧ VRel g' (.asl sz elems) v := by
  have hnone : Evo g H w g (upd H id .dead) w := Evo.noneM h _ fun k => by
    by_cases e : k = id
    · subst e; rw [upd_same]; exact .inr (.inl rfl)
    · rw [upd_ne _ _ e]; exact .inl rfl
  have h0 : n = 0 → elems = [] := fun e => List.length_eq_zero_iff.1 (hn.trans e)
  cases hv with
  | bsl0 => rw [h0 rfl]; exact ⟨g, hnone, .asl0⟩
  | @bsl _ _ _ _ b lo m cap e1 e2 e3 =>
    have he := h.ent id
    rw [hid] at he
    rcases he with ⟨he, _⟩ | he
    · rw [he] at e1; cases e1
    have hw2 : WRel g (upd H id (.box (elems.flatten ++ rest))) w := by
      refine ⟨h.imm, fun k => ?_, fun k hk => ?_, fun k k' x x' hne hl hl' a b => ?_⟩
      · by_cases e : k = id
        · subst e; rw [upd_same]; exact he
        · rw [upd_ne _ _ e]; exact h.ent k
      · by_cases e : k = id
        · subst e; rw [upd_same] at hk; cases hk
        · rw [upd_ne _ _ e] at hk; exact h.fresh k hk
      · have hlv : ∀ j, (upd H id (.box (elems.flatten ++ rest)) j).live → (H j).live := fun j hj => by
          by_cases e : j = id
          · subst e; rw [hid]; trivial
          · rw [upd_ne _ _ e] at hj; exact hj
        exact h.inj k k' x x' hne (hlv k hl) (hlv k' hl') a b
    obtain ⟨g', hev⟩ := Evo.freeze hw2 (upd_same _ _ _)
    have hev1 := Evo.swap (H := H) (fun k hk => by
      by_cases e : k = id
      · subst e; rw [hid]; trivial
      · rw [upd_ne _ _ e] at hk; exact hk) hev
    have hdead : Evo g' (upd (upd H id (.box (elems.flatten ++ rest))) id (.ibox (elems.flatten ++ rest))) w g' (upd H id .dead) w := Evo.noneM hev.rel _ fun k => by
      by_cases e : k = id
      · subst e; rw [upd_same]; exact .inr (.inl rfl)
      · rw [upd_ne _ _ e, upd_ne _ _ e, upd_ne _ _ e]; exact .inl rfl
    refine ⟨g', hev1.trans hdead, .asl ?_⟩
    have hib := hev.rel.ent id
    rw [upd_same] at hib
    obtain ⟨b', n', i1, i2⟩ := hib
    have i0 := hev.le.ρ _ _ e1
    rw [i1] at i0
    simp only [Option.some.injEq, Prod.mk.injEq] at i0
    obtain ⟨rfl, rfl, rfl⟩ := i0
    have key : ∀ (i : Nat) (cs : List AV) (k : Nat) (x : AV), elems[i]? = some cs → cs[k]? = some x → ∃ c, g'.I b' (0 + i * sz + k) = some c ∧ VRel g' x c := fun i cs k x hi hk => by
      rw [Nat.zero_add]
      exact i2 _ x (flatten_at elems rest i k cs x hs hi hk)
    refine .sl (fun i k => (g'.I b' (0 + i * sz + k)).getD undef) hn e2 (fun i cs hi => hs cs (List.mem_of_getElem? hi)) (fun i cs k x hi hk => ?_) (fun i cs k x hi hk => ?_) trivial
    · obtain ⟨c, h1, h2⟩ := key i cs k x hi hk
      rw [h1]; rfl
    · obtain ⟨c, h1, h2⟩ := key i cs k x hi hk
      show VRel g' x ((g'.I b' (0 + i * sz + k)).getD undef)
      rw [h1]; exact h2
theorem hget_get : ∀ (L : List Ent) (k : Nat) (x : Ent), L[k]? = some x → hget L k = x
  | [], _, _, h => by simp at h
  | y :: _, 0, x, h => by simpa [hget] using h
  | _ :: r, k + 1, x, h => hget_get r k x (by simpa using h)
theorem hget_set : ∀ (L : List Ent) (id : Nat) (x : Ent), id < L.length → hget (L.set id x) = upd (hget L) id x
  | [], _, _, h => by cases h
  | y :: r, 0, x, _ => by
    funext k
    cases k with
    | zero => rw [upd_same]; rfl
    | succ k => rw [upd_ne _ _ (by omega)]; rfl
  | y :: r, id + 1, x, h => by
    have ih := hget_set r id x (Nat.lt_of_succ_lt_succ h)
    funext k
    cases k with
    | zero => rw [upd_ne _ _ (by omega)]; rfl
    | succ k =>
      show hget (r.set id x) k = _
      rw [ih]
      by_cases e : k = id
      · subst e; rw [upd_same, upd_same]
      · rw [upd_ne _ _ e, upd_ne _ _ (by omega)]; rfl
theorem FnSpec.freezeG {E : Env} {f : FuncId} {args : List AV} {L L' : List Ent} {id n sz : Nat} {elems : List (List AV)} {rest : List AV} (h : FnSpec E f args L (.bsl id 0 n sz) L') (hid : L'[id]? = some (.gbx (elems.flatten ++ rest)))
    (hn : elems.length = n) (hs : ∀ cs ∈ elems, cs.length = sz) : FnSpec E f args L (.asl sz elems) (L'.set id .dead) := by
  refine ⟨h.1, fun g w cargs hw hr => ?_⟩
  refine Calls.mono (h.2 g w cargs hw hr) fun e w' hp => ?_
  obtain ⟨v, g', rfl, hv, hev⟩ := hp
  have hlt : id < L'.length := (List.getElem?_eq_some_iff.1 hid).1
  have hH : hget L' id = .gbx (elems.flatten ++ rest) := hget_get _ _ _ hid
  obtain ⟨g2, hev2, hv2⟩ := Evo.freezeG hev.rel hH hn hs hv
  refine ⟨v, g2, rfl, hv2, ?_⟩
  rw [hget_set L' id .dead hlt]
  exact hev.trans hev2
theorem FnSpec.freezeA {E : Env} {f : FuncId} {args : List AV} {L L' : List Ent} {cells : List AV} {p id n sz : Nat} {elems : List (List AV)} {rest : List AV} (h : FnSpec E f args L (.agg cells) L') (hp : cells[p]? = some (.bsl id 0 n sz))
    (hid : L'[id]? = some (.gbx (elems.flatten ++ rest))) (hn : elems.length = n) (hs : ∀ cs ∈ elems, cs.length = sz) : FnSpec E f args L (.agg (cells.set p (.asl sz elems))) (L'.set id .dead) := by
  refine ⟨h.1, fun g w cargs hw hr => ?_⟩
  refine Calls.mono (h.2 g w cargs hw hr) fun e w' hq => ?_
  obtain ⟨v, g', rfl, hv, hev⟩ := hq
  have hlt : id < L'.length := (List.getElem?_eq_some_iff.1 hid).1
  have hH : hget L' id = .gbx (elems.flatten ++ rest) := hget_get _ _ _ hid
  obtain ⟨cs, rfl, hl⟩ := LRel_of_agg hv
  obtain ⟨c, hc, hcv⟩ := hl.get hp
  obtain ⟨g2, hev2, hv2⟩ := Evo.freezeG hev.rel hH hn hs hcv
  refine ⟨_, g2, rfl, LRel_agg ⟨by simpa using hl.1, fun k x d hx hd => ?_⟩, ?_⟩
  · rw [List.getElem?_set] at hx
    split at hx
    · rename_i hk
      subst hk
      split at hx
      · cases hx
        rw [hc] at hd; cases hd
        exact hv2
      · cases hx
    · exact (hl.2 k x d hx hd).mono hev2.le
  · rw [hget_set L' id .dead hlt]
    exact hev.trans hev2
section
variable {τ : Nat → Type}
theorem FnSpec.msl {C : Cod τ} (hC : C.Ok) {E : Env} {f : FuncId} {args : List AV} {L : List Ent} {ents : List (TEnt τ)} {t id n : Nat} {l : List (τ t)} (h : FnSpec E f args L ((TV.msl t id n : TV τ).den C) (ents.map (TEnt.den C)))
    (hid : ents[id]? = some (.gbx t l)) (hn : n ≤ l.length) : FnSpec E f args L (.asl (C.sz t) ((l.take n).map (C.cel t))) ((ents.set id .dead).map (TEnt.den C)) := by
  have := FnSpec.freezeG (elems := (l.take n).map (C.cel t)) (rest := (l.drop n).flatMap (C.cel t)) (id := id) (n := n) (sz := C.sz t) h (by
    rw [List.getElem?_map, hid]
    simp only [Option.map_some, TEnt.den, ← List.flatMap_def]
    rw [← List.flatMap_append, List.take_append_drop]) (by simp; omega) (fun cs hcs => by
    obtain ⟨x, _, rfl⟩ := List.mem_map.1 hcs
    exact hC.len t x)
  rw [List.map_set]
  exact this
theorem FnSpec.mslA {C : Cod τ} (hC : C.Ok) {E : Env} {f : FuncId} {args : List AV} {L : List Ent} {ents : List (TEnt τ)} {t id n p : Nat} {l : List (τ t)} {cells : List AV} (h : FnSpec E f args L (.agg cells) (ents.map (TEnt.den C)))
    (hp : cells[p]? = some ((TV.msl t id n : TV τ).den C)) (hid : ents[id]? = some (.gbx t l)) (hn : n ≤ l.length) : FnSpec E f args L (.agg (cells.set p (.asl (C.sz t) ((l.take n).map (C.cel t))))) ((ents.set id .dead).map (TEnt.den C)) := by
  have := FnSpec.freezeA (elems := (l.take n).map (C.cel t)) (rest := (l.drop n).flatMap (C.cel t)) (id := id) (n := n) (sz := C.sz t) h hp (by
    rw [List.getElem?_map, hid]
    simp only [Option.map_some, TEnt.den, ← List.flatMap_def]
    rw [← List.flatMap_append, List.take_append_drop]) (by simp; omega) (fun cs hcs => by
    obtain ⟨x, _, rfl⟩ := List.mem_map.1 hcs
    exact hC.len t x)
  rw [List.map_set]
  exact this
end
end Go.Ev
