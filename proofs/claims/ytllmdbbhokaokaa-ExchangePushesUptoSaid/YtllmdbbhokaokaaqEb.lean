/-
ExchangePushes: what the document's function and the program's compute.
-/
import Derived.Test.YtllmdbbhokaokaaqEa
set_option linter.unusedVariables false
set_option linter.unusedSimpArgs false
set_option maxRecDepth 100000
namespace Go.Proofs.Ytllmdbbhokaokaa
open Go Go.Ev
section
variable {N : Nat} {s : GSnap} {fr to_ : GAddr}
theorem gd_get {α : Type} (d : α) {l : List α} {i : Nat} (h : i < l.length) : l.getD i d = l[i] := by simp [List.getD, List.getElem?_eq_getElem h]
theorem Well.snoc {ms : List (Option (List GOp))} {g : List GMsgH} {x : GMsgH} {j : Nat} {c : List GOp} {y : Option (List GOp)} (h : Well s fr to_ ms g) (hj : ∀ z ∈ g, z.Ops.j ≠ j) (hx : x = mkH s fr to_ x.Origin x.Slot x.Ops) (ho : x.Ops.o = 0) (hjx : x.Ops.j = ms.length + 1) (hn : x.Ops.n = c.length) :
    Well s fr to_ (pset ms j y ++ [some c]) (g ++ [x]) ∧ (g ++ [x]).map (vm (pset ms j y ++ [some c])) = g.map (vm ms) ++ [{ vm ms x with Ops := c }] := by
  have hp : pget (pset ms j y ++ [some c]) x.Ops.j = some c := by rw [hjx, ← pset_len ms j y]; exact pget_new _ _
  have hc : pcon (pset ms j y ++ [some c]) x.Ops.j = c := by unfold pcon; rw [hp]; rfl
  refine ⟨⟨fun z hz => ?_, ?_⟩, ?_⟩
  · rcases List.mem_append.1 hz with hz | hz
    · exact (vm_old y (some c) (h.fine z hz) (hj z hz)).1
    · simp at hz; subst hz
      exact ⟨hx, ho, by unfold phas; rw [hp]; rfl, by rw [hc, hn]⟩
  · rw [List.map_append, List.nodup_append]
    refine ⟨h.dis, by simp, fun a ha b hb => ?_⟩
    obtain ⟨z, hz, rfl⟩ := List.mem_map.1 ha
    simp at hb; subst hb
    have := phas_pos (h.fine z hz).has
    omega
  · rw [List.map_append]
    congr 1
    · exact List.map_congr_left fun z hz => (vm_old y (some c) (h.fine z hz) (hj z hz)).2
    · simp only [List.map_cons, List.map_nil, vm, hc]
theorem set_snoc {α : Type} (l : List α) (x y : α) : (l ++ [x]).set l.length y = l ++ [y] := by simp
theorem getD_snoc {α : Type} (l : List α) (x d : α) : (l ++ [x]).getD l.length d = x := by simp [List.getD]
structure St (s : GSnap) (fr to_ : GAddr) (ms : List (Option (List GOp))) (g : List GMsgH) (l : Nat) (L : List GMsg) : Prop where
  well : Well s fr to_ ms g
  len : l = g.length
  eq : g.map (vm ms) = L
theorem St.shut {ms : List (Option (List GOp))} {g : List GMsgH} {l : Nat} {L : List GMsg} (h : St s fr to_ ms g l L) {o k : Int} {x : GOp} (ho : Shut o L) :
    St s fr to_ (pset ms 0 none ++ [some [x]]) (g ++ [mkH s fr to_ o k ⟨ms.length + 1, 0, 1, 1, true⟩]) (l + 1) (addOp s fr to_ o k x L) := by
  obtain ⟨hw, hl, he⟩ := h
  obtain ⟨h1, h2⟩ := hw.snoc (x := mkH s fr to_ o k ⟨ms.length + 1, 0, 1, 1, true⟩) (j := 0) (y := none) (c := [x]) (fun z hz => by have := phas_pos (hw.fine z hz).has; omega) rfl rfl rfl rfl
  refine ⟨h1, by simp [hl], ?_⟩
  rw [h2, he, addOp_shut ho]; rfl
theorem St.open_ {ms : List (Option (List GOp))} {g : List GMsgH} {z : GMsgH} {l : Nat} {L : List GMsg} (h : St s fr to_ ms (g ++ [z]) l L) {o k : Int} {x : GOp} {c : Nat} {b : Bool} (ho : z.Origin = o) (hn : z.Ops.n < 16) :
    St s fr to_ (pset ms z.Ops.j none ++ [some ((pcon ms z.Ops.j).take z.Ops.n ++ [x])]) (g ++ [{ z with Ops := ⟨ms.length + 1, 0, z.Ops.n + 1, c, b⟩ }]) l (addOp s fr to_ o k x L) := by
  obtain ⟨hw, hl, he⟩ := h
  have hz := hw.fine z (by simp)
  have hd := hw.dis
  rw [List.map_append, List.nodup_append] at hd
  obtain ⟨d1, _, d2⟩ := hd
  have ht : (pcon ms z.Ops.j).take z.Ops.n = pcon ms z.Ops.j := List.take_of_length_le (by rw [hz.n]; exact Nat.le_refl _)
  rw [ht]
  obtain ⟨h1, h2⟩ := Well.snoc (x := { z with Ops := ⟨ms.length + 1, 0, z.Ops.n + 1, c, b⟩ }) (j := z.Ops.j) (y := none) (c := pcon ms z.Ops.j ++ [x]) (show Well s fr to_ ms g from ⟨fun y hy => hw.fine y (by simp [hy]), d1⟩)
    (fun y hy => d2 _ (List.mem_map_of_mem hy) _ (by simp)) (by rw [hz.eq]; rfl) rfl rfl (by simp [hz.n])
  refine ⟨h1, by simpa using hl, ?_⟩
  rw [h2, ← he, List.map_append]
  have := addOp_open (s := s) (fr := fr) (to_ := to_) (o := o) (k := k) (x := x) (L := g.map (vm ms)) (m := vm ms z) ho (by show (pcon ms z.Ops.j).length < 16; rw [hz.n]; exact hn)
  simp only [List.map_cons, List.map_nil]
  rw [this]
  rfl
end
end Go.Proofs.Ytllmdbbhokaokaa
