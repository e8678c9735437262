/-
An entry's bytes are bytes; the law RecordApart.
-/
import Derived.Test.YteinehkdjkobnaaRi
set_option linter.unusedVariables false
set_option linter.unusedSimpArgs false
namespace Go.Proofs.Yteinehkdjkobnaa
open Go Go.Ev

/-- All parts are bytes. -/
def CB (cs : List (List Int)) : Prop := ∀ c ∈ cs, byt c
theorem CB.append {a b : List (List Int)} (ha : CB a) (hb : CB b) : CB (a ++ b) := fun c hc => (List.mem_append.1 hc).elim (ha c) (hb c)
theorem CB.flat {cs : List (List Int)} (h : CB cs) : byt cs.flatten := fun x hx => by
  obtain ⟨c, hc, hx⟩ := List.mem_flatten.1 hx
  exact h c hc x hx
theorem CB.nil : CB [] := fun c hc => by cases hc
theorem CB.ints {l : List Int} (h : ∀ n ∈ l, R64 n) : CB (l.map pI) := fun c hc => by
  obtain ⟨n, hn, rfl⟩ := List.mem_map.1 hc
  exact pI_byt (h n hn)
theorem CB.int1 {a : Int} (ha : R64 a) : CB ([a].map pI) := CB.ints (by intro n hn; simp at hn; subst hn; exact ha)
theorem CB.int2 {a b : Int} (ha : R64 a) (hb : R64 b) : CB ([a, b].map pI) := CB.ints (by intro n hn; simp at hn; rcases hn with rfl | rfl <;> assumption)
theorem byt_pB {l : List Int} (hl : l.length ≤ 1048576) (h : byt l) : byt (pB l) := fun x hx => by
  unfold pB at hx
  rcases List.mem_append.1 hx with hx | hx
  · exact pI_byt (n := (l.length : Int)) ⟨by omega, by omega⟩ x hx
  · exact h x hx
theorem byt_bytesI (s : List UInt8) : byt (bytesI s) := fun x hx => by
  unfold bytesI at hx
  obtain ⟨b, _, rfl⟩ := List.mem_map.1 hx
  have := b.toNat_lt
  exact ⟨by omega, by omega⟩
theorem CB.texts {l : List (List UInt8)} (h : ∀ s ∈ l, s.length ≤ 1048576) : CB (l.map pT) := fun c hc => by
  obtain ⟨s, hs, rfl⟩ := List.mem_map.1 hc
  exact byt_pB (by rw [bytesI_len]; exact h s hs) (byt_bytesI s)
theorem CB.op {o : GOp} (h : MayOp o) : CB (opC o) := by
  obtain ⟨h1, h2, h3, h4, h5, h6, h7, h8⟩ := h
  exact (((CB.int1 ⟨by omega, by omega⟩).append (CB.int2 ⟨by omega, by omega⟩ ⟨by omega, by omega⟩)).append (CB.int2 ⟨by omega, by omega⟩ ⟨by omega, by omega⟩)).append (CB.texts (by intro s hs; simp at hs; rcases hs with rfl | rfl | rfl <;> omega))
theorem CB.ops {l : List GOp} (h : MayOps l) : CB (opsC l) :=
  (CB.int1 ⟨by omega, by have := h.2.1; omega⟩).append fun c hc => by
    obtain ⟨cs, hcs, hc⟩ := List.mem_flatten.1 hc
    obtain ⟨o, ho, rfl⟩ := List.mem_map.1 hcs
    exact CB.op (h.2.2 o ho) c hc
theorem CB.ep {e : GEpoch} (h : MayEp e) : CB (epC e) := by
  obtain ⟨h1, h2, h3⟩ := ep_states h
  exact (((CB.int1 (cnt64 h.1)).append (CB.ints h1)).append (CB.ints h3)).append (CB.ints h2)
theorem CB.pt {p : GPart} (h : MayPt p) (hb : byt p.Data) : CB (ptC p) := by
  obtain ⟨h1, ⟨h2, h3⟩, ⟨h4, h5⟩, h6⟩ := h
  exact ((CB.int1 (cnt64 h1)).append (CB.int2 ⟨by omega, by omega⟩ ⟨by omega, by omega⟩)).append (fun c hc => by simp at hc; subst hc; exact byt_pB (by omega) hb)
theorem CB.en {e : GEntry} (h : MayEn e) (hb : byt e.Part.Data) : CB (enC e) := by
  obtain ⟨hk, _, hc⟩ := h
  have hk9 : e.Kind = 0 ∨ e.Kind = 1 ∨ e.Kind = 2 ∨ e.Kind = 3 ∨ e.Kind = 4 ∨ e.Kind = 5 ∨ e.Kind = 6 ∨ e.Kind = 7 ∨ e.Kind = 8 := by unfold kindE at hk; omega
  obtain ⟨kd, a2, a3, a4, a5, a6, a7, a8, a9, a10, a11, a12, a13, a14, a15⟩ := e
  simp only at hk9
  refine (CB.int1 (a := kd) ⟨by omega, by omega⟩).append ?_
  rcases hk9 with rfl | rfl | rfl | rfl | rfl | rfl | rfl | rfl | rfl
  · replace hc : (decide (sit a13) && decide (sit a14) && decide (cnt a15)) = true := hc
    simp only [Bool.and_eq_true, decide_eq_true_eq] at hc
    obtain ⟨⟨c1, c2⟩, c3⟩ := hc
    exact CB.nil
  · replace hc : (decide (cnt a2) && decide (0 < a2) && decide (cnt a3) && decide (0 < a3) && decide (MayOp a4)) = true := hc
    simp only [Bool.and_eq_true, decide_eq_true_eq] at hc
    obtain ⟨⟨⟨⟨c1, _⟩, c2⟩, _⟩, c3⟩ := hc
    exact (CB.int2 (cnt64 c1) (cnt64 c2)).append (CB.op c3)
  · replace hc : (decide (sit a5) && decide (cnt a6) && decide (MayOps a7)) = true := hc
    simp only [Bool.and_eq_true, decide_eq_true_eq] at hc
    obtain ⟨⟨c1, c2⟩, c3⟩ := hc
    exact ((CB.int1 (sit64 c1)).append (CB.int1 (cnt64 c2))).append (CB.ops c3)
  · replace hc : (decide (MayEp a8)) = true := hc
    simp only [Bool.and_eq_true, decide_eq_true_eq] at hc
    have c1 := hc
    exact CB.ep c1
  · replace hc : (decide (cnt a6) && decide (sit a9) && decide (MayVec a10) && decide (cnt a11)) = true := hc
    simp only [Bool.and_eq_true, decide_eq_true_eq] at hc
    obtain ⟨⟨⟨c1, c2⟩, c3⟩, c4⟩ := hc
    exact (((CB.int1 (cnt64 c1)).append (CB.int1 (sit64 c2))).append (CB.ints fun n hn => cnt64 (c3 n hn))).append (CB.int1 (cnt64 c4))
  · replace hc : (decide (MayPt a12)) = true := hc
    simp only [Bool.and_eq_true, decide_eq_true_eq] at hc
    have c1 := hc
    exact CB.pt c1 hb
  · replace hc : (decide (sit a13) && decide (sit a14) && decide (cnt a15)) = true := hc
    simp only [Bool.and_eq_true, decide_eq_true_eq] at hc
    obtain ⟨⟨c1, c2⟩, c3⟩ := hc
    exact CB.int2 (sit64 c1) (sit64 c2)
  · replace hc : (decide (sit a13) && decide (sit a14) && decide (cnt a15)) = true := hc
    simp only [Bool.and_eq_true, decide_eq_true_eq] at hc
    obtain ⟨⟨c1, c2⟩, c3⟩ := hc
    exact CB.int1 (sit64 c1)
  · replace hc : (decide (sit a13) && decide (sit a14) && decide (cnt a15)) = true := hc
    simp only [Bool.and_eq_true, decide_eq_true_eq] at hc
    obtain ⟨⟨c1, c2⟩, c3⟩ := hc
    exact (CB.int1 (sit64 c1)).append (CB.int1 (cnt64 c3))

section
variable {N : Nat}
theorem recordApart_F {x y : GEntry} (hN : x.Ops.length + y.Ops.length + 60 ≤ N) (hx : x.Ops.length ≤ 9223372036854775807) (hy : y.Ops.length ≤ 9223372036854775807) (bx : byt x.Part.Data) (by_ : byt y.Part.Data) : Flaw04_RecordApart N x y = some true := by
  unfold Flaw04_RecordApart
  rw [begun_eq (by omega), Option.bind_some]
  simp only [Bool.not_true, cond_false]
  have key : ∀ {e : GEntry}, e.Ops.length + 60 ≤ N → e.Ops.length ≤ 9223372036854775807 → byt e.Part.Data → ∀ {m : Bool}, Fref04_MayEntry N e = some m → ∀ {l : List Int} {c : Int}, Frecord_Entry N e = some (l, c) → (c == 0 || c == 3) = m ∧ (c = 0 → MayEn e ∧ l = enB e) := by
    intro e h1 h2 h3 m hm l c hc
    rcases refMayEntry_eq (N := N) (by omega) h2 h3 with ⟨p, q⟩ | ⟨p, q⟩
    · rw [hm] at q
      have : m = true := Option.some.inj q
      subst this
      rcases entry_eq (N := N) (by omega) h2 h3 with ⟨_, _, r⟩ | ⟨_, _, r⟩ | ⟨r, _⟩
      · rw [hc] at r
        have := Option.some.inj r
        obtain ⟨rfl, rfl⟩ := Prod.mk.inj this
        exact ⟨rfl, fun _ => ⟨p, rfl⟩⟩
      · rw [hc] at r
        have := Option.some.inj r
        obtain ⟨rfl, rfl⟩ := Prod.mk.inj this
        exact ⟨rfl, fun h => by cases h⟩
      · exact absurd p r
    · rw [hm] at q
      have : m = false := Option.some.inj q
      subst this
      rcases entry_eq (N := N) (by omega) h2 h3 with ⟨r, _⟩ | ⟨r, _⟩ | ⟨_, r⟩
      · exact absurd r p
      · exact absurd r p
      · rw [hc] at r
        have := Option.some.inj r
        obtain ⟨rfl, rfl⟩ := Prod.mk.inj this
        exact ⟨rfl, fun h => by cases h⟩
  have some_of : ∀ e : GEntry, e.Ops.length + 60 ≤ N → e.Ops.length ≤ 9223372036854775807 → byt e.Part.Data → (∃ m, Fref04_MayEntry N e = some m) ∧ ∃ r, Frecord_Entry N e = some r := by
    intro e h1 h2 h3
    refine ⟨?_, ?_⟩
    · rcases refMayEntry_eq (N := N) (by omega) h2 h3 with ⟨_, q⟩ | ⟨_, q⟩ <;> exact ⟨_, q⟩
    · rcases entry_eq (N := N) (by omega) h2 h3 with ⟨_, _, r⟩ | ⟨_, _, r⟩ | ⟨_, r⟩ <;> exact ⟨_, r⟩
  obtain ⟨⟨mx, hmx⟩, ⟨lx, cx⟩, hex⟩ := some_of x (by omega) hx bx
  obtain ⟨⟨my, hmy⟩, ⟨ly, cy⟩, hey⟩ := some_of y (by omega) hy by_
  obtain ⟨kx, gx⟩ := key (by omega) hx bx hmx hex
  obtain ⟨ky, gy⟩ := key (by omega) hy by_ hmy hey
  rw [hex, hey, hmx, hmy]
  simp only [Option.bind_some, bif_some]
  by_cases h0 : cx = 0 ∧ cy = 0
  · obtain ⟨rfl, rfl⟩ := h0
    obtain ⟨px, rfl⟩ := gx rfl
    obtain ⟨py, rfl⟩ := gy rfl
    simp only [beq_self_eq_true, Bool.not_true, Bool.or_self, cond_false]
    rw [refSameEntry_eq (by omega) (by omega), Option.bind_some, equal_eq N (a := enB x) (b := enB y) (CB.en px bx).flat (CB.en py by_).flat, Option.bind_some]
    refine congrArg some ?_
    rw [beq_iff_eq]
    refine bdec ((sameE_iff bx by_).trans ⟨fun h => by rw [h], fun h => ?_⟩)
    exact (en_inj px py (r := []) (s := []) (by rw [List.append_nil, List.append_nil]; exact h)).1
  · have hno : (!(cx == 0) || !(cy == 0)) = true := by
      by_cases h1 : cx = 0
      · have h2 : ¬ cy = 0 := fun h => h0 ⟨h1, h⟩
        simp [h2]
      · simp [h1]
    rw [hno, kx, ky]
    cases mx <;> cases my <;> rfl
end
end Go.Proofs.Yteinehkdjkobnaa
