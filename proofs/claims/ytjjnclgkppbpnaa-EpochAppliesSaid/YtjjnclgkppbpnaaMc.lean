/-
Which epoch follows which; the laws of epochs that follow.
-/
import Derived.Test.YtjjnclgkppbpnaaMb
set_option linter.unusedVariables false
set_option linter.unusedSimpArgs false
namespace Go.Proofs.Ytjjnclgkppbpnaa
open Go Go.Ev

def eqE (a b : GEpoch) : Bool := (a.Number == b.Number) && ((vbeq beq3 a.States b.States) && ((vbeq beq2 a.Seals b.Seals) && (vbeq beq3 a.Sponsor b.Sponsor)))
theorem eqE_iff (a b : GEpoch) : eqE a b = true ↔ a = b := by
  unfold eqE
  simp only [Bool.and_eq_true, beq_iff_eq, vbeq_iff beq3_iff, vbeq_iff beq2_iff]
  cases a; cases b; simp

/-- What each of the three entries of site i makes of a: is it b? -/
def kinds3 (k : Nat) : Int := (k : Int) + 6
def spon3 (b : GEpoch) (i k : Nat) : Int := if k = 0 then spo b i else 0
def leng3 (b : GEpoch) (i k : Nat) : Int := if k = 2 then sea b i else 0
def ent3 (b : GEpoch) (i k : Nat) : GEntry :=
  ⟨(k : Int) + 6, 0, 0, (⟨(⟨0, 0⟩ : GStamp), 0, 0, 0, [], [], []⟩ : GOp), 0, 0, [], z0, 0, Vector.replicate 8 (default : Int), 0, (⟨0, 0, 0, []⟩ : GPart), i, spon3 b i k, leng3 b i k⟩
def hit (a b : GEpoch) (i k : Nat) : Bool := ((app a (ent3 b i k)).2 == 0) && eqE (app a (ent3 b i k)).1 b
def hits (a b : GEpoch) (i : Nat) : Bool := (List.range 3).any (hit a b i)
def fol (a b : GEpoch) : Bool := (List.range 8).any (hits a b)

theorem arr3 (b : GEpoch) {i k : Nat} (hk : k < 3) :
    vget (vset (vset (vset (Vector.replicate 3 (default : GEntry)) 0 (⟨6, 0, 0, (⟨(⟨0, 0⟩ : GStamp), 0, 0, 0, [], [], []⟩ : GOp), 0, 0, [], z0, 0, Vector.replicate 8 (default : Int), 0, (⟨0, 0, 0, []⟩ : GPart), i, spo b i, 0⟩ : GEntry)) 1
      (⟨7, 0, 0, (⟨(⟨0, 0⟩ : GStamp), 0, 0, 0, [], [], []⟩ : GOp), 0, 0, [], z0, 0, Vector.replicate 8 (default : Int), 0, (⟨0, 0, 0, []⟩ : GPart), i, 0, 0⟩ : GEntry)) 2
      (⟨8, 0, 0, (⟨(⟨0, 0⟩ : GStamp), 0, 0, 0, [], [], []⟩ : GOp), 0, 0, [], z0, 0, Vector.replicate 8 (default : Int), 0, (⟨0, 0, 0, []⟩ : GPart), i, 0, sea b i⟩ : GEntry)) k default = ent3 b i k := by
  have : k = 0 ∨ k = 1 ∨ k = 2 := by omega
  rcases this with rfl | rfl | rfl <;> rfl
theorem lst3 (b : GEpoch) {i k : Nat} (hk : k < 3) :
    lget [(⟨6, 0, 0, (⟨(⟨0, 0⟩ : GStamp), 0, 0, 0, [], [], []⟩ : GOp), 0, 0, [], z0, 0, Vector.replicate 8 (default : Int), 0, (⟨0, 0, 0, []⟩ : GPart), i, spo b i, 0⟩ : GEntry),
      (⟨7, 0, 0, (⟨(⟨0, 0⟩ : GStamp), 0, 0, 0, [], [], []⟩ : GOp), 0, 0, [], z0, 0, Vector.replicate 8 (default : Int), 0, (⟨0, 0, 0, []⟩ : GPart), i, 0, 0⟩ : GEntry),
      (⟨8, 0, 0, (⟨(⟨0, 0⟩ : GStamp), 0, 0, 0, [], [], []⟩ : GOp), 0, 0, [], z0, 0, Vector.replicate 8 (default : Int), 0, (⟨0, 0, 0, []⟩ : GPart), i, 0, sea b i⟩ : GEntry)] (k : Int) default = ent3 b i k := by
  have : k = 0 ∨ k = 1 ∨ k = 2 := by omega
  rcases this with rfl | rfl | rfl <;> rfl

theorem lt3 {k : Nat} (h : k < 3) : decide ((k : Int) < 3) = true := by simp; omega

theorem F10_eq {N : Nat} (hN : 8 < N) (a b : GEpoch) : F10 N a b = some (fol a b) := by
  unfold F10
  rw [show (⟨0⟩ : S10x2) = (fun k : Nat => (⟨(k : Int)⟩ : S10x2)) 0 from rfl]
  rw [iter_path (fun k : Nat => (⟨(k : Int)⟩ : S10x2)) 8 (fun k => if hits a b k then some (some true) else none) (some false) ?_ ?_ N hN]
  · rw [any_find]; unfold fol; split <;> simp_all
  · intro i next hi
    simp only [natCast_lt8 hi, ibB_of (show (0 : Int) ≤ i by omega) (show (i : Int) < 8 by omega), cond_true]
    rw [show (⟨0⟩ : S10x5) = (fun k : Nat => (⟨(k : Int)⟩ : S10x5)) 0 from rfl]
    rw [iter_path (fun k : Nat => (⟨(k : Int)⟩ : S10x5)) 3 (fun k => if hit a b i k then some (some true) else none) (next ⟨((i + 1 : Nat) : Int)⟩) ?_ ?_ N (by omega)]
    · rw [any_find]; unfold hits; split <;> simp_all
    · intro k next4 hk
      simp only [lt3 hk, ibB_of (show (0 : Int) ≤ k by omega) (show (k : Int) < 3 by omega), cond_true]
      simp only [F12_eq hN, Option.bind_some, Int.toNat_natCast]
      have e := arr3 b (i := i) hk
      simp only [z0] at e
      simp only [spE, seE, e]
      rw [wrap64 (by omega) (by omega)]
      show (bif hit a b i k then some true else next4 ⟨(k : Int) + 1⟩) = _
      cases hit a b i k <;> rfl
    · intro next4
      simp only [show decide (((3 : Nat) : Int) < 3) = false from rfl, cond_false]
      rw [wrap64 (by omega) (by omega)]; rfl
  · intro next; rfl

theorem F11_eq {N : Nat} (hN : 8 < N) (a b : GEpoch) : F11 N a b = some (fol a b) := by
  unfold F11
  rw [show (⟨0⟩ : S11x2) = (fun k : Nat => (⟨(k : Int)⟩ : S11x2)) 0 from rfl]
  rw [iter_path (fun k : Nat => (⟨(k : Int)⟩ : S11x2)) 8 (fun k => if hits a b k then some (some true) else none) (some false) ?_ ?_ N hN]
  · rw [any_find]; unfold fol; split <;> simp_all
  · intro i next hi
    simp only [natCast_lt8 hi, ibB_of (show (0 : Int) ≤ i by omega) (show (i : Int) < 8 by omega), cond_true]
    rw [show (⟨0⟩ : S11x6) = (fun k : Nat => (⟨(k : Int)⟩ : S11x6)) 0 from rfl]
    rw [iter_path (fun k : Nat => (⟨(k : Int)⟩ : S11x6)) 3 (fun k => if hit a b i k then some (some true) else none) (next ⟨((i + 1 : Nat) : Int)⟩) ?_ ?_ N (by omega)]
    · rw [any_find]; unfold hits; split <;> simp_all
    · intro k next4 hk
      simp only [List.length_cons, List.length_nil]
      simp only [lt3 hk, ibB_of (show (0 : Int) ≤ k by omega) (show (k : Int) < ((0 + 1 + 1 + 1 : Nat) : Int) by omega), cond_true]
      simp only [F14_eq hN, Option.bind_some, Int.toNat_natCast]
      have e := lst3 b (i := i) hk
      simp only [z0] at e
      simp only [spE, seE, e]
      rw [wrap64 (by omega) (by omega)]
      show (bif hit a b i k then some true else next4 ⟨(k : Int) + 1⟩) = _
      cases hit a b i k <;> rfl
    · intro next4
      simp only [show decide (((3 : Nat) : Int) < 3) = false from rfl, cond_false]
      rw [wrap64 (by omega) (by omega)]; rfl
  · intro next; rfl

theorem live_true : F9 100 = some true := by kernel_rfl

theorem follows_law (a b : GEpoch) : F3 100 a b = some true := by
  unfold F3
  simp only [live_true, F10_eq (show 8 < 100 by omega), F11_eq (show 8 < 100 by omega), Option.bind_some, cond_true, beq_self_eq_true, Bool.and_true]

theorem chk_iff (e : GEpoch) : chk e = true ↔ 0 ≤ e.Number ∧ e.Number < 1024 ∧ (∀ j, j < 8 → okP e j) ∧ ∃ j, j < 8 ∧ sta e j = 1 := by
  unfold chk mem1 okS
  simp only [Bool.and_eq_true, decide_eq_true_eq, List.all_eq_true, List.any_eq_true, List.mem_range, beq_iff_eq, and_assoc]

theorem sta_set (e : GEpoch) (n : Int) (s : Nat) (v : Int) (se : Vector Int 8) (sp : Vector Int 8) {j : Nat} (hj : j < 8) : sta ⟨n, vset e.States s v, se, sp⟩ j = if s = j then v else sta e j := vget_set _ _ _ hj

theorem app_same (a : GEpoch) {x y : GEntry} (h1 : x.Kind = y.Kind) (h2 : x.Site = y.Site) (h3 : x.Kind = 6 → x.Sponsor = y.Sponsor) (h4 : x.Kind = 8 → x.Length = y.Length) : app a x = app a y := by
  unfold app app'
  rw [← h1, ← h2]
  split
  · rfl
  rename_i hk
  split
  · rfl
  split
  · rename_i h6; rw [h3 h6]
  split
  · rfl
  split
  · rfl
  rw [h4 (by omega)]

theorem z0_sta (j : Nat) (hj : j < 8) : sta z0 j = 0 := vget_replicate _ _ hj

/-- All that is known of what an entry makes. -/
theorem app_ok {e : GEpoch} {x : GEntry} {b : GEpoch} (h : app e x = (b, 0)) :
    ∃ s k : Nat, s < 8 ∧ k < 3 ∧ x.Site = s ∧ x.Kind = (k : Int) + 6 ∧ chk e = true ∧ b.Number = e.Number + 1 ∧ e.Number < 1023 ∧ chk b = true ∧ sta b s ≠ sta e s ∧
      (∀ j, j < 8 → j ≠ s → sta b j = sta e j ∧ sea b j = sea e j ∧ spo b j = spo e j) ∧ (k = 0 → spo b s = x.Sponsor) ∧ (k = 2 → sea b s = x.Length) := by
  unfold app app' at h
  by_cases hk : chk e = false ∨ (x.Kind ≠ 6 ∧ x.Kind ≠ 7 ∧ x.Kind ≠ 8) ∨ ¬ (0 ≤ x.Site ∧ x.Site < 8)
  · rw [if_pos hk] at h; simp at h
  rw [if_neg hk] at h
  obtain ⟨s, hs⟩ : ∃ s : Nat, x.Site = s := ⟨x.Site.toNat, by omega⟩
  have hc : chk e = true := by
    cases hc : chk e
    · exact absurd (.inl hc) hk
    · rfl
  have hsl : s < 8 := by omega
  have hok := (chk_iff e).1 hc
  obtain ⟨c1, c2, c3, j0, c4, c5⟩ := hok
  by_cases hn : 1023 ≤ e.Number
  · rw [if_pos hn] at h; simp at h
  rw [if_neg hn] at h
  rw [hs, Int.toNat_natCast] at h
  have hp := c3 s hsl
  unfold okP at hp
  by_cases h6 : x.Kind = 6
  · rw [if_pos h6] at h
    split at h
    · simp at h
    rename_i q1
    split at h
    · simp at h
    rename_i q2
    split at h
    · simp at h
    rename_i q3
    have hb := (Prod.mk.inj h).1
    subst hb
    obtain ⟨t, ht⟩ : ∃ t : Nat, x.Sponsor = t := ⟨x.Sponsor.toNat, by omega⟩
    rw [ht, Int.toNat_natCast] at q3
    have hts : t ≠ s := fun hts => by subst hts; omega
    have e1 : ∀ j, j < 8 → sta ⟨e.Number + 1, vset e.States s 1, e.Seals, vset e.Sponsor s x.Sponsor⟩ j = if s = j then 1 else sta e j := fun j hj => vget_set _ _ _ hj
    have e2 : ∀ j, sea ⟨e.Number + 1, vset e.States s 1, e.Seals, vset e.Sponsor s x.Sponsor⟩ j = sea e j := fun j => rfl
    have e3 : ∀ j, j < 8 → spo ⟨e.Number + 1, vset e.States s 1, e.Seals, vset e.Sponsor s x.Sponsor⟩ j = if s = j then x.Sponsor else spo e j := fun j hj => vget_set _ _ _ hj
    refine ⟨s, 0, hsl, by omega, hs, by omega, hc, rfl, by omega, (chk_iff _).2 ⟨by show 0 ≤ e.Number + 1; omega, by show e.Number + 1 < 1024; omega, fun j hj => ?_, s, hsl, by rw [e1 s hsl, if_pos rfl]⟩, ?_, fun j hj hne => ?_, fun _ => ?_, fun h => by omega⟩
    · unfold okP
      rw [e1 j hj, e2, e3 j hj]
      by_cases hj' : s = j
      · subst hj'; rw [if_pos rfl, if_pos rfl]; omega
      · rw [if_neg hj', if_neg hj']; exact c3 j hj
    · rw [e1 s hsl, if_pos rfl]; omega
    · rw [e1 j hj, e2, e3 j hj, if_neg (Ne.symm hne), if_neg (Ne.symm hne)]; exact ⟨rfl, rfl, rfl⟩
    · rw [e3 s hsl, if_pos rfl]
  rw [if_neg h6] at h
  by_cases h7 : x.Kind = 7
  · rw [if_pos h7] at h
    split at h
    · simp at h
    rename_i q1
    split at h
    · simp at h
    rename_i q2
    have hb := (Prod.mk.inj h).1
    subst hb
    have e1 : ∀ j, j < 8 → sta ⟨e.Number + 1, vset e.States s 2, e.Seals, e.Sponsor⟩ j = if s = j then 2 else sta e j := fun j hj => vget_set _ _ _ hj
    have e2 : ∀ j, sea ⟨e.Number + 1, vset e.States s 2, e.Seals, e.Sponsor⟩ j = sea e j := fun j => rfl
    have e3 : ∀ j, spo ⟨e.Number + 1, vset e.States s 2, e.Seals, e.Sponsor⟩ j = spo e j := fun j => rfl
    obtain ⟨j1, g1, g2, g3⟩ : ∃ j, j < 8 ∧ j ≠ s ∧ sta e j = 1 := by
      simp only [lone, List.all_eq_true, List.mem_range, mem1] at q2
      apply Classical.byContradiction
      intro hno
      refine q2 fun j hj => ?_
      cases hq : (j == s)
      · cases hq2 : (sta e j == 1)
        · rfl
        · exact absurd ⟨j, hj, by simpa using hq, by simpa using hq2⟩ hno
      · rfl
    refine ⟨s, 1, hsl, by omega, hs, by omega, hc, rfl, by omega, (chk_iff _).2 ⟨by show 0 ≤ e.Number + 1; omega, by show e.Number + 1 < 1024; omega, fun j hj => ?_, j1, g1, by rw [e1 j1 g1, if_neg (Ne.symm g2)]; exact g3⟩, ?_, fun j hj hne => ?_, fun h => by omega, fun h => by omega⟩
    · unfold okP
      rw [e1 j hj, e2, e3]
      by_cases hj' : s = j
      · subst hj'; rw [if_pos rfl]; omega
      · rw [if_neg hj']; exact c3 j hj
    · rw [e1 s hsl, if_pos rfl]; omega
    · rw [e1 j hj, e2, e3, if_neg (Ne.symm hne)]; exact ⟨rfl, rfl, rfl⟩
  rw [if_neg h7] at h
  split at h
  · simp at h
  rename_i q1
  split at h
  · simp at h
  rename_i q2
  have hb := (Prod.mk.inj h).1
  subst hb
  have e1 : ∀ j, j < 8 → sta ⟨e.Number + 1, vset e.States s 3, vset e.Seals s x.Length, e.Sponsor⟩ j = if s = j then 3 else sta e j := fun j hj => vget_set _ _ _ hj
  have e2 : ∀ j, j < 8 → sea ⟨e.Number + 1, vset e.States s 3, vset e.Seals s x.Length, e.Sponsor⟩ j = if s = j then x.Length else sea e j := fun j hj => vget_set _ _ _ hj
  have e3 : ∀ j, spo ⟨e.Number + 1, vset e.States s 3, vset e.Seals s x.Length, e.Sponsor⟩ j = spo e j := fun j => rfl
  have hjs : j0 ≠ s := fun hjs => by subst hjs; omega
  refine ⟨s, 2, hsl, by omega, hs, by omega, hc, rfl, by omega, (chk_iff _).2 ⟨by show 0 ≤ e.Number + 1; omega, by show e.Number + 1 < 1024; omega, fun j hj => ?_, j0, c4, by rw [e1 j0 c4, if_neg (Ne.symm hjs)]; exact c5⟩, ?_, fun j hj hne => ?_, fun h => by omega, fun _ => ?_⟩
  · unfold okP
    rw [e1 j hj, e2 j hj, e3]
    by_cases hj' : s = j
    · subst hj'; rw [if_pos rfl, if_pos rfl]; omega
    · rw [if_neg hj', if_neg hj']; exact c3 j hj
  · rw [e1 s hsl, if_pos rfl]; omega
  · rw [e1 j hj, e2 j hj, e3, if_neg (Ne.symm hne), if_neg (Ne.symm hne)]; exact ⟨rfl, rfl, rfl⟩
  · rw [e2 s hsl, if_pos rfl]

theorem app_err (e : GEpoch) (x : GEntry) : (app e x).2 ≠ 0 → (app e x).1 = z0 := by
  unfold app app'
  repeat' split
  all_goals first
    | (intro _; rfl)
    | (intro h; exact absurd rfl h)

theorem hit_num {a b : GEpoch} {i k : Nat} (h : hit a b i k = true) : b.Number = a.Number + 1 := by
  simp only [hit, Bool.and_eq_true, beq_iff_eq, eqE_iff] at h
  obtain ⟨s, k', _, _, _, _, _, h1, _⟩ := app_ok (e := a) (x := ent3 b i k) (b := b) (Prod.ext h.2 h.1)
  exact h1
theorem fol_num {a b : GEpoch} (h : fol a b = true) : b.Number = a.Number + 1 := by
  simp only [fol, hits, List.any_eq_true] at h
  obtain ⟨i, _, k, _, h⟩ := h
  exact hit_num h
theorem not_fol {a b : GEpoch} (h : b.Number ≠ a.Number + 1) : fol a b = false := by
  cases hf : fol a b
  · rfl
  · exact absurd (fol_num hf) h
theorem app_fol {e b : GEpoch} {x : GEntry} (h : app e x = (b, 0)) : fol e b = true := by
  obtain ⟨s, k, hs, hk, g1, g2, _, _, _, _, _, _, g3, g4⟩ := app_ok h
  have e1 : app e (ent3 b s k) = (b, 0) := by
    rw [← h]
    refine app_same e g2.symm g1.symm (fun h6 => ?_) (fun h8 => ?_)
    · have : k = 0 := by have : (k : Int) + 6 = 6 := h6; omega
      subst this; exact g3 rfl
    · have : k = 2 := by have : (k : Int) + 6 = 8 := h8; omega
      subst this; exact g4 rfl
  simp only [fol, hits, List.any_eq_true, List.mem_range]
  refine ⟨s, hs, k, hk, ?_⟩
  simp only [hit, e1, Bool.and_eq_true, beq_iff_eq, eqE_iff, and_self]

theorem countP_upto {p : Nat → Bool} {s : Nat} : ∀ {n : Nat}, (∀ j, j < n → (p j = true ↔ j = s)) → (List.range n).countP p = if s < n then 1 else 0
  | 0, _ => rfl
  | n + 1, h => by
    rw [countP_succ, countP_upto fun j hj => h j (by omega)]
    by_cases hn : n = s
    · rw [(h n (by omega)).2 hn, if_neg (by omega), if_pos rfl, if_pos (by omega)]
    · have : p n = false := by
        cases hp : p n
        · rfl
        · exact absurd ((h n (by omega)).1 hp) hn
      rw [this]
      by_cases hs : s < n
      · rw [if_pos hs, if_pos (show s < n + 1 by omega)]; rfl
      · rw [if_neg hs, if_neg (show ¬ s < n + 1 by omega)]; rfl
theorem countP_one {p : Nat → Bool} {s n : Nat} (hs : s < n) (h : ∀ j, j < n → (p j = true ↔ j = s)) : (List.range n).countP p = 1 := by
  rw [countP_upto h, if_pos hs]

theorem one_law (e : GEpoch) (x : GEntry) : F4 100 e x = some true := by
  unfold F4
  simp only [live_true, F12_eq (show 8 < 100 by omega), F10_eq (show 8 < 100 by omega), F13_eq (show 8 < 100 by omega), Option.bind_some]
  by_cases h0 : (app e x).2 = 0
  · obtain ⟨b, hb⟩ : ∃ b, app e x = (b, 0) := ⟨_, Prod.ext rfl h0⟩
    rw [hb]
    obtain ⟨s, k, hs, hk, g1, g2, gc, gn, gl, gb, gh, go, g3, g4⟩ := app_ok hb
    simp only [beq_self_eq_true, Bool.not_true, Bool.not_false, cond_true, Bool.false_or, Option.bind_some, cond_false]
    obtain ⟨p, hp⟩ : ∃ p : Nat → Bool, p = fun j => ((!(sta e j == sta b j)) || (!(sea e j == sea b j))) || (!(spo e j == spo b j)) := ⟨_, rfl⟩
    have hpj : ∀ j, j < 8 → (p j = true ↔ j = s) := fun j hj => by
      rw [hp]
      by_cases hj' : j = s
      · subst hj'
        simp only [Bool.or_eq_true, Bool.not_eq_true', beq_eq_false_iff_ne, iff_true]
        exact .inl (.inl (Ne.symm gh))
      · obtain ⟨q1, q2, q3⟩ := go j hj hj'
        simp only [q1, q2, q3, beq_self_eq_true]
        simpa using hj'
    rw [show (⟨0, 0⟩ : S4x6) = (fun k : Nat => (⟨(((List.range k).countP p : Nat) : Int), (k : Int)⟩ : S4x6)) 0 from rfl]
    rw [iter_path (fun k : Nat => (⟨(((List.range k).countP p : Nat) : Int), (k : Int)⟩ : S4x6)) 8 (fun _ => none) (some true) ?_ ?_ 100 (by omega)]
    · exact none_find _
    · intro j next hj
      have hc := countP_le p j
      simp only [natCast_lt8 hj, ibB_of (show (0 : Int) ≤ j by omega) (show (j : Int) < 8 by omega), cond_true, Bool.or_true]
      simp only [Int.toNat_natCast, stE, seE, spE]
      rw [show ((((!(sta e j == sta b j)) || (!(sea e j == sea b j))) || (!(spo e j == spo b j)))) = p j by rw [hp], countP_succ]
      cases h : p j
      · rw [cond_false, wrap64 (by omega) (by omega)]; rfl
      · have : j = s := (hpj j hj).1 h
        subst this
        rw [cond_true, g1, show (!((j : Int) == (j : Int))) = false by simp, cond_false, wrap64 (by omega) (by omega), wrap64 (by omega) (by omega)]; rfl
    · intro next
      have hN := chk_num gc
      simp only [show decide (((8 : Nat) : Int) < 8) = false from rfl, cond_false, countP_one hs hpj]
      rw [wrap64 (by omega) (by omega), gn, app_fol hb, not_fol (a := b) (b := e) (by omega), not_fol (a := e) (b := e) (by omega), gb]
      simp
  · have hz := app_err e x h0
    rw [show (!((app e x).2 == 0)) = true by simpa using h0]
    simp only [Bool.not_true, cond_false, cond_true, Bool.true_or, Option.bind_some, hz]
    have : eqE z0 z0 = true := (eqE_iff _ _).2 rfl
    exact congrArg some this
end Go.Proofs.Ytjjnclgkppbpnaa
