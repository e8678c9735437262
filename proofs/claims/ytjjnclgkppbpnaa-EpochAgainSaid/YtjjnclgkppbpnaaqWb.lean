/-
Plain laws of wire, turned to this seat by wip/tools/ren.py.
-/
import Derived.Test.YtjjnclgkppbpnaaqFb
import Derived.Test.YtjjnclgkppbpnaaqTvT
set_option linter.unusedVariables false
set_option linter.unusedSimpArgs false
namespace Go.Proofs.Ytjjnclgkppbpnaa
open Go Go.Ev
theorem beq2_iff (x y : Int) : beq2 x y = true ↔ x = y := by simp [beq2]
theorem beq3_iff (x y : Int) : beq3 x y = true ↔ x = y := by simp [beq3]
def sta (e : GEpoch) (i : Nat) : Int := vget e.States i default
def sea (e : GEpoch) (i : Nat) : Int := vget e.Seals i default
def spo (e : GEpoch) (i : Nat) : Int := vget e.Sponsor i default
theorem stE (e : GEpoch) (i : Nat) : vget e.States i default = sta e i := rfl
theorem seE (e : GEpoch) (i : Nat) : vget e.Seals i default = sea e i := rfl
theorem spE (e : GEpoch) (i : Nat) : vget e.Sponsor i default = spo e i := rfl
def okP (e : GEpoch) (i : Nat) : Prop :=
  0 ≤ sta e i ∧ sta e i ≤ 3 ∧ 0 ≤ sea e i ∧ sea e i ≤ 1099511627776 ∧ (sta e i = 3 ∨ sea e i = 0) ∧ ((sta e i = 0 ∧ spo e i = -1) ∨ (sta e i ≠ 0 ∧ -1 ≤ spo e i ∧ spo e i < 8 ∧ spo e i ≠ i))
instance (e : GEpoch) (i : Nat) : Decidable (okP e i) := by unfold okP; exact inferInstance
def okS (e : GEpoch) (i : Nat) : Bool := decide (okP e i)
theorem okS_t {e : GEpoch} {i : Nat} (h : okP e i) : okS e i = true := by simpa [okS] using h
theorem okS_f {e : GEpoch} {i : Nat} (h : ¬ okP e i) : okS e i = false := by simpa [okS] using h
def mem1 (e : GEpoch) (i : Nat) : Bool := sta e i == 1
def chk (e : GEpoch) : Bool := decide (0 ≤ e.Number) && decide (e.Number < 1024) && (List.range 8).all (okS e) && (List.range 8).any (mem1 e)
theorem all_find {n : Nat} {p : Nat → Bool} {α : Type} (r last : Option α) :
    ((List.range n).findSome? (fun k => if p k then none else some r)).getD last = if (List.range n).all p then last else r := by
  induction (List.range n) with
  | nil => rfl
  | cons x l ih =>
    rw [List.findSome?_cons, List.all_cons]
    cases p x
    · simp
    · simpa using ih
theorem any_find {n : Nat} {p : Nat → Bool} {α : Type} (r last : Option α) :
    ((List.range n).findSome? (fun k => if p k then some r else none)).getD last = if (List.range n).any p then r else last := by
  induction (List.range n) with
  | nil => rfl
  | cons x l ih =>
    rw [List.findSome?_cons, List.any_cons]
    cases p x
    · simpa using ih
    · simp
theorem none_find {n : Nat} {α : Type} (last : Option α) : ((List.range n).findSome? (fun _ => (none : Option (Option α)))).getD last = last := by
  induction (List.range n) with
  | nil => rfl
  | cons x l ih => rw [List.findSome?_cons]; exact ih
theorem any_succ (p : Nat → Bool) (k : Nat) : (List.range (k + 1)).any p = ((List.range k).any p || p k) := by
  rw [List.range_succ, List.any_append]; simp
theorem natCast_lt8 {k : Nat} (h : k < 8) : decide ((k : Int) < 8) = true := by simp; omega
theorem F13_eq {N : Nat} (hN : 8 < N) (e : GEpoch) : Fepoch_Check N e = some (chk e) := by
  unfold Fepoch_Check
  by_cases hn : e.Number < 0 ∨ 1024 ≤ e.Number
  · have : (decide (e.Number < 0) || decide (1024 ≤ e.Number)) = true := by simpa using hn
    rw [this, cond_true]
    congr 1
    unfold chk
    rcases hn with h | h
    · simp [show ¬ 0 ≤ e.Number by omega]
    · simp [show ¬ e.Number < 1024 by omega]
  · have : (decide (e.Number < 0) || decide (1024 ≤ e.Number)) = false := by simp at hn ⊢; omega
    rw [this, cond_false]
    rw [show (⟨false, 0⟩ : Sepoch_Checkx5) = (fun k : Nat => (⟨(List.range k).any (mem1 e), (k : Int)⟩ : Sepoch_Checkx5)) 0 from rfl]
    rw [iter_path (fun k : Nat => (⟨(List.range k).any (mem1 e), (k : Int)⟩ : Sepoch_Checkx5)) 8 (fun k => if okS e k then none else some (some false)) (some ((List.range 8).any (mem1 e))) ?_ ?_ N hN]
    · rw [all_find]
      unfold chk
      rw [show decide (0 ≤ e.Number) = true by simp; omega, show decide (e.Number < 1024) = true by simp; omega]
      cases (List.range 8).all (okS e) <;> rfl
    · intro k next hk
      simp only [natCast_lt8 hk, ibB_of (show (0 : Int) ≤ k by omega) (show (k : Int) < 8 by omega), cond_true, any_succ]
      rw [wrap64 (by omega) (by omega)]
      simp only [dec_lt, dec_le]
      simp only [Int.toNat_natCast, stE, seE, spE]
      simp only [Bool.cond_eq_ite, Bool.or_eq_true, Bool.and_eq_true, Bool.not_eq_true', Bool.or_eq_false_iff, decide_eq_true_eq, decide_eq_false_iff_not, beq_iff_eq, beq_eq_false_iff_ne, ltB_t, leB_t]
      by_cases h : okP e k
      · simp only [okS_t h, if_true]
        unfold okP at h
        rw [if_neg (by omega), if_neg (by omega), if_neg (by omega)]
        rfl
      · simp only [okS_f h, Bool.false_eq_true, if_false]
        unfold okP at h
        split
        · rfl
        · split
          · rfl
          · rw [if_pos (by omega)]
    · intro next
      rfl
theorem F32_eq (N : Nat) (n : Int) : Fepoch_site N n = some (decide (0 ≤ n) && decide (n < 8)) := rfl
def z0 : GEpoch := ⟨0, Vector.replicate 8 (default : Int), Vector.replicate 8 (default : Int), Vector.replicate 8 (default : Int)⟩
def lone (e : GEpoch) (s : Nat) : Bool := (List.range 8).all fun j => j == s || !(mem1 e j)
theorem lone_cnt (b : Nat → Bool) {s : Nat} (hs : s < 8) (hb : b s = true) : (((List.range 8).countP b : Nat) : Int) < 2 ↔ (List.range 8).all (fun j => j == s || !(b j)) = true := by
  have key : ∀ b : Nat → Bool, ∀ s, s < 8 → b s = true → (decide (((List.range 8).countP b) < 2) = (List.range 8).all (fun j => j == s || !(b j))) := by
    intro b s hs hb
    rw [show List.range 8 = [0, 1, 2, 3, 4, 5, 6, 7] from rfl]
    simp only [List.countP_cons, List.countP_nil, List.all_cons, List.all_nil]
    have : s = 0 ∨ s = 1 ∨ s = 2 ∨ s = 3 ∨ s = 4 ∨ s = 5 ∨ s = 6 ∨ s = 7 := by omega
    rcases this with rfl | rfl | rfl | rfl | rfl | rfl | rfl | rfl <;>
      (rw [hb]
       generalize b 0 = b0 at *; generalize b 1 = b1 at *; generalize b 2 = b2 at *; generalize b 3 = b3 at *
       generalize b 4 = b4 at *; generalize b 5 = b5 at *; generalize b 6 = b6 at *; generalize b 7 = b7 at *
       clear hb hs b
       revert b0 b1 b2 b3 b4 b5 b6 b7; decide)
  rw [← key b s hs hb]; simp; omega
theorem countP_succ (p : Nat → Bool) (k : Nat) : (List.range (k + 1)).countP p = (List.range k).countP p + (if p k then 1 else 0) := by
  rw [List.range_succ, List.countP_append]; simp [List.countP_cons]
theorem countP_le (p : Nat → Bool) (k : Nat) : (List.range k).countP p ≤ k := by
  have := List.countP_le_length (p := p) (l := List.range k); simpa using this
theorem F33_eq {N : Nat} (hN : 8 < N) (e : GEpoch) : Fepoch_writers N e = some (((List.range 8).countP (mem1 e) : Nat) : Int) := by
  unfold Fepoch_writers
  rw [show (⟨0, 0⟩ : Sepoch_writersx3) = (fun k : Nat => (⟨(((List.range k).countP (mem1 e) : Nat) : Int), (k : Int)⟩ : Sepoch_writersx3)) 0 from rfl]
  rw [iter_path (fun k : Nat => (⟨(((List.range k).countP (mem1 e) : Nat) : Int), (k : Int)⟩ : Sepoch_writersx3)) 8 (fun _ => none) (some (((List.range 8).countP (mem1 e) : Nat) : Int)) ?_ ?_ N hN]
  · exact none_find _
  · intro k next hk
    have hc := countP_le (mem1 e) k
    simp only [natCast_lt8 hk, ibB_of (show (0 : Int) ≤ k by omega) (show (k : Int) < 8 by omega), cond_true]
    simp only [Int.toNat_natCast, stE]
    rw [countP_succ]
    cases h : mem1 e k
    · rw [show (sta e k == 1) = false from h, cond_false, wrap64 (by omega) (by omega)]; rfl
    · rw [show (sta e k == 1) = true from h, cond_true, wrap64 (by omega) (by omega), wrap64 (by omega) (by omega)]; rfl
  · intro next; rfl
def app' (e : GEpoch) (kind site sponsor length : Int) : GEpoch × Int :=
  if chk e = false ∨ (kind ≠ 6 ∧ kind ≠ 7 ∧ kind ≠ 8) ∨ ¬ (0 ≤ site ∧ site < 8) then (z0, 1)
  else if 1023 ≤ e.Number then (z0, 3)
  else if kind = 6 then
    if sta e site.toNat ≠ 0 then (z0, 171)
    else if ¬ (0 ≤ sponsor ∧ sponsor < 8) then (z0, 1)
    else if sta e sponsor.toNat ≠ 1 then (z0, 171)
    else (⟨e.Number + 1, vset e.States site.toNat 1, e.Seals, vset e.Sponsor site.toNat sponsor⟩, 0)
  else if kind = 7 then
    if sta e site.toNat ≠ 1 then (z0, 171)
    else if lone e site.toNat = true then (z0, 170)
    else (⟨e.Number + 1, vset e.States site.toNat 2, e.Seals, e.Sponsor⟩, 0)
  else if sta e site.toNat ≠ 2 then (z0, 171)
  else if length < 0 ∨ 1099511627776 < length then (z0, 1)
  else (⟨e.Number + 1, vset e.States site.toNat 3, vset e.Seals site.toNat length, e.Sponsor⟩, 0)
def app (e : GEpoch) (x : GEntry) : GEpoch × Int := app' e x.Kind x.Site x.Sponsor x.Length
theorem chk_num {e : GEpoch} (h : chk e = true) : 0 ≤ e.Number ∧ e.Number < 1024 := by
  simp only [chk, Bool.and_eq_true, decide_eq_true_eq] at h; exact ⟨h.1.1.1, h.1.1.2⟩
theorem F12_eq {N : Nat} (hN : 8 < N) (e : GEpoch) (x : GEntry) : Fepoch_Apply N e x = some (app e x) := by
  unfold Fepoch_Apply
  simp only [F13_eq hN, F33_eq hN, F32_eq, Option.bind_some, dec_lt, dec_le, stE, seE, spE]
  unfold app app'
  cases hc : chk e
  · rfl
  obtain ⟨n0, n1⟩ := chk_num hc
  by_cases hk : x.Kind ≠ 6 ∧ x.Kind ≠ 7 ∧ x.Kind ≠ 8
  · rw [show (!true || ((!(x.Kind == 6)) && (!(x.Kind == 7))) && (!(x.Kind == 8))) = true by simp; omega, if_pos (by omega)]
    rfl
  · rw [show (!true || ((!(x.Kind == 6)) && (!(x.Kind == 7))) && (!(x.Kind == 8))) = false by simp; omega]
    simp only [Bool.not_false, cond_true, Option.bind_some, Bool.false_or]
    by_cases hs : 0 ≤ x.Site ∧ x.Site < 8
    · obtain ⟨s0, s1⟩ := hs
      rw [show (leB 0 x.Site && ltB x.Site 8) = true by simp [leB_t, ltB_t, s0, s1], if_neg (by simp; omega)]
      simp only [Bool.not_true, cond_false, ibB_of s0 s1, cond_true]
      rw [wrap64 (by omega) (by omega)]
      rw [show List.countP (mem1 ⟨e.Number + 1, e.States, e.Seals, e.Sponsor⟩) (List.range 8) = List.countP (mem1 e) (List.range 8) from rfl]
      simp only [Bool.cond_eq_ite, Bool.not_eq_true', Bool.or_eq_true, Bool.and_eq_true, Bool.and_eq_false_iff, leB_t, ltB_t, leB_f, ltB_f, beq_iff_eq, beq_eq_false_iff_ne]
      by_cases hn : 1023 ≤ e.Number
      · rw [if_pos hn, if_pos hn]; rfl
      rw [if_neg hn, if_neg hn]
      by_cases h6 : x.Kind = 6
      · rw [if_pos h6, if_pos h6]
        split
        · rfl
        by_cases hp : 0 ≤ x.Sponsor ∧ x.Sponsor < 8
        · rw [if_neg (show ¬(x.Sponsor < 0 ∨ 8 ≤ x.Sponsor) by omega), ibB_of hp.1 hp.2, if_pos rfl, if_neg (show ¬¬(0 ≤ x.Sponsor ∧ x.Sponsor < 8) by omega)]
          split
          · rfl
          · rfl
        · rw [if_pos (by omega), if_pos (by omega)]; rfl
      rw [if_neg h6, if_neg h6]
      by_cases h7 : x.Kind = 7
      · rw [if_pos h7, if_pos h7]
        by_cases h1 : sta e x.Site.toNat ≠ 1
        · rw [if_pos h1, if_pos h1]; rfl
        · rw [if_neg h1, if_neg h1]
          have := lone_cnt (mem1 e) (s := x.Site.toNat) (by omega) (by simp at h1; simp [mem1, h1])
          by_cases hl : lone e x.Site.toNat = true
          · rw [if_pos hl, if_pos (this.2 hl)]; rfl
          · rw [if_neg hl, if_neg (fun h => hl (this.1 h))]
      · rw [if_neg h7, if_neg h7]
        split
        · rfl
        · split
          · rfl
          · rfl
    · rw [show (leB 0 x.Site && ltB x.Site 8) = false by simp only [Bool.and_eq_false_iff, leB_f, ltB_f]; omega, if_pos (by omega)]
      rfl
def eqE (a b : GEpoch) : Bool := (a.Number == b.Number) && ((vbeq beq3 a.States b.States) && ((vbeq beq2 a.Seals b.Seals) && (vbeq beq3 a.Sponsor b.Sponsor)))
theorem eqE_iff (a b : GEpoch) : eqE a b = true ↔ a = b := by
  unfold eqE
  simp only [Bool.and_eq_true, beq_iff_eq, vbeq_iff beq3_iff, vbeq_iff beq2_iff]
  cases a; cases b; simp
def spon3 (b : GEpoch) (i k : Nat) : Int := if k = 0 then spo b i else 0
def leng3 (b : GEpoch) (i k : Nat) : Int := if k = 2 then sea b i else 0
def ent3 (b : GEpoch) (i k : Nat) : GEntry :=
  ⟨(k : Int) + 6, 0, 0, (⟨(⟨0, 0⟩ : GStamp), 0, 0, 0, [], [], []⟩ : GOp), 0, 0, [], z0, 0, Vector.replicate 8 (default : Int), 0, (⟨0, 0, 0, []⟩ : GPart), i, spon3 b i k, leng3 b i k⟩
def hit (a b : GEpoch) (i k : Nat) : Bool := ((app a (ent3 b i k)).2 == 0) && eqE (app a (ent3 b i k)).1 b
def hits (a b : GEpoch) (i : Nat) : Bool := (List.range 3).any (hit a b i)
def fol (a b : GEpoch) : Bool := (List.range 8).any (hits a b)
theorem arr3 (b : GEpoch) {i k : Nat} (hk : k < 3) :
    vget (vset (vset (vset (Vector.replicate 3 (default : GEntry)) 0 (⟨6, 0, 0, (⟨(⟨0, 0⟩ : GStamp), 0, 0, 0, [], [], []⟩ : GOp), 0, 0, [], z0, 0, Vector.replicate 8 (default : Int), 0, (⟨0, 0, 0, []⟩ : GPart), i, spo b i, 0⟩ : GEntry)) 1
      (⟨7, 0, 0, (⟨(⟨0, 0⟩ : GStamp), 0, 0, 0, [], [], []⟩ : GOp), 0, 0, [], z0, 0, Vector.replicate 8 (default : Int), 0, (⟨0, 0, 0, []⟩ : GPart), i, 0, 0⟩ : GEntry)) 2
      (⟨8, 0, 0, (⟨(⟨0, 0⟩ : GStamp), 0, 0, 0, [], [], []⟩ : GOp), 0, 0, [], z0, 0, Vector.replicate 8 (default : Int), 0, (⟨0, 0, 0, []⟩ : GPart), i, 0, sea b i⟩ : GEntry)) k default = ent3 b i k := by
  have : k = 0 ∨ k = 1 ∨ k = 2 := by omega
  rcases this with rfl | rfl | rfl <;> rfl
theorem lt3 {k : Nat} (h : k < 3) : decide ((k : Int) < 3) = true := by simp; omega
theorem F10_eq {N : Nat} (hN : 8 < N) (a b : GEpoch) : Fepoch_Follows N a b = some (fol a b) := by
  unfold Fepoch_Follows
  rw [show (⟨0⟩ : Sepoch_Followsx2) = (fun k : Nat => (⟨(k : Int)⟩ : Sepoch_Followsx2)) 0 from rfl]
  rw [iter_path (fun k : Nat => (⟨(k : Int)⟩ : Sepoch_Followsx2)) 8 (fun k => if hits a b k then some (some true) else none) (some false) ?_ ?_ N hN]
  · rw [any_find]; unfold fol; split <;> simp_all
  · intro i next hi
    simp only [natCast_lt8 hi, ibB_of (show (0 : Int) ≤ i by omega) (show (i : Int) < 8 by omega), cond_true]
    rw [show (⟨0⟩ : Sepoch_Followsx5) = (fun k : Nat => (⟨(k : Int)⟩ : Sepoch_Followsx5)) 0 from rfl]
    rw [iter_path (fun k : Nat => (⟨(k : Int)⟩ : Sepoch_Followsx5)) 3 (fun k => if hit a b i k then some (some true) else none) (next ⟨((i + 1 : Nat) : Int)⟩) ?_ ?_ N (by omega)]
    · rw [any_find]; unfold hits; split <;> simp_all
    · intro k next4 hk
      simp only [lt3 hk, ibB_of (show (0 : Int) ≤ k by omega) (show (k : Int) < 3 by omega), cond_true]
      simp only [F12_eq hN, Option.bind_some, Int.toNat_natCast]
      have e := arr3 b (i := i) hk
      simp only [z0] at e
      simp only [spE, seE, e]
      rw [wrap64 (by omega) (by omega)]
      show (bif hit a b i k then some true else next4 ⟨(k : Int) + 1⟩) = _
      cases hit a b i k <;> rfl
    · intro next4
      simp only [show decide (((3 : Nat) : Int) < 3) = false from rfl, cond_false]
      rw [wrap64 (by omega) (by omega)]; rfl
  · intro next; rfl
theorem chk_iff (e : GEpoch) : chk e = true ↔ 0 ≤ e.Number ∧ e.Number < 1024 ∧ (∀ j, j < 8 → okP e j) ∧ ∃ j, j < 8 ∧ sta e j = 1 := by
  unfold chk mem1 okS
  simp only [Bool.and_eq_true, decide_eq_true_eq, List.all_eq_true, List.any_eq_true, List.mem_range, beq_iff_eq, and_assoc]
theorem app_same (a : GEpoch) {x y : GEntry} (h1 : x.Kind = y.Kind) (h2 : x.Site = y.Site) (h3 : x.Kind = 6 → x.Sponsor = y.Sponsor) (h4 : x.Kind = 8 → x.Length = y.Length) : app a x = app a y := by
  unfold app app'
  rw [← h1, ← h2]
  split
  · rfl
  rename_i hk
  split
  · rfl
  split
  · rename_i h6; rw [h3 h6]
  split
  · rfl
  split
  · rfl
  rw [h4 (by omega)]
theorem app_ok {e : GEpoch} {x : GEntry} {b : GEpoch} (h : app e x = (b, 0)) :
    ∃ s k : Nat, s < 8 ∧ k < 3 ∧ x.Site = s ∧ x.Kind = (k : Int) + 6 ∧ chk e = true ∧ b.Number = e.Number + 1 ∧ e.Number < 1023 ∧ chk b = true ∧ sta b s ≠ sta e s ∧
      (∀ j, j < 8 → j ≠ s → sta b j = sta e j ∧ sea b j = sea e j ∧ spo b j = spo e j) ∧ (k = 0 → spo b s = x.Sponsor) ∧ (k = 2 → sea b s = x.Length) := by
  unfold app app' at h
  by_cases hk : chk e = false ∨ (x.Kind ≠ 6 ∧ x.Kind ≠ 7 ∧ x.Kind ≠ 8) ∨ ¬ (0 ≤ x.Site ∧ x.Site < 8)
  · rw [if_pos hk] at h; simp at h
  rw [if_neg hk] at h
  obtain ⟨s, hs⟩ : ∃ s : Nat, x.Site = s := ⟨x.Site.toNat, by omega⟩
  have hc : chk e = true := by
    cases hc : chk e
    · exact absurd (.inl hc) hk
    · rfl
  have hsl : s < 8 := by omega
  have hok := (chk_iff e).1 hc
  obtain ⟨c1, c2, c3, j0, c4, c5⟩ := hok
  by_cases hn : 1023 ≤ e.Number
  · rw [if_pos hn] at h; simp at h
  rw [if_neg hn] at h
  rw [hs, Int.toNat_natCast] at h
  have hp := c3 s hsl
  unfold okP at hp
  by_cases h6 : x.Kind = 6
  · rw [if_pos h6] at h
    split at h
    · simp at h
    rename_i q1
    split at h
    · simp at h
    rename_i q2
    split at h
    · simp at h
    rename_i q3
    have hb := (Prod.mk.inj h).1
    subst hb
    obtain ⟨t, ht⟩ : ∃ t : Nat, x.Sponsor = t := ⟨x.Sponsor.toNat, by omega⟩
    rw [ht, Int.toNat_natCast] at q3
    have hts : t ≠ s := fun hts => by subst hts; omega
    have e1 : ∀ j, j < 8 → sta ⟨e.Number + 1, vset e.States s 1, e.Seals, vset e.Sponsor s x.Sponsor⟩ j = if s = j then 1 else sta e j := fun j hj => vget_set _ _ _ hj
    have e2 : ∀ j, sea ⟨e.Number + 1, vset e.States s 1, e.Seals, vset e.Sponsor s x.Sponsor⟩ j = sea e j := fun j => rfl
    have e3 : ∀ j, j < 8 → spo ⟨e.Number + 1, vset e.States s 1, e.Seals, vset e.Sponsor s x.Sponsor⟩ j = if s = j then x.Sponsor else spo e j := fun j hj => vget_set _ _ _ hj
    refine ⟨s, 0, hsl, by omega, hs, by omega, hc, rfl, by omega, (chk_iff _).2 ⟨by show 0 ≤ e.Number + 1; omega, by show e.Number + 1 < 1024; omega, fun j hj => ?_, s, hsl, by rw [e1 s hsl, if_pos rfl]⟩, ?_, fun j hj hne => ?_, fun _ => ?_, fun h => by omega⟩
    · unfold okP
      rw [e1 j hj, e2, e3 j hj]
      by_cases hj' : s = j
      · subst hj'; rw [if_pos rfl, if_pos rfl]; omega
      · rw [if_neg hj', if_neg hj']; exact c3 j hj
    · rw [e1 s hsl, if_pos rfl]; omega
    · rw [e1 j hj, e2, e3 j hj, if_neg (Ne.symm hne), if_neg (Ne.symm hne)]; exact ⟨rfl, rfl, rfl⟩
    · rw [e3 s hsl, if_pos rfl]
  rw [if_neg h6] at h
  by_cases h7 : x.Kind = 7
  · rw [if_pos h7] at h
    split at h
    · simp at h
    rename_i q1
    split at h
    · simp at h
    rename_i q2
    have hb := (Prod.mk.inj h).1
    subst hb
    have e1 : ∀ j, j < 8 → sta ⟨e.Number + 1, vset e.States s 2, e.Seals, e.Sponsor⟩ j = if s = j then 2 else sta e j := fun j hj => vget_set _ _ _ hj
    have e2 : ∀ j, sea ⟨e.Number + 1, vset e.States s 2, e.Seals, e.Sponsor⟩ j = sea e j := fun j => rfl
    have e3 : ∀ j, spo ⟨e.Number + 1, vset e.States s 2, e.Seals, e.Sponsor⟩ j = spo e j := fun j => rfl
    obtain ⟨j1, g1, g2, g3⟩ : ∃ j, j < 8 ∧ j ≠ s ∧ sta e j = 1 := by
      simp only [lone, List.all_eq_true, List.mem_range, mem1] at q2
      apply Classical.byContradiction
      intro hno
      refine q2 fun j hj => ?_
      cases hq : (j == s)
      · cases hq2 : (sta e j == 1)
        · rfl
        · exact absurd ⟨j, hj, by simpa using hq, by simpa using hq2⟩ hno
      · rfl
    refine ⟨s, 1, hsl, by omega, hs, by omega, hc, rfl, by omega, (chk_iff _).2 ⟨by show 0 ≤ e.Number + 1; omega, by show e.Number + 1 < 1024; omega, fun j hj => ?_, j1, g1, by rw [e1 j1 g1, if_neg (Ne.symm g2)]; exact g3⟩, ?_, fun j hj hne => ?_, fun h => by omega, fun h => by omega⟩
    · unfold okP
      rw [e1 j hj, e2, e3]
      by_cases hj' : s = j
      · subst hj'; rw [if_pos rfl]; omega
      · rw [if_neg hj']; exact c3 j hj
    · rw [e1 s hsl, if_pos rfl]; omega
    · rw [e1 j hj, e2, e3, if_neg (Ne.symm hne)]; exact ⟨rfl, rfl, rfl⟩
  rw [if_neg h7] at h
  split at h
  · simp at h
  rename_i q1
  split at h
  · simp at h
  rename_i q2
  have hb := (Prod.mk.inj h).1
  subst hb
  have e1 : ∀ j, j < 8 → sta ⟨e.Number + 1, vset e.States s 3, vset e.Seals s x.Length, e.Sponsor⟩ j = if s = j then 3 else sta e j := fun j hj => vget_set _ _ _ hj
  have e2 : ∀ j, j < 8 → sea ⟨e.Number + 1, vset e.States s 3, vset e.Seals s x.Length, e.Sponsor⟩ j = if s = j then x.Length else sea e j := fun j hj => vget_set _ _ _ hj
  have e3 : ∀ j, spo ⟨e.Number + 1, vset e.States s 3, vset e.Seals s x.Length, e.Sponsor⟩ j = spo e j := fun j => rfl
  have hjs : j0 ≠ s := fun hjs => by subst hjs; omega
  refine ⟨s, 2, hsl, by omega, hs, by omega, hc, rfl, by omega, (chk_iff _).2 ⟨by show 0 ≤ e.Number + 1; omega, by show e.Number + 1 < 1024; omega, fun j hj => ?_, j0, c4, by rw [e1 j0 c4, if_neg (Ne.symm hjs)]; exact c5⟩, ?_, fun j hj hne => ?_, fun h => by omega, fun _ => ?_⟩
  · unfold okP
    rw [e1 j hj, e2 j hj, e3]
    by_cases hj' : s = j
    · subst hj'; rw [if_pos rfl, if_pos rfl]; omega
    · rw [if_neg hj', if_neg hj']; exact c3 j hj
  · rw [e1 s hsl, if_pos rfl]; omega
  · rw [e1 j hj, e2 j hj, e3, if_neg (Ne.symm hne), if_neg (Ne.symm hne)]; exact ⟨rfl, rfl, rfl⟩
  · rw [e2 s hsl, if_pos rfl]
theorem hit_num {a b : GEpoch} {i k : Nat} (h : hit a b i k = true) : b.Number = a.Number + 1 := by
  simp only [hit, Bool.and_eq_true, beq_iff_eq, eqE_iff] at h
  obtain ⟨s, k', _, _, _, _, _, h1, _⟩ := app_ok (e := a) (x := ent3 b i k) (b := b) (Prod.ext h.2 h.1)
  exact h1
theorem fol_num {a b : GEpoch} (h : fol a b = true) : b.Number = a.Number + 1 := by
  simp only [fol, hits, List.any_eq_true] at h
  obtain ⟨i, _, k, _, h⟩ := h
  exact hit_num h
theorem app_fol {e b : GEpoch} {x : GEntry} (h : app e x = (b, 0)) : fol e b = true := by
  obtain ⟨s, k, hs, hk, g1, g2, _, _, _, _, _, _, g3, g4⟩ := app_ok h
  have e1 : app e (ent3 b s k) = (b, 0) := by
    rw [← h]
    refine app_same e g2.symm g1.symm (fun h6 => ?_) (fun h8 => ?_)
    · have : k = 0 := by have : (k : Int) + 6 = 6 := h6; omega
      subst this; exact g3 rfl
    · have : k = 2 := by have : (k : Int) + 6 = 8 := h8; omega
      subst this; exact g4 rfl
  simp only [fol, hits, List.any_eq_true, List.mem_range]
  refine ⟨s, hs, k, hk, ?_⟩
  simp only [hit, e1, Bool.and_eq_true, beq_iff_eq, eqE_iff, and_self]
def isM (e : GEpoch) (j : Nat) : Bool := (sta e j == 1) || (sta e j == 2)
def mems (e : GEpoch) (k : Nat) : List Int := ((List.range k).filter (isM e)).map fun (j : Nat) => (j : Int)
theorem mems_succ (e : GEpoch) (k : Nat) : mems e (k + 1) = if isM e k then mems e k ++ [(k : Int)] else mems e k := by
  unfold mems
  rw [List.range_succ, List.filter_append, List.map_append]
  cases h : isM e k <;> simp [h]
theorem mems_len (e : GEpoch) (k : Nat) : (mems e k).length ≤ k := by
  unfold mems; rw [List.length_map]
  have := List.length_filter_le (isM e) (List.range k); simpa using this
theorem F17_eq {N : Nat} (hN : 8 < N) (e : GEpoch) : Fepoch_Members N e = some (mems e 8) := by
  unfold Fepoch_Members
  rw [show (⟨[], 0⟩ : Sepoch_Membersx3) = (fun k : Nat => (⟨mems e k, (k : Int)⟩ : Sepoch_Membersx3)) 0 from rfl]
  rw [iter_path (fun k : Nat => (⟨mems e k, (k : Int)⟩ : Sepoch_Membersx3)) 8 (fun _ => none) (some (mems e 8)) ?_ ?_ N hN]
  · exact none_find _
  · intro k next hk
    have hl := mems_len e k
    simp only [natCast_lt8 hk, ibB_of (show (0 : Int) ≤ k by omega) (show (k : Int) < 8 by omega), cond_true]
    simp only [Int.toNat_natCast, stE]
    rw [lenB_of (by simp only [List.length_cons, List.length_nil]; omega), wrap64 (by omega) (by omega), mems_succ]
    rw [show ((sta e k == 1) || (sta e k == 2)) = isM e k from rfl]
    cases isM e k <;> rfl
  · intro next; rfl
end Go.Proofs.Ytjjnclgkppbpnaa
