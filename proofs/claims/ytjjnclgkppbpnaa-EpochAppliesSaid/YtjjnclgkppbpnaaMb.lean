/-
What an entry makes of an epoch, and which epoch follows which: the printed functions compute just that.
-/
import Derived.Test.YtjjnclgkppbpnaaMa
set_option linter.unusedVariables false
set_option linter.unusedSimpArgs false
namespace Go.Proofs.Ytjjnclgkppbpnaa
open Go Go.Ev

def z0 : GEpoch := ⟨0, Vector.replicate 8 (default : Int), Vector.replicate 8 (default : Int), Vector.replicate 8 (default : Int)⟩
def lone (e : GEpoch) (s : Nat) : Bool := (List.range 8).all fun j => j == s || !(mem1 e j)

theorem lone_cnt (b : Nat → Bool) {s : Nat} (hs : s < 8) (hb : b s = true) : (((List.range 8).countP b : Nat) : Int) < 2 ↔ (List.range 8).all (fun j => j == s || !(b j)) = true := by
  have key : ∀ b : Nat → Bool, ∀ s, s < 8 → b s = true → (decide (((List.range 8).countP b) < 2) = (List.range 8).all (fun j => j == s || !(b j))) := by
    intro b s hs hb
    rw [show List.range 8 = [0, 1, 2, 3, 4, 5, 6, 7] from rfl]
    simp only [List.countP_cons, List.countP_nil, List.all_cons, List.all_nil]
    have : s = 0 ∨ s = 1 ∨ s = 2 ∨ s = 3 ∨ s = 4 ∨ s = 5 ∨ s = 6 ∨ s = 7 := by omega
    rcases this with rfl | rfl | rfl | rfl | rfl | rfl | rfl | rfl <;>
      (rw [hb]
       generalize b 0 = b0 at *; generalize b 1 = b1 at *; generalize b 2 = b2 at *; generalize b 3 = b3 at *
       generalize b 4 = b4 at *; generalize b 5 = b5 at *; generalize b 6 = b6 at *; generalize b 7 = b7 at *
       clear hb hs b
       revert b0 b1 b2 b3 b4 b5 b6 b7; decide)
  rw [← key b s hs hb]; simp; omega

theorem countP_succ (p : Nat → Bool) (k : Nat) : (List.range (k + 1)).countP p = (List.range k).countP p + (if p k then 1 else 0) := by
  rw [List.range_succ, List.countP_append]; simp [List.countP_cons]
theorem countP_le (p : Nat → Bool) (k : Nat) : (List.range k).countP p ≤ k := by
  have := List.countP_le_length (p := p) (l := List.range k); simpa using this

theorem F33_eq {N : Nat} (hN : 8 < N) (e : GEpoch) : F33 N e = some (((List.range 8).countP (mem1 e) : Nat) : Int) := by
  unfold F33
  rw [show (⟨0, 0⟩ : S33x3) = (fun k : Nat => (⟨(((List.range k).countP (mem1 e) : Nat) : Int), (k : Int)⟩ : S33x3)) 0 from rfl]
  rw [iter_path (fun k : Nat => (⟨(((List.range k).countP (mem1 e) : Nat) : Int), (k : Int)⟩ : S33x3)) 8 (fun _ => none) (some (((List.range 8).countP (mem1 e) : Nat) : Int)) ?_ ?_ N hN]
  · exact none_find _
  · intro k next hk
    have hc := countP_le (mem1 e) k
    simp only [natCast_lt8 hk, ibB_of (show (0 : Int) ≤ k by omega) (show (k : Int) < 8 by omega), cond_true]
    simp only [Int.toNat_natCast, stE]
    rw [countP_succ]
    cases h : mem1 e k
    · rw [show (sta e k == 1) = false from h, cond_false, wrap64 (by omega) (by omega)]; rfl
    · rw [show (sta e k == 1) = true from h, cond_true, wrap64 (by omega) (by omega), wrap64 (by omega) (by omega)]; rfl
  · intro next; rfl

/-- What an entry of a kind, of a site, with a sponsor, with a length makes. -/
def app' (e : GEpoch) (kind site sponsor length : Int) : GEpoch × Int :=
  if chk e = false ∨ (kind ≠ 6 ∧ kind ≠ 7 ∧ kind ≠ 8) ∨ ¬ (0 ≤ site ∧ site < 8) then (z0, 1)
  else if 1023 ≤ e.Number then (z0, 3)
  else if kind = 6 then
    if sta e site.toNat ≠ 0 then (z0, 171)
    else if ¬ (0 ≤ sponsor ∧ sponsor < 8) then (z0, 1)
    else if sta e sponsor.toNat ≠ 1 then (z0, 171)
    else (⟨e.Number + 1, vset e.States site.toNat 1, e.Seals, vset e.Sponsor site.toNat sponsor⟩, 0)
  else if kind = 7 then
    if sta e site.toNat ≠ 1 then (z0, 171)
    else if lone e site.toNat = true then (z0, 170)
    else (⟨e.Number + 1, vset e.States site.toNat 2, e.Seals, e.Sponsor⟩, 0)
  else if sta e site.toNat ≠ 2 then (z0, 171)
  else if length < 0 ∨ 1099511627776 < length then (z0, 1)
  else (⟨e.Number + 1, vset e.States site.toNat 3, vset e.Seals site.toNat length, e.Sponsor⟩, 0)
def app (e : GEpoch) (x : GEntry) : GEpoch × Int := app' e x.Kind x.Site x.Sponsor x.Length

theorem chk_num {e : GEpoch} (h : chk e = true) : 0 ≤ e.Number ∧ e.Number < 1024 := by
  simp only [chk, Bool.and_eq_true, decide_eq_true_eq] at h; exact ⟨h.1.1.1, h.1.1.2⟩

theorem F12_eq {N : Nat} (hN : 8 < N) (e : GEpoch) (x : GEntry) : F12 N e x = some (app e x) := by
  unfold F12
  simp only [F13_eq hN, F33_eq hN, F32_eq, Option.bind_some, dec_lt, dec_le, stE, seE, spE]
  unfold app app'
  cases hc : chk e
  · rfl
  obtain ⟨n0, n1⟩ := chk_num hc
  by_cases hk : x.Kind ≠ 6 ∧ x.Kind ≠ 7 ∧ x.Kind ≠ 8
  · rw [show (!true || ((!(x.Kind == 6)) && (!(x.Kind == 7))) && (!(x.Kind == 8))) = true by simp; omega, if_pos (by omega)]
    rfl
  · rw [show (!true || ((!(x.Kind == 6)) && (!(x.Kind == 7))) && (!(x.Kind == 8))) = false by simp; omega]
    simp only [Bool.not_false, cond_true, Option.bind_some, Bool.false_or]
    by_cases hs : 0 ≤ x.Site ∧ x.Site < 8
    · obtain ⟨s0, s1⟩ := hs
      rw [show (leB 0 x.Site && ltB x.Site 8) = true by simp [leB_t, ltB_t, s0, s1], if_neg (by simp; omega)]
      simp only [Bool.not_true, cond_false, ibB_of s0 s1, cond_true]
      rw [wrap64 (by omega) (by omega)]
      rw [show List.countP (mem1 ⟨e.Number + 1, e.States, e.Seals, e.Sponsor⟩) (List.range 8) = List.countP (mem1 e) (List.range 8) from rfl]
      simp only [Bool.cond_eq_ite, Bool.not_eq_true', Bool.or_eq_true, Bool.and_eq_true, Bool.and_eq_false_iff, leB_t, ltB_t, leB_f, ltB_f, beq_iff_eq, beq_eq_false_iff_ne]
      by_cases hn : 1023 ≤ e.Number
      · rw [if_pos hn, if_pos hn]; rfl
      rw [if_neg hn, if_neg hn]
      by_cases h6 : x.Kind = 6
      · rw [if_pos h6, if_pos h6]
        split
        · rfl
        by_cases hp : 0 ≤ x.Sponsor ∧ x.Sponsor < 8
        · rw [if_neg (show ¬(x.Sponsor < 0 ∨ 8 ≤ x.Sponsor) by omega), ibB_of hp.1 hp.2, if_pos rfl, if_neg (show ¬¬(0 ≤ x.Sponsor ∧ x.Sponsor < 8) by omega)]
          split
          · rfl
          · rfl
        · rw [if_pos (by omega), if_pos (by omega)]; rfl
      rw [if_neg h6, if_neg h6]
      by_cases h7 : x.Kind = 7
      · rw [if_pos h7, if_pos h7]
        by_cases h1 : sta e x.Site.toNat ≠ 1
        · rw [if_pos h1, if_pos h1]; rfl
        · rw [if_neg h1, if_neg h1]
          have := lone_cnt (mem1 e) (s := x.Site.toNat) (by omega) (by simp at h1; simp [mem1, h1])
          by_cases hl : lone e x.Site.toNat = true
          · rw [if_pos hl, if_pos (this.2 hl)]; rfl
          · rw [if_neg hl, if_neg (fun h => hl (this.1 h))]
      · rw [if_neg h7, if_neg h7]
        split
        · rfl
        · split
          · rfl
          · rfl
    · rw [show (leB 0 x.Site && ltB x.Site 8) = false by simp only [Bool.and_eq_false_iff, leB_f, ltB_f]; omega, if_pos (by omega)]
      rfl

theorem F35_eq (N : Nat) (e : GEpoch) (x : GEntry) (s0 : 0 ≤ x.Site) (s1 : x.Site < 8) : F35 N e x = some (
    if sta e x.Site.toNat ≠ 0 then (z0, 171)
    else if ¬ (0 ≤ x.Sponsor ∧ x.Sponsor < 8) then (z0, 1)
    else if sta e x.Sponsor.toNat ≠ 1 then (z0, 171)
    else (⟨e.Number, vset e.States x.Site.toNat 1, e.Seals, vset e.Sponsor x.Site.toNat x.Sponsor⟩, 0)) := by
  unfold F35
  simp only [F34_eq, Option.bind_some, dec_lt, dec_le, stE, seE, spE, ibB_of s0 s1, cond_true]
  simp only [Bool.cond_eq_ite, Bool.not_eq_true', Bool.or_eq_true, Bool.and_eq_true, Bool.and_eq_false_iff, leB_t, ltB_t, leB_f, ltB_f, beq_iff_eq, beq_eq_false_iff_ne]
  split
  · rfl
  by_cases hp : 0 ≤ x.Sponsor ∧ x.Sponsor < 8
  · rw [if_neg (show ¬(x.Sponsor < 0 ∨ 8 ≤ x.Sponsor) by omega), ibB_of hp.1 hp.2, if_pos rfl, if_neg (show ¬¬(0 ≤ x.Sponsor ∧ x.Sponsor < 8) by omega)]
    split <;> rfl
  · rw [if_pos (by omega), if_pos (by omega)]; rfl

theorem F36_eq {N : Nat} (hN : 8 < N) (e : GEpoch) (x : GEntry) (s0 : 0 ≤ x.Site) (s1 : x.Site < 8) : F36 N e x = some (
    if sta e x.Site.toNat ≠ 1 then (z0, 171)
    else if lone e x.Site.toNat = true then (z0, 170)
    else (⟨e.Number, vset e.States x.Site.toNat 2, e.Seals, e.Sponsor⟩, 0)) := by
  unfold F36
  simp only [ibB_of s0 s1, cond_true, stE]
  by_cases h1 : sta e x.Site.toNat ≠ 1
  · rw [if_pos h1, show (!(sta e x.Site.toNat == 1)) = true by simpa using h1]; rfl
  rw [if_neg h1, show (!(sta e x.Site.toNat == 1)) = false by simpa using h1, cond_false]
  obtain ⟨p, hp⟩ : ∃ p : Nat → Bool, p = fun j => !(j == x.Site.toNat) && mem1 e j := ⟨_, rfl⟩
  rw [show (⟨0, 0⟩ : S36x5) = (fun k : Nat => (⟨(((List.range k).countP p : Nat) : Int), (k : Int)⟩ : S36x5)) 0 from rfl]
  rw [iter_path (fun k : Nat => (⟨(((List.range k).countP p : Nat) : Int), (k : Int)⟩ : S36x5)) 8 (fun _ => none) (some (if lone e x.Site.toNat = true then (z0, 170) else (⟨e.Number, vset e.States x.Site.toNat 2, e.Seals, e.Sponsor⟩, 0))) ?_ ?_ N hN]
  · exact none_find _
  · intro k next hk
    have hc := countP_le p k
    simp only [natCast_lt8 hk, ibB_of (show (0 : Int) ≤ k by omega) (show (k : Int) < 8 by omega), cond_true, Bool.or_true]
    simp only [Int.toNat_natCast, stE]
    rw [countP_succ]
    have hps : p k = (!((k : Int) == x.Site) && (sta e k == 1)) := by
      rw [hp]
      show (!(k == x.Site.toNat) && mem1 e k) = _
      rw [show (k == x.Site.toNat) = ((k : Int) == x.Site) by rw [Bool.eq_iff_iff, beq_iff_eq, beq_iff_eq]; omega]
      rfl
    rw [← hps]
    cases h : p k
    · rw [cond_false, wrap64 (by omega) (by omega)]; rfl
    · rw [cond_true, wrap64 (by omega) (by omega), wrap64 (by omega) (by omega)]; rfl
  · intro next
    simp only [show decide (((8 : Nat) : Int) < 8) = false from rfl, cond_false]
    have : ((((List.range 8).countP p : Nat) : Int) == 0) = lone e x.Site.toNat := by
      rw [Bool.eq_iff_iff, beq_iff_eq, hp]
      unfold lone
      rw [List.all_eq_true]
      constructor
      · intro h j hj
        have h' := List.countP_eq_zero.1 (show List.countP (fun j => !(j == x.Site.toNat) && mem1 e j) (List.range 8) = 0 by omega) j hj
        simp only [Bool.and_eq_true, Bool.not_eq_true', not_and, Bool.not_eq_true] at h'
        cases hq : (j == x.Site.toNat)
        · rw [h' hq]; rfl
        · rfl
      · intro h
        have : List.countP (fun j => !(j == x.Site.toNat) && mem1 e j) (List.range 8) = 0 := List.countP_eq_zero.2 fun j hj => by
          have := h j hj
          intro hc
          simp only [Bool.and_eq_true, Bool.not_eq_true'] at hc
          rw [hc.1, hc.2] at this
          cases this
        omega
    rw [this, Bool.cond_eq_ite]
    split <;> rfl

theorem F14_eq {N : Nat} (hN : 8 < N) (e : GEpoch) (x : GEntry) : F14 N e x = some (app e x) := by
  unfold F14
  simp only [F15_eq hN, F34_eq, F37, Option.bind_some, dec_lt, dec_le, stE, seE, spE]
  unfold app app'
  cases hc : chk e
  · rfl
  obtain ⟨n0, n1⟩ := chk_num hc
  by_cases hk : x.Kind ≠ 6 ∧ x.Kind ≠ 7 ∧ x.Kind ≠ 8
  · rw [show ((!true || ltB x.Kind 6) || ltB 8 x.Kind) = true by simp only [Bool.not_true, Bool.false_or, Bool.or_eq_true, ltB_t]; omega, if_pos (by omega)]
    rfl
  · rw [show ((!true || ltB x.Kind 6) || ltB 8 x.Kind) = false by simp only [Bool.not_true, Bool.false_or, Bool.or_eq_false_iff, ltB_f]; omega]
    simp only [Bool.not_false, cond_true, Option.bind_some, Bool.false_or]
    by_cases hs : 0 ≤ x.Site ∧ x.Site < 8
    · obtain ⟨s0, s1⟩ := hs
      rw [show (leB 0 x.Site && ltB x.Site 8) = true by simp [leB_t, ltB_t, s0, s1], if_neg (by simp; omega)]
      simp only [Bool.not_true, cond_false, ibB_of s0 s1, cond_true]
      rw [wrap64 (by omega) (by omega), F35_eq N _ x s0 s1, F36_eq hN _ x s0 s1]
      simp only [Option.bind_some, Prod.eta]
      rw [show lone ⟨e.Number + 1, e.States, e.Seals, e.Sponsor⟩ x.Site.toNat = lone e x.Site.toNat from rfl]
      rw [show sta ⟨e.Number + 1, e.States, e.Seals, e.Sponsor⟩ x.Site.toNat = sta e x.Site.toNat from rfl]
      rw [show sta ⟨e.Number + 1, e.States, e.Seals, e.Sponsor⟩ x.Sponsor.toNat = sta e x.Sponsor.toNat from rfl]
      simp only [Bool.cond_eq_ite, Bool.not_eq_true', Bool.or_eq_true, Bool.and_eq_true, Bool.and_eq_false_iff, leB_t, ltB_t, leB_f, ltB_f, beq_iff_eq, beq_eq_false_iff_ne]
      by_cases hn : 1023 ≤ e.Number
      · rw [if_pos (by omega), if_pos hn]; rfl
      rw [if_neg (by omega), if_neg hn]
      by_cases h6 : x.Kind = 6
      · rw [if_pos h6, if_pos h6]
      rw [if_neg h6, if_neg h6]
      by_cases h7 : x.Kind = 7
      · rw [if_pos h7, if_pos h7]
      · rw [if_neg h7, if_neg h7]
        split
        · rfl
        · by_cases hl : x.Length < 0 ∨ 1099511627776 < x.Length
          · rw [if_pos (by omega), if_pos hl]; rfl
          · rw [if_neg (by omega), if_neg hl]
    · rw [show (leB 0 x.Site && ltB x.Site 8) = false by simp only [Bool.and_eq_false_iff, leB_f, ltB_f]; omega, if_pos (by omega)]
      rfl
end Go.Proofs.Ytjjnclgkppbpnaa
