/-
An epoch's bytes: what was read is what would be written, and what was written is read.
-/
import Derived.Test.YtjjnclgkppbpnaaqMg
set_option linter.unusedVariables false
set_option linter.unusedSimpArgs false
namespace Go.Proofs.Ytjjnclgkppbpnaa
open Go Go.Ev
section
variable {N : Nat} {B : List Int} {s : Int × List Int}
theorem rd1_one (hB : okB B) (h : okR B s) (he : (rd1 s).2.1 = 0) : s.1 = 0 ∧ s.2 = pI (rd1 s).1 ++ (rd1 s).2.2 := by
  unfold rd1 at he ⊢
  by_cases h0 : s.1 = 0
  · rw [if_pos h0] at he ⊢
    exact ⟨h0, (rI_one (okB_suf hB h).2 he).1⟩
  · rw [if_neg h0] at he; exact absurd he h0
def rdl (s : Int × List Int) (k : Nat) : List Int := ((List.range k).map fun j => pI (rd1 (rdv id z8 s j).1).1).flatten
theorem rdl_succ (s : Int × List Int) (k : Nat) : rdl s (k + 1) = rdl s k ++ pI (rd1 (rdv id z8 s k).1).1 := by
  simp [rdl, List.range_succ]
theorem rdv_one (hB : okB B) (h : okR B s) : ∀ k, (rdv id z8 s k).1.1 = 0 → s.1 = 0 ∧ s.2 = rdl s k ++ (rdv id z8 s k).1.2
  | 0, he => ⟨he, rfl⟩
  | k + 1, he => by
    simp only [rdv] at he ⊢
    obtain ⟨h1, h2⟩ := rd1_one hB (rdv_ok h id z8 k) he
    obtain ⟨h3, h4⟩ := rdv_one hB h k h1
    refine ⟨h3, ?_⟩
    rw [rdl_succ, List.append_assoc, ← h2, ← h4]
theorem toL8 (v : Vector Int 8) : v.toList = (List.range 8).map fun j => vget v j default := by
  refine List.ext_getElem (by simp) fun i h1 h2 => ?_
  have hi : i < 8 := by simpa using h1
  simp only [Vector.getElem_toList, List.getElem_map, List.getElem_range]
  exact (vgetE v _ hi).symm
attribute [local irreducible] rdv
theorem rdl_8 (s : Int × List Int) : rdl s 8 = ((rdv id z8 s 8).2.toList.map pI).flatten := by
  rw [toL8]
  unfold rdl
  rw [List.map_map]
  refine congrArg List.flatten (List.map_congr_left fun j hj => ?_)
  have hj8 : j < 8 := List.mem_range.1 hj
  simp only [Function.comp]
  rw [rdv_get id z8 s 8 (Nat.le_refl _) j hj8, if_pos hj8]
  rfl
theorem rdE_one (hB : okB B) (h : okR B s) (he : (rdE id s).2.1 = 0) : s.1 = 0 ∧ s.2 = (epC (rdE id s).1).flatten ++ (rdE id s).2.2 := by
  unfold rdE at he ⊢
  simp only at he ⊢
  have k1 := rd1_ok h
  have k2 := rdv_ok k1 id z8 8
  have k3 := rdv_ok k2 id z8 8
  obtain ⟨a1, a2⟩ := rdv_one hB k3 8 he
  obtain ⟨b1, b2⟩ := rdv_one hB k2 8 a1
  obtain ⟨c1, c2⟩ := rdv_one hB k1 8 b1
  obtain ⟨d1, d2⟩ := rd1_one hB h c1
  refine ⟨d1, ?_⟩
  rw [rdl_8] at a2 b2 c2
  unfold epC
  simp only [List.flatten_append, List.map_cons, List.map_nil, List.flatten_cons, List.flatten_nil, List.append_nil, List.append_assoc]
  rw [d2]
  congr 1
  refine c2.trans ?_
  congr 1
  refine b2.trans ?_
  congr 1
theorem chk_may {e : GEpoch} (h : chk e = true) : MayEp e := by
  obtain ⟨h1, h2, h3, _⟩ := (chk_iff _).1 h
  refine ⟨⟨h1, by omega⟩, fun n hn => ?_, fun j hj => ?_⟩
  · obtain ⟨j, hj, rfl⟩ := List.getElem_of_mem hn
    have hj8 : j < 8 := by simpa using hj
    have := h3 j hj8; unfold okP at this
    have a := this.2.2.1; have b := this.2.2.2.1
    unfold sea at a b
    rw [vgetE e.Seals default hj8] at a b
    have e1 : e.Seals.toList[j] = e.Seals[j] := by simp
    rw [e1]; exact ⟨a, b⟩
  · have := h3 j hj; unfold okP sta spo at this
    refine ⟨⟨this.1, this.2.1⟩, ?_⟩
    have := this.2.2.2.2.2
    constructor <;> omega
theorem end_eq (N : Nat) (c : List Int) : Fwire_Reader_End_d95 N ⟨true, c⟩ = some (if 0 < (c.length : Int) then 13 else 0, ⟨true, c⟩) := by
  unfold Fwire_Reader_End_d95 Fwire_Reader_none_d95
  simp only [Option.bind_some, Bool.not_true, cond_false]
  by_cases h : 0 < (c.length : Int)
  · rw [if_pos h, decide_eq_true h]; rfl
  · rw [if_neg h, decide_eq_false h]; rfl
theorem take_eq (hN : 20 ≤ N) {c : List Int} (hB : okB B) (h : c <:+ B) : Frecord_TakeEpoch_d95 N ⟨true, c⟩ =
    some (if (rdE sm (0, c)).2.1 ≠ 0 then (z0, (rdE sm (0, c)).2.1, ⟨true, c⟩) else if MayEp (rdE sm (0, c)).1 then ((rdE sm (0, c)).1, 0, ⟨true, (rdE sm (0, c)).2.2⟩) else (z0, 40, ⟨true, c⟩)) := by
  unfold Frecord_TakeEpoch_d95 Frecord_taken_550 Frecord_TakeEpoch_1_219 Frecord_CheckEpoch
  rw [end_eq, Option.bind_some]
  have hne : ((if 0 < (c.length : Int) then (13 : Int) else 0) == 2) = false := by split <;> rfl
  simp only [hne, cond_false]
  rw [epoch_eq (s := (0, c)) (by omega) hB h, Option.bind_some, mayEpoch_eq hN]
  simp only [Option.bind_some]
  generalize rdE sm (0, c) = r
  obtain ⟨e, x, d⟩ := r
  simp only
  by_cases hm : MayEp e
  · have : Frecord_verdict N (decide (MayEp e)) = some 0 := by unfold Frecord_verdict; rw [decide_eq_true hm]; rfl
    rw [this]
    by_cases hx : x = 0
    · subst hx; rw [if_neg (by simp), if_pos hm]; rfl
    · have hx' : (x == 0) = false := by simpa using hx
      rw [if_pos hx]
      simp only [Option.bind_some, hx', Bool.not_false, cond_true]; rfl
  · have : Frecord_verdict N (decide (MayEp e)) = some 40 := by unfold Frecord_verdict; rw [decide_eq_false hm]; rfl
    rw [this]
    by_cases hx : x = 0
    · subst hx; rw [if_neg (by simp), if_neg hm]; rfl
    · have hx' : (x == 0) = false := by simpa using hx
      rw [if_pos hx]
      simp only [Option.bind_some, hx', Bool.not_false, cond_true]; rfl
end
end Go.Proofs.Ytjjnclgkppbpnaa
