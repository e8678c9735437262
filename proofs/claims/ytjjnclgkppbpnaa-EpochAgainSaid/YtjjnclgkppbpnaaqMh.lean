/-
An epoch's bytes: what was read is what would be written, and what was written is read.
-/
import Derived.Test.YtjjnclgkppbpnaaqMg
set_option linter.unusedVariables false
set_option linter.unusedSimpArgs false
namespace Go.Proofs.Ytjjnclgkppbpnaa
open Go Go.Ev
section
variable {N : Nat} {B : List Int} {s : Int × List Int}
attribute [local irreducible] rdv
theorem rd1_back {n : Int} (hn : R64 n) (rest : List Int) : rd1 (0, pI n ++ rest) = (n, (0, rest)) := by
  unfold rd1 pI
  rw [if_pos rfl, rI_back hn]
theorem rdv_back {l : List Int} (hl : ∀ n ∈ l, R64 n) (rest : List Int) : ∀ k, k ≤ l.length → (rdv id z8 (0, (l.map pI).flatten ++ rest) k).1 = (0, ((l.drop k).map pI).flatten ++ rest)
  | 0, _ => by simp only [rdv, List.drop_zero]
  | k + 1, hk => by
    have hlt : k < l.length := by omega
    simp only [rdv]
    rw [rdv_back hl rest k (by omega), List.drop_eq_getElem_cons hlt, List.map_cons, List.flatten_cons, List.append_assoc, rd1_back (hl _ (List.getElem_mem hlt))]
theorem rdv_back8 {v : Vector Int 8} (hv : ∀ n ∈ v.toList, R64 n) (rest : List Int) : rdv id z8 (0, (v.toList.map pI).flatten ++ rest) 8 = ((0, rest), v) := by
  have hlen : v.toList.length = 8 := by simp
  refine Prod.ext ?_ (vext default fun j hj => ?_)
  · rw [rdv_back hv rest 8 (by omega), List.drop_eq_nil_of_le (by omega)]; simp
  · rw [rdv_get id z8 _ 8 (Nat.le_refl _) j hj, if_pos hj, rdv_back hv rest j (by omega), List.drop_eq_getElem_cons (by omega), List.map_cons, List.flatten_cons, List.append_assoc, rd1_back (hv _ (List.getElem_mem (by omega)))]
    simp only [id, Vector.getElem_toList]
    exact (vgetE v _ hj).symm
theorem rdE_back {e : GEpoch} (h : MayEp e) (rest : List Int) : rdE id (0, (epC e).flatten ++ rest) = (e, (0, rest)) := by
  obtain ⟨h1, h2, h3⟩ := ep_states h
  obtain ⟨a, b, c, d⟩ := e
  unfold epC rdE
  simp only [List.flatten_append, List.map_cons, List.map_nil, List.flatten_cons, List.flatten_nil, List.append_nil, List.append_assoc]
  rw [rd1_back (cnt64 h.1)]
  simp only
  rw [rdv_back8 h1]
  simp only
  rw [rdv_back8 h3]
  simp only
  rw [rdv_back8 h2]
theorem chk_may {e : GEpoch} (h : chk e = true) : MayEp e := by
  obtain ⟨h1, h2, h3, _⟩ := (chk_iff _).1 h
  refine ⟨⟨h1, by omega⟩, fun n hn => ?_, fun j hj => ?_⟩
  · obtain ⟨j, hj, rfl⟩ := List.getElem_of_mem hn
    have hj8 : j < 8 := by simpa using hj
    have := h3 j hj8; unfold okP at this
    have a := this.2.2.1; have b := this.2.2.2.1
    unfold sea at a b
    rw [vgetE e.Seals default hj8] at a b
    have e1 : e.Seals.toList[j] = e.Seals[j] := by simp
    rw [e1]; exact ⟨a, b⟩
  · have := h3 j hj; unfold okP sta spo at this
    refine ⟨⟨this.1, this.2.1⟩, ?_⟩
    have := this.2.2.2.2.2
    constructor <;> omega
theorem end_eq (N : Nat) (c : List Int) : Fwire_Reader_End_d95 N ⟨true, c⟩ = some (if 0 < (c.length : Int) then 13 else 0, ⟨true, c⟩) := by
  unfold Fwire_Reader_End_d95 Fwire_Reader_none_d95
  simp only [Option.bind_some, Bool.not_true, cond_false]
  by_cases h : 0 < (c.length : Int)
  · rw [if_pos h, decide_eq_true h]; rfl
  · rw [if_neg h, decide_eq_false h]; rfl
theorem take_eq (hN : 20 ≤ N) {c : List Int} (hB : okB B) (h : c <:+ B) : Frecord_TakeEpoch_d95 N ⟨true, c⟩ =
    some (if (rdE sm (0, c)).2.1 ≠ 0 then (z0, (rdE sm (0, c)).2.1, ⟨true, c⟩) else if MayEp (rdE sm (0, c)).1 then ((rdE sm (0, c)).1, 0, ⟨true, (rdE sm (0, c)).2.2⟩) else (z0, 40, ⟨true, c⟩)) := by
  unfold Frecord_TakeEpoch_d95 Frecord_taken_550 Frecord_TakeEpoch_1_219 Frecord_CheckEpoch
  rw [end_eq, Option.bind_some]
  have hne : ((if 0 < (c.length : Int) then (13 : Int) else 0) == 2) = false := by split <;> rfl
  simp only [hne, cond_false]
  rw [epoch_eq (s := (0, c)) (by omega) hB h, Option.bind_some, mayEpoch_eq hN]
  simp only [Option.bind_some]
  generalize rdE sm (0, c) = r
  obtain ⟨e, x, d⟩ := r
  simp only
  by_cases hm : MayEp e
  · have : Frecord_verdict N (decide (MayEp e)) = some 0 := by unfold Frecord_verdict; rw [decide_eq_true hm]; rfl
    rw [this]
    by_cases hx : x = 0
    · subst hx; rw [if_neg (by simp), if_pos hm]; rfl
    · have hx' : (x == 0) = false := by simpa using hx
      rw [if_pos hx]
      simp only [Option.bind_some, hx', Bool.not_false, cond_true]; rfl
  · have : Frecord_verdict N (decide (MayEp e)) = some 40 := by unfold Frecord_verdict; rw [decide_eq_false hm]; rfl
    rw [this]
    by_cases hx : x = 0
    · subst hx; rw [if_neg (by simp), if_neg hm]; rfl
    · have hx' : (x == 0) = false := by simpa using hx
      rw [if_pos hx]
      simp only [Option.bind_some, hx', Bool.not_false, cond_true]; rfl
end
end Go.Proofs.Ytjjnclgkppbpnaa
