/-
The first epoch of members.
-/
import Derived.Test.YtjjnclgkppbpnaaqMh
set_option linter.unusedVariables false
set_option linter.unusedSimpArgs false
namespace Go.Proofs.Ytjjnclgkppbpnaa
open Go Go.Ev
theorem sit_b (x : Int) : (decide (0 ≤ x) && decide (x < 8)) = decide (sit x) := by
  unfold sit; by_cases h : 0 ≤ x <;> by_cases h' : x < 8 <;> simp [h, h']
def onesV (p : Nat → Bool) : Vector Int 8 := Vector.ofFn fun i : Fin 8 => if p i.1 then 1 else 0
def inL (l : List Int) (j : Nat) : Bool := l.any fun x => x == (j : Int)
def m1 : Vector Int 8 := Vector.replicate 8 (-1)
def stS (l : List Int) : GEpoch := ⟨0, onesV (inL l), z8, m1⟩
def strt (l : List Int) : GEpoch × Int := if l = [] ∨ ¬ (∀ x ∈ l, sit x) then (z0, 1) else if ¬ l.Nodup then (z0, 5) else (stS l, 0)
theorem ones_get (p : Nat → Bool) {j : Nat} (hj : j < 8) : vget (onesV p) j default = if p j then 1 else 0 := vget_ofFn _ _ hj
theorem inL_iff (l : List Int) (j : Nat) : inL l j = true ↔ (j : Int) ∈ l := by
  unfold inL; rw [List.any_eq_true]; constructor
  · rintro ⟨x, h, h'⟩; rw [← eq_of_beq h']; exact h
  · intro h; exact ⟨_, h, beq_self_eq_true _⟩
theorem stE_step {l : List Int} {x : Int} (hx : sit x) : (⟨0, vset (onesV (inL l)) x.toNat 1, z8, m1⟩ : GEpoch) = stS (l ++ [x]) := by
  unfold stS
  congr 1
  refine vext default fun j hj => ?_
  rw [vget_set _ _ _ hj, ones_get _ hj, ones_get _ hj]
  have h0 := hx.1; have h1 := hx.2
  have : inL (l ++ [x]) j = (inL l j || (x == (j : Int))) := by simp [inL]
  rw [this]
  by_cases h : x.toNat = j
  · have : (x == (j : Int)) = true := by simp; omega
    rw [if_pos h, this, Bool.or_true]; rfl
  · have : (x == (j : Int)) = false := by simp; omega
    rw [if_neg h, this, Bool.or_false]
theorem stE_nil : stS [] = ⟨0, z8, z8, m1⟩ := by
  unfold stS; congr 1
theorem take_succ {l : List Int} {k : Nat} (hk : k < l.length) : l.take (k + 1) = l.take k ++ [lget l (k : Int) default] := by
  rw [List.take_add_one, lget_nat]; simp [List.getD, hk]
section
variable {N : Nat} {l : List Int}
theorem bad_eq (N : Nat) (x : Int) : Fepoch_Start_1 N x = some (!(decide (sit x))) := by
  unfold Fepoch_Start_1 Fepoch_site
  rw [Option.bind_some, sit_b]
theorem contains_eq (hN : l.length < N) (hl : l.length ≤ 9223372036854775807) : Fslices_ContainsFunc_int_405 N l = some (decide (¬ ∀ x ∈ l, sit x)) := by
  obtain ⟨r, e, h⟩ : ∃ r, Fslices_IndexFunc_int_405 N l = some r ∧ (0 ≤ r ↔ ¬ ∀ x ∈ l, sit x) := by
    unfold Fslices_IndexFunc_int_405
    refine iter_post (fun q : Sslices_IndexFunc_int_405x2 => ∃ k : Nat, q.t8 = k ∧ k ≤ l.length ∧ ∀ x ∈ l.take k, sit x) (fun q => (l.length - q.t8).toNat) _ ?_ N _ ⟨0, rfl, by omega, by simp⟩ (by simp; omega)
    rintro ⟨t⟩ nx ⟨k, rfl, hk, hq⟩ ih
    simp only at ih ⊢
    by_cases hlt : k < l.length
    · have h1 : decide ((k : Int) < (l.length : Int)) = true := by simpa using hlt
      rw [h1, ibB_of (Int.natCast_nonneg k) (by omega), bad_eq]
      simp only [cond_true, Option.bind_some]
      have hm : lget l (k : Int) default ∈ l := lget_mem default (by omega) (by omega)
      by_cases hs : sit (lget l (k : Int) default)
      · rw [decide_eq_true hs]
        simp only [Bool.not_true, cond_false]
        rw [wrap64 (by omega) (by omega)]
        refine ih _ ⟨k + 1, rfl, by omega, ?_⟩ (by simp; omega)
        intro x hx
        rw [take_succ hlt, List.mem_append] at hx
        rcases hx with hx | hx
        · exact hq x hx
        · rw [List.mem_singleton] at hx; rw [hx]; exact hs
      · rw [decide_eq_false hs]
        exact ⟨_, rfl, ⟨fun _ h => hs (h _ hm), fun _ => by omega⟩⟩
    · have h1 : decide ((k : Int) < (l.length : Int)) = false := by simpa using hlt
      rw [h1]
      refine ⟨_, rfl, ⟨fun h => by omega, fun h => absurd (fun x hx => hq x (by rw [List.take_of_length_le (by omega)]; exact hx)) h⟩⟩
  unfold Fslices_ContainsFunc_int_405
  rw [e, Option.bind_some]
  congr 1
  by_cases h' : 0 ≤ r
  · rw [decide_eq_true h', decide_eq_true (h.1 h')]
  · rw [decide_eq_false h', decide_eq_false (fun q => h' (h.2 q))]
def mv (k : Nat) : Vector Int 8 := Vector.ofFn fun i : Fin 8 => if i.1 < k then -1 else 0
theorem mv_succ (k : Nat) : vset (mv k) k (-1) = mv (k + 1) := by
  refine vext default fun j hj => ?_
  rw [vget_set _ _ _ hj]
  unfold mv
  rw [vget_ofFn _ _ hj, vget_ofFn _ _ hj]
  by_cases h : k = j
  · subst h; rw [if_pos rfl, if_pos (by simp)]
  · rw [if_neg h]
    by_cases h' : j < k
    · rw [if_pos h', if_pos (by simp; omega)]
    · rw [if_neg h', if_neg (by simp; omega)]
theorem mv_zero : mv 0 = z8 := by
  refine vext default fun j hj => ?_
  unfold mv z8
  rw [vget_ofFn _ _ hj, vget_replicate _ _ hj, if_neg (by omega)]; rfl
theorem mv_8 : mv 8 = m1 := by
  refine vext default fun j hj => ?_
  unfold mv m1
  rw [vget_ofFn _ _ hj, vget_replicate _ _ hj, if_pos hj]
theorem nobody_eq (hN : 8 < N) : Fepoch_nobody N = some ⟨0, z8, z8, m1⟩ := by
  unfold Fepoch_nobody
  rw [show (⟨0, (⟨0, Vector.replicate 8 default, Vector.replicate 8 default, Vector.replicate 8 default⟩ : GEpoch)⟩ : Sepoch_nobodyx3) = (fun k : Nat => (⟨(k : Int), ⟨0, z8, z8, mv k⟩⟩ : Sepoch_nobodyx3)) 0 from by simp only [mv_zero]; rfl]
  rw [iter_path (fun k : Nat => (⟨(k : Int), ⟨0, z8, z8, mv k⟩⟩ : Sepoch_nobodyx3)) 8 (fun _ => none) (some ⟨0, z8, z8, m1⟩) ?_ ?_ N hN]
  · exact none_find _
  · intro k next hk
    simp only [natCast_lt8 hk, ibB_of (show (0 : Int) ≤ k by omega) (show (k : Int) < 8 by omega), cond_true]
    rw [wrap64 (by omega) (by omega), Int.toNat_natCast, mv_succ]; rfl
  · intro next
    simp only [mv_8]; rfl
theorem dup_of {k : Nat} (hk : k < l.length) (h : lget l (k : Int) default ∈ l.take k) : ¬ l.Nodup := by
  intro hn
  have h2 : (l.take (k + 1)).Nodup := List.Sublist.nodup (List.take_sublist _ _) hn
  rw [take_succ hk, List.nodup_append] at h2
  exact h2.2.2 _ h _ (by simp) rfl
theorem nodup_snoc {k : Nat} (hk : k < l.length) (hn : (l.take k).Nodup) (h : lget l (k : Int) default ∉ l.take k) : (l.take (k + 1)).Nodup := by
  rw [take_succ hk, List.nodup_append]
  refine ⟨hn, by simp, fun a ha b hb hab => ?_⟩
  rw [List.mem_singleton] at hb
  exact h (by rw [← hb, ← hab]; exact ha)
theorem start_eq (hN : l.length + 9 ≤ N) (hl : l.length ≤ 9223372036854775807) : Fepoch_Start N l = some (strt l) := by
  unfold Fepoch_Start strt
  by_cases h0 : l = []
  · subst h0; rfl
  have hlen : ((l.length : Int) == 0) = false := by
    have : l.length ≠ 0 := by simpa using h0
    simp; exact h0
  simp only [hlen, Bool.not_false, cond_true, Bool.false_or]
  rw [contains_eq (by omega) hl, Option.bind_some]
  by_cases hs : ∀ x ∈ l, sit x
  case neg => rw [if_pos (.inr hs), decide_eq_true hs]; rfl
  rw [if_neg (by simp only [not_or]; exact ⟨h0, fun h => h hs⟩), decide_eq_false (fun h => h hs), cond_false, nobody_eq (by omega), Option.bind_some]
  refine iter_run (fun q : Sepoch_Startx5 => ∃ k : Nat, q.t18 = k ∧ k ≤ l.length ∧ q.b1 = stS (l.take k) ∧ (l.take k).Nodup) (fun q => (l.length - q.t18).toNat) ?_ N _ ⟨0, rfl, by omega, by rw [List.take_zero, stE_nil], by simp⟩ (by simp; omega)
  rintro ⟨t, a, b⟩ nx ⟨k, rfl, hk, hb, hq⟩ ih
  simp only at hb ih ⊢
  subst hb
  by_cases hlt : k < l.length
  · have h1 : decide ((k : Int) < (l.length : Int)) = true := by simpa using hlt
    have hm := hs _ (lget_mem (l := l) (i := (k : Int)) default (by omega) (by omega))
    rw [h1, ibB_of (Int.natCast_nonneg k) (by omega), ibB_of hm.1 hm.2]
    simp only [cond_true]
    have hg : vget (stS (l.take k)).States (lget l (k : Int) default).toNat default = if inL (l.take k) (lget l (k : Int) default).toNat then 1 else 0 := ones_get _ (by have := hm.1; have := hm.2; omega)
    rw [hg]
    have hi := inL_iff (l.take k) (lget l (k : Int) default).toNat
    rw [show ((lget l (k : Int) default).toNat : Int) = lget l (k : Int) default by have := hm.1; omega] at hi
    by_cases hin : lget l (k : Int) default ∈ l.take k
    · rw [hi.2 hin, if_pos (dup_of hlt hin)]; rfl
    · have : inL (l.take k) (lget l (k : Int) default).toNat = false := by
        rw [Bool.eq_false_iff]; exact fun h => hin (hi.1 h)
      rw [this]
      simp only [Bool.false_eq_true, if_false, beq_self_eq_true, Bool.not_true, cond_false]
      rw [wrap64 (by omega) (by omega)]
      refine ih _ ⟨k + 1, rfl, by omega, ?_, nodup_snoc hlt hq hin⟩ (by simp; omega)
      rw [take_succ hlt, ← stE_step hm]; rfl
  · have h1 : decide ((k : Int) < (l.length : Int)) = false := by simpa using hlt
    rw [h1, cond_false]
    rw [List.take_of_length_le (by omega)] at hq ⊢
    rw [if_neg (fun h => h hq)]
end
end Go.Proofs.Ytjjnclgkppbpnaa
