/-
The law of two machines of the same entries.
-/
import Derived.Test.YtjjnclgkppbpnaaqMn
import Derived.KernelRfl
set_option linter.unusedVariables false
set_option linter.unusedSimpArgs false
namespace Go.Proofs.Ytjjnclgkppbpnaa
open Go Go.Ev
def apM (x : GEntry) (l : List GEpoch) : Int × List GEpoch :=
  if x.Kind = 0 then (0, l) else if (app (lastE l) x).2 = 0 then (0, l ++ [(app (lastE l) x).1]) else ((app (lastE l) x).2, l)
theorem apM_mach {s : GEpoch} {l : List GEpoch} (h : Mach s l) (x : GEntry) : Mach s (apM x l).2 := by
  unfold apM
  split
  · exact h
  · split
    · rename_i h0
      exact .step h (app_fol (e := lastE l) (x := x) (Prod.ext rfl h0))
    · exact h
section
variable {N : Nat} {m : List Int}
theorem live_N (hN : 100 ≤ N) : Flaw17_live N = some true := by
  obtain ⟨k, rfl⟩ : ∃ k, N = k + 100 := ⟨N - 100, by omega⟩
  kernel_rfl
theorem apply_eq (hN : 8 < N) {s : GEpoch} (hs : chk s = true) (hn : s.Number = 0) {l : List GEpoch} (h : Mach s l) (x : GEntry) : Fepoch_Machine_Apply_9cc N x l = some (apM x l) := by
  obtain ⟨a1, a2, a3, a4, a5, a6⟩ := h.ok hs hn
  have hl := h.len hs hn
  unfold Fepoch_Machine_Apply_9cc Fepoch_Machine_none_ce0 apM
  have hz : ((l.length : Int) == 0) = false := by simp; exact a1
  rw [hz, Option.bind_some]
  simp only [cond_false]
  by_cases hk : x.Kind = 0
  · rw [if_pos hk, show (x.Kind == 0) = true by simpa using hk]; rfl
  · rw [if_neg hk, show (x.Kind == 0) = false by simpa using hk, cond_false, cur_eq N a1 (by omega), Option.bind_some]
    simp only
    rw [F12_eq hN, Option.bind_some]
    by_cases h0 : (app (lastE l) x).2 = 0
    · rw [if_pos h0, h0, lenB_of (by simp only [List.length_cons, List.length_nil]; omega)]; rfl
    · rw [if_neg h0, show ((app (lastE l) x).2 == 0) = false by simpa using h0]; rfl
theorem new_eq (hN : m.length + 9 ≤ N) (hl : m.length ≤ 9223372036854775807) : Fepoch_New N m = some (if (strt m).2 = 0 then (false, 0, [stS m], default) else (true, default, default, (strt m).2)) := by
  unfold Fepoch_New
  rw [start_eq hN hl, Option.bind_some]
  by_cases h0 : (strt m).2 = 0
  · rw [if_pos h0, (strt_chk h0).2]; rfl
  · rw [if_neg h0, show ((strt m).2 == 0) = false by simpa using h0]; rfl
theorem equal_self (N : Nat) (l : List Int) : Fbytes_Equal N l l = some true := by simp [Fbytes_Equal]
theorem again_law {script more : List GEntry} (hN : m.length + script.length + more.length + 2000 ≤ N) (hm : m.length ≤ 9223372036854775807) (hs : script.length ≤ 9223372036854775807) (hr : more.length ≤ 9223372036854775807) :
    Flaw17_EpochAgain N m script more = some true := by
  unfold Flaw17_EpochAgain
  rw [new_eq (by omega) hm]
  simp only [Option.bind_some]
  by_cases h0 : (strt m).2 = 0
  case neg =>
    have hb : ((strt m).2 == 0) = false := by simpa using h0
    simp only [if_neg h0, cond_true, beq_self_eq_true, Bool.not_true, Bool.not_false, live_N (show 100 ≤ N by omega), Option.bind_some, Bool.or_self, cond_false, hb, Bool.false_or]
  simp only [if_pos h0, cond_true, cond_false, beq_self_eq_true, Bool.not_true, Bool.not_false, live_N (show 100 ≤ N by omega), Option.bind_some, Bool.or_self]
  have hst := (strt_chk h0)
  have hs0 : m ≠ [] ∧ ∀ x ∈ m, sit x := by
    unfold strt at h0
    split at h0
    · exact absurd h0 (by decide)
    · rename_i h1; simpa only [not_or, Classical.not_not] using h1
  have hc := stS_chk hs0.1 hs0.2
  refine iter_run (fun q : Slaw17_EpochAgainx8c => ∃ (k : Nat) (l : List GEpoch), q.t43 = k ∧ k ≤ script.length ∧ q.b0 = l ∧ q.b2 = l ∧ Mach (stS m) l) (fun q => (script.length - q.t43).toNat) ?_ N _
    ⟨0, _, rfl, by omega, rfl, rfl, .base⟩ (by simp; omega)
  rintro ⟨t, b, c⟩ nx ⟨k, l, h1, hk, h2, h3, hM⟩ ih
  simp only at h1 h2 h3 ih ⊢
  subst h1 h2 h3
  by_cases hlt : k < script.length
  · rw [decide_eq_true (show (k : Int) < (script.length : Int) by omega), ibB_of (Int.natCast_nonneg k) (by omega)]
    simp only [cond_true, apply_eq (show 8 < N by omega) hc rfl hM, Option.bind_some, beq_self_eq_true, Bool.not_true, cond_false]
    rw [wrap64 (by omega) (by omega)]
    exact ih _ ⟨k + 1, _, rfl, by omega, rfl, rfl, apM_mach hM _⟩ (by simp; omega)
  rw [decide_eq_false (show ¬ (k : Int) < (script.length : Int) by omega), cond_false]
  obtain ⟨a1, a2, a3, a4, a5, a6⟩ := hM.ok hc rfl
  have hll := hM.len hc rfl
  have hby := mbytes_eq (N := N) (by omega) a1 (by omega) (fun e h => chk_may (a4 e h))
  simp only [hby, Option.bind_some]
  rw [load_eq (by omega) (bytesM_ok hll a4), load_back hs0.1 hs0.2 hM]
  simp only [Option.bind_some, cond_false, beq_self_eq_true, Bool.not_true, Bool.false_and, Bool.not_false, cond_true, hby, equal_self, Bool.or_self]
  clear ih hlt hk hby a1 a2 a3 a4 a5 a6 hll
  refine iter_run (fun q : Slaw17_EpochAgainx17g => ∃ (k : Nat) (l : List GEpoch), q.t77 = k ∧ k ≤ more.length ∧ q.b0 = l ∧ q.b6 = l ∧ Mach (stS m) l) (fun q => (more.length - q.t77).toNat) ?_ N _
    ⟨0, _, rfl, by omega, rfl, rfl, hM⟩ (by simp; omega)
  rintro ⟨t, b, c⟩ nx ⟨k, l, h1, hk, h2, h3, hM⟩ ih
  simp only at h1 h2 h3 ih ⊢
  subst h1 h2 h3
  by_cases hlt : k < more.length
  · rw [decide_eq_true (show (k : Int) < (more.length : Int) by omega), ibB_of (Int.natCast_nonneg k) (by omega)]
    simp only [cond_true, apply_eq (show 8 < N by omega) hc rfl hM, Option.bind_some, beq_self_eq_true, Bool.not_true, Bool.not_false, cond_false]
    have hM2 := apM_mach hM (lget more (k : Int) default)
    obtain ⟨a1, a2, a3, a4, a5, a6⟩ := hM2.ok hc rfl
    have hll := hM2.len hc rfl
    have hby := mbytes_eq (N := N) (by omega) a1 (by omega) (fun e h => chk_may (a4 e h))
    simp only [hby, Option.bind_some, equal_self, Bool.not_true, Bool.or_self, cond_false]
    rw [wrap64 (by omega) (by omega)]
    exact ih _ ⟨k + 1, _, rfl, by omega, rfl, rfl, hM2⟩ (by simp; omega)
  · rw [decide_eq_false (show ¬ (k : Int) < (more.length : Int) by omega), cond_false]
end
end Go.Proofs.Ytjjnclgkppbpnaa
