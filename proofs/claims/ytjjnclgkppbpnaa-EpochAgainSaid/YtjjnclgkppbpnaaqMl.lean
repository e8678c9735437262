/-
What a machine writes, and the law of loading.
-/
import Derived.Test.YtjjnclgkppbpnaaqMk
import Derived.KernelRfl
set_option linter.unusedVariables false
set_option linter.unusedSimpArgs false
namespace Go.Proofs.Ytjjnclgkppbpnaa
open Go Go.Ev
def epB (e : GEpoch) : List Int := (epC e).flatten
theorem flat_len {l : List Int} (h : ∀ n ∈ l, R64 n) : (l.map pI).flatten.length ≤ 10 * l.length := by
  induction l with
  | nil => simp
  | cons x r ih =>
    have h1 := pI_len (h x (by simp))
    have h2 := ih fun n hn => h n (by simp [hn])
    simp only [List.map_cons, List.flatten_cons, List.length_append, List.length_cons]
    omega
theorem epB_len {e : GEpoch} (h : MayEp e) : (epB e).length ≤ 250 := by
  obtain ⟨h1, h2, h3⟩ := ep_states h
  have a1 := flat_len h1
  have a2 := flat_len h2
  have a3 := flat_len h3
  have a0 := pI_len (cnt64 h.1)
  simp only [Vector.length_toList] at a1 a2 a3
  unfold epB epC
  simp only [List.flatten_append, List.map_cons, List.map_nil, List.flatten_cons, List.flatten_nil, List.append_nil, List.length_append]
  omega
def bytesM (l : List GEpoch) : List Int := pI (l.length : Int) ++ (l.map epB).flatten
section
variable {N : Nat} {w : List Int}
theorem made_eq (hN : 20 ≤ N) (hw : w.length ≤ 1048576) : Frecord_made_052 N true w = some (0, true, w) := by
  have h0 : Fwire_number N 0 = some [0] := by
    obtain ⟨k, rfl⟩ : ∃ k, N = k + 20 := ⟨N - 20, by omega⟩
    kernel_rfl
  have h1 : ∃ e, Fwire_Writer_put_d39 N [0] true w = some (e, true) ∧ (e == 2) = false := by
    unfold Fwire_Writer_put_d39 Fwire_Writer_none_384
    simp only [Option.bind_some, Bool.not_true, cond_false]
    cases decide (IntKind.i64.wrap (1048576 - (w.length : Int)) < (([0] : List Int).length : Int)) with
    | true => exact ⟨3, rfl, rfl⟩
    | false =>
      rw [lenB_of (by simp; omega)]
      exact ⟨0, rfl, rfl⟩
  obtain ⟨e, h1, h2⟩ := h1
  unfold Frecord_made_052 Fwire_Writer_Int_204
  rw [h0, Option.bind_some, h1, Option.bind_some, Option.bind_some]
  simp only [h2, cond_false]
theorem wlen_eq (w : List Int) : Fwire_Writer_Len_052 N true w = some ((w.length : Int), true, w) := rfl
theorem put1ep_eq (hN : 20 ≤ N) {o : GEpoch} (ho : MayEp o) {e : Int} {w : List Int} (hw : w.length ≤ 1048576) : Frecord_PutEpoch_1_1be N e o true w = some ((wr e w (epC o)).1, o, true, (wr e w (epC o)).2.2) := by
  unfold Frecord_PutEpoch_1_1be
  rw [epw_eq hN ho hw]; rfl
theorem wr_fit' {e : Int} {w : List Int} {cs : List (List Int)} (h : w.length + cs.flatten.length ≤ 1048576) : wr e w cs = (e, true, w ++ cs.flatten) := by
  unfold wr; rw [puts_fit cs e w h]
theorem putEp_eq (hN : 20 ≤ N) {o : GEpoch} (ho : MayEp o) (hw : w.length + 250 ≤ 1048576) : Frecord_PutEpoch_26c N o true w = some (0, true, w ++ epB o) := by
  have hlen := epB_len ho
  have hf : wr 0 [] (epC o) = (0, true, epB o) := wr_fit' (by simp only [List.length_nil]; unfold epB at hlen; omega)
  unfold Frecord_PutEpoch_26c Frecord_CheckEpoch
  rw [made_eq hN (by omega), Option.bind_some, mayEpoch_eq hN, Option.bind_some, decide_eq_true ho]
  have : Frecord_verdict N true = some 0 := rfl
  rw [this]
  simp only [Option.bind_some, beq_self_eq_true, Bool.not_true, cond_false]
  unfold Frecord_whole_94e Fwire_NewWriter
  rw [Option.bind_some, put1ep_eq hN ho (by simp), hf, Option.bind_some]
  simp only [beq_self_eq_true, Bool.not_true, Bool.not_false, cond_true, Bool.false_or, wlen_eq, Option.bind_some]
  rw [wrap64 (by omega) (by omega)]
  have : decide ((1048576 : Int) - (w.length : Int) < ((epB o).length : Int)) = false := by simp; omega
  rw [this]
  simp only [cond_false]
  rw [put1ep_eq hN ho (by omega), wr_fit' (by unfold epB at hlen; omega)]
  rfl
theorem take_succE {l : List GEpoch} {k : Nat} (hk : k < l.length) : l.take (k + 1) = l.take k ++ [lget l (k : Int) default] := by
  rw [List.take_add_one, lget_nat]; simp [List.getD, hk]
theorem flat_epB {l : List GEpoch} (h : ∀ e ∈ l, MayEp e) : (l.map epB).flatten.length ≤ 250 * l.length := by
  induction l with
  | nil => simp
  | cons x r ih =>
    have h1 := epB_len (h x (by simp))
    have h2 := ih fun n hn => h n (by simp [hn])
    simp only [List.map_cons, List.flatten_cons, List.length_append, List.length_cons]
    omega
theorem R64_len {n : Nat} (h : n ≤ 1025) : R64 (n : Int) := ⟨by omega, by omega⟩
theorem mbytes_eq (hN : 2000 ≤ N) {l : List GEpoch} (h0 : l ≠ []) (hl : l.length ≤ 1025) (hm : ∀ e ∈ l, MayEp e) : Fepoch_Machine_Bytes_ce0 N l = some (bytesM l, l) := by
  unfold Fepoch_Machine_Bytes_ce0 Fepoch_Machine_none_ce0
  have hz : ((l.length : Int) == 0) = false := by simp; exact h0
  rw [hz, Option.bind_some]
  simp only [cond_false]
  unfold Fwire_NewWriter
  rw [Option.bind_some]
  simp only
  have hp := pI_len (R64_len hl)
  rw [F31_eq (by omega) (R64_len hl) (by simp), Option.bind_some]
  have : putAll [] (vint (zig (l.length : Int))) = (0, true, pI (l.length : Int)) := by
    unfold putAll; unfold pI at hp; rw [if_pos (by simp only [List.length_nil]; omega)]; rfl
  rw [this]
  simp only
  refine iter_run (fun q : Sepoch_Machine_Bytes_ce0x6 => ∃ k : Nat, q.t21 = k ∧ k ≤ l.length ∧ q.b2 = true ∧ q.b22 = pI (l.length : Int) ++ ((l.take k).map epB).flatten) (fun q => (l.length - q.t21).toNat) ?_ N _
    ⟨0, rfl, by omega, rfl, by simp⟩ (by simp; omega)
  rintro ⟨t, b, c⟩ nx ⟨k, rfl, hk, rfl, rfl⟩ ih
  simp only at ih ⊢
  have hfl := flat_epB (l := l.take k) fun e he => hm e (List.mem_of_mem_take he)
  rw [List.length_take] at hfl
  by_cases hlt : k < l.length
  · have hmem : lget l (k : Int) default ∈ l := lget_mem default (by omega) (by omega)
    rw [decide_eq_true (show (k : Int) < (l.length : Int) by omega), ibB_of (Int.natCast_nonneg k) (by omega)]
    simp only [cond_true]
    rw [putEp_eq (by omega) (hm _ hmem) (by rw [List.length_append]; omega), Option.bind_some, wrap64 (by omega) (by omega)]
    refine ih _ ⟨k + 1, rfl, by omega, rfl, ?_⟩ (by simp; omega)
    simp only
    rw [take_succE hlt, List.map_append, List.flatten_append, List.append_assoc]
    simp
  · rw [decide_eq_false (show ¬ (k : Int) < (l.length : Int) by omega), cond_false, F20_eq (by rw [List.length_append]; omega), Option.bind_some]
    rw [List.take_of_length_le (by omega)]
    rfl
end
theorem eqE_self (e : GEpoch) : eqE e e = true := (eqE_iff e e).2 rfl
theorem cur_eq (N : Nat) {l : List GEpoch} (h0 : l ≠ []) (hl : l.length ≤ 1025) : Fepoch_Machine_Current_ce0 N l = some (lastE l, l) := by
  have hp := List.length_pos_iff.2 h0
  unfold Fepoch_Machine_Current_ce0 Fepoch_Machine_none_ce0
  have hz : ((l.length : Int) == 0) = false := by simp; exact h0
  rw [hz, Option.bind_some]
  simp only [cond_false]
  rw [wrap64 (by omega) (by omega), ibB_of (by omega) (by omega)]; rfl
end Go.Proofs.Ytjjnclgkppbpnaa
