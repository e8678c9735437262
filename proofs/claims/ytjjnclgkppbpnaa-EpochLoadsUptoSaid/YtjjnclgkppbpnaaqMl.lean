/-
What a machine writes, and the law of loading.
-/
import Derived.Test.YtjjnclgkppbpnaaqMk
import Derived.KernelRfl
set_option linter.unusedVariables false
set_option linter.unusedSimpArgs false
namespace Go.Proofs.Ytjjnclgkppbpnaa
open Go Go.Ev
def epB (e : GEpoch) : List Int := (epC e).flatten
theorem flat_len {l : List Int} (h : ∀ n ∈ l, R64 n) : (l.map pI).flatten.length ≤ 10 * l.length := by
  induction l with
  | nil => simp
  | cons x r ih =>
    have h1 := pI_len (h x (by simp))
    have h2 := ih fun n hn => h n (by simp [hn])
    simp only [List.map_cons, List.flatten_cons, List.length_append, List.length_cons]
    omega
theorem epB_len {e : GEpoch} (h : MayEp e) : (epB e).length ≤ 250 := by
  obtain ⟨h1, h2, h3⟩ := ep_states h
  have a1 := flat_len h1
  have a2 := flat_len h2
  have a3 := flat_len h3
  have a0 := pI_len (cnt64 h.1)
  simp only [Vector.length_toList] at a1 a2 a3
  unfold epB epC
  simp only [List.flatten_append, List.map_cons, List.map_nil, List.flatten_cons, List.flatten_nil, List.append_nil, List.length_append]
  omega
def bytesM (l : List GEpoch) : List Int := pI (l.length : Int) ++ (l.map epB).flatten
section
variable {N : Nat} {w : List Int}
theorem made_eq (hN : 20 ≤ N) (hw : w.length ≤ 1048576) : Frecord_made_052 N true w = some (0, true, w) := by
  have h0 : Fwire_number N 0 = some [0] := by
    obtain ⟨k, rfl⟩ : ∃ k, N = k + 20 := ⟨N - 20, by omega⟩
    kernel_rfl
  have h1 : ∃ e, Fwire_Writer_put_d39 N [0] true w = some (e, true) ∧ (e == 2) = false := by
    unfold Fwire_Writer_put_d39 Fwire_Writer_none_384
    simp only [Option.bind_some, Bool.not_true, cond_false]
    cases decide (IntKind.i64.wrap (1048576 - (w.length : Int)) < (([0] : List Int).length : Int)) with
    | true => exact ⟨3, rfl, rfl⟩
    | false =>
      rw [lenB_of (by simp; omega)]
      exact ⟨0, rfl, rfl⟩
  obtain ⟨e, h1, h2⟩ := h1
  unfold Frecord_made_052 Fwire_Writer_Int_204
  rw [h0, Option.bind_some, h1, Option.bind_some, Option.bind_some]
  simp only [h2, cond_false]
theorem wlen_eq (w : List Int) : Fwire_Writer_Len_052 N true w = some ((w.length : Int), true, w) := rfl
theorem put1ep_eq (hN : 20 ≤ N) {o : GEpoch} (ho : MayEp o) {e : Int} {w : List Int} (hw : w.length ≤ 1048576) : Frecord_PutEpoch_1_1be N e o true w = some ((wr e w (epC o)).1, o, true, (wr e w (epC o)).2.2) := by
  unfold Frecord_PutEpoch_1_1be
  rw [epw_eq hN ho hw]; rfl
theorem wr_fit' {e : Int} {w : List Int} {cs : List (List Int)} (h : w.length + cs.flatten.length ≤ 1048576) : wr e w cs = (e, true, w ++ cs.flatten) := by
  unfold wr; rw [puts_fit cs e w h]
theorem putEp_eq (hN : 20 ≤ N) {o : GEpoch} (ho : MayEp o) (hw : w.length + 250 ≤ 1048576) : Frecord_PutEpoch_26c N o true w = some (0, true, w ++ epB o) := by
  have hlen := epB_len ho
  have hf : wr 0 [] (epC o) = (0, true, epB o) := wr_fit' (by simp only [List.length_nil]; unfold epB at hlen; omega)
  unfold Frecord_PutEpoch_26c Frecord_CheckEpoch
  rw [made_eq hN (by omega), Option.bind_some, mayEpoch_eq hN, Option.bind_some, decide_eq_true ho]
  have : Frecord_verdict N true = some 0 := rfl
  rw [this]
  simp only [Option.bind_some, beq_self_eq_true, Bool.not_true, cond_false]
  unfold Frecord_whole_94e Fwire_NewWriter
  rw [Option.bind_some, put1ep_eq hN ho (by simp), hf, Option.bind_some]
  simp only [beq_self_eq_true, Bool.not_true, Bool.not_false, cond_true, Bool.false_or, wlen_eq, Option.bind_some]
  rw [wrap64 (by omega) (by omega)]
  have : decide ((1048576 : Int) - (w.length : Int) < ((epB o).length : Int)) = false := by simp; omega
  rw [this]
  simp only [cond_false]
  rw [put1ep_eq hN ho (by omega), wr_fit' (by unfold epB at hlen; omega)]
  rfl
theorem take_succE {l : List GEpoch} {k : Nat} (hk : k < l.length) : l.take (k + 1) = l.take k ++ [lget l (k : Int) default] := by
  rw [List.take_add_one, lget_nat]; simp [List.getD, hk]
theorem flat_epB {l : List GEpoch} (h : ∀ e ∈ l, MayEp e) : (l.map epB).flatten.length ≤ 250 * l.length := by
  induction l with
  | nil => simp
  | cons x r ih =>
    have h1 := epB_len (h x (by simp))
    have h2 := ih fun n hn => h n (by simp [hn])
    simp only [List.map_cons, List.flatten_cons, List.length_append, List.length_cons]
    omega
theorem R64_len {n : Nat} (h : n ≤ 1025) : R64 (n : Int) := ⟨by omega, by omega⟩
theorem mbytes_eq (hN : 2000 ≤ N) {l : List GEpoch} (h0 : l ≠ []) (hl : l.length ≤ 1025) (hm : ∀ e ∈ l, MayEp e) : Fepoch_Machine_Bytes_ce0 N l = some (bytesM l, l) := by
  unfold Fepoch_Machine_Bytes_ce0 Fepoch_Machine_none_ce0
  have hz : ((l.length : Int) == 0) = false := by simp; exact h0
  rw [hz, Option.bind_some]
  simp only [cond_false]
  unfold Fwire_NewWriter
  rw [Option.bind_some]
  simp only
  have hp := pI_len (R64_len hl)
  rw [F31_eq (by omega) (R64_len hl) (by simp), Option.bind_some]
  have : putAll [] (vint (zig (l.length : Int))) = (0, true, pI (l.length : Int)) := by
    unfold putAll; unfold pI at hp; rw [if_pos (by simp only [List.length_nil]; omega)]; rfl
  rw [this]
  simp only
  refine iter_run (fun q : Sepoch_Machine_Bytes_ce0x6 => ∃ k : Nat, q.t21 = k ∧ k ≤ l.length ∧ q.b2 = true ∧ q.b22 = pI (l.length : Int) ++ ((l.take k).map epB).flatten) (fun q => (l.length - q.t21).toNat) ?_ N _
    ⟨0, rfl, by omega, rfl, by simp⟩ (by simp; omega)
  rintro ⟨t, b, c⟩ nx ⟨k, rfl, hk, rfl, rfl⟩ ih
  simp only at ih ⊢
  have hfl := flat_epB (l := l.take k) fun e he => hm e (List.mem_of_mem_take he)
  rw [List.length_take] at hfl
  by_cases hlt : k < l.length
  · have hmem : lget l (k : Int) default ∈ l := lget_mem default (by omega) (by omega)
    rw [decide_eq_true (show (k : Int) < (l.length : Int) by omega), ibB_of (Int.natCast_nonneg k) (by omega)]
    simp only [cond_true]
    rw [putEp_eq (by omega) (hm _ hmem) (by rw [List.length_append]; omega), Option.bind_some, wrap64 (by omega) (by omega)]
    refine ih _ ⟨k + 1, rfl, by omega, rfl, ?_⟩ (by simp; omega)
    simp only
    rw [take_succE hlt, List.map_append, List.flatten_append, List.append_assoc]
    simp
  · rw [decide_eq_false (show ¬ (k : Int) < (l.length : Int) by omega), cond_false, F20_eq (by rw [List.length_append]; omega), Option.bind_some]
    rw [List.take_of_length_le (by omega)]
    rfl
end
theorem ldP_bytes {B : List Int} (hB : okB B) : ∀ (d : Nat) (l : List GEpoch) (c : List Int) (x : List GEpoch × List Int), c <:+ B → ldP d l c = some x →
    ∃ m, x.1 = l ++ m ∧ m.length = d ∧ c = (m.map epB).flatten ++ x.2 ∧ ∀ e ∈ m, chk e = true
  | 0, l, c, x, _, h => by cases h; exact ⟨[], by simp, rfl, by simp, by simp⟩
  | d + 1, l, c, x, hc, h => by
    rw [ldP] at h
    split at h
    · rename_i hq
      have e := rdE_id (fun n => sm_in) hq.2.1
      have h0 : (rdE id (0, c)).2.1 = 0 := by rw [← e]; exact hq.1
      obtain ⟨_, h1⟩ := rdE_one (s := (0, c)) hB hc h0
      rw [← e] at h1
      have hsuf : (rdE sm (0, c)).2.2 <:+ B := by
        refine List.IsSuffix.trans ?_ hc
        simp only at h1
        exact ⟨_, h1.symm⟩
      obtain ⟨m, a1, a2, a3, a4⟩ := ldP_bytes hB d _ _ x hsuf h
      refine ⟨(rdE sm (0, c)).1 :: m, by simp [a1], by simp [a2], ?_, ?_⟩
      · rw [List.map_cons, List.flatten_cons, List.append_assoc, ← a3]; exact h1
      · intro e he
        rw [List.mem_cons] at he
        rcases he with rfl | he
        · exact hq.2.1
        · exact a4 e he
    · cases h
theorem loadP_bytes {b : List Int} (hB : okB b) {l : List GEpoch} (h : loadP b = some l) : b = bytesM l ∧ l ≠ [] ∧ l.length ≤ 1024 ∧ ∀ e ∈ l, chk e = true := by
  unfold loadP at h
  split at h
  · rename_i hc
    rw [Option.bind_eq_some_iff] at h
    obtain ⟨x, h1, h2⟩ := h
    obtain ⟨m, a1, a2, a3, a4⟩ := ldP_bytes hB _ _ _ x (rI_suffix b) h1
    unfold finP at h2
    split at h2
    · rename_i hf
      cases h2
      rw [List.nil_append] at a1
      rw [hf.1, List.append_nil] at a3
      obtain ⟨hb, _⟩ := rI_one hB.2 hc.1
      refine ⟨?_, ?_, ?_, ?_⟩
      · rw [hb, a3, a1]; unfold bytesM pI
        rw [a2, show (((rI b).1.toNat : Nat) : Int) = (rI b).1 by omega]
      · rw [a1]; intro h; rw [h] at a2; simp only [List.length_nil] at a2; omega
      · rw [a1, a2]; omega
      · rw [a1]; exact a4
    · cases h2
  · cases h
theorem live_2000 : Flaw17_live 2000 = some true := by kernel_rfl
theorem eqE_self (e : GEpoch) : eqE e e = true := (eqE_iff e e).2 rfl
theorem cur_eq (N : Nat) {l : List GEpoch} (h0 : l ≠ []) (hl : l.length ≤ 1025) : Fepoch_Machine_Current_ce0 N l = some (lastE l, l) := by
  have hp := List.length_pos_iff.2 h0
  unfold Fepoch_Machine_Current_ce0 Fepoch_Machine_none_ce0
  have hz : ((l.length : Int) == 0) = false := by simp; exact h0
  rw [hz, Option.bind_some]
  simp only [cond_false]
  rw [wrap64 (by omega) (by omega), ibB_of (by omega) (by omega)]; rfl
theorem loads_law {b : List Int} (hl : b.length ≤ 70368744177664) (hb : ∀ x ∈ b, byteR x) : Flaw17_EpochLoads 2000 b = some true := by
  have hB : okB b := ⟨hl, hb⟩
  unfold Flaw17_EpochLoads
  rw [load_eq (Nat.le_refl _) hB]
  obtain ⟨⟨l2, ok⟩, h1, h2⟩ := refload_eq (N := 2000) (Nat.le_refl _) hB
  rw [h1, ← load_same] at *
  cases hp : loadP b with
  | none =>
    rw [hp] at h2
    have : ok = false := h2.1 rfl
    subst this
    simp only [Option.bind_some, cond_true, live_2000]
    rfl
  | some l =>
    rw [hp] at h2
    obtain ⟨rfl, rfl⟩ := Prod.mk.inj (h2.2 l rfl)
    obtain ⟨a1, a2, a3, a4⟩ := loadP_bytes hB hp
    have hpos := List.length_pos_iff.2 a2
    simp only [Option.bind_some, cond_false, live_2000]
    rw [show ((((!true || !(true == true)) || !(((0 : Int) == 0) == true)) || !true && !((0 : Int) == 1))) = false from rfl, cond_false, cur_eq 2000 a2 (by omega), Option.bind_some]
    rw [wrap64 (by omega) (by omega), ibB_of (by omega) (by omega), cond_true]
    have he : ((lastE l2).Number == (lget l2 ((l2.length : Int) - 1) default).Number && (vbeq beq3 (lastE l2).States (lget l2 ((l2.length : Int) - 1) default).States && (vbeq beq2 (lastE l2).Seals (lget l2 ((l2.length : Int) - 1) default).Seals && vbeq beq3 (lastE l2).Sponsor (lget l2 ((l2.length : Int) - 1) default).Sponsor))) = true := eqE_self (lastE l2)
    simp only [he, cond_true]
    rw [mbytes_eq (Nat.le_refl _) a2 (by omega) (fun e h => chk_may (a4 e h)), Option.bind_some, ← a1]
    unfold Fbytes_Equal
    simp
end Go.Proofs.Ytjjnclgkppbpnaa
