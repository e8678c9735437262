/-
Which operations may be, what is put of one, and the law RecordFull.
-/
import Derived.Test.YteinehkdjkobnaaRa
set_option linter.unusedVariables false
set_option linter.unusedSimpArgs false
namespace Go.Proofs.Yteinehkdjkobnaa
open Go Go.Ev

theorem begun_eq {N : Nat} (hN : 60 ≤ N) : Flaw04_begun N = some true := by
  obtain ⟨k, rfl⟩ : ∃ k, N = k + 60 := ⟨N - 60, by omega⟩
  kernel_rfl
section
variable {N : Nat}
theorem count1 (hN : 5 ≤ N) (a : Int) : Frecord_count N [a] = some (decide (0 ≤ a ∧ a ≤ 1099511627776)) := by
  obtain ⟨k, rfl⟩ : ∃ k, N = k + 5 := ⟨N - 5, by omega⟩
  have : Frecord_count (k + 5) [a] = (bif (decide (a < 0)) || (decide (1099511627776 < a)) then some false else some true) := by kernel_rfl
  rw [this]
  by_cases h1 : a < 0 <;> by_cases h2 : 1099511627776 < a <;> simp [h1, h2] <;> omega
theorem site1 (hN : 5 ≤ N) (a : Int) : Frecord_site N [a] = some (decide (0 ≤ a ∧ a < 8)) := by
  obtain ⟨k, rfl⟩ : ∃ k, N = k + 5 := ⟨N - 5, by omega⟩
  have : Frecord_site (k + 5) [a] = (bif (decide (a < 0)) || (decide (8 ≤ a)) then some false else some true) := by kernel_rfl
  rw [this]
  by_cases h1 : a < 0 <;> by_cases h2 : 8 ≤ a <;> simp [h1, h2] <;> omega
theorem node2 (hN : 5 ≤ N) (a b : Int) : Frecord_node N [a, b] = some (decide ((0 ≤ a ∧ a ≤ 1125899906842624) ∧ (0 ≤ b ∧ b ≤ 1125899906842624))) := by
  obtain ⟨k, rfl⟩ : ∃ k, N = k + 5 := ⟨N - 5, by omega⟩
  have : Frecord_node (k + 5) [a, b] = (bif (decide (a < 0)) || (decide (1125899906842624 < a)) then some false else bif (decide (b < 0)) || (decide (1125899906842624 < b)) then some false else some true) := by kernel_rfl
  rw [this]
  by_cases h1 : a < 0 <;> by_cases h2 : 1125899906842624 < a <;> by_cases h3 : b < 0 <;> by_cases h4 : 1125899906842624 < b <;> simp [h1, h2, h3, h4] <;> omega
theorem text3 (hN : 6 ≤ N) (a b c : List UInt8) : Frecord_text N [a, b, c] = some (decide (a.length ≤ 255 ∧ b.length ≤ 255 ∧ c.length ≤ 255)) := by
  obtain ⟨k, rfl⟩ : ∃ k, N = k + 6 := ⟨N - 6, by omega⟩
  have : Frecord_text (k + 6) [a, b, c] = (bif decide (255 < (a.length : Int)) then some false else bif decide (255 < (b.length : Int)) then some false else bif decide (255 < (c.length : Int)) then some false else some true) := by kernel_rfl
  rw [this]
  by_cases h1 : 255 < (a.length : Int) <;> by_cases h2 : 255 < (b.length : Int) <;> by_cases h3 : 255 < (c.length : Int) <;> simp [h1, h2, h3] <;> omega
theorem mayOp_eq (hN : 10 ≤ N) (o : GOp) : Frecord_mayOp N o = some (decide (MayOp o)) := by
  unfold Frecord_mayOp
  simp only [count1 (N := N) (by omega), site1 (N := N) (by omega), node2 (N := N) (by omega), text3 (N := N) (by omega), Option.bind_some]
  unfold MayOp
  by_cases h1 : (0 ≤ o.Stamp.Time ∧ o.Stamp.Time ≤ 1099511627776) <;> by_cases h2 : (0 ≤ o.Stamp.Site ∧ o.Stamp.Site < 8) <;> by_cases h3 : 1 ≤ o.Kind <;> by_cases h4 : o.Kind ≤ 3 <;>
    by_cases h5 : ((0 ≤ o.Node ∧ o.Node ≤ 1125899906842624) ∧ (0 ≤ o.Parent ∧ o.Parent ≤ 1125899906842624)) <;> simp [h1, h2, h3, h4, h5] <;> omega
theorem refMayOp_eq (o : GOp) : Fref04_MayOp N o = some (decide (MayOp o)) := by
  unfold Fref04_MayOp Fref04_MayStamp Fref04_count Fref04_site Fref04_node MayOp
  simp only [Option.bind_some]
  by_cases h1 : 0 ≤ o.Stamp.Time <;> by_cases h1' : o.Stamp.Time ≤ 1099511627776 <;> simp [h1, h1']
  by_cases h2 : 0 ≤ o.Stamp.Site <;> by_cases h2' : o.Stamp.Site < 8 <;> simp [h2, h2']
  by_cases h3 : 1 ≤ o.Kind <;> by_cases h4 : o.Kind ≤ 3 <;> simp [h3, h4]
  by_cases h5 : 0 ≤ o.Node <;> by_cases h5' : o.Node ≤ 1125899906842624 <;> simp [h5, h5']
  by_cases h6 : 0 ≤ o.Parent <;> by_cases h6' : o.Parent ≤ 1125899906842624 <;> simp [h6, h6']
  by_cases h7 : o.Name.length ≤ 255 <;> by_cases h8 : o.Key.length ≤ 255 <;> by_cases h9 : o.Value.length ≤ 255 <;> simp [h7, h8, h9] <;> omega
theorem checkOp_eq (hN : 10 ≤ N) (o : GOp) : Frecord_CheckOp N o = some (if MayOp o then 0 else 40) := by
  unfold Frecord_CheckOp Frecord_verdict
  rw [mayOp_eq hN, Option.bind_some]
  by_cases h : MayOp o <;> simp [h]
theorem refCheckOp_eq (o : GOp) : Fref04_CheckOp N o = some (if MayOp o then 0 else 40) := by
  unfold Fref04_CheckOp Fref04_Errno
  rw [refMayOp_eq, Option.bind_some]
  by_cases h : MayOp o <;> simp [h]

theorem num_eq (hN : 20 ≤ N) {l : List Int} (hl : l.length < N) (hl2 : l.length ≤ 1000000) (hr : ∀ n ∈ l, R64 n) : Fref04_num_b16 N l = some (l.map pI).flatten := by
  unfold Fref04_num_b16
  refine iter_run (fun q : Sref04_num_b16x2 => 0 ≤ q.i ∧ q.i ≤ (l.length : Int) ∧ (q.b.length : Int) ≤ 10 * q.i ∧ q.b ++ ((l.drop q.i.toNat).map pI).flatten = (l.map pI).flatten) (fun q => ((l.length : Int) - q.i).toNat) ?_ N _ ⟨by simp, by simp, by simp, by simp⟩ (by simp; omega)
  rintro ⟨b, i⟩ nx ⟨g0, g1, g2, hq⟩ ih
  simp only at g0 g1 g2 hq ih ⊢
  by_cases hi : i < l.length
  · have hm := hr _ (lget_mem (default : Int) g0 hi)
    have hp := pI_len hm
    rw [lget_drop (default : Int) g0 hi, List.map_cons, List.flatten_cons] at hq
    simp only [decide_eq_true hi, ibB_of g0 hi, cond_true]
    rw [F41_eq (by omega) hm, Option.bind_some, lenB_of (by unfold pI at hp; omega), wrap64 (by omega) (by omega)]
    exact ih ⟨_, i + 1⟩ ⟨by simp; omega, by simp; omega, by simp only [List.length_append]; unfold pI at hp; omega, by simp only [List.append_assoc]; exact hq⟩ (by simp; omega)
  · have : decide (i < (l.length : Int)) = false := by simpa using hi
    simp only [this, cond_false]
    rw [List.drop_eq_nil_of_le (by omega)] at hq
    rw [← hq]; simp
theorem reftext_eq (hN : 20 ≤ N) {b : List Int} {s : List UInt8} (hb : b.length ≤ 10000000) (hs : s.length ≤ 1048576) : Fref04_text_aa6 N b s = some (b ++ pT s) := by
  have hp := pT_len hs
  unfold Fref04_text_aa6
  rw [F36_eq (by omega) (by rw [bytesI_len]; exact hs), Option.bind_some, lenB_of (by unfold pT pB at hp; omega)]
  rfl
theorem opForm_eq (hN : 20 ≤ N) {o : GOp} (ho : MayOp o) : Fref04_OpForm N o = some (opB o) := by
  have ho' := ho
  obtain ⟨h1, h2, h3, h4, h5, h6, h7, h8⟩ := ho'
  have a1 := pI_len (n := o.Stamp.Time) ⟨by omega, by omega⟩
  have a2 := pI_len (n := o.Stamp.Site) ⟨by omega, by omega⟩
  have a3 := pI_len (n := o.Kind) ⟨by omega, by omega⟩
  have a4 := pI_len (n := o.Node) ⟨by omega, by omega⟩
  have a5 := pI_len (n := o.Parent) ⟨by omega, by omega⟩
  have a6 := pT_len (s := o.Name) (by omega)
  have a7 := pT_len (s := o.Key) (by omega)
  unfold Fref04_OpForm
  rw [num_eq hN (by simp; omega) (by simp) (by intro n hn; simp at hn; rcases hn with rfl | rfl | rfl | rfl | rfl <;> exact ⟨by omega, by omega⟩), Option.bind_some]
  have hb : (([o.Stamp.Time, o.Stamp.Site, o.Kind, o.Node, o.Parent].map pI).flatten).length ≤ 50 := by simp; omega
  rw [reftext_eq hN (by omega) (by omega), Option.bind_some, reftext_eq hN (by rw [List.length_append]; omega) (by omega), Option.bind_some, reftext_eq hN (by simp only [List.length_append]; omega) (by omega), Option.bind_some]
  simp [opB, opC]

theorem made_eq (hN : 20 ≤ N) {w : List Int} (hw : w.length ≤ 1048576) : Frecord_made_052 N true w = some (0, true, w) := by
  have h0 : Fwire_number N 0 = some [0] := by
    obtain ⟨k, rfl⟩ : ∃ k, N = k + 20 := ⟨N - 20, by omega⟩
    kernel_rfl
  have h1 : ∃ e, Fwire_Writer_put_521 N [0] true w = some (e, true) ∧ (e == 2) = false := by
    unfold Fwire_Writer_put_521 Fwire_Writer_none_384
    simp only [Option.bind_some, Bool.not_true, cond_false]
    cases decide (IntKind.i64.wrap (1048576 - (w.length : Int)) < (([0] : List Int).length : Int)) with
    | true => exact ⟨3, rfl, rfl⟩
    | false =>
      rw [lenB_of (by simp; omega)]
      exact ⟨0, rfl, rfl⟩
  obtain ⟨e, h1, h2⟩ := h1
  unfold Frecord_made_052 Fwire_Writer_Int_204
  rw [h0, Option.bind_some, h1, Option.bind_some, Option.bind_some]
  simp only [h2, cond_false]
theorem len_eq (w : List Int) : Fwire_Writer_Len_052 N true w = some ((w.length : Int), true, w) := rfl
theorem put1op_eq (hN : 20 ≤ N) {o : GOp} (ho : MayOp o) {e : Int} {w : List Int} (hw : w.length ≤ 1048576) : Frecord_PutOp_1_64d N e o true w = some ((wr e w (opC o)).1, o, true, (wr e w (opC o)).2.2) := by
  unfold Frecord_PutOp_1_64d
  rw [opw_eq hN ho hw]; rfl
theorem wr_fit {e : Int} {w : List Int} {cs : List (List Int)} (h : w.length + cs.flatten.length ≤ 1048576) : wr e w cs = (e, true, w ++ cs.flatten) := by
  unfold wr; rw [puts_fit cs e w h]
theorem wholeOp_eq (hN : 20 ≤ N) {o : GOp} (ho : MayOp o) {w : List Int} (hw : w.length ≤ 1048576) : Frecord_whole_a34 N true w o = some (if w.length + (opB o).length ≤ 1048576 then (0, true, w ++ opB o, o) else (3, true, w, o)) := by
  have hlen := opB_len ho
  have hf : wr 0 [] (opC o) = (0, true, opB o) := wr_fit (by simp only [List.length_nil]; unfold opB at hlen; omega)
  unfold Frecord_whole_a34 Fwire_NewWriter
  rw [Option.bind_some, put1op_eq hN ho (by simp), hf, Option.bind_some]
  simp only [beq_self_eq_true, Bool.not_true, Bool.not_false, cond_true, Bool.false_or, len_eq, Option.bind_some]
  rw [wrap64 (by omega) (by omega)]
  by_cases h : w.length + (opB o).length ≤ 1048576
  · have : decide ((1048576 : Int) - (w.length : Int) < ((opB o).length : Int)) = false := by simp; omega
    rw [this, if_pos h]
    simp only [cond_false]
    rw [put1op_eq hN ho hw, wr_fit (by unfold opB at h; exact h)]
    rfl
  · have : decide ((1048576 : Int) - (w.length : Int) < ((opB o).length : Int)) = true := by simp; omega
    rw [this, if_neg h]; rfl
theorem putOp_eq (hN : 20 ≤ N) (o : GOp) {w : List Int} (hw : w.length ≤ 1048576) : Frecord_PutOp_66b N o true w =
    some (if MayOp o then (if w.length + (opB o).length ≤ 1048576 then (0, true, w ++ opB o) else (3, true, w)) else (40, true, w)) := by
  unfold Frecord_PutOp_66b
  rw [made_eq hN hw, Option.bind_some, checkOp_eq (by omega)]
  by_cases ho : MayOp o
  · simp only [if_pos ho, Option.bind_some, beq_self_eq_true, Bool.not_true, cond_false]
    rw [wholeOp_eq hN ho hw]
    split <;> rfl
  · simp only [if_neg ho]; rfl

theorem recordFull_F (hN : 60 ≤ N) (o : GOp) (left : Int) : Flaw04_RecordFull N o left = some true := by
  unfold Flaw04_RecordFull Fwire_NewWriter
  rw [begun_eq hN]
  simp only [Option.bind_some, Bool.not_true, Bool.false_and, Bool.false_or]
  by_cases hl : left < 0
  · simp only [decide_eq_true hl, Bool.true_or, cond_true]
  by_cases hh : 1024 < left
  · simp only [decide_eq_true hh, Bool.or_true, cond_true]
  simp only [decide_eq_false hl, decide_eq_false hh, Bool.or_self, cond_false]
  rw [wrap64 (n := 1048576 - left) (by omega) (by omega), wrap64 (n := 1048576 - left - 3) (by omega) (by omega)]
  have hmk : mkB (1048576 - left - 3) 1 = true := by simp [mkB]; omega
  rw [hmk]
  simp only [cond_true]
  generalize hz : List.replicate (1048576 - left - 3).toNat (0 : Int) = z
  have hzl : (z.length : Int) = 1048576 - left - 3 := by rw [← hz, List.length_replicate]; omega
  have hv : (vint (zig (z.length : Int))).length = 3 := by
    have : zig (z.length : Int) = 2 * z.length := by unfold zig; rw [if_neg (by omega)]; omega
    rw [this, vint_ge (by omega), vint_ge (by omega), vint_lt (by omega)]; rfl
  rw [F32_eq (by omega) (by omega) (by simp)]
  have hput : putAll [] (vint (zig (z.length : Int)) ++ z) = (0, true, vint (zig (z.length : Int)) ++ z) := by
    unfold putAll; rw [if_pos (by simp only [List.length_append, List.length_nil, hv]; omega)]; rfl
  rw [hput]
  generalize hw : vint (zig (z.length : Int)) ++ z = w
  have hwl : (w.length : Int) = 1048576 - left := by rw [← hw, List.length_append, hv]; omega
  simp only [Option.bind_some, beq_self_eq_true, Bool.not_true, cond_false, len_eq]
  rw [putOp_eq (by omega) o (by omega), refCheckOp_eq]
  by_cases ho : MayOp o
  · simp only [if_pos ho, Option.bind_some, beq_self_eq_true, Bool.not_true, cond_false]
    rw [opForm_eq (by omega) ho, Option.bind_some, wrap64 (n := 1048576 - (w.length : Int)) (by omega) (by omega)]
    have hob := opB_len ho
    by_cases hf : w.length + (opB o).length ≤ 1048576
    · have : decide ((1048576 : Int) - (w.length : Int) < ((opB o).length : Int)) = false := by simp; omega
      simp only [if_pos hf, this, cond_false, beq_self_eq_true, cond_true, len_eq, Option.bind_some, Bool.true_and]
      rw [wrap64 (by omega) (by omega)]
      simp
    · have : decide ((1048576 : Int) - (w.length : Int) < ((opB o).length : Int)) = true := by simp; omega
      simp only [if_neg hf, this, cond_true, beq_self_eq_true, len_eq, Option.bind_some, Bool.true_and]
  · simp only [if_neg ho, Option.bind_some]
    simp [len_eq]
end
end Go.Proofs.Yteinehkdjkobnaa
