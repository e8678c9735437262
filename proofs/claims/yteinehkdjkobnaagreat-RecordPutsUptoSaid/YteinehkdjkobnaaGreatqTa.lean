/-
Reading an operation: what the program's and the document's readers read; epochs that may be, read by both.
-/
import Derived.Test.YteinehkdjkobnaaGreatqWq
set_option linter.unusedVariables false
set_option linter.unusedSimpArgs false
namespace Go.Proofs.YteinehkdjkobnaaGreat
open Go Go.Ev
section
variable {N : Nat} {B : List Int} {s : Int × List Int}
def rdT (s : Int × List Int) : List UInt8 × (Int × List Int) := if s.1 = 0 then (strI (rB s.2).1, ((rB s.2).2.1, (rB s.2).2.2)) else ([], s)
theorem rdT_ok (h : okR B s) : okR B (rdT s).2 := by
  unfold rdT
  split
  · exact (rB_suffix s.2).trans h
  · exact h
def rdO (g : Int → Int) (s : Int × List Int) : GOp × (Int × List Int) :=
  let a := rd1 s
  let b := rd1 a.2
  let c := rd1 b.2
  let d := rd1 c.2
  let e := rd1 d.2
  let f := rdT e.2
  let h := rdT f.2
  let i := rdT h.2
  (⟨⟨a.1, g b.1⟩, g c.1, d.1, e.1, f.1, h.1, i.1⟩, i.2)
theorem text_read (hN : 11 ≤ N) (hB : okB B) (h : okR B s) : Frecord_reader_text_407 N s.1 ⟨true, s.2⟩ = some ((rdT s).1, (rdT s).2.1, ⟨true, (rdT s).2.2⟩) := by
  unfold Frecord_reader_text_407 Fwire_Reader_Text_d95 rdT
  by_cases he : s.1 = 0
  · have : (s.1 == 0) = true := by simpa using he
    rw [this, if_pos he, F23_eq hN (okB_suf hB h).1 (okB_suf hB h).2]
    simp only [Bool.not_true, cond_false, Option.bind_some]
    unfold Frecord_reader_keep_bdf
    rw [this]; rfl
  · have : (s.1 == 0) = false := by simpa using he
    rw [this, if_neg he]; rfl
theorem op_read (hN : 11 ≤ N) (hB : okB B) (h : okR B s) : Frecord_reader_op_407 N s.1 ⟨true, s.2⟩ = some ((rdO sm s).1, (rdO sm s).2.1, ⟨true, (rdO sm s).2.2⟩) := by
  unfold Frecord_reader_op_407 Frecord_reader_ints_058 Frecord_reader_smalls_f5c Frecord_reader_ints_cf7 rdO
  have h1 := rd1_ok h
  have h2 := rd1_ok h1
  have h3 := rd1_ok h2
  have h4 := rd1_ok h3
  have h5 := rd1_ok h4
  have h6 := rdT_ok h5
  have h7 := rdT_ok h6
  rw [int_eq hN hB h]
  simp only [Option.bind_some]
  rw [small_eq' hN hB h1]
  simp only [Option.bind_some]
  rw [small_eq' hN hB h2]
  simp only [Option.bind_some]
  rw [int_eq hN hB h3]
  simp only [Option.bind_some]
  rw [int_eq hN hB h4]
  simp only [Option.bind_some]
  rw [text_read hN hB h5]
  simp only [Option.bind_some]
  rw [text_read hN hB h6]
  simp only [Option.bind_some]
  rw [text_read hN hB h7]
  rfl
theorem reftext_read (hN : 11 ≤ N) (hB : okB B) (h : okR B s) : Fref04_Reader_Text_4b9 N (rfR B s) = some ((rdT s).1, rfR B (rdT s).2) := by
  unfold Fref04_Reader_Text_4b9 Fref04_Reader_Data_4b9 rdT
  obtain ⟨e, c⟩ := s
  have hlen : c.length ≤ B.length := List.IsSuffix.length_le h
  have hB1 := hB.1
  simp only [rfR]
  by_cases he : e = 0
  · subst he
    simp only [beq_self_eq_true, Bool.not_true, cond_false, if_true]
    rw [cutB_of (by omega) (by omega) (by omega), cond_true, cut_end, show ((B.length : Int) - (c.length : Int)).toNat = B.length - c.length by omega]
    have hd : B.drop (B.length - c.length) = c := (List.suffix_iff_eq_drop.1 h).symm
    have hcl : c.length ≤ 70368744177664 := (okB_suf hB h).1
    have hcb : ∀ x ∈ c, byteR x := (okB_suf hB h).2
    rw [hd]
    unfold Fref01_ParseBytes
    rw [F46_eq hN (b := c) (by omega) hcb, Option.bind_some]
    obtain ⟨a1, a2, a3, a6⟩ := pv_k hcb
    have a4 := a3.1; have a5 := a3.2
    unfold rB
    generalize hp : pv 0 0 c = p at a1 a2 a4 a5 a6 ⊢
    obtain ⟨n, k, e⟩ := p
    simp only at a1 a2 a4 a5 a6 ⊢
    have hfail : ∀ x : Int, Fref04_Reader_Fail_d51 N x ⟨B, (B.length : Int) - c.length, 0⟩ = some ⟨B, (B.length : Int) - c.length, x⟩ := fun x => rfl
    by_cases he : e = 0
    · subst he
      simp only [beq_self_eq_true, Bool.not_true, cond_false, ne_eq, not_true_eq_false, if_false]
      by_cases hn : n < 0
      · rw [if_pos hn, decide_eq_true hn]; rfl
      · rw [if_neg hn, decide_eq_false hn, cond_false, wrap64 (n := (c.length : Int) - k) (by omega) (by omega)]
        by_cases hlong : (c.length : Int) - k < n
        · rw [if_pos hlong, decide_eq_true hlong]; rfl
        · rw [if_neg hlong, decide_eq_false hlong, cond_false, wrap64 (n := k + n) (by omega) (by omega), cutB_of a1 (by omega) (by omega), cond_true]
          have ec : cut c k (k + n) = (c.drop k.toNat).take n.toNat := by
            simp only [cut]; congr 1; omega
          have hl2 : ((c.drop k.toNat).take n.toNat).length ≤ 70368744177664 := by simp; omega
          rw [ec, lenB_of (by omega), cond_true, Option.bind_some]
          simp only [beq_self_eq_true, Bool.not_true, cond_false]
          rw [lenB_of (by omega), cond_true, Option.bind_some, wrap64 (by omega) (by omega)]
          simp only [List.length_drop]
          have : (B.length : Int) - (c.length : Int) + (k + n) = (B.length : Int) - ((c.length - (k + n).toNat : Nat) : Int) := by omega
          rw [this]
    · have hb : (e == 0) = false := by simpa using he
      rw [if_pos he, hb]
      simp only [Bool.not_false, cond_true, Option.bind_some, hb, hfail]
  · have : (e == 0) = false := by simpa using he
    simp only [this, Bool.not_false, cond_true, if_neg he, Option.bind_some]
    rfl
theorem refop_read (hN : 11 ≤ N) (hB : okB B) (h : okR B s) : Fref04_Reader_Op_4b9 N (rfR B s) = some ((rdO smr s).1, rfR B (rdO smr s).2) := by
  unfold Fref04_Reader_Op_4b9 rdO
  have h1 := rd1_ok h
  have h2 := rd1_ok h1
  have h3 := rd1_ok h2
  have h4 := rd1_ok h3
  have h5 := rd1_ok h4
  have h6 := rdT_ok h5
  have h7 := rdT_ok h6
  rw [num_eq' hN hB h]
  simp only [Option.bind_some]
  rw [refsmall_eq hN hB h1]
  simp only [Option.bind_some]
  rw [refsmall_eq hN hB h2]
  simp only [Option.bind_some]
  rw [num_eq' hN hB h3]
  simp only [Option.bind_some]
  rw [num_eq' hN hB h4]
  simp only [Option.bind_some]
  rw [reftext_read hN hB h5]
  simp only [Option.bind_some]
  rw [reftext_read hN hB h6]
  simp only [Option.bind_some]
  rw [reftext_read hN hB h7]
  rfl
theorem rdO_st (g g' : Int → Int) (s : Int × List Int) : (rdO g s).2 = (rdO g' s).2 := rfl
theorem rdO_id {g : Int → Int} (hg : ∀ n, -1 ≤ g n ∧ g n ≤ 7 → g n = n) (h : MayOp (rdO g s).1) : rdO g s = rdO id s := by
  obtain ⟨_, h2, h3, _⟩ := h
  unfold rdO at h2 h3 ⊢
  simp only at h2 h3 ⊢
  rw [hg _ (by omega), hg _ (by omega)]; rfl
theorem rdO_of {g : Int → Int} (hg : ∀ n, -1 ≤ n ∧ n ≤ 7 → g n = n) (h : MayOp (rdO id s).1) : rdO g s = rdO id s := by
  obtain ⟨_, h2, h3, _⟩ := h
  unfold rdO at h2 h3 ⊢
  simp only [id] at h2 h3 ⊢
  rw [hg _ (by omega), hg _ (by omega)]
theorem rdO_may : MayOp (rdO sm s).1 ↔ MayOp (rdO smr s).1 := by
  constructor <;> intro h
  · have e := rdO_id (fun n => sm_in) h
    rw [e] at h
    rw [rdO_of (fun n => smr_of) h]; exact h
  · have e := rdO_id (fun n => smr_in) h
    rw [e] at h
    rw [rdO_of (fun n => sm_of) h]; exact h
theorem rdO_eq (h : MayOp (rdO sm s).1) : rdO sm s = rdO smr s := by
  have e := rdO_id (fun n => sm_in) h
  rw [e, rdO_of (fun n => smr_of) (by rw [← e]; exact h)]
theorem mE_id {g : Int → Int} (hg : ∀ n, -1 ≤ g n ∧ g n ≤ 7 → g n = n) (h : MayEp (rdE g s).1) : rdE g s = rdE id s := by
  obtain ⟨_, _, h3⟩ := h
  have e1 : rdv g z8 (rd1 s).2 8 = rdv id z8 (rd1 s).2 8 := rdv_id hg fun j hj => by
    have := (h3 j hj).1; unfold rdE at this; simp only at this; omega
  have e2 : rdv g z8 (rdv id z8 (rdv g z8 (rd1 s).2 8).1 8).1 8 = rdv id z8 (rdv id z8 (rdv g z8 (rd1 s).2 8).1 8).1 8 := rdv_id hg fun j hj => by
    have := (h3 j hj).2; unfold rdE at this; simp only at this; omega
  unfold rdE
  rw [e2, e1]
theorem mE_of {g : Int → Int} (hg : ∀ n, -1 ≤ n ∧ n ≤ 7 → g n = n) (h : MayEp (rdE id s).1) : rdE g s = rdE id s := by
  obtain ⟨_, _, h3⟩ := h
  have e1 : rdv g z8 (rd1 s).2 8 = rdv id z8 (rd1 s).2 8 := by
    refine Prod.ext (rdv_st _ _ _ _ _ _) (vext default fun j hj => ?_)
    rw [rdv_get g z8 _ 8 (Nat.le_refl _) j hj, if_pos hj, rdv_get id z8 _ 8 (Nat.le_refl _) j hj, if_pos hj]
    have a1 := (h3 j hj).1; unfold rdE at a1; simp only at a1
    rw [rdv_get id z8 _ 8 (Nat.le_refl _) j hj, if_pos hj] at a1
    exact hg _ (by simp only [id] at a1 ⊢; omega)
  have e2 : rdv g z8 (rdv id z8 (rdv g z8 (rd1 s).2 8).1 8).1 8 = rdv id z8 (rdv id z8 (rdv g z8 (rd1 s).2 8).1 8).1 8 := by
    rw [e1]
    refine Prod.ext (rdv_st _ _ _ _ _ _) (vext default fun j hj => ?_)
    rw [rdv_get g z8 _ 8 (Nat.le_refl _) j hj, if_pos hj, rdv_get id z8 _ 8 (Nat.le_refl _) j hj, if_pos hj]
    have a1 := (h3 j hj).2; unfold rdE at a1; simp only at a1
    rw [rdv_get id z8 _ 8 (Nat.le_refl _) j hj, if_pos hj] at a1
    exact hg _ (by simp only [id] at a1 ⊢; omega)
  unfold rdE
  rw [e2, e1]
theorem mE_may : MayEp (rdE sm s).1 ↔ MayEp (rdE smr s).1 := by
  constructor <;> intro h
  · have e := mE_id (fun n => sm_in) h
    rw [e] at h
    rw [mE_of (fun n => smr_of) h]; exact h
  · have e := mE_id (fun n => smr_in) h
    rw [e] at h
    rw [mE_of (fun n => sm_of) h]; exact h
theorem mE_eq (h : MayEp (rdE sm s).1) : rdE sm s = rdE smr s := by
  have e := mE_id (fun n => sm_in) h
  rw [e, mE_of (fun n => smr_of) (by rw [← e]; exact h)]
end
end Go.Proofs.YteinehkdjkobnaaGreat
