/-
The document's reader of epochs.
-/
import Derived.Test.YtjjnclgkppbpnaaqMf
set_option linter.unusedVariables false
set_option linter.unusedSimpArgs false
namespace Go.Proofs.Ytjjnclgkppbpnaa
open Go Go.Ev
section
variable {N : Nat} {B : List Int} {s : Int × List Int}
def rfR (B : List Int) (s : Int × List Int) : Gorchardref04_Reader := ⟨B, (B.length : Int) - s.2.length, s.1⟩
theorem num_eq' (hN : 11 ≤ N) (hB : okB B) (h : okR B s) : Fref04_Reader_Num_4b9 N (rfR B s) = some ((rd1 s).1, rfR B (rd1 s).2) := by
  unfold Fref04_Reader_Num_4b9 rd1
  obtain ⟨e, c⟩ := s
  have hlen : c.length ≤ B.length := List.IsSuffix.length_le h
  have hB1 := hB.1
  simp only [rfR]
  by_cases he : e = 0
  · subst he
    simp only [beq_self_eq_true, Bool.not_true, cond_false, if_true]
    rw [cutB_of (by omega) (by omega) (by omega), cond_true, cut_end, show ((B.length : Int) - (c.length : Int)).toNat = B.length - c.length by omega]
    have hd : B.drop (B.length - c.length) = c := (List.suffix_iff_eq_drop.1 h).symm
    rw [hd, F46_eq hN (b := c) (by have h' : c.length ≤ 70368744177664 := (okB_suf hB h).1; omega) (okB_suf hB h).2, Option.bind_some]
    obtain ⟨h1, h2, h3, h4⟩ := pv_k (okB_suf hB h).2
    simp only at h1 h2 h3 h4
    unfold rI
    generalize pv 0 0 c = p at *
    obtain ⟨n, k, e⟩ := p
    simp only at h1 h2 h3 h4 ⊢
    by_cases he : e = 0
    · subst he
      simp only [beq_self_eq_true, Bool.not_true, cond_false, List.length_drop]
      rw [wrap64 (by omega) (by omega)]
      have : (B.length : Int) - (c.length : Int) + k = (B.length : Int) - ((c.length - k.toNat : Nat) : Int) := by omega
      rw [this]
    · obtain ⟨rfl, rfl⟩ := h4 he
      have : (e == 0) = false := by simpa using he
      rw [this]
      simp only [Bool.not_false, cond_true]
      unfold Fref04_Reader_Fail_d51
      simp only [beq_self_eq_true, cond_true, Option.bind_some, Int.toNat_zero, List.drop_zero]
  · have : (e == 0) = false := by simpa using he
    simp only [this, Bool.not_false, cond_true, if_neg he]
theorem refsmall_eq (hN : 11 ≤ N) (hB : okB B) (h : okR B s) : Fref04_Reader_Small_4b9 N (rfR B s) = some (smr (rd1 s).1, rfR B (rd1 s).2) := by
  unfold Fref04_Reader_Small_4b9 smr
  rw [num_eq' hN hB h, Option.bind_some]
  by_cases hx : (rd1 s).1 < -2147483648 ∨ 2147483648 < (rd1 s).1
  · rw [if_pos hx, show (decide ((rd1 s).1 < -2147483648) || decide (2147483648 < (rd1 s).1)) = true by simpa using hx]; rfl
  · rw [if_neg hx, show (decide ((rd1 s).1 < -2147483648) || decide (2147483648 < (rd1 s).1)) = false by
      rw [Bool.eq_false_iff]; intro h; exact hx (by simpa using h)]; rfl
theorem refvector_eq (hN : 11 ≤ N) (hB : okB B) (h : okR B s) : Fref04_Reader_Vector_4b9 N (rfR B s) = some ((rdv id z8 s 8).2, rfR B (rdv id z8 s 8).1) := by
  unfold Fref04_Reader_Vector_4b9
  rw [show (⟨0, rfR B s, Vector.replicate 8 default⟩ : Sref04_Reader_Vector_4b9x3) = (fun k : Nat => (⟨(k : Int), rfR B (rdv id z8 s k).1, (rdv id z8 s k).2⟩ : Sref04_Reader_Vector_4b9x3)) 0 from rfl]
  rw [iter_path (fun k : Nat => (⟨(k : Int), rfR B (rdv id z8 s k).1, (rdv id z8 s k).2⟩ : Sref04_Reader_Vector_4b9x3)) 8 (fun _ => none) (some ((rdv id z8 s 8).2, rfR B (rdv id z8 s 8).1)) ?_ ?_ N (by omega)]
  · exact none_find _
  · intro k next hk
    simp only [natCast_lt8 hk, ibB_of (show (0 : Int) ≤ k by omega) (show (k : Int) < 8 by omega), cond_true]
    rw [num_eq' hN hB (rdv_ok h id z8 k), Option.bind_some, wrap64 (by omega) (by omega), Int.toNat_natCast]
    rfl
  · intro next; rfl
theorem refepoch_eq (hN : 11 ≤ N) (hB : okB B) (h : okR B s) : Fref04_Reader_Epoch_4b9 N (rfR B s) = some ((rdE smr s).1, rfR B (rdE smr s).2) := by
  unfold Fref04_Reader_Epoch_4b9
  rw [num_eq' hN hB h]
  simp only [Option.bind_some]
  have h1 := rd1_ok h
  unfold rdE
  generalize (rd1 s).1 = a at *
  generalize hs1 : (rd1 s).2 = s1 at *
  rw [show (⟨0, rfR B s1, ⟨a, Vector.replicate 8 default, Vector.replicate 8 default, Vector.replicate 8 default⟩⟩ : Sref04_Reader_Epoch_4b9x4) = (fun k : Nat => (⟨(k : Int), rfR B (rdv smr z8 s1 k).1, ⟨a, (rdv smr z8 s1 k).2, z8, z8⟩⟩ : Sref04_Reader_Epoch_4b9x4)) 0 from rfl]
  rw [iter_path (fun k : Nat => (⟨(k : Int), rfR B (rdv smr z8 s1 k).1, ⟨a, (rdv smr z8 s1 k).2, z8, z8⟩⟩ : Sref04_Reader_Epoch_4b9x4)) 8 (fun _ => none) _ ?_ ?_ N (by omega)]
  · exact none_find _
  · intro k next hk
    simp only [natCast_lt8 hk, ibB_of (show (0 : Int) ≤ k by omega) (show (k : Int) < 8 by omega), cond_true]
    rw [refsmall_eq hN hB (rdv_ok h1 smr z8 k), Option.bind_some, wrap64 (by omega) (by omega), Int.toNat_natCast]
    rfl
  · intro next
    have h2 := rdv_ok h1 smr z8 8
    generalize rdv smr z8 s1 8 = p at *
    obtain ⟨s2, v1⟩ := p
    simp only at h2 ⊢
    rw [show decide (((8 : Nat) : Int) < 8) = false from rfl, cond_false, refvector_eq hN hB h2, Option.bind_some]
    have h3 := rdv_ok h2 id z8 8
    generalize rdv id z8 s2 8 = p at *
    obtain ⟨s3, v2⟩ := p
    simp only at h3 ⊢
    rw [show (⟨0, rfR B s3, ⟨a, v1, v2, z8⟩⟩ : Sref04_Reader_Epoch_4b9x9) = (fun k : Nat => (⟨(k : Int), rfR B (rdv smr z8 s3 k).1, ⟨a, v1, v2, (rdv smr z8 s3 k).2⟩⟩ : Sref04_Reader_Epoch_4b9x9)) 0 from rfl]
    rw [iter_path (fun k : Nat => (⟨(k : Int), rfR B (rdv smr z8 s3 k).1, ⟨a, v1, v2, (rdv smr z8 s3 k).2⟩⟩ : Sref04_Reader_Epoch_4b9x9)) 8 (fun _ => none) (some ((⟨a, v1, v2, (rdv smr z8 s3 8).2⟩ : GEpoch), rfR B (rdv smr z8 s3 8).1)) ?_ ?_ N (by omega)]
    · exact none_find _
    · intro k next hk
      simp only [natCast_lt8 hk, ibB_of (show (0 : Int) ≤ k by omega) (show (k : Int) < 8 by omega), cond_true]
      rw [refsmall_eq hN hB (rdv_ok h3 smr z8 k), Option.bind_some, wrap64 (by omega) (by omega), Int.toNat_natCast]
      rfl
    · intro next; rfl
end
theorem sm_in {n : Int} (h : -1 ≤ sm n ∧ sm n ≤ 7) : sm n = n := by
  unfold sm at h ⊢
  split
  · rfl
  · rename_i hx; rw [if_neg hx] at h; omega
theorem smr_in {n : Int} (h : -1 ≤ smr n ∧ smr n ≤ 7) : smr n = n := by
  unfold smr at h ⊢
  split
  · rename_i hx; rw [if_pos hx] at h; omega
  · rfl
theorem wrap32 {n : Int} (h : -1 ≤ n ∧ n ≤ 7) : IntKind.i32.wrap n = n := by
  have h1 := h.1; have h2 := h.2
  simp only [IntKind.wrap, IntKind.bits, IntKind.signed]
  first | (simp; omega) | (split <;> omega)
theorem sm_of {n : Int} (h : -1 ≤ n ∧ n ≤ 7) : sm n = n := by
  unfold sm; rw [wrap32 h, wrap64 (by omega) (by omega), if_pos rfl]
theorem smr_of {n : Int} (h : -1 ≤ n ∧ n ≤ 7) : smr n = n := by
  unfold smr; rw [if_neg (by omega)]
theorem rdv_id {g : Int → Int} (hg : ∀ n, -1 ≤ g n ∧ g n ≤ 7 → g n = n) {s : Int × List Int} (h : ∀ j, j < 8 → -1 ≤ vget (rdv g z8 s 8).2 j default ∧ vget (rdv g z8 s 8).2 j default ≤ 7) : rdv g z8 s 8 = rdv id z8 s 8 := by
  refine Prod.ext (rdv_st _ _ _ _ _ _) (vext default fun j hj => ?_)
  have := h j hj
  rw [rdv_get g z8 s 8 (Nat.le_refl _) j hj, if_pos hj] at this ⊢
  rw [rdv_get id z8 s 8 (Nat.le_refl _) j hj, if_pos hj]
  exact hg _ this
theorem rdE_id {g : Int → Int} (hg : ∀ n, -1 ≤ g n ∧ g n ≤ 7 → g n = n) {s : Int × List Int} (h : chk (rdE g s).1 = true) : rdE g s = rdE id s := by
  obtain ⟨h1, h2, h3, _⟩ := (chk_iff _).1 h
  have e1 : rdv g z8 (rd1 s).2 8 = rdv id z8 (rd1 s).2 8 := rdv_id hg fun j hj => by
    have := h3 j hj; unfold okP at this
    have a1 := this.1; have a2 := this.2.1
    exact ⟨by unfold sta rdE at a1; simp only at a1; omega, by unfold sta rdE at a2; simp only at a2; omega⟩
  have e2 : rdv g z8 (rdv id z8 (rdv g z8 (rd1 s).2 8).1 8).1 8 = rdv id z8 (rdv id z8 (rdv g z8 (rd1 s).2 8).1 8).1 8 := rdv_id hg fun j hj => by
    have := h3 j hj; unfold okP at this
    have a1 := this.2.2.2.2.2
    unfold spo rdE at a1; simp only at a1
    constructor <;> omega
  unfold rdE
  rw [e2, e1]
theorem rdE_st (g g' : Int → Int) (s : Int × List Int) : (rdE g s).2 = (rdE g' s).2 := by
  unfold rdE
  simp only
  rw [rdv_st g g' z8 z8 (rd1 s).2 8, rdv_st g g' z8 z8 _ 8]
theorem rdE_of {g : Int → Int} (hg : ∀ n, -1 ≤ n ∧ n ≤ 7 → g n = n) {s : Int × List Int} (h : chk (rdE id s).1 = true) : rdE g s = rdE id s := by
  obtain ⟨h1, h2, h3, _⟩ := (chk_iff _).1 h
  have e1 : rdv g z8 (rd1 s).2 8 = rdv id z8 (rd1 s).2 8 := by
    refine Prod.ext (rdv_st _ _ _ _ _ _) (vext default fun j hj => ?_)
    rw [rdv_get g z8 _ 8 (Nat.le_refl _) j hj, if_pos hj, rdv_get id z8 _ 8 (Nat.le_refl _) j hj, if_pos hj]
    have := h3 j hj; unfold okP at this
    have a1 := this.1; have a2 := this.2.1
    unfold sta rdE at a1 a2
    simp only at a1 a2
    rw [rdv_get id z8 _ 8 (Nat.le_refl _) j hj, if_pos hj] at a1 a2
    exact hg _ (by simp only [id] at a1 a2 ⊢; omega)
  have e2 : rdv g z8 (rdv id z8 (rdv g z8 (rd1 s).2 8).1 8).1 8 = rdv id z8 (rdv id z8 (rdv g z8 (rd1 s).2 8).1 8).1 8 := by
    rw [e1]
    refine Prod.ext (rdv_st _ _ _ _ _ _) (vext default fun j hj => ?_)
    rw [rdv_get g z8 _ 8 (Nat.le_refl _) j hj, if_pos hj, rdv_get id z8 _ 8 (Nat.le_refl _) j hj, if_pos hj]
    have := h3 j hj; unfold okP at this
    have a1 := this.2.2.2.2.2
    unfold spo rdE at a1
    simp only at a1
    rw [rdv_get id z8 _ 8 (Nat.le_refl _) j hj, if_pos hj] at a1
    exact hg _ (by simp only [id] at a1 ⊢; omega)
  unfold rdE
  rw [e2, e1]
theorem rdE_sm {s : Int × List Int} (h : chk (rdE smr s).1 = true) : rdE sm s = rdE smr s := by
  have e := rdE_id (fun n => smr_in) h
  rw [e, rdE_of (fun n => sm_of) (by rw [← e]; exact h)]
theorem rdE_smr {s : Int × List Int} (h : chk (rdE sm s).1 = true) : rdE smr s = rdE sm s := by
  have e := rdE_id (fun n => sm_in) h
  rw [e, rdE_of (fun n => smr_of) (by rw [← e]; exact h)]
end Go.Proofs.Ytjjnclgkppbpnaa
