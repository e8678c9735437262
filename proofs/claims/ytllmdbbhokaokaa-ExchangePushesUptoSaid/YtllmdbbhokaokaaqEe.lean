/-
The law ExchangePushes.
-/
import Derived.Test.YtllmdbbhokaokaaqEd
import Derived.Test.YtllmdbbhokaokaaqRd
set_option linter.unusedVariables false
set_option linter.unusedSimpArgs false
set_option maxRecDepth 100000
namespace Go.Proofs.Ytllmdbbhokaokaa
open Go Go.Ev
section
variable {N : Nat} {s : GSnap} {fr to_ : GAddr}
theorem begun_eq (hN : 400 ≤ N) : Flaw16_begun N = some true := by
  obtain ⟨k, rfl⟩ : ∃ k, N = k + 400 := ⟨N - 400, by omega⟩
  kernel_rfl
theorem push_eq (hN : 1100000 ≤ N) (hk : ∀ o : Int, 0 ≤ o → o < 8 → (ko s o).length ≤ 1048576) {most : Int} (hm : -9223372036854775808 ≤ most ∧ most ≤ 9223372036854775807) :
    Fexchange_Push N s fr to_ most = some (pushI s fr to_ most) := by
  unfold Fexchange_Push pushI
  simp only [addrs_eq (show 5 ≤ N by omega), site_eq, Option.bind_some]
  cases okA fr && okA to_ with
  | false => rfl
  | true =>
    cases h : okS to_.Group with
    | false => simp [h]
    | true =>
      have ht : 0 ≤ to_.Group ∧ to_.Group < 8 := by simpa [okS] using h
      simp only [cond_true, Bool.and_self, Option.bind_some, h]
      rw [pushes_eq hN ht hk hm]; rfl
theorem sameOps_eq (hN : 1100000 ≤ N) {ms : List (Option (List GOp))} {h : Hd} (h1 : h.o = 0) (h2 : phas ms h.j = true) (h3 : (pcon ms h.j).length = h.n) (h4 : h.n ≤ 1048576) :
    Fref04_sameOps_f67 N (pcon ms h.j) h ms = some (true, ms) := by
  unfold Fref04_sameOps_f67
  have e0 : (((pcon ms h.j).length : Int) == ((h.n : Nat) : Int)) = true := by rw [h3]; simp
  simp only [h2, e0, Bool.not_true, cond_true, cond_false]
  refine iter_run (fun q => 0 ≤ q.i ∧ q.i ≤ ((pcon ms h.j).length : Int)) (fun q => (pcon ms h.j).length - q.i.toNat) ?_ N _ ⟨by simp, by simp⟩ (by simp; omega)
  rintro ⟨t⟩ nx ⟨p0, p1⟩ ih
  simp only at ih p0 p1 ⊢
  by_cases hlt : t < ((pcon ms h.j).length : Int)
  · have e1 : decide (h.o + t.toNat < (pcon ms h.j).length) = true := decide_eq_true (by omega)
    have e2 : ∀ d : GOp, (pcon ms h.j).getD (h.o + t.toNat) d = lget (pcon ms h.j) t d := fun d => by rw [h1, Nat.zero_add]; rfl
    rw [decide_eq_true hlt, ibB_of p0 hlt, ibB_of p0 (by omega), e1]
    simp only [e2, beq_self_eq_true, Bool.and_self, Bool.not_true, cond_false, cond_true]
    rw [wrap64 (by omega) (by omega)]
    exact ih _ ⟨by simp only; omega, by simp only; omega⟩ (by simp only; omega)
  · rw [decide_eq_false hlt]; rfl
theorem beq2_iff : ∀ x y : Int, beq2 x y = true ↔ x = y := by intro x y; unfold beq2; simp
theorem beq3_iff : ∀ x y : Int, beq3 x y = true ↔ x = y := by intro x y; unfold beq3; simp
theorem same_eq (hN : 1100000 ≤ N) {ms : List (Option (List GOp))} {y : GMsgH} (h : Fine s fr to_ ms y) (h4 : y.Ops.n ≤ 1048576) : Fref04_SameMsg_c0d N (vm ms y) y ms = some (true, ms) := by
  obtain ⟨h1, h2, h3, h5⟩ := h
  rw [h1] at h2 h3 h5 h4 ⊢
  generalize y.Ops = q at *
  have e1 : Fref04_SameList N [] [] = some true := by
    obtain ⟨k, rfl⟩ : ∃ k, N = k + 20 := ⟨N - 20, by omega⟩
    rfl
  have e2 : Fref04_SameEntry N zEn zEn = some true := by
    obtain ⟨k, rfl⟩ : ∃ k, N = k + 20 := ⟨N - 20, by omega⟩
    kernel_rfl
  have e3 : Fref04_SamePart N zPt zPt = some true := by
    obtain ⟨k, rfl⟩ : ∃ k, N = k + 20 := ⟨N - 20, by omega⟩
    kernel_rfl
  have e4 : Fref04_sameOps_f67 N (pcon ms q.j) q ms = some (true, ms) := sameOps_eq hN h2 h3 h5 h4
  unfold Fref04_SameMsg_c0d vm mkH
  simp only [beq_self_eq_true, Bool.and_self, cond_true, Option.bind_some, e1, e2, e3, e4, vbeq_self beq2_iff, vbeq_self beq3_iff]
theorem c1_eq (hN : 400 ≤ N) : Fslices_Clone_Slotted_560 N [] = some (0, []) := by
  obtain ⟨q, rfl⟩ : ∃ q, N = q + 400 := ⟨N - 400, by omega⟩
  kernel_rfl
theorem c2_eq (hN : 400 ≤ N) : Frecord_CloneEntry N zEn = some zEn := by
  obtain ⟨q, rfl⟩ : ∃ q, N = q + 400 := ⟨N - 400, by omega⟩
  kernel_rfl
theorem c3_eq (hN : 400 ≤ N) : Fslices_Clone_byte N [] = some [] := by
  obtain ⟨q, rfl⟩ : ∃ q, N = q + 400 := ⟨N - 400, by omega⟩
  kernel_rfl
theorem clone_eq (hN : 400 ≤ N) {o k : Int} {ops : List GOp} (ho : ops.length ≤ 1048576) : Frecord_CloneMsgz N (mk s fr to_ o k ops) = some (mk s fr to_ o k ops) := by
  have hclone : Fslices_Clone_Op N ops = some ops := by
    unfold Fslices_Clone_Op Fslices_Clone_Op_367
    rw [lenB_of (by omega)]; rfl
  have hz : Frecord_CloneMsg N (mk s fr to_ o k ops) = some (11, fr, to_, ⟨0, 0⟩, k, 0, zEn, s.Epoch.Number, zV, 0, o, ops, zEp, zPt, []) := by
    unfold Frecord_CloneMsg mk
    simp only [c1_eq hN, Option.bind_some]
    refine iter_run (fun q => q = ⟨0, []⟩) (fun _ => 0) ?_ N _ rfl (by omega)
    rintro q nx rfl _
    simp only [show decide ((0 : Int) < ((0 : Nat) : Int)) = false from rfl, cond_false, c2_eq hN, c3_eq hN, hclone, Option.bind_some]
  unfold Frecord_CloneMsgz
  rw [hz]
  rfl
end
end Go.Proofs.Ytllmdbbhokaokaa
