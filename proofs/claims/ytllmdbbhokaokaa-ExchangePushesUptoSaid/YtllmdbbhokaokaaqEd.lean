/-
ExchangePushes: the program's function.
-/
import Derived.Test.YtllmdbbhokaokaaqEc
set_option linter.unusedVariables false
set_option linter.unusedSimpArgs false
set_option maxRecDepth 100000
namespace Go.Proofs.Ytllmdbbhokaokaa
open Go Go.Ev
section
variable {N : Nat} {s : GSnap} {fr to_ : GAddr}
def pushN (most : Int) (l : List GOp) : Int := bif decide (most < (bif decide (16 < (l.length : Int)) then 16 else (l.length : Int))) then most else (bif decide (16 < (l.length : Int)) then 16 else (l.length : Int))
theorem pushN_is (most : Int) (l : List GOp) : pushN most l ≤ most ∧ pushN most l ≤ 16 ∧ pushN most l ≤ l.length ∧ (pushN most l = most ∨ pushN most l = 16 ∨ pushN most l = l.length) := by
  have e (a b : Int) : (bif decide (a < b) then a else b) = if a < b then a else b := by
    by_cases h : a < b <;> simp [h]
  unfold pushN
  rw [e, e]
  split <;> split <;> omega
theorem site_eq (n : Int) : Fexchange_site N n = some (okS n) := rfl
theorem addrs_eq (hN : 5 ≤ N) (a b : GAddr) : Fexchange_addrs N [a, b] = some (okA a && okA b) := by
  obtain ⟨k, rfl⟩ : ∃ k, N = k + 5 := ⟨N - 5, by omega⟩
  have nlt (x y : Int) : decide (x < y) = !decide (y ≤ x) := by rw [← decide_not]; congr 1; simp
  unfold Fexchange_addrs
  have a1 : decide ((0 : Int) < (([a, b] : List GAddr).length : Int)) = true := rfl
  have a2 : ibB 0 (([a, b] : List GAddr).length : Int) = true := rfl
  have a3 : ∀ d, lget [a, b] 0 d = a := fun d => rfl
  have a4 : IntKind.i64.wrap (0 + 1) = 1 := rfl
  have a5 : decide ((1 : Int) < (([a, b] : List GAddr).length : Int)) = true := rfl
  have a6 : ibB 1 (([a, b] : List GAddr).length : Int) = true := rfl
  have a7 : ∀ d, lget [a, b] 1 d = b := fun d => rfl
  have a8 : IntKind.i64.wrap (1 + 1) = 2 := rfl
  have a9 : decide ((2 : Int) < (([a, b] : List GAddr).length : Int)) = false := rfl
  have key (c : GAddr) : (((decide (c.Group < 0) || decide (9 ≤ c.Group)) || decide (c.Replica < 0)) || decide (5 ≤ c.Replica)) = !okA c := by
    unfold okA
    rw [Bool.eq_iff_iff]
    simp only [Bool.or_eq_true, decide_eq_true_eq, Bool.not_eq_true', Bool.and_eq_false_iff, decide_eq_false_iff_not]
    omega
  simp only [iter, a1, a2, a3, a4, a5, a6, a7, a8, a9, key, cond_true, cond_false]
  cases okA a <;> cases okA b <;> rfl
theorem count_eq (n : Int) : Fexchange_count N n = some (decide (0 ≤ n) && decide (n ≤ 1099511627776)) := rfl
theorem shut_end {o : Int} {L : List GMsg} {m : GMsg} (h : m.Origin ≠ o ∨ 16 ≤ m.Ops.length) : Shut o (L ++ [m]) := by
  intro x hx
  simp at hx; subst hx
  rintro ⟨h1, h2⟩
  rcases h with h | h
  · exact h h1
  · omega
theorem shut_of {o : Int} {L : List GMsg} (h : ∀ m ∈ L, m.Origin < o) : Shut o L := by
  intro m hm
  have := h m (List.mem_of_getLast? hm)
  rintro ⟨h1, _⟩
  omega
theorem pushes_eq (hN : 1100000 ≤ N) (ht : 0 ≤ to_.Group ∧ to_.Group < 8) (hk : ∀ o : Int, 0 ≤ o → o < 8 → (ko s o).length ≤ 1048576) {most : Int} (hm : -9223372036854775808 ≤ most ∧ most ≤ 9223372036854775807) :
    Fexchange_pushes N s fr to_ most = some (idl s fr to_ 8 0 most []) := by
  have hib : ibB to_.Group 8 = true := ibB_of ht.1 ht.2
  unfold Fexchange_pushes
  generalize hR : idl s fr to_ 8 0 most [] = R
  refine iter_run (fun s4 : Sexchange_pushesx3 => 0 ≤ s4.t15 ∧ s4.t15 ≤ 8 ∧ (s4.l.length : Int) ≤ 1048576 * s4.t15 ∧ (-9223372036854775808 ≤ s4.most ∧ s4.most ≤ 9223372036854775807) ∧ (∀ m ∈ s4.l, m.Origin < s4.t15) ∧ idl s fr to_ (8 - s4.t15.toNat) s4.t15 s4.most s4.l = R) (fun s4 => 8 - s4.t15.toNat) ?_ N _
    ⟨Int.le_refl _, by simp, by simp, hm, by simp, hR⟩ (by simp; omega)
  clear hR
  rintro ⟨mo, L, o⟩ next ⟨o1, o2, hl, hmo, hO, hI⟩ hn
  simp only at o1 o2 hl hmo hO hI
  by_cases ho : o < 8
  · have e1 : decide (o < 8) = true := decide_eq_true ho
    have e2 : ibB o 8 = true := ibB_of o1 ho
    have hw : IntKind.i64.wrap (o + 1) = o + 1 := wrap64 (by omega) (by omega)
    have hkl := hk o o1 ho
    have ekl : vget s.Kept o.toNat default = ko s o := rfl
    have est : vget s.Starts o.toNat default = stt s o := rfl
    have ekn : vget (vget s.Known to_.Group.toNat default) o.toNat default = kn s to_ o := rfl
    have h8 : 8 - o.toNat = (8 - (o + 1).toNat) + 1 := by omega
    simp only [e1, e2, hib, cond_true, hw, est, ekl, ekn, count_eq, Option.bind_some, Bool.or_true]
    have hskip : idl s fr to_ (8 - (o + 1).toNat) (o + 1) mo L = R → next ⟨mo, L, o + 1⟩ = some R := fun h =>
      hn _ ⟨by simp only; omega, by simp only; omega, by simp only; omega, hmo, fun m hm => by have := hO m hm; simp only; omega, h⟩ (by simp only; omega)
    have hgo : idl s fr to_ (8 - (o + 1).toNat) (o + 1) mo L = R ∨ ¬ (0 ≤ kn s to_ o ∧ kn s to_ o ≤ 1099511627776 ∧ 0 ≤ stt s o ∧ stt s o ≤ 1099511627776 ∧ stt s o ≤ kn s to_ o) → skip s to_ o = true ∨ (0 ≤ kn s to_ o ∧ kn s to_ o ≤ 1099511627776 ∧ 0 ≤ stt s o ∧ stt s o ≤ 1099511627776 ∧ stt s o ≤ kn s to_ o) := fun _ => by
      by_cases hc : 0 ≤ kn s to_ o ∧ kn s to_ o ≤ 1099511627776 ∧ 0 ≤ stt s o ∧ stt s o ≤ 1099511627776 ∧ stt s o ≤ kn s to_ o
      · exact .inr hc
      · left
        simp only [skip, Bool.or_eq_true, decide_eq_true_eq]
        omega
    by_cases hc : 0 ≤ kn s to_ o ∧ kn s to_ o ≤ 1099511627776 ∧ 0 ≤ stt s o ∧ stt s o ≤ 1099511627776 ∧ stt s o ≤ kn s to_ o
    · obtain ⟨c1, c2, c3, c4, c5⟩ := hc
      have hs : skip s to_ o = false := by
        simp only [skip, Bool.or_eq_false_iff, decide_eq_false_iff_not]; omega
      rw [h8, idl_succ hs] at hI
      simp only [decide_eq_true c1, decide_eq_true c2, decide_eq_true c3, decide_eq_true c4, decide_eq_false (show ¬ kn s to_ o < stt s o by omega), Bool.and_self, Bool.not_true, Bool.not_false, cond_true, Option.bind_some, Bool.or_self, Bool.false_or]
      rw [wrap64 (n := kn s to_ o - stt s o) (by omega) (by omega)]
      by_cases hd : ((ko s o).length : Int) ≤ kn s to_ o - stt s o
      · rw [decide_eq_true hd]
        refine hskip ?_
        rw [tk_nil (by omega)] at hI
        simpa [adds] using hI
      rw [decide_eq_false hd, cutB_of (by omega) (by omega) (Int.le_refl _)]
      simp only [cond_true, cond_false]
      have hcut0 : cut (ko s o) (kn s to_ o - stt s o) ((ko s o).length : Int) = (ko s o).drop (kn s to_ o - stt s o).toNat := by
        unfold cut
        exact List.take_of_length_le (by simp)
      rw [hcut0]
      have hdl : ((ko s o).drop (kn s to_ o - stt s o).toNat).length ≤ 1048576 := by simp; omega
      refine iter_run (fun s5 : Sexchange_pushesx8 => (-9223372036854775808 ≤ s5.most ∧ s5.most ≤ 9223372036854775807) ∧ 0 ≤ s5.k ∧ s5.k + (s5.ops.length : Int) ≤ 1099511627776 + 1048576 ∧ (s5.l.length : Int) + s5.ops.length ≤ 1048576 * (o + 1) ∧ s5.ops.length ≤ 1048576 ∧ (∀ m ∈ s5.l, m.Origin ≤ o) ∧ (s5.ops = [] ∨ s5.most ≤ 0 ∨ Shut o s5.l) ∧
        idl s fr to_ (8 - (o + 1).toNat) (o + 1) (s5.most - ((s5.ops.take s5.most.toNat).length : Int)) (adds s fr to_ o s5.k (s5.ops.take s5.most.toNat) s5.l) = R) (fun s5 => s5.ops.length) ?_ N _
        ⟨hmo, c1, by simp only; omega, by simp only; omega, hdl, fun m hm => by have := hO m hm; omega, .inr (.inr (shut_of hO)), hI⟩ (by simp only; omega)
      clear hI hskip hgo hl hmo hO
      rintro ⟨mo, L, k, ops⟩ nx ⟨hmo, k1, k2, hl, hol, hO, hsh, hI⟩ hnx
      simp only at hmo k1 k2 hl hol hO hsh hI
      by_cases hz : 0 < (ops.length : Int)
      · rw [decide_eq_true hz]
        simp only [cond_true]
        rw [show (bif decide (mo < (bif decide (16 < (ops.length : Int)) then 16 else (ops.length : Int))) then mo else (bif decide (16 < (ops.length : Int)) then 16 else (ops.length : Int))) = pushN mo ops from rfl]
        obtain ⟨n1, n2, n3, n4⟩ := pushN_is mo ops
        generalize pushN mo ops = n at *
        by_cases hn0 : n ≤ 0
        · rw [decide_eq_true hn0]
          simp only [cond_true]
          rw [show mo.toNat = 0 by omega, List.take_zero, adds, idl_le _ _ _ _ (by simp; omega)] at hI
          rw [hI]
        · have hnn : n = ((n.toNat : Nat) : Int) := by omega
          generalize hnt : n.toNat = nn at *
          subst hnn
          have hcl : cut ops 0 (nn : Int) = ops.take nn := by unfold cut; simp
          have hcl2 : cut ops (nn : Int) (ops.length : Int) = ops.drop nn := by unfold cut; exact List.take_of_length_le (by simp)
          have hlen : (ops.take nn).length = nn := by simp; omega
          rw [decide_eq_false hn0, cutB_of (Int.le_refl _) (by omega) n3, cutB_of (by omega) n3 (Int.le_refl _), hcl, hcl2]
          have hclone : Fslices_Clone_Op N (ops.take nn) = some (ops.take nn) := by
            unfold Fslices_Clone_Op Fslices_Clone_Op_367
            rw [lenB_of (by omega)]; rfl
          rw [hclone]
          have hsh' : Shut o L := by
            rcases hsh with h | h | h
            · rw [h] at hz; simp at hz
            · omega
            · exact h
          simp only [cond_true, cond_false, Option.bind_some, List.length_singleton, lenB_of (show (L.length + 1) * 952 ≤ 70368744177664 by omega)]
          rw [wrap64 (n := mo - (nn : Int)) (by omega) (by omega), wrap64 (n := k + (nn : Int)) (by omega) (by omega)]
          have hsplit : ops.take mo.toNat = ops.take nn ++ (ops.drop nn).take (mo - nn).toNat := by
            rw [show (mo - (nn : Int)).toNat = mo.toNat - nn by omega, ← List.drop_take]
            have := (List.take_append_drop nn (ops.take mo.toNat)).symm
            rwa [List.take_take, show min nn mo.toNat = nn by omega] at this
          rw [hsplit, adds_chunk hsh' (by omega) (by omega), hlen, List.length_append, hlen] at hI
          refine hnx _ ⟨by simp only; omega, by simp only; omega, by simp only [List.length_drop]; omega, by simp only [List.length_drop, List.length_append, List.length_singleton]; omega, by simp only [List.length_drop]; omega, fun m hm => ?_, ?_, ?_⟩ (by simp only [List.length_drop]; omega)
          · rcases List.mem_append.1 hm with hm | hm
            · exact hO m hm
            · simp at hm; subst hm; exact Int.le_refl _
          · rcases n4 with h | h | h
            · exact .inr (.inl (by simp only; omega))
            · refine .inr (.inr (shut_end (.inr ?_)))
              show 16 ≤ (ops.take nn).length
              omega
            · exact .inl (List.drop_eq_nil_of_le (by omega))
          · simp only
            refine Eq.trans ?_ hI
            congr 1
            omega
      · rw [decide_eq_false hz]
        have h0 : ops = [] := by cases ops with
          | nil => rfl
          | cons => simp at hz
        subst h0
        simp only [cond_false]
        refine hn _ ⟨by simp only; omega, by simp only; omega, by simp only; simp at hl; omega, hmo, fun m hm => by have := hO m hm; simp only; omega, ?_⟩ (by simp only; omega)
        simpa [adds] using hI
    · have hs : skip s to_ o = true := by
        simp only [skip, Bool.or_eq_true, decide_eq_true_eq]; omega
      rw [h8, idl_skip hs] at hI
      have hd : ¬ ((decide (0 ≤ kn s to_ o) && decide (kn s to_ o ≤ 1099511627776)) = true ∧ (decide (0 ≤ stt s o) && decide (stt s o ≤ 1099511627776)) = true ∧ decide (kn s to_ o < stt s o) = false) := by
        simp only [Bool.and_eq_true, decide_eq_true_eq, decide_eq_false_iff_not]; omega
      generalize (decide (0 ≤ kn s to_ o) && decide (kn s to_ o ≤ 1099511627776)) = A at hd ⊢
      generalize (decide (0 ≤ stt s o) && decide (stt s o ≤ 1099511627776)) = B at hd ⊢
      generalize decide (kn s to_ o < stt s o) = D at hd ⊢
      cases A <;> cases B <;> cases D <;> simp at hd <;> exact hskip hI
  · have e1 : decide (o < 8) = false := decide_eq_false ho
    simp only [e1, cond_false]
    rw [show 8 - o.toNat = 0 by omega, idl] at hI
    rw [hI]
end
end Go.Proofs.Ytllmdbbhokaokaa
