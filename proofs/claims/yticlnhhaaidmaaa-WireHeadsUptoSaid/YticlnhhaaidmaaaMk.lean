/-
The law WireHeads.
-/
import Derived.Test.YticlnhhaaidmaaaMi
set_option linter.unusedVariables false
set_option linter.unusedSimpArgs false
namespace Go.Proofs.Yticlnhhaaidmaaa
open Go Go.Ev

theorem readHeads {N : Nat} (hN' : 20 ≤ N) {there : List Gorchardlaw01_Part} (hN : there.length < N) (hl : there.length ≤ 1048576) (hp : ∀ p ∈ there, okP p) (hb : (allB there).length ≤ 1048576) {m0 : Nat} (hm0 : m0 < (allB there).length) :
    iter N (fun (s8 : S5x18) next9 =>
     (bif (decide (s8.t59 < ((there).length : Int))) then
     (bif (ibB s8.t59 ((there).length : Int)) then
     (bif (((lget there s8.t59 default).Kind) == 0) then
     ((F22 N s8.b4).bind fun r10 =>
     (bif (!(r10.2.1 == 0)) then
     (some (r10.2.1 == 10))
     else
     (next9 ⟨(IntKind.i64.wrap (s8.t59 + 1)), r10.2.2⟩)))
     else
     (bif (((lget there s8.t59 default).Kind) == 1) then
     (bif (((lget there s8.t59 default).Kind) == 1) then
     ((F23 N s8.b4).bind fun r11 =>
     (bif (!(r11.2.1 == 0)) then
     (some (r11.2.1 == 10))
     else
     (next9 ⟨(IntKind.i64.wrap (s8.t59 + 1)), r11.2.2⟩)))
     else
     ((F24 N s8.b4).bind fun r12 =>
     (bif (!(r12.2.1 == 0)) then
     (some (r12.2.1 == 10))
     else
     (next9 ⟨(IntKind.i64.wrap (s8.t59 + 1)), r12.2.2⟩))))
     else
     (bif (((lget there s8.t59 default).Kind) == 2) then
     ((F23 N s8.b4).bind fun r13 =>
     (bif (!(r13.2.1 == 0)) then
     (some (r13.2.1 == 10))
     else
     (next9 ⟨(IntKind.i64.wrap (s8.t59 + 1)), r13.2.2⟩)))
     else
     ((F24 N s8.b4).bind fun r14 =>
     (bif (!(r14.2.1 == 0)) then
     (some (r14.2.1 == 10))
     else
     (next9 ⟨(IntKind.i64.wrap (s8.t59 + 1)), r14.2.2⟩))))))
     else none)
     else
     (some false))) ⟨0, ⟨true, (allB there).take m0⟩⟩ = some true := by
  refine iter_run (fun q : S5x18 => 0 ≤ q.t59 ∧ q.t59 ≤ (there.length : Int) ∧ ∃ m, q.b4 = ⟨true, (allB (there.drop q.t59.toNat)).take m⟩ ∧ m < (allB (there.drop q.t59.toNat)).length ∧ (allB (there.drop q.t59.toNat)).length ≤ 1048576) (fun q => ((there.length : Int) - q.t59).toNat) ?_ N _ ⟨by simp, by simp, m0, rfl, hm0, hb⟩ (by simp; omega)
  rintro ⟨i, r⟩ nx ⟨g0, g1, m, g2, g3, g4⟩ ih
  simp only at g0 g1 g2 g3 g4 ih ⊢
  subst g2
  by_cases hi : i < there.length
  · have hd := lget_drop (default : Gorchardlaw01_Part) g0 hi
    have hpi := hp _ (lget_mem (default : Gorchardlaw01_Part) g0 hi)
    have hbytes := allB_bytes (l := there.drop i.toNat) fun p h => hp p (List.mem_of_mem_drop h)
    simp only [decide_eq_true hi, ibB_of g0 hi, cond_true]
    rw [hd, allB_cons] at g3 g4 hbytes ⊢
    generalize lget there i default = p at hpi g3 g4 hbytes ⊢
    have next : ∀ m', m' < (allB (there.drop (i + 1).toNat)).length → nx ⟨IntKind.i64.wrap (i + 1), ⟨true, (allB (there.drop (i + 1).toNat)).take m'⟩⟩ = some true := fun m' hm' => by
      rw [wrap64 (by omega) (by omega)]
      refine ih ⟨i + 1, _⟩ ⟨by simp; omega, by simp; omega, m', rfl, hm', ?_⟩ (by simp; omega)
      simp only [List.length_append] at g4
      simp only; omega
    generalize allB (there.drop (i + 1).toNat) = rest at g3 g4 hbytes next ⊢
    obtain ⟨h1, h2, h3⟩ := hpi
    have hN11 : 11 ≤ N := by omega
    have htb : ∀ x ∈ (pb p ++ rest).take m, byteR x := fun x hx => hbytes x (List.mem_of_mem_take hx)
    have htl : ((pb p ++ rest).take m).length ≤ 70368744177664 := by simp only [List.length_take]; omega
    have e22 := F22_eq (N := N) hN11 htl htb
    have e23 := F23_eq (N := N) hN11 htl htb
    have e24 := F24_eq (N := N) hN11 htl htb
    have split : (pb p).length ≤ m → (pb p ++ rest).take m = pb p ++ rest.take (m - (pb p).length) := fun h => by rw [List.take_append, List.take_of_length_le h]
    have short : ¬ (pb p).length ≤ m → (pb p ++ rest).take m = (pb p).take m := fun h => List.take_append_of_le_length (by omega)
    simp only [List.length_append] at g3
    by_cases k0 : p.Kind = 0
    · have ek : pb p = vint (zig p.N) := by unfold pb; rw [if_pos k0]
      have : (p.Kind == 0) = true := by simpa using k0
      rw [this]
      simp only [cond_true, e22]
      by_cases hm : (pb p).length ≤ m
      · rw [split hm]
        have hnx := next (m - (pb p).length) (by omega)
        generalize rest.take (m - (pb p).length) = c at hnx ⊢
        rw [ek, rI_back h1]
        simp only [Option.bind_some, beq_self_eq_true, Bool.not_true, cond_false, hnx]
      · rw [short hm]
        have := rI_short h1 (q := m) (by rw [← ek]; omega)
        rw [← ek] at this
        simp only [Option.bind_some, this]; rfl
    · have : (p.Kind == 0) = false := by simpa using k0
      rw [this]
      simp only [cond_false]
      have bytesCase : p.Kind = 1 ∨ p.Kind = 2 → ((F23 N ⟨true, (pb p ++ rest).take m⟩).bind fun r11 =>
          (bif (!(r11.2.1 == 0)) then
          (some (r11.2.1 == 10))
          else
          (nx ⟨(IntKind.i64.wrap (i + 1)), r11.2.2⟩))) = some true := fun k => by
        have ek : pb p = vint (zig (p.B.length : Int)) ++ p.B := by unfold pb; rw [if_neg k0, if_pos k]
        simp only [e23]
        by_cases hm : (pb p).length ≤ m
        · rw [split hm]
          have hnx := next (m - (pb p).length) (by omega)
          generalize rest.take (m - (pb p).length) = c at hnx ⊢
          rw [ek, rB_back h2]
          simp only [Option.bind_some, beq_self_eq_true, Bool.not_true, cond_false, hnx]
        · rw [short hm]
          have := rB_short h2 (q := m) (by rw [← ek]; omega)
          rw [← ek] at this
          simp only [Option.bind_some, this]; rfl
      by_cases k1 : p.Kind = 1
      · have : (p.Kind == 1) = true := by simpa using k1
        rw [this]
        simp only [cond_true]
        exact bytesCase (.inl k1)
      · have : (p.Kind == 1) = false := by simpa using k1
        rw [this]
        simp only [cond_false]
        by_cases k2 : p.Kind = 2
        · have : (p.Kind == 2) = true := by simpa using k2
          rw [this]
          simp only [cond_true]
          exact bytesCase (.inr k2)
        · have ek : pb p = vint (zig (if 0 < p.N then 1 else 0)) := by unfold pb; rw [if_neg k0, if_neg (fun h => h.elim k1 k2)]
          have : (p.Kind == 2) = false := by simpa using k2
          rw [this]
          simp only [cond_false, e24]
          by_cases hm : (pb p).length ≤ m
          · rw [split hm]
            have hnx := next (m - (pb p).length) (by omega)
            generalize rest.take (m - (pb p).length) = c at hnx ⊢
            rw [ek, rF_back]
            simp only [Option.bind_some, beq_self_eq_true, Bool.not_true, cond_false, hnx]
          · rw [short hm]
            have := rF_short (R64_flag p.N) (q := m) (by rw [← ek]; omega)
            rw [← ek] at this
            simp only [Option.bind_some, this]; rfl
  · rw [List.drop_eq_nil_of_le (by omega)] at g3
    simp [allB] at g3

theorem wireHeads_F {N : Nat} {l : List Gorchardlaw01_Part} {t : Int} (hN : l.length + 20 ≤ N) (hl : l.length ≤ 1048576) (hp : ∀ p ∈ l, okP p) (ht : 0 ≤ t ∧ t ≤ 65535) : F5 N l t = some true := by
  unfold F5 F16
  simp only [Option.bind_some, F13_eq (N := N) (by omega), Bool.not_true, cond_false]
  refine iter_run (fun q : S5x6 => 0 ≤ q.t26 ∧ q.t26 ≤ (l.length : Int) ∧ q.b0 = true ∧ q.b02 = allB q.there ∧ q.b02.length ≤ 1048576 ∧ (q.there.length : Int) ≤ q.t26 ∧ ∀ p ∈ q.there, p ∈ l) (fun q => ((l.length : Int) - q.t26).toNat) ?_ N _ ⟨by simp, by simp, rfl, rfl, by simp, by simp, by simp⟩ (by simp; omega)
  rintro ⟨there, i, b0, w⟩ nx ⟨g0, g1, g2, g3, g4, g5, g6⟩ ih
  simp only at g0 g1 g2 g3 g4 g5 g6 ih ⊢
  subst g2; subst g3
  by_cases hi : i < l.length
  · have hmem := lget_mem (default : Gorchardlaw01_Part) g0 hi
    simp only [decide_eq_true hi, ibB_of g0 hi, cond_true, F17_eq (N := N) (by omega) (hp _ hmem) g4, Option.bind_some]
    generalize lget l i default = p at hmem ⊢
    rw [wrap64 (n := i + 1) (by omega) (by omega), lenB_of (by simp; omega)]
    unfold putAll
    by_cases hlong : (allB there).length + (pb p).length ≤ 1048576
    · rw [if_pos hlong]
      simp only [beq_self_eq_true, cond_true]
      refine ih ⟨there ++ [p], i + 1, true, allB there ++ pb p⟩ ⟨by simp; omega, by simp; omega, rfl, (allB_snoc there p).symm, by simp; omega, by simp; omega, ?_⟩ (by simp; omega)
      intro q hq
      rcases List.mem_append.1 hq with hq | hq
      · exact g6 q hq
      · simp at hq; subst hq; exact hmem
    · rw [if_neg hlong]
      simp only [show ((3 : Int) == 0) = false from rfl, cond_false]
      exact ih ⟨there, i + 1, true, allB there⟩ ⟨by simp; omega, by simp; omega, rfl, rfl, g4, by simp; omega, g6⟩ (by simp; omega)
  · have : decide (i < (l.length : Int)) = false := by simpa using hi
    simp only [this, cond_false, F20_eq (N := N) g4, Option.bind_some]
    by_cases h0 : (allB there).length = 0
    · have : (((allB there).length : Int) == 0) = true := by simp [h0]
      rw [this]; rfl
    · have : (((allB there).length : Int) == 0) = false := by rw [beq_eq_false_iff_ne]; omega
      rw [this]
      simp only [cond_false, Bool.not_false, cond_true]
      rw [wrap64 (by omega) (by omega), Int.tmod_eq_emod_of_nonneg ht.1]
      have hm1 := Int.emod_nonneg t (show ((allB there).length : Int) ≠ 0 by omega)
      have hm2 := Int.emod_lt_of_pos t (show (0 : Int) < (allB there).length by omega)
      generalize t % ((allB there).length : Int) = m at hm1 hm2 ⊢
      rw [cutB_of (Int.le_refl _) hm1 (by omega)]
      have ec : cut (allB there) 0 m = (allB there).take m.toNat := by simp [cut]
      simp only [cond_true, ec, F21, F43_eq (show ((allB there).take m.toNat).length ≤ 70368744177664 by simp only [List.length_take]; omega), Option.bind_some]
      exact readHeads (by omega) (by omega) (by omega) (fun p h => hp p (g6 p h)) g4 (by omega)
end Go.Proofs.Yticlnhhaaidmaaa
