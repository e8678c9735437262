/-
The law WireOne, put together.
-/
import Derived.Test.YticlnhhaaidmaaaMl
set_option linter.unusedVariables false
set_option linter.unusedSimpArgs false
namespace Go.Proofs.Yticlnhhaaidmaaa
open Go Go.Ev

theorem F34_prefix (N : Nat) (w c : List Int) : F34 N (w ++ c) w = some true := by
  unfold F34
  have hle : (w.length : Int) ≤ ((w ++ c).length : Int) := by rw [List.length_append]; omega
  have e : cut (w ++ c) 0 (w.length : Int) = w := by simp [cut]
  simp only [decide_eq_true hle, e, cutB_of (Int.le_refl 0) (show (0 : Int) ≤ (w.length : Int) by omega) hle, Bool.or_true, cond_true, F19_self, Option.bind_some, Bool.and_self]

theorem wireOne_F {N : Nat} {b : List Int} {l : List Gorchardlaw01_Part} (hN : l.length + 20 ≤ N) (hll : l.length ≤ 1048576) (hl : b.length ≤ 1048576) (hb : ∀ x ∈ b, byteR x) : F7 N b l = some true := by
  unfold F7 F21 F16
  rw [F43_eq (show b.length ≤ 70368744177664 by omega)]
  simp only [Option.bind_some, F13_eq (N := N) (by omega), Bool.not_true, cond_false]
  refine iter_run (fun q : S7x6 => ∃ c : List Int, q.b0 = ⟨true, c⟩ ∧ q.b1 = true ∧ b = q.b12 ++ c ∧ 0 ≤ q.t34 ∧ q.t34 ≤ (l.length : Int)) (fun q => ((l.length : Int) - q.t34).toNat) ?_ N _ ⟨b, rfl, rfl, rfl, by simp, by simp⟩ (by simp; omega)
  rintro ⟨i, r, b1, w⟩ nx ⟨c, e0, e1, hbw, g0, g1⟩ ih
  simp only at e0 e1 hbw g0 g1 ih ⊢
  subst e0; subst e1
  have hcb : ∀ x ∈ c, byteR x := fun x hx => hb x (by rw [hbw]; simp [hx])
  have hlen := congrArg List.length hbw
  rw [List.length_append] at hlen
  have hN11 : 11 ≤ N := by omega
  by_cases hi : i < l.length
  · simp only [decide_eq_true hi, ibB_of g0 hi, cond_true, F29_eq, F18_eq, Option.bind_some]
    generalize lget l i default = p
    -- nothing taken
    have stay : nx ⟨IntKind.i64.wrap (i + 1), ⟨true, c⟩, true, w⟩ = some true := by
      rw [wrap64 (by omega) (by omega)]
      exact ih ⟨i + 1, ⟨true, c⟩, true, w⟩ ⟨c, rfl, rfl, hbw, by simp; omega, by simp; omega⟩ (by simp; omega)
    have same : (IntKind.i64.wrap ((c.length : Int) - (c.length : Int)) == IntKind.i64.wrap ((w.length : Int) - (w.length : Int))) = true := by rw [Int.sub_self, Int.sub_self]; rfl
    -- bytes taken, and put
    have move : ∀ y c' : List Int, c = y ++ c' → putAll w y = (0, true, w ++ y) ∧ nx ⟨IntKind.i64.wrap (i + 1), ⟨true, c'⟩, true, w ++ y⟩ = some true ∧
        (IntKind.i64.wrap ((c.length : Int) - (c'.length : Int)) == IntKind.i64.wrap (((w ++ y).length : Int) - (w.length : Int))) = true := fun y c' hc => by
      have hl2 := congrArg List.length hc
      rw [List.length_append] at hl2
      refine ⟨by rw [putAll, if_pos (by omega)], ?_, ?_⟩
      · rw [wrap64 (by omega) (by omega)]
        exact ih ⟨i + 1, ⟨true, c'⟩, true, w ++ y⟩ ⟨c', rfl, rfl, by rw [hbw, hc, List.append_assoc], by simp; omega, by simp; omega⟩ (by simp; omega)
      · have : (c.length : Int) - (c'.length : Int) = ((w ++ y).length : Int) - (w.length : Int) := by simp only [List.length_append]; omega
        rw [this]; exact beq_self_eq_true _
    have e22 := F22_eq (N := N) hN11 (b := c) (by omega) hcb
    have e23 := F23_eq (N := N) hN11 (b := c) (by omega) hcb
    have e24 := F24_eq (N := N) hN11 (b := c) (by omega) hcb
    have z3 : ((0 : Int) == 3) = false := rfl
    cases (p.Kind == 0)
    · simp only [cond_false]
      cases (p.Kind == 1)
      · simp only [cond_false]
        cases (p.Kind == 2)
        · simp only [cond_false, e24, Option.bind_some]
          by_cases h : (rF c).2.1 = 0
          · obtain ⟨m1, m2, m3⟩ := move _ _ (rF_one hcb h)
            have h' : ((rF c).2.1 == 0) = true := by simpa using h
            simp only [h', cond_true, F33_flag hN11 _ (show w.length ≤ 1048576 by omega), m1, Option.bind_some, z3, cond_false, beq_self_eq_true, Bool.not_true, Bool.not_false, F29_eq, F18_eq, m3, Bool.or_self, m2]
          · have h' : ((rF c).2.1 == 0) = false := by simpa using h
            simp only [h', cond_false, rF_not h, F29_eq, F18_eq, Option.bind_some, same, Bool.not_true, stay]
        · simp only [cond_true, e23, Option.bind_some]
          by_cases h : (rB c).2.1 = 0
          · obtain ⟨q1, q2⟩ := rB_one hcb h
            obtain ⟨m1, m2, m3⟩ := move _ _ q1
            have h' : ((rB c).2.1 == 0) = true := by simpa using h
            simp only [h', cond_true, F32_eq hN11 (show (rB c).1.length ≤ 1048576 by omega) (show w.length ≤ 1048576 by omega), m1, Option.bind_some, z3, cond_false, beq_self_eq_true, Bool.not_true, Bool.not_false, F29_eq, F18_eq, m3, Bool.or_self, m2]
          · have h' : ((rB c).2.1 == 0) = false := by simpa using h
            simp only [h', cond_false, rB_not h, F29_eq, F18_eq, Option.bind_some, same, Bool.not_true, stay]
      · simp only [cond_true, e23, Option.bind_some]
        by_cases h : (rB c).2.1 = 0
        · obtain ⟨q1, q2⟩ := rB_one hcb h
          obtain ⟨m1, m2, m3⟩ := move _ _ q1
          have h' : ((rB c).2.1 == 0) = true := by simpa using h
          simp only [h', cond_true, F32_eq hN11 (show (rB c).1.length ≤ 1048576 by omega) (show w.length ≤ 1048576 by omega), m1, Option.bind_some, z3, cond_false, beq_self_eq_true, Bool.not_true, Bool.not_false, F29_eq, F18_eq, m3, Bool.or_self, m2]
        · have h' : ((rB c).2.1 == 0) = false := by simpa using h
          simp only [h', cond_false, rB_not h, F29_eq, F18_eq, Option.bind_some, same, Bool.not_true, stay]
    · simp only [cond_true, e22, Option.bind_some]
      by_cases h : (rI c).2.1 = 0
      · obtain ⟨q1, q2⟩ := rI_one hcb h
        obtain ⟨m1, m2, m3⟩ := move _ _ q1
        have h' : ((rI c).2.1 == 0) = true := by simpa using h
        simp only [h', cond_true, F31_eq hN11 q2 (show w.length ≤ 1048576 by omega), m1, Option.bind_some, z3, cond_false, beq_self_eq_true, Bool.not_true, Bool.not_false, F29_eq, F18_eq, m3, Bool.or_self, m2]
      · have h' : ((rI c).2.1 == 0) = false := by simpa using h
        simp only [h', cond_false, rI_not hcb h, F29_eq, F18_eq, Option.bind_some, same, Bool.not_true, stay]
  · have : decide (i < (l.length : Int)) = false := by simpa using hi
    simp only [this, cond_false, F20_eq (N := N) (show w.length ≤ 1048576 by omega), Option.bind_some]
    rw [hbw, F34_prefix]
    rfl
end Go.Proofs.Yticlnhhaaidmaaa
