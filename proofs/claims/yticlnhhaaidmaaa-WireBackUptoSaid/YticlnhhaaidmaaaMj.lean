/-
The law WireBack.
-/
import Derived.Test.YticlnhhaaidmaaaMi
set_option linter.unusedVariables false
set_option linter.unusedSimpArgs false
namespace Go.Proofs.Yticlnhhaaidmaaa
open Go Go.Ev

theorem readBack {N : Nat} (hN' : 20 ≤ N) {there : List Gorchardlaw01_Part} (hN : there.length < N) (hl : there.length ≤ 1048576) (hp : ∀ p ∈ there, okP p) (hb : (allB there).length ≤ 1048576) :
    iter N (fun (s8 : S9x16) next9 =>
     (bif (decide (s8.t54 < ((there).length : Int))) then
     (bif (ibB s8.t54 ((there).length : Int)) then
     (bif (((lget there s8.t54 default).Kind) == 0) then
     ((F22 N s8.b4).bind fun r10 =>
     (bif (!((r10.2.1 == 0) && (r10.1 == ((lget there s8.t54 default).N)))) then
     (some false)
     else
     (next9 ⟨(IntKind.i64.wrap (s8.t54 + 1)), r10.2.2⟩)))
     else
     (bif (((lget there s8.t54 default).Kind) == 1) then
     ((F23 N s8.b4).bind fun r11 =>
     ((bif (r11.2.1 == 0) then F19 N r11.1 ((lget there s8.t54 default).B) else some default).bind fun r12 =>
     (bif (!((r11.2.1 == 0) && r12)) then
     (some false)
     else
     (next9 ⟨(IntKind.i64.wrap (s8.t54 + 1)), r11.2.2⟩))))
     else
     (bif (((lget there s8.t54 default).Kind) == 2) then
     ((F27 N s8.b4).bind fun r13 =>
     (bif (!((r13.2.1 == 0) && (r13.1 == (strI ((lget there s8.t54 default).B))))) then
     (some false)
     else
     (next9 ⟨(IntKind.i64.wrap (s8.t54 + 1)), r13.2.2⟩)))
     else
     ((F24 N s8.b4).bind fun r14 =>
     (bif (!((r14.2.1 == 0) && (r14.1 == (decide (0 < ((lget there s8.t54 default).N)))))) then
     (some false)
     else
     (next9 ⟨(IntKind.i64.wrap (s8.t54 + 1)), r14.2.2⟩))))))
     else none)
     else
     ((F30 N s8.b4).bind fun r15 =>
     (bif (r15.1 == 0) then
     ((F29 N r15.2).bind fun r16 =>
     (some ((r15.1 == 0) && (r16.1 == 0))))
     else
     (some false))))) ⟨0, ⟨true, allB there⟩⟩ = some true := by
  refine iter_run (fun q : S9x16 => 0 ≤ q.t54 ∧ q.t54 ≤ (there.length : Int) ∧ q.b4 = ⟨true, allB (there.drop q.t54.toNat)⟩ ∧ (allB (there.drop q.t54.toNat)).length ≤ 1048576) (fun q => ((there.length : Int) - q.t54).toNat) ?_ N _ ⟨by simp, by simp, rfl, hb⟩ (by simp; omega)
  rintro ⟨i, r⟩ nx ⟨g0, g1, g2, g3⟩ ih
  simp only at g0 g1 g2 g3 ih ⊢
  subst g2
  by_cases hi : i < there.length
  · have hd := lget_drop (default : Gorchardlaw01_Part) g0 hi
    have hpi := hp _ (lget_mem (default : Gorchardlaw01_Part) g0 hi)
    have hbytes := allB_bytes (l := there.drop i.toNat) fun p h => hp p (List.mem_of_mem_drop h)
    simp only [decide_eq_true hi, ibB_of g0 hi, cond_true]
    rw [hd, allB_cons] at g3 hbytes ⊢
    generalize lget there i default = p at hpi g3 hbytes ⊢
    have next : nx ⟨IntKind.i64.wrap (i + 1), ⟨true, allB (there.drop (i + 1).toNat)⟩⟩ = some true := by
      rw [wrap64 (by omega) (by omega)]
      refine ih ⟨i + 1, ⟨true, allB (there.drop (i + 1).toNat)⟩⟩ ⟨by simp; omega, by simp; omega, rfl, ?_⟩ (by simp; omega)
      simp only [List.length_append] at g3
      simp only; omega
    generalize allB (there.drop (i + 1).toNat) = rest at g3 hbytes next ⊢
    obtain ⟨h1, h2, h3⟩ := hpi
    have hN11 : 11 ≤ N := by omega
    have e22 := F22_eq (N := N) hN11 (b := pb p ++ rest) (by omega) hbytes
    have e23 := F23_eq (N := N) hN11 (b := pb p ++ rest) (by omega) hbytes
    have e24 := F24_eq (N := N) hN11 (b := pb p ++ rest) (by omega) hbytes
    by_cases k0 : p.Kind = 0
    · have ek : pb p = vint (zig p.N) := by unfold pb; rw [if_pos k0]
      have : (p.Kind == 0) = true := by simpa using k0
      rw [this]
      simp only [cond_true, e22]
      rw [ek, rI_back h1]
      simp only [Option.bind_some, beq_self_eq_true, Bool.and_self, Bool.not_true, cond_false, next]
    · have : (p.Kind == 0) = false := by simpa using k0
      rw [this]
      simp only [cond_false]
      by_cases k1 : p.Kind = 1
      · have ek : pb p = vint (zig (p.B.length : Int)) ++ p.B := by unfold pb; rw [if_neg k0, if_pos (.inl k1)]
        have : (p.Kind == 1) = true := by simpa using k1
        rw [this]
        simp only [cond_true, e23]
        rw [ek, rB_back h2]
        simp only [Option.bind_some, beq_self_eq_true, F19_self, cond_true, Bool.and_self, Bool.not_true, cond_false, next]
      · have : (p.Kind == 1) = false := by simpa using k1
        rw [this]
        simp only [cond_false]
        by_cases k2 : p.Kind = 2
        · have ek : pb p = vint (zig (p.B.length : Int)) ++ p.B := by unfold pb; rw [if_neg k0, if_pos (.inr k2)]
          have : (p.Kind == 2) = true := by simpa using k2
          rw [this]
          simp only [cond_true, F27, e23]
          rw [ek, rB_back h2]
          simp only [Option.bind_some, beq_self_eq_true, Bool.and_self, Bool.not_true, cond_false, next]
        · have ek : pb p = vint (zig (if 0 < p.N then 1 else 0)) := by unfold pb; rw [if_neg k0, if_neg (fun h => h.elim k1 k2)]
          have : (p.Kind == 2) = false := by simpa using k2
          rw [this]
          simp only [cond_false, e24]
          rw [ek, rF_back]
          simp only [Option.bind_some, beq_self_eq_true, Bool.and_self, Bool.not_true, cond_false, next]
  · have : decide (i < (there.length : Int)) = false := by simpa using hi
    simp only [this, cond_false]
    rw [List.drop_eq_nil_of_le (by omega)]
    simp [F30, F44, F29, allB]

theorem wireBack_F {N : Nat} {l : List Gorchardlaw01_Part} (hN : l.length + 20 ≤ N) (hl : l.length ≤ 1048576) (hp : ∀ p ∈ l, okP p) : F9 N l = some true := by
  unfold F9 F16
  simp only [Option.bind_some, F13_eq (N := N) (by omega), Bool.not_true, cond_false]
  refine iter_run (fun q : S9x6 => 0 ≤ q.t30 ∧ q.t30 ≤ (l.length : Int) ∧ q.b0 = true ∧ q.b02 = allB q.there ∧ q.b02.length ≤ 1048576 ∧ (q.there.length : Int) ≤ q.t30 ∧ ∀ p ∈ q.there, p ∈ l) (fun q => ((l.length : Int) - q.t30).toNat) ?_ N _ ⟨by simp, by simp, rfl, rfl, by simp, by simp, by simp⟩ (by simp; omega)
  rintro ⟨there, i, b0, w⟩ nx ⟨g0, g1, g2, g3, g4, g5, g6⟩ ih
  simp only at g0 g1 g2 g3 g4 g5 g6 ih ⊢
  subst g2; subst g3
  by_cases hi : i < l.length
  · have hmem := lget_mem (default : Gorchardlaw01_Part) g0 hi
    simp only [decide_eq_true hi, ibB_of g0 hi, cond_true, F17_eq (N := N) (by omega) (hp _ hmem) g4, Option.bind_some]
    generalize lget l i default = p at hmem ⊢
    rw [wrap64 (n := i + 1) (by omega) (by omega), lenB_of (by simp; omega)]
    unfold putAll
    by_cases hlong : (allB there).length + (pb p).length ≤ 1048576
    · rw [if_pos hlong]
      simp only [beq_self_eq_true, cond_true]
      refine ih ⟨there ++ [p], i + 1, true, allB there ++ pb p⟩ ⟨by simp; omega, by simp; omega, rfl, (allB_snoc there p).symm, by simp; omega, by simp; omega, ?_⟩ (by simp; omega)
      intro q hq
      rcases List.mem_append.1 hq with hq | hq
      · exact g6 q hq
      · simp at hq; subst hq; exact hmem
    · rw [if_neg hlong]
      simp only [show ((3 : Int) == 0) = false from rfl, cond_false]
      exact ih ⟨there, i + 1, true, allB there⟩ ⟨by simp; omega, by simp; omega, rfl, rfl, g4, by simp; omega, g6⟩ (by simp; omega)
  · have : decide (i < (l.length : Int)) = false := by simpa using hi
    simp only [this, cond_false, F20_eq (N := N) g4, Option.bind_some, F21, F43_eq (show (allB there).length ≤ 70368744177664 by omega)]
    exact readBack (by omega) (by omega) (by omega) (fun p h => hp p (g6 p h)) g4
end Go.Proofs.Yticlnhhaaidmaaa
