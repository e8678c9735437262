/-
Frames: what the two writers and the two readers of frames compute, and the law WireFrames.
-/
import Derived.Test.YticlnhhaaidmaaaMf
import Derived.Test.YticlnhhaaidmaaaMd
set_option linter.unusedVariables false
set_option linter.unusedSimpArgs false
namespace Go.Proofs.Yticlnhhaaidmaaa
open Go Go.Ev

def four (s : Int) : List Int := [IntKind.u8.wrap s, IntKind.u8.wrap (shr .u32 s 8), IntKind.u8.wrap (shr .u32 s 16), IntKind.u8.wrap (shr .u32 s 24)]
theorem four_len (s : Int) : (four s).length = 4 := rfl
theorem four_byte (s : Int) : ∀ b ∈ four s, byteR b := by
  intro b hb
  simp only [four, List.mem_cons, List.mem_nil_iff, or_false] at hb
  rcases hb with rfl | rfl | rfl | rfl <;> exact wrap_u8_range _
/-- A frame. -/
def frameB (b : List Int) : List Int := vint (zig (b.length : Int)) ++ b ++ four (sumB b)

theorem F50z_eq {N : Nat} {l : List (List Int)} (hN : l.length < N) (hl : l.length ≤ 1000000) (hf : l.flatten.length ≤ 70368744177664) : F50z N l = some l.flatten := by
  have key : ∃ r, F50 N l = some r ∧ (r.1 ≤ r.2.length ∧ r.2.take r.1 = l.flatten) := by
    unfold F50
    refine iter_post (fun q : S50x3 => 0 ≤ q.t11 ∧ q.t11 ≤ (l.length : Int) ∧ 0 ≤ q.size ∧ q.size + (l.drop q.t11.toNat).flatten.length = l.flatten.length) (fun q => ((l.length : Int) - q.t11).toNat) _ ?_ N _ ⟨by simp, by simp, by simp, by simp⟩ (by simp; omega)
    rintro ⟨size, i⟩ nx ⟨g0, g1, g2, hq⟩ ih
    simp only at g0 g1 g2 hq ih ⊢
    by_cases hi : i < l.length
    · have hd := lget_drop (default : List Int) g0 hi
      rw [hd, List.flatten_cons, List.length_append] at hq
      simp only [decide_eq_true hi, ibB_of g0 hi, cond_true]
      rw [wrap64 (n := size + _) (by omega) (by omega), wrap64 (by omega) (by omega)]
      have : decide (size + ((lget l i default).length : Int) < 0) = false := by simp; omega
      simp only [this, cond_false]
      exact ih ⟨_, i + 1⟩ ⟨by simp; omega, by simp; omega, by simp; omega, by simp only; omega⟩ (by simp; omega)
    · have : decide (i < (l.length : Int)) = false := by simpa using hi
      simp only [this, cond_false]
      rw [List.drop_eq_nil_of_le (by omega)] at hq
      simp only [List.flatten_nil, List.length_nil] at hq
      have h53 : ∃ g, F53 N size = some (0, g) := by
        unfold F53
        have h0 : decide (size < 0) = false := by simp; omega
        simp only [h0, cond_false, Int.sub_zero]
        rw [wrap64 (by omega) (by omega)]
        by_cases hs : 0 < size
        · have : mkB size 1 = true := by simp [mkB]; omega
          simp only [decide_eq_true hs, cond_true, this]
          rw [cutB_of (Int.le_refl _) (Int.le_refl _) (by omega)]
          exact ⟨_, rfl⟩
        · have : decide (0 < size) = false := by simpa using hs
          simp only [this, cond_false]
          exact ⟨_, rfl⟩
      obtain ⟨g, hg⟩ := h53
      rw [hg, Option.bind_some]
      refine iter_post (fun q : S50x11 => 0 ≤ q.t27 ∧ q.t27 ≤ (l.length : Int) ∧ q.newslice ≤ q.g1.length ∧ q.g1.take q.newslice ++ (l.drop q.t27.toNat).flatten = l.flatten) (fun q => ((l.length : Int) - q.t27).toNat) _ ?_ N _ ⟨by simp, by simp, by simp, by simp⟩ (by simp; omega)
      rintro ⟨n, j, g1⟩ nx ⟨k0, k1, k2, hq⟩ ih
      simp only at k0 k1 k2 hq ih ⊢
      by_cases hj : j < l.length
      · have hd := lget_drop (default : List Int) k0 hj
        rw [hd, List.flatten_cons] at hq
        have hlen := congrArg List.length hq
        simp only [List.length_append, List.length_take, Nat.min_eq_left k2] at hlen
        simp only [decide_eq_true hj, ibB_of k0 hj, cond_true]
        rw [lenB_of (by omega), Nat.ble_eq_true_of_le k2, wrap64 (by omega) (by omega)]
        simp only [Bool.and_self, cond_true]
        refine ih ⟨_, j + 1, _⟩ ⟨by simp; omega, by simp; omega, by simp; omega, ?_⟩ (by simp; omega)
        simp only
        rw [List.take_of_length_le (by simp; omega), List.append_assoc]
        exact hq
      · have : decide (j < (l.length : Int)) = false := by simpa using hj
        simp only [this, cond_false]
        rw [List.drop_eq_nil_of_le (by omega)] at hq
        exact ⟨_, rfl, k2, by simpa using hq⟩
  obtain ⟨r, h1, h2, h3⟩ := key
  unfold F50z
  rw [h1, Option.bind_some, Nat.ble_eq_true_of_le h2, cond_true, h3]

section
variable {N : Nat} {b : List Int}
theorem F35_eq (hN : b.length + 20 ≤ N) (hb : ∀ x ∈ b, byteR x) : F35 N b = some (if 1048576 < b.length then ([], 3) else (frameB b, 0)) := by
  unfold F35
  by_cases h : 1048576 < b.length
  · have : decide (1048576 < (b.length : Int)) = true := by simp; omega
    rw [if_pos h, this]; rfl
  · have hd : decide (1048576 < (b.length : Int)) = false := by simp; omega
    have hr : R64 (b.length : Int) := ⟨by omega, by omega⟩
    have hv := vint_len10 (zig_lt hr)
    rw [if_neg h, hd]
    simp only [cond_false]
    rw [F49_eq (by omega) hr, Option.bind_some, F14_eq (by simp; omega) (by simp) (by intro m hm; simp at hm; subst hm; exact ⟨by omega, by omega, hb⟩), Option.bind_some]
    rw [show [b].flatten = b by simp, show F51 N (sumB b) = some (four (sumB b)) from rfl, Option.bind_some, F50z_eq (by simp; omega) (by simp) (by simp [four_len]; omega), Option.bind_some]
    simp [frameB]
theorem F38_eq (hN : b.length + 20 ≤ N) (hb : ∀ x ∈ b, byteR x) : F38 N b = some (if 1048576 < b.length then ([], 3) else (frameB b, 0)) := by
  unfold F38
  by_cases h : 1048576 < b.length
  · have : decide (1048576 < (b.length : Int)) = true := by simp; omega
    rw [if_pos h, this]; rfl
  · have hd : decide (1048576 < (b.length : Int)) = false := by simp; omega
    have hr : R64 (b.length : Int) := ⟨by omega, by omega⟩
    have hv := vint_len10 (zig_lt hr)
    rw [if_neg h, hd]
    simp only [cond_false]
    rw [F15_eq (by omega) (by omega) hb, Option.bind_some]
    have h36 : F36 N b = some (vint (zig (b.length : Int)) ++ b) := by
      unfold F36
      rw [F41_eq (by omega) hr, Option.bind_some, lenB_of (by omega)]; rfl
    rw [h36, Option.bind_some, lenB_of (by simp; omega)]
    rfl

/-- What bytes say as a frame. -/
def unB (b : List Int) : List Int × Int × Int :=
  if (pv 0 0 b).2.2 ≠ 0 then ([], 0, (pv 0 0 b).2.2) else
  if (pv 0 0 b).1 < 0 then ([], 0, 11) else
  if 1048576 < (pv 0 0 b).1 then ([], 0, 3) else
  if (b.length : Int) - (pv 0 0 b).2.1 < (pv 0 0 b).1 + 4 then ([], 0, 10) else
  if ((b.drop ((pv 0 0 b).2.1 + (pv 0 0 b).1).toNat).take 4) = four (sumB ((b.drop (pv 0 0 b).2.1.toNat).take (pv 0 0 b).1.toNat)) then
    ((b.drop (pv 0 0 b).2.1.toNat).take (pv 0 0 b).1.toNat, (pv 0 0 b).2.1 + (pv 0 0 b).1 + 4, 0) else ([], 0, 12)

theorem F52_eq {c d : List Int} (hN : c.length < N) (hc : c.length ≤ 9223372036854775000) : F52 N c d = some (decide (c = d)) := by
  unfold F52
  by_cases hl : c.length = d.length
  · have : (!((c.length : Int) == (d.length : Int))) = false := by simp [hl]
    rw [this]
    simp only [cond_false]
    refine iter_run (fun q : S52x4 => 0 ≤ q.t13 ∧ q.t13 ≤ (c.length : Int) ∧ (c.drop q.t13.toNat = d.drop q.t13.toNat ↔ c = d)) (fun q => ((c.length : Int) - q.t13).toNat) ?_ N _ ⟨by simp, by simp, by simp⟩ (by simp; omega)
    rintro ⟨i⟩ nx ⟨g0, g1, hq⟩ ih
    simp only at g0 g1 hq ih ⊢
    by_cases hi : i < c.length
    · have hi' : i < d.length := by omega
      rw [lget_drop (default : Int) g0 hi, lget_drop (default : Int) g0 hi'] at hq
      simp only [decide_eq_true hi, ibB_of g0 hi, ibB_of g0 hi', cond_true]
      by_cases he : lget c i default = lget d i default
      · have : (!(lget c i default == lget d i default)) = false := by simp only [he, beq_self_eq_true, Bool.not_true]
        rw [this, wrap64 (by omega) (by omega)]
        simp only [cond_false]
        exact ih ⟨i + 1⟩ ⟨by simp; omega, by simp; omega, by simp only; rw [← hq, he]; simp⟩ (by simp; omega)
      · have : (!(lget c i default == lget d i default)) = true := by rw [beq_eq_false_iff_ne.2 he]; rfl
        rw [this]
        simp only [cond_true]
        have : c ≠ d := fun e => he (by rw [e])
        simp [this]
    · have : decide (i < (c.length : Int)) = false := by simpa using hi
      simp only [this, cond_false]
      rw [List.drop_eq_nil_of_le (by omega), List.drop_eq_nil_of_le (by omega)] at hq
      simp [hq.1 rfl]
  · have : (!((c.length : Int) == (d.length : Int))) = true := by simp; omega
    rw [this]
    have : c ≠ d := fun e => hl (by rw [e])
    simp [this]

theorem cut_at {b : List Int} {i n : Int} (h0 : 0 ≤ i) (hn : 0 ≤ n) : cut b i (i + n) = (b.drop i.toNat).take n.toNat := by
  simp only [cut]; congr 1; omega

theorem F39_eq (hN : b.length + 20 ≤ N) (hl : b.length ≤ 70368744177664) (hb : ∀ x ∈ b, byteR x) : F39 N b = some (unB b) := by
  obtain ⟨a1, a2, a3, _⟩ := pv_k hb
  have a4 := a3.1; have a5 := a3.2
  unfold F39 unB
  rw [F45_eq (by omega) (by omega) hb, Option.bind_some]
  generalize hp : pv 0 0 b = p at a1 a2 a4 a5 ⊢
  by_cases he : p.2.2 = 0
  · rw [if_neg (by simpa using he), show (!(p.2.2 == 0)) = false by simp [he]]
    simp only [cond_false]
    by_cases hn : p.1 < 0
    · rw [if_pos hn, decide_eq_true hn]; rfl
    · rw [if_neg hn, decide_eq_false hn]
      simp only [cond_false]
      by_cases hm : 1048576 < p.1
      · rw [if_pos hm, decide_eq_true hm]; rfl
      · rw [if_neg hm, decide_eq_false hm]
        simp only [cond_false]
        rw [wrap64 (n := (b.length : Int) - p.2.1) (by omega) (by omega), wrap64 (n := p.1 + 4) (by omega) (by omega)]
        by_cases hs : (b.length : Int) - p.2.1 < p.1 + 4
        · rw [if_pos hs, decide_eq_true hs]; rfl
        · rw [if_neg hs, decide_eq_false hs]
          simp only [cond_false]
          rw [wrap64 (n := p.2.1 + p.1) (by omega) (by omega), wrap64 (n := p.2.1 + p.1 + 4) (by omega) (by omega)]
          rw [cutB_of (l := p.2.1 + p.1) (by omega) (by omega) (by omega), cutB_of (l := p.2.1) (by omega) (by omega) (by omega)]
          simp only [cond_true]
          rw [cut_at a1 (by omega), cut_at (i := p.2.1 + p.1) (n := 4) (by omega) (by omega)]
          have hsub : ∀ x ∈ (b.drop p.2.1.toNat).take p.1.toNat, byteR x := fun x hx => hb x (List.mem_of_mem_drop (List.mem_of_mem_take hx))
          have hlen : ((b.drop p.2.1.toNat).take p.1.toNat).length ≤ b.length := by simp; omega
          rw [F14_eq (by simp; omega) (by simp) (by intro m hm; simp only [List.mem_singleton] at hm; subst hm; exact ⟨by omega, by omega, hsub⟩), Option.bind_some]
          rw [show [(b.drop p.2.1.toNat).take p.1.toNat].flatten = (b.drop p.2.1.toNat).take p.1.toNat by simp]
          rw [show F51 N (sumB ((b.drop p.2.1.toNat).take p.1.toNat)) = some (four (sumB ((b.drop p.2.1.toNat).take p.1.toNat))) from rfl, Option.bind_some]
          have h4 : (List.take (4 : Int).toNat (b.drop (p.2.1 + p.1).toNat)).length ≤ 4 := by simp; omega
          rw [F52_eq (by omega) (by omega), Option.bind_some]
          rw [show (4 : Int).toNat = 4 from rfl]
          by_cases hc : (b.drop (p.2.1 + p.1).toNat).take 4 = four (sumB ((b.drop p.2.1.toNat).take p.1.toNat))
          · rw [if_pos hc, decide_eq_true hc]
            simp only [Bool.not_true, cond_false]
            rw [F43_eq (by omega), Option.bind_some]
          · rw [if_neg hc, decide_eq_false hc]; rfl
  · rw [if_pos he, show (!(p.2.2 == 0)) = true by simpa using he]; rfl

theorem four_eq {c : List Int} {i : Int} (h0 : 0 ≤ i) (h : i + 4 ≤ c.length) (x y z w : Int) :
    (((!(lget c i default == x)) || (!(lget c (i + 1) default == y))) || (!(lget c (i + 2) default == z)) || (!(lget c (i + 3) default == w))) = !(decide ((c.drop i.toNat).take 4 = [x, y, z, w])) := by
  rw [lget_drop (default : Int) h0 (by omega), lget_drop (default : Int) (i := i + 1) (by omega) (by omega), lget_drop (default : Int) (i := i + 1 + 1) (by omega) (by omega), lget_drop (default : Int) (i := i + 1 + 1 + 1) (by omega) (by omega)]
  rw [show i + 1 + 1 = i + 2 by omega, show i + 2 + 1 = i + 3 by omega]
  simp only [List.take_succ_cons, List.take_zero, List.cons.injEq, and_true]
  generalize lget c i default = p1
  generalize lget c (i + 1) default = p2
  generalize lget c (i + 2) default = p3
  generalize lget c (i + 3) default = p4
  by_cases e1 : p1 = x <;> by_cases e2 : p2 = y <;> by_cases e3 : p3 = z <;> by_cases e4 : p4 = w <;> simp [e1, e2, e3, e4]

theorem F40_eq (hN : b.length + 20 ≤ N) (hl : b.length ≤ 70368744177664) (hb : ∀ x ∈ b, byteR x) : F40 N b = some (unB b) := by
  obtain ⟨a1, a2, a3, _⟩ := pv_k hb
  have a4 := a3.1; have a5 := a3.2
  unfold F40 unB
  rw [F46_eq (by omega) (by omega) hb, Option.bind_some]
  generalize hp : pv 0 0 b = p at a1 a2 a4 a5 ⊢
  by_cases he : p.2.2 = 0
  · rw [if_neg (by simpa using he), show (!(p.2.2 == 0)) = false by simp [he]]
    simp only [cond_false]
    by_cases hn : p.1 < 0
    · rw [if_pos hn, decide_eq_true hn]; rfl
    · rw [if_neg hn, decide_eq_false hn]
      simp only [cond_false]
      by_cases hm : 1048576 < p.1
      · rw [if_pos hm, decide_eq_true hm]; rfl
      · rw [if_neg hm, decide_eq_false hm]
        simp only [cond_false]
        rw [wrap64 (n := (b.length : Int) - p.2.1) (by omega) (by omega), wrap64 (n := p.1 + 4) (by omega) (by omega)]
        by_cases hs : (b.length : Int) - p.2.1 < p.1 + 4
        · rw [if_pos hs, decide_eq_true hs]; rfl
        · rw [if_neg hs, decide_eq_false hs]
          simp only [cond_false]
          rw [wrap64 (n := p.2.1 + p.1) (by omega) (by omega), wrap64 (n := p.2.1 + p.1 + 4) (by omega) (by omega)]
          rw [wrap64 (n := p.2.1 + p.1 + 4 - 4) (by omega) (by omega), wrap64 (n := p.2.1 + p.1 + 4 - 3) (by omega) (by omega), wrap64 (n := p.2.1 + p.1 + 4 - 2) (by omega) (by omega), wrap64 (n := p.2.1 + p.1 + 4 - 1) (by omega) (by omega)]
          rw [show p.2.1 + p.1 + 4 - 4 = p.2.1 + p.1 by omega, show p.2.1 + p.1 + 4 - 3 = p.2.1 + p.1 + 1 by omega, show p.2.1 + p.1 + 4 - 2 = p.2.1 + p.1 + 2 by omega, show p.2.1 + p.1 + 4 - 1 = p.2.1 + p.1 + 3 by omega]
          rw [cutB_of (l := p.2.1) (by omega) (by omega) (by omega), cut_at a1 (by omega)]
          have hsub : ∀ x ∈ (b.drop p.2.1.toNat).take p.1.toNat, byteR x := fun x hx => hb x (List.mem_of_mem_drop (List.mem_of_mem_take hx))
          have hlen : ((b.drop p.2.1.toNat).take p.1.toNat).length ≤ b.length := by simp; omega
          rw [lenB_of (by omega), F15_eq (by omega) (by omega) hsub]
          rw [ibB_of (i := p.2.1 + p.1) (by omega) (by omega), ibB_of (i := p.2.1 + p.1 + 1) (by omega) (by omega), ibB_of (i := p.2.1 + p.1 + 2) (by omega) (by omega), ibB_of (i := p.2.1 + p.1 + 3) (by omega) (by omega)]
          simp only [cond_true, Option.bind_some, Bool.or_true]
          rw [four_eq (by omega) (by omega)]
          show (bif !(decide ((b.drop (p.2.1 + p.1).toNat).take 4 = four (sumB ((b.drop p.2.1.toNat).take p.1.toNat)))) then _ else _) = _
          by_cases hc : (b.drop (p.2.1 + p.1).toNat).take 4 = four (sumB ((b.drop p.2.1.toNat).take p.1.toNat))
          · rw [if_pos hc, decide_eq_true hc]; rfl
          · rw [if_neg hc, decide_eq_false hc]; rfl
  · rw [if_pos he, show (!(p.2.2 == 0)) = true by simpa using he]; rfl

theorem wireFrames_F (hN : b.length + 20 ≤ N) (hl : b.length ≤ 70368744177664) (hb : ∀ x ∈ b, byteR x) : F11 N b = some true := by
  unfold F11
  rw [F35_eq hN hb, F38_eq hN hb, F39_eq hN hl hb, F40_eq hN hl hb, F13_eq (by omega)]
  simp [F19]
end
end Go.Proofs.Yticlnhhaaidmaaa
