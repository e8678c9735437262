/-
TakeEntry and Unmarshal; the law RecordBack.
-/
import Derived.Test.YteinehkdjkobnaaGreatqVd
set_option linter.unusedVariables false
set_option linter.unusedSimpArgs false
namespace Go.Proofs.YteinehkdjkobnaaGreat
open Go Go.Ev
section
variable {N : Nat} {b : List Int}
theorem unB_frame {c : List Int} (hl : c.length ≤ 1048576) : unB (z1s c) = (c,((z1s c).length : Int),0) := by
  have hr : R64 (c.length : Int) := ⟨by omega,by omega⟩
  have hp : pv 0 0 (z1s c) = ((c.length : Int),((vint (zig (c.length : Int))).length : Int),0) := by
    unfold z1s; rw [List.append_assoc]; exact pv_zig hr _
  have hd : (z1s c).drop (vint (zig (c.length : Int))).length = c ++ four (sumB c) := by
    unfold z1s; rw [List.append_assoc]; exact List.drop_left
  have hlen : (z1s c).length = (vint (zig (c.length : Int))).length + c.length + 4 := by
    unfold z1s; simp only [List.length_append,za1]
  unfold unB
  rw [hp]
  generalize hv : vint (zig (c.length : Int)) = v at *
  simp only
  rw [if_neg (by simp),if_neg (by omega),if_neg (by omega),if_neg (by omega)]
  have e1 : (v.length : Int).toNat = v.length := by omega
  have e2 : ((v.length : Int) + (c.length : Int)).toNat = v.length + c.length := by omega
  have e3 : (c.length : Int).toNat = c.length := by omega
  rw [e1,e2,e3,hd,List.take_left,← List.drop_drop,hd,List.drop_left,if_pos (by rw [List.take_of_length_le (by rw [za1]; omega)])]
  rw [hlen]
  congr 2
theorem unB_one (hb : ∀ x ∈ b,byteR x) (h : (unB b).2.2 = 0) (hn : ¬ (unB b).2.1 < (b.length : Int)) : b = z1s (unB b).1 ∧ (unB b).1.length ≤ 1048576 := by
  unfold unB at h hn ⊢
  by_cases h1 : (pv 0 0 b).2.2 ≠ 0
  · rw [if_pos h1] at h; exact absurd h h1
  rw [if_neg h1] at h hn ⊢
  by_cases h2 : (pv 0 0 b).1 < 0
  · rw [if_pos h2] at h; exact absurd h (show ¬ ((11 : Int) = 0) by decide)
  rw [if_neg h2] at h hn ⊢
  by_cases h3 : 1048576 < (pv 0 0 b).1
  · rw [if_pos h3] at h; exact absurd h (show ¬ ((3 : Int) = 0) by decide)
  rw [if_neg h3] at h hn ⊢
  by_cases h4 : (b.length : Int) - (pv 0 0 b).2.1 < (pv 0 0 b).1 + 4
  · rw [if_pos h4] at h; exact absurd h (show ¬ ((10 : Int) = 0) by decide)
  rw [if_neg h4] at h hn ⊢
  by_cases h5 : ((b.drop ((pv 0 0 b).2.1 + (pv 0 0 b).1).toNat).take 4) = four (sumB ((b.drop (pv 0 0 b).2.1.toNat).take (pv 0 0 b).1.toNat))
  · rw [if_pos h5] at hn ⊢
    obtain ⟨rest,q1,q2,q3⟩ := pv_one hb (by simpa using h1)
    generalize pv 0 0 b = p at *
    obtain ⟨n,k,e⟩ := p
    simp only at *
    have hk0 : 0 ≤ k := by omega
    have hd : b.drop k.toNat = rest := by
      rw [q1,q2]; simp
    have hL : b.length = (vint (zig n)).length + rest.length := by rw [q1]; simp
    rw [show (k + n).toNat = k.toNat + n.toNat by omega,← List.drop_drop,hd] at h5
    rw [hd]
    have hlen : (rest.take n.toNat).length = n.toNat := by rw [List.length_take]; omega
    have h6 : (rest.drop n.toNat).take 4 = rest.drop n.toNat := List.take_of_length_le (by rw [List.length_drop]; omega)
    rw [h6] at h5
    refine ⟨?_,by rw [hlen]; omega⟩
    unfold z1s
    rw [hlen,show ((n.toNat : Nat) : Int) = n by omega,← h5,List.append_assoc,List.take_append_drop]
    exact q1
  · rw [if_neg h5] at h; exact absurd h (show ¬ ((12 : Int) = 0) by decide)
def zMsg : GMsg := ⟨0,⟨0,0⟩,⟨0,0⟩,zBa,0,[],zEn,0,zV,0,0,[],zEp,zPt⟩
theorem z11e {c : List Int} (hl : c.length ≤ 1048576) : (z1s c).length ≤ 1048590 := by
  have := zf7 (zwh (zwk (n := c.length) hl))
  unfold z1s; simp only [List.length_append,za1]; omega
end
end Go.Proofs.YteinehkdjkobnaaGreat
