/-
RecordTurned: a message's bytes with one bit turned,and their beginnings.
-/
import Derived.Test.YteinehkdjkobnaaGreatqVe
import Derived.Test.YteinehkdjkobnaaGreatqNz
import Derived.KernelRfl
set_option linter.unusedVariables false
set_option linter.unusedSimpArgs false
namespace Go.Proofs.YteinehkdjkobnaaGreat
open Go Go.Ev
theorem z11f : ∀ (k u v : Nat),v ≤ k → u ≤ v → (vint u).length ≤ (vint v).length
  | 0,u,v,hk,h => by
    obtain rfl : v = 0 := by omega
    obtain rfl : u = 0 := by omega
    exact Nat.le_refl _
  | k + 1,u,v,hk,h => by
    by_cases hu : u < 128
    · rw [zqh hu]; exact vint_pos v
    · rw [zo7 (u := u) (by omega),zo7 (u := v) (by omega)]
      have := z11f k (u / 128) (v / 128) (by omega) (Nat.div_le_div_right h)
      simp only [List.length_cons]; omega
theorem z11g {a b : Nat} (h : a ≤ b) : (vint (zig (a : Int))).length ≤ (vint (zig (b : Int))).length :=
  z11f _ _ _ (Nat.le_refl _) (by unfold zig; split <;> split <;> omega)
theorem z146 {c d : List Int} (h : (z1s c).length = (z1s d).length) : c.length = d.length := by
  rw [zkz,zkz] at h
  rcases Nat.lt_trichotomy c.length d.length with q | q | q
  · have := z11g (a := c.length) (b := d.length) (by omega); omega
  · exact q
  · have := z11g (a := d.length) (b := c.length) (by omega); omega
theorem unB_bad {c : List Int} (hl : c.length ≤ 1048576) (hb : byt c) {k : Nat} (hk : k < (z1s c).length) {y : Int} (hy : byteR y) (hne : y ≠ (z1s c)[k]) : (unB ((z1s c).set k y)).2.2 ≠ 0 ∨ (unB ((z1s c).set k y)).2.1 < (((z1s c).set k y).length : Int) := by
  refine Decidable.byContradiction fun hno => ?_
  have h : (unB ((z1s c).set k y)).2.2 = 0 := Decidable.byContradiction fun q => hno (.inl q)
  have h' : ¬ (unB ((z1s c).set k y)).2.1 < (((z1s c).set k y).length : Int) := fun q => hno (.inr q)
  have hf := z11e hl
  have hfb := z11d hl hb
  have hB : okB ((z1s c).set k y) := ⟨by rw [List.length_set]; omega,fun x hx => by
    rcases List.mem_or_eq_of_mem_set hx with h' | h'
    · exact hfb x h'
    · rw [h']; exact hy⟩
  obtain ⟨h2,h3⟩ := unB_one hB.2 h h'
  generalize (unB ((z1s c).set k y)).1 = d at h2 h3
  have hcd : c.length = d.length := z146 (by rw [← h2,List.length_set])
  by_cases hv : (vint (zig (c.length : Int))).length ≤ k
  · have := z13t hl hb hv hk hy hne
    rw [h2,unB_frame h3] at this
    exact absurd this (show ¬ ((0 : Int) = 12) by decide)
  · have e1 : ((z1s c).set k y)[k]'(by rw [List.length_set]; exact hk) = y := List.getElem_set_self _
    have hkd : k < (z1s d).length := by rw [← h2,List.length_set]; exact hk
    have e2 : (z1s d)[k] = y := by rw [← e1]; congr 1; exact h2.symm
    have hd : ∀ (l : List Int) (hkl : k < (z1s l).length) (hvl : k < (vint (zig (l.length : Int))).length),(z1s l)[k] = (vint (zig (l.length : Int)))[k] := fun l hkl hvl => by
      have : (z1s l)[k]? = (vint (zig (l.length : Int)))[k]? := by
        unfold z1s
        rw [List.append_assoc,List.getElem?_append_left hvl]
      rw [List.getElem?_eq_getElem hkl,List.getElem?_eq_getElem hvl] at this
      exact Option.some.inj this
    rw [hd d hkd (by rw [← hcd]; omega)] at e2
    apply hne
    rw [hd c hk (by omega),← e2]
    simp only [hcd]
section
variable {N : Nat}
theorem zzw {g : List Int} {b : Nat} (hN2 : b + 20 ≤ N) (hb : b ≤ g.length) (hB : okB (g.take b)) (h : (unB (g.take b)).2.2 ≠ 0 ∨ (unB (g.take b)).2.1 < (b : Int)) : ∃ e : Int,e ≠ 0 ∧ z6s N b g = some (zMsg,e,g) := by
  have hlen : (g.take b).length = b := by rw [List.length_take]; omega
  have hbl : b ≤ 70368744177664 := by have := hB.1; omega
  unfold z6s
  rw [z123 hN2 hb hbl hB.2,Option.bind_some]
  by_cases h1 : (unB (g.take b)).2.2 ≠ 0
  · rw [show ((unB (g.take b)).2.2 == 0) = false by simpa using h1]; exact ⟨_,h1,rfl⟩
  · rw [show ((unB (g.take b)).2.2 == 0) = true by simpa using h1]
    simp only [Bool.not_true,cond_false]
    rw [decide_eq_true (h.resolve_left h1)]
    exact ⟨13,by decide,rfl⟩
theorem zwf {b : List Int} (hN2 : b.length + 20 ≤ N) (hB : okB b) (h : (unB b).2.2 = 10) : z9r N b = some (zMsg,10) := by
  unfold z9r
  rw [F39_eq hN2 hB.1 hB.2,Option.bind_some,h]
  rfl
theorem same_zero (hN : 60 ≤ N) : z72 N zMsg zMsg = some true := by
  obtain ⟨k,rfl⟩ : ∃ k,N = k + 60 := ⟨N - 60,by omega⟩
  kernel_rfl
theorem zxk (hN : 1048700 ≤ N) {m : GMsg} (hm : roomM N m) {bit ct : Int} (hb : R64 bit) (hc : R64 ct) : z8j N m bit ct = some true := by
  unfold z8j
  rw [begun_eq (by omega),Option.bind_some]
  simp only [Bool.not_true,cond_false]
  rcases z144 hN hm with ⟨h1,h2,q⟩ | ⟨h1,h2,q⟩ | ⟨h1,q⟩
  · have hf := z11e h2
    have hbm := msB_byt hm.byt h1
    have hfb := z11d h2 hbm
    have hfo : okB (z1s (msB m)) := ⟨by omega,hfb⟩
    have hfl := zkz (msB m)
    rw [q]
    simp only [Option.bind_some,beq_self_eq_true,Bool.not_true,cond_false,Bool.or_true,cond_true]
    have turned := fun (k : Nat) (hk : k < (z1s (msB m)).length) (y : Int) (hy : byteR y) (hne : y ≠ (z1s (msB m))[k]) => unB_bad h2 hbm hk hy hne
    have short := fun (k : Nat) (hk : k < (z1s (msB m)).length) => unB_short h2 hk
    generalize z1s (msB m) = b at *
    have hpos : 0 < b.length := by omega
    have d0 : ((b.length : Int) == 0) = false := beq_eq_false_iff_ne.2 (by omega)
    rw [d0,Bool.false_or]
    by_cases hneg : bit < 0
    · rw [decide_eq_true hneg,Bool.true_or,cond_true]
      simp; omega
    · have hdiv : Int.tdiv bit 8 = bit / 8 := Int.tdiv_eq_ediv_of_nonneg (by omega)
      have hmod : 0 ≤ Int.tmod bit 8 ∧ Int.tmod bit 8 < 8 := ⟨Int.tmod_nonneg _ (by omega),Int.tmod_lt_of_pos _ (by decide)⟩
      have b1 := hb.1; have b2 := hb.2
      rw [decide_eq_false hneg,Bool.false_or,hdiv,z2m (n := bit / 8) (by omega) (by omega)]
      by_cases hfar : (b.length : Int) ≤ bit / 8
      · rw [decide_eq_true hfar,cond_true]
        simp; omega
      · obtain ⟨k,hk⟩ : ∃ k : Nat,bit / 8 = (k : Int) := ⟨_,(Int.toNat_of_nonneg (by omega)).symm⟩
        rw [hk] at hfar ⊢
        have hkb : k < b.length := by omega
        rw [decide_eq_false hfar,cond_false,zqf (by omega),z56 (by omega) (by omega),decide_eq_true hmod.1]
        simp only [Int.toNat_natCast,cond_true]
        rw [decide_eq_true hkb,cond_true]
        have hx : b.getD k default = b[k] := by simp [List.getD,List.getElem?_eq_getElem hkb]
        rw [hx]
        obtain ⟨f1,f2⟩ := flip_of (hfb _ (List.getElem_mem hkb)) hmod.1 hmod.2
        generalize bits .xor .u8 b[k] (shl .u8 1 (Int.tmod bit 8)) = y at f1 f2
        have ht : (b.set k y).take b.length = b.set k y := List.take_of_length_le (by rw [List.length_set]; exact Nat.le_refl _)
        have hB : okB (b.set k y) := ⟨by rw [List.length_set]; omega,fun x hx => by
          rcases List.mem_or_eq_of_mem_set hx with h' | h'
          · exact hfb x h'
          · rw [h']; exact f1⟩
        have hbad := turned k hkb y f1 f2
        rw [List.length_set] at hbad
        obtain ⟨e,he,hu⟩ := zzw (N := N) (g := b.set k y) (b := b.length) (by omega) (by rw [List.length_set]; exact Nat.le_refl _) (by rw [ht]; exact hB) (by rw [ht]; exact hbad)
        rw [hu]
        simp only [Option.bind_some]
        rw [show (e == 0) = false by simpa using he]
        simp only [Bool.not_false,cond_true]
        change (z72 N zMsg zMsg).bind _ = some true
        rw [same_zero (by omega)]
        simp only [Option.bind_some,Bool.not_true,Bool.or_self,cond_false]
        have c1 := hc.1; have c2 := hc.2
        by_cases hcut : ct < 0 ∨ (b.length : Int) ≤ ct
        · have : (decide (ct < 0) || decide ((b.length : Int) ≤ ct)) = true := by simpa using hcut
          rw [this]; rfl
        · have : (decide (ct < 0) || decide ((b.length : Int) ≤ ct)) = false := by
            rw [Bool.or_eq_false_iff]; exact ⟨decide_eq_false (by omega),decide_eq_false (by omega)⟩
          rw [this,zzu (Int.le_refl _) (by omega) (by omega)]
          simp only [cond_false,cond_true]
          have ec : cut b 0 ct = b.take ct.toNat := by
            have := cut_at (b := b) (i := 0) (n := ct) (Int.le_refl _) (by omega)
            rw [Int.zero_add] at this
            rw [this]; rfl
          rw [ec,zwf (by rw [List.length_take]; omega) ⟨by rw [List.length_take]; omega,fun x hx => hfb x (List.mem_of_mem_take hx)⟩ (short _ (by omega))]
          rfl
  · rw [q]; rfl
  · rw [q]
    have : mayM m = false := by rw [Bool.eq_false_iff]; exact fun e => h1 ((zzv hm.byt).1 e)
    simp only [Option.bind_some]
    rw [show (!((40 : Int) == 0)) = true from rfl,show (!((40 : Int) == 3)) = true from rfl]
    simp only [cond_true]
    rw [z11t (by omega) hm,this]
    rfl
end
end Go.Proofs.YteinehkdjkobnaaGreat
