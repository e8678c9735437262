/-
Plain laws of another seat, turned to this one by wip/tools/ren2.py.
-/
import Derived.Test.YteinehkdjkobnaaGreatqFw
import Derived.Test.YteinehkdjkobnaaGreatqWq
import Derived.KernelRfl
set_option linter.unusedVariables false
set_option linter.unusedSimpArgs false
namespace Go.Proofs.YteinehkdjkobnaaGreat
open Go Go.Ev
section
variable {N : Nat} {B : List Int} {s : Int × List Int}
end
section
variable {N : Nat} {w : List Int}
theorem numf1 (hN : 20 ≤ N) {b : List Int} (hb : b.length ≤ 1048576) {x : Int} (hx : R64 x) : zc N b [x] = some (b ++ pI x) := by
  have hp := z3k (zl6 hx)
  unfold zc
  refine z1s (fun q : z45 => ∃ k : Nat, q.i = k ∧ ((k = 0 ∧ q.b = b) ∨ (k = 1 ∧ q.b = b ++ pI x))) (fun q => (1 - q.i).toNat) ?_ N _ ⟨0, rfl, .inl ⟨rfl, rfl⟩⟩ (by simp; omega)
  rintro ⟨c, i⟩ nx ⟨k, hi, hq⟩ ih
  simp only at hi hq ih ⊢
  subst hi
  rcases hq with ⟨rfl, rfl⟩ | ⟨rfl, rfl⟩
  · have h1 : zcq N (lget [x] ((0 : Nat) : Int) default) = some (pI x) := z112 (by omega) hx
    have h2 : lenB (c.length + (pI x).length) 1 = true := z20 (by unfold pI; omega)
    rw [h1, show decide (((0 : Nat) : Int) < (([x] : List Int).length : Int)) = true from rfl, show ibB ((0 : Nat) : Int) (([x] : List Int).length : Int) = true from rfl]
    simp only [cond_true, Option.bind_some]
    rw [h2]
    exact ih _ ⟨1, rfl, .inr ⟨rfl, rfl⟩⟩ (by simp [IntKind.wrap, IntKind.bits, IntKind.signed])
  · rfl
def vpre (v : Vector Int 8) (k : Nat) : List Int := ((v.toList.take k).map pI).flatten
theorem zw1 (v : Vector Int 8) {k : Nat} (hk : k < 8) : vpre v (k + 1) = vpre v k ++ pI (vget v k default) := by
  unfold vpre
  rw [List.take_add_one, List.map_append, List.flatten_append]
  have : v.toList[k]? = some (vget v k default) := by
    rw [List.getElem?_eq_getElem (by simpa using hk)]
    congr 1
    simp only [Vector.getElem_toList]
    exact (vgetE v _ hk).symm
  rw [this]; simp
theorem vpre_8 (v : Vector Int 8) : vpre v 8 = (v.toList.map pI).flatten := by
  unfold vpre; rw [List.take_of_length_le (by simp)]
theorem zqt {v : Vector Int 8} (h : ∀ n ∈ v.toList, R64 n) (k : Nat) : (vpre v k).length ≤ 80 := by
  have h1 := z2w (l := v.toList.take k) fun n hn => h n (List.mem_of_mem_take hn)
  have h2 : (v.toList.take k).length ≤ 8 := by simp; omega
  unfold vpre; omega
theorem vmem {v : Vector Int 8} (h : ∀ n ∈ v.toList, R64 n) {k : Nat} (hk : k < 8) : R64 (vget v k default) := h _ (z12q v default hk)
theorem zxs (hN : 20 ≤ N) {v : Vector Int 8} (h : ∀ n ∈ v.toList, R64 n) : z1j N v = some (vpre v 8) := by
  unfold z1j
  rw [show (⟨[], 0⟩ : z2e) = (fun k : Nat => (⟨vpre v k, (k : Int)⟩ : z2e)) 0 from rfl]
  rw [zvo (fun k : Nat => (⟨vpre v k, (k : Int)⟩ : z2e)) 8 (fun _ => none) (some (vpre v 8)) ?_ ?_ N (by omega)]
  · exact zvr _
  · intro k next hk
    have hl := zqt h k
    simp only [zp8 hk, z4e (show (0 : Int) ≤ k by omega) (show (k : Int) < 8 by omega), cond_true, Int.toNat_natCast]
    rw [numf1 hN (by omega) (vmem h hk), Option.bind_some, z2v (by omega) (by omega), zw1 v hk]
    rfl
  · intro next; rfl
theorem zst (hN : 20 ≤ N) {e : z7} (h : MayEp e) : z47 N e = some (epB e) := by
  obtain ⟨h1, h2, h3⟩ := zqr h
  have hn := cnt64 h.1
  have hp := z3k (zl6 hn)
  unfold z47
  rw [zsp hN (by simp; omega) (by simp) (by intro n hn'; simp at hn'; subst hn'; exact hn), Option.bind_some]
  rw [show (⟨([e.Number].map pI).flatten, 0⟩ : z2h) = (fun k : Nat => (⟨pI e.Number ++ vpre e.States k, (k : Int)⟩ : z2h)) 0 from by simp [vpre]]
  rw [zvo (fun k : Nat => (⟨pI e.Number ++ vpre e.States k, (k : Int)⟩ : z2h)) 8 (fun _ => none) (some (epB e)) ?_ ?_ N (by omega)]
  · exact zvr _
  · intro k next hk
    have hl := zqt h1 k
    simp only [zp8 hk, z4e (show (0 : Int) ≤ k by omega) (show (k : Int) < 8 by omega), cond_true, Int.toNat_natCast]
    rw [numf1 hN (by rw [List.length_append]; unfold pI; omega) (vmem h1 hk), Option.bind_some, z2v (by omega) (by omega), List.append_assoc, ← zw1 e.States hk]
    rfl
  · intro next
    have hl1 := zqt h1 8
    have hl3 := zqt h3 8
    simp only
    rw [show decide (((8 : Nat) : Int) < 8) = false from rfl, cond_false, zxs hN h3, Option.bind_some, z20 (by rw [List.length_append]; unfold pI; omega), cond_true]
    rw [show (⟨pI e.Number ++ vpre e.States 8 ++ vpre e.Seals 8, 0⟩ : z2i) = (fun k : Nat => (⟨pI e.Number ++ vpre e.States 8 ++ vpre e.Seals 8 ++ vpre e.Sponsor k, (k : Int)⟩ : z2i)) 0 from by simp [vpre]]
    rw [zvo (fun k : Nat => (⟨pI e.Number ++ vpre e.States 8 ++ vpre e.Seals 8 ++ vpre e.Sponsor k, (k : Int)⟩ : z2i)) 8 (fun _ => none) (some (epB e)) ?_ ?_ N (by omega)]
    · exact zvr _
    · intro k next hk
      have hl := zqt h2 k
      simp only [zp8 hk, z4e (show (0 : Int) ≤ k by omega) (show (k : Int) < 8 by omega), cond_true, Int.toNat_natCast]
      rw [numf1 hN (by simp only [List.length_append]; unfold pI; omega) (vmem h2 hk), Option.bind_some, z2v (by omega) (by omega), List.append_assoc, ← zw1 e.Sponsor hk]
      rfl
    · intro next
      simp only
      rw [show decide (((8 : Nat) : Int) < 8) = false from rfl, cond_false]
      unfold epB epC
      rw [vpre_8, vpre_8, vpre_8]
      simp
end
end Go.Proofs.YteinehkdjkobnaaGreat
