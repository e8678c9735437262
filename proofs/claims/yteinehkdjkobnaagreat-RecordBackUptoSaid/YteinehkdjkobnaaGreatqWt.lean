/-
Plain laws of another seat,turned to this one by wip/tools/ren2.py.
-/
import Derived.Test.YteinehkdjkobnaaGreatqFw
import Derived.Test.YteinehkdjkobnaaGreatqWq
import Derived.KernelRfl
set_option linter.unusedVariables false
set_option linter.unusedSimpArgs false
namespace Go.Proofs.YteinehkdjkobnaaGreat
open Go Go.Ev
section
variable {N : Nat} {B : List Int} {s : Int × List Int}
def rdT (s : Int × List Int) : List UInt8 × (Int × List Int) := if s.1 = 0 then (strI (rB s.2).1,((rB s.2).2.1,(rB s.2).2.2)) else ([],s)
theorem zw1 (h : okR B s) : okR B (rdT s).2 := by
  unfold rdT
  split
  · exact (z116 s.2).trans h
  · exact h
def rdO (g : Int → Int) (s : Int × List Int) : GOp × (Int × List Int) :=
  let a := rd1 s
  let b := rd1 a.2
  let c := rd1 b.2
  let d := rd1 c.2
  let e := rd1 d.2
  let f := rdT e.2
  let h := rdT f.2
  let i := rdT h.2
  (⟨⟨a.1,g b.1⟩,g c.1,d.1,e.1,f.1,h.1,i.1⟩,i.2)
theorem zw2 (hN : 11 ≤ N) (hB : okB B) (h : okR B s) : z2z N s.1 ⟨true,s.2⟩ = some ((rdT s).1,(rdT s).2.1,⟨true,(rdT s).2.2⟩) := by
  unfold z2z z9q rdT
  by_cases he : s.1 = 0
  · have : (s.1 == 0) = true := by simpa using he
    rw [this,if_pos he,F23_eq hN (zj8 hB h).1 (zj8 hB h).2]
    simp only [Bool.not_true,cond_false,Option.bind_some]
    unfold z1d
    rw [this]; rfl
  · have : (s.1 == 0) = false := by simpa using he
    rw [this,if_neg he]; rfl
theorem op_read (hN : 11 ≤ N) (hB : okB B) (h : okR B s) : z4i N s.1 ⟨true,s.2⟩ = some ((rdO sm s).1,(rdO sm s).2.1,⟨true,(rdO sm s).2.2⟩) := by
  unfold z4i z8m z7a z8n rdO
  have h1 := zr h
  have h2 := zr h1
  have h3 := zr h2
  have h4 := zr h3
  have h5 := zr h4
  have h6 := zw1 h5
  have h7 := zw1 h6
  rw [z74 hN hB h]
  simp only [Option.bind_some]
  rw [z3d hN hB h1]
  simp only [Option.bind_some]
  rw [z3d hN hB h2]
  simp only [Option.bind_some]
  rw [z74 hN hB h3]
  simp only [Option.bind_some]
  rw [z74 hN hB h4]
  simp only [Option.bind_some]
  rw [zw2 hN hB h5]
  simp only [Option.bind_some]
  rw [zw2 hN hB h6]
  simp only [Option.bind_some]
  rw [zw2 hN hB h7]
  rfl
theorem rdO_id {g : Int → Int} (hg : ∀ n,-1 ≤ g n ∧ g n ≤ 7 → g n = n) (h : MayOp (rdO g s).1) : rdO g s = rdO id s := by
  obtain ⟨_,h2,h3,_⟩ := h
  unfold rdO at h2 h3 ⊢
  simp only at h2 h3 ⊢
  rw [hg _ (by omega),hg _ (by omega)]; rfl
theorem rdO_of {g : Int → Int} (hg : ∀ n,-1 ≤ n ∧ n ≤ 7 → g n = n) (h : MayOp (rdO id s).1) : rdO g s = rdO id s := by
  obtain ⟨_,h2,h3,_⟩ := h
  unfold rdO at h2 h3 ⊢
  simp only [id] at h2 h3 ⊢
  rw [hg _ (by omega),hg _ (by omega)]
theorem mE_id {g : Int → Int} (hg : ∀ n,-1 ≤ g n ∧ g n ≤ 7 → g n = n) (h : MayEp (rdE g s).1) : rdE g s = rdE id s := by
  obtain ⟨_,_,h3⟩ := h
  have e1 : rdv g z8 (rd1 s).2 8 = rdv id z8 (rd1 s).2 8 := rdv_id hg fun j hj => by
    have := (h3 j hj).1; unfold rdE at this; simp only at this; omega
  have e2 : rdv g z8 (rdv id z8 (rdv g z8 (rd1 s).2 8).1 8).1 8 = rdv id z8 (rdv id z8 (rdv g z8 (rd1 s).2 8).1 8).1 8 := rdv_id hg fun j hj => by
    have := (h3 j hj).2; unfold rdE at this; simp only at this; omega
  unfold rdE
  rw [e2,e1]
theorem mE_of {g : Int → Int} (hg : ∀ n,-1 ≤ n ∧ n ≤ 7 → g n = n) (h : MayEp (rdE id s).1) : rdE g s = rdE id s := by
  obtain ⟨_,_,h3⟩ := h
  have e1 : rdv g z8 (rd1 s).2 8 = rdv id z8 (rd1 s).2 8 := by
    refine Prod.ext (z112 _ _ _ _ _ _) (vext default fun j hj => ?_)
    rw [zg5 g z8 _ 8 (Nat.le_refl _) j hj,if_pos hj,zg5 id z8 _ 8 (Nat.le_refl _) j hj,if_pos hj]
    have a1 := (h3 j hj).1; unfold rdE at a1; simp only at a1
    rw [zg5 id z8 _ 8 (Nat.le_refl _) j hj,if_pos hj] at a1
    exact hg _ (by simp only [id] at a1 ⊢; omega)
  have e2 : rdv g z8 (rdv id z8 (rdv g z8 (rd1 s).2 8).1 8).1 8 = rdv id z8 (rdv id z8 (rdv g z8 (rd1 s).2 8).1 8).1 8 := by
    rw [e1]
    refine Prod.ext (z112 _ _ _ _ _ _) (vext default fun j hj => ?_)
    rw [zg5 g z8 _ 8 (Nat.le_refl _) j hj,if_pos hj,zg5 id z8 _ 8 (Nat.le_refl _) j hj,if_pos hj]
    have a1 := (h3 j hj).2; unfold rdE at a1; simp only at a1
    rw [zg5 id z8 _ 8 (Nat.le_refl _) j hj,if_pos hj] at a1
    exact hg _ (by simp only [id] at a1 ⊢; omega)
  unfold rdE
  rw [e2,e1]
end
section
variable {N : Nat} {w : List Int}
end
end Go.Proofs.YteinehkdjkobnaaGreat
