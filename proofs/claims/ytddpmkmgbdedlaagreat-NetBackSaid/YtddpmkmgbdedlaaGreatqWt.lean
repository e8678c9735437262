/-
Plain laws of another seat,turned to this one by wip/tools/ren2.py.
-/
import Derived.Test.YtddpmkmgbdedlaaGreatqFn
import Derived.Test.YtddpmkmgbdedlaaGreatqWq
import Derived.KernelRfl
set_option linter.unusedVariables false
set_option linter.unusedSimpArgs false
namespace Go.Proofs.YtddpmkmgbdedlaaGreat
open Go Go.Ev
section
variable {N:Nat} {B:List Int} {s:Int×List Int}
def rdT (s:Int×List Int):List UInt8×(Int×List Int):=if s.1=0 then (strI (rB s.2).1,((rB s.2).2.1,(rB s.2).2.2)) else ([],s)
theorem z122 (h:okR B s):okR B (rdT s).2:=by
  unfold rdT
  split
  · exact (z11v s.2).trans h
  · exact h
def rdO (g:Int→Int) (s:Int×List Int):GOp×(Int×List Int) :=
  let a:=rd1 s
  let b:=rd1 a.2
  let c:=rd1 b.2
  let d:=rd1 c.2
  let e:=rd1 d.2
  let f:=rdT e.2
  let h:=rdT f.2
  let i:=rdT h.2
  (⟨⟨a.1,g b.1⟩,g c.1,d.1,e.1,f.1,h.1,i.1⟩,i.2)
theorem zxf (hN:11≤N) (hB:okB B) (h:okR B s):z31 N s.1 ⟨true,s.2⟩=some ((rdT s).1,(rdT s).2.1,⟨true,(rdT s).2.2⟩):=by
  unfold z31 zad rdT
  by_cases he:s.1=0
  · have:(s.1==0)=true:=by simpa using he
    rw [this,if_pos he,F23_eq hN (zr6 hB h).1 (zr6 hB h).2]
    simp only [Bool.not_true,cond_false,Option.bind_some]
    unfold z1h
    rw [this]; rfl
  · have:(s.1==0)=false:=by simpa using he
    rw [this,if_neg he]; rfl
theorem op_read (hN:11≤N) (hB:okB B) (h:okR B s):z4m N s.1 ⟨true,s.2⟩=some ((rdO sm s).1,(rdO sm s).2.1,⟨true,(rdO sm s).2.2⟩):=by
  unfold z4m z90 z7p z91 rdO
  have h1:=z17 h
  have h2:=z17 h1
  have h3:=z17 h2
  have h4:=z17 h3
  have h5:=z17 h4
  have h6:=z122 h5
  have h7:=z122 h6
  rw [z7g hN hB h]
  simp only [Option.bind_some]
  rw [z3g hN hB h1]
  simp only [Option.bind_some]
  rw [z3g hN hB h2]
  simp only [Option.bind_some]
  rw [z7g hN hB h3]
  simp only [Option.bind_some]
  rw [z7g hN hB h4]
  simp only [Option.bind_some]
  rw [zxf hN hB h5]
  simp only [Option.bind_some]
  rw [zxf hN hB h6]
  simp only [Option.bind_some]
  rw [zxf hN hB h7]
  rfl
theorem rdO_of {g:Int→Int} (hg:∀ n,-1≤n∧n≤7→g n=n) (h:MayOp (rdO id s).1):rdO g s=rdO id s:=by
  obtain ⟨_,h2,h3,_⟩:=h
  unfold rdO at h2 h3 ⊢
  simp only [id] at h2 h3 ⊢
  rw [hg _ (by omega),hg _ (by omega)]
theorem mE_of {g:Int→Int} (hg:∀ n,-1≤n∧n≤7→g n=n) (h:MayEp (rdE id s).1):rdE g s=rdE id s:=by
  obtain ⟨_,_,h3⟩:=h
  have e1:rdv g z8 (rd1 s).2 8=rdv id z8 (rd1 s).2 8:=by
    refine Prod.ext (rdv_st _ _ _ _ _ _) (vext default fun j hj=>?_)
    rw [zon g z8 _ 8 (Nat.le_refl _) j hj,if_pos hj,zon id z8 _ 8 (Nat.le_refl _) j hj,if_pos hj]
    have a1:=(h3 j hj).1; unfold rdE at a1; simp only at a1
    rw [zon id z8 _ 8 (Nat.le_refl _) j hj,if_pos hj] at a1
    exact hg _ (by simp only [id] at a1 ⊢; omega)
  have e2:rdv g z8 (rdv id z8 (rdv g z8 (rd1 s).2 8).1 8).1 8=rdv id z8 (rdv id z8 (rdv g z8 (rd1 s).2 8).1 8).1 8:=by
    rw [e1]
    refine Prod.ext (rdv_st _ _ _ _ _ _) (vext default fun j hj=>?_)
    rw [zon g z8 _ 8 (Nat.le_refl _) j hj,if_pos hj,zon id z8 _ 8 (Nat.le_refl _) j hj,if_pos hj]
    have a1:=(h3 j hj).2; unfold rdE at a1; simp only at a1
    rw [zon id z8 _ 8 (Nat.le_refl _) j hj,if_pos hj] at a1
    exact hg _ (by simp only [id] at a1 ⊢; omega)
  unfold rdE
  rw [e2,e1]
end
section
variable {N:Nat} {w:List Int}
end
end Go.Proofs.YtddpmkmgbdedlaaGreat
