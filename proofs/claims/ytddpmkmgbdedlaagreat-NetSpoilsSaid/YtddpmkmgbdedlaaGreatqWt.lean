/-
Plain laws of another seat,turned to this one by wip/tools/ren2.py.
-/
import Derived.Test.YtddpmkmgbdedlaaGreatqFd
import Derived.Test.YtddpmkmgbdedlaaGreatqWq
import Derived.KernelRfl
set_option linter.unusedVariables false
set_option linter.unusedSimpArgs false
namespace Go.Proofs.YtddpmkmgbdedlaaGreat
open Go Go.Ev
section
variable {N:Nat} {B:List Int} {s:Int×List Int}
def rdT (s:Int×List Int):List UInt8×(Int×List Int):=if s.1=0 then (jD (rB s.2).1,((rB s.2).2.1,(rB s.2).2.2)) else ([],s)
theorem aAL (h:okR B s):okR B (rdT s).2:=by
 unfold rdT
 split
 ·exact (aOM s.2).trans h
 ·exact h
def rdO (g:Int→Int) (s:Int×List Int):GOp×(Int×List Int) :=
 let a:=rd1 s
 let b:=rd1 a.2
 let c:=rd1 b.2
 let d:=rd1 c.2
 let e:=rd1 d.2
 let f:=rdT e.2
 let h:=rdT f.2
 let i:=rdT h.2
 (⟨⟨a.1,g b.1⟩,g c.1,d.1,e.1,f.1,h.1,i.1⟩,i.2)
theorem aKL (hN:11≤N) (hB:okB B) (h:okR B s):vG N s.1 ⟨true,s.2⟩=some ((rdT s).1,(rdT s).2.1,⟨true,(rdT s).2.2⟩):=by
 unfold vG aHk rdT
 by_cases he:s.1=0
 ·have:(s.1==0)=true:=by simpa using he
  rw [this,if_pos he,aOL hN (tK hB h).1 (tK hB h).2]
  simp only [Bool.not_true,cond_false,Option.bind_some]
  unfold mL
  rw [this]; rfl
 ·have:(s.1==0)=false:=by simpa using he
  rw [this,if_neg he]; rfl
theorem aPu (hN:11≤N) (hB:okB B) (h:okR B s):zC N s.1 ⟨true,s.2⟩=some ((rdO sm s).1,(rdO sm s).2.1,⟨true,(rdO sm s).2.2⟩):=by
 unfold zC aHe aHg aHi rdO
 have h1:=aT h
 have h2:=aT h1
 have h3:=aT h2
 have h4:=aT h3
 have h5:=aT h4
 have h6:=aAL h5
 have h7:=aAL h6
 rw [dG hN hB h]
 simp only [Option.bind_some]
 rw [fA hN hB h1]
 simp only [Option.bind_some]
 rw [fA hN hB h2]
 simp only [Option.bind_some]
 rw [dG hN hB h3]
 simp only [Option.bind_some]
 rw [dG hN hB h4]
 simp only [Option.bind_some]
 rw [aKL hN hB h5]
 simp only [Option.bind_some]
 rw [aKL hN hB h6]
 simp only [Option.bind_some]
 rw [aKL hN hB h7]
 rfl
end
section
variable {N:Nat} {w:List Int}
theorem aKM (hN:20≤N) {b:List Int} (hb:b.length≤1048576) {x:Int} (hx:R64 x):bX N b [x]=some (b++pI x):=by
 have hp:=gZ (jF hx)
 unfold bX
 refine cH (fun q:sG=>∃ k:Nat,q.i=k∧((k=0∧q.b=b)∨(k=1∧q.b=b++pI x))) (fun q=>(1 - q.i).toNat) ?_ N _ ⟨0,rfl,.inl ⟨rfl,rfl⟩⟩ (by simp; omega)
 rintro ⟨c,i⟩ nx ⟨k,hi,hq⟩ ih
 simp only at hi hq ih ⊢
 subst hi
 rcases hq with ⟨rfl,rfl⟩ | ⟨rfl,rfl⟩
 ·have h1:sE N (aA [x] ((0:Nat):Int) default)=some (pI x):=aAH (by omega) hx
  have h2:aO (c.length+(pI x).length) 1=true:=bY (by unfold pI; omega)
  rw [h1,show decide (((0:Nat):Int) < (([x]:List Int).length:Int))=true from rfl,show ibB ((0:Nat):Int) (([x]:List Int).length:Int)=true from rfl]
  simp only [cond_true,Option.bind_some]
  rw [h2]
  exact ih _ ⟨1,rfl,.inr ⟨rfl,rfl⟩⟩ (by simp [IntKind.wrap,IntKind.bits,IntKind.signed])
 ·rfl
def eH (v:Vector Int 8) (k:Nat):List Int:=((v.toList.take k).map pI).flatten
theorem aKN (v:Vector Int 8) {k:Nat} (hk:k < 8):eH v (k+1)=eH v k++pI (bC v k default):=by
 unfold eH
 rw [List.take_add_one,List.map_append,List.flatten_append]
 have:v.toList[k]?=some (bC v k default):=by
  rw [List.getElem?_eq_getElem (by simpa using hk)]
  congr 1
  simp only [Vector.getElem_toList]
  exact (aAD v _ hk).symm
 rw [this]; simp
theorem aDM (v:Vector Int 8):eH v 8=(v.toList.map pI).flatten:=by
 unfold eH; rw [List.take_of_length_le (by simp)]
theorem aAM {v:Vector Int 8} (h:∀ n∈v.toList,R64 n) (k:Nat):(eH v k).length≤80:=by
 have h1:=eB (l:=v.toList.take k) fun n hn=>h n (List.mem_of_mem_take hn)
 have h2:(v.toList.take k).length≤8:=by simp; omega
 unfold eH; omega
theorem vmem {v:Vector Int 8} (h:∀ n∈v.toList,R64 n) {k:Nat} (hk:k < 8):R64 (bC v k default):=h _ (aOn v default hk)
theorem aPv (hN:20≤N) {v:Vector Int 8} (h:∀ n∈v.toList,R64 n):kM N v=some (eH v 8):=by
 unfold kM
 rw [show (⟨[],0⟩:pW)=(fun k:Nat=>(⟨eH v k,(k:Int)⟩:pW)) 0 from rfl]
 rw [qM (fun k:Nat=>(⟨eH v k,(k:Int)⟩:pW)) 8 (fun _=>none) (some (eH v 8)) ?_ ?_ N (by omega)]
 ·exact qO _
 ·intro k next hk
  have hl:=aAM h k
  simp only [qP hk,bV (show (0:Int)≤k by omega) (show (k:Int) < 8 by omega),cond_true,Int.toNat_natCast]
  rw [aKM hN (by omega) (vmem h hk),Option.bind_some,bH (by omega) (by omega),aKN v hk]
  rfl
 ·intro next; rfl
theorem aPw (hN:20≤N) {e:aD} (h:eC e):sJ N e=some (epB e):=by
 obtain ⟨h1,h2,h3⟩:=aDK h
 have hn:=bA h.1
 have hp:=gZ (jF hn)
 unfold sJ
 rw [qR hN (by simp; omega) (by simp) (by intro n hn'; simp at hn'; subst hn'; exact hn),Option.bind_some]
 rw [show (⟨([e.Number].map pI).flatten,0⟩:pX)=(fun k:Nat=>(⟨pI e.Number++eH e.States k,(k:Int)⟩:pX)) 0 from by simp [eH]]
 rw [qM (fun k:Nat=>(⟨pI e.Number++eH e.States k,(k:Int)⟩:pX)) 8 (fun _=>none) (some (epB e)) ?_ ?_ N (by omega)]
 ·exact qO _
 ·intro k next hk
  have hl:=aAM h1 k
  simp only [qP hk,bV (show (0:Int)≤k by omega) (show (k:Int) < 8 by omega),cond_true,Int.toNat_natCast]
  rw [aKM hN (by rw [List.length_append]; unfold pI; omega) (vmem h1 hk),Option.bind_some,bH (by omega) (by omega),List.append_assoc,← aKN e.States hk]
  rfl
 ·intro next
  have hl1:=aAM h1 8
  have hl3:=aAM h3 8
  simp only
  rw [show decide (((8:Nat):Int) < 8)=false from rfl,cond_false,aPv hN h3,Option.bind_some,bY (by rw [List.length_append]; unfold pI; omega),cond_true]
  rw [show (⟨pI e.Number++eH e.States 8++eH e.Seals 8,0⟩:pY)=(fun k:Nat=>(⟨pI e.Number++eH e.States 8++eH e.Seals 8++eH e.Sponsor k,(k:Int)⟩:pY)) 0 from by simp [eH]]
  rw [qM (fun k:Nat=>(⟨pI e.Number++eH e.States 8++eH e.Seals 8++eH e.Sponsor k,(k:Int)⟩:pY)) 8 (fun _=>none) (some (epB e)) ?_ ?_ N (by omega)]
  ·exact qO _
  ·intro k next hk
   have hl:=aAM h2 k
   simp only [qP hk,bV (show (0:Int)≤k by omega) (show (k:Int) < 8 by omega),cond_true,Int.toNat_natCast]
   rw [aKM hN (by simp only [List.length_append]; unfold pI; omega) (vmem h2 hk),Option.bind_some,bH (by omega) (by omega),List.append_assoc,← aKN e.Sponsor hk]
   rfl
  ·intro next
   simp only
   rw [show decide (((8:Nat):Int) < 8)=false from rfl,cond_false]
   unfold epB epC
   rw [aDM,aDM,aDM]
   simp
end
end Go.Proofs.YtddpmkmgbdedlaaGreat
