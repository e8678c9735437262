/-
Plain laws of another seat,turned to this one by wip/tools/ren2.py.
-/
import Derived.Test.YtddpmkmgbdedlaaGreatqFd
import Derived.Test.YtddpmkmgbdedlaaGreatqWq
import Derived.KernelRfl
set_option linter.unusedVariables false
set_option linter.unusedSimpArgs false
namespace Go.Proofs.YtddpmkmgbdedlaaGreat
open Go Go.Ev
section
variable {N:Nat} {B:List Int} {s:Int×List Int}
def rdT (s:Int×List Int):List UInt8×(Int×List Int):=if s.1=0 then (QF (rB s.2).1,((rB s.2).2.1,(rB s.2).2.2)) else ([],s)
theorem j9 (h:Dz B s):Dz B (rdT s).2:=by
 unfold rdT
 split
 ·exact (I7 s.2).trans h
 ·exact h
def rdO (g:Int→Int)(s:Int×List Int):dP×(Int×List Int) :=
 let a:=jW s
 let b:=jW a.2
 let c:=jW b.2
 let d:=jW c.2
 let e:=jW d.2
 let f:=rdT e.2
 let h:=rdT f.2
 let i:=rdT h.2
 (⟨⟨a.1,g b.1⟩,g c.1,d.1,e.1,f.1,h.1,i.1⟩,i.2)
theorem TJ (hN:11≤N)(hB:okB B)(h:Dz B s):iL N s.1 ⟨true,s.2⟩=some ((rdT s).1,(rdT s).2.1,⟨true,(rdT s).2.2⟩):=by
 unfold iL zL rdT
 by_cases he:s.1=0
 ·have:(s.1==0)=true:=by simpa using he
  rw[this,if_pos he,xc hN (BM hB h).1 (BM hB h).2]
  simp only[Bool.not_true,cond_false,Option.bind_some]
  unfold dM
  rw[this];rfl
 ·have:(s.1==0)=false:=by simpa using he
  rw[this,if_neg he];rfl
theorem pr (hN:11≤N)(hB:okB B)(h:Dz B s):mK N s.1 ⟨true,s.2⟩=some ((rdO sm s).1,(rdO sm s).2.1,⟨true,(rdO sm s).2.2⟩):=by
 unfold mK vX tC wD rdO
 have h1:=bY h
 have h2:=bY h1
 have h3:=bY h2
 have h4:=bY h3
 have h5:=bY h4
 have h6:=j9 h5
 have h7:=j9 h6
 rw[int_eq hN hB h]
 simp only[Option.bind_some]
 rw[iN hN hB h1]
 simp only[Option.bind_some]
 rw[iN hN hB h2]
 simp only[Option.bind_some]
 rw[int_eq hN hB h3]
 simp only[Option.bind_some]
 rw[int_eq hN hB h4]
 simp only[Option.bind_some]
 rw[TJ hN hB h5]
 simp only[Option.bind_some]
 rw[TJ hN hB h6]
 simp only[Option.bind_some]
 rw[TJ hN hB h7]
 rfl
end
section
variable {N:Nat} {w:List Int}
theorem aAX (hN:20≤N){b:List Int}(hb:b.length≤1048576){x:Int}(hx:Fi x):bA N b [x]=some (b++pI x):=by
 have hp:=jI (Lc hx)
 unfold bA
 refine dU (fun q:mY=>∃ k:Nat,q.i=k∧((k=0∧q.b=b)∨(k=1∧q.b=b++pI x))) (fun q=>(1 - q.i).toNat) ?_ N _ ⟨0,rfl,.inl ⟨rfl,rfl⟩⟩ (by simp;omega)
 rintro⟨c,i⟩ nx ⟨k,hi,hq⟩ ih
 simp only at hi hq ih ⊢
 subst hi
 rcases hq with⟨rfl,rfl⟩|⟨rfl,rfl⟩
 ·have h1:Fg N (aE [x] ((0:Nat):Int) default)=some (pI x):=XV (by omega) hx
  have h2:dG (c.length+(pI x).length) 1=true:=dI (by unfold pI;omega)
  rw[h1,show decide (((0:Nat):Int) < (([x]:List Int).length:Int))=true from rfl,show nI ((0:Nat):Int) (([x]:List Int).length:Int)=true from rfl]
  simp only[cond_true,Option.bind_some]
  rw[h2]
  exact ih _ ⟨1,rfl,.inr ⟨rfl,rfl⟩⟩ (by simp[IntKind.wrap,IntKind.bits,IntKind.signed])
 ·rfl
def Tp (v:Vector Int 8)(k:Nat):List Int:=((v.toList.take k).map pI).flatten
theorem TO (v:Vector Int 8){k:Nat}(hk:k < 8):Tp v (k+1)=Tp v k++pI (iK v k default):=by
 unfold Tp
 rw[List.take_add_one,List.map_append,List.flatten_append]
 have:v.toList[k]?=some (iK v k default):=by
  rw[List.getElem?_eq_getElem (by simpa using hk)]
  congr 1
  simp only[Vector.getElem_toList]
  exact (dv v _ hk).symm
 rw[this];simp
theorem U6 (v:Vector Int 8):Tp v 8=(v.toList.map pI).flatten:=by
 unfold Tp;rw[List.take_of_length_le (by simp)]
theorem HS {v:Vector Int 8}(h:∀ n∈v.toList,Fi n)(k:Nat):(Tp v k).length≤80:=by
 have h1:=iF (l:=v.toList.take k) fun n hn=>h n (List.mem_of_mem_take hn)
 have h2:(v.toList.take k).length≤8:=by simp;omega
 unfold Tp;omega
theorem aHz {v:Vector Int 8}(h:∀ n∈v.toList,Fi n){k:Nat}(hk:k < 8):Fi (iK v k default):=h _ (dw v default hk)
theorem p0 (hN:20≤N){v:Vector Int 8}(h:∀ n∈v.toList,Fi n):eV N v=some (Tp v 8):=by
 unfold eV
 rw[show (⟨[],0⟩:hZ)=(fun k:Nat=>(⟨Tp v k,(k:Int)⟩:hZ)) 0 from rfl]
 rw[Gx (fun k:Nat=>(⟨Tp v k,(k:Int)⟩:hZ)) 8 (fun _=>none) (some (Tp v 8)) ?_ ?_ N (by omega)]
 ·exact Gy _
 ·intro k next hk
  have hl:=HS h k
  simp only[xB hk,dT (show (0:Int)≤k by omega) (show (k:Int) < 8 by omega),cond_true,Int.toNat_natCast]
  rw[aAX hN (by omega) (aHz h hk),Option.bind_some,wrap64 (by omega) (by omega),TO v hk]
  rfl
 ·intro next;rfl
theorem NY (hN:20≤N){e:aD}(h:Ah e):mU N e=some (epB e):=by
 obtain⟨h1,h2,h3⟩:=IB h
 have hn:=dE h.1
 have hp:=jI (Lc hn)
 unfold mU
 rw[GC hN (by simp;omega) (by simp) (by intro n hn';simp at hn';subst hn';exact hn),Option.bind_some]
 rw[show (⟨([e.Number].map pI).flatten,0⟩:iR)=(fun k:Nat=>(⟨pI e.Number++Tp e.cB k,(k:Int)⟩:iR)) 0 from by simp[Tp]]
 rw[Gx (fun k:Nat=>(⟨pI e.Number++Tp e.cB k,(k:Int)⟩:iR)) 8 (fun _=>none) (some (epB e)) ?_ ?_ N (by omega)]
 ·exact Gy _
 ·intro k next hk
  have hl:=HS h1 k
  simp only[xB hk,dT (show (0:Int)≤k by omega) (show (k:Int) < 8 by omega),cond_true,Int.toNat_natCast]
  rw[aAX hN (by rw[List.length_append];unfold pI;omega) (aHz h1 hk),Option.bind_some,wrap64 (by omega) (by omega),List.append_assoc,← TO e.cB hk]
  rfl
 ·intro next
  have hl1:=HS h1 8
  have hl3:=HS h3 8
  simp only
  rw[show decide (((8:Nat):Int) < 8)=false from rfl,cond_false,p0 hN h3,Option.bind_some,dI (by rw[List.length_append];unfold pI;omega),cond_true]
  rw[show (⟨pI e.Number++Tp e.cB 8++Tp e.iD 8,0⟩:iS)=(fun k:Nat=>(⟨pI e.Number++Tp e.cB 8++Tp e.iD 8++Tp e.aV k,(k:Int)⟩:iS)) 0 from by simp[Tp]]
  rw[Gx (fun k:Nat=>(⟨pI e.Number++Tp e.cB 8++Tp e.iD 8++Tp e.aV k,(k:Int)⟩:iS)) 8 (fun _=>none) (some (epB e)) ?_ ?_ N (by omega)]
  ·exact Gy _
  ·intro k next hk
   have hl:=HS h2 k
   simp only[xB hk,dT (show (0:Int)≤k by omega) (show (k:Int) < 8 by omega),cond_true,Int.toNat_natCast]
   rw[aAX hN (by simp only[List.length_append];unfold pI;omega) (aHz h2 hk),Option.bind_some,wrap64 (by omega) (by omega),List.append_assoc,← TO e.aV hk]
   rfl
  ·intro next
   simp only
   rw[show decide (((8:Nat):Int) < 8)=false from rfl,cond_false]
   unfold epB wg
   rw[U6,U6,U6]
   simp
end
end Go.Proofs.YtddpmkmgbdedlaaGreat
