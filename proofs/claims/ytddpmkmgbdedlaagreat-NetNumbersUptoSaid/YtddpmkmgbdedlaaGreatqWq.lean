/-
Plain laws of another seat,turned to this one by wip/tools/ren2.py.
-/
import Derived.Test.YtddpmkmgbdedlaaGreatqFd
import Derived.Test.YtddpmkmgbdedlaaGreatqTvT
import Derived.Test.YtddpmkmgbdedlaaGreatqWr
import Derived.KernelRfl
set_option linter.unusedVariables false
set_option linter.unusedSimpArgs false
namespace Go.Proofs.YtddpmkmgbdedlaaGreat
open Go Go.Ev
def sta (e:aD)(i:Nat):Int:=iK e.cB i default
def sea (e:aD)(i:Nat):Int:=iK e.iD i default
def spo (e:aD)(i:Nat):Int:=iK e.aV i default
def okP (e:aD)(i:Nat):Prop :=
 0≤sta e i∧sta e i≤3∧0≤sea e i∧sea e i≤1099511627776∧(sta e i=3∨sea e i=0)∧((sta e i=0∧spo e i=-1)∨(sta e i≠0∧-1≤spo e i∧spo e i < 8∧spo e i≠i))
instance (e:aD)(i:Nat):Decidable (okP e i):=by unfold okP;exact inferInstance
def okS (e:aD)(i:Nat):Bool:=decide (okP e i)
def mem1 (e:aD)(i:Nat):Bool:=sta e i==1
def chk (e:aD):Bool:=decide (0≤e.Number)&&decide (e.Number < 1024)&&(List.range 8).all (okS e)&&(List.range 8).any (mem1 e)
theorem Gy {n:Nat}{α:Type}(last:Option α):((List.range n).findSome? (fun _=>(none:Option (Option α)))).getD last=last:=by
 induction (List.range n) with
 |nil=>rfl
 |cons x l ih=>rw[List.findSome?_cons];exact ih
theorem xB {k:Nat}(h:k < 8):decide ((k:Int) < 8)=true:=by simp;omega
def z0:aD:=⟨0,Vector.replicate 8 (default:Int),Vector.replicate 8 (default:Int),Vector.replicate 8 (default:Int)⟩
def lone (e:aD)(s:Nat):Bool:=(List.range 8).all fun j=>j==s || !(mem1 e j)
def app' (e:aD)(kind site XR length:Int):aD×Int :=
 if chk e=false∨(kind≠6∧kind≠7∧kind≠8)∨¬ (0≤site∧site < 8) then (z0,1)
 else if 1023≤e.Number then (z0,3)
 else if kind=6 then
  if sta e site.toNat≠0 then (z0,171)
  else if ¬ (0≤XR∧XR < 8) then (z0,1)
  else if sta e XR.toNat≠1 then (z0,171)
  else (⟨e.Number+1,NO e.cB site.toNat 1,e.iD,NO e.aV site.toNat XR⟩,0)
 else if kind=7 then
  if sta e site.toNat≠1 then (z0,171)
  else if lone e site.toNat=true then (z0,170)
  else (⟨e.Number+1,NO e.cB site.toNat 2,e.iD,e.aV⟩,0)
 else if sta e site.toNat≠2 then (z0,171)
 else if length < 0∨1099511627776 < length then (z0,1)
 else (⟨e.Number+1,NO e.cB site.toNat 3,NO e.iD site.toNat length,e.aV⟩,0)
def app (e:aD)(x:aB):aD×Int:=app' e x.Kind x.Site x.aV x.Length
def eqE (a b:aD):Bool:=(a.Number==b.Number)&&((rN Hj a.cB b.cB)&&((rN Dd a.iD b.iD)&&(rN Hj a.aV b.aV)))
def aJy (b:aD)(i k:Nat):Int:=if k=0 then spo b i else 0
def aJm (b:aD)(i k:Nat):Int:=if k=2 then sea b i else 0
def ent3 (b:aD)(i k:Nat):aB :=
 ⟨(k:Int)+6,0,0,(⟨(⟨0,0⟩:bB),0,0,0,[],[],[]⟩:dP),0,0,[],z0,0,Vector.replicate 8 (default:Int),0,(⟨0,0,0,[]⟩:aK),i,aJy b i k,aJm b i k⟩
def hit (a b:aD)(i k:Nat):Bool:=((app a (ent3 b i k)).2==0)&&eqE (app a (ent3 b i k)).1 b
def ua (a b:aD)(i:Nat):Bool:=(List.range 3).any (hit a b i)
def jW (s:Int×List Int):Int×(Int×List Int):=if s.1=0 then ((rI s.2).1,((rI s.2).2.1,(rI s.2).2.2)) else (0,s)
def rdv (g:Int→Int)(v0:Vector Int 8)(s:Int×List Int):Nat→(Int×List Int)×Vector Int 8
 |0=>(s,v0)
 |k+1=>((jW (rdv g v0 s k).1).2,NO (rdv g v0 s k).2 k (g (jW (rdv g v0 s k).1).1))
def Dz (B:List Int)(s:Int×List Int):Prop:=s.2 <:+ B
def z8:Vector Int 8:=Vector.replicate 8 (default:Int)
def rdE (g:Int→Int)(s:Int×List Int):aD×(Int×List Int) :=
 (⟨(jW s).1,(rdv g z8 (jW s).2 8).2,(rdv id z8 (rdv g z8 (jW s).2 8).1 8).2,(rdv g z8 (rdv id z8 (rdv g z8 (jW s).2 8).1 8).1 8).2⟩,
  (rdv g z8 (rdv id z8 (rdv g z8 (jW s).2 8).1 8).1 8).1)
def sm (n:Int):Int:=if n=IntKind.i64.wrap (IntKind.i32.wrap n) then n else -2
theorem bY {B:List Int}{s:Int×List Int}(h:Dz B s):Dz B (jW s).2:=by
 unfold jW
 split
 ·exact (uw s.2).trans h
 ·exact h
theorem Gb {B:List Int}{s:Int×List Int}(h:Dz B s)(g:Int→Int)(v0:Vector Int 8):∀ k,Dz B (rdv g v0 s k).1
 |0=>h
 |k+1=>bY (Gb h g v0 k)
section
variable {N:Nat} {B:List Int} {s:Int×List Int}
def okB (B:List Int):Prop:=B.length≤70368744177664∧∀ x∈B,uR x
theorem BM (hB:okB B)(h:Dz B s):s.2.length≤70368744177664∧∀ x∈s.2,uR x:=vp h hB.1 hB.2
theorem int_eq (hN:11≤N)(hB:okB B)(h:Dz B s):bC N s.1 ⟨true,s.2⟩=some ((jW s).1,(jW s).2.1,⟨true,(jW s).2.2⟩):=by
 unfold bC jW
 by_cases he:s.1=0
 ·have:(s.1==0)=true:=by simpa using he
  rw[this,if_pos he,aEX hN (BM hB h).1 (BM hB h).2]
  simp only[Bool.not_true,cond_false,Option.bind_some]
  unfold dM
  rw[this];rfl
 ·have:(s.1==0)=false:=by simpa using he
  rw[this,if_neg he];rfl
theorem iN (hN:11≤N)(hB:okB B)(h:Dz B s):bE N s.1 ⟨true,s.2⟩=some (sm (jW s).1,(jW s).2.1,⟨true,(jW s).2.2⟩):=by
 unfold bE sm
 rw[int_eq hN hB h,Option.bind_some]
 by_cases hx:(jW s).1=IntKind.i64.wrap (IntKind.i32.wrap (jW s).1)
 ·rw[if_pos hx,show ((jW s).1==IntKind.i64.wrap (IntKind.i32.wrap (jW s).1))=true by simpa using hx];rfl
 ·rw[if_neg hx,show ((jW s).1==IntKind.i64.wrap (IntKind.i32.wrap (jW s).1))=false by simpa using hx];rfl
theorem vv (hN:11≤N)(hB:okB B)(h:Dz B s)(a:Int)(b v d:Vector Int 8):mC N s.1 ⟨a,b,v,d⟩ ⟨true,s.2⟩ =
  some ((rdv id v s 8).1.1,⟨a,b,(rdv id v s 8).2,d⟩,⟨true,(rdv id v s 8).1.2⟩):=by
 unfold mC
 rw[show (⟨0,s.1,⟨a,b,v,d⟩,⟨true,s.2⟩⟩:dX)=(fun k:Nat=>(⟨(k:Int),(rdv id v s k).1.1,⟨a,b,(rdv id v s k).2,d⟩,⟨true,(rdv id v s k).1.2⟩⟩:dX)) 0 from rfl]
 rw[Gx (fun k:Nat=>(⟨(k:Int),(rdv id v s k).1.1,⟨a,b,(rdv id v s k).2,d⟩,⟨true,(rdv id v s k).1.2⟩⟩:dX)) 8 (fun _=>none) (some ((rdv id v s 8).1.1,⟨a,b,(rdv id v s 8).2,d⟩,⟨true,(rdv id v s 8).1.2⟩)) ?_ ?_ N (by omega)]
 ·exact Gy _
 ·intro k next hk
  simp only[xB hk,dT (show (0:Int)≤k by omega) (show (k:Int) < 8 by omega),cond_true]
  rw[int_eq hN hB (Gb h id v k),Option.bind_some,wrap64 (by omega) (by omega),Int.toNat_natCast]
  rfl
 ·intro next;rfl
theorem Y8 (hN:11≤N)(hB:okB B)(h:Dz B s):fJ N s.1 ⟨true,s.2⟩=some ((rdE sm s).1,(rdE sm s).2.1,⟨true,(rdE sm s).2.2⟩):=by
 unfold fJ wB
 rw[int_eq hN hB h]
 simp only[Option.bind_some]
 have h1:=bY h
 unfold rdE
 generalize (jW s).1=a at *
 generalize UL:(jW s).2=s1 at *
 rw[show (⟨0,s1.1,⟨true,s1.2⟩,⟨a,Vector.replicate 8 default,Vector.replicate 8 default,Vector.replicate 8 default⟩⟩:eG)=(fun k:Nat=>(⟨(k:Int),(rdv sm z8 s1 k).1.1,⟨true,(rdv sm z8 s1 k).1.2⟩,⟨a,(rdv sm z8 s1 k).2,z8,z8⟩⟩:eG)) 0 from rfl]
 rw[Gx (fun k:Nat=>(⟨(k:Int),(rdv sm z8 s1 k).1.1,⟨true,(rdv sm z8 s1 k).1.2⟩,⟨a,(rdv sm z8 s1 k).2,z8,z8⟩⟩:eG)) 8 (fun _=>none) _ ?_ ?_ N (by omega)]
 ·exact Gy _
 ·intro k next hk
  simp only[xB hk,dT (show (0:Int)≤k by omega) (show (k:Int) < 8 by omega),cond_true]
  rw[iN hN hB (Gb h1 sm z8 k),Option.bind_some,wrap64 (by omega) (by omega),Int.toNat_natCast]
  rfl
 ·intro next
  have h2:=Gb h1 sm z8 8
  generalize rdv sm z8 s1 8=p at *
  obtain⟨s2,v1⟩:=p
  simp only at h2 ⊢
  rw[show decide (((8:Nat):Int) < 8)=false from rfl,cond_false,vv hN hB h2,Option.bind_some]
  have h3:=Gb h2 id z8 8
  generalize rdv id z8 s2 8=p at *
  obtain⟨s3,v2⟩:=p
  simp only at h3 ⊢
  rw[show (⟨0,s3.1,⟨true,s3.2⟩,⟨a,v1,v2,z8⟩⟩:dW)=(fun k:Nat=>(⟨(k:Int),(rdv sm z8 s3 k).1.1,⟨true,(rdv sm z8 s3 k).1.2⟩,⟨a,v1,v2,(rdv sm z8 s3 k).2⟩⟩:dW)) 0 from rfl]
  rw[Gx (fun k:Nat=>(⟨(k:Int),(rdv sm z8 s3 k).1.1,⟨true,(rdv sm z8 s3 k).1.2⟩,⟨a,v1,v2,(rdv sm z8 s3 k).2⟩⟩:dW)) 8 (fun _=>none) (some ((⟨a,v1,v2,(rdv sm z8 s3 8).2⟩:aD),(rdv sm z8 s3 8).1.1,⟨true,(rdv sm z8 s3 8).1.2⟩)) ?_ ?_ N (by omega)]
  ·exact Gy _
  ·intro k next hk
   simp only[xB hk,dT (show (0:Int)≤k by omega) (show (k:Int) < 8 by omega),cond_true]
   rw[iN hN hB (Gb h3 sm z8 k),Option.bind_some,wrap64 (by omega) (by omega),Int.toNat_natCast]
   rfl
  ·intro next;rfl
end
section
variable {N:Nat} {B:List Int} {s:Int×List Int}
end
section
variable {N:Nat} {B:List Int} {s:Int×List Int}
attribute [local irreducible] rdv
theorem aFF (N:Nat)(c:List Int):uK N ⟨true,c⟩=some (if 0 < (c.length:Int) then 13 else 0,⟨true,c⟩):=by
 unfold uK iB
 simp only[Option.bind_some,Bool.not_true,cond_false]
 by_cases h:0 < (c.length:Int)
 ·rw[if_pos h,decide_eq_true h];rfl
 ·rw[if_neg h,decide_eq_false h];rfl
end
def epB (e:aD):List Int:=(wg e).flatten
theorem iF {l:List Int}(h:∀ n∈l,Fi n):(l.map pI).flatten.length≤10 * l.length:=by
 induction l with
 |nil=>simp
 |cons x r ih =>
  have h1:=Cd (h x (by simp))
  have h2:=ih fun n hn=>h n (by simp[hn])
  simp only[List.map_cons,List.flatten_cons,List.length_append,List.length_cons]
  omega
theorem oj {e:aD}(h:Ah e):(epB e).length≤250:=by
 obtain⟨h1,h2,h3⟩:=IB h
 have a1:=iF h1
 have a2:=iF h2
 have a3:=iF h3
 have a0:=Cd (dE h.1)
 simp only[Vector.length_toList]at a1 a2 a3
 unfold epB wg
 simp only[List.flatten_append,List.map_cons,List.map_nil,List.flatten_cons,List.flatten_nil,List.append_nil,List.length_append]
 omega
section
variable {N:Nat} {w:List Int}
end
end Go.Proofs.YtddpmkmgbdedlaaGreat
