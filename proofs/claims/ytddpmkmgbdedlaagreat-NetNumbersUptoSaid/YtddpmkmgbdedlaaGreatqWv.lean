/-
Plain laws of another seat,turned to this one by wip/tools/ren2.py.
-/
import Derived.Test.YtddpmkmgbdedlaaGreatqFd
import Derived.Test.YtddpmkmgbdedlaaGreatqWu
import Derived.KernelRfl
import Derived.Laws.BitsAllLaws
set_option linter.unusedVariables false
set_option linter.unusedSimpArgs false
namespace Go.Proofs.YtddpmkmgbdedlaaGreat
open Go Go.Ev
abbrev St:=Int×List Int
def rdD (s:St):List Int×St:=if s.1=0 then ((rB s.2).1,((rB s.2).2.1,(rB s.2).2.2)) else ([],s)
def wy (g:Int→Int)(s:St):aK×St :=
 let a:=jW s
 let b:=jW a.2
 let c:=jW b.2
 let d:=rdD c.2
 (⟨a.1,g b.1,g c.1,d.1⟩,d.2)
def S0 (s:St):Int×St :=
 let a:=jW s
 if a.2.1=0∧(a.1 < 0∨4096 < a.1) then (0,(40,a.2.2)) else if a.2.1≠0 then (0,a.2) else (a.1,a.2)
def qk {α:Type}(f:St→α×St):Nat→List α→St→List α×St
 |0,l,s=>(l,s)
 |n+1,l,s=>if s.1≠0 then ([],s) else qk f n (l++[(f s).1]) (f s).2
theorem cp {α:Type}(f:St→α×St)(l:List α)(s:St):qk f 0 l s=(l,s):=rfl
theorem j8 {α:Type}(f:St→α×St)(n:Nat)(l:List α)(s:St):qk f (n+1) l s=if s.1≠0 then ([],s) else qk f n (l++[(f s).1]) (f s).2:=rfl
def SZ (g:Int→Int)(s:St):List dP×St:=qk (rdO g) (S0 s).1.toNat [] (S0 s).2
def Hl (g:Int→Int)(s:St):aT×St :=
 let a:=jW s
 let b:=jW a.2
 (⟨a.1,g b.1⟩,b.2)
def zE (k:Int):aB:=⟨k,0,0,eh,0,0,[],Dx,0,zV,0,Dy,0,0,0⟩
def WU (g:Int→Int)(s:St):aB×St :=
 let a:=jW s
 let k:=g a.1
 let t:=a.2
 if t.1≠0 then (zE k,t) else
 if k=0 then (zE k,t) else
 if k=1 then
  let b:=jW t
  let c:=jW b.2
  let d:=rdO g c.2
  (⟨k,b.1,c.1,d.1,0,0,[],Dx,0,zV,0,Dy,0,0,0⟩,d.2) else
 if k=2 then
  let b:=jW t
  let c:=jW b.2
  let d:=SZ g c.2
  (⟨k,0,0,eh,g b.1,c.1,d.1,Dx,0,zV,0,Dy,0,0,0⟩,d.2) else
 if k=3 then
  let b:=rdE g t
  (⟨k,0,0,eh,0,0,[],b.1,0,zV,0,Dy,0,0,0⟩,b.2) else
 if k=4 then
  let b:=jW t
  let c:=jW b.2
  let d:=rdv id z8 c.2 8
  let e:=jW d.1
  (⟨k,0,0,eh,0,b.1,[],Dx,g c.1,d.2,e.1,Dy,0,0,0⟩,e.2) else
 if k=5 then
  let b:=wy g t
  (⟨k,0,0,eh,0,0,[],Dx,0,zV,0,b.1,0,0,0⟩,b.2) else
 if k=6 then
  let b:=jW t
  let c:=jW b.2
  (⟨k,0,0,eh,0,0,[],Dx,0,zV,0,Dy,g b.1,g c.1,0⟩,c.2) else
 if k=7 then
  let b:=jW t
  (⟨k,0,0,eh,0,0,[],Dx,0,zV,0,Dy,g b.1,0,0⟩,b.2) else
 if k=8 then
  let b:=jW t
  let c:=jW b.2
  (⟨k,0,0,eh,0,0,[],Dx,0,zV,0,Dy,g b.1,0,c.1⟩,c.2) else
 (zE k,(40,t.2))
section
variable {N:Nat} {B:List Int} {s:St}
theorem aGz (h:Dz B s):Dz B (rdD s).2:=by
 unfold rdD
 split
 ·exact (I7 s.2).trans h
 ·exact h
theorem ku (g:Int→Int)(h:Dz B s):Dz B (wy g s).2:=aGz (bY (bY (bY h)))
theorem S1 (g:Int→Int)(h:Dz B s):Dz B (rdO g s).2:=j9 (j9 (j9 (bY (bY (bY (bY (bY h)))))))
theorem SY (h:Dz B s):Dz B (S0 s).2:=by
 have h1:=bY h
 unfold S0
 simp only
 split
 ·exact h1
 ·split<;>exact h1
theorem kt {α:Type}{f:St→α×St}(hf:∀ {s},Dz B s→Dz B (f s).2):∀ (n:Nat) (l:List α) {s:St},Dz B s→Dz B (qk f n l s).2
 |0,l,s,h=>h
 |n+1,l,s,h=>by
  unfold qk
  split
  ·exact h
  ·exact kt hf n _ (hf h)
theorem ql (g:Int→Int)(h:Dz B s):Dz B (SZ g s).2:=kt (fun h=>S1 g h) _ _ (SY h)
theorem aBg (g:Int→Int)(h:Dz B s):Dz B (rdE g s).2:=Gb (Gb (Gb (bY h) g z8 8) id z8 8) g z8 8
theorem Ji (g:Int→Int)(h:Dz B s):Dz B (Hl g s).2:=bY (bY h)
theorem qj (g:Int→Int)(h:Dz B s):Dz B (WU g s).2:=by
 have h1:=bY h
 unfold WU
 simp only
 split;· exact h1
 split;· exact h1
 split;· exact S1 g (bY (bY h1))
 split;· exact ql g (bY (bY h1))
 split;· exact aBg g h1
 split;· exact bY (Gb (bY (bY h1)) id z8 8)
 split;· exact ku g h1
 split;· exact bY (bY h1)
 split;· exact bY h1
 split;· exact bY (bY h1)
 exact h1
theorem gf (hN:11≤N)(hB:okB B)(h:Dz B s):nJ N s.1 ⟨true,s.2⟩=some ((rdD s).1,(rdD s).2.1,⟨true,(rdD s).2.2⟩):=by
 unfold nJ rdD
 by_cases he:s.1=0
 ·have:(s.1==0)=true:=by simpa using he
  rw[this,if_pos he,xc hN (BM hB h).1 (BM hB h).2]
  simp only[Bool.not_true,cond_false,Option.bind_some]
  unfold dM
  rw[this];rfl
 ·have:(s.1==0)=false:=by simpa using he
  rw[this,if_neg he];rfl
theorem SU (hN:11≤N)(hB:okB B)(h:Dz B s):dN N s.1 ⟨true,s.2⟩=some ((wy sm s).1,(wy sm s).2.1,⟨true,(wy sm s).2.2⟩):=by
 unfold dN wE sW wy
 have h1:=bY h
 have h2:=bY h1
 have h3:=bY h2
 rw[int_eq hN hB h]
 simp only[Option.bind_some]
 rw[iN hN hB h1]
 simp only[Option.bind_some]
 rw[iN hN hB h2]
 simp only[Option.bind_some]
 rw[gf hN hB h3]
 rfl
theorem Bf (hN:11≤N)(hB:okB B)(h:Dz B s):bP N s.1 ⟨true,s.2⟩=some ((Hl sm s).1,(Hl sm s).2.1,⟨true,(Hl sm s).2.2⟩):=by
 unfold bP wC tB Hl
 have h1:=bY h
 rw[int_eq hN hB h]
 simp only[Option.bind_some]
 rw[iN hN hB h1]
 rfl
theorem H3 (hN:11≤N)(hB:okB B)(h:Dz B s):kD N s.1 ⟨true,s.2⟩=some ((S0 s).1,(S0 s).2.1,⟨true,(S0 s).2.2⟩):=by
 unfold kD S0
 rw[int_eq hN hB h]
 simp only[Option.bind_some]
 by_cases he:(jW s).2.1=0
 ·have e1:((jW s).2.1==0)=true:=by simpa using he
  by_cases hx:(jW s).1 < 0∨4096 < (jW s).1
  ·have e2:(decide ((jW s).1 < 0) || decide (4096 < (jW s).1))=true:=by simpa using hx
   rw[if_pos ⟨he,hx⟩,e1,e2];rfl
  ·have e2:(decide ((jW s).1 < 0) || decide (4096 < (jW s).1))=false:=by
    rw[Bool.eq_false_iff];intro h;exact hx (by simpa using h)
   rw[if_neg (fun h=>hx h.2),if_neg (fun h=>h he),e1,e2];rfl
 ·have e1:((jW s).2.1==0)=false:=by simpa using he
  rw[if_neg (fun h=>he h.1),if_pos he,e1];rfl
theorem IK (s:St):0≤(S0 s).1∧(S0 s).1≤4096:=by
 unfold S0
 simp only
 split
 ·simp
 ·rename_i h
  split
  ·simp
  ·rename_i h2
   have h2:(jW s).2.1=0:=by simpa using h2
   have:¬ ((jW s).1 < 0∨4096 < (jW s).1):=fun h'=>h ⟨h2,h'⟩
   simp only;omega
theorem bx (hN:4200≤N)(hB:okB B)(h:Dz B s):gJ N s.1 ⟨true,s.2⟩=some ((SZ sm s).1,(SZ sm s).2.1,⟨true,(SZ sm s).2.2⟩):=by
 unfold gJ SZ
 rw[H3 (by omega) hB h]
 simp only[Option.bind_some]
 have hr:=IK s
 have h1:=SY h
 generalize S0 s=p at *
 obtain⟨n,t⟩:=p
 simp only at hr h1 ⊢
 refine dU (fun q:gZ=>0≤q.t6∧q.t6≤n∧(q.l.length:Int)=q.t6∧q.b1.made=true∧Dz B (q.b0,q.b1.b)∧qk (rdO sm) (n - q.t6).toNat q.l (q.b0,q.b1.b)=qk (rdO sm) n.toNat [] t) (fun q=>(n - q.t6).toNat) ?_ N _ ⟨by simp,hr.1,by simp,rfl,h1,by simp⟩ (by simp only;omega)
 rintro⟨l,i,e,⟨m,c⟩⟩ nx ⟨g0,g1,g2,g3,g4,hq⟩ ih
 simp only at g0 g1 g2 g3 g4 hq ih ⊢
 subst g3
 by_cases hi:i < n
 ·obtain⟨j,hj⟩:∃ j,(n - i).toNat=j+1:=⟨(n - i).toNat - 1,by omega⟩
  rw[hj,j8]at hq
  by_cases he:e=0
  ·subst he
   simp only[ne_eq,not_true_eq_false,if_false]at hq
   rw[decide_eq_true hi]
   simp only[cond_true,beq_self_eq_true,Bool.not_true,cond_false]
   rw[pr (s:=((0:Int),c)) (by omega) hB g4,Option.bind_some,dI (by simp only[List.length_cons,List.length_nil];omega),wrap64 (by omega) (by omega),cond_true]
   refine ih ⟨_,i+1,_,⟨true,_⟩⟩ ⟨by simp;omega,by simp;omega,by simp;omega,rfl,S1 sm g4,?_⟩ (by simp;omega)
   simp only
   rw[show (n - (i+1)).toNat=j by omega];exact hq
  ·simp only[ne_eq,he,not_false_eq_true,if_true]at hq
   have eb:(e==0)=false:=by simpa using he
   rw[decide_eq_true hi,eb]
   simp only[cond_true,Bool.not_false]
   rw[← hq]
 ·rw[decide_eq_false hi]
  rw[show (n - i).toNat=0 by omega,cp]at hq
  simp only[cond_false]
  rw[← hq]
theorem M8 (hN:11≤N)(hB:okB B)(h:Dz B s)(a1 a2 a3:Int)(a4:dP)(a5 a6:Int)(a7:List dP)(a8:aD)(a9:Int)(v:Vector Int 8)(eK:Int)(eL:aK)(eA eB jA:Int) :
  mD N s.1 ⟨a1,a2,a3,a4,a5,a6,a7,a8,a9,v,eK,eL,eA,eB,jA⟩ ⟨true,s.2⟩ =
  some ((rdv id v s 8).1.1,⟨a1,a2,a3,a4,a5,a6,a7,a8,a9,(rdv id v s 8).2,eK,eL,eA,eB,jA⟩,⟨true,(rdv id v s 8).1.2⟩):=by
 unfold mD
 rw[show (⟨0,s.1,⟨a1,a2,a3,a4,a5,a6,a7,a8,a9,v,eK,eL,eA,eB,jA⟩,⟨true,s.2⟩⟩:dY)=(fun k:Nat=>(⟨(k:Int),(rdv id v s k).1.1,⟨a1,a2,a3,a4,a5,a6,a7,a8,a9,(rdv id v s k).2,eK,eL,eA,eB,jA⟩,⟨true,(rdv id v s k).1.2⟩⟩:dY)) 0 from rfl]
 rw[Gx (fun k:Nat=>(⟨(k:Int),(rdv id v s k).1.1,⟨a1,a2,a3,a4,a5,a6,a7,a8,a9,(rdv id v s k).2,eK,eL,eA,eB,jA⟩,⟨true,(rdv id v s k).1.2⟩⟩:dY)) 8 (fun _=>none) (some ((rdv id v s 8).1.1,⟨a1,a2,a3,a4,a5,a6,a7,a8,a9,(rdv id v s 8).2,eK,eL,eA,eB,jA⟩,⟨true,(rdv id v s 8).1.2⟩)) ?_ ?_ N (by omega)]
 ·exact Gy _
 ·intro k next hk
  simp only[xB hk,dT (show (0:Int)≤k by omega) (show (k:Int) < 8 by omega),cond_true]
  rw[int_eq hN hB (Gb h id v k),Option.bind_some,wrap64 (by omega) (by omega),Int.toNat_natCast]
  rfl
 ·intro next;rfl
theorem YX (hN:4200≤N)(hB:okB B)(h:Dz B s):fI N s.1 ⟨true,s.2⟩=some ((WU sm s).1,(WU sm s).2.1,⟨true,(WU sm s).2.2⟩):=by
 have Aw:11≤N:=by omega
 have h1:=bY h
 unfold fI sZ
 rw[iN Aw hB h]
 simp only[Option.bind_some]
 unfold WU
 generalize jW s=p at *
 obtain⟨a,t⟩:=p
 simp only at h1 ⊢
 generalize sm a=k
 by_cases he:t.1≠0
 ·rw[if_pos he,show (t.1==0)=false by simpa using he];rfl
 rw[if_neg he,show (t.1==0)=true by simpa using he]
 simp only[Bool.not_true,cond_false]
 by_cases k0:k=0
 ·subst k0;rfl
 rw[if_neg k0,show (k==0)=false by simpa using k0,cond_false]
 by_cases k1:k=1
 ·subst k1
  simp only[beq_self_eq_true,cond_true,if_true]
  unfold wA
  have h2:=bY h1
  have h3:=bY h2
  rw[int_eq Aw hB h1]
  simp only[Option.bind_some]
  rw[int_eq Aw hB h2]
  simp only[Option.bind_some]
  rw[pr Aw hB h3]
  rfl
 rw[if_neg k1,show (k==1)=false by simpa using k1,cond_false]
 by_cases k2:k=2
 ·subst k2
  simp only[beq_self_eq_true,cond_true,if_true]
  unfold sV kC
  have h2:=bY h1
  have h3:=bY h2
  rw[iN Aw hB h1]
  simp only[Option.bind_some]
  rw[int_eq Aw hB h2]
  simp only[Option.bind_some]
  rw[bx hN hB h3]
  rfl
 rw[if_neg k2,show (k==2)=false by simpa using k2,cond_false]
 by_cases k3:k=3
 ·subst k3
  simp only[beq_self_eq_true,cond_true,if_true]
  rw[Y8 Aw hB h1]
  rfl
 rw[if_neg k3,show (k==3)=false by simpa using k3,cond_false]
 by_cases k4:k=4
 ·subst k4
  simp only[beq_self_eq_true,cond_true,if_true]
  unfold tA kC vY
  have h2:=bY h1
  have h3:=bY h2
  have h4:=Gb h3 id z8 8
  rw[int_eq Aw hB h1]
  simp only[Option.bind_some]
  rw[iN Aw hB h2]
  simp only[Option.bind_some]
  rw[M8 Aw hB h3]
  simp only[Option.bind_some]
  change ((bC N (rdv id z8 _ 8).1.1 ⟨true,(rdv id z8 _ 8).1.2⟩).bind _).bind _=_
  rw[int_eq Aw hB h4]
  rfl
 rw[if_neg k4,show (k==4)=false by simpa using k4,cond_false]
 by_cases k5:k=5
 ·subst k5
  simp only[beq_self_eq_true,cond_true,if_true]
  rw[SU Aw hB h1]
  rfl
 rw[if_neg k5,show (k==5)=false by simpa using k5,cond_false]
 by_cases k6:k=6
 ·subst k6
  simp only[beq_self_eq_true,cond_true,if_true]
  unfold sX
  have h2:=bY h1
  rw[iN Aw hB h1]
  simp only[Option.bind_some]
  rw[iN Aw hB h2]
  rfl
 rw[if_neg k6,show (k==6)=false by simpa using k6,cond_false]
 by_cases k7:k=7
 ·subst k7
  simp only[beq_self_eq_true,cond_true,if_true]
  unfold jB
  rw[iN Aw hB h1]
  rfl
 rw[if_neg k7,show (k==7)=false by simpa using k7,cond_false]
 by_cases k8:k=8
 ·subst k8
  simp only[beq_self_eq_true,cond_true,if_true]
  unfold jB wF
  have h2:=bY h1
  rw[iN Aw hB h1]
  simp only[Option.bind_some]
  rw[int_eq Aw hB h2]
  rfl
 rw[if_neg k8,show (k==8)=false by simpa using k8,cond_false]
 rfl
end
structure SmOk (g:Int→Int):Prop where
 V4:∀ n,-1≤g n→g n=n
 of:∀ n,-1≤n∧n≤2147483647→g n=n
theorem SmOk.h7 {g:Int→Int}(h:SmOk g):∀ n,-1≤g n∧g n≤7→g n=n:=fun n hn=>h.V4 n hn.1
section
variable {N:Nat} {B:List Int} {s:St} {g:Int→Int}
section
variable (a2 a3:Int) (a4:dP) (a5 a6:Int) (a7:List dP) (a8:aD) (a9:Int) (eT:Vector Int 8) (eK:Int) (eL:aK) (eA eB jA:Int)
end
end
def aBh (g:Int→Int)(s:St):aL×St :=
 let a:=jW s
 let b:=Hl g a.2
 let c:=WU g b.2
 (⟨a.1,b.1,c.1⟩,c.2)
def HD (g:Int→Int)(s:St):List aL×St:=qk (aBh g) (S0 s).1.toNat [] (S0 s).2
def B7 (g:Int→Int)(s:St):bV×St :=
 let a:=jW s
 let b:=jW a.2
 (⟨g a.1,g b.1⟩,b.2)
def zM (k:Int)(fr yE:bV):aN:=⟨k,fr,yE,HT,0,[],uG,0,zV,0,0,[],Dx,Dy⟩
def Uj (g:Int→Int)(k:Int)(fr yE:bV)(t:St):aN×St :=
 if k=1 then
  let x0:=Hl g t
  let x1:=jW x0.2
  (⟨1,fr,yE,x0.1,x1.1,[],uG,0,zV,0,0,[],Dx,Dy⟩,x1.2) else
 if k=2 then
  let x0:=Hl g t
  let x1:=jW x0.2
  let x2:=HD g x1.2
  (⟨2,fr,yE,x0.1,x1.1,x2.1,uG,0,zV,0,0,[],Dx,Dy⟩,x2.2) else
 if k=3 then
  let x0:=Hl g t
  let x1:=HD g x0.2
  (⟨3,fr,yE,x0.1,0,x1.1,uG,0,zV,0,0,[],Dx,Dy⟩,x1.2) else
 if k=4 then
  let x0:=Hl g t
  let x1:=jW x0.2
  (⟨4,fr,yE,x0.1,x1.1,[],uG,0,zV,0,0,[],Dx,Dy⟩,x1.2) else
 if k=5 then
  let x0:=Hl g t
  (⟨5,fr,yE,x0.1,0,[],uG,0,zV,0,0,[],Dx,Dy⟩,x0.2) else
 if k=6 then
  let x0:=HD g t
  (⟨6,fr,yE,HT,0,x0.1,uG,0,zV,0,0,[],Dx,Dy⟩,x0.2) else
 if k=7 then
  let x0:=Hl g t
  let x1:=jW x0.2
  (⟨7,fr,yE,x0.1,x1.1,[],uG,0,zV,0,0,[],Dx,Dy⟩,x1.2) else
 if k=8 then
  let x0:=jW t
  (⟨8,fr,yE,HT,x0.1,[],uG,0,zV,0,0,[],Dx,Dy⟩,x0.2) else
 if k=9 then
  let x0:=WU g t
  (⟨9,fr,yE,HT,0,[],x0.1,0,zV,0,0,[],Dx,Dy⟩,x0.2) else
 if k=10 then
  let x0:=jW t
  let x1:=rdv id z8 x0.2 8
  let x2:=jW x1.1
  (⟨10,fr,yE,HT,0,[],uG,x0.1,x1.2,x2.1,0,[],Dx,Dy⟩,x2.2) else
 if k=11 then
  let x0:=jW t
  let x1:=jW x0.2
  let x2:=jW x1.2
  let x3:=SZ g x2.2
  (⟨11,fr,yE,HT,x2.1,[],uG,x0.1,zV,0,g x1.1,x3.1,Dx,Dy⟩,x3.2) else
 if k=12 then
  let x0:=rdE g t
  (⟨12,fr,yE,HT,0,[],uG,0,zV,0,0,[],x0.1,Dy⟩,x0.2) else
 if k=13 then
  let x0:=wy g t
  (⟨13,fr,yE,HT,0,[],uG,0,zV,0,0,[],Dx,x0.1⟩,x0.2) else
 if k=14 then
  let x0:=jW t
  let x1:=rdv id z8 x0.2 8
  (⟨14,fr,yE,HT,0,[],uG,x0.1,x1.2,0,0,[],Dx,Dy⟩,x1.1) else
 if k=15 then
  let x0:=jW t
  let x1:=wy g x0.2
  (⟨15,fr,yE,HT,x0.1,[],uG,0,zV,0,0,[],Dx,x1.1⟩,x1.2) else
 (zM k fr yE,t)
def MV (g:Int→Int)(s:St):aN×St :=
 let a:=jW s
 let t:=if a.2.1=0∧(g a.1 < 1∨15 < g a.1) then (40,a.2.2) else a.2
 let b:=B7 g t
 let c:=B7 g b.2
 Uj g (g a.1) b.1 c.1 c.2
section
variable {N:Nat} {B:List Int} {s:St}
theorem S2 (g:Int→Int)(h:Dz B s):Dz B (aBh g s).2:=qj g (Ji g (bY h))
theorem S3 (g:Int→Int)(h:Dz B s):Dz B (HD g s).2:=kt (fun h=>S2 g h) _ _ (SY h)
theorem IJ (g:Int→Int)(h:Dz B s):Dz B (B7 g s).2:=bY (bY h)
theorem bd1 (g:Int→Int)(fr yE:bV)(s:St):Uj g 1 fr yE s=(⟨1,fr,yE,(Hl g s).1,(jW (Hl g s).2).1,[],uG,0,zV,0,0,[],Dx,Dy⟩,(jW (Hl g s).2).2):=rfl
theorem bd2 (g:Int→Int)(fr yE:bV)(s:St):Uj g 2 fr yE s=(⟨2,fr,yE,(Hl g s).1,(jW (Hl g s).2).1,(HD g (jW (Hl g s).2).2).1,uG,0,zV,0,0,[],Dx,Dy⟩,(HD g (jW (Hl g s).2).2).2):=rfl
theorem bd3 (g:Int→Int)(fr yE:bV)(s:St):Uj g 3 fr yE s=(⟨3,fr,yE,(Hl g s).1,0,(HD g (Hl g s).2).1,uG,0,zV,0,0,[],Dx,Dy⟩,(HD g (Hl g s).2).2):=rfl
theorem bd4 (g:Int→Int)(fr yE:bV)(s:St):Uj g 4 fr yE s=(⟨4,fr,yE,(Hl g s).1,(jW (Hl g s).2).1,[],uG,0,zV,0,0,[],Dx,Dy⟩,(jW (Hl g s).2).2):=rfl
theorem bd5 (g:Int→Int)(fr yE:bV)(s:St):Uj g 5 fr yE s=(⟨5,fr,yE,(Hl g s).1,0,[],uG,0,zV,0,0,[],Dx,Dy⟩,(Hl g s).2):=rfl
theorem bd6 (g:Int→Int)(fr yE:bV)(s:St):Uj g 6 fr yE s=(⟨6,fr,yE,HT,0,(HD g s).1,uG,0,zV,0,0,[],Dx,Dy⟩,(HD g s).2):=rfl
theorem bd7 (g:Int→Int)(fr yE:bV)(s:St):Uj g 7 fr yE s=(⟨7,fr,yE,(Hl g s).1,(jW (Hl g s).2).1,[],uG,0,zV,0,0,[],Dx,Dy⟩,(jW (Hl g s).2).2):=rfl
theorem bd8 (g:Int→Int)(fr yE:bV)(s:St):Uj g 8 fr yE s=(⟨8,fr,yE,HT,(jW s).1,[],uG,0,zV,0,0,[],Dx,Dy⟩,(jW s).2):=rfl
theorem bd9 (g:Int→Int)(fr yE:bV)(s:St):Uj g 9 fr yE s=(⟨9,fr,yE,HT,0,[],(WU g s).1,0,zV,0,0,[],Dx,Dy⟩,(WU g s).2):=rfl
theorem bd10 (g:Int→Int)(fr yE:bV)(s:St):Uj g 10 fr yE s=(⟨10,fr,yE,HT,0,[],uG,(jW s).1,(rdv id z8 (jW s).2 8).2,(jW (rdv id z8 (jW s).2 8).1).1,0,[],Dx,Dy⟩,(jW (rdv id z8 (jW s).2 8).1).2):=rfl
theorem bd11 (g:Int→Int)(fr yE:bV)(s:St):Uj g 11 fr yE s=(⟨11,fr,yE,HT,(jW (jW (jW s).2).2).1,[],uG,(jW s).1,zV,0,g (jW (jW s).2).1,(SZ g (jW (jW (jW s).2).2).2).1,Dx,Dy⟩,(SZ g (jW (jW (jW s).2).2).2).2):=rfl
theorem bd12 (g:Int→Int)(fr yE:bV)(s:St):Uj g 12 fr yE s=(⟨12,fr,yE,HT,0,[],uG,0,zV,0,0,[],(rdE g s).1,Dy⟩,(rdE g s).2):=rfl
theorem bd13 (g:Int→Int)(fr yE:bV)(s:St):Uj g 13 fr yE s=(⟨13,fr,yE,HT,0,[],uG,0,zV,0,0,[],Dx,(wy g s).1⟩,(wy g s).2):=rfl
theorem bd14 (g:Int→Int)(fr yE:bV)(s:St):Uj g 14 fr yE s=(⟨14,fr,yE,HT,0,[],uG,(jW s).1,(rdv id z8 (jW s).2 8).2,0,0,[],Dx,Dy⟩,(rdv id z8 (jW s).2 8).1):=rfl
theorem bd15 (g:Int→Int)(fr yE:bV)(s:St):Uj g 15 fr yE s=(⟨15,fr,yE,HT,(jW s).1,[],uG,0,zV,0,0,[],Dx,(wy g (jW s).2).1⟩,(wy g (jW s).2).2):=rfl
theorem xu (g:Int→Int){k:Int}(hk:¬ (1≤k∧k≤15))(fr yE:bV)(s:St):Uj g k fr yE s=(zM k fr yE,s):=by
 unfold Uj
 rw[if_neg (by omega),if_neg (by omega),if_neg (by omega),if_neg (by omega),if_neg (by omega),if_neg (by omega),if_neg (by omega),if_neg (by omega),if_neg (by omega),if_neg (by omega),if_neg (by omega),if_neg (by omega),if_neg (by omega),if_neg (by omega),if_neg (by omega)]
theorem NC (hN:4200≤N)(hB:okB B)(h:Dz B s):cN N s.1 ⟨true,s.2⟩=some ((HD sm s).1,(HD sm s).2.1,⟨true,(HD sm s).2.2⟩):=by
 unfold cN HD
 rw[H3 (by omega) hB h]
 simp only[Option.bind_some]
 have hr:=IK s
 have h1:=SY h
 generalize S0 s=p at *
 obtain⟨n,t⟩:=p
 simp only at hr h1 ⊢
 refine dU (fun q:gD=>0≤q.t7∧q.t7≤n∧(q.l.length:Int)=q.t7∧q.b1.made=true∧Dz B (q.b0,q.b1.b)∧qk (aBh sm) (n - q.t7).toNat q.l (q.b0,q.b1.b)=qk (aBh sm) n.toNat [] t) (fun q=>(n - q.t7).toNat) ?_ N _ ⟨by simp,hr.1,by simp,rfl,h1,by simp⟩ (by simp only;omega)
 rintro⟨l,i,e,⟨m,c⟩⟩ nx ⟨g0,g1,g2,g3,g4,hq⟩ ih
 simp only at g0 g1 g2 g3 g4 hq ih ⊢
 subst g3
 by_cases hi:i < n
 ·obtain⟨j,hj⟩:∃ j,(n - i).toNat=j+1:=⟨(n - i).toNat - 1,by omega⟩
  rw[hj,j8]at hq
  by_cases he:e=0
  ·subst he
   simp only[ne_eq,not_true_eq_false,if_false]at hq
   rw[decide_eq_true hi]
   simp only[cond_true,beq_self_eq_true,Bool.not_true,cond_false]
   unfold vZ
   have h2:=bY g4
   have h3:=Ji sm h2
   rw[int_eq (s:=((0:Int),c)) (by omega) hB g4]
   simp only[Option.bind_some]
   rw[Bf (by omega) hB h2]
   simp only[Option.bind_some]
   rw[YX hN hB h3]
   simp only[Option.bind_some]
   rw[dI (by simp only[List.length_cons,List.length_nil];omega),wrap64 (by omega) (by omega),cond_true]
   refine ih ⟨_,i+1,_,⟨true,_⟩⟩ ⟨by simp;omega,by simp;omega,by simp;omega,rfl,S2 sm g4,?_⟩ (by simp;omega)
   simp only
   rw[show (n - (i+1)).toNat=j by omega];exact hq
  ·simp only[ne_eq,he,not_false_eq_true,if_true]at hq
   have eb:(e==0)=false:=by simpa using he
   rw[decide_eq_true hi,eb]
   simp only[cond_true,Bool.not_false]
   rw[← hq]
 ·rw[decide_eq_false hi]
  rw[show (n - i).toNat=0 by omega,cp]at hq
  simp only[cond_false]
  rw[← hq]
theorem PC (hN:11≤N)(hB:okB B)(h:Dz B s)(a1:Int)(a2 a3:bV)(a4:aT)(a5:Int)(a6:List aL)(a7:aB)(a8:Int)(v:Vector Int 8)(eT eK:Int)(eL:List dP)(eA:aD)(eB:aK) :
  dQ N s.1 ⟨a1,a2,a3,a4,a5,a6,a7,a8,v,eT,eK,eL,eA,eB⟩ ⟨true,s.2⟩ =
  some ((rdv id v s 8).1.1,⟨a1,a2,a3,a4,a5,a6,a7,a8,(rdv id v s 8).2,eT,eK,eL,eA,eB⟩,⟨true,(rdv id v s 8).1.2⟩):=by
 unfold dQ
 rw[show (⟨0,s.1,⟨a1,a2,a3,a4,a5,a6,a7,a8,v,eT,eK,eL,eA,eB⟩,⟨true,s.2⟩⟩:dZ)=(fun k:Nat=>(⟨(k:Int),(rdv id v s k).1.1,⟨a1,a2,a3,a4,a5,a6,a7,a8,(rdv id v s k).2,eT,eK,eL,eA,eB⟩,⟨true,(rdv id v s k).1.2⟩⟩:dZ)) 0 from rfl]
 rw[Gx (fun k:Nat=>(⟨(k:Int),(rdv id v s k).1.1,⟨a1,a2,a3,a4,a5,a6,a7,a8,(rdv id v s k).2,eT,eK,eL,eA,eB⟩,⟨true,(rdv id v s k).1.2⟩⟩:dZ)) 8 (fun _=>none) (some ((rdv id v s 8).1.1,⟨a1,a2,a3,a4,a5,a6,a7,a8,(rdv id v s 8).2,eT,eK,eL,eA,eB⟩,⟨true,(rdv id v s 8).1.2⟩)) ?_ ?_ N (by omega)]
 ·exact Gy _
 ·intro k next hk
  simp only[xB hk,dT (show (0:Int)≤k by omega) (show (k:Int) < 8 by omega),cond_true]
  rw[int_eq hN hB (Gb h id v k),Option.bind_some,wrap64 (by omega) (by omega),Int.toNat_natCast]
  rfl
 ·intro next;rfl
theorem D7 (hN:4200≤N)(hB:okB B)(h:Dz B s)(k:Int)(fr yE:bV):kA N s.1 ⟨k,fr,yE,HT,0,[],uG,0,zV,0,0,[],Dx,Dy⟩ ⟨true,s.2⟩ =
  some ((Uj sm k fr yE s).2.1,(Uj sm k fr yE s).1,⟨true,(Uj sm k fr yE s).2.2⟩):=by
 have Aw:11≤N:=by omega
 unfold kA
 by_cases hk:1≤k∧k≤15
 ·have jR:k=1∨k=2∨k=3∨k=4∨k=5∨k=6∨k=7∨k=8∨k=9∨k=10∨k=11∨k=12∨k=13∨k=14∨k=15:=by omega
  rcases jR with rfl|rfl|rfl|rfl|rfl|rfl|rfl|rfl|rfl|rfl|rfl|rfl|rfl|rfl|rfl
  ·rw[bd1]
   simp only[Int.reduceBEq,cond_true,cond_false]
   unfold bF
   have h1:=Ji sm h
   have h2:=bY h1
   rw[Bf Aw hB h]
   simp only[Option.bind_some]
   rw[int_eq Aw hB h1]
   rfl
  ·rw[bd2]
   simp only[Int.reduceBEq,cond_true,cond_false]
   unfold bF
   have h1:=Ji sm h
   have h2:=bY h1
   have h3:=S3 sm h2
   rw[Bf Aw hB h]
   simp only[Option.bind_some]
   rw[int_eq Aw hB h1]
   simp only[Option.bind_some]
   rw[NC hN hB h2]
   rfl
  ·rw[bd3]
   simp only[Int.reduceBEq,cond_true,cond_false]
   have h1:=Ji sm h
   have h2:=S3 sm h1
   rw[Bf Aw hB h]
   simp only[Option.bind_some]
   rw[NC hN hB h1]
   rfl
  ·rw[bd4]
   simp only[Int.reduceBEq,cond_true,cond_false]
   unfold bF
   have h1:=Ji sm h
   have h2:=bY h1
   rw[Bf Aw hB h]
   simp only[Option.bind_some]
   rw[int_eq Aw hB h1]
   rfl
  ·rw[bd5]
   simp only[Int.reduceBEq,cond_true,cond_false]
   have h1:=Ji sm h
   rw[Bf Aw hB h]
   rfl
  ·rw[bd6]
   simp only[Int.reduceBEq,cond_true,cond_false]
   have h1:=S3 sm h
   rw[NC hN hB h]
   rfl
  ·rw[bd7]
   simp only[Int.reduceBEq,cond_true,cond_false]
   unfold bF
   have h1:=Ji sm h
   have h2:=bY h1
   rw[Bf Aw hB h]
   simp only[Option.bind_some]
   rw[int_eq Aw hB h1]
   rfl
  ·rw[bd8]
   simp only[Int.reduceBEq,cond_true,cond_false]
   unfold bF
   have h1:=bY h
   rw[int_eq Aw hB h]
   rfl
  ·rw[bd9]
   simp only[Int.reduceBEq,cond_true,cond_false]
   have h1:=qj sm h
   rw[YX hN hB h]
   rfl
  ·rw[bd10]
   simp only[Int.reduceBEq,cond_true,cond_false]
   unfold cH kB
   have h1:=bY h
   have h2:=Gb h1 id z8 8
   have h3:=bY h2
   rw[int_eq Aw hB h]
   simp only[Option.bind_some]
   rw[PC Aw hB h1]
   simp only[Option.bind_some]
   change ((bC N (rdv id z8 _ 8).1.1 ⟨true,(rdv id z8 _ 8).1.2⟩).bind _).bind _=_
   rw[int_eq Aw hB h2]
   rfl
  ·rw[bd11]
   simp only[Int.reduceBEq,cond_true,cond_false]
   unfold cH jC bF
   have h1:=bY h
   have h2:=bY h1
   have h3:=bY h2
   have h4:=ql sm h3
   rw[int_eq Aw hB h]
   simp only[Option.bind_some]
   rw[iN Aw hB h1]
   simp only[Option.bind_some]
   rw[int_eq Aw hB h2]
   simp only[Option.bind_some]
   rw[bx hN hB h3]
   rfl
  ·rw[bd12]
   simp only[Int.reduceBEq,cond_true,cond_false]
   have h1:=aBg sm h
   rw[Y8 Aw hB h]
   rfl
  ·rw[bd13]
   simp only[Int.reduceBEq,cond_true,cond_false]
   have h1:=ku sm h
   rw[SU Aw hB h]
   rfl
  ·rw[bd14]
   simp only[Int.reduceBEq,cond_true,cond_false]
   unfold cH
   have h1:=bY h
   have h2:=Gb h1 id z8 8
   rw[int_eq Aw hB h]
   simp only[Option.bind_some]
   rw[PC Aw hB h1]
   rfl
  ·rw[bd15]
   simp only[Int.reduceBEq,cond_true,cond_false]
   unfold bF
   have h1:=bY h
   have h2:=ku sm h1
   rw[int_eq Aw hB h]
   simp only[Option.bind_some]
   rw[SU Aw hB h1]
   rfl
 ·rw[xu sm hk]
  have hb:∀ j:Int,1≤j∧j≤15→(k==j)=false:=fun j hj=>by
   have:k≠j:=fun e=>hk (by omega)
   simpa using this
  rw[hb 1 (by omega),cond_false,hb 4 (by omega),cond_false,hb 7 (by omega),cond_false,hb 2 (by omega),cond_false,hb 3 (by omega),cond_false,hb 5 (by omega),cond_false,hb 6 (by omega),cond_false,hb 8 (by omega),cond_false,hb 9 (by omega),cond_false,hb 10 (by omega),cond_false,hb 11 (by omega),cond_false,hb 12 (by omega),cond_false,hb 13 (by omega),cond_false,hb 14 (by omega),cond_false,hb 15 (by omega),cond_false]
  rfl
theorem D2 (hN:11≤N)(hB:okB B)(h:Dz B s)(a1:Int)(a2 a3:bV)(a4:aT)(a5:Int)(a6:List aL)(a7:aB)(a8:Int)(v:Vector Int 8)(eT eK:Int)(eL:List dP)(eA:aD)(eB:aK) :
  fD N s.1 ⟨a1,a2,a3,a4,a5,a6,a7,a8,v,eT,eK,eL,eA,eB⟩ ⟨true,s.2⟩ =
  some ((B7 sm (B7 sm s).2).2.1,⟨a1,(B7 sm s).1,(B7 sm (B7 sm s).2).1,a4,a5,a6,a7,a8,v,eT,eK,eL,eA,eB⟩,⟨true,(B7 sm (B7 sm s).2).2.2⟩):=by
 have h1:=bY h
 have h2:=bY h1
 have h3:=bY h2
 unfold fD
 rw[iN hN hB h]
 simp only[Option.bind_some]
 rw[iN hN hB h1]
 simp only[Option.bind_some]
 rw[iN hN hB h2]
 simp only[Option.bind_some]
 rw[iN hN hB h3]
 rfl
theorem P5 (hN:4200≤N)(hB:okB B)(h:Dz B s):kX N s.1 ⟨true,s.2⟩=some ((MV sm s).1,(MV sm s).2.1,⟨true,(MV sm s).2.2⟩):=by
 have Aw:11≤N:=by omega
 have h1:=bY h
 unfold kX sY MV
 rw[iN Aw hB h]
 simp only[Option.bind_some]
 by_cases hc:(jW s).2.1=0∧(sm (jW s).1 < 1∨15 < sm (jW s).1)
 ·have e1:(((jW s).2.1==0)&&(decide (sm (jW s).1 < 1) || decide (15 < sm (jW s).1)))=true:=by simpa using hc
  rw[if_pos hc,e1,cond_true]
  have h2:Dz B ((40:Int),(jW s).2.2):=h1
  have h3:=IJ sm h2
  have h4:=IJ sm h3
  have:=D2 Aw hB h2 (sm (jW s).1) ⟨0,0⟩ ⟨0,0⟩ HT 0 [] uG 0 zV 0 0 [] Dx Dy
  simp only at this
  change ((fD N 40 ⟨sm (jW s).1,⟨0,0⟩,⟨0,0⟩,HT,0,[],uG,0,zV,0,0,[],Dx,Dy⟩ ⟨true,(jW s).2.2⟩).bind _)=_
  rw[this]
  simp only[Option.bind_some]
  rw[D7 hN hB h4]
  rfl
 ·have e1:(((jW s).2.1==0)&&(decide (sm (jW s).1 < 1) || decide (15 < sm (jW s).1)))=false:=by
   rw[Bool.eq_false_iff];intro h;exact hc (by simpa using h)
  rw[if_neg hc,e1,cond_false]
  have h3:=IJ sm h1
  have h4:=IJ sm h3
  have:=D2 Aw hB h1 (sm (jW s).1) ⟨0,0⟩ ⟨0,0⟩ HT 0 [] uG 0 zV 0 0 [] Dx Dy
  change ((fD N (jW s).2.1 ⟨sm (jW s).1,⟨0,0⟩,⟨0,0⟩,HT,0,[],uG,0,zV,0,0,[],Dx,Dy⟩ ⟨true,(jW s).2.2⟩).bind _)=_
  rw[this]
  simp only[Option.bind_some]
  rw[D7 hN hB h4]
  rfl
end
section
variable {N:Nat} {B:List Int} {s:St} {g:Int→Int}
theorem R9 {α:Type}{f:St→α×St}{P:α→Prop}(Hm:∀ {s},Dz B s→Dz B (f s).2)(hf:∀ {s},Dz B s→P (f s).1):∀ (n:Nat) (l:List α) (s:St),Dz B s→(∀ x∈l,P x)→(∀ x∈(qk f n l s).1,P x)∧(qk f n l s).1.length≤l.length+n
 |0,l,s,h,hl=>⟨hl,Nat.le_refl _⟩
 |n+1,l,s,h,hl=>by
  rw[j8]
  by_cases hs:s.1≠0
  ·rw[if_pos hs];exact⟨fun x hx=>absurd hx (by simp),Nat.zero_le _⟩
  ·rw[if_neg hs]
   obtain⟨h1,h2⟩:=R9 Hm hf n (l++[(f s).1]) (f s).2 (Hm h) fun x hx=>by
    rcases List.mem_append.1 hx with hx|hx
    ·exact hl x hx
    ·simp at hx;subst hx;exact hf h
   exact⟨h1,by simp only[List.length_append,List.length_cons,List.length_nil]at h2;omega⟩
theorem cq (h:Dz B s):(SZ g s).1.length≤4096:=by
 have hr:=IK s
 have:=(R9 (B:=B) (f:=rdO g) (P:=fun _=>True) (fun h=>S1 g h) (fun _=>trivial) (S0 s).1.toNat [] (S0 s).2 (SY h) (by simp)).2
 unfold SZ
 simp only[List.length_nil]at this
 omega
theorem R8 (hB:okB B)(h:Dz B s):Bg (rdD s).1:=by
 unfold rdD
 split
 ·have hb:=(BM hB h).2
  by_cases he:(rB s.2).2.1=0
  ·obtain⟨h1,h2⟩:=aGv hb he
   exact fun x hx=>hb x (by rw[h1];simp only at hx;simp[hx])
  ·unfold rB at he ⊢
   intro x hx
   simp only at hx
   split at hx
   ·cases hx
   ·split at hx
    ·cases hx
    ·split at hx
     ·cases hx
     ·exact hb x (List.mem_of_mem_drop (List.mem_of_mem_take hx))
 ·exact fun x hx=>by cases hx
def J1 (e:aB):Prop:=e.fP.length≤4096∧Bg e.Part.Data
theorem J1.of {N:Nat}{e:aB}(h:J1 e)(hN:4200≤N):e.fP.length+20≤N∧e.fP.length≤9223372036854775807∧Bg e.Part.Data:=⟨by have:=h.1;omega,by have:=h.1;omega,h.2⟩
theorem I8 (hB:okB B)(h:Dz B s):J1 (WU g s).1:=by
 have h1:=bY h
 have b0:Bg []:=fun x hx=>by cases hx
 unfold WU
 simp only
 split;· exact⟨by simp[zE],b0⟩
 split;· exact⟨by simp[zE],b0⟩
 split;· exact⟨by simp,b0⟩
 split;· exact⟨cq (bY (bY h1)),b0⟩
 split;· exact⟨by simp,b0⟩
 split;· exact⟨by simp,b0⟩
 split;· exact⟨by simp,R8 hB (bY (bY (bY h1)))⟩
 split;· exact⟨by simp,b0⟩
 split;· exact⟨by simp,b0⟩
 split;· exact⟨by simp,b0⟩
 exact⟨by simp[zE],b0⟩
theorem TA (hB:okB B)(h:Dz B s):(HD g s).1.length≤4096∧∀ x∈(HD g s).1,J1 x.Entry:=by
 have hr:=IK s
 have:=R9 (B:=B) (f:=aBh g) (P:=fun x=>J1 x.Entry) (fun h=>S2 g h) (fun h=>I8 hB (Ji g (bY h))) (S0 s).1.toNat [] (S0 s).2 (SY h) (by simp)
 unfold HD
 refine⟨?_,this.1⟩
 have:=this.2
 simp only[List.length_nil]at this
 omega
theorem m4 {l:List aL}(hN:4200≤N)(h:l.length≤4096∧∀ x∈l,J1 x.Entry):HG N l:=⟨by omega,by omega,fun x hx=>(h.2 x hx).of hN⟩
theorem ux (hN:4200≤N)(hB:okB B)(h:Dz B s)(k:Int)(fr yE:bV):Db N (Uj g k fr yE s).1:=by
 have r1:HG N ([]:List aL):=⟨by simp;omega,by simp,fun x hx=>by cases hx⟩
 have r2:uG.fP.length+20≤N∧uG.fP.length≤9223372036854775807∧Bg uG.Part.Data:=⟨by simp[uG];omega,by simp[uG],fun x hx=>by cases hx⟩
 have r3:([]:List dP).length+20≤N∧([]:List dP).length≤9223372036854775807:=⟨by simp;omega,by simp⟩
 have r4:Bg Dy.Data:=fun x hx=>by cases hx
 have ro:∀ {s:St},Dz B s→(SZ g s).1.length+20≤N∧(SZ g s).1.length≤9223372036854775807:=fun h=>by have:=cq (g:=g) h;exact⟨by omega,by omega⟩
 by_cases hk:1≤k∧k≤15
 ·have jR:k=1∨k=2∨k=3∨k=4∨k=5∨k=6∨k=7∨k=8∨k=9∨k=10∨k=11∨k=12∨k=13∨k=14∨k=15:=by omega
  rcases jR with rfl|rfl|rfl|rfl|rfl|rfl|rfl|rfl|rfl|rfl|rfl|rfl|rfl|rfl|rfl
  ·rw[bd1];exact⟨r1,r2,r3,r4⟩
  ·rw[bd2];exact⟨m4 hN (TA hB ((bY (Ji g h)))),r2,r3,r4⟩
  ·rw[bd3];exact⟨m4 hN (TA hB ((Ji g h))),r2,r3,r4⟩
  ·rw[bd4];exact⟨r1,r2,r3,r4⟩
  ·rw[bd5];exact⟨r1,r2,r3,r4⟩
  ·rw[bd6];exact⟨m4 hN (TA hB (h)),r2,r3,r4⟩
  ·rw[bd7];exact⟨r1,r2,r3,r4⟩
  ·rw[bd8];exact⟨r1,r2,r3,r4⟩
  ·rw[bd9];exact⟨r1,(I8 hB (h)).of hN,r3,r4⟩
  ·rw[bd10];exact⟨r1,r2,r3,r4⟩
  ·rw[bd11];exact⟨r1,r2,ro ((bY (bY (bY h)))),r4⟩
  ·rw[bd12];exact⟨r1,r2,r3,r4⟩
  ·rw[bd13];exact⟨r1,r2,r3,R8 hB (bY (bY (bY (h))))⟩
  ·rw[bd14];exact⟨r1,r2,r3,r4⟩
  ·rw[bd15];exact⟨r1,r2,r3,R8 hB (bY (bY (bY ((bY h)))))⟩
 ·rw[xu g hk];exact⟨r1,r2,r3,r4⟩
theorem uy (hN:4200≤N)(hB:okB B)(h:Dz B s):Db N (MV g s).1:=by
 unfold MV
 refine ux hN hB (IJ g (IJ g ?_)) _ _ _
 split
 ·exact bY h
 ·exact bY h
theorem ob {n:Int}(h:Jv n):-1≤n∧n≤2147483647:=by have:=h.1;have:=h.2;constructor<;>omega
end
section
variable {N:Nat} {b:List Int}
theorem bp (b:List Int):Dz b (0,b):=List.suffix_refl b
theorem P9 (hl:b.length≤70368744177664):Eu N b=some ⟨true,b⟩:=by
 unfold Eu
 rw[K1 hl];rfl
theorem aBl (e x:Int)(r:aA):dM N e x r=some (if x=0 then e else x,r):=by
 unfold dM
 by_cases h:x=0
 ·rw[if_pos h,show (x==0)=true by simpa using h];rfl
 ·rw[if_neg h,show (x==0)=false by simpa using h];rfl
theorem aHy (hB:okB b):okB (u0 b).1:=by
 have h0:okB ([]:List Int):=⟨by simp,by simp⟩
 unfold u0
 split;· exact h0
 split;· exact h0
 split;· exact h0
 split;· exact h0
 split
 ·refine⟨?_,fun x hx=>hB.2 x (List.mem_of_mem_drop (List.mem_of_mem_take hx))⟩
  have:=hB.1
  simp only[List.length_take,List.length_drop];omega
 ·exact h0
def XA:aN:=⟨0,⟨0,0⟩,⟨0,0⟩,HT,0,[],uG,0,zV,0,0,[],Dx,Dy⟩
def umM (b:List Int):aN×Int :=
 if (u0 b).2.2≠0 then (XA,(u0 b).2.2) else
 if (u0 b).2.1 < (b.length:Int) then (XA,13) else
 let p:=MV sm (0,(u0 b).1)
 let e:=if p.2.1=0 then (if 0 < (p.2.2.length:Int) then 13 else 0) else p.2.1
 if e=0 then (bif FZ p.1 then (p.1,0) else (XA,40)) else (XA,e)
theorem U3 (hN:4200≤N)(hN2:b.length+20≤N)(hB:okB b):Ag N b=some (umM b):=by
 have hu:=aHy hB
 have hr:=uy (g:=sm) hN hu (bp (u0 b).1)
 unfold Ag umM
 rw[aEZ hN2 hB.1 hB.2,Option.bind_some]
 by_cases h1:(u0 b).2.2≠0
 ·rw[if_pos h1,show ((u0 b).2.2==0)=false by simpa using h1];rfl
 rw[if_neg h1,show ((u0 b).2.2==0)=true by simpa using h1]
 simp only[Bool.not_true,cond_false]
 by_cases h2:(u0 b).2.1 < (b.length:Int)
 ·rw[if_pos h2,decide_eq_true h2];rfl
 rw[if_neg h2,decide_eq_false h2,cond_false,P9 hu.1,Option.bind_some]
 have:=P5 hN hu (bp (u0 b).1)
 simp only at this
 rw[this,Option.bind_some,aFF,Option.bind_some,aBl,Option.bind_some]
 generalize (if (MV sm (0,(u0 b).1)).2.1=0 then (if 0 < ((MV sm (0,(u0 b).1)).2.2.length:Int) then (13:Int) else 0) else (MV sm (0,(u0 b).1)).2.1)=e
 by_cases he:e=0
 ·rw[if_pos he,show (e==0)=true by simpa using he,cond_true,TY (by omega) hr,Option.bind_some]
  cases FZ (MV sm (0,(u0 b).1)).1<;>rfl
 ·rw[if_neg he,show (e==0)=false by simpa using he]
  rfl
theorem tg {c:List Int}(hl:c.length≤1048576):(qN c).length≤1048590:=by
 have:=jI (Lc (Ke (n:=c.length) hl))
 unfold qN;simp only[List.length_append,ZI];omega
end
section
variable {N:Nat} {g:List Int}
end
section
variable {N:Nat}
theorem vg (hN:60≤N):rR N XA XA=some true:=by
 obtain⟨k,rfl⟩:∃ k,N=k+60:=⟨N - 60,by omega⟩
 kernel_rfl
end
end Go.Proofs.YtddpmkmgbdedlaaGreat
