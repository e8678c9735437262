/-
Plain laws of another seat,turned to this one by wip/tools/ren2.py.
-/
import Derived.Test.YtddpmkmgbdedlaaGreatqFd
import Derived.Test.YtddpmkmgbdedlaaGreatqWu
import Derived.KernelRfl
import Derived.Laws.BitsAllLaws
set_option linter.unusedVariables false
set_option linter.unusedSimpArgs false
namespace Go.Proofs.YtddpmkmgbdedlaaGreat
open Go Go.Ev
abbrev St:=Int×List Int
def rdD (s:St):List Int×St:=if s.1=0 then ((rB s.2).1,((rB s.2).2.1,(rB s.2).2.2)) else ([],s)
def rdP (g:Int→Int) (s:St):aE×St :=
 let a:=rd1 s
 let b:=rd1 a.2
 let c:=rd1 b.2
 let d:=rdD c.2
 (⟨a.1,g b.1,g c.1,d.1⟩,d.2)
def rdN (s:St):Int×St :=
 let a:=rd1 s
 if a.2.1=0∧(a.1 < 0∨4096 < a.1) then (0,(40,a.2.2)) else if a.2.1≠0 then (0,a.2) else (a.1,a.2)
def rdL {α:Type} (f:St→α×St):Nat→List α→St→List α×St
 | 0,l,s=>(l,s)
 | n+1,l,s=>if s.1≠0 then ([],s) else rdL f n (l++[(f s).1]) (f s).2
theorem aPK {α:Type} (f:St→α×St) (l:List α) (s:St):rdL f 0 l s=(l,s):=rfl
theorem aKY {α:Type} (f:St→α×St) (n:Nat) (l:List α) (s:St):rdL f (n+1) l s=if s.1≠0 then ([],s) else rdL f n (l++[(f s).1]) (f s).2:=rfl
def kA (g:Int→Int) (s:St):List GOp×St:=rdL (rdO g) (rdN s).1.toNat [] (rdN s).2
def dF (g:Int→Int) (s:St):aP×St :=
 let a:=rd1 s
 let b:=rd1 a.2
 (⟨a.1,g b.1⟩,b.2)
def zE (k:Int):aC:=⟨k,0,0,zOp,0,0,[],zEp,0,zV,0,zPt,0,0,0⟩
def lB (g:Int→Int) (s:St):aC×St :=
 let a:=rd1 s
 let k:=g a.1
 let t:=a.2
 if t.1≠0 then (zE k,t) else
 if k=0 then (zE k,t) else
 if k=1 then
  let b:=rd1 t
  let c:=rd1 b.2
  let d:=rdO g c.2
  (⟨k,b.1,c.1,d.1,0,0,[],zEp,0,zV,0,zPt,0,0,0⟩,d.2) else
 if k=2 then
  let b:=rd1 t
  let c:=rd1 b.2
  let d:=kA g c.2
  (⟨k,0,0,zOp,g b.1,c.1,d.1,zEp,0,zV,0,zPt,0,0,0⟩,d.2) else
 if k=3 then
  let b:=rdE g t
  (⟨k,0,0,zOp,0,0,[],b.1,0,zV,0,zPt,0,0,0⟩,b.2) else
 if k=4 then
  let b:=rd1 t
  let c:=rd1 b.2
  let d:=rdv id z8 c.2 8
  let e:=rd1 d.1
  (⟨k,0,0,zOp,0,b.1,[],zEp,g c.1,d.2,e.1,zPt,0,0,0⟩,e.2) else
 if k=5 then
  let b:=rdP g t
  (⟨k,0,0,zOp,0,0,[],zEp,0,zV,0,b.1,0,0,0⟩,b.2) else
 if k=6 then
  let b:=rd1 t
  let c:=rd1 b.2
  (⟨k,0,0,zOp,0,0,[],zEp,0,zV,0,zPt,g b.1,g c.1,0⟩,c.2) else
 if k=7 then
  let b:=rd1 t
  (⟨k,0,0,zOp,0,0,[],zEp,0,zV,0,zPt,g b.1,0,0⟩,b.2) else
 if k=8 then
  let b:=rd1 t
  let c:=rd1 b.2
  (⟨k,0,0,zOp,0,0,[],zEp,0,zV,0,zPt,g b.1,0,c.1⟩,c.2) else
 (zE k,(40,t.2))
section
variable {N:Nat} {B:List Int} {s:St}
theorem rdD_ok (h:okR B s):okR B (rdD s).2:=by
 unfold rdD
 split
 ·exact (aOM s.2).trans h
 ·exact h
theorem aKZ (g:Int→Int) (h:okR B s):okR B (rdP g s).2:=rdD_ok (aT (aT (aT h)))
theorem aDO (g:Int→Int) (h:okR B s):okR B (rdO g s).2:=aAL (aAL (aAL (aT (aT (aT (aT (aT h)))))))
theorem xF (h:okR B s):okR B (rdN s).2:=by
 have h1:=aT h
 unfold rdN
 simp only
 split
 ·exact h1
 ·split<;>exact h1
theorem aK0 {α:Type} {f:St→α×St} (hf:∀ {s},okR B s→okR B (f s).2):∀ (n:Nat) (l:List α) {s:St},okR B s→okR B (rdL f n l s).2
 | 0,l,s,h=>h
 | n + 1, l, s, h => by
  unfold rdL
  split
  ·exact h
  ·exact aK0 hf n _ (hf h)
theorem aPL (g:Int→Int) (h:okR B s):okR B (kA g s).2:=aK0 (fun h=>aDO g h) _ _ (xF h)
theorem aPM (g:Int→Int) (h:okR B s):okR B (rdE g s).2:=iN (iN (iN (aT h) g z8 8) id z8 8) g z8 8
theorem mB (g:Int→Int) (h:okR B s):okR B (dF g s).2:=aT (aT h)
theorem aPN (g:Int→Int) (h:okR B s):okR B (lB g s).2:=by
 have h1:=aT h
 unfold lB
 simp only
 split; · exact h1
 split; · exact h1
 split; · exact aDO g (aT (aT h1))
 split; · exact aPL g (aT (aT h1))
 split; · exact aPM g h1
 split; · exact aT (iN (aT (aT h1)) id z8 8)
 split; · exact aKZ g h1
 split; · exact aT (aT h1)
 split; · exact aT h1
 split; · exact aT (aT h1)
 exact h1
theorem aYJ (hN:11≤N) (hB:okB B) (h:okR B s):aCf N s.1 ⟨true,s.2⟩=some ((rdD s).1,(rdD s).2.1,⟨true,(rdD s).2.2⟩):=by
 unfold aCf rdD
 by_cases he:s.1=0
 ·have:(s.1==0)=true:=by simpa using he
  rw [this,if_pos he,aOL hN (tK hB h).1 (tK hB h).2]
  simp only [Bool.not_true,cond_false,Option.bind_some]
  unfold mL
  rw [this]; rfl
 ·have:(s.1==0)=false:=by simpa using he
  rw [this,if_neg he]; rfl
theorem aK1 (hN:11≤N) (hB:okB B) (h:okR B s):mM N s.1 ⟨true,s.2⟩=some ((rdP sm s).1,(rdP sm s).2.1,⟨true,(rdP sm s).2.2⟩):=by
 unfold mM aHI aHK rdP
 have h1:=aT h
 have h2:=aT h1
 have h3:=aT h2
 rw [dG hN hB h]
 simp only [Option.bind_some]
 rw [fA hN hB h1]
 simp only [Option.bind_some]
 rw [fA hN hB h2]
 simp only [Option.bind_some]
 rw [aYJ hN hB h3]
 rfl
theorem tO (hN:11≤N) (hB:okB B) (h:okR B s):gR N s.1 ⟨true,s.2⟩=some ((dF sm s).1,(dF sm s).2.1,⟨true,(dF sm s).2.2⟩):=by
 unfold gR aG3 aG5 dF
 have h1:=aT h
 rw [dG hN hB h]
 simp only [Option.bind_some]
 rw [fA hN hB h1]
 rfl
theorem aPO (hN:11≤N) (hB:okB B) (h:okR B s):zA N s.1 ⟨true,s.2⟩=some ((rdN s).1,(rdN s).2.1,⟨true,(rdN s).2.2⟩):=by
 unfold zA rdN
 rw [dG hN hB h]
 simp only [Option.bind_some]
 by_cases he:(rd1 s).2.1=0
 ·have e1:((rd1 s).2.1==0)=true:=by simpa using he
  by_cases hx:(rd1 s).1 < 0∨4096 < (rd1 s).1
  ·have e2:(decide ((rd1 s).1 < 0) || decide (4096 < (rd1 s).1))=true:=by simpa using hx
   rw [if_pos ⟨he,hx⟩,e1,e2]; rfl
  ·have e2:(decide ((rd1 s).1 < 0) || decide (4096 < (rd1 s).1))=false:=by
    rw [Bool.eq_false_iff]; intro h; exact hx (by simpa using h)
   rw [if_neg (fun h=>hx h.2),if_neg (fun h=>h he),e1,e2]; rfl
 ·have e1:((rd1 s).2.1==0)=false:=by simpa using he
  rw [if_neg (fun h=>he h.1),if_pos he,e1]; rfl
theorem aDP (s:St):0≤(rdN s).1∧(rdN s).1≤4096:=by
 unfold rdN
 simp only
 split
 ·simp
 ·rename_i h
  split
  ·simp
  ·rename_i h2
   have h2:(rd1 s).2.1=0:=by simpa using h2
   have:¬ ((rd1 s).1 < 0∨4096 < (rd1 s).1):=fun h'=>h ⟨h2,h'⟩
   simp only; omega
theorem aPP (hN:4200≤N) (hB:okB B) (h:okR B s):rX N s.1 ⟨true,s.2⟩=some ((kA sm s).1,(kA sm s).2.1,⟨true,(kA sm s).2.2⟩):=by
 unfold rX kA
 rw [aPO (by omega) hB h]
 simp only [Option.bind_some]
 have hr:=aDP s
 have h1:=xF h
 generalize rdN s=p at *
 obtain ⟨n,t⟩:=p
 simp only at hr h1 ⊢
 refine cH (fun q:vH=>0≤q.t6∧q.t6≤n∧(q.l.length:Int)=q.t6∧q.b1.made=true∧okR B (q.b0,q.b1.b)∧rdL (rdO sm) (n - q.t6).toNat q.l (q.b0,q.b1.b)=rdL (rdO sm) n.toNat [] t) (fun q=>(n - q.t6).toNat) ?_ N _ ⟨by simp,hr.1,by simp,rfl,h1,by simp⟩ (by simp only; omega)
 rintro ⟨l,i,e,⟨m,c⟩⟩ nx ⟨g0,g1,g2,g3,g4,hq⟩ ih
 simp only at g0 g1 g2 g3 g4 hq ih ⊢
 subst g3
 by_cases hi:i < n
 ·obtain ⟨j,hj⟩:∃ j,(n - i).toNat=j+1:=⟨(n - i).toNat - 1,by omega⟩
  rw [hj,aKY] at hq
  by_cases he:e=0
  ·subst he
   simp only [ne_eq,not_true_eq_false,if_false] at hq
   rw [decide_eq_true hi]
   simp only [cond_true,beq_self_eq_true,Bool.not_true,cond_false]
   rw [aPu (s:=((0:Int),c)) (by omega) hB g4,Option.bind_some,bY (by simp only [List.length_cons,List.length_nil]; omega),bH (by omega) (by omega),cond_true]
   refine ih ⟨_,i+1,_,⟨true,_⟩⟩ ⟨by simp; omega,by simp; omega,by simp; omega,rfl,aDO sm g4,?_⟩ (by simp; omega)
   simp only
   rw [show (n - (i+1)).toNat=j by omega]; exact hq
  ·simp only [ne_eq,he,not_false_eq_true,if_true] at hq
   have eb:(e==0)=false:=by simpa using he
   rw [decide_eq_true hi,eb]
   simp only [cond_true,Bool.not_false]
   rw [← hq]
 ·rw [decide_eq_false hi]
  rw [show (n - i).toNat=0 by omega,aPK] at hq
  simp only [cond_false]
  rw [← hq]
theorem aYK (hN:11≤N) (hB:okB B) (h:okR B s) (a1 a2 a3:Int) (a4:GOp) (a5 a6:Int) (a7:List GOp) (a8:aD) (a9:Int) (v:Vector Int 8) (a11:Int) (a12:aE) (a13 a14 a15:Int) :
  aCe N s.1 ⟨a1,a2,a3,a4,a5,a6,a7,a8,a9,v,a11,a12,a13,a14,a15⟩ ⟨true,s.2⟩ =
  some ((rdv id v s 8).1.1,⟨a1,a2,a3,a4,a5,a6,a7,a8,a9,(rdv id v s 8).2,a11,a12,a13,a14,a15⟩,⟨true,(rdv id v s 8).1.2⟩):=by
 unfold aCe
 rw [show (⟨0,s.1,⟨a1,a2,a3,a4,a5,a6,a7,a8,a9,v,a11,a12,a13,a14,a15⟩,⟨true,s.2⟩⟩:pO)=(fun k:Nat=>(⟨(k:Int),(rdv id v s k).1.1,⟨a1,a2,a3,a4,a5,a6,a7,a8,a9,(rdv id v s k).2,a11,a12,a13,a14,a15⟩,⟨true,(rdv id v s k).1.2⟩⟩:pO)) 0 from rfl]
 rw [qM (fun k:Nat=>(⟨(k:Int),(rdv id v s k).1.1,⟨a1,a2,a3,a4,a5,a6,a7,a8,a9,(rdv id v s k).2,a11,a12,a13,a14,a15⟩,⟨true,(rdv id v s k).1.2⟩⟩:pO)) 8 (fun _=>none) (some ((rdv id v s 8).1.1,⟨a1,a2,a3,a4,a5,a6,a7,a8,a9,(rdv id v s 8).2,a11,a12,a13,a14,a15⟩,⟨true,(rdv id v s 8).1.2⟩)) ?_ ?_ N (by omega)]
 ·exact qO _
 ·intro k next hk
  simp only [qP hk,bV (show (0:Int)≤k by omega) (show (k:Int) < 8 by omega),cond_true]
  rw [dG hN hB (iN h id v k),Option.bind_some,bH (by omega) (by omega),Int.toNat_natCast]
  rfl
 ·intro next; rfl
theorem aPQ (hN:4200≤N) (hB:okB B) (h:okR B s):rZ N s.1 ⟨true,s.2⟩=some ((lB sm s).1,(lB sm s).2.1,⟨true,(lB sm s).2.2⟩):=by
 have hN':11≤N:=by omega
 have h1:=aT h
 unfold rZ aHa
 rw [fA hN' hB h]
 simp only [Option.bind_some]
 unfold lB
 generalize rd1 s=p at *
 obtain ⟨a,t⟩:=p
 simp only at h1 ⊢
 generalize sm a=k
 by_cases he:t.1≠0
 ·rw [if_pos he,show (t.1==0)=false by simpa using he]; rfl
 rw [if_neg he,show (t.1==0)=true by simpa using he]
 simp only [Bool.not_true,cond_false]
 by_cases k0:k=0
 ·subst k0; rfl
 rw [if_neg k0,show (k==0)=false by simpa using k0,cond_false]
 by_cases k1:k=1
 ·subst k1
  simp only [beq_self_eq_true,cond_true,if_true]
  unfold aHc
  have h2:=aT h1
  have h3:=aT h2
  rw [dG hN' hB h1]
  simp only [Option.bind_some]
  rw [dG hN' hB h2]
  simp only [Option.bind_some]
  rw [aPu hN' hB h3]
  rfl
 rw [if_neg k1,show (k==1)=false by simpa using k1,cond_false]
 by_cases k2:k=2
 ·subst k2
  simp only [beq_self_eq_true,cond_true,if_true]
  unfold aHn zD
  have h2:=aT h1
  have h3:=aT h2
  rw [fA hN' hB h1]
  simp only [Option.bind_some]
  rw [dG hN' hB h2]
  simp only [Option.bind_some]
  rw [aPP hN hB h3]
  rfl
 rw [if_neg k2,show (k==2)=false by simpa using k2,cond_false]
 by_cases k3:k=3
 ·subst k3
  simp only [beq_self_eq_true,cond_true,if_true]
  rw [aOv hN' hB h1]
  rfl
 rw [if_neg k3,show (k==3)=false by simpa using k3,cond_false]
 by_cases k4:k=4
 ·subst k4
  simp only [beq_self_eq_true,cond_true,if_true]
  unfold aHB zD aHG
  have h2:=aT h1
  have h3:=aT h2
  have h4:=iN h3 id z8 8
  rw [dG hN' hB h1]
  simp only [Option.bind_some]
  rw [fA hN' hB h2]
  simp only [Option.bind_some]
  rw [aYK hN' hB h3]
  simp only [Option.bind_some]
  change ((dV N (rdv id z8 _ 8).1.1 ⟨true,(rdv id z8 _ 8).1.2⟩).bind _).bind _=_
  rw [dG hN' hB h4]
  rfl
 rw [if_neg k4,show (k==4)=false by simpa using k4,cond_false]
 by_cases k5:k=5
 ·subst k5
  simp only [beq_self_eq_true,cond_true,if_true]
  rw [aK1 hN' hB h1]
  rfl
 rw [if_neg k5,show (k==5)=false by simpa using k5,cond_false]
 by_cases k6:k=6
 ·subst k6
  simp only [beq_self_eq_true,cond_true,if_true]
  unfold aHN
  have h2:=aT h1
  rw [fA hN' hB h1]
  simp only [Option.bind_some]
  rw [fA hN' hB h2]
  rfl
 rw [if_neg k6,show (k==6)=false by simpa using k6,cond_false]
 by_cases k7:k=7
 ·subst k7
  simp only [beq_self_eq_true,cond_true,if_true]
  unfold zF
  rw [fA hN' hB h1]
  rfl
 rw [if_neg k7,show (k==7)=false by simpa using k7,cond_false]
 by_cases k8:k=8
 ·subst k8
  simp only [beq_self_eq_true,cond_true,if_true]
  unfold zF aHQ
  have h2:=aT h1
  rw [fA hN' hB h1]
  simp only [Option.bind_some]
  rw [dG hN' hB h2]
  rfl
 rw [if_neg k8,show (k==8)=false by simpa using k8,cond_false]
 rfl
end
structure SmOk (g:Int→Int):Prop where
 inb:∀ n,-1≤g n→g n=n
 of:∀ n,-1≤n∧n≤2147483647→g n=n
theorem SmOk.h7 {g:Int→Int} (h:SmOk g):∀ n,-1≤g n∧g n≤7→g n=n:=fun n hn=>h.inb n hn.1
section
variable {N:Nat} {B:List Int} {s:St} {g:Int→Int}
section
variable (a2 a3:Int) (a4:GOp) (a5 a6:Int) (a7:List GOp) (a8:aD) (a9:Int) (a10:Vector Int 8) (a11:Int) (a12:aE) (a13 a14 a15:Int)
end
end
def rdSl (g:Int→Int) (s:St):aQ×St :=
 let a:=rd1 s
 let b:=dF g a.2
 let c:=lB g b.2
 (⟨a.1,b.1,c.1⟩,c.2)
def gI (g:Int→Int) (s:St):List aQ×St:=rdL (rdSl g) (rdN s).1.toNat [] (rdN s).2
def nH (g:Int→Int) (s:St):aS×St :=
 let a:=rd1 s
 let b:=rd1 a.2
 (⟨g a.1,g b.1⟩,b.2)
def zM (k:Int) (fr to_:aS):aB:=⟨k,fr,to_,zBa,0,[],zEn,0,zV,0,0,[],zEp,zPt⟩
def eN (g:Int→Int) (k:Int) (fr to_:aS) (t:St):aB×St :=
 if k=1 then
  let x0:=dF g t
  let x1:=rd1 x0.2
  (⟨1,fr,to_,x0.1,x1.1,[],zEn,0,zV,0,0,[],zEp,zPt⟩,x1.2) else
 if k=2 then
  let x0:=dF g t
  let x1:=rd1 x0.2
  let x2:=gI g x1.2
  (⟨2,fr,to_,x0.1,x1.1,x2.1,zEn,0,zV,0,0,[],zEp,zPt⟩,x2.2) else
 if k=3 then
  let x0:=dF g t
  let x1:=gI g x0.2
  (⟨3,fr,to_,x0.1,0,x1.1,zEn,0,zV,0,0,[],zEp,zPt⟩,x1.2) else
 if k=4 then
  let x0:=dF g t
  let x1:=rd1 x0.2
  (⟨4,fr,to_,x0.1,x1.1,[],zEn,0,zV,0,0,[],zEp,zPt⟩,x1.2) else
 if k=5 then
  let x0:=dF g t
  (⟨5,fr,to_,x0.1,0,[],zEn,0,zV,0,0,[],zEp,zPt⟩,x0.2) else
 if k=6 then
  let x0:=gI g t
  (⟨6,fr,to_,zBa,0,x0.1,zEn,0,zV,0,0,[],zEp,zPt⟩,x0.2) else
 if k=7 then
  let x0:=dF g t
  let x1:=rd1 x0.2
  (⟨7,fr,to_,x0.1,x1.1,[],zEn,0,zV,0,0,[],zEp,zPt⟩,x1.2) else
 if k=8 then
  let x0:=rd1 t
  (⟨8,fr,to_,zBa,x0.1,[],zEn,0,zV,0,0,[],zEp,zPt⟩,x0.2) else
 if k=9 then
  let x0:=lB g t
  (⟨9,fr,to_,zBa,0,[],x0.1,0,zV,0,0,[],zEp,zPt⟩,x0.2) else
 if k=10 then
  let x0:=rd1 t
  let x1:=rdv id z8 x0.2 8
  let x2:=rd1 x1.1
  (⟨10,fr,to_,zBa,0,[],zEn,x0.1,x1.2,x2.1,0,[],zEp,zPt⟩,x2.2) else
 if k=11 then
  let x0:=rd1 t
  let x1:=rd1 x0.2
  let x2:=rd1 x1.2
  let x3:=kA g x2.2
  (⟨11,fr,to_,zBa,x2.1,[],zEn,x0.1,zV,0,g x1.1,x3.1,zEp,zPt⟩,x3.2) else
 if k=12 then
  let x0:=rdE g t
  (⟨12,fr,to_,zBa,0,[],zEn,0,zV,0,0,[],x0.1,zPt⟩,x0.2) else
 if k=13 then
  let x0:=rdP g t
  (⟨13,fr,to_,zBa,0,[],zEn,0,zV,0,0,[],zEp,x0.1⟩,x0.2) else
 if k=14 then
  let x0:=rd1 t
  let x1:=rdv id z8 x0.2 8
  (⟨14,fr,to_,zBa,0,[],zEn,x0.1,x1.2,0,0,[],zEp,zPt⟩,x1.1) else
 if k=15 then
  let x0:=rd1 t
  let x1:=rdP g x0.2
  (⟨15,fr,to_,zBa,x0.1,[],zEn,0,zV,0,0,[],zEp,x1.1⟩,x1.2) else
 (zM k fr to_,t)
def mC (g:Int→Int) (s:St):aB×St :=
 let a:=rd1 s
 let t:=if a.2.1=0∧(g a.1 < 1∨15 < g a.1) then (40,a.2.2) else a.2
 let b:=nH g t
 let c:=nH g b.2
 eN g (g a.1) b.1 c.1 c.2
section
variable {N:Nat} {B:List Int} {s:St}
theorem aK2 (g:Int→Int) (h:okR B s):okR B (rdSl g s).2:=aPN g (mB g (aT h))
theorem aK3 (g:Int→Int) (h:okR B s):okR B (gI g s).2:=aK0 (fun h=>aK2 g h) _ _ (xF h)
theorem xG (g:Int→Int) (h:okR B s):okR B (nH g s).2:=aT (aT h)
theorem bd1 (g:Int→Int) (fr to_:aS) (s:St):eN g 1 fr to_ s=(⟨1,fr,to_,(dF g s).1,(rd1 (dF g s).2).1,[],zEn,0,zV,0,0,[],zEp,zPt⟩,(rd1 (dF g s).2).2):=rfl
theorem bd2 (g:Int→Int) (fr to_:aS) (s:St):eN g 2 fr to_ s=(⟨2,fr,to_,(dF g s).1,(rd1 (dF g s).2).1,(gI g (rd1 (dF g s).2).2).1,zEn,0,zV,0,0,[],zEp,zPt⟩,(gI g (rd1 (dF g s).2).2).2):=rfl
theorem bd3 (g:Int→Int) (fr to_:aS) (s:St):eN g 3 fr to_ s=(⟨3,fr,to_,(dF g s).1,0,(gI g (dF g s).2).1,zEn,0,zV,0,0,[],zEp,zPt⟩,(gI g (dF g s).2).2):=rfl
theorem bd4 (g:Int→Int) (fr to_:aS) (s:St):eN g 4 fr to_ s=(⟨4,fr,to_,(dF g s).1,(rd1 (dF g s).2).1,[],zEn,0,zV,0,0,[],zEp,zPt⟩,(rd1 (dF g s).2).2):=rfl
theorem bd5 (g:Int→Int) (fr to_:aS) (s:St):eN g 5 fr to_ s=(⟨5,fr,to_,(dF g s).1,0,[],zEn,0,zV,0,0,[],zEp,zPt⟩,(dF g s).2):=rfl
theorem bd6 (g:Int→Int) (fr to_:aS) (s:St):eN g 6 fr to_ s=(⟨6,fr,to_,zBa,0,(gI g s).1,zEn,0,zV,0,0,[],zEp,zPt⟩,(gI g s).2):=rfl
theorem bd7 (g:Int→Int) (fr to_:aS) (s:St):eN g 7 fr to_ s=(⟨7,fr,to_,(dF g s).1,(rd1 (dF g s).2).1,[],zEn,0,zV,0,0,[],zEp,zPt⟩,(rd1 (dF g s).2).2):=rfl
theorem bd8 (g:Int→Int) (fr to_:aS) (s:St):eN g 8 fr to_ s=(⟨8,fr,to_,zBa,(rd1 s).1,[],zEn,0,zV,0,0,[],zEp,zPt⟩,(rd1 s).2):=rfl
theorem bd9 (g:Int→Int) (fr to_:aS) (s:St):eN g 9 fr to_ s=(⟨9,fr,to_,zBa,0,[],(lB g s).1,0,zV,0,0,[],zEp,zPt⟩,(lB g s).2):=rfl
theorem bd10 (g:Int→Int) (fr to_:aS) (s:St):eN g 10 fr to_ s=(⟨10,fr,to_,zBa,0,[],zEn,(rd1 s).1,(rdv id z8 (rd1 s).2 8).2,(rd1 (rdv id z8 (rd1 s).2 8).1).1,0,[],zEp,zPt⟩,(rd1 (rdv id z8 (rd1 s).2 8).1).2):=rfl
theorem bd11 (g:Int→Int) (fr to_:aS) (s:St):eN g 11 fr to_ s=(⟨11,fr,to_,zBa,(rd1 (rd1 (rd1 s).2).2).1,[],zEn,(rd1 s).1,zV,0,g (rd1 (rd1 s).2).1,(kA g (rd1 (rd1 (rd1 s).2).2).2).1,zEp,zPt⟩,(kA g (rd1 (rd1 (rd1 s).2).2).2).2):=rfl
theorem bd12 (g:Int→Int) (fr to_:aS) (s:St):eN g 12 fr to_ s=(⟨12,fr,to_,zBa,0,[],zEn,0,zV,0,0,[],(rdE g s).1,zPt⟩,(rdE g s).2):=rfl
theorem bd13 (g:Int→Int) (fr to_:aS) (s:St):eN g 13 fr to_ s=(⟨13,fr,to_,zBa,0,[],zEn,0,zV,0,0,[],zEp,(rdP g s).1⟩,(rdP g s).2):=rfl
theorem bd14 (g:Int→Int) (fr to_:aS) (s:St):eN g 14 fr to_ s=(⟨14,fr,to_,zBa,0,[],zEn,(rd1 s).1,(rdv id z8 (rd1 s).2 8).2,0,0,[],zEp,zPt⟩,(rdv id z8 (rd1 s).2 8).1):=rfl
theorem bd15 (g:Int→Int) (fr to_:aS) (s:St):eN g 15 fr to_ s=(⟨15,fr,to_,zBa,(rd1 s).1,[],zEn,0,zV,0,0,[],zEp,(rdP g (rd1 s).2).1⟩,(rdP g (rd1 s).2).2):=rfl
theorem aPR (g:Int→Int) {k:Int} (hk:¬ (1≤k∧k≤15)) (fr to_:aS) (s:St):eN g k fr to_ s=(zM k fr to_,s):=by
 unfold eN
 rw [if_neg (by omega),if_neg (by omega),if_neg (by omega),if_neg (by omega),if_neg (by omega),if_neg (by omega),if_neg (by omega),if_neg (by omega),if_neg (by omega),if_neg (by omega),if_neg (by omega),if_neg (by omega),if_neg (by omega),if_neg (by omega),if_neg (by omega)]
theorem aK4 (hN:4200≤N) (hB:okB B) (h:okR B s):kL N s.1 ⟨true,s.2⟩=some ((gI sm s).1,(gI sm s).2.1,⟨true,(gI sm s).2.2⟩):=by
 unfold kL gI
 rw [aPO (by omega) hB h]
 simp only [Option.bind_some]
 have hr:=aDP s
 have h1:=xF h
 generalize rdN s=p at *
 obtain ⟨n,t⟩:=p
 simp only at hr h1 ⊢
 refine cH (fun q:vI=>0≤q.t7∧q.t7≤n∧(q.l.length:Int)=q.t7∧q.b1.made=true∧okR B (q.b0,q.b1.b)∧rdL (rdSl sm) (n - q.t7).toNat q.l (q.b0,q.b1.b)=rdL (rdSl sm) n.toNat [] t) (fun q=>(n - q.t7).toNat) ?_ N _ ⟨by simp,hr.1,by simp,rfl,h1,by simp⟩ (by simp only; omega)
 rintro ⟨l,i,e,⟨m,c⟩⟩ nx ⟨g0,g1,g2,g3,g4,hq⟩ ih
 simp only at g0 g1 g2 g3 g4 hq ih ⊢
 subst g3
 by_cases hi:i < n
 ·obtain ⟨j,hj⟩:∃ j,(n - i).toNat=j+1:=⟨(n - i).toNat - 1,by omega⟩
  rw [hj,aKY] at hq
  by_cases he:e=0
  ·subst he
   simp only [ne_eq,not_true_eq_false,if_false] at hq
   rw [decide_eq_true hi]
   simp only [cond_true,beq_self_eq_true,Bool.not_true,cond_false]
   unfold aG8
   have h2:=aT g4
   have h3:=mB sm h2
   rw [dG (s:=((0:Int),c)) (by omega) hB g4]
   simp only [Option.bind_some]
   rw [tO (by omega) hB h2]
   simp only [Option.bind_some]
   rw [aPQ hN hB h3]
   simp only [Option.bind_some]
   rw [bY (by simp only [List.length_cons,List.length_nil]; omega),bH (by omega) (by omega),cond_true]
   refine ih ⟨_,i+1,_,⟨true,_⟩⟩ ⟨by simp; omega,by simp; omega,by simp; omega,rfl,aK2 sm g4,?_⟩ (by simp; omega)
   simp only
   rw [show (n - (i+1)).toNat=j by omega]; exact hq
  ·simp only [ne_eq,he,not_false_eq_true,if_true] at hq
   have eb:(e==0)=false:=by simpa using he
   rw [decide_eq_true hi,eb]
   simp only [cond_true,Bool.not_false]
   rw [← hq]
 ·rw [decide_eq_false hi]
  rw [show (n - i).toNat=0 by omega,aPK] at hq
  simp only [cond_false]
  rw [← hq]
theorem aPS (hN:11≤N) (hB:okB B) (h:okR B s) (a1:Int) (a2 a3:aS) (a4:aP) (a5:Int) (a6:List aQ) (a7:aC) (a8:Int) (v:Vector Int 8) (a10 a11:Int) (a12:List GOp) (a13:aD) (a14:aE) :
  nR N s.1 ⟨a1,a2,a3,a4,a5,a6,a7,a8,v,a10,a11,a12,a13,a14⟩ ⟨true,s.2⟩ =
  some ((rdv id v s 8).1.1,⟨a1,a2,a3,a4,a5,a6,a7,a8,(rdv id v s 8).2,a10,a11,a12,a13,a14⟩,⟨true,(rdv id v s 8).1.2⟩):=by
 unfold nR
 rw [show (⟨0,s.1,⟨a1,a2,a3,a4,a5,a6,a7,a8,v,a10,a11,a12,a13,a14⟩,⟨true,s.2⟩⟩:pP)=(fun k:Nat=>(⟨(k:Int),(rdv id v s k).1.1,⟨a1,a2,a3,a4,a5,a6,a7,a8,(rdv id v s k).2,a10,a11,a12,a13,a14⟩,⟨true,(rdv id v s k).1.2⟩⟩:pP)) 0 from rfl]
 rw [qM (fun k:Nat=>(⟨(k:Int),(rdv id v s k).1.1,⟨a1,a2,a3,a4,a5,a6,a7,a8,(rdv id v s k).2,a10,a11,a12,a13,a14⟩,⟨true,(rdv id v s k).1.2⟩⟩:pP)) 8 (fun _=>none) (some ((rdv id v s 8).1.1,⟨a1,a2,a3,a4,a5,a6,a7,a8,(rdv id v s 8).2,a10,a11,a12,a13,a14⟩,⟨true,(rdv id v s 8).1.2⟩)) ?_ ?_ N (by omega)]
 ·exact qO _
 ·intro k next hk
  simp only [qP hk,bV (show (0:Int)≤k by omega) (show (k:Int) < 8 by omega),cond_true]
  rw [dG hN hB (iN h id v k),Option.bind_some,bH (by omega) (by omega),Int.toNat_natCast]
  rfl
 ·intro next; rfl
theorem aPT (hN:4200≤N) (hB:okB B) (h:okR B s) (k:Int) (fr to_:aS):zI N s.1 ⟨k,fr,to_,zBa,0,[],zEn,0,zV,0,0,[],zEp,zPt⟩ ⟨true,s.2⟩ =
  some ((eN sm k fr to_ s).2.1,(eN sm k fr to_ s).1,⟨true,(eN sm k fr to_ s).2.2⟩):=by
 have hN':11≤N:=by omega
 unfold zI
 by_cases hk:1≤k∧k≤15
 ·have hk':k=1∨k=2∨k=3∨k=4∨k=5∨k=6∨k=7∨k=8∨k=9∨k=10∨k=11∨k=12∨k=13∨k=14∨k=15:=by omega
  rcases hk' with rfl | rfl | rfl | rfl | rfl | rfl | rfl | rfl | rfl | rfl | rfl | rfl | rfl | rfl | rfl
  ·rw [bd1]
   simp only [Int.reduceBEq,cond_true,cond_false]
   unfold eE
   have h1:=mB sm h
   have h2:=aT h1
   rw [tO hN' hB h]
   simp only [Option.bind_some]
   rw [dG hN' hB h1]
   rfl
  ·rw [bd2]
   simp only [Int.reduceBEq,cond_true,cond_false]
   unfold eE
   have h1:=mB sm h
   have h2:=aT h1
   have h3:=aK3 sm h2
   rw [tO hN' hB h]
   simp only [Option.bind_some]
   rw [dG hN' hB h1]
   simp only [Option.bind_some]
   rw [aK4 hN hB h2]
   rfl
  ·rw [bd3]
   simp only [Int.reduceBEq,cond_true,cond_false]
   have h1:=mB sm h
   have h2:=aK3 sm h1
   rw [tO hN' hB h]
   simp only [Option.bind_some]
   rw [aK4 hN hB h1]
   rfl
  ·rw [bd4]
   simp only [Int.reduceBEq,cond_true,cond_false]
   unfold eE
   have h1:=mB sm h
   have h2:=aT h1
   rw [tO hN' hB h]
   simp only [Option.bind_some]
   rw [dG hN' hB h1]
   rfl
  ·rw [bd5]
   simp only [Int.reduceBEq,cond_true,cond_false]
   have h1:=mB sm h
   rw [tO hN' hB h]
   rfl
  ·rw [bd6]
   simp only [Int.reduceBEq,cond_true,cond_false]
   have h1:=aK3 sm h
   rw [aK4 hN hB h]
   rfl
  ·rw [bd7]
   simp only [Int.reduceBEq,cond_true,cond_false]
   unfold eE
   have h1:=mB sm h
   have h2:=aT h1
   rw [tO hN' hB h]
   simp only [Option.bind_some]
   rw [dG hN' hB h1]
   rfl
  ·rw [bd8]
   simp only [Int.reduceBEq,cond_true,cond_false]
   unfold eE
   have h1:=aT h
   rw [dG hN' hB h]
   rfl
  ·rw [bd9]
   simp only [Int.reduceBEq,cond_true,cond_false]
   have h1:=aPN sm h
   rw [aPQ hN hB h]
   rfl
  ·rw [bd10]
   simp only [Int.reduceBEq,cond_true,cond_false]
   unfold jO zG
   have h1:=aT h
   have h2:=iN h1 id z8 8
   have h3:=aT h2
   rw [dG hN' hB h]
   simp only [Option.bind_some]
   rw [aPS hN' hB h1]
   simp only [Option.bind_some]
   change ((dV N (rdv id z8 _ 8).1.1 ⟨true,(rdv id z8 _ 8).1.2⟩).bind _).bind _=_
   rw [dG hN' hB h2]
   rfl
  ·rw [bd11]
   simp only [Int.reduceBEq,cond_true,cond_false]
   unfold jO zH eE
   have h1:=aT h
   have h2:=aT h1
   have h3:=aT h2
   have h4:=aPL sm h3
   rw [dG hN' hB h]
   simp only [Option.bind_some]
   rw [fA hN' hB h1]
   simp only [Option.bind_some]
   rw [dG hN' hB h2]
   simp only [Option.bind_some]
   rw [aPP hN hB h3]
   rfl
  ·rw [bd12]
   simp only [Int.reduceBEq,cond_true,cond_false]
   have h1:=aPM sm h
   rw [aOv hN' hB h]
   rfl
  ·rw [bd13]
   simp only [Int.reduceBEq,cond_true,cond_false]
   have h1:=aKZ sm h
   rw [aK1 hN' hB h]
   rfl
  ·rw [bd14]
   simp only [Int.reduceBEq,cond_true,cond_false]
   unfold jO
   have h1:=aT h
   have h2:=iN h1 id z8 8
   rw [dG hN' hB h]
   simp only [Option.bind_some]
   rw [aPS hN' hB h1]
   rfl
  ·rw [bd15]
   simp only [Int.reduceBEq,cond_true,cond_false]
   unfold eE
   have h1:=aT h
   have h2:=aKZ sm h1
   rw [dG hN' hB h]
   simp only [Option.bind_some]
   rw [aK1 hN' hB h1]
   rfl
 ·rw [aPR sm hk]
  have hb:∀ j:Int,1≤j∧j≤15→(k==j)=false:=fun j hj=>by
   have:k≠j:=fun e=>hk (by omega)
   simpa using this
  rw [hb 1 (by omega),cond_false,hb 4 (by omega),cond_false,hb 7 (by omega),cond_false,hb 2 (by omega),cond_false,hb 3 (by omega),cond_false,hb 5 (by omega),cond_false,hb 6 (by omega),cond_false,hb 8 (by omega),cond_false,hb 9 (by omega),cond_false,hb 10 (by omega),cond_false,hb 11 (by omega),cond_false,hb 12 (by omega),cond_false,hb 13 (by omega),cond_false,hb 14 (by omega),cond_false,hb 15 (by omega),cond_false]
  rfl
theorem aPU (hN:11≤N) (hB:okB B) (h:okR B s) (a1:Int) (a2 a3:aS) (a4:aP) (a5:Int) (a6:List aQ) (a7:aC) (a8:Int) (v:Vector Int 8) (a10 a11:Int) (a12:List GOp) (a13:aD) (a14:aE) :
  rW N s.1 ⟨a1,a2,a3,a4,a5,a6,a7,a8,v,a10,a11,a12,a13,a14⟩ ⟨true,s.2⟩ =
  some ((nH sm (nH sm s).2).2.1,⟨a1,(nH sm s).1,(nH sm (nH sm s).2).1,a4,a5,a6,a7,a8,v,a10,a11,a12,a13,a14⟩,⟨true,(nH sm (nH sm s).2).2.2⟩):=by
 have h1:=aT h
 have h2:=aT h1
 have h3:=aT h2
 unfold rW
 rw [fA hN hB h]
 simp only [Option.bind_some]
 rw [fA hN hB h1]
 simp only [Option.bind_some]
 rw [fA hN hB h2]
 simp only [Option.bind_some]
 rw [fA hN hB h3]
 rfl
theorem aYL (hN:4200≤N) (hB:okB B) (h:okR B s):aCi N s.1 ⟨true,s.2⟩=some ((mC sm s).1,(mC sm s).2.1,⟨true,(mC sm s).2.2⟩):=by
 have hN':11≤N:=by omega
 have h1:=aT h
 unfold aCi aG0 mC
 rw [fA hN' hB h]
 simp only [Option.bind_some]
 by_cases hc:(rd1 s).2.1=0∧(sm (rd1 s).1 < 1∨15 < sm (rd1 s).1)
 ·have e1:(((rd1 s).2.1==0)&&(decide (sm (rd1 s).1 < 1) || decide (15 < sm (rd1 s).1)))=true:=by simpa using hc
  rw [if_pos hc,e1,cond_true]
  have h2:okR B ((40:Int),(rd1 s).2.2):=h1
  have h3:=xG sm h2
  have h4:=xG sm h3
  have:=aPU hN' hB h2 (sm (rd1 s).1) ⟨0,0⟩ ⟨0,0⟩ zBa 0 [] zEn 0 zV 0 0 [] zEp zPt
  simp only at this
  change ((rW N 40 ⟨sm (rd1 s).1,⟨0,0⟩,⟨0,0⟩,zBa,0,[],zEn,0,zV,0,0,[],zEp,zPt⟩ ⟨true,(rd1 s).2.2⟩).bind _)=_
  rw [this]
  simp only [Option.bind_some]
  rw [aPT hN hB h4]
  rfl
 ·have e1:(((rd1 s).2.1==0)&&(decide (sm (rd1 s).1 < 1) || decide (15 < sm (rd1 s).1)))=false:=by
   rw [Bool.eq_false_iff]; intro h; exact hc (by simpa using h)
  rw [if_neg hc,e1,cond_false]
  have h3:=xG sm h1
  have h4:=xG sm h3
  have:=aPU hN' hB h1 (sm (rd1 s).1) ⟨0,0⟩ ⟨0,0⟩ zBa 0 [] zEn 0 zV 0 0 [] zEp zPt
  change ((rW N (rd1 s).2.1 ⟨sm (rd1 s).1,⟨0,0⟩,⟨0,0⟩,zBa,0,[],zEn,0,zV,0,0,[],zEp,zPt⟩ ⟨true,(rd1 s).2.2⟩).bind _)=_
  rw [this]
  simp only [Option.bind_some]
  rw [aPT hN hB h4]
  rfl
end
section
variable {N:Nat} {B:List Int} {s:St} {g:Int→Int}
theorem aK5 {α:Type} {f:St→α×St} {P:α→Prop} (hok:∀ {s},okR B s→okR B (f s).2) (hf:∀ {s},okR B s→P (f s).1):∀ (n:Nat) (l:List α) (s:St),okR B s→(∀ x∈l,P x)→(∀ x∈(rdL f n l s).1,P x)∧(rdL f n l s).1.length≤l.length+n
 | 0,l,s,h,hl=>⟨hl,Nat.le_refl _⟩
 | n + 1, l, s, h, hl => by
  rw [aKY]
  by_cases hs:s.1≠0
  ·rw [if_pos hs]; exact ⟨fun x hx=>absurd hx (by simp),Nat.zero_le _⟩
  ·rw [if_neg hs]
   obtain ⟨h1,h2⟩:=aK5 hok hf n (l++[(f s).1]) (f s).2 (hok h) fun x hx=>by
    rcases List.mem_append.1 hx with hx | hx
    ·exact hl x hx
    ·simp at hx; subst hx; exact hf h
   exact ⟨h1,by simp only [List.length_append,List.length_cons,List.length_nil] at h2; omega⟩
theorem aPV (h:okR B s):(kA g s).1.length≤4096:=by
 have hr:=aDP s
 have:=(aK5 (B:=B) (f:=rdO g) (P:=fun _=>True) (fun h=>aDO g h) (fun _=>trivial) (rdN s).1.toNat [] (rdN s).2 (xF h) (by simp)).2
 unfold kA
 simp only [List.length_nil] at this
 omega
theorem aK6 (hB:okB B) (h:okR B s):byt (rdD s).1:=by
 unfold rdD
 split
 ·have hb:=(tK hB h).2
  by_cases he:(rB s.2).2.1=0
  ·obtain ⟨h1,h2⟩:=rB_one hb he
   exact fun x hx=>hb x (by rw [h1]; simp only at hx; simp [hx])
  ·unfold rB at he ⊢
   intro x hx
   simp only at hx
   split at hx
   ·cases hx
   ·split at hx
    ·cases hx
    ·split at hx
     ·cases hx
     ·exact hb x (List.mem_of_mem_drop (List.mem_of_mem_take hx))
 ·exact fun x hx=>by cases hx
def roomE (e:aC):Prop:=e.Ops.length≤4096∧byt e.Part.Data
theorem roomE.of {N:Nat} {e:aC} (h:roomE e) (hN:4200≤N):e.Ops.length+20≤N∧e.Ops.length≤9223372036854775807∧byt e.Part.Data:=⟨by have:=h.1; omega,by have:=h.1; omega,h.2⟩
theorem aPW (hB:okB B) (h:okR B s):roomE (lB g s).1:=by
 have h1:=aT h
 have b0:byt []:=fun x hx=>by cases hx
 unfold lB
 simp only
 split; · exact ⟨by simp [zE],b0⟩
 split; · exact ⟨by simp [zE],b0⟩
 split; · exact ⟨by simp,b0⟩
 split; · exact ⟨aPV (aT (aT h1)),b0⟩
 split; · exact ⟨by simp,b0⟩
 split; · exact ⟨by simp,b0⟩
 split; · exact ⟨by simp,aK6 hB (aT (aT (aT h1)))⟩
 split; · exact ⟨by simp,b0⟩
 split; · exact ⟨by simp,b0⟩
 split; · exact ⟨by simp,b0⟩
 exact ⟨by simp [zE],b0⟩
theorem aK7 (hB:okB B) (h:okR B s):(gI g s).1.length≤4096∧∀ x∈(gI g s).1,roomE x.Entry:=by
 have hr:=aDP s
 have:=aK5 (B:=B) (f:=rdSl g) (P:=fun x=>roomE x.Entry) (fun h=>aK2 g h) (fun h=>aPW hB (mB g (aT h))) (rdN s).1.toNat [] (rdN s).2 (xF h) (by simp)
 unfold gI
 refine ⟨?_,this.1⟩
 have:=this.2
 simp only [List.length_nil] at this
 omega
theorem aK8 {l:List aQ} (hN:4200≤N) (h:l.length≤4096∧∀ x∈l,roomE x.Entry):mA N l:=⟨by omega,by omega,fun x hx=>(h.2 x hx).of hN⟩
theorem aYM (hN:4200≤N) (hB:okB B) (h:okR B s) (k:Int) (fr to_:aS):roomM N (eN g k fr to_ s).1:=by
 have r1:mA N ([]:List aQ):=⟨by simp; omega,by simp,fun x hx=>by cases hx⟩
 have r2:zEn.Ops.length+20≤N∧zEn.Ops.length≤9223372036854775807∧byt zEn.Part.Data:=⟨by simp [zEn]; omega,by simp [zEn],fun x hx=>by cases hx⟩
 have r3:([]:List GOp).length+20≤N∧([]:List GOp).length≤9223372036854775807:=⟨by simp; omega,by simp⟩
 have r4:byt zPt.Data:=fun x hx=>by cases hx
 have ro:∀ {s:St},okR B s→(kA g s).1.length+20≤N∧(kA g s).1.length≤9223372036854775807:=fun h=>by have:=aPV (g:=g) h; exact ⟨by omega,by omega⟩
 by_cases hk:1≤k∧k≤15
 ·have hk':k=1∨k=2∨k=3∨k=4∨k=5∨k=6∨k=7∨k=8∨k=9∨k=10∨k=11∨k=12∨k=13∨k=14∨k=15:=by omega
  rcases hk' with rfl | rfl | rfl | rfl | rfl | rfl | rfl | rfl | rfl | rfl | rfl | rfl | rfl | rfl | rfl
  ·rw [bd1]; exact ⟨r1,r2,r3,r4⟩
  ·rw [bd2]; exact ⟨aK8 hN (aK7 hB ((aT (mB g h)))),r2,r3,r4⟩
  ·rw [bd3]; exact ⟨aK8 hN (aK7 hB ((mB g h))),r2,r3,r4⟩
  ·rw [bd4]; exact ⟨r1,r2,r3,r4⟩
  ·rw [bd5]; exact ⟨r1,r2,r3,r4⟩
  ·rw [bd6]; exact ⟨aK8 hN (aK7 hB (h)),r2,r3,r4⟩
  ·rw [bd7]; exact ⟨r1,r2,r3,r4⟩
  ·rw [bd8]; exact ⟨r1,r2,r3,r4⟩
  ·rw [bd9]; exact ⟨r1,(aPW hB (h)).of hN,r3,r4⟩
  ·rw [bd10]; exact ⟨r1,r2,r3,r4⟩
  ·rw [bd11]; exact ⟨r1,r2,ro ((aT (aT (aT h)))),r4⟩
  ·rw [bd12]; exact ⟨r1,r2,r3,r4⟩
  ·rw [bd13]; exact ⟨r1,r2,r3,aK6 hB (aT (aT (aT (h))))⟩
  ·rw [bd14]; exact ⟨r1,r2,r3,r4⟩
  ·rw [bd15]; exact ⟨r1,r2,r3,aK6 hB (aT (aT (aT ((aT h)))))⟩
 ·rw [aPR g hk]; exact ⟨r1,r2,r3,r4⟩
theorem aYN (hN:4200≤N) (hB:okB B) (h:okR B s):roomM N (mC g s).1:=by
 unfold mC
 refine aYM hN hB (xG g (xG g ?_)) _ _ _
 split
 ·exact aT h
 ·exact aT h
theorem ob {n:Int} (h:sit n):-1≤n∧n≤2147483647:=by have:=h.1; have:=h.2; constructor<;>omega
end
section
variable {N:Nat} {b:List Int}
theorem aPX (b:List Int):okR b (0,b):=List.suffix_refl b
theorem aYO (hl:b.length≤70368744177664):aB4 N b=some ⟨true,b⟩:=by
 unfold aB4
 rw [aDF hl]; rfl
theorem aYP (e x:Int) (r:aN):mL N e x r=some (if x=0 then e else x,r):=by
 unfold mL
 by_cases h:x=0
 ·rw [if_pos h,show (x==0)=true by simpa using h]; rfl
 ·rw [if_neg h,show (x==0)=false by simpa using h]; rfl
theorem aYQ {c:List Int} (hl:c.length≤1048576):unB (aW c)=(c,((aW c).length:Int),0):=by
 have hr:R64 (c.length:Int):=⟨by omega,by omega⟩
 have hp:pv 0 0 (aW c)=((c.length:Int),((bI (zig (c.length:Int))).length:Int),0):=by
  unfold aW; rw [List.append_assoc]; exact aOH hr _
 have hd:(aW c).drop (bI (zig (c.length:Int))).length=c++dD (cQ c):=by
  unfold aW; rw [List.append_assoc]; exact List.drop_left
 have hlen:(aW c).length=(bI (zig (c.length:Int))).length+c.length+4:=by
  unfold aW; simp only [List.length_append,jW]
 unfold unB
 rw [hp]
 generalize hv:bI (zig (c.length:Int))=v at *
 simp only
 rw [if_neg (by simp),if_neg (by omega),if_neg (by omega),if_neg (by omega)]
 have e1:(v.length:Int).toNat=v.length:=by omega
 have e2:((v.length:Int)+(c.length:Int)).toNat=v.length+c.length:=by omega
 have e3:(c.length:Int).toNat=c.length:=by omega
 rw [e1,e2,e3,hd,List.take_left,← List.drop_drop,hd,List.drop_left,if_pos (by rw [List.take_of_length_le (by rw [jW]; omega)])]
 rw [hlen]
 congr 2
theorem aYR (hb:∀ x∈b,bS x) (h:(unB b).2.2=0) (hn:¬ (unB b).2.1 < (b.length:Int)):b=aW (unB b).1∧(unB b).1.length≤1048576:=by
 unfold unB at h hn ⊢
 by_cases h1:(pv 0 0 b).2.2≠0
 ·rw [if_pos h1] at h; exact absurd h h1
 rw [if_neg h1] at h hn ⊢
 by_cases h2:(pv 0 0 b).1 < 0
 ·rw [if_pos h2] at h; exact absurd h (show ¬ ((11:Int)=0) by decide)
 rw [if_neg h2] at h hn ⊢
 by_cases h3:1048576 < (pv 0 0 b).1
 ·rw [if_pos h3] at h; exact absurd h (show ¬ ((3:Int)=0) by decide)
 rw [if_neg h3] at h hn ⊢
 by_cases h4:(b.length:Int) - (pv 0 0 b).2.1 < (pv 0 0 b).1+4
 ·rw [if_pos h4] at h; exact absurd h (show ¬ ((10:Int)=0) by decide)
 rw [if_neg h4] at h hn ⊢
 by_cases h5:((b.drop ((pv 0 0 b).2.1+(pv 0 0 b).1).toNat).take 4)=dD (cQ ((b.drop (pv 0 0 b).2.1.toNat).take (pv 0 0 b).1.toNat))
 ·rw [if_pos h5] at hn ⊢
  obtain ⟨rest,q1,q2,q3⟩:=aOS hb (by simpa using h1)
  generalize pv 0 0 b=p at *
  obtain ⟨n,k,e⟩:=p
  simp only at *
  have hk0:0≤k:=by omega
  have hd:b.drop k.toNat=rest:=by
   rw [q1,q2]; simp
  have hL:b.length=(bI (zig n)).length+rest.length:=by rw [q1]; simp
  rw [show (k+n).toNat=k.toNat+n.toNat by omega,← List.drop_drop,hd] at h5
  rw [hd]
  have hlen:(rest.take n.toNat).length=n.toNat:=by rw [List.length_take]; omega
  have h6:(rest.drop n.toNat).take 4=rest.drop n.toNat:=List.take_of_length_le (by rw [List.length_drop]; omega)
  rw [h6] at h5
  refine ⟨?_,by rw [hlen]; omega⟩
  unfold aW
  rw [hlen,show ((n.toNat:Nat):Int)=n by omega,← h5,List.append_assoc,List.take_append_drop]
  exact q1
 ·rw [if_neg h5] at h; exact absurd h (show ¬ ((12:Int)=0) by decide)
theorem unB_ok (hB:okB b):okB (unB b).1:=by
 have h0:okB ([]:List Int):=⟨by simp,by simp⟩
 unfold unB
 split; · exact h0
 split; · exact h0
 split; · exact h0
 split; · exact h0
 split
 ·refine ⟨?_,fun x hx=>hB.2 x (List.mem_of_mem_drop (List.mem_of_mem_take hx))⟩
  have:=hB.1
  simp only [List.length_take,List.length_drop]; omega
 ·exact h0
def oM:aB:=⟨0,⟨0,0⟩,⟨0,0⟩,zBa,0,[],zEn,0,zV,0,0,[],zEp,zPt⟩
def umM (b:List Int):aB×Int :=
 if (unB b).2.2≠0 then (oM,(unB b).2.2) else
 if (unB b).2.1 < (b.length:Int) then (oM,13) else
 let p:=mC sm (0,(unB b).1)
 let e:=if p.2.1=0 then (if 0 < (p.2.2.length:Int) then 13 else 0) else p.2.1
 if e=0 then (bif hY p.1 then (p.1,0) else (oM,40)) else (oM,e)
theorem aYS (hN:4200≤N) (hN2:b.length+20≤N) (hB:okB b):aCk N b=some (umM b):=by
 have hu:=unB_ok hB
 have hr:=aYN (g:=sm) hN hu (aPX (unB b).1)
 unfold aCk umM
 rw [F39_eq hN2 hB.1 hB.2,Option.bind_some]
 by_cases h1:(unB b).2.2≠0
 ·rw [if_pos h1,show ((unB b).2.2==0)=false by simpa using h1]; rfl
 rw [if_neg h1,show ((unB b).2.2==0)=true by simpa using h1]
 simp only [Bool.not_true,cond_false]
 by_cases h2:(unB b).2.1 < (b.length:Int)
 ·rw [if_pos h2,decide_eq_true h2]; rfl
 rw [if_neg h2,decide_eq_false h2,cond_false,aYO hu.1,Option.bind_some]
 have:=aYL hN hu (aPX (unB b).1)
 simp only at this
 rw [this,Option.bind_some,end_eq,Option.bind_some,aYP,Option.bind_some]
 generalize (if (mC sm (0,(unB b).1)).2.1=0 then (if 0 < ((mC sm (0,(unB b).1)).2.2.length:Int) then (13:Int) else 0) else (mC sm (0,(unB b).1)).2.1)=e
 by_cases he:e=0
 ·rw [if_pos he,show (e==0)=true by simpa using he,cond_true,aPr (by omega) hr,Option.bind_some]
  cases hY (mC sm (0,(unB b).1)).1<;>rfl
 ·rw [if_neg he,show (e==0)=false by simpa using he]
  rfl
theorem aPY {c:List Int} (hl:c.length≤1048576):(aW c).length≤1048590:=by
 have:=gZ (jF (tM (n:=c.length) hl))
 unfold aW; simp only [List.length_append,jW]; omega
end
theorem aDQ {a a' c:Int} (ha:R32 a) (ha':R32 a') (hc:R32 c) (h:bits .xor .u32 a c=bits .xor .u32 a' c):a=a':=by
 rw [u32_xor a c ha.1 ha.2 hc.1 hc.2,u32_xor a' c ha'.1 ha'.2 hc.1 hc.2] at h
 have h1:a.toNat ^^^ c.toNat=a'.toNat ^^^ c.toNat:=by omega
 have h2:(a.toNat ^^^ c.toNat) ^^^ c.toNat=(a'.toNat ^^^ c.toNat) ^^^ c.toNat:=by rw [h1]
 rw [Nat.xor_assoc,Nat.xor_assoc,Nat.xor_self,Nat.xor_zero,Nat.xor_zero] at h2
 have:=ha.1; have:=ha'.1
 omega
theorem aPZ {a:Int} (h0:0≤a) (h1:a < 2147483648):2147483648≤bits .xor .u32 a 3988292384:=by
 rw [u32_xor a 3988292384 h0 (by omega) (by decide) (by decide)]
 have hlt:a.toNat < 2 ^ 31:=by omega
 have h2:(a.toNat ^^^ (3988292384:Int).toNat).testBit 31=true:=by
  rw [Nat.testBit_xor,Nat.testBit_lt_two_pow hlt]; rfl
 have h3:=Nat.ge_two_pow_of_testBit h2
 omega
theorem aYT {s s':Int} (h:R32 s) (h':R32 s') (e:kV s=kV s'):s=s':=by
 have a1:=h.1; have a2:=h.2; have b1:=h'.1; have b2:=h'.2
 have d:R32 (s / 2):=⟨by omega,by omega⟩
 have d':R32 (s' / 2):=⟨by omega,by omega⟩
 unfold kV at e
 by_cases c:s % 2=1<;>by_cases c':s' % 2=1
 ·rw [if_pos c,if_pos c'] at e
  have:=aDQ d d' ⟨by decide,by decide⟩ e
  omega
 ·rw [if_pos c,if_neg c'] at e
  have:=aPZ (a:=s / 2) (by omega) (by omega)
  omega
 ·rw [if_neg c,if_pos c'] at e
  have:=aPZ (a:=s' / 2) (by omega) (by omega)
  omega
 ·rw [if_neg c,if_neg c'] at e; omega
theorem aK9:∀ (n:Nat) {s s':Int},R32 s→R32 s'→iO n s=iO n s'→s=s'
 | 0,_,_,_,_,e=>e
 | n+1,_,_,h,h',e=>aYT h h' (aK9 n (aAG h) (aAG h') e)
theorem oN {b:Int} (h:bS b):R32 b:=⟨h.1,by have:=h.2; omega⟩
theorem aYU {s s' b:Int} (h:R32 s) (h':R32 s') (hb:bS b) (e:dQ s b=dQ s' b):s=s' :=
 aDQ h h' (oN hb) (aK9 8 (oJ h (oN hb)) (oJ h' (oN hb)) e)
theorem aDR {a b:Int} (ha:R32 a) (hb:R32 b):bits .xor .u32 a b=bits .xor .u32 b a:=by
 rw [u32_xor a b ha.1 ha.2 hb.1 hb.2,u32_xor b a hb.1 hb.2 ha.1 ha.2,Nat.xor_comm]
theorem aYV {s b b':Int} (h:R32 s) (hb:bS b) (hb':bS b') (e:dQ s b=dQ s b'):b=b':=by
 have:=aK9 8 (oJ h (oN hb)) (oJ h (oN hb')) e
 rw [aDR h (oN hb),aDR h (oN hb')] at this
 exact aDQ (oN hb) (oN hb') h this
theorem aP0:∀ (l:List Int) {s s':Int},R32 s→R32 s'→(∀ b∈l,bS b)→l.foldl dQ s=l.foldl dQ s'→s=s'
 | [],_,_,_,_,_,e=>e
 | b :: l,_,_,h,h',hb,e=>aYU h h' (hb b (by simp)) (aP0 l (oK h (hb b (by simp))) (oK h' (hb b (by simp))) (fun x hx=>hb x (by simp [hx])) e)
theorem aP1:R32 4294967295:=⟨by decide,by decide⟩
theorem aP2 {l:List Int} (hb:∀ b∈l,bS b):R32 (cQ l):=oJ ⟨by decide,by decide⟩ (wZ l aP1 hb)
theorem aYW {l:List Int} (hb:∀ b∈l,bS b) {i:Nat} (hi:i < l.length) {y:Int} (hy:bS y) (hne:y≠l[i]):cQ (l.set i y)≠cQ l:=by
 intro e
 have hx:bS l[i]:=hb _ (List.getElem_mem hi)
 have e1:l=l.take i++l[i] :: l.drop (i+1):=by
  conv=>lhs; rw [← List.take_append_drop i l]
  rw [List.drop_eq_getElem_cons hi]
 have e2:l.set i y=l.take i++y :: l.drop (i+1):=by
  rw [List.set_eq_take_append_cons_drop,if_pos hi]
 have ht:∀ b∈l.take i,bS b:=fun b h=>hb b (List.mem_of_mem_take h)
 have hd:∀ b∈l.drop (i+1),bS b:=fun b h=>hb b (List.mem_of_mem_drop h)
 have hs:=wZ (l.take i) aP1 ht
 unfold cQ at e
 rw [e2] at e
 have e3:(l.take i++l[i] :: l.drop (i+1)).foldl dQ 4294967295=l.foldl dQ 4294967295:=by rw [← e1]
 rw [← e3] at e
 simp only [List.foldl_append,List.foldl_cons] at e
 have r1:R32 ((l.drop (i+1)).foldl dQ (dQ ((l.take i).foldl dQ 4294967295) y)):=wZ _ (oK hs hy) hd
 have r2:R32 ((l.drop (i+1)).foldl dQ (dQ ((l.take i).foldl dQ 4294967295) l[i])):=wZ _ (oK hs hx) hd
 rw [aDR ⟨by decide,by decide⟩ r1,aDR ⟨by decide,by decide⟩ r2] at e
 have:=aDQ r1 r2 ⟨by decide,by decide⟩ e
 have:=aP0 _ (oK hs hy) (oK hs hx) hd this
 exact hne (aYV hs hy hx this)
theorem aLa {a:Int} {k:Nat} (hk:k < 32):shr .u32 a (k:Int)=a / (2 ^ k:Nat):=by
 simp only [shr,IntKind.bits]
 rw [show (min ((k:Nat):Int).toNat 32)=k by omega,Int.fdiv_eq_ediv_of_nonneg _ (by exact Int.natCast_nonneg _)]
 simp
theorem aYX {s s':Int} (h:R32 s) (h':R32 s') (e:dD s=dD s'):s=s':=by
 have a1:=h.1; have a2:=h.2; have b1:=h'.1; have b2:=h'.2
 have q8:∀ a:Int,shr .u32 a 8=a / 256:=fun a=>aLa (k:=8) (by decide)
 have q16:∀ a:Int,shr .u32 a 16=a / 65536:=fun a=>aLa (k:=16) (by decide)
 have q24:∀ a:Int,shr .u32 a 24=a / 16777216:=fun a=>aLa (k:=24) (by decide)
 simp only [dD,xA,q8,q16,q24,List.cons.injEq,and_true] at e
 omega
theorem aLb (c:List Int):(aW c).length=(bI (zig (c.length:Int))).length+c.length+4:=by
 unfold aW; simp only [List.length_append,jW]
theorem aYY {c:List Int} (hl:c.length≤1048576) (d:List Int) (hd:c.length+4≤d.length) :
  unB (bI (zig (c.length:Int))++d)=if (d.drop c.length).take 4=dD (cQ (d.take c.length)) then (d.take c.length,((bI (zig (c.length:Int))).length:Int)+c.length+4,0) else ([],0,12):=by
 have hp:=aOH (aKX hl) d
 unfold unB
 rw [hp]
 generalize hv:bI (zig (c.length:Int))=v at *
 simp only
 rw [if_neg (by simp),if_neg (by omega),if_neg (by omega),if_neg (by simp only [List.length_append]; omega)]
 have e1:(v.length:Int).toNat=v.length:=by omega
 have e2:((v.length:Int)+(c.length:Int)).toNat=v.length+c.length:=by omega
 have e3:(c.length:Int).toNat=c.length:=by omega
 rw [e1,e2,e3,List.drop_left,← List.drop_drop,List.drop_left]
theorem aYZ {c:List Int} (hl:c.length≤1048576) (hb:∀ b∈c,bS b) {k:Nat} (h0:(bI (zig (c.length:Int))).length≤k) (hk:k < (aW c).length) {y:Int} (hy:bS y) (hne:y≠(aW c)[k]) :
  (unB ((aW c).set k y)).2.2=12:=by
 have hk':=hk
 rw [aLb] at hk'
 have hx:(aW c)[k]=(c++dD (cQ c))[k - (bI (zig (c.length:Int))).length]'(by simp only [List.length_append,jW]; omega):=by
  have:(aW c)[k]=(bI (zig (c.length:Int))++(c++dD (cQ c)))[k]'(by simp only [List.length_append,jW]; omega):=by
   congr 1; unfold aW; rw [List.append_assoc]
  rw [this,List.getElem_append_right h0]
 rw [hx] at hne
 clear hx
 replace hne:(c++dD (cQ c))[k - (bI (zig (c.length:Int))).length]?≠some y:=fun e=>by
  rw [List.getElem?_eq_getElem (by simp only [List.length_append,jW]; omega)] at e
  exact hne (Option.some.inj e).symm
 generalize hv:bI (zig (c.length:Int))=v at *
 have e:(aW c).set k y=v++(c++dD (cQ c)).set (k - v.length) y:=by
  unfold aW
  rw [hv,List.append_assoc,List.set_append_right _ _ h0]
 rw [e,← hv,aYY hl _ (by simp only [List.length_set,List.length_append,jW]; omega),hv]
 have hj:k - v.length < c.length+4:=by omega
 generalize k - v.length=j at *
 by_cases h:j < c.length
 ·have e1:(c++dD (cQ c)).set j y=c.set j y++dD (cQ c):=List.set_append_left _ _ h
  have hcj:y≠c[j]:=by
   intro e'; apply hne; rw [List.getElem?_append_left h,List.getElem?_eq_getElem h,e']
  have hls:(c.set j y).length=c.length:=List.length_set
  rw [e1,← hls,List.take_left,List.drop_left,List.take_of_length_le (by rw [jW]; omega),if_neg]
  intro e'
  have:=aYX (aP2 hb) (aP2 fun b hb'=>by
   rcases List.mem_or_eq_of_mem_set hb' with h' | h'
   ·exact hb b h'
   ·rw [h']; exact hy) e'
  exact aYW hb h hy hcj this.symm
 ·have e1:(c++dD (cQ c)).set j y=c++(dD (cQ c)).set (j - c.length) y:=List.set_append_right _ _ (by omega)
  have hlt:j - c.length < (dD (cQ c)).length:=by rw [jW]; omega
  have hcj:y≠(dD (cQ c))[j - c.length]:=by
   intro e'; apply hne; rw [List.getElem?_append_right (by omega),List.getElem?_eq_getElem hlt,e']
  rw [e1,List.take_left,List.drop_left,List.take_of_length_le (by rw [List.length_set,jW]; omega),if_neg]
  intro e'
  have e2:((dD (cQ c)).set (j - c.length) y)[j - c.length]'(by rw [List.length_set]; exact hlt)=y:=List.getElem_set_self _
  have:(dD (cQ c))[j - c.length]=y:=by
   rw [← e2]; congr 1; exact e'.symm
  exact hcj this.symm
theorem aY0:∀ (x:Fin 256) (j:Fin 8),bS (bits .xor .u8 (x.val:Int) (shl .u8 1 (j.val:Int)))∧bits .xor .u8 (x.val:Int) (shl .u8 1 (j.val:Int))≠(x.val:Int):=by
 unfold bS
 decide +kernel
theorem aY1 {x j:Int} (hx:bS x) (h0:0≤j) (h8:j < 8):bS (bits .xor .u8 x (shl .u8 1 j))∧bits .xor .u8 x (shl .u8 1 j)≠x:=by
 have:=aY0 ⟨x.toNat,by have:=hx.1; have:=hx.2; omega⟩ ⟨j.toNat,by omega⟩
 simp only at this
 have e1:((x.toNat:Nat):Int)=x:=by have:=hx.1; omega
 have e2:((j.toNat:Nat):Int)=j:=by omega
 rw [e1,e2] at this
 exact this
section
variable {N:Nat} {g:List Int}
end
theorem aP3:∀ (k u v:Nat),v≤k→u≤v→(bI u).length≤(bI v).length
 | 0, u, v, hk, h => by
  obtain rfl:v=0:=by omega
  obtain rfl:u=0:=by omega
  exact Nat.le_refl _
 | k + 1, u, v, hk, h => by
  by_cases hu:u < 128
  ·rw [tL hu]; exact aXM v
  ·rw [qQ (u:=u) (by omega),qQ (u:=v) (by omega)]
   have:=aP3 k (u / 128) (v / 128) (by omega) (Nat.div_le_div_right h)
   simp only [List.length_cons]; omega
theorem aP4 {a b:Nat} (h:a≤b):(bI (zig (a:Int))).length≤(bI (zig (b:Int))).length :=
 aP3 _ _ _ (Nat.le_refl _) (by unfold zig; split<;>split<;>omega)
theorem aY2 {c d:List Int} (h:(aW c).length=(aW d).length):c.length=d.length:=by
 rw [aLb,aLb] at h
 rcases Nat.lt_trichotomy c.length d.length with q | q | q
 ·have:=aP4 (a:=c.length) (b:=d.length) (by omega); omega
 ·exact q
 ·have:=aP4 (a:=d.length) (b:=c.length) (by omega); omega
theorem aY3 {c:List Int} (hl:c.length≤1048576) (hb:byt c) {k:Nat} (hk:k < (aW c).length) {y:Int} (hy:bS y) (hne:y≠(aW c)[k]):(unB ((aW c).set k y)).2.2≠0∨(unB ((aW c).set k y)).2.1 < (((aW c).set k y).length:Int):=by
 refine Decidable.byContradiction fun hno=>?_
 have h:(unB ((aW c).set k y)).2.2=0:=Decidable.byContradiction fun q=>hno (.inl q)
 have h':¬ (unB ((aW c).set k y)).2.1 < (((aW c).set k y).length:Int):=fun q=>hno (.inr q)
 have hf:=aPY hl
 have hfb:=aPJ hl hb
 have hB:okB ((aW c).set k y):=⟨by rw [List.length_set]; omega,fun x hx=>by
  rcases List.mem_or_eq_of_mem_set hx with h' | h'
  ·exact hfb x h'
  ·rw [h']; exact hy⟩
 obtain ⟨h2,h3⟩:=aYR hB.2 h h'
 generalize (unB ((aW c).set k y)).1=d at h2 h3
 have hcd:c.length=d.length:=aY2 (by rw [← h2,List.length_set])
 by_cases hv:(bI (zig (c.length:Int))).length≤k
 ·have:=aYZ hl hb hv hk hy hne
  rw [h2,aYQ h3] at this
  exact absurd this (show ¬ ((0:Int)=12) by decide)
 ·have e1:((aW c).set k y)[k]'(by rw [List.length_set]; exact hk)=y:=List.getElem_set_self _
  have hkd:k < (aW d).length:=by rw [← h2,List.length_set]; exact hk
  have e2:(aW d)[k]=y:=by rw [← e1]; congr 1; exact h2.symm
  have hd:∀ (l:List Int) (hkl:k < (aW l).length) (hvl:k < (bI (zig (l.length:Int))).length),(aW l)[k]=(bI (zig (l.length:Int)))[k]:=fun l hkl hvl=>by
   have:(aW l)[k]?=(bI (zig (l.length:Int)))[k]?:=by
    unfold aW
    rw [List.append_assoc,List.getElem?_append_left hvl]
   rw [List.getElem?_eq_getElem hkl,List.getElem?_eq_getElem hvl] at this
   exact Option.some.inj this
  rw [hd d hkd (by rw [← hcd]; omega)] at e2
  apply hne
  rw [hd c hk (by omega),← e2]
  simp only [hcd]
section
variable {N:Nat}
theorem aY4 (hN:60≤N):sA N oM oM=some true:=by
 obtain ⟨k,rfl⟩:∃ k,N=k+60:=⟨N - 60,by omega⟩
 kernel_rfl
end
end Go.Proofs.YtddpmkmgbdedlaaGreat
