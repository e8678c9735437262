/-
Plain laws of another seat,turned to this one by wip/tools/ren2.py.
-/
import Derived.Test.YtddpmkmgbdedlaaGreatqFd
import Derived.Test.YtddpmkmgbdedlaaGreatqWt
import Derived.KernelRfl
set_option linter.unusedVariables false
set_option linter.unusedSimpArgs false
namespace Go.Proofs.YtddpmkmgbdedlaaGreat
open Go Go.Ev
section
variable {N:Nat} {e0:Int} {w:List Int}
theorem kY (hN:20≤N) {b l:List Int} (hb:b.length≤60000000000000) (hl:l.length < N) (hl2:l.length≤1000) (hr:∀ n∈l,R64 n):bX N b l=some (b++(l.map pI).flatten):=by
 unfold bX
 refine cH (fun q:sG=>0≤q.i∧q.i≤(l.length:Int)∧(q.b.length:Int)≤b.length+10 * q.i∧q.b++((l.drop q.i.toNat).map pI).flatten=b++(l.map pI).flatten) (fun q=>((l.length:Int) - q.i).toNat) ?_ N _ ⟨by simp,by simp,by simp,by simp⟩ (by simp; omega)
 rintro ⟨c,i⟩ nx ⟨g0,g1,g2,hq⟩ ih
 simp only at g0 g1 g2 hq ih ⊢
 by_cases hi:i < l.length
 ·have hm:=hr _ (fJ (default:Int) g0 hi)
  have hp:=gF hm
  rw [cK (default:Int) g0 hi,List.map_cons,List.flatten_cons] at hq
  simp only [decide_eq_true hi,bV g0 hi,cond_true]
  rw [aAH (by omega) hm,Option.bind_some,bY (by unfold pI at hp; omega),bH (by omega) (by omega)]
  exact ih ⟨_,i+1⟩ ⟨by simp; omega,by simp; omega,by simp only [List.length_append]; unfold pI at hp; omega,by simp only [List.append_assoc]; exact hq⟩ (by simp; omega)
 ·have:decide (i < (l.length:Int))=false:=by simpa using hi
  simp only [this,cond_false]
  rw [List.drop_eq_nil_of_le (by omega)] at hq
  rw [← hq]; simp
theorem iQ {a:Int} (ha:R64 a):∀ n∈[a],R64 n:=by intro n hn; simp at hn; subst hn; exact ha
theorem kZ {a b:Int} (ha:R64 a) (hb:R64 b):∀ n∈[a,b],R64 n:=by intro n hn; simp at hn; rcases hn with rfl | rfl<;>assumption
theorem all3 {a b c:Int} (ha:R64 a) (hb:R64 b) (hc:R64 c):∀ n∈[a,b,c],R64 n:=by intro n hn; simp at hn; rcases hn with rfl | rfl | rfl<;>assumption
theorem aPx (l:List GOp):((l.map opC).flatten).flatten=(l.map opB).flatten:=by
 induction l with
 | nil=>rfl
 | cons x l ih=>simp only [List.map_cons,List.flatten_cons,List.flatten_append,ih]; rfl
theorem aYz {l:List GOp} (h:∀ o∈l,dH o):(l.map opB).flatten.length≤845 * l.length:=by
 induction l with
 | nil=>simp
 | cons x l ih =>
  have h1:=aKy (h x (by simp))
  have h2:=ih fun o ho=>h o (by simp [ho])
  simp only [List.map_cons,List.flatten_cons,List.length_append,List.length_cons]; omega
theorem aPy {l:List GOp} (hN:l.length+20≤N) (hl:l.length≤4096) (h:∀ o∈l,dH o):sI N l=some (gG l).flatten:=by
 unfold sI
 have hr:R64 (l.length:Int):=⟨by omega,by omega⟩
 have hp:=gF hr
 rw [qR (by omega) (by simp; omega) (by simp) (iQ hr),Option.bind_some]
 have hgoal:(gG l).flatten=([(l.length:Int)].map pI).flatten++(l.map opB).flatten:=by
  unfold gG; rw [List.flatten_append,aPx]
 rw [hgoal]
 refine cH (fun q:vT=>0≤q.i∧q.i≤(l.length:Int)∧(q.b.length:Int)≤10+845 * q.i∧q.b++((l.drop q.i.toNat).map opB).flatten=([(l.length:Int)].map pI).flatten++(l.map opB).flatten) (fun q=>((l.length:Int) - q.i).toNat) ?_ N _ ⟨by simp,by simp,by simp; omega,by simp⟩ (by simp; omega)
 rintro ⟨c,i⟩ nx ⟨g0,g1,g2,hq⟩ ih
 simp only at g0 g1 g2 hq ih ⊢
 by_cases hi:i < l.length
 ·have hm:=h _ (fJ (default:GOp) g0 hi)
  have hp:=aKy hm
  rw [cK (default:GOp) g0 hi,List.map_cons,List.flatten_cons] at hq
  simp only [decide_eq_true hi,bV g0 hi,cond_true]
  change (vS N (aA l i default)).bind _=_
  rw [aO1 (by omega) hm,Option.bind_some,bY (by omega),bH (by omega) (by omega)]
  exact ih ⟨_,i+1⟩ ⟨by simp; omega,by simp; omega,by simp only [List.length_append]; omega,by simp only [List.append_assoc]; exact hq⟩ (by simp; omega)
 ·have:decide (i < (l.length:Int))=false:=by simpa using hi
  simp only [this,cond_false]
  rw [List.drop_eq_nil_of_le (by omega)] at hq
  rw [← hq]; simp
theorem aPz {l:List GOp} (h:eR l):(gG l).flatten.length≤3461130:=by
 obtain ⟨h1,h2,h3⟩:=h
 have:=aYz h3
 have hp:=gF (n:=(l.length:Int)) ⟨by omega,by omega⟩
 unfold gG
 rw [List.flatten_append,aPx,List.length_append]
 simp only [List.map_cons,List.map_nil,List.flatten_cons,List.flatten_nil,List.append_nil]
 omega
theorem aPA (p:aE):(ptC p).flatten=([p.Snap,p.Index,p.Many].map pI).flatten++pB p.Data:=by
 simp [ptC]
theorem aKO (hN:20≤N) {p:aE} (h:dL p):mO N p=some (ptC p).flatten:=by
 obtain ⟨h1,⟨h2,h3⟩,⟨h4,h5⟩,h6⟩:=h
 have hr:∀ n∈[p.Snap,p.Index,p.Many],R64 n:=all3 (bA h1) ⟨by omega,by omega⟩ ⟨by omega,by omega⟩
 have hl:=eB hr
 have hb:=gZ (jF (tM (n:=p.Data.length) (by omega)))
 unfold mO
 rw [qR hN (by simp; omega) (by simp) hr,Option.bind_some,aOP (by omega) (by omega),Option.bind_some,bY (by simp only [List.length_cons,List.length_nil,List.length_append] at hl ⊢; omega),aPA]
 rfl
theorem aKP {p:aE} (h:dL p):(ptC p).flatten.length≤16424:=by
 obtain ⟨h1,⟨h2,h3⟩,⟨h4,h5⟩,h6⟩:=h
 have hl:=eB (l:=[p.Snap,p.Index,p.Many]) (all3 (bA h1) ⟨by omega,by omega⟩ ⟨by omega,by omega⟩)
 have hb:=gZ (jF (tM (n:=p.Data.length) (by omega)))
 rw [aPA]
 simp only [pB,List.length_cons,List.length_nil,List.length_append] at hl hb ⊢
 omega
theorem aPB (hN:20≤N) {v:Vector Int 8} (h:∀ n∈v.toList,R64 n):kM N v=some (v.toList.map pI).flatten:=by rw [aPv hN h,aDM]
theorem aPC {v:Vector Int 8} (h:∀ n∈v.toList,R64 n):(v.toList.map pI).flatten.length≤80:=by
 have:=eB h
 have h2:v.toList.length=8:=by simp
 omega
theorem kind9 {e:aC} (h:jZ e):e.Kind=0∨e.Kind=1∨e.Kind=2∨e.Kind=3∨e.Kind=4∨e.Kind=5∨e.Kind=6∨e.Kind=7∨e.Kind=8:=by unfold jZ at h; omega
theorem aKQ {e:aC} (hN:e.Ops.length+20≤N) (h:nD e):pZ N e=some (enB e)∧(enB e).length≤3500000:=by
 obtain ⟨hk,_,hc⟩:=h
 have hk9:=kind9 hk
 obtain ⟨kd,a2,a3,a4,a5,a6,a7,a8,a9,a10,a11,a12,a13,a14,a15⟩:=e
 simp only at hk9 hN
 have hrk:R64 kd:=⟨by omega,by omega⟩
 have hpk:=gF hrk
 have h1:iX N [kd]=some ([kd].map pI).flatten:=qR (by omega) (by simp; omega) (by simp) (iQ hrk)
 have hlk:(([kd].map pI).flatten).length≤10:=by simpa using hpk
 have hN':20≤N:=by omega
 have hX:∀ (cs:List (List Int)),(([kd].map pI)++cs).flatten=([kd].map pI).flatten++cs.flatten:=fun cs=>List.flatten_append
 unfold pZ
 simp only
 rw [h1,Option.bind_some]
 rcases hk9 with rfl | rfl | rfl | rfl | rfl | rfl | rfl | rfl | rfl
 ·refine ⟨?_,?_⟩
  ·show some _=some ([pI 0]++[]).flatten
   rw [List.append_nil]; rfl
  ·show ([pI 0]++[]).flatten.length≤_
   rw [List.append_nil]; simp only [List.map_cons,List.map_nil] at hlk; omega
 ·replace hc:(decide (cnt a2)&&decide (0 < a2)&&decide (cnt a3)&&decide (0 < a3)&&decide (dH a4))=true:=hc
  simp only [Bool.and_eq_true,decide_eq_true_eq] at hc
  obtain ⟨⟨⟨⟨c1,_⟩,c2⟩,_⟩,c3⟩:=hc
  have l1:=eB (kZ (bA c1) (bA c2))
  have l2:=aKy c3
  simp only [Int.reduceBEq,cond_true,cond_false]
  rw [kY hN' (by omega) (by simp; omega) (by simp) (kZ (bA c1) (bA c2)),Option.bind_some,aO1 hN' c3,Option.bind_some,bY (by simp only [List.length_append,List.length_cons,List.length_nil] at l1 ⊢; omega),cond_true]
  have e1:enB ⟨1,a2,a3,a4,a5,a6,a7,a8,a9,a10,a11,a12,a13,a14,a15⟩=([(1:Int)].map pI).flatten++([a2,a3].map pI).flatten++opB a4:=by
   simp only [enB,enC,gH,Int.reduceBEq,cond_true,cond_false,List.flatten_append,List.append_assoc]; rfl
  rw [e1]
  exact ⟨rfl,by simp only [List.length_append,List.length_cons,List.length_nil] at l1 ⊢; omega⟩
 ·replace hc:(decide (sit a5)&&decide (cnt a6)&&decide (eR a7))=true:=hc
  simp only [Bool.and_eq_true,decide_eq_true_eq] at hc
  obtain ⟨⟨c1,c2⟩,c3⟩:=hc
  have l1:=eB (kZ (dI c1) (bA c2))
  have l2:=aPz c3
  simp only [Int.reduceBEq,cond_true,cond_false]
  rw [kY hN' (by omega) (by simp; omega) (by simp) (kZ (dI c1) (bA c2)),Option.bind_some,aPy hN c3.2.1 c3.2.2,Option.bind_some,bY (by simp only [List.length_append,List.length_cons,List.length_nil] at l1 ⊢; omega),cond_true]
  have e1:enB ⟨2,a2,a3,a4,a5,a6,a7,a8,a9,a10,a11,a12,a13,a14,a15⟩=([(2:Int)].map pI).flatten++([a5,a6].map pI).flatten++(gG a7).flatten:=by
   simp only [enB,enC,gH,Int.reduceBEq,cond_true,cond_false,List.flatten_append,List.append_assoc]; simp
  rw [e1]
  exact ⟨rfl,by simp only [List.length_append,List.length_cons,List.length_nil] at l1 ⊢; omega⟩
 ·replace hc:(decide (eC a8))=true:=hc
  simp only [Bool.and_eq_true,decide_eq_true_eq] at hc
  have l2:=aOw hc
  simp only [Int.reduceBEq,cond_true,cond_false]
  rw [aPw hN' hc,Option.bind_some,bY (by omega),cond_true]
  have e1:enB ⟨3,a2,a3,a4,a5,a6,a7,a8,a9,a10,a11,a12,a13,a14,a15⟩=([(3:Int)].map pI).flatten++epB a8:=by
   simp only [enB,enC,gH,Int.reduceBEq,cond_true,cond_false,List.flatten_append,List.append_assoc]; rfl
  rw [e1]
  exact ⟨rfl,by simp only [List.length_append]; omega⟩
 ·replace hc:(decide (cnt a6)&&decide (sit a9)&&decide (fB a10)&&decide (cnt a11))=true:=hc
  simp only [Bool.and_eq_true,decide_eq_true_eq] at hc
  obtain ⟨⟨⟨c1,c2⟩,c3⟩,c4⟩:=hc
  have l1:=eB (kZ (bA c1) (dI c2))
  have l2:=aPC (fun n hn=>bA (c3 n hn))
  have l3:=eB (iQ (bA c4))
  simp only [Int.reduceBEq,cond_true,cond_false]
  simp only [List.length_append,List.length_cons,List.length_nil] at l1 l3
  rw [kY hN' (by omega) (by simp; omega) (by simp) (kZ (bA c1) (dI c2)),Option.bind_some,aPB hN' (fun n hn=>bA (c3 n hn)),Option.bind_some,bY (by simp only [List.length_append]; omega),cond_true,
   kY hN' (by simp only [List.length_append]; omega) (by simp; omega) (by simp) (iQ (bA c4)),Option.bind_some]
  have e1:enB ⟨4,a2,a3,a4,a5,a6,a7,a8,a9,a10,a11,a12,a13,a14,a15⟩=([(4:Int)].map pI).flatten++([a6,a9].map pI).flatten++(a10.toList.map pI).flatten++([a11].map pI).flatten:=by
   simp only [enB,enC,gH,Int.reduceBEq,cond_true,cond_false,List.flatten_append,List.append_assoc]; simp
  rw [e1]
  exact ⟨rfl,by simp only [List.length_append]; omega⟩
 ·replace hc:(decide (dL a12))=true:=hc
  simp only [Bool.and_eq_true,decide_eq_true_eq] at hc
  have l2:=aKP hc
  simp only [Int.reduceBEq,cond_true,cond_false]
  rw [aKO hN' hc,Option.bind_some,bY (by omega),cond_true]
  have e1:enB ⟨5,a2,a3,a4,a5,a6,a7,a8,a9,a10,a11,a12,a13,a14,a15⟩=([(5:Int)].map pI).flatten++(ptC a12).flatten:=by
   simp only [enB,enC,gH,Int.reduceBEq,cond_true,cond_false,List.flatten_append,List.append_assoc]
  rw [e1]
  exact ⟨rfl,by simp only [List.length_append]; omega⟩
 ·replace hc:(decide (sit a13)&&decide (sit a14)&&decide (cnt a15))=true:=hc
  simp only [Bool.and_eq_true,decide_eq_true_eq] at hc
  obtain ⟨⟨c1,c2⟩,c3⟩:=hc
  have l1:=eB (kZ (dI c1) (dI c2))
  simp only [List.length_append,List.length_cons,List.length_nil] at l1
  simp only [Int.reduceBEq,cond_true,cond_false]
  rw [kY hN' (by omega) (by simp; omega) (by simp) (kZ (dI c1) (dI c2)),Option.bind_some]
  have e1:enB ⟨6,a2,a3,a4,a5,a6,a7,a8,a9,a10,a11,a12,a13,a14,a15⟩=([(6:Int)].map pI).flatten++([a13,a14].map pI).flatten:=by
   simp only [enB,enC,gH,Int.reduceBEq,cond_true,cond_false,List.flatten_append,List.append_assoc]
  rw [e1]
  exact ⟨rfl,by simp only [List.length_append]; omega⟩
 ·replace hc:(decide (sit a13)&&decide (sit a14)&&decide (cnt a15))=true:=hc
  simp only [Bool.and_eq_true,decide_eq_true_eq] at hc
  obtain ⟨⟨c1,c2⟩,c3⟩:=hc
  have l1:=eB (iQ (dI c1))
  simp only [List.length_append,List.length_cons,List.length_nil] at l1
  simp only [Int.reduceBEq,cond_true,cond_false]
  rw [kY hN' (by omega) (by simp; omega) (by simp) (iQ (dI c1)),Option.bind_some]
  have e1:enB ⟨7,a2,a3,a4,a5,a6,a7,a8,a9,a10,a11,a12,a13,a14,a15⟩=([(7:Int)].map pI).flatten++([a13].map pI).flatten:=by
   simp only [enB,enC,gH,Int.reduceBEq,cond_true,cond_false,List.flatten_append,List.append_assoc]
  rw [e1]
  exact ⟨rfl,by simp only [List.length_append]; omega⟩
 ·replace hc:(decide (sit a13)&&decide (sit a14)&&decide (cnt a15))=true:=hc
  simp only [Bool.and_eq_true,decide_eq_true_eq] at hc
  obtain ⟨⟨c1,c2⟩,c3⟩:=hc
  have l1:=eB (kZ (dI c1) (bA c3))
  simp only [List.length_append,List.length_cons,List.length_nil] at l1
  simp only [Int.reduceBEq,cond_true,cond_false]
  rw [kY hN' (by omega) (by simp; omega) (by simp) (kZ (dI c1) (bA c3)),Option.bind_some]
  have e1:enB ⟨8,a2,a3,a4,a5,a6,a7,a8,a9,a10,a11,a12,a13,a14,a15⟩=([(8:Int)].map pI).flatten++([a13,a15].map pI).flatten:=by
   simp only [enB,enC,gH,Int.reduceBEq,cond_true,cond_false,List.flatten_append,List.append_assoc]; simp
  rw [e1]
  exact ⟨rfl,by simp only [List.length_append]; omega⟩
def baC (b:aP):List (List Int):=[b.Round].map pI++[b.Replica].map pI
def slC (x:aQ):List (List Int):=[x.Slot].map pI++baC x.Ballot++enC x.Entry
def lsC (l:List aQ):List (List Int):=[(l.length:Int)].map pI++(l.map slC).flatten
def slB (x:aQ):List Int:=(slC x).flatten
theorem eM {b:aP} (h:fQ b):R64 b.Round∧R64 b.Replica:=⟨bA h.1,⟨by have:=h.2; omega,by have:=h.2; omega⟩⟩
theorem aPD (x:aQ):slB x=([x.Slot,x.Ballot.Round,x.Ballot.Replica].map pI).flatten++enB x.Entry:=by
 unfold slB slC baC
 simp only [List.flatten_append,List.map_cons,List.map_nil,List.flatten_cons,List.flatten_nil,List.append_nil,List.append_assoc]; rfl
theorem sl3 {x:aQ} (h:jG x):∀ n∈[x.Slot,x.Ballot.Round,x.Ballot.Replica],R64 n:=all3 (bA h.1) (eM h.2.1).1 (eM h.2.1).2
theorem aPE {x:aQ} (h:jG x):(slB x).length≤3500030:=by
 have l1:=eB (sl3 h)
 have l2:=(aKQ (N:=x.Entry.Ops.length+20) (Nat.le_refl _) h.2.2).2
 rw [aPD,List.length_append]
 simp only [List.length_cons,List.length_nil] at l1
 omega
theorem aYA (l:List aQ):((l.map slC).flatten).flatten=(l.map slB).flatten:=by
 induction l with
 | nil=>rfl
 | cons x l ih=>simp only [List.map_cons,List.flatten_cons,List.flatten_append,ih]; rfl
theorem aPF (l:List aQ):(lsC l).flatten=([(l.length:Int)].map pI).flatten++(l.map slB).flatten:=by
 unfold lsC; rw [List.flatten_append,aYA]
theorem aYB {l:List aQ} (h:∀ x∈l,jG x):(l.map slB).flatten.length≤3500030 * l.length:=by
 induction l with
 | nil=>simp
 | cons x l ih =>
  have h1:=aPE (h x (by simp))
  have h2:=ih fun o ho=>h o (by simp [ho])
  simp only [List.map_cons,List.flatten_cons,List.length_append,List.length_cons]; omega
theorem aKR {l:List aQ} (hl:l.length≤4096) (h:∀ x∈l,jG x):(lsC l).flatten.length≤15000000000:=by
 have h1:=aYB h
 have h2:=eB (iQ (a:=(l.length:Int)) ⟨by omega,by omega⟩)
 rw [aPF,List.length_append]
 simp only [List.length_cons,List.length_nil] at h2
 omega
theorem aKS {l:List aQ} (hN:mA N l) (hl:l.length≤4096) (h:∀ x∈l,jG x):kN N l=some (lsC l).flatten:=by
 have hN1:=hN.1
 unfold kN
 have hr:R64 (l.length:Int):=⟨by omega,by omega⟩
 have hp:=eB (iQ hr)
 simp only [List.length_cons,List.length_nil] at hp
 rw [qR (by omega) (by simp; omega) (by simp) (iQ hr),Option.bind_some,aPF]
 refine cH (fun q:vU=>0≤q.i∧q.i≤(l.length:Int)∧(q.b.length:Int)≤10+3500030 * q.i∧q.b++((l.drop q.i.toNat).map slB).flatten=([(l.length:Int)].map pI).flatten++(l.map slB).flatten) (fun q=>((l.length:Int) - q.i).toNat) ?_ N _ ⟨by simp,by simp,by simp only; omega,by simp⟩ (by simp; omega)
 rintro ⟨c,i⟩ nx ⟨g0,g1,g2,hq⟩ ih
 simp only at g0 g1 g2 hq ih ⊢
 by_cases hi:i < l.length
 ·have hmem:=fJ (default:aQ) g0 hi
  have hm:=h _ hmem
  have hs:=aPE hm
  have l1:=eB (sl3 hm)
  simp only [List.length_cons,List.length_nil] at l1
  have hen:=aKQ (N:=N) (hN.2.2 _ hmem).1 hm.2.2
  rw [cK (default:aQ) g0 hi,List.map_cons,List.flatten_cons] at hq
  simp only [decide_eq_true hi,bV g0 hi,cond_true]
  rw [kY (by omega) (by omega) (by simp; omega) (by simp) (sl3 hm),Option.bind_some]
  change ((pZ N (aA l i default).Entry).bind _)=_
  rw [hen.1,Option.bind_some,bY (by simp only [List.length_append]; omega),bH (by omega) (by omega),cond_true]
  rw [aPD] at hq hs
  exact ih ⟨_,i+1⟩ ⟨by simp; omega,by simp; omega,by simp only [List.length_append] at hs ⊢; omega,by simp only [List.append_assoc] at hq ⊢; exact hq⟩ (by simp; omega)
 ·have:decide (i < (l.length:Int))=false:=by simpa using hi
  simp only [this,cond_false]
  rw [List.drop_eq_nil_of_le (by omega)] at hq
  rw [← hq]; simp
theorem tN (hN:20≤N) {b:aP} (h:fQ b) (hw:w.length≤1048576):gQ N b e0 true w=some (wr e0 w (baC b)):=by
 unfold gQ
 rw [fN hN (eM h).1 hw,Option.bind_some,cV,nF hN (eM h).2 (bL hw _),bJ,Option.bind_some]
 rfl
theorem aPG (hN:20≤N) {a:aS} (h:eG a) (hw:w.length≤1048576):yR N a e0 true w=some (wr e0 w ([a.Group,a.Replica].map pI)):=by
 obtain ⟨⟨h1,h2⟩,h3,h4⟩:=h
 unfold yR
 rw [aKH hN ⟨by omega,by omega⟩ ⟨by omega,by omega⟩ hw,Option.bind_some]
theorem aKT {l:List aQ} (hN:mA N l) (hl:l.length≤4096) (h:∀ x∈l,jG x) (hw:w.length≤1048576):kJ N l e0 true w=some (wr e0 w (lsC l)):=by
 have hN1:=hN.1
 unfold kJ
 rw [nF (by omega) ⟨by omega,by omega⟩ hw,Option.bind_some]
 refine cH (fun q:uV=>0≤q.t13∧q.t13≤(l.length:Int)∧q.b1=true∧q.b12.length≤1048576∧wr q.b0 q.b12 ((l.drop q.t13.toNat).map slC).flatten=wr e0 w (lsC l)) (fun q=>((l.length:Int) - q.t13).toNat) ?_ N _ ⟨by simp,by simp,rfl,bL hw _,?_⟩ (by simp; omega)
 ·rintro ⟨i,b0,b1,b12⟩ nx ⟨g0,g1,rfl,g3,hq⟩ ih
  simp only at g0 g1 g3 hq ih ⊢
  by_cases hi:i < l.length
  ·have hmem:=fJ (default:aQ) g0 hi
   have hm:=h _ hmem
   rw [cK (default:aQ) g0 hi,List.map_cons,List.flatten_cons,← bJ] at hq
   simp only [decide_eq_true hi,bV g0 hi,cond_true]
   rw [fN (by omega) (bA hm.1) g3,Option.bind_some,cV,tN (by omega) hm.2.1 (bL g3 _),bJ,Option.bind_some,cV]
   change (pJ N (aA l i default).Entry _ true _).bind _=_
   rw [aPi (hN.2.2 _ hmem).1 hm.2.2 (bL g3 _),bJ,Option.bind_some,bH (by omega) (by omega)]
   exact ih ⟨i+1,_,_,_⟩ ⟨by simp; omega,by simp; omega,rfl,bL g3 _,hq⟩ (by simp; omega)
  ·have:decide (i < (l.length:Int))=false:=by simpa using hi
   simp only [this,cond_false]
   rw [List.drop_eq_nil_of_le (by omega)] at hq
   rw [← hq]; rfl
 ·simp only
  rw [bJ]; simp [lsC]
end
def bdC (m:aB):List (List Int) :=
 bif m.Kind==1 then baC m.Ballot++[m.Slot].map pI else
 bif m.Kind==2 then baC m.Ballot++[m.Slot].map pI++lsC m.List_ else
 bif m.Kind==3 then baC m.Ballot++lsC m.List_ else
 bif m.Kind==4 then baC m.Ballot++[m.Slot].map pI else
 bif m.Kind==5 then baC m.Ballot else
 bif m.Kind==6 then lsC m.List_ else
 bif m.Kind==7 then baC m.Ballot++[m.Slot].map pI else
 bif m.Kind==8 then [m.Slot].map pI else
 bif m.Kind==9 then enC m.Entry else
 bif m.Kind==10 then [m.Number].map pI++m.Vector_.toList.map pI++[m.Clock].map pI else
 bif m.Kind==11 then [m.Number].map pI++[m.Origin].map pI++[m.Slot].map pI++gG m.Ops else
 bif m.Kind==12 then epC m.Epoch else
 bif m.Kind==13 then ptC m.Part else
 bif m.Kind==14 then [m.Number].map pI++m.Vector_.toList.map pI else
 bif m.Kind==15 then [m.Slot].map pI++ptC m.Part else
 []
def hdC (m:aB):List (List Int):=[m.Kind].map pI++[m.From.Group,m.From.Replica].map pI++[m.To.Group,m.To.Replica].map pI
def msC (m:aB):List (List Int):=hdC m++bdC m
def msB (m:aB):List Int:=(msC m).flatten
structure lA (m:aB):Prop where
 kind:hJ m
 bare:m=dJ m
 from_:eG m.From
 to_:eG m.To
 ba:fQ m.Ballot
 slot:cnt m.Slot
 number:cnt m.Number
 clock:cnt m.Clock
 vec:fB m.Vector_
 sp:sp2 m=true
theorem aYC {m:aB} (h:iP m):iP (dJ m):=by
 obtain ⟨h1,h2,h3⟩:=h
 have r1:∀ x∈([]:List aQ),byt x.Entry.Part.Data:=fun x hx=>by cases hx
 have r2:byt zEn.Part.Data:=fun x hx=>by cases hx
 have r4:byt zPt.Data:=fun x hx=>by cases hx
 unfold dJ
 repeat' (refine (show ∀ (c:Bool) (x y:aB),iP x→iP y→iP (bif c then x else y) from fun c x y hx hy=>by cases c<;>assumption) _ _ _ ?_ ?_)
 all_goals exact ⟨by first | exact h1 | exact r1,by first | exact h2 | exact r2,by first | exact h3 | exact r4⟩
theorem xE {m:aB} (hb:iP m):hY m=true↔lA m:=by
 unfold hY numM
 simp only [Bool.and_eq_true,decide_eq_true_eq]
 rw [aDL hb (aYC hb)]
 constructor
 ·rintro ⟨⟨⟨⟨h1,h2⟩,h3,h4⟩,⟨h5,⟨h6,h7⟩,h8⟩,h9⟩,h10⟩
  exact ⟨h1,h2,h3,h4,h5,h6,h7,h8,h9,h10⟩
 ·rintro ⟨h1,h2,h3,h4,h5,h6,h7,h8,h9,h10⟩
  exact ⟨⟨⟨⟨h1,h2⟩,h3,h4⟩,⟨h5,⟨h6,h7⟩,h8⟩,h9⟩,h10⟩
theorem aYD {x:aQ} (hb:byt x.Entry.Part.Data):fR x=true↔jG x:=by
 unfold fR jG
 simp only [Bool.and_eq_true,decide_eq_true_eq,xC hb]
 exact and_assoc
theorem aKU {l:List aQ} (hb:∀ x∈l,byt x.Entry.Part.Data) {a b:Int} (h:eL l a b=true):(a≤(l.length:Int)∧(l.length:Int)≤b)∧∀ x∈l,jG x:=by
 unfold eL at h
 simp only [Bool.and_eq_true,decide_eq_true_eq,List.all_eq_true] at h
 exact ⟨h.1,fun x hx=>(aYD (hb x hx)).1 (h.2 x hx)⟩
section
variable {N:Nat} {e0:Int} {w:List Int}
def spP (m:aB):Prop :=
 (m.Kind=2→m.List_.length≤4096∧∀ x∈m.List_,jG x)∧(m.Kind=3→m.List_.length≤4096∧∀ x∈m.List_,jG x)∧(m.Kind=6→m.List_.length≤4096∧∀ x∈m.List_,jG x) ∧
 (m.Kind=9→nD m.Entry)∧(m.Kind=11→sit m.Origin∧eR m.Ops)∧(m.Kind=12→eC m.Epoch)∧(m.Kind=13→dL m.Part)∧(m.Kind=15→dL m.Part)
theorem aKV {m:aB} (hb:iP m) (h:sp2 m=true):spP m:=by
 unfold sp2 at h
 refine ⟨fun e=>?_,fun e=>?_,fun e=>?_,fun e=>?_,fun e=>?_,fun e=>?_,fun e=>?_,fun e=>?_⟩<;>rw [e] at h<;>simp only [Int.reduceBEq,cond_true,cond_false] at h
 ·obtain ⟨⟨_,h1⟩,h2⟩:=aKU hb.1 h; exact ⟨by omega,h2⟩
 ·obtain ⟨⟨_,h1⟩,h2⟩:=aKU hb.1 h; exact ⟨by omega,h2⟩
 ·obtain ⟨⟨_,h1⟩,h2⟩:=aKU hb.1 h; exact ⟨by omega,h2⟩
 ·exact (xC hb.2.1).1 h
 ·simpa using h
 ·simpa using h
 ·simpa using h
 ·simpa using h
theorem qT {a:aS} (h:eG a):R64 a.Group∧R64 a.Replica:=by
 obtain ⟨⟨h1,h2⟩,h3,h4⟩:=h
 exact ⟨⟨by omega,by omega⟩,⟨by omega,by omega⟩⟩
theorem aPH (m:aB):(hdC m).flatten=([m.Kind,m.From.Group,m.From.Replica,m.To.Group,m.To.Replica].map pI).flatten:=by simp [hdC]
theorem aPI (b:aP):(baC b).flatten=([b.Round,b.Replica].map pI).flatten:=by simp [baC]
theorem k64 {m:aB} (h:hJ m):R64 m.Kind:=⟨by have:=h.1; omega,by have:=h.2; omega⟩
theorem hd5 {m:aB} (h:lA m):∀ n∈[m.Kind,m.From.Group,m.From.Replica,m.To.Group,m.To.Replica],R64 n:=by
 intro n hn
 simp only [List.mem_cons,List.mem_nil_iff,or_false] at hn
 rcases hn with rfl | rfl | rfl | rfl | rfl
 ·exact k64 h.kind
 ·exact (qT h.from_).1
 ·exact (qT h.from_).2
 ·exact (qT h.to_).1
 ·exact (qT h.to_).2
theorem aYE (hN:20≤N) {m:aB} (hr:roomM N m) (h:lA m):aCD N m=some (msB m)∧(msB m).length≤15000001000:=by
 have hs:=aKV hr.byt h.sp
 have hk':=xD h.kind
 have g1:iX N [m.Kind,m.From.Group,m.From.Replica,m.To.Group,m.To.Replica]=some (hdC m).flatten:=by
  rw [qR hN (by simp; omega) (by simp) (hd5 h),aPH]
 have g2:iX N [m.Ballot.Round,m.Ballot.Replica]=some (baC m.Ballot).flatten:=by
  rw [qR hN (by simp; omega) (by simp) (kZ (eM h.ba).1 (eM h.ba).2),aPI]
 have l0:(hdC m).flatten.length≤50:=by have:=eB (hd5 h); rw [aPH]; simpa using this
 have lb:(baC m.Ballot).flatten.length≤20:=by have:=eB (kZ (eM h.ba).1 (eM h.ba).2); rw [aPI]; simpa using this
 have lS:([m.Slot].map pI).flatten.length≤10:=by have:=eB (iQ (bA h.slot)); simpa using this
 have lN:([m.Number].map pI).flatten.length≤10:=by have:=eB (iQ (bA h.number)); simpa using this
 have lC:([m.Clock].map pI).flatten.length≤10:=by have:=eB (iQ (bA h.clock)); simpa using this
 have lV:=aPC (fun n hn=>bA (h.vec n hn))
 have gS:∀ {b:List Int},b.length≤60000000000000→bX N b [m.Slot]=some (b++([m.Slot].map pI).flatten):=fun hb=>kY hN hb (by simp; omega) (by simp) (iQ (bA h.slot))
 have gN:∀ {b:List Int},b.length≤60000000000000→bX N b [m.Number]=some (b++([m.Number].map pI).flatten):=fun hb=>kY hN hb (by simp; omega) (by simp) (iQ (bA h.number))
 have gC:∀ {b:List Int},b.length≤60000000000000→bX N b [m.Clock]=some (b++([m.Clock].map pI).flatten):=fun hb=>kY hN hb (by simp; omega) (by simp) (iQ (bA h.clock))
 have gV:=aPB hN (fun n hn=>bA (h.vec n hn))
 unfold aCD
 rw [g1,Option.bind_some,g2,Option.bind_some]
 generalize hH:(hdC m).flatten=H at l0
 generalize hB:(baC m.Ballot).flatten=B at lb
 rcases hk' with hk | hk | hk | hk | hk | hk | hk | hk | hk | hk | hk | hk | hk | hk | hk
 ·have e1:msB m=H++(baC m.Ballot++[m.Slot].map pI).flatten:=by unfold msB msC bdC; rw [hk,List.flatten_append,hH]; rfl
  rw [hk]; simp only [Int.reduceBEq,cond_true,cond_false]
  rw [bY (by (try simp only [List.length_append]); omega),cond_true,gS (by (try simp only [List.length_append]); omega),Option.bind_some]
  rw [e1]; try simp only [List.flatten_append]
  rw [hB]
  exact ⟨by first | rfl | simp only [List.append_assoc],by (try simp only [List.length_append]); omega⟩
 ·have e1:msB m=H++(baC m.Ballot++[m.Slot].map pI++lsC m.List_).flatten:=by unfold msB msC bdC; rw [hk,List.flatten_append,hH]; rfl
  obtain ⟨q1,q2⟩:=hs.1 hk
  have lL:=aKR q1 q2
  rw [hk]; simp only [Int.reduceBEq,cond_true,cond_false]
  rw [bY (by (try simp only [List.length_append]); omega),cond_true,gS (by (try simp only [List.length_append]); omega),Option.bind_some,aKS hr.1 q1 q2,Option.bind_some,bY (by (try simp only [List.length_append]); omega),cond_true]
  rw [e1]; try simp only [List.flatten_append]
  rw [hB]
  exact ⟨by first | rfl | simp only [List.append_assoc],by (try simp only [List.length_append]); omega⟩
 ·have e1:msB m=H++(baC m.Ballot++lsC m.List_).flatten:=by unfold msB msC bdC; rw [hk,List.flatten_append,hH]; rfl
  obtain ⟨q1,q2⟩:=hs.2.1 hk
  have lL:=aKR q1 q2
  rw [hk]; simp only [Int.reduceBEq,cond_true,cond_false]
  rw [bY (by (try simp only [List.length_append]); omega),cond_true,aKS hr.1 q1 q2,Option.bind_some,bY (by (try simp only [List.length_append]); omega),cond_true]
  rw [e1]; try simp only [List.flatten_append]
  rw [hB]
  exact ⟨by first | rfl | simp only [List.append_assoc],by (try simp only [List.length_append]); omega⟩
 ·have e1:msB m=H++(baC m.Ballot++[m.Slot].map pI).flatten:=by unfold msB msC bdC; rw [hk,List.flatten_append,hH]; rfl
  rw [hk]; simp only [Int.reduceBEq,cond_true,cond_false]
  rw [bY (by (try simp only [List.length_append]); omega),cond_true,gS (by (try simp only [List.length_append]); omega),Option.bind_some]
  rw [e1]; try simp only [List.flatten_append]
  rw [hB]
  exact ⟨by first | rfl | simp only [List.append_assoc],by (try simp only [List.length_append]); omega⟩
 ·have e1:msB m=H++(baC m.Ballot).flatten:=by unfold msB msC bdC; rw [hk,List.flatten_append,hH]; rfl
  rw [hk]; simp only [Int.reduceBEq,cond_true,cond_false]
  rw [bY (by (try simp only [List.length_append]); omega),cond_true]
  rw [e1]; try simp only [List.flatten_append]
  rw [hB]
  exact ⟨by first | rfl | simp only [List.append_assoc],by (try simp only [List.length_append]); omega⟩
 ·have e1:msB m=H++(lsC m.List_).flatten:=by unfold msB msC bdC; rw [hk,List.flatten_append,hH]; rfl
  obtain ⟨q1,q2⟩:=hs.2.2.1 hk
  have lL:=aKR q1 q2
  rw [hk]; simp only [Int.reduceBEq,cond_true,cond_false]
  rw [aKS hr.1 q1 q2,Option.bind_some,bY (by (try simp only [List.length_append]); omega),cond_true]
  rw [e1]; try simp only [List.flatten_append]
  exact ⟨by first | rfl | simp only [List.append_assoc],by (try simp only [List.length_append]); omega⟩
 ·have e1:msB m=H++(baC m.Ballot++[m.Slot].map pI).flatten:=by unfold msB msC bdC; rw [hk,List.flatten_append,hH]; rfl
  rw [hk]; simp only [Int.reduceBEq,cond_true,cond_false]
  rw [bY (by (try simp only [List.length_append]); omega),cond_true,gS (by (try simp only [List.length_append]); omega),Option.bind_some]
  rw [e1]; try simp only [List.flatten_append]
  rw [hB]
  exact ⟨by first | rfl | simp only [List.append_assoc],by (try simp only [List.length_append]); omega⟩
 ·have e1:msB m=H++([m.Slot].map pI).flatten:=by unfold msB msC bdC; rw [hk,List.flatten_append,hH]; rfl
  rw [hk]; simp only [Int.reduceBEq,cond_true,cond_false]
  rw [gS (by omega),Option.bind_some]
  rw [e1]; try simp only [List.flatten_append]
  exact ⟨by first | rfl | simp only [List.append_assoc],by (try simp only [List.length_append]); omega⟩
 ·have e1:msB m=H++(enC m.Entry).flatten:=by unfold msB msC bdC; rw [hk,List.flatten_append,hH]; rfl
  have q:=aKQ hr.2.1.1 (hs.2.2.2.1 hk)
  have lE:(enC m.Entry).flatten.length≤3500000:=q.2
  rw [hk]; simp only [Int.reduceBEq,cond_true,cond_false]
  rw [q.1,Option.bind_some,show enB m.Entry=(enC m.Entry).flatten from rfl,bY (by (try simp only [List.length_append]); omega),cond_true]
  rw [e1]; try simp only [List.flatten_append]
  exact ⟨by first | rfl | simp only [List.append_assoc],by (try simp only [List.length_append]); omega⟩
 ·have e1:msB m=H++([m.Number].map pI++m.Vector_.toList.map pI++[m.Clock].map pI).flatten:=by unfold msB msC bdC; rw [hk,List.flatten_append,hH]; rfl
  rw [hk]; simp only [Int.reduceBEq,cond_true,cond_false]
  rw [gN (by omega),Option.bind_some,gV,Option.bind_some,bY (by (try simp only [List.length_append]); omega),cond_true,gC (by (try simp only [List.length_append]); omega),Option.bind_some]
  rw [e1]; try simp only [List.flatten_append]
  exact ⟨by first | rfl | simp only [List.append_assoc],by (try simp only [List.length_append]); omega⟩
 ·have e1:msB m=H++([m.Number].map pI++[m.Origin].map pI++[m.Slot].map pI++gG m.Ops).flatten:=by unfold msB msC bdC; rw [hk,List.flatten_append,hH]; rfl
  obtain ⟨q1,q2⟩:=hs.2.2.2.2.1 hk
  have lO:=aPz q2
  have l3:([m.Number,m.Origin,m.Slot].map pI).flatten.length≤30:=by have:=eB (all3 (bA h.number) (dI q1) (bA h.slot)); simpa using this
  rw [hk]; simp only [Int.reduceBEq,cond_true,cond_false]
  rw [kY hN (by omega) (by simp; omega) (by simp) (all3 (bA h.number) (dI q1) (bA h.slot)),Option.bind_some,aPy hr.2.2.1.1 q2.2.1 q2.2.2,Option.bind_some,bY (by (try simp only [List.length_append]); omega),cond_true]
  have e2:([m.Number].map pI++[m.Origin].map pI++[m.Slot].map pI++gG m.Ops).flatten=([m.Number,m.Origin,m.Slot].map pI).flatten++(gG m.Ops).flatten:=by simp
  rw [e1,e2]
  exact ⟨by rw [List.append_assoc],by (try simp only [List.length_append]); omega⟩
 ·have e1:msB m=H++(epC m.Epoch).flatten:=by unfold msB msC bdC; rw [hk,List.flatten_append,hH]; rfl
  have q:=hs.2.2.2.2.2.1 hk
  have lP:(epC m.Epoch).flatten.length≤250:=aOw q
  rw [hk]; simp only [Int.reduceBEq,cond_true,cond_false]
  rw [aPw hN q,Option.bind_some,show epB m.Epoch=(epC m.Epoch).flatten from rfl,bY (by (try simp only [List.length_append]); omega),cond_true]
  rw [e1]; try simp only [List.flatten_append]
  exact ⟨by first | rfl | simp only [List.append_assoc],by (try simp only [List.length_append]); omega⟩
 ·have e1:msB m=H++(ptC m.Part).flatten:=by unfold msB msC bdC; rw [hk,List.flatten_append,hH]; rfl
  have q:=hs.2.2.2.2.2.2.1 hk
  have lP:=aKP q
  rw [hk]; simp only [Int.reduceBEq,cond_true,cond_false]
  rw [aKO hN q,Option.bind_some,bY (by (try simp only [List.length_append]); omega),cond_true]
  rw [e1]; try simp only [List.flatten_append]
  exact ⟨by first | rfl | simp only [List.append_assoc],by (try simp only [List.length_append]); omega⟩
 ·have e1:msB m=H++([m.Number].map pI++m.Vector_.toList.map pI).flatten:=by unfold msB msC bdC; rw [hk,List.flatten_append,hH]; rfl
  rw [hk]; simp only [Int.reduceBEq,cond_true,cond_false]
  rw [gN (by omega),Option.bind_some,gV,Option.bind_some,bY (by (try simp only [List.length_append]); omega),cond_true]
  rw [e1]; try simp only [List.flatten_append]
  exact ⟨by first | rfl | simp only [List.append_assoc],by (try simp only [List.length_append]); omega⟩
 ·have e1:msB m=H++([m.Slot].map pI++ptC m.Part).flatten:=by unfold msB msC bdC; rw [hk,List.flatten_append,hH]; rfl
  have q:=hs.2.2.2.2.2.2.2 hk
  have lP:=aKP q
  rw [hk]; simp only [Int.reduceBEq,cond_true,cond_false]
  rw [gS (by omega),Option.bind_some,aKO hN q,Option.bind_some,bY (by (try simp only [List.length_append]); omega),cond_true]
  rw [e1]; try simp only [List.flatten_append]
  exact ⟨by first | rfl | simp only [List.append_assoc],by (try simp only [List.length_append]); omega⟩
theorem aYF (hN:20≤N) {m:aB} (hr:roomM N m) (h:lA m) (hw:w.length≤1048576):aBQ N m e0 true w=some (wr e0 w (msC m)):=by
 have hs:=aKV hr.byt h.sp
 have hk':=xD h.kind
 unfold aBQ
 rw [nF hN (k64 h.kind) hw,Option.bind_some,cV,aPG hN h.from_ (bL hw _),bJ,Option.bind_some,cV,aPG hN h.to_ (bL hw _),bJ,Option.bind_some,cV]
 have e0':msC m=([m.Kind].map pI++[m.From.Group,m.From.Replica].map pI++[m.To.Group,m.To.Replica].map pI)++bdC m:=rfl
 rw [e0']
 generalize ([m.Kind].map pI++[m.From.Group,m.From.Replica].map pI++[m.To.Group,m.To.Replica].map pI)=H
 rcases hk' with hk | hk | hk | hk | hk | hk | hk | hk | hk | hk | hk | hk | hk | hk | hk
 ·have e1:bdC m=baC m.Ballot++[m.Slot].map pI:=by unfold bdC; rw [hk]; rfl
  rw [hk]; simp only [Int.reduceBEq,cond_true,cond_false]
  rw [tN hN h.ba (bL hw _),bJ,Option.bind_some,cV,fN hN (bA h.slot) (bL hw _),bJ,Option.bind_some]
  first | (rw [e1]; done) | (rw [e1]; rfl) | (rw [e1]; simp only [List.append_assoc]; done) | (rw [e1]; simp only [List.append_assoc]; rfl)
 ·have e1:bdC m=baC m.Ballot++[m.Slot].map pI++lsC m.List_:=by unfold bdC; rw [hk]; rfl
  obtain ⟨q1,q2⟩:=hs.1 hk
  rw [hk]; simp only [Int.reduceBEq,cond_true,cond_false]
  rw [tN hN h.ba (bL hw _),bJ,Option.bind_some,cV,fN hN (bA h.slot) (bL hw _),bJ,Option.bind_some,cV,aKT hr.1 q1 q2 (bL hw _),bJ,Option.bind_some]
  first | (rw [e1]; done) | (rw [e1]; rfl) | (rw [e1]; simp only [List.append_assoc]; done) | (rw [e1]; simp only [List.append_assoc]; rfl)
 ·have e1:bdC m=baC m.Ballot++lsC m.List_:=by unfold bdC; rw [hk]; rfl
  obtain ⟨q1,q2⟩:=hs.2.1 hk
  rw [hk]; simp only [Int.reduceBEq,cond_true,cond_false]
  rw [tN hN h.ba (bL hw _),bJ,Option.bind_some,cV,aKT hr.1 q1 q2 (bL hw _),bJ,Option.bind_some]
  first | (rw [e1]; done) | (rw [e1]; rfl) | (rw [e1]; simp only [List.append_assoc]; done) | (rw [e1]; simp only [List.append_assoc]; rfl)
 ·have e1:bdC m=baC m.Ballot++[m.Slot].map pI:=by unfold bdC; rw [hk]; rfl
  rw [hk]; simp only [Int.reduceBEq,cond_true,cond_false]
  rw [tN hN h.ba (bL hw _),bJ,Option.bind_some,cV,fN hN (bA h.slot) (bL hw _),bJ,Option.bind_some]
  first | (rw [e1]; done) | (rw [e1]; rfl) | (rw [e1]; simp only [List.append_assoc]; done) | (rw [e1]; simp only [List.append_assoc]; rfl)
 ·have e1:bdC m=baC m.Ballot:=by unfold bdC; rw [hk]; rfl
  rw [hk]; simp only [Int.reduceBEq,cond_true,cond_false]
  rw [tN hN h.ba (bL hw _),bJ,Option.bind_some]
  first | (rw [e1]; done) | (rw [e1]; rfl) | (rw [e1]; simp only [List.append_assoc]; done) | (rw [e1]; simp only [List.append_assoc]; rfl)
 ·have e1:bdC m=lsC m.List_:=by unfold bdC; rw [hk]; rfl
  obtain ⟨q1,q2⟩:=hs.2.2.1 hk
  rw [hk]; simp only [Int.reduceBEq,cond_true,cond_false]
  rw [aKT hr.1 q1 q2 (bL hw _),bJ,Option.bind_some]
  first | (rw [e1]; done) | (rw [e1]; rfl) | (rw [e1]; simp only [List.append_assoc]; done) | (rw [e1]; simp only [List.append_assoc]; rfl)
 ·have e1:bdC m=baC m.Ballot++[m.Slot].map pI:=by unfold bdC; rw [hk]; rfl
  rw [hk]; simp only [Int.reduceBEq,cond_true,cond_false]
  rw [tN hN h.ba (bL hw _),bJ,Option.bind_some,cV,fN hN (bA h.slot) (bL hw _),bJ,Option.bind_some]
  first | (rw [e1]; done) | (rw [e1]; rfl) | (rw [e1]; simp only [List.append_assoc]; done) | (rw [e1]; simp only [List.append_assoc]; rfl)
 ·have e1:bdC m=[m.Slot].map pI:=by unfold bdC; rw [hk]; rfl
  rw [hk]; simp only [Int.reduceBEq,cond_true,cond_false]
  rw [fN hN (bA h.slot) (bL hw _),bJ,Option.bind_some]
  first | (rw [e1]; done) | (rw [e1]; rfl) | (rw [e1]; simp only [List.append_assoc]; done) | (rw [e1]; simp only [List.append_assoc]; rfl)
 ·have e1:bdC m=enC m.Entry:=by unfold bdC; rw [hk]; rfl
  rw [hk]; simp only [Int.reduceBEq,cond_true,cond_false]
  rw [aPi hr.2.1.1 (hs.2.2.2.1 hk) (bL hw _),bJ,Option.bind_some]
  first | (rw [e1]; done) | (rw [e1]; rfl) | (rw [e1]; simp only [List.append_assoc]; done) | (rw [e1]; simp only [List.append_assoc]; rfl)
 ·have e1:bdC m=[m.Number].map pI++m.Vector_.toList.map pI++[m.Clock].map pI:=by unfold bdC; rw [hk]; rfl
  rw [hk]; simp only [Int.reduceBEq,cond_true,cond_false]
  rw [fN hN (bA h.number) (bL hw _),bJ,Option.bind_some,cV,aDJ hN (fun n hn=>bA (h.vec n hn)) (bL hw _),bJ,Option.bind_some,cV,fN hN (bA h.clock) (bL hw _),bJ,Option.bind_some]
  first | (rw [e1]; done) | (rw [e1]; rfl) | (rw [e1]; simp only [List.append_assoc]; done) | (rw [e1]; simp only [List.append_assoc]; rfl)
 ·have e1:bdC m=[m.Number].map pI++[m.Origin].map pI++[m.Slot].map pI++gG m.Ops:=by unfold bdC; rw [hk]; rfl
  obtain ⟨q1,q2⟩:=hs.2.2.2.2.1 hk
  rw [hk]; simp only [Int.reduceBEq,cond_true,cond_false]
  rw [fN hN (bA h.number) (bL hw _),bJ,Option.bind_some,cV,nF hN (dI q1) (bL hw _),bJ,Option.bind_some,cV,fN hN (bA h.slot) (bL hw _),bJ,Option.bind_some,cV,aPh hr.2.2.1.1 q2 (bL hw _),bJ,Option.bind_some]
  first | (rw [e1]; done) | (rw [e1]; rfl) | (rw [e1]; simp only [List.append_assoc]; done) | (rw [e1]; simp only [List.append_assoc]; rfl)
 ·have e1:bdC m=epC m.Epoch:=by unfold bdC; rw [hk]; rfl
  rw [hk]; simp only [Int.reduceBEq,cond_true,cond_false]
  rw [aPg hN (hs.2.2.2.2.2.1 hk) (bL hw _),bJ,Option.bind_some]
  first | (rw [e1]; done) | (rw [e1]; rfl) | (rw [e1]; simp only [List.append_assoc]; done) | (rw [e1]; simp only [List.append_assoc]; rfl)
 ·have e1:bdC m=ptC m.Part:=by unfold bdC; rw [hk]; rfl
  rw [hk]; simp only [Int.reduceBEq,cond_true,cond_false]
  rw [aKI hN (hs.2.2.2.2.2.2.1 hk) (bL hw _),bJ,Option.bind_some]
  first | (rw [e1]; done) | (rw [e1]; rfl) | (rw [e1]; simp only [List.append_assoc]; done) | (rw [e1]; simp only [List.append_assoc]; rfl)
 ·have e1:bdC m=[m.Number].map pI++m.Vector_.toList.map pI:=by unfold bdC; rw [hk]; rfl
  rw [hk]; simp only [Int.reduceBEq,cond_true,cond_false]
  rw [fN hN (bA h.number) (bL hw _),bJ,Option.bind_some,cV,aDJ hN (fun n hn=>bA (h.vec n hn)) (bL hw _),bJ,Option.bind_some]
  first | (rw [e1]; done) | (rw [e1]; rfl) | (rw [e1]; simp only [List.append_assoc]; done) | (rw [e1]; simp only [List.append_assoc]; rfl)
 ·have e1:bdC m=[m.Slot].map pI++ptC m.Part:=by unfold bdC; rw [hk]; rfl
  rw [hk]; simp only [Int.reduceBEq,cond_true,cond_false]
  rw [fN hN (bA h.slot) (bL hw _),bJ,Option.bind_some,cV,aKI hN (hs.2.2.2.2.2.2.2 hk) (bL hw _),bJ,Option.bind_some]
  first | (rw [e1]; done) | (rw [e1]; rfl) | (rw [e1]; simp only [List.append_assoc]; done) | (rw [e1]; simp only [List.append_assoc]; rfl)
theorem sl_CB {x:aQ} (h:jG x) (hb:byt x.Entry.Part.Data):CB (slC x) :=
 ((CB.int1 (bA h.1)).append ((CB.int1 (eM h.2.1).1).append (CB.int1 (eM h.2.1).2))).append (CB.en h.2.2 hb)
theorem aKW {l:List aQ} (hl:l.length≤4096) (h:∀ x∈l,jG x) (hb:∀ x∈l,byt x.Entry.Part.Data):CB (lsC l) :=
 (CB.int1 ⟨by omega,by omega⟩).append fun c hc=>by
  obtain ⟨cs,hcs,hc⟩:=List.mem_flatten.1 hc
  obtain ⟨o,ho,rfl⟩:=List.mem_map.1 hcs
  exact sl_CB (h o ho) (hb o ho) c hc
theorem ms_CB {m:aB} (hb:iP m) (h:lA m):CB (msC m):=by
 have hs:=aKV hb h.sp
 have hk':=xD h.kind
 refine (((CB.int1 (k64 h.kind)).append (CB.int2 (qT h.from_).1 (qT h.from_).2)).append (CB.int2 (qT h.to_).1 (qT h.to_).2)).append ?_
 rcases hk' with hk | hk | hk | hk | hk | hk | hk | hk | hk | hk | hk | hk | hk | hk | hk
 ·rw [show bdC m=baC m.Ballot++[m.Slot].map pI by unfold bdC; rw [hk]; rfl]
  exact ((((CB.int1 (eM h.ba).1).append (CB.int1 (eM h.ba).2))).append (CB.int1 (bA h.slot)))
 ·rw [show bdC m=baC m.Ballot++[m.Slot].map pI++lsC m.List_ by unfold bdC; rw [hk]; rfl]
  obtain ⟨q1,q2⟩:=hs.1 hk
  exact (((((CB.int1 (eM h.ba).1).append (CB.int1 (eM h.ba).2))).append (CB.int1 (bA h.slot))).append (aKW q1 q2 hb.1))
 ·rw [show bdC m=baC m.Ballot++lsC m.List_ by unfold bdC; rw [hk]; rfl]
  obtain ⟨q1,q2⟩:=hs.2.1 hk
  exact ((((CB.int1 (eM h.ba).1).append (CB.int1 (eM h.ba).2))).append (aKW q1 q2 hb.1))
 ·rw [show bdC m=baC m.Ballot++[m.Slot].map pI by unfold bdC; rw [hk]; rfl]
  exact ((((CB.int1 (eM h.ba).1).append (CB.int1 (eM h.ba).2))).append (CB.int1 (bA h.slot)))
 ·rw [show bdC m=baC m.Ballot by unfold bdC; rw [hk]; rfl]
  exact (((CB.int1 (eM h.ba).1).append (CB.int1 (eM h.ba).2)))
 ·rw [show bdC m=lsC m.List_ by unfold bdC; rw [hk]; rfl]
  obtain ⟨q1,q2⟩:=hs.2.2.1 hk
  exact (aKW q1 q2 hb.1)
 ·rw [show bdC m=baC m.Ballot++[m.Slot].map pI by unfold bdC; rw [hk]; rfl]
  exact ((((CB.int1 (eM h.ba).1).append (CB.int1 (eM h.ba).2))).append (CB.int1 (bA h.slot)))
 ·rw [show bdC m=[m.Slot].map pI by unfold bdC; rw [hk]; rfl]
  exact (CB.int1 (bA h.slot))
 ·rw [show bdC m=enC m.Entry by unfold bdC; rw [hk]; rfl]
  exact (CB.en (hs.2.2.2.1 hk) hb.2.1)
 ·rw [show bdC m=[m.Number].map pI++m.Vector_.toList.map pI++[m.Clock].map pI by unfold bdC; rw [hk]; rfl]
  exact (((CB.int1 (bA h.number)).append (CB.ints (fun n hn=>bA (h.vec n hn)))).append (CB.int1 (bA h.clock)))
 ·rw [show bdC m=[m.Number].map pI++[m.Origin].map pI++[m.Slot].map pI++gG m.Ops by unfold bdC; rw [hk]; rfl]
  obtain ⟨q1,q2⟩:=hs.2.2.2.2.1 hk
  exact ((((CB.int1 (bA h.number)).append (CB.int1 (dI q1))).append (CB.int1 (bA h.slot))).append (CB.ops q2))
 ·rw [show bdC m=epC m.Epoch by unfold bdC; rw [hk]; rfl]
  exact (CB.ep (hs.2.2.2.2.2.1 hk))
 ·rw [show bdC m=ptC m.Part by unfold bdC; rw [hk]; rfl]
  exact (CB.pt (hs.2.2.2.2.2.2.1 hk) hb.2.2)
 ·rw [show bdC m=[m.Number].map pI++m.Vector_.toList.map pI by unfold bdC; rw [hk]; rfl]
  exact ((CB.int1 (bA h.number)).append (CB.ints (fun n hn=>bA (h.vec n hn))))
 ·rw [show bdC m=[m.Slot].map pI++ptC m.Part by unfold bdC; rw [hk]; rfl]
  exact ((CB.int1 (bA h.slot)).append (CB.pt (hs.2.2.2.2.2.2.2 hk) hb.2.2))
theorem aDN {m:aB} (hb:iP m) (h:lA m):byt (msB m):=(ms_CB hb h).flat
theorem aYG (s:Int):byt (dD s):=aX1 s
theorem aPJ {b:List Int} (hl:b.length≤1048576) (hb:byt b):byt (aW b):=fun x hx=>by
 unfold aW at hx
 rcases List.mem_append.1 hx with hx | hx
 ·rcases List.mem_append.1 hx with hx | hx
  ·exact aKJ (n:=(b.length:Int)) ⟨by omega,by omega⟩ x hx
  ·exact hb x hx
 ·exact aYG _ x hx
end
theorem aKX {c:List Int} (hl:c.length≤1048576):R64 (c.length:Int):=⟨by omega,by omega⟩
section
variable {N:Nat} {b:List Int}
theorem aYH (hN:b.length+20≤N) (hb:∀ x∈b,bS x) (h:b.length≤1048576):∃ g,yV N b=some ((aW b).length,0,g)∧(aW b).length≤g.length∧g.take (aW b).length=aW b:=by
 unfold yV
 have hd:decide (1048576 < (b.length:Int))=false:=by simp; omega
 have hv:=gZ (jF (aKX h))
 rw [hd]
 simp only [cond_false]
 rw [aKt (by omega) (aKX h),Option.bind_some,aOQ (by simp; omega) (by simp) (by intro m hm; simp at hm; subst hm; exact ⟨by omega,by omega,hb⟩),Option.bind_some]
 rw [show [b].flatten=b by simp,show yU N (cQ b)=some (dD (cQ b)) from rfl,Option.bind_some]
 obtain ⟨r,h1,h2,h3⟩:=aX2 (N:=N) (l:=[bI (zig (b.length:Int)),b,dD (cQ b)]) (by simp; omega) (by simp) (by simp [jW]; omega)
 have h4:[bI (zig (b.length:Int)),b,dD (cQ b)].flatten=aW b:=by simp [aW]
 rw [h4] at h3
 have h5:r.1=(aW b).length:=by rw [← h3,List.length_take]; omega
 refine ⟨r.2,by rw [h1,← h5]; rfl,by omega,by rw [← h5]; exact h3⟩
theorem aYI {n m:Int} (h0:0≤n) (hm:0 < m):0≤Int.tmod n m∧Int.tmod n m < m:=⟨Int.tmod_nonneg _ h0,Int.tmod_lt_of_pos _ hm⟩
end
end Go.Proofs.YtddpmkmgbdedlaaGreat
