/-
Plain laws of another seat,turned to this one by wip/tools/ren2.py.
-/
import Derived.Test.YtddpmkmgbdedlaaGreatqFd
import Derived.Test.YtddpmkmgbdedlaaGreatqWt
import Derived.KernelRfl
set_option linter.unusedVariables false
set_option linter.unusedSimpArgs false
namespace Go.Proofs.YtddpmkmgbdedlaaGreat
open Go Go.Ev
section
variable {N:Nat} {e0:Int} {w:List Int}
theorem Fc (hN:20≤N){b l:List Int}(hb:b.length≤60000000000000)(hl:l.length < N)(V0:l.length≤1000)(hr:∀ n∈l,Fi n):bA N b l=some (b++(l.map pI).flatten):=by
 unfold bA
 refine dU (fun q:mY=>0≤q.i∧q.i≤(l.length:Int)∧(q.b.length:Int)≤b.length+10 * q.i∧q.b++((l.drop q.i.toNat).map pI).flatten=b++(l.map pI).flatten) (fun q=>((l.length:Int) - q.i).toNat) ?_ N _ ⟨by simp,by simp,by simp,by simp⟩ (by simp;omega)
 rintro⟨c,i⟩ nx ⟨g0,g1,g2,hq⟩ ih
 simp only at g0 g1 g2 hq ih ⊢
 by_cases hi:i < l.length
 ·have hm:=hr _ (jS (default:Int) g0 hi)
  have hp:=Cd hm
  rw[dC (default:Int) g0 hi,List.map_cons,List.flatten_cons]at hq
  simp only[decide_eq_true hi,dT g0 hi,cond_true]
  rw[XV (by omega) hm,Option.bind_some,dI (by unfold pI at hp;omega),wrap64 (by omega) (by omega)]
  exact ih ⟨_,i+1⟩ ⟨by simp;omega,by simp;omega,by simp only[List.length_append];unfold pI at hp;omega,by simp only[List.append_assoc];exact hq⟩ (by simp;omega)
 ·have:decide (i < (l.length:Int))=false:=by simpa using hi
  simp only[this,cond_false]
  rw[List.drop_eq_nil_of_le (by omega)]at hq
  rw[← hq];simp
theorem LB {a:Int}(ha:Fi a):∀ n∈[a],Fi n:=by intro n hn;simp at hn;subst hn;exact ha
theorem VR {a b:Int}(ha:Fi a)(hb:Fi b):∀ n∈[a,b],Fi n:=by intro n hn;simp at hn;rcases hn with rfl|rfl<;>assumption
theorem xm {a b c:Int}(ha:Fi a)(hb:Fi b)(hc:Fi c):∀ n∈[a,b,c],Fi n:=by intro n hn;simp at hn;rcases hn with rfl|rfl|rfl<;>assumption
theorem I1 (l:List dP):((l.map opC).flatten).flatten=(l.map opB).flatten:=by
 induction l with
 |nil=>rfl
 |cons x l ih=>simp only[List.map_cons,List.flatten_cons,List.flatten_append,ih];rfl
theorem aAZ {l:List dP}(h:∀ o∈l,uN o):(l.map opB).flatten.length≤845 * l.length:=by
 induction l with
 |nil=>simp
 |cons x l ih =>
  have h1:=Q8 (h x (by simp))
  have h2:=ih fun o ho=>h o (by simp[ho])
  simp only[List.map_cons,List.flatten_cons,List.length_append,List.length_cons];omega
theorem g9 {l:List dP}(hN:l.length+20≤N)(hl:l.length≤4096)(h:∀ o∈l,uN o):rQ N l=some (GX l).flatten:=by
 unfold rQ
 have hr:Fi (l.length:Int):=⟨by omega,by omega⟩
 have hp:=Cd hr
 rw[GC (by omega) (by simp;omega) (by simp) (LB hr),Option.bind_some]
 have aIY:(GX l).flatten=([(l.length:Int)].map pI).flatten++(l.map opB).flatten:=by
  unfold GX;rw[List.flatten_append,I1]
 rw[aIY]
 refine dU (fun q:rH=>0≤q.i∧q.i≤(l.length:Int)∧(q.b.length:Int)≤10+845 * q.i∧q.b++((l.drop q.i.toNat).map opB).flatten=([(l.length:Int)].map pI).flatten++(l.map opB).flatten) (fun q=>((l.length:Int) - q.i).toNat) ?_ N _ ⟨by simp,by simp,by simp;omega,by simp⟩ (by simp;omega)
 rintro⟨c,i⟩ nx ⟨g0,g1,g2,hq⟩ ih
 simp only at g0 g1 g2 hq ih ⊢
 by_cases hi:i < l.length
 ·have hm:=h _ (jS (default:dP) g0 hi)
  have hp:=Q8 hm
  rw[dC (default:dP) g0 hi,List.map_cons,List.flatten_cons]at hq
  simp only[decide_eq_true hi,dT g0 hi,cond_true]
  change (yZ N (aE l i default)).bind _=_
  rw[I0 (by omega) hm,Option.bind_some,dI (by omega),wrap64 (by omega) (by omega)]
  exact ih ⟨_,i+1⟩ ⟨by simp;omega,by simp;omega,by simp only[List.length_append];omega,by simp only[List.append_assoc];exact hq⟩ (by simp;omega)
 ·have:decide (i < (l.length:Int))=false:=by simpa using hi
  simp only[this,cond_false]
  rw[List.drop_eq_nil_of_le (by omega)]at hq
  rw[← hq];simp
theorem bu {l:List dP}(h:uY l):(GX l).flatten.length≤3461130:=by
 obtain⟨h1,h2,h3⟩:=h
 have:=aAZ h3
 have hp:=Cd (n:=(l.length:Int)) ⟨by omega,by omega⟩
 unfold GX
 rw[List.flatten_append,I1,List.length_append]
 simp only[List.map_cons,List.map_nil,List.flatten_cons,List.flatten_nil,List.append_nil]
 omega
theorem cd (p:aK):(fg p).flatten=([p.Qz,p.Index,p.Hq].map pI).flatten++pB p.Data:=by
 simp[fg]
theorem HB (hN:20≤N){p:aK}(h:wJ p):iV N p=some (fg p).flatten:=by
 obtain⟨h1,⟨h2,h3⟩,⟨h4,h5⟩,h6⟩:=h
 have hr:∀ n∈[p.Qz,p.Index,p.Hq],Fi n:=xm (dE h1) ⟨by omega,by omega⟩ ⟨by omega,by omega⟩
 have hl:=iF hr
 have hb:=jI (Lc (Ke (n:=p.Data.length) (by omega)))
 unfold iV
 rw[GC hN (by simp;omega) (by simp) hr,Option.bind_some,xf (by omega) (by omega),Option.bind_some,dI (by simp only[List.length_cons,List.length_nil,List.length_append]at hl ⊢;omega),cd]
 rfl
theorem R4 {p:aK}(h:wJ p):(fg p).flatten.length≤16424:=by
 obtain⟨h1,⟨h2,h3⟩,⟨h4,h5⟩,h6⟩:=h
 have hl:=iF (l:=[p.Qz,p.Index,p.Hq]) (xm (dE h1) ⟨by omega,by omega⟩ ⟨by omega,by omega⟩)
 have hb:=jI (Lc (Ke (n:=p.Data.length) (by omega)))
 rw[cd]
 simp only[pB,List.length_cons,List.length_nil,List.length_append]at hl hb ⊢
 omega
theorem du (hN:20≤N){v:Vector Int 8}(h:∀ n∈v.toList,Fi n):eV N v=some (v.toList.map pI).flatten:=by rw[p0 hN h,U6]
theorem rj {v:Vector Int 8}(h:∀ n∈v.toList,Fi n):(v.toList.map pI).flatten.length≤80:=by
 have:=iF h
 have h2:v.toList.length=8:=by simp
 omega
theorem aI8 {e:aB}(h:Yi e):e.Kind=0∨e.Kind=1∨e.Kind=2∨e.Kind=3∨e.Kind=4∨e.Kind=5∨e.Kind=6∨e.Kind=7∨e.Kind=8:=by unfold Yi at h;omega
theorem AM {e:aB}(hN:e.fP.length+20≤N)(h:KI e):kF N e=some (E8 e)∧(E8 e).length≤3500000:=by
 obtain⟨hk,_,hc⟩:=h
 have jm:=aI8 hk
 obtain⟨kd,a2,a3,a4,a5,a6,a7,a8,a9,eT,eK,eL,eA,eB,jA⟩:=e
 simp only at jm hN
 have hrk:Fi kd:=⟨by omega,by omega⟩
 have hpk:=Cd hrk
 have h1:fF N [kd]=some ([kd].map pI).flatten:=GC (by omega) (by simp;omega) (by simp) (LB hrk)
 have hlk:(([kd].map pI).flatten).length≤10:=by simpa using hpk
 have Aw:20≤N:=by omega
 have hX:∀ (cs:List (List Int)),(([kd].map pI)++cs).flatten=([kd].map pI).flatten++cs.flatten:=fun cs=>List.flatten_append
 unfold kF
 simp only
 rw[h1,Option.bind_some]
 rcases jm with rfl|rfl|rfl|rfl|rfl|rfl|rfl|rfl|rfl
 ·refine⟨?_,?_⟩
  ·show some _=some ([pI 0]++[]).flatten
   rw[List.append_nil];rfl
  ·show ([pI 0]++[]).flatten.length≤_
   rw[List.append_nil];simp only[List.map_cons,List.map_nil]at hlk;omega
 ·replace hc:(decide (uZ a2)&&decide (0 < a2)&&decide (uZ a3)&&decide (0 < a3)&&decide (uN a4))=true:=hc
  simp only[Bool.and_eq_true,decide_eq_true_eq]at hc
  obtain⟨⟨⟨⟨c1,_⟩,c2⟩,_⟩,c3⟩:=hc
  have l1:=iF (VR (dE c1) (dE c2))
  have l2:=Q8 c3
  simp only[Int.reduceBEq,cond_true,cond_false]
  rw[Fc Aw (by omega) (by simp;omega) (by simp) (VR (dE c1) (dE c2)),Option.bind_some,I0 Aw c3,Option.bind_some,dI (by simp only[List.length_append,List.length_cons,List.length_nil]at l1 ⊢;omega),cond_true]
  have e1:E8 ⟨1,a2,a3,a4,a5,a6,a7,a8,a9,eT,eK,eL,eA,eB,jA⟩=([(1:Int)].map pI).flatten++([a2,a3].map pI).flatten++opB a4:=by
   simp only[E8,UD,Md,Int.reduceBEq,cond_true,cond_false,List.flatten_append,List.append_assoc];rfl
  rw[e1]
  exact⟨rfl,by simp only[List.length_append,List.length_cons,List.length_nil]at l1 ⊢;omega⟩
 ·replace hc:(decide (Jv a5)&&decide (uZ a6)&&decide (uY a7))=true:=hc
  simp only[Bool.and_eq_true,decide_eq_true_eq]at hc
  obtain⟨⟨c1,c2⟩,c3⟩:=hc
  have l1:=iF (VR (vM c1) (dE c2))
  have l2:=bu c3
  simp only[Int.reduceBEq,cond_true,cond_false]
  rw[Fc Aw (by omega) (by simp;omega) (by simp) (VR (vM c1) (dE c2)),Option.bind_some,g9 hN c3.2.1 c3.2.2,Option.bind_some,dI (by simp only[List.length_append,List.length_cons,List.length_nil]at l1 ⊢;omega),cond_true]
  have e1:E8 ⟨2,a2,a3,a4,a5,a6,a7,a8,a9,eT,eK,eL,eA,eB,jA⟩=([(2:Int)].map pI).flatten++([a5,a6].map pI).flatten++(GX a7).flatten:=by
   simp only[E8,UD,Md,Int.reduceBEq,cond_true,cond_false,List.flatten_append,List.append_assoc];simp
  rw[e1]
  exact⟨rfl,by simp only[List.length_append,List.length_cons,List.length_nil]at l1 ⊢;omega⟩
 ·replace hc:(decide (Ah a8))=true:=hc
  simp only[Bool.and_eq_true,decide_eq_true_eq]at hc
  have l2:=oj hc
  simp only[Int.reduceBEq,cond_true,cond_false]
  rw[NY Aw hc,Option.bind_some,dI (by omega),cond_true]
  have e1:E8 ⟨3,a2,a3,a4,a5,a6,a7,a8,a9,eT,eK,eL,eA,eB,jA⟩=([(3:Int)].map pI).flatten++epB a8:=by
   simp only[E8,UD,Md,Int.reduceBEq,cond_true,cond_false,List.flatten_append,List.append_assoc];rfl
  rw[e1]
  exact⟨rfl,by simp only[List.length_append];omega⟩
 ·replace hc:(decide (uZ a6)&&decide (Jv a9)&&decide (wK eT)&&decide (uZ eK))=true:=hc
  simp only[Bool.and_eq_true,decide_eq_true_eq]at hc
  obtain⟨⟨⟨c1,c2⟩,c3⟩,c4⟩:=hc
  have l1:=iF (VR (dE c1) (vM c2))
  have l2:=rj (fun n hn=>dE (c3 n hn))
  have l3:=iF (LB (dE c4))
  simp only[Int.reduceBEq,cond_true,cond_false]
  simp only[List.length_append,List.length_cons,List.length_nil]at l1 l3
  rw[Fc Aw (by omega) (by simp;omega) (by simp) (VR (dE c1) (vM c2)),Option.bind_some,du Aw (fun n hn=>dE (c3 n hn)),Option.bind_some,dI (by simp only[List.length_append];omega),cond_true,
   Fc Aw (by simp only[List.length_append];omega) (by simp;omega) (by simp) (LB (dE c4)),Option.bind_some]
  have e1:E8 ⟨4,a2,a3,a4,a5,a6,a7,a8,a9,eT,eK,eL,eA,eB,jA⟩=([(4:Int)].map pI).flatten++([a6,a9].map pI).flatten++(eT.toList.map pI).flatten++([eK].map pI).flatten:=by
   simp only[E8,UD,Md,Int.reduceBEq,cond_true,cond_false,List.flatten_append,List.append_assoc];simp
  rw[e1]
  exact⟨rfl,by simp only[List.length_append];omega⟩
 ·replace hc:(decide (wJ eL))=true:=hc
  simp only[Bool.and_eq_true,decide_eq_true_eq]at hc
  have l2:=R4 hc
  simp only[Int.reduceBEq,cond_true,cond_false]
  rw[HB Aw hc,Option.bind_some,dI (by omega),cond_true]
  have e1:E8 ⟨5,a2,a3,a4,a5,a6,a7,a8,a9,eT,eK,eL,eA,eB,jA⟩=([(5:Int)].map pI).flatten++(fg eL).flatten:=by
   simp only[E8,UD,Md,Int.reduceBEq,cond_true,cond_false,List.flatten_append,List.append_assoc]
  rw[e1]
  exact⟨rfl,by simp only[List.length_append];omega⟩
 ·replace hc:(decide (Jv eA)&&decide (Jv eB)&&decide (uZ jA))=true:=hc
  simp only[Bool.and_eq_true,decide_eq_true_eq]at hc
  obtain⟨⟨c1,c2⟩,c3⟩:=hc
  have l1:=iF (VR (vM c1) (vM c2))
  simp only[List.length_append,List.length_cons,List.length_nil]at l1
  simp only[Int.reduceBEq,cond_true,cond_false]
  rw[Fc Aw (by omega) (by simp;omega) (by simp) (VR (vM c1) (vM c2)),Option.bind_some]
  have e1:E8 ⟨6,a2,a3,a4,a5,a6,a7,a8,a9,eT,eK,eL,eA,eB,jA⟩=([(6:Int)].map pI).flatten++([eA,eB].map pI).flatten:=by
   simp only[E8,UD,Md,Int.reduceBEq,cond_true,cond_false,List.flatten_append,List.append_assoc]
  rw[e1]
  exact⟨rfl,by simp only[List.length_append];omega⟩
 ·replace hc:(decide (Jv eA)&&decide (Jv eB)&&decide (uZ jA))=true:=hc
  simp only[Bool.and_eq_true,decide_eq_true_eq]at hc
  obtain⟨⟨c1,c2⟩,c3⟩:=hc
  have l1:=iF (LB (vM c1))
  simp only[List.length_append,List.length_cons,List.length_nil]at l1
  simp only[Int.reduceBEq,cond_true,cond_false]
  rw[Fc Aw (by omega) (by simp;omega) (by simp) (LB (vM c1)),Option.bind_some]
  have e1:E8 ⟨7,a2,a3,a4,a5,a6,a7,a8,a9,eT,eK,eL,eA,eB,jA⟩=([(7:Int)].map pI).flatten++([eA].map pI).flatten:=by
   simp only[E8,UD,Md,Int.reduceBEq,cond_true,cond_false,List.flatten_append,List.append_assoc]
  rw[e1]
  exact⟨rfl,by simp only[List.length_append];omega⟩
 ·replace hc:(decide (Jv eA)&&decide (Jv eB)&&decide (uZ jA))=true:=hc
  simp only[Bool.and_eq_true,decide_eq_true_eq]at hc
  obtain⟨⟨c1,c2⟩,c3⟩:=hc
  have l1:=iF (VR (vM c1) (dE c3))
  simp only[List.length_append,List.length_cons,List.length_nil]at l1
  simp only[Int.reduceBEq,cond_true,cond_false]
  rw[Fc Aw (by omega) (by simp;omega) (by simp) (VR (vM c1) (dE c3)),Option.bind_some]
  have e1:E8 ⟨8,a2,a3,a4,a5,a6,a7,a8,a9,eT,eK,eL,eA,eB,jA⟩=([(8:Int)].map pI).flatten++([eA,jA].map pI).flatten:=by
   simp only[E8,UD,Md,Int.reduceBEq,cond_true,cond_false,List.flatten_append,List.append_assoc];simp
  rw[e1]
  exact⟨rfl,by simp only[List.length_append];omega⟩
def KK (b:aT):List (List Int):=[b.Round].map pI++[b.aJ].map pI
def slC (x:aL):List (List Int):=[x.Slot].map pI++KK x.aG++UD x.Entry
def G9 (l:List aL):List (List Int):=[(l.length:Int)].map pI++(l.map slC).flatten
def slB (x:aL):List Int:=(slC x).flatten
theorem Tu {b:aT}(h:Jw b):Fi b.Round∧Fi b.aJ:=⟨dE h.1,⟨by have:=h.2;omega,by have:=h.2;omega⟩⟩
theorem aBx (x:aL):slB x=([x.Slot,x.aG.Round,x.aG.aJ].map pI).flatten++E8 x.Entry:=by
 unfold slB slC KK
 simp only[List.flatten_append,List.map_cons,List.map_nil,List.flatten_cons,List.flatten_nil,List.append_nil,List.append_assoc];rfl
theorem sl3 {x:aL}(h:Uo x):∀ n∈[x.Slot,x.aG.Round,x.aG.aJ],Fi n:=xm (dE h.1) (Tu h.2.1).1 (Tu h.2.1).2
theorem qt {x:aL}(h:Uo x):(slB x).length≤3500030:=by
 have l1:=iF (sl3 h)
 have l2:=(AM (N:=x.Entry.fP.length+20) (Nat.le_refl _) h.2.2).2
 rw[aBx,List.length_append]
 simp only[List.length_cons,List.length_nil]at l1
 omega
theorem vn (l:List aL):((l.map slC).flatten).flatten=(l.map slB).flatten:=by
 induction l with
 |nil=>rfl
 |cons x l ih=>simp only[List.map_cons,List.flatten_cons,List.flatten_append,ih];rfl
theorem az (l:List aL):(G9 l).flatten=([(l.length:Int)].map pI).flatten++(l.map slB).flatten:=by
 unfold G9;rw[List.flatten_append,vn]
theorem aBy {l:List aL}(h:∀ x∈l,Uo x):(l.map slB).flatten.length≤3500030 * l.length:=by
 induction l with
 |nil=>simp
 |cons x l ih =>
  have h1:=qt (h x (by simp))
  have h2:=ih fun o ho=>h o (by simp[ho])
  simp only[List.map_cons,List.flatten_cons,List.length_append,List.length_cons];omega
theorem P2 {l:List aL}(hl:l.length≤4096)(h:∀ x∈l,Uo x):(G9 l).flatten.length≤15000000000:=by
 have h1:=aBy h
 have h2:=iF (LB (a:=(l.length:Int)) ⟨by omega,by omega⟩)
 rw[az,List.length_append]
 simp only[List.length_cons,List.length_nil]at h2
 omega
theorem FV {l:List aL}(hN:HG N l)(hl:l.length≤4096)(h:∀ x∈l,Uo x):fQ N l=some (G9 l).flatten:=by
 have hN1:=hN.1
 unfold fQ
 have hr:Fi (l.length:Int):=⟨by omega,by omega⟩
 have hp:=iF (LB hr)
 simp only[List.length_cons,List.length_nil]at hp
 rw[GC (by omega) (by simp;omega) (by simp) (LB hr),Option.bind_some,az]
 refine dU (fun q:oO=>0≤q.i∧q.i≤(l.length:Int)∧(q.b.length:Int)≤10+3500030 * q.i∧q.b++((l.drop q.i.toNat).map slB).flatten=([(l.length:Int)].map pI).flatten++(l.map slB).flatten) (fun q=>((l.length:Int) - q.i).toNat) ?_ N _ ⟨by simp,by simp,by simp only;omega,by simp⟩ (by simp;omega)
 rintro⟨c,i⟩ nx ⟨g0,g1,g2,hq⟩ ih
 simp only at g0 g1 g2 hq ih ⊢
 by_cases hi:i < l.length
 ·have rZ:=jS (default:aL) g0 hi
  have hm:=h _ rZ
  have hs:=qt hm
  have l1:=iF (sl3 hm)
  simp only[List.length_cons,List.length_nil]at l1
  have hen:=AM (N:=N) (hN.2.2 _ rZ).1 hm.2.2
  rw[dC (default:aL) g0 hi,List.map_cons,List.flatten_cons]at hq
  simp only[decide_eq_true hi,dT g0 hi,cond_true]
  rw[Fc (by omega) (by omega) (by simp;omega) (by simp) (sl3 hm),Option.bind_some]
  change ((kF N (aE l i default).Entry).bind _)=_
  rw[hen.1,Option.bind_some,dI (by simp only[List.length_append];omega),wrap64 (by omega) (by omega),cond_true]
  rw[aBx]at hq hs
  exact ih ⟨_,i+1⟩ ⟨by simp;omega,by simp;omega,by simp only[List.length_append]at hs ⊢;omega,by simp only[List.append_assoc]at hq ⊢;exact hq⟩ (by simp;omega)
 ·have:decide (i < (l.length:Int))=false:=by simpa using hi
  simp only[this,cond_false]
  rw[List.drop_eq_nil_of_le (by omega)]at hq
  rw[← hq];simp
theorem LC (hN:20≤N){b:aT}(h:Jw b)(hw:w.length≤1048576):bQ N b e0 true w=some (wr e0 w (KK b)):=by
 unfold bQ
 rw[Ir hN (Tu h).1 hw,Option.bind_some,fY,Xo hN (Tu h).2 (dV hw _),cX,Option.bind_some]
 rfl
theorem xl (hN:20≤N){a:bV}(h:Ba a)(hw:w.length≤1048576):kE N a e0 true w=some (wr e0 w ([a.cR,a.aJ].map pI)):=by
 obtain⟨⟨h1,h2⟩,h3,h4⟩:=h
 unfold kE
 rw[lk hN ⟨by omega,by omega⟩ ⟨by omega,by omega⟩ hw,Option.bind_some]
theorem kg {l:List aL}(hN:HG N l)(hl:l.length≤4096)(h:∀ x∈l,Uo x)(hw:w.length≤1048576):cO N l e0 true w=some (wr e0 w (G9 l)):=by
 have hN1:=hN.1
 unfold cO
 rw[Xo (by omega) ⟨by omega,by omega⟩ hw,Option.bind_some]
 refine dU (fun q:gF=>0≤q.t13∧q.t13≤(l.length:Int)∧q.b1=true∧q.Ed.length≤1048576∧wr q.b0 q.Ed ((l.drop q.t13.toNat).map slC).flatten=wr e0 w (G9 l)) (fun q=>((l.length:Int) - q.t13).toNat) ?_ N _ ⟨by simp,by simp,rfl,dV hw _,?_⟩ (by simp;omega)
 ·rintro⟨i,b0,b1,Ed⟩ nx ⟨g0,g1,rfl,g3,hq⟩ ih
  simp only at g0 g1 g3 hq ih ⊢
  by_cases hi:i < l.length
  ·have rZ:=jS (default:aL) g0 hi
   have hm:=h _ rZ
   rw[dC (default:aL) g0 hi,List.map_cons,List.flatten_cons,← cX]at hq
   simp only[decide_eq_true hi,dT g0 hi,cond_true]
   rw[Ir (by omega) (dE hm.1) g3,Option.bind_some,fY,LC (by omega) hm.2.1 (dV g3 _),cX,Option.bind_some,fY]
   change (eS N (aE l i default).Entry _ true _).bind _=_
   rw[E9 (hN.2.2 _ rZ).1 hm.2.2 (dV g3 _),cX,Option.bind_some,wrap64 (by omega) (by omega)]
   exact ih ⟨i+1,_,_,_⟩ ⟨by simp;omega,by simp;omega,rfl,dV g3 _,hq⟩ (by simp;omega)
  ·have:decide (i < (l.length:Int))=false:=by simpa using hi
   simp only[this,cond_false]
   rw[List.drop_eq_nil_of_le (by omega)]at hq
   rw[← hq];rfl
 ·simp only
  rw[cX];simp[G9]
end
def yQ (m:aN):List (List Int) :=
 bif m.Kind==1 then KK m.aG++[m.Slot].map pI else
 bif m.Kind==2 then KK m.aG++[m.Slot].map pI++G9 m.bR else
 bif m.Kind==3 then KK m.aG++G9 m.bR else
 bif m.Kind==4 then KK m.aG++[m.Slot].map pI else
 bif m.Kind==5 then KK m.aG else
 bif m.Kind==6 then G9 m.bR else
 bif m.Kind==7 then KK m.aG++[m.Slot].map pI else
 bif m.Kind==8 then [m.Slot].map pI else
 bif m.Kind==9 then UD m.Entry else
 bif m.Kind==10 then [m.Number].map pI++m.aH.toList.map pI++[m.bH].map pI else
 bif m.Kind==11 then [m.Number].map pI++[m.Origin].map pI++[m.Slot].map pI++GX m.fP else
 bif m.Kind==12 then wg m.aY else
 bif m.Kind==13 then fg m.Part else
 bif m.Kind==14 then [m.Number].map pI++m.aH.toList.map pI else
 bif m.Kind==15 then [m.Slot].map pI++fg m.Part else
 []
def hdC (m:aN):List (List Int):=[m.Kind].map pI++[m.aS.cR,m.aS.aJ].map pI++[m.To.cR,m.To.aJ].map pI
def H5 (m:aN):List (List Int):=hdC m++yQ m
def Js (m:aN):List Int:=(H5 m).flatten
structure ER (m:aN):Prop where
 kind:Oe m
 bare:m=vL m
 from_:Ba m.aS
 yE:Ba m.To
 ba:Jw m.aG
 slot:uZ m.Slot
 number:uZ m.Number
 clock:uZ m.bH
 vec:wK m.aH
 sp:sp2 m=true
theorem rz {m:aN}(h:LF m):LF (vL m):=by
 obtain⟨h1,h2,h3⟩:=h
 have r1:∀ x∈([]:List aL),Bg x.Entry.Part.Data:=fun x hx=>by cases hx
 have r2:Bg uG.Part.Data:=fun x hx=>by cases hx
 have r4:Bg Dy.Data:=fun x hx=>by cases hx
 unfold vL
 repeat' (refine (show ∀ (c:Bool) (x y:aN),LF x→LF y→LF (bif c then x else y) from fun c x y hx hy=>by cases c<;>assumption) _ _ _ ?_ ?_)
 all_goals exact⟨by first|exact h1|exact r1,by first|exact h2|exact r2,by first|exact h3|exact r4⟩
theorem GA {m:aN}(hb:LF m):FZ m=true↔ER m:=by
 unfold FZ uo
 simp only[Bool.and_eq_true,decide_eq_true_eq]
 rw[IM hb (rz hb)]
 constructor
 ·rintro⟨⟨⟨⟨h1,h2⟩,h3,h4⟩,⟨h5,⟨h6,h7⟩,h8⟩,h9⟩,Z4⟩
  exact⟨h1,h2,h3,h4,h5,h6,h7,h8,h9,Z4⟩
 ·rintro⟨h1,h2,h3,h4,h5,h6,h7,h8,h9,Z4⟩
  exact⟨⟨⟨⟨h1,h2⟩,h3,h4⟩,⟨h5,⟨h6,h7⟩,h8⟩,h9⟩,Z4⟩
theorem uj {x:aL}(hb:Bg x.Entry.Part.Data):Jz x=true↔Uo x:=by
 unfold Jz Uo
 simp only[Bool.and_eq_true,decide_eq_true_eq,Qq hb]
 exact and_assoc
theorem RX {l:List aL}(hb:∀ x∈l,Bg x.Entry.Part.Data){a b:Int}(h:uA l a b=true):(a≤(l.length:Int)∧(l.length:Int)≤b)∧∀ x∈l,Uo x:=by
 unfold uA at h
 simp only[Bool.and_eq_true,decide_eq_true_eq,List.all_eq_true]at h
 exact⟨h.1,fun x hx=>(uj (hb x hx)).1 (h.2 x hx)⟩
section
variable {N:Nat} {e0:Int} {w:List Int}
def spP (m:aN):Prop :=
 (m.Kind=2→m.bR.length≤4096∧∀ x∈m.bR,Uo x)∧(m.Kind=3→m.bR.length≤4096∧∀ x∈m.bR,Uo x)∧(m.Kind=6→m.bR.length≤4096∧∀ x∈m.bR,Uo x) ∧
 (m.Kind=9→KI m.Entry)∧(m.Kind=11→Jv m.Origin∧uY m.fP)∧(m.Kind=12→Ah m.aY)∧(m.Kind=13→wJ m.Part)∧(m.Kind=15→wJ m.Part)
theorem ll {m:aN}(hb:LF m)(h:sp2 m=true):spP m:=by
 unfold sp2 at h
 refine⟨fun e=>?_,fun e=>?_,fun e=>?_,fun e=>?_,fun e=>?_,fun e=>?_,fun e=>?_,fun e=>?_⟩<;>rw[e]at h<;>simp only[Int.reduceBEq,cond_true,cond_false]at h
 ·obtain⟨⟨_,h1⟩,h2⟩:=RX hb.1 h;exact⟨by omega,h2⟩
 ·obtain⟨⟨_,h1⟩,h2⟩:=RX hb.1 h;exact⟨by omega,h2⟩
 ·obtain⟨⟨_,h1⟩,h2⟩:=RX hb.1 h;exact⟨by omega,h2⟩
 ·exact (Qq hb.2.1).1 h
 ·simpa using h
 ·simpa using h
 ·simpa using h
 ·simpa using h
theorem W4 {a:bV}(h:Ba a):Fi a.cR∧Fi a.aJ:=by
 obtain⟨⟨h1,h2⟩,h3,h4⟩:=h
 exact⟨⟨by omega,by omega⟩,⟨by omega,by omega⟩⟩
theorem Z7 (m:aN):(hdC m).flatten=([m.Kind,m.aS.cR,m.aS.aJ,m.To.cR,m.To.aJ].map pI).flatten:=by simp[hdC]
theorem W6 (b:aT):(KK b).flatten=([b.Round,b.aJ].map pI).flatten:=by simp[KK]
theorem k64 {m:aN}(h:Oe m):Fi m.Kind:=⟨by have:=h.1;omega,by have:=h.2;omega⟩
theorem hd5 {m:aN}(h:ER m):∀ n∈[m.Kind,m.aS.cR,m.aS.aJ,m.To.cR,m.To.aJ],Fi n:=by
 intro n hn
 simp only[List.mem_cons,List.mem_nil_iff,or_false]at hn
 rcases hn with rfl|rfl|rfl|rfl|rfl
 ·exact k64 h.kind
 ·exact (W4 h.from_).1
 ·exact (W4 h.from_).2
 ·exact (W4 h.yE).1
 ·exact (W4 h.yE).2
theorem ki (hN:20≤N){m:aN}(hr:Db N m)(h:ER m):Ho N m=some (Js m)∧(Js m).length≤15000001000:=by
 have hs:=ll hr.Bg h.sp
 have jR:=RR h.kind
 have g1:fF N [m.Kind,m.aS.cR,m.aS.aJ,m.To.cR,m.To.aJ]=some (hdC m).flatten:=by
  rw[GC hN (by simp;omega) (by simp) (hd5 h),Z7]
 have g2:fF N [m.aG.Round,m.aG.aJ]=some (KK m.aG).flatten:=by
  rw[GC hN (by simp;omega) (by simp) (VR (Tu h.ba).1 (Tu h.ba).2),W6]
 have l0:(hdC m).flatten.length≤50:=by have:=iF (hd5 h);rw[Z7];simpa using this
 have lb:(KK m.aG).flatten.length≤20:=by have:=iF (VR (Tu h.ba).1 (Tu h.ba).2);rw[W6];simpa using this
 have lS:([m.Slot].map pI).flatten.length≤10:=by have:=iF (LB (dE h.slot));simpa using this
 have lN:([m.Number].map pI).flatten.length≤10:=by have:=iF (LB (dE h.number));simpa using this
 have lC:([m.bH].map pI).flatten.length≤10:=by have:=iF (LB (dE h.clock));simpa using this
 have lV:=rj (fun n hn=>dE (h.vec n hn))
 have gS:∀ {b:List Int},b.length≤60000000000000→bA N b [m.Slot]=some (b++([m.Slot].map pI).flatten):=fun hb=>Fc hN hb (by simp;omega) (by simp) (LB (dE h.slot))
 have gN:∀ {b:List Int},b.length≤60000000000000→bA N b [m.Number]=some (b++([m.Number].map pI).flatten):=fun hb=>Fc hN hb (by simp;omega) (by simp) (LB (dE h.number))
 have gC:∀ {b:List Int},b.length≤60000000000000→bA N b [m.bH]=some (b++([m.bH].map pI).flatten):=fun hb=>Fc hN hb (by simp;omega) (by simp) (LB (dE h.clock))
 have gV:=du hN (fun n hn=>dE (h.vec n hn))
 unfold Ho
 rw[g1,Option.bind_some,g2,Option.bind_some]
 generalize hH:(hdC m).flatten=H at l0
 generalize hB:(KK m.aG).flatten=B at lb
 rcases jR with hk|hk|hk|hk|hk|hk|hk|hk|hk|hk|hk|hk|hk|hk|hk
 ·have e1:Js m=H++(KK m.aG++[m.Slot].map pI).flatten:=by unfold Js H5 yQ;rw[hk,List.flatten_append,hH];rfl
  rw[hk];simp only[Int.reduceBEq,cond_true,cond_false]
  rw[dI (by (try simp only[List.length_append]);omega),cond_true,gS (by (try simp only[List.length_append]);omega),Option.bind_some]
  rw[e1];try simp only[List.flatten_append]
  rw[hB]
  exact⟨by first|rfl|simp only[List.append_assoc],by (try simp only[List.length_append]);omega⟩
 ·have e1:Js m=H++(KK m.aG++[m.Slot].map pI++G9 m.bR).flatten:=by unfold Js H5 yQ;rw[hk,List.flatten_append,hH];rfl
  obtain⟨q1,q2⟩:=hs.1 hk
  have lL:=P2 q1 q2
  rw[hk];simp only[Int.reduceBEq,cond_true,cond_false]
  rw[dI (by (try simp only[List.length_append]);omega),cond_true,gS (by (try simp only[List.length_append]);omega),Option.bind_some,FV hr.1 q1 q2,Option.bind_some,dI (by (try simp only[List.length_append]);omega),cond_true]
  rw[e1];try simp only[List.flatten_append]
  rw[hB]
  exact⟨by first|rfl|simp only[List.append_assoc],by (try simp only[List.length_append]);omega⟩
 ·have e1:Js m=H++(KK m.aG++G9 m.bR).flatten:=by unfold Js H5 yQ;rw[hk,List.flatten_append,hH];rfl
  obtain⟨q1,q2⟩:=hs.2.1 hk
  have lL:=P2 q1 q2
  rw[hk];simp only[Int.reduceBEq,cond_true,cond_false]
  rw[dI (by (try simp only[List.length_append]);omega),cond_true,FV hr.1 q1 q2,Option.bind_some,dI (by (try simp only[List.length_append]);omega),cond_true]
  rw[e1];try simp only[List.flatten_append]
  rw[hB]
  exact⟨by first|rfl|simp only[List.append_assoc],by (try simp only[List.length_append]);omega⟩
 ·have e1:Js m=H++(KK m.aG++[m.Slot].map pI).flatten:=by unfold Js H5 yQ;rw[hk,List.flatten_append,hH];rfl
  rw[hk];simp only[Int.reduceBEq,cond_true,cond_false]
  rw[dI (by (try simp only[List.length_append]);omega),cond_true,gS (by (try simp only[List.length_append]);omega),Option.bind_some]
  rw[e1];try simp only[List.flatten_append]
  rw[hB]
  exact⟨by first|rfl|simp only[List.append_assoc],by (try simp only[List.length_append]);omega⟩
 ·have e1:Js m=H++(KK m.aG).flatten:=by unfold Js H5 yQ;rw[hk,List.flatten_append,hH];rfl
  rw[hk];simp only[Int.reduceBEq,cond_true,cond_false]
  rw[dI (by (try simp only[List.length_append]);omega),cond_true]
  rw[e1];try simp only[List.flatten_append]
  rw[hB]
  exact⟨by first|rfl|simp only[List.append_assoc],by (try simp only[List.length_append]);omega⟩
 ·have e1:Js m=H++(G9 m.bR).flatten:=by unfold Js H5 yQ;rw[hk,List.flatten_append,hH];rfl
  obtain⟨q1,q2⟩:=hs.2.2.1 hk
  have lL:=P2 q1 q2
  rw[hk];simp only[Int.reduceBEq,cond_true,cond_false]
  rw[FV hr.1 q1 q2,Option.bind_some,dI (by (try simp only[List.length_append]);omega),cond_true]
  rw[e1];try simp only[List.flatten_append]
  exact⟨by first|rfl|simp only[List.append_assoc],by (try simp only[List.length_append]);omega⟩
 ·have e1:Js m=H++(KK m.aG++[m.Slot].map pI).flatten:=by unfold Js H5 yQ;rw[hk,List.flatten_append,hH];rfl
  rw[hk];simp only[Int.reduceBEq,cond_true,cond_false]
  rw[dI (by (try simp only[List.length_append]);omega),cond_true,gS (by (try simp only[List.length_append]);omega),Option.bind_some]
  rw[e1];try simp only[List.flatten_append]
  rw[hB]
  exact⟨by first|rfl|simp only[List.append_assoc],by (try simp only[List.length_append]);omega⟩
 ·have e1:Js m=H++([m.Slot].map pI).flatten:=by unfold Js H5 yQ;rw[hk,List.flatten_append,hH];rfl
  rw[hk];simp only[Int.reduceBEq,cond_true,cond_false]
  rw[gS (by omega),Option.bind_some]
  rw[e1];try simp only[List.flatten_append]
  exact⟨by first|rfl|simp only[List.append_assoc],by (try simp only[List.length_append]);omega⟩
 ·have e1:Js m=H++(UD m.Entry).flatten:=by unfold Js H5 yQ;rw[hk,List.flatten_append,hH];rfl
  have q:=AM hr.2.1.1 (hs.2.2.2.1 hk)
  have lE:(UD m.Entry).flatten.length≤3500000:=q.2
  rw[hk];simp only[Int.reduceBEq,cond_true,cond_false]
  rw[q.1,Option.bind_some,show E8 m.Entry=(UD m.Entry).flatten from rfl,dI (by (try simp only[List.length_append]);omega),cond_true]
  rw[e1];try simp only[List.flatten_append]
  exact⟨by first|rfl|simp only[List.append_assoc],by (try simp only[List.length_append]);omega⟩
 ·have e1:Js m=H++([m.Number].map pI++m.aH.toList.map pI++[m.bH].map pI).flatten:=by unfold Js H5 yQ;rw[hk,List.flatten_append,hH];rfl
  rw[hk];simp only[Int.reduceBEq,cond_true,cond_false]
  rw[gN (by omega),Option.bind_some,gV,Option.bind_some,dI (by (try simp only[List.length_append]);omega),cond_true,gC (by (try simp only[List.length_append]);omega),Option.bind_some]
  rw[e1];try simp only[List.flatten_append]
  exact⟨by first|rfl|simp only[List.append_assoc],by (try simp only[List.length_append]);omega⟩
 ·have e1:Js m=H++([m.Number].map pI++[m.Origin].map pI++[m.Slot].map pI++GX m.fP).flatten:=by unfold Js H5 yQ;rw[hk,List.flatten_append,hH];rfl
  obtain⟨q1,q2⟩:=hs.2.2.2.2.1 hk
  have lO:=bu q2
  have l3:([m.Number,m.Origin,m.Slot].map pI).flatten.length≤30:=by have:=iF (xm (dE h.number) (vM q1) (dE h.slot));simpa using this
  rw[hk];simp only[Int.reduceBEq,cond_true,cond_false]
  rw[Fc hN (by omega) (by simp;omega) (by simp) (xm (dE h.number) (vM q1) (dE h.slot)),Option.bind_some,g9 hr.2.2.1.1 q2.2.1 q2.2.2,Option.bind_some,dI (by (try simp only[List.length_append]);omega),cond_true]
  have e2:([m.Number].map pI++[m.Origin].map pI++[m.Slot].map pI++GX m.fP).flatten=([m.Number,m.Origin,m.Slot].map pI).flatten++(GX m.fP).flatten:=by simp
  rw[e1,e2]
  exact⟨by rw[List.append_assoc],by (try simp only[List.length_append]);omega⟩
 ·have e1:Js m=H++(wg m.aY).flatten:=by unfold Js H5 yQ;rw[hk,List.flatten_append,hH];rfl
  have q:=hs.2.2.2.2.2.1 hk
  have lP:(wg m.aY).flatten.length≤250:=oj q
  rw[hk];simp only[Int.reduceBEq,cond_true,cond_false]
  rw[NY hN q,Option.bind_some,show epB m.aY=(wg m.aY).flatten from rfl,dI (by (try simp only[List.length_append]);omega),cond_true]
  rw[e1];try simp only[List.flatten_append]
  exact⟨by first|rfl|simp only[List.append_assoc],by (try simp only[List.length_append]);omega⟩
 ·have e1:Js m=H++(fg m.Part).flatten:=by unfold Js H5 yQ;rw[hk,List.flatten_append,hH];rfl
  have q:=hs.2.2.2.2.2.2.1 hk
  have lP:=R4 q
  rw[hk];simp only[Int.reduceBEq,cond_true,cond_false]
  rw[HB hN q,Option.bind_some,dI (by (try simp only[List.length_append]);omega),cond_true]
  rw[e1];try simp only[List.flatten_append]
  exact⟨by first|rfl|simp only[List.append_assoc],by (try simp only[List.length_append]);omega⟩
 ·have e1:Js m=H++([m.Number].map pI++m.aH.toList.map pI).flatten:=by unfold Js H5 yQ;rw[hk,List.flatten_append,hH];rfl
  rw[hk];simp only[Int.reduceBEq,cond_true,cond_false]
  rw[gN (by omega),Option.bind_some,gV,Option.bind_some,dI (by (try simp only[List.length_append]);omega),cond_true]
  rw[e1];try simp only[List.flatten_append]
  exact⟨by first|rfl|simp only[List.append_assoc],by (try simp only[List.length_append]);omega⟩
 ·have e1:Js m=H++([m.Slot].map pI++fg m.Part).flatten:=by unfold Js H5 yQ;rw[hk,List.flatten_append,hH];rfl
  have q:=hs.2.2.2.2.2.2.2 hk
  have lP:=R4 q
  rw[hk];simp only[Int.reduceBEq,cond_true,cond_false]
  rw[gS (by omega),Option.bind_some,HB hN q,Option.bind_some,dI (by (try simp only[List.length_append]);omega),cond_true]
  rw[e1];try simp only[List.flatten_append]
  exact⟨by first|rfl|simp only[List.append_assoc],by (try simp only[List.length_append]);omega⟩
theorem aCN (hN:20≤N){m:aN}(hr:Db N m)(h:ER m)(hw:w.length≤1048576):pV N m e0 true w=some (wr e0 w (H5 m)):=by
 have hs:=ll hr.Bg h.sp
 have jR:=RR h.kind
 unfold pV
 rw[Xo hN (k64 h.kind) hw,Option.bind_some,fY,xl hN h.from_ (dV hw _),cX,Option.bind_some,fY,xl hN h.yE (dV hw _),cX,Option.bind_some,fY]
 have e0':H5 m=([m.Kind].map pI++[m.aS.cR,m.aS.aJ].map pI++[m.To.cR,m.To.aJ].map pI)++yQ m:=rfl
 rw[e0']
 generalize ([m.Kind].map pI++[m.aS.cR,m.aS.aJ].map pI++[m.To.cR,m.To.aJ].map pI)=H
 rcases jR with hk|hk|hk|hk|hk|hk|hk|hk|hk|hk|hk|hk|hk|hk|hk
 ·have e1:yQ m=KK m.aG++[m.Slot].map pI:=by unfold yQ;rw[hk];rfl
  rw[hk];simp only[Int.reduceBEq,cond_true,cond_false]
  rw[LC hN h.ba (dV hw _),cX,Option.bind_some,fY,Ir hN (dE h.slot) (dV hw _),cX,Option.bind_some]
  first | (rw[e1];done) | (rw[e1];rfl) | (rw[e1];simp only[List.append_assoc];done) | (rw[e1];simp only[List.append_assoc];rfl)
 ·have e1:yQ m=KK m.aG++[m.Slot].map pI++G9 m.bR:=by unfold yQ;rw[hk];rfl
  obtain⟨q1,q2⟩:=hs.1 hk
  rw[hk];simp only[Int.reduceBEq,cond_true,cond_false]
  rw[LC hN h.ba (dV hw _),cX,Option.bind_some,fY,Ir hN (dE h.slot) (dV hw _),cX,Option.bind_some,fY,kg hr.1 q1 q2 (dV hw _),cX,Option.bind_some]
  first | (rw[e1];done) | (rw[e1];rfl) | (rw[e1];simp only[List.append_assoc];done) | (rw[e1];simp only[List.append_assoc];rfl)
 ·have e1:yQ m=KK m.aG++G9 m.bR:=by unfold yQ;rw[hk];rfl
  obtain⟨q1,q2⟩:=hs.2.1 hk
  rw[hk];simp only[Int.reduceBEq,cond_true,cond_false]
  rw[LC hN h.ba (dV hw _),cX,Option.bind_some,fY,kg hr.1 q1 q2 (dV hw _),cX,Option.bind_some]
  first | (rw[e1];done) | (rw[e1];rfl) | (rw[e1];simp only[List.append_assoc];done) | (rw[e1];simp only[List.append_assoc];rfl)
 ·have e1:yQ m=KK m.aG++[m.Slot].map pI:=by unfold yQ;rw[hk];rfl
  rw[hk];simp only[Int.reduceBEq,cond_true,cond_false]
  rw[LC hN h.ba (dV hw _),cX,Option.bind_some,fY,Ir hN (dE h.slot) (dV hw _),cX,Option.bind_some]
  first | (rw[e1];done) | (rw[e1];rfl) | (rw[e1];simp only[List.append_assoc];done) | (rw[e1];simp only[List.append_assoc];rfl)
 ·have e1:yQ m=KK m.aG:=by unfold yQ;rw[hk];rfl
  rw[hk];simp only[Int.reduceBEq,cond_true,cond_false]
  rw[LC hN h.ba (dV hw _),cX,Option.bind_some]
  first | (rw[e1];done) | (rw[e1];rfl) | (rw[e1];simp only[List.append_assoc];done) | (rw[e1];simp only[List.append_assoc];rfl)
 ·have e1:yQ m=G9 m.bR:=by unfold yQ;rw[hk];rfl
  obtain⟨q1,q2⟩:=hs.2.2.1 hk
  rw[hk];simp only[Int.reduceBEq,cond_true,cond_false]
  rw[kg hr.1 q1 q2 (dV hw _),cX,Option.bind_some]
  first | (rw[e1];done) | (rw[e1];rfl) | (rw[e1];simp only[List.append_assoc];done) | (rw[e1];simp only[List.append_assoc];rfl)
 ·have e1:yQ m=KK m.aG++[m.Slot].map pI:=by unfold yQ;rw[hk];rfl
  rw[hk];simp only[Int.reduceBEq,cond_true,cond_false]
  rw[LC hN h.ba (dV hw _),cX,Option.bind_some,fY,Ir hN (dE h.slot) (dV hw _),cX,Option.bind_some]
  first | (rw[e1];done) | (rw[e1];rfl) | (rw[e1];simp only[List.append_assoc];done) | (rw[e1];simp only[List.append_assoc];rfl)
 ·have e1:yQ m=[m.Slot].map pI:=by unfold yQ;rw[hk];rfl
  rw[hk];simp only[Int.reduceBEq,cond_true,cond_false]
  rw[Ir hN (dE h.slot) (dV hw _),cX,Option.bind_some]
  first | (rw[e1];done) | (rw[e1];rfl) | (rw[e1];simp only[List.append_assoc];done) | (rw[e1];simp only[List.append_assoc];rfl)
 ·have e1:yQ m=UD m.Entry:=by unfold yQ;rw[hk];rfl
  rw[hk];simp only[Int.reduceBEq,cond_true,cond_false]
  rw[E9 hr.2.1.1 (hs.2.2.2.1 hk) (dV hw _),cX,Option.bind_some]
  first | (rw[e1];done) | (rw[e1];rfl) | (rw[e1];simp only[List.append_assoc];done) | (rw[e1];simp only[List.append_assoc];rfl)
 ·have e1:yQ m=[m.Number].map pI++m.aH.toList.map pI++[m.bH].map pI:=by unfold yQ;rw[hk];rfl
  rw[hk];simp only[Int.reduceBEq,cond_true,cond_false]
  rw[Ir hN (dE h.number) (dV hw _),cX,Option.bind_some,fY,pf hN (fun n hn=>dE (h.vec n hn)) (dV hw _),cX,Option.bind_some,fY,Ir hN (dE h.clock) (dV hw _),cX,Option.bind_some]
  first | (rw[e1];done) | (rw[e1];rfl) | (rw[e1];simp only[List.append_assoc];done) | (rw[e1];simp only[List.append_assoc];rfl)
 ·have e1:yQ m=[m.Number].map pI++[m.Origin].map pI++[m.Slot].map pI++GX m.fP:=by unfold yQ;rw[hk];rfl
  obtain⟨q1,q2⟩:=hs.2.2.2.2.1 hk
  rw[hk];simp only[Int.reduceBEq,cond_true,cond_false]
  rw[Ir hN (dE h.number) (dV hw _),cX,Option.bind_some,fY,Xo hN (vM q1) (dV hw _),cX,Option.bind_some,fY,Ir hN (dE h.slot) (dV hw _),cX,Option.bind_some,fY,pz hr.2.2.1.1 q2 (dV hw _),cX,Option.bind_some]
  first | (rw[e1];done) | (rw[e1];rfl) | (rw[e1];simp only[List.append_assoc];done) | (rw[e1];simp only[List.append_assoc];rfl)
 ·have e1:yQ m=wg m.aY:=by unfold yQ;rw[hk];rfl
  rw[hk];simp only[Int.reduceBEq,cond_true,cond_false]
  rw[aAd hN (hs.2.2.2.2.2.1 hk) (dV hw _),cX,Option.bind_some]
  first | (rw[e1];done) | (rw[e1];rfl) | (rw[e1];simp only[List.append_assoc];done) | (rw[e1];simp only[List.append_assoc];rfl)
 ·have e1:yQ m=fg m.Part:=by unfold yQ;rw[hk];rfl
  rw[hk];simp only[Int.reduceBEq,cond_true,cond_false]
  rw[kp hN (hs.2.2.2.2.2.2.1 hk) (dV hw _),cX,Option.bind_some]
  first | (rw[e1];done) | (rw[e1];rfl) | (rw[e1];simp only[List.append_assoc];done) | (rw[e1];simp only[List.append_assoc];rfl)
 ·have e1:yQ m=[m.Number].map pI++m.aH.toList.map pI:=by unfold yQ;rw[hk];rfl
  rw[hk];simp only[Int.reduceBEq,cond_true,cond_false]
  rw[Ir hN (dE h.number) (dV hw _),cX,Option.bind_some,fY,pf hN (fun n hn=>dE (h.vec n hn)) (dV hw _),cX,Option.bind_some]
  first | (rw[e1];done) | (rw[e1];rfl) | (rw[e1];simp only[List.append_assoc];done) | (rw[e1];simp only[List.append_assoc];rfl)
 ·have e1:yQ m=[m.Slot].map pI++fg m.Part:=by unfold yQ;rw[hk];rfl
  rw[hk];simp only[Int.reduceBEq,cond_true,cond_false]
  rw[Ir hN (dE h.slot) (dV hw _),cX,Option.bind_some,fY,kp hN (hs.2.2.2.2.2.2.2 hk) (dV hw _),cX,Option.bind_some]
  first | (rw[e1];done) | (rw[e1];rfl) | (rw[e1];simp only[List.append_assoc];done) | (rw[e1];simp only[List.append_assoc];rfl)
theorem aJw {x:aL}(h:Uo x)(hb:Bg x.Entry.Part.Data):CB (slC x) :=
 ((CB.vO (dE h.1)).append ((CB.vO (Tu h.2.1).1).append (CB.vO (Tu h.2.1).2))).append (CB.en h.2.2 hb)
theorem aAR {l:List aL}(hl:l.length≤4096)(h:∀ x∈l,Uo x)(hb:∀ x∈l,Bg x.Entry.Part.Data):CB (G9 l) :=
 (CB.vO ⟨by omega,by omega⟩).append fun c hc=>by
  obtain⟨cs,Tr,hc⟩:=List.mem_flatten.1 hc
  obtain⟨o,ho,rfl⟩:=List.mem_map.1 Tr
  exact aJw (h o ho) (hb o ho) c hc
theorem aJp {m:aN}(hb:LF m)(h:ER m):CB (H5 m):=by
 have hs:=ll hb h.sp
 have jR:=RR h.kind
 refine (((CB.vO (k64 h.kind)).append (CB.jz (W4 h.from_).1 (W4 h.from_).2)).append (CB.jz (W4 h.yE).1 (W4 h.yE).2)).append ?_
 rcases jR with hk|hk|hk|hk|hk|hk|hk|hk|hk|hk|hk|hk|hk|hk|hk
 ·rw[show yQ m=KK m.aG++[m.Slot].map pI by unfold yQ;rw[hk];rfl]
  exact ((((CB.vO (Tu h.ba).1).append (CB.vO (Tu h.ba).2))).append (CB.vO (dE h.slot)))
 ·rw[show yQ m=KK m.aG++[m.Slot].map pI++G9 m.bR by unfold yQ;rw[hk];rfl]
  obtain⟨q1,q2⟩:=hs.1 hk
  exact (((((CB.vO (Tu h.ba).1).append (CB.vO (Tu h.ba).2))).append (CB.vO (dE h.slot))).append (aAR q1 q2 hb.1))
 ·rw[show yQ m=KK m.aG++G9 m.bR by unfold yQ;rw[hk];rfl]
  obtain⟨q1,q2⟩:=hs.2.1 hk
  exact ((((CB.vO (Tu h.ba).1).append (CB.vO (Tu h.ba).2))).append (aAR q1 q2 hb.1))
 ·rw[show yQ m=KK m.aG++[m.Slot].map pI by unfold yQ;rw[hk];rfl]
  exact ((((CB.vO (Tu h.ba).1).append (CB.vO (Tu h.ba).2))).append (CB.vO (dE h.slot)))
 ·rw[show yQ m=KK m.aG by unfold yQ;rw[hk];rfl]
  exact (((CB.vO (Tu h.ba).1).append (CB.vO (Tu h.ba).2)))
 ·rw[show yQ m=G9 m.bR by unfold yQ;rw[hk];rfl]
  obtain⟨q1,q2⟩:=hs.2.2.1 hk
  exact (aAR q1 q2 hb.1)
 ·rw[show yQ m=KK m.aG++[m.Slot].map pI by unfold yQ;rw[hk];rfl]
  exact ((((CB.vO (Tu h.ba).1).append (CB.vO (Tu h.ba).2))).append (CB.vO (dE h.slot)))
 ·rw[show yQ m=[m.Slot].map pI by unfold yQ;rw[hk];rfl]
  exact (CB.vO (dE h.slot))
 ·rw[show yQ m=UD m.Entry by unfold yQ;rw[hk];rfl]
  exact (CB.en (hs.2.2.2.1 hk) hb.2.1)
 ·rw[show yQ m=[m.Number].map pI++m.aH.toList.map pI++[m.bH].map pI by unfold yQ;rw[hk];rfl]
  exact (((CB.vO (dE h.number)).append (CB.ints (fun n hn=>dE (h.vec n hn)))).append (CB.vO (dE h.clock)))
 ·rw[show yQ m=[m.Number].map pI++[m.Origin].map pI++[m.Slot].map pI++GX m.fP by unfold yQ;rw[hk];rfl]
  obtain⟨q1,q2⟩:=hs.2.2.2.2.1 hk
  exact ((((CB.vO (dE h.number)).append (CB.vO (vM q1))).append (CB.vO (dE h.slot))).append (CB.ops q2))
 ·rw[show yQ m=wg m.aY by unfold yQ;rw[hk];rfl]
  exact (CB.ep (hs.2.2.2.2.2.1 hk))
 ·rw[show yQ m=fg m.Part by unfold yQ;rw[hk];rfl]
  exact (CB.pt (hs.2.2.2.2.2.2.1 hk) hb.2.2)
 ·rw[show yQ m=[m.Number].map pI++m.aH.toList.map pI by unfold yQ;rw[hk];rfl]
  exact ((CB.vO (dE h.number)).append (CB.ints (fun n hn=>dE (h.vec n hn))))
 ·rw[show yQ m=[m.Slot].map pI++fg m.Part by unfold yQ;rw[hk];rfl]
  exact ((CB.vO (dE h.slot)).append (CB.pt (hs.2.2.2.2.2.2.2 hk) hb.2.2))
theorem P6 {m:aN}(hb:LF m)(h:ER m):Bg (Js m):=(aJp hb h).flat
theorem iu (s:Int):Bg (four s):=te s
theorem tf {b:List Int}(hl:b.length≤1048576)(hb:Bg b):Bg (qN b):=fun x hx=>by
 unfold qN at hx
 rcases List.mem_append.1 hx with hx|hx
 ·rcases List.mem_append.1 hx with hx|hx
  ·exact kn (n:=(b.length:Int)) ⟨by omega,by omega⟩ x hx
  ·exact hb x hx
 ·exact iu _ x hx
end
theorem aEv {c:List Int}(hl:c.length≤1048576):Fi (c.length:Int):=⟨by omega,by omega⟩
section
variable {N:Nat} {b:List Int}
theorem aCx (hN:b.length+20≤N)(hb:∀ x∈b,uR x)(h:b.length≤1048576):∃ g,Lh N b=some ((qN b).length,0,g)∧(qN b).length≤g.length∧g.take (qN b).length=qN b:=by
 unfold Lh
 have hd:decide (1048576 < (b.length:Int))=false:=by simp;omega
 have hv:=jI (Lc (aEv h))
 rw[hd]
 simp only[cond_false]
 rw[ft (by omega) (aEv h),Option.bind_some,xb (by simp;omega) (by simp) (by intro m hm;simp at hm;subst hm;exact⟨by omega,by omega,hb⟩),Option.bind_some]
 rw[show [b].flatten=b by simp,show Qx N (QG b)=some (four (QG b)) from rfl,Option.bind_some]
 obtain⟨r,h1,h2,h3⟩:=si (N:=N) (l:=[yW (VQ (b.length:Int)),b,four (QG b)]) (by simp;omega) (by simp) (by simp[ZI];omega)
 have h4:[yW (VQ (b.length:Int)),b,four (QG b)].flatten=qN b:=by simp[qN]
 rw[h4]at h3
 have h5:r.1=(qN b).length:=by rw[← h3,List.length_take];omega
 refine⟨r.2,by rw[h1,← h5];rfl,by omega,by rw[← h5];exact h3⟩
end
end Go.Proofs.YtddpmkmgbdedlaaGreat
