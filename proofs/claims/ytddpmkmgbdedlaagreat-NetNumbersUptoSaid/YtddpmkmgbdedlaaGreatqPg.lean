/-
The law NetNumbers.
-/
import Derived.Test.YtddpmkmgbdedlaaGreatqPf
import Derived.Test.YtddpmkmgbdedlaaGreatqPd
import Derived.Test.YtddpmkmgbdedlaaGreatqRd
set_option linter.unusedVariables false
set_option linter.unusedSimpArgs false
set_option maxRecDepth 100000
namespace Go.Proofs.YtddpmkmgbdedlaaGreat
open Go Go.Ev
section
variable {N:Nat}
def mx:List eW→Int→Int
 |[],m=>m
 |s :: L,m=>mx L (bif decide (m < s.Number) then s.Number else m)
theorem aEx:∀ (L:List eW) (m:Int),m≤mx L m∧∀ s∈L,s.Number≤mx L m
 |[],m=>⟨Int.le_refl _,fun s hs=>by cases hs⟩
 |x :: L,m=>by
  obtain⟨h1,h2⟩:=aEx L (bif decide (m < x.Number) then x.Number else m)
  rw[mx]
  by_cases h:m < x.Number
  ·rw[decide_eq_true h,cond_true]at h1 h2 ⊢
   refine⟨by omega,fun s hs=>?_⟩
   rcases List.mem_cons.1 hs with rfl|hs
   ·exact h1
   ·exact h2 s hs
  ·rw[decide_eq_false h,cond_false]at h1 h2 ⊢
   refine⟨h1,fun s hs=>?_⟩
   rcases List.mem_cons.1 hs with rfl|hs
   ·omega
   ·exact h2 s hs
theorem po:∀ (L:List eW) (m:Int),(∀ s∈L,s.Number≤m)→mx L m=m
 |[],m,_=>rfl
 |x :: L,m,h=>by
  have:=h x (by simp)
  rw[mx,decide_eq_false (by omega),cond_false]
  exact po L m fun s hs=>h s (by simp[hs])
section
variable {ms:Oo} {g:List bJ} {b:Nat} {L:List eW} {last:Int}
theorem all_eq (hN:16400≤N)(h:Q ms g b L):∃ kS g2,Cj N b last true g ms=some (b,last,true,g,kS,b,g2)∧g2.length=b∧W kS (g.take b++g2) (L++L):=by
 obtain⟨kS,g2,e,h1,h2⟩:=ri (N:=N) hN h.le h.Yo (fun x hx=>hx) h.w h.w.eq h.data
 unfold Cj eU
 simp only[Option.bind_some,Bool.not_true,Bool.not_false,cond_true]
 rw[e]
 exact⟨kS,g2,rfl,h1,h2⟩
theorem aBn (hN:16400≤N){g2:List bJ}(hb:b≤16384)(h1:g2.length=b)(hw:W ms (g.take b++g2) (L++L))(hl:(g.take b).length=L.length)(hd:∀ s∈L,TR s.Data)(hi:er L last)(z1:xh)(z2:bS)(z3:xh)(b1:Bool)(m:Int) :
  ∃ q1 q2 q3 q4 q5 kS y1 y2 y3 y4 y5 y6 y7,rO N z1 z2 z3 b b1 0 m g2 ms=some (false,q1,q2,q3,b,q4,q5,mx L m,g2,kS,y1,y2,y3,y4,y5,y6,y7)∧W kS (g.take b) L:=by
 have hLb:L.length=b:=by
  have:=hw.len
  simp only[List.length_append]at this
  omega
 have hr:=hw.right hl
 have ht2:g2.take b=g2:=List.take_of_length_le (by omega)
 obtain⟨kS,g3,e,h3,h4⟩:=ri (N:=N) (g:=g2) (L:=L) hN (by omega) hb (fun x hx=>List.mem_append.2 (.inr ((List.take_subset b g2) hx))) hw (by rw[ht2];exact hr.eq) hd
 have h5:=h4.right (by simp only[List.length_append];omega)
 have h6:=(h4.left (by simp only[List.length_append];omega)).left hl
 suffices key:∃ r,rO N z1 z2 z3 b b1 0 m g2 ms=some r∧∃ q1 q2 q3 q4 q5 y1 y2 y3 y4 y5 y6 y7,r=(false,q1,q2,q3,b,q4,q5,mx L m,g2,kS,y1,y2,y3,y4,y5,y6,y7) by
  obtain⟨r,e,q1,q2,q3,q4,q5,y1,y2,y3,y4,y5,y6,y7,rfl⟩:=key
  exact⟨q1,q2,q3,q4,q5,kS,y1,y2,y3,y4,y5,y6,y7,e,h6⟩
 unfold rO zJ
 rw[e,Option.bind_some]
 simp only
 refine rM (fun q:kI=>0≤q.t8∧q.t8≤(b:Int)∧q.ms=kS∧mx (L.drop q.t8.toNat) q.b4=mx L m∧(∀ s∈L.drop q.t8.toNat,q.b3 < s.Number)) (fun q=>b - q.t8.toNat) _ ?_ N _
  ⟨Int.le_refl _,by simp,rfl,rfl,fun s hs=>hi.pos s (by simpa using hs)⟩ (by simp;omega)
 rintro⟨t,u1,u2,u3,c2,c3,c4,c5⟩ nx ⟨p1,p2,p3,p4,p5⟩ hn
 simp only at p1 p2 p3 p4 p5
 subst p3
 by_cases ht:t < (b:Int)
 ·have hi3:t.toNat < g3.length:=by omega
  have htL:t.toNat < L.length:=by omega
  obtain⟨e1,e2⟩:=h5.get hi3
  have hnum:(g3.getD t.toNat default).Number=(L.getD t.toNat default).Number:=by rw[e1];rfl
  have hdc:=drop_cons default htL
  rw[hdc]at p4 p5
  have nH:=p5 (L.getD t.toNat default) (by simp)
  rw[decide_eq_true ht,dT p1 ht,decide_eq_true hi3,hnum]
  simp only[cond_true,Option.bind_some,decide_eq_false (show ¬ (L.getD t.toNat default).Number≤c3 by omega),cond_false]
  rw[wrap64 (by omega) (by omega)]
  rw[mx]at p4
  refine hn _ ⟨by simp only;omega,by simp only;omega,rfl,?_,fun s hs=>?_⟩ (by simp only;omega)
  ·simp only
   rw[show (t+1).toNat=t.toNat+1 by omega]
   exact p4
  ·simp only at hs ⊢
   rw[show (t+1).toNat=t.toNat+1 by omega]at hs
   have hp:=hi.pw.sublist ((List.drop_sublist t.toNat L).map (·.Number))
   rw[hdc,List.map_cons,List.pairwise_cons]at hp
   exact hp.1 _ (List.mem_map_of_mem hs)
 ·rw[decide_eq_false ht]
  rw[List.drop_eq_nil_of_le (by omega),mx]at p4
  refine⟨_,rfl,u1,u2,u3,c2,c3,default,default,default,default,default,default,default,?_⟩
  rw[p4]
end
theorem P8 (hN:1048700≤N){script:List xh}(hl:script.length≤1048576)(ho:∀ op∈script,aE1 N op):∃ ms,mJ N script []=some (true,ms):=by
 suffices key:∃ r,mJ N script []=some r∧r.1=true by
  obtain⟨⟨x,ms⟩,e,h⟩:=key
  simp only at h
  subst h
  exact⟨ms,e⟩
 unfold mJ NR
 obtain⟨ms0,Oc⟩:=aCL (N:=N) (by omega)
 simp only[Option.bind_some,Oc,Bool.not_true,cond_false]
 refine rM (fun q:iM=>0≤q.t19∧q.t19≤(script.length:Int)∧q.b23=true∧0≤q.xt∧q.xt≤2097152 * q.t19∧∃ L,Q q.ms q.g4 q.b2 L∧er L q.xt∧∀ s∈L,s.Number≤q.last) (fun q=>script.length - q.t19.toNat) _ ?_ N _
  ⟨Int.le_refl _,by simp,rfl,Int.le_refl _,by simp,[],aJs ms0,⟨by simp,by simp,by simp⟩,by simp⟩ (by simp;omega)
 rintro⟨m,t,ms,b1,b2,xt,b23,g4⟩ nx ⟨p1,p2,p3,p4,p5,L,hq,hi,hm⟩ hn
 simp only at p1 p2 p3 p4 p5 hq hi hm
 subst p3
 by_cases ht:t < (script.length:Int)
 ·have O1:=ho _ (jS default p1 ht)
  rw[decide_eq_true ht,dT p1 ht]
  simp only[cond_true]
  generalize aE script t default=op at O1 ⊢
  obtain⟨bl,b',x,y,Ub,g1,z,e1,hq1⟩:=aIC hN O1 hq p4 (by omega)
  obtain⟨hi1,IV,XH,aI3⟩:=aCs (op:=op) hi p4
  have hml:=O1.ml
  rw[e1,Option.bind_some]
  simp only
  obtain⟨ms2,g2,e2,N8,hw2⟩:=all_eq (last:=(oa op L xt).2) (N:=N) (by omega) hq1
  rw[e2,Option.bind_some]
  simp only
  have hlen:(g1.take b').length=(oa op L xt).1.length:=hq1.w.len
  obtain⟨q1,q2,q3,q4,q5,ms3,y1,y2,y3,y4,y5,y6,y7,e3,hw3⟩:=aBn (N:=N) (by omega) hq1.Yo N8 hw2 hlen hq1.data hi1 op ⟨[],0⟩ op b1 m
  rw[e3,Option.bind_some]
  simp only[cond_false]
  have hq3:Q ms3 g1 b' (oa op L xt).1:=⟨hq1.le,hw3,hq1.Yo,hq1.data⟩
  have aIV:(((!(op.Kind==0))&&(!(op.Kind==2)))&&(!(mx (oa op L xt).1 m==m)))=false:=by
   by_cases k0:op.Kind=0
   ·simp[k0]
   by_cases k2:op.Kind=2
   ·simp[k2]
   have:mx (oa op L xt).1 m=m:=po _ _ fun s hs=>by
    obtain⟨y,hy,e⟩:=aI3 k0 k2 s hs
    rw[e];exact hm y hy
   simp[this]
  rw[aIV,cond_false,wrap64 (by omega) (by omega)]
  exact hn _ ⟨by simp only;omega,by simp only;omega,rfl,by simp only;omega,by simp only;omega,_,hq3,hi1,fun s hs=>(aEx _ _).2 s hs⟩ (by simp only;omega)
 ·rw[decide_eq_false ht]
  exact⟨_,rfl,rfl⟩
end
theorem BA {α:Type}(f:α→Nat){x:α}:∀ {l:List α},x∈l→f x≤(l.map f).sum
 |y :: l,h=>by
  rcases List.mem_cons.1 h with rfl|h
  ·simp
  ·have:=BA f h;simp;omega
def aBv (op:xh):Nat:=(op.DN.map qq).sum
def aBw (l:List xh):Nat:=(l.map aBv).sum
theorem lh {l:List xh}(h:RC l≤1048576):l.length≤1048576:=by
 have:=Vd (f:=Zx) (fun x=>by unfold Zx;omega) l
 unfold RC at h;omega
theorem vj {N:Nat}{l:List xh}(hw:wf69 l)(h:RC l≤1048576)(hN:aBw l+60≤N):∀ op∈l,aE1 N op:=fun op O1=>by
 have h1:=BA Zx O1
 have h2:=Vd (f:=YI) (fun x=>by unfold YI;omega) op.DN
 have h3:=Vd (f:=LD) (fun x=>by unfold LD;omega) op.EN
 have h4:=BA aBv O1
 obtain⟨_,hm,_⟩:=hw.2 op O1
 unfold RC at h
 unfold Zx YJ YK at h1
 refine⟨fun m XJ=>aBm (hm.2 m XJ) ?_,by unfold Zx YJ YK at h;omega,by unfold Zx YJ YK at h;omega⟩
 have h5:=BA qq XJ
 unfold aBw at hN
 unfold aBv at h4 hN
 omega
end Go.Proofs.YtddpmkmgbdedlaaGreat
