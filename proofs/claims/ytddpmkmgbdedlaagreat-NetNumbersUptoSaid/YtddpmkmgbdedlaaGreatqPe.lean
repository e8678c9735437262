/-
Nets over the aX: losing,and messages in memory of their own.
-/
import Derived.Test.YtddpmkmgbdedlaaGreatqPc
set_option linter.unusedVariables false
set_option linter.unusedSimpArgs false
set_option maxRecDepth 100000
namespace Go.Proofs.YtddpmkmgbdedlaaGreat
open Go Go.Ev
section
variable {N:Nat}
def adr (v a:bV):Bool:=(v.cR==a.cR)&&(v.aJ==a.aJ)
def LU (l:List bV)(s:eW):Bool:=l.any (adr s.aS) || l.any (adr s.To)
theorem xp {α:Type}{p:α→Bool}{l:List α}(h:∀ i (hi:i < l.length),p l[i]=false):l.any p=false:=by
 rw[Bool.eq_false_iff]
 intro ht
 obtain⟨x,hx,hp⟩:=List.any_eq_true.1 ht
 obtain⟨i,hi,rfl⟩:=List.getElem_of_mem hx
 rw[h i hi]at hp;cases hp
theorem contains_eq {l:List bV}(hN:l.length < N)(hl:l.length≤1048576)(v:bV):mL N l v=some (l.any (adr v)):=by
 have key:∃ r,xI N l v=some r∧decide (0≤r)=l.any (adr v):=by
  unfold xI
  refine rM (fun q=>0≤q.t8∧q.t8≤(l.length:Int)∧∀ i (hi:i < l.length),(i:Int) < q.t8→adr v l[i]=false) (fun q=>l.length - q.t8.toNat) _ ?_ N _ ⟨Int.le_refl _,by simp,fun i hi h=>by simp at h;omega⟩ (by simp;omega)
  rintro⟨t⟩ nx ⟨p1,p2,p3⟩ hn
  simp only at p1 p2 p3
  by_cases ht:t < (l.length:Int)
  ·rw[decide_eq_true ht,dT p1 ht]
   simp only[cond_true]
   have hi:t.toNat < l.length:=by omega
   have hg:aE l t default=l[t.toNat]:=vE _ hi
   rw[hg]
   cases hb:adr v l[t.toNat] with
   |true =>
    have RK:((v.cR==l[t.toNat].cR)&&(v.aJ==l[t.toNat].aJ))=true:=hb
    rw[RK,cond_true]
    refine⟨_,rfl,?_⟩
    rw[decide_eq_true p1]
    exact (List.any_eq_true.2 ⟨_,List.getElem_mem hi,hb⟩).symm
   |false =>
    have RK:((v.cR==l[t.toNat].cR)&&(v.aJ==l[t.toNat].aJ))=false:=hb
    rw[RK,cond_false,wrap64 (by omega) (by omega)]
    refine hn _ ⟨by simp only;omega,by simp only;omega,fun i hi2 h=>?_⟩ (by simp only;omega)
    simp only at h
    by_cases hie:i=t.toNat
    ·subst hie;exact hb
    ·exact p3 i hi2 (by omega)
  ·rw[decide_eq_false ht]
   refine⟨_,rfl,?_⟩
   rw[xp fun i hi=>p3 i hi (by omega)]
   rfl
 obtain⟨r,e,h⟩:=key
 unfold mL
 rw[e,Option.bind_some,h]
theorem ay {l:List bV}(hN:l.length < N)(hl:l.length≤1048576)(x:bJ)(ms2 ms:Oo):jF N x l ms2=some (LU l (vs ms x),l,ms2):=by
 unfold jF LU vs
 rw[contains_eq hN hl,Option.bind_some]
 cases l.any (adr x.aS) with
 |true=>rfl
 |false=>simp only[Bool.not_false,cond_true];rw[contains_eq hN hl,Option.bind_some]
section
variable {ms:Oo} {g:List bJ} {b:Nat} {L:List eW} {last:Int} {l:List bV}
theorem cx {α:Type}{g:List α}{i:Nat}{x:α}(hi:i < g.length):(g.set i x).take (i+1)=g.take i++[x]:=by
 rw[List.take_set,List.take_succ_eq_append_getElem hi,List.set_append_right _ _ (by simp;omega)]
 have:i - (g.take i).length=0:=by simp;omega
 rw[this]
 rfl
theorem set_drop {α:Type}{g:List α}{i j:Nat}{x:α}(h:i < j):(g.set i x).drop j=g.drop j:=by
 rw[List.drop_set,if_pos h]
theorem aCM (hN:16400≤N)(hNl:l.length < N)(hl:l.length≤1048576)(h:Q ms g b L) :
  ∃ (g':List bJ) (b':Nat),Af N l b last true g ms=some ((b:Int) - (b':Int),b',last,true,g',ms)∧Q ms g' b' (L.filter fun s=>!LU l s):=by
 have hm:=h.Yo
 have hle:=h.le
 have hL:=h.len
 have hfil:∀ k,k≤b→((g.take k).filter fun x=>!LU l (vs ms x)).map (vs ms)=(L.take k).filter fun s=>!LU l s:=fun k hk=>by
  have:=h.w.eq
  rw[← this,← List.map_take,List.take_take,Nat.min_eq_left hk,List.filter_map]
  rfl
 -- where the first one stands
 have ix:∃ r,lA N b g l ms=some r∧((∃ i:Nat,i < b∧r=((i:Int),g,l,ms)∧((g.take i).filter fun x=>!LU l (vs ms x))=g.take i∧LU l (vs ms (g.getD i default))=true)∨(r=(-1,g,l,ms)∧((g.take b).filter fun x=>!LU l (vs ms x))=g.take b)):=by
  unfold lA
  refine rM (fun q=>q.b1=l∧q.ms=ms∧0≤q.t8∧q.t8≤(b:Int)∧((g.take q.t8.toNat).filter fun x=>!LU l (vs ms x))=g.take q.t8.toNat) (fun q=>b - q.t8.toNat) _ ?_ N _ ⟨rfl,rfl,Int.le_refl _,by simp,by simp⟩ (by simp;omega)
  rintro⟨t,b1,Ub⟩ nx ⟨p1,p2,p3,p4,p5⟩ hn
  simp only at p1 p2 p3 p4 p5
  subst p1 p2
  by_cases ht:t < (b:Int)
  ·have hi:t.toNat < g.length:=by omega
   rw[decide_eq_true ht,dT p3 ht,decide_eq_true hi]
   simp only[cond_true]
   change ∃ r,(jF N (g.getD t.toNat default) b1 Ub).bind _=some r∧_
   rw[ay hNl hl _ _ Ub,Option.bind_some]
   cases hb:LU b1 (vs Ub (g.getD t.toNat default)) with
   |true =>
    simp only[cond_true]
    exact⟨_,rfl,.inl ⟨t.toNat,by omega,by rw[show ((t.toNat:Nat):Int)=t by omega],p5,hb⟩⟩
   |false =>
    simp only[cond_false]
    rw[wrap64 (by omega) (by omega)]
    refine hn _ ⟨rfl,rfl,by simp only;omega,by simp only;omega,?_⟩ (by simp only;omega)
    simp only
    rw[show (t+1).toNat=t.toNat+1 by omega,List.take_succ_eq_append_getElem hi,List.filter_append,p5]
    rw[vE _ hi]at hb
    simp[hb]
  ·rw[decide_eq_false ht]
   exact⟨_,rfl,.inr ⟨rfl,by rwa [show t.toNat=b by omega]at p5⟩⟩
 obtain⟨r,e,hr⟩:=ix
 unfold Af eU
 simp only[Option.bind_some,Bool.not_true,cond_false]
 rcases hr with⟨i,hi,rfl,Rs,hhit⟩|⟨rfl,iI⟩
 ·have key:∃ r,fN N b g l ms=some r∧∃ g' b',r=(b',g',l,ms)∧b'≤b∧Q ms g' b' (L.filter fun s=>!LU l s):=by
   unfold fN
   rw[e,Option.bind_some]
   have dF:((i:Int)==-1)=false:=by simp
   simp only[dF,cond_false]
   refine rM (fun q=>q.b1=l∧q.ms=ms∧0≤q.i∧q.i < q.j∧q.j≤(b:Int)∧q.g0.length=g.length∧q.g0.drop q.j.toNat=g.drop q.j.toNat∧q.g0.take q.i.toNat=(g.take q.j.toNat).filter fun x=>!LU l (vs ms x)) (fun q=>b - q.j.toNat) _ ?_ N _
    ⟨rfl,rfl,by simp only;omega,?_,?_,rfl,rfl,?_⟩ ?_
   ·rintro⟨ii,jj,g0,b1,Ub⟩ nx ⟨p1,p2,p3,p4,p5,p6,p7,p8⟩ hn
    simp only at p1 p2 p3 p4 p5 p6 p7 p8
    subst p1 p2
    by_cases ht:jj < (b:Int)
    ·have hj:jj.toNat < g0.length:=by omega
     have hjg:jj.toNat < g.length:=by omega
     have hx:g0.getD jj.toNat default=g.getD jj.toNat default:=by
      have h1:=drop_cons default hj
      have h2:=drop_cons default hjg
      rw[p7,h2]at h1
      exact (List.cons.inj h1).1.symm
     rw[decide_eq_true ht,dT (by omega) ht,decide_eq_true hj]
     simp only[cond_true]
     change ∃ r,(jF N (g0.getD jj.toNat default) b1 Ub).bind _=some r∧_
     rw[ay hNl hl _ _ Ub,Option.bind_some,hx]
     have hw:IntKind.i64.wrap (jj+1)=jj+1:=wrap64 (by omega) (by omega)
     have hjs:(jj+1).toNat=jj.toNat+1:=by omega
     have htk:g.take (jj.toNat+1)=g.take jj.toNat++[g.getD jj.toNat default]:=by rw[List.take_succ_eq_append_getElem hjg,vE _ hjg]
     have hdr:∀ q:List bJ,q.drop jj.toNat=g.drop jj.toNat→q.drop (jj.toNat+1)=g.drop (jj.toNat+1):=fun q hq=>by
      rw[← List.drop_drop,hq,List.drop_drop]
     cases hb:LU b1 (vs Ub (g.getD jj.toNat default)) with
     |true =>
      simp only[Bool.not_true,cond_false,hw]
      refine hn _ ⟨rfl,rfl,p3,by simp only;omega,by simp only;omega,p6,by simp only[hjs];exact hdr _ p7,?_⟩ (by simp only;omega)
      simp only[hjs]
      rw[htk,List.filter_append,← p8]
      generalize g.getD jj.toNat default=y at hb ⊢
      simp[hb]
     |false =>
      have hii:ii.toNat < g0.length:=by omega
      simp only[Bool.not_false,cond_true,dT p3 (show ii < ((b:Nat):Int) by omega),decide_eq_true hii,hw]
      rw[wrap64 (n:=ii+1) (by omega) (by omega)]
      refine hn _ ⟨rfl,rfl,by simp only;omega,by simp only;omega,by simp only;omega,by simp only[List.length_set];exact p6,?_,?_⟩ (by simp only;omega)
      ·simp only[hjs]
       rw[set_drop (by omega)]
       exact hdr _ p7
      ·simp only[hjs]
       rw[show (ii+1).toNat=ii.toNat+1 by omega,cx hii,p8,htk,List.filter_append]
       generalize g.getD jj.toNat default=y at hb ⊢
       simp only[List.filter_cons,hb,Bool.not_false,if_true,List.filter_nil]
    ·have hjb:jj=(b:Int):=by omega
     subst hjb
     rw[decide_eq_false ht]
     have c1:AG ii ((b:Nat):Int) ((b:Nat):Int) ((b:Nat):Int)=true:=by simp[AG];omega
     simp only[cond_false,c1,AF (Int.le_refl 0) p3 (show ii≤((b:Nat):Int) by omega),cond_true]
     rw[Int.toNat_natCast]at p8
     have RL:(Kh g0 (0+ii.toNat) (b - ii.toNat) (⟨0,(⟨0,0⟩:bV),(⟨0,0⟩:bV),(⟨0,0,0,0,false⟩:Hd)⟩:bJ)).take ii.toNat=g0.take ii.toNat:=by
      unfold Kh
      rw[Nat.zero_add,List.take_append_of_le_length (by simp;omega),List.take_take,Nat.min_self]
     have hcl2:ii.toNat≤(Kh g0 (0+ii.toNat) (b - ii.toNat) (⟨0,(⟨0,0⟩:bV),(⟨0,0⟩:bV),(⟨0,0,0,0,false⟩:Hd)⟩:bJ)).length:=by
      unfold Kh
      simp;omega
     refine⟨_,rfl,_,_,rfl,by omega,hcl2,?_,by omega,fun s hs=>h.data s (List.mem_filter.1 hs).1⟩
     rw[RL,p8]
     have:=h.w.sub (List.filter_sublist (p:=fun x=>!LU b1 (vs Ub x)) (l:=g.take b))
     rw[hfil b (Nat.le_refl _),show L.take b=L from List.take_of_length_le (by omega)]at this
     exact this
   ·simp only;rw[wrap64 (by omega) (by omega)];omega
   ·simp only;rw[wrap64 (by omega) (by omega)];omega
   ·simp only
    rw[wrap64 (by omega) (by omega),show ((i:Int)+1).toNat=i+1 by omega,Int.toNat_natCast,List.take_succ_eq_append_getElem (by omega),List.filter_append,Rs]
    rw[vE _ (by omega)]at hhit
    simp[hhit]
   ·simp only;rw[wrap64 (by omega) (by omega)];omega
  obtain⟨r,e2,g',b',rfl,RK,hq⟩:=key
  rw[e2,Option.bind_some]
  simp only
  rw[wrap64 (by omega) (by omega)]
  exact⟨g',b',rfl,hq⟩
 ·have e2:fN N b g l ms=some (b,g,l,ms):=by
   unfold fN
   rw[e]
   rfl
  rw[e2,Option.bind_some]
  simp only
  rw[wrap64 (by omega) (by omega)]
  refine⟨g,b,rfl,?_⟩
  have hk:=hfil b (Nat.le_refl _)
  rw[iI,h.w.eq,show L.take b=L from List.take_of_length_le (by omega)]at hk
  rw[← hk]
  exact h
theorem ri {l0:List bJ}{L0:List eW}(hN:16400≤N)(hle:b≤g.length)(hm:b≤16384)(hsub:∀ x∈g.take b,x∈l0)(hw:W ms l0 L0)(hL:(g.take b).map (vs ms)=L)(hd:∀ s∈L,TR s.Data) :
  ∃ kS g2,yX N b g ms=some (b,g,kS,g2)∧g2.length=b∧W kS (l0++g2) (L0++L):=by
 have nH:(g.take b).length=b:=by simp;omega
 have hLl:L.length=b:=by rw[← hL];simp;omega
 suffices key:∃ r,yX N b g ms=some r∧∃ kS g2,r=(b,g,kS,g2)∧g2.length=b∧W kS (l0++g2) (L0++L) by
  obtain⟨r,e,kS,g2,rfl,h1,h2⟩:=key
  exact⟨kS,g2,e,h1,h2⟩
 unfold yX xE xF
 have e0:(g.drop 0).take b=g.take b:=by simp
 have e1:(dG b 64&&Nat.ble (0+b) g.length)=true:=by rw[dI (by omega),Nat.zero_add,Nat.ble_eq_true_of_le hle];rfl
 simp only[e0,nH,e1,Bool.true_or,cond_true,Option.bind_some]
 refine rM (fun q=>0≤q.t8∧q.t8≤(b:Int)∧q.g2.length=b∧q.g2.drop q.t8.toNat=(g.take b).drop q.t8.toNat∧W q.ms (l0++q.g2.take q.t8.toNat) (L0++L.take q.t8.toNat)) (fun q=>b - q.t8.toNat) _ ?_ N _
  ⟨Int.le_refl _,by simp,nH,rfl,by simpa using hw⟩ (by simp;omega)
 rintro⟨t,Ub,g2⟩ nx ⟨p1,p2,p3,p4,p5⟩ hn
 simp only at p1 p2 p3 p4 p5
 by_cases ht:t < (b:Int)
 ·have hi:t.toNat < g2.length:=by omega
  have Qn:t.toNat < (g.take b).length:=by omega
  have hx:g2.getD t.toNat default=(g.take b).getD t.toNat default:=by
   have h1:=drop_cons default hi
   have h2:=drop_cons default Qn
   rw[p4,h2]at h1
   exact (List.cons.inj h1).1.symm
  have rZ:g2.getD t.toNat default∈l0:=hsub _ (by rw[hx,vE _ Qn];exact List.getElem_mem Qn)
  have Hm:fu Ub (g2.getD t.toNat default).Data:=p5.ok _ (List.mem_append.2 (.inl rZ))
  have hveq:vs Ub (g2.getD t.toNat default)=L.getD t.toNat default:=by
   have h1:=p5.eq
   rw[List.map_append]at h1
   have h2:=List.append_inj_left h1 (by rw[List.length_map];exact hw.len)
   rw[← hw.eq]at h2
   have h3:=List.map_inj_left.1 h2 _ rZ
   rw[h3,hx]
   rw[vE _ Qn,vE _ (show t.toNat < L.length by omega)]
   subst hL
   simp
  have ji:TR (vb Ub (g2.getD t.toNat default).Data):=by
   have:=hd (L.getD t.toNat default) (by rw[vE _ (show t.toNat < L.length by omega)];exact List.getElem_mem _)
   rw[← hveq]at this
   exact this
  have Oc:=Hm.len
  rw[decide_eq_true ht,dT p1 ht,decide_eq_true hi]
  simp only[cond_true,X4 Hm ji,Option.bind_some,Hm.has,I5 Hm.has]
  rw[wrap64 (by omega) (by omega)]
  have hv:=mm Ub (vb Ub (g2.getD t.toNat default).Data) (g2.getD t.toNat default).Data.n (g2.getD t.toNat default).Data.n false (by omega)
  rw[List.take_of_length_le (by omega)]at hv
  refine hn _ ⟨by simp only;omega,by simp only;omega,by simp only[List.length_set];exact p3,?_,?_⟩ (by simp only;omega)
  ·simp only
   rw[show (t+1).toNat=t.toNat+1 by omega,set_drop (by omega),← List.drop_drop,p4,List.drop_drop]
  ·simp only
   rw[show (t+1).toNat=t.toNat+1 by omega,cx hi,List.take_succ_eq_append_getElem (show t.toNat < L.length by omega),← List.append_assoc,← List.append_assoc]
   have hLt:L[t.toNat]=L.getD t.toNat default:=(vE _ _).symm
   have:=(p5.more [some (vb Ub (g2.getD t.toNat default).Data)]).snoc (x:=⟨(g2.getD t.toNat default).Number,(g2.getD t.toNat default).aS,(g2.getD t.toNat default).To,⟨Ub.length+1,0,(g2.getD t.toNat default).Data.n,(g2.getD t.toNat default).Data.n,false⟩⟩) hv.1 p5.fresh
   rw[hLt,← hveq]
   have pe:vs (Ub++[some (vb Ub (g2.getD t.toNat default).Data)]) ⟨(g2.getD t.toNat default).Number,(g2.getD t.toNat default).aS,(g2.getD t.toNat default).To,⟨Ub.length+1,0,(g2.getD t.toNat default).Data.n,(g2.getD t.toNat default).Data.n,false⟩⟩=vs Ub (g2.getD t.toNat default):=by
    simp only[vs,hv.2]
   rw[pe]at this
   exact this
 ·rw[decide_eq_false ht]
  have htb:t.toNat=b:=by omega
  rw[htb,List.take_of_length_le (by omega),List.take_of_length_le (by omega)]at p5
  exact⟨_,rfl,Ub,g2,rfl,p3,p5⟩
end
end
end Go.Proofs.YtddpmkmgbdedlaaGreat
