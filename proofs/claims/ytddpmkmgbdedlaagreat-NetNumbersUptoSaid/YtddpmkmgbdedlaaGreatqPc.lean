/-
Nets over the aX: spoiling,sending,doubling.
-/
import Derived.Test.YtddpmkmgbdedlaaGreatqPb
set_option linter.unusedVariables false
set_option linter.unusedSimpArgs false
set_option maxRecDepth 100000
namespace Go.Proofs.YtddpmkmgbdedlaaGreat
open Go Go.Ev
section
variable {N:Nat}
theorem aB6 (x y:Int):uR (bits .xor .u8 x y):=by
 have h:∃ n,bits .xor .u8 x y=IntKind.u8.wrap n:=⟨_,rfl⟩
 obtain⟨n,h⟩:=h
 rw[h]
 have:=KY n
 exact⟨this.1,by omega⟩
section
variable {ms:Oo} {g:List bJ} {b:Nat} {L:List eW} {last k at_ with_:Int}
theorem lq (hN:16400≤N)(h:Q ms g b L)(hi:idx L k=none):iQ N k at_ with_ b last true g ms=some (4,b,last,true,g,ms):=by
 unfold iQ
 rw[XD hN h hi]
 rfl
theorem vo (hN:16400≤N)(h:Q ms g b L){i:Nat}(hi:idx L k=some i)(ha:at_ < 0∨((L.getD i default).Data.length:Int)≤at_):iQ N k at_ with_ b last true g ms=some (1,b,last,true,g,ms):=by
 have Qn:i < b:=by have:=(RP hi).1;have:=h.len;omega
 obtain⟨e1,e2,e3⟩:=h.get Qn
 have hn:(L.getD i default).Data.length=(g.getD i default).Data.n:=by rw[e1];exact e2.len
 unfold iQ
 rw[HX hN h hi]
 have t1:((i:Int)).toNat=i:=by omega
 have e4:nI (i:Int) ((b:Nat):Int)=true:=dT (by omega) (by omega)
 simp only[Option.bind_some,beq_self_eq_true,Bool.not_true,cond_false,t1,e4,decide_eq_true e3,Bool.or_true,cond_true,e2.has]
 by_cases h0:at_ < 0
 ·rw[decide_eq_true h0];rfl
 ·rw[decide_eq_false h0,decide_eq_true (show (((g.getD i default).Data.n:Nat):Int)≤at_ by omega)]
  rfl
theorem lr (hN:16400≤N)(h:Q ms g b L){i:Nat}(hi:idx L k=some i)(ha:0≤at_)(hb:at_ < ((L.getD i default).Data.length:Int)) :
  ∃ kS,iQ N k at_ with_ b last true g ms=some (0,b,last,true,g,kS)∧Q kS g b (L.set i { L.getD i default with Data:=(L.getD i default).Data.set at_.toNat (bits .xor .u8 ((L.getD i default).Data.getD at_.toNat default) with_) }):=by
 have Qn:i < b:=by have:=(RP hi).1;have:=h.len;omega
 obtain⟨e1,e2,e3⟩:=h.get Qn
 have hn:(L.getD i default).Data.length=(g.getD i default).Data.n:=by rw[e1];exact e2.len
 have N7:=e2.fit
 unfold iQ
 rw[HX hN h hi]
 have t1:((i:Int)).toNat=i:=by omega
 have e4:nI (i:Int) ((b:Nat):Int)=true:=dT (by omega) (by omega)
 have e5:nI at_ (((g.getD i default).Data.n:Nat):Int)=true:=dT ha (by omega)
 simp only[Option.bind_some,beq_self_eq_true,Bool.not_true,Bool.not_false,cond_false,t1,e4,e5,decide_eq_true e3,Bool.or_true,cond_true,e2.has,decide_eq_false (show ¬ at_ < 0 by omega),
  decide_eq_false (show ¬ (((g.getD i default).Data.n:Nat):Int)≤at_ by omega),Bool.or_self,Bool.and_self,decide_eq_true (show (g.getD i default).Data.o+at_.toNat < (Kx ms (g.getD i default).Data.j).length by omega)]
 refine⟨_,rfl,h.le,?_,h.Yo,fun s hs=>?_⟩
 ·have hd:(L.getD i default).Data=((Kx ms (g.getD i default).Data.j).drop (g.getD i default).Data.o).take (g.getD i default).Data.n:=by rw[e1];rfl
  refine aGE h.w h.le Qn (by rw[List.length_set]) ?_
  rw[List.drop_set,if_neg (by omega),Nat.add_sub_cancel_left,List.take_set,← hd]
  congr 1
  congr 1
  rw[hd]
  have q1:at_.toNat < (g.getD i default).Data.n:=by omega
  generalize (g.getD i default).Data=z at q1 ⊢
  simp only[List.getD,List.getElem?_take,List.getElem?_drop]
  rw[if_pos q1]
 ·rcases List.mem_or_eq_of_mem_set hs with hs|rfl
  ·exact h.data s hs
  ·obtain⟨d1,d2,d3⟩:=h.mem Qn
   refine⟨fun x hx=>?_,by simpa using d2,by simpa using d3⟩
   rcases List.mem_or_eq_of_mem_set hx with hx|rfl
   ·exact d1 x hx
   ·exact aB6 _ _
theorem qd (h:Q ms g b L){f t:bV}{d:Hd}(hb:b < 16384)(h0:0≤last)(h1:last < 9223372036854775807)(hd:fu ms d)(hn:∀ y∈g.take b,y.Data.j≠d.j)(hg:TR (vb ms d)) :
  pK N f t d b last true g ms=some (last+1,b+1,last+1,true,ms,g.take b++[⟨last+1,f,t,d⟩])∧Q ms (g.take b++[⟨last+1,f,t,d⟩]) (b+1) (L++[⟨last+1,f,t,vb ms d⟩]):=by
 have hle:=h.le
 have nH:(g.take b).length=b:=by simp;omega
 refine⟨?_,by simp;omega,?_,by omega,fun s hs=>?_⟩
 ·unfold pK
  rw[wrap64 (by omega) (by omega)]
  simp only[List.length_singleton,dI (show (b+1) * 64≤70368744177664 by omega),Nat.ble_eq_true_of_le hle,Bool.and_self,cond_true]
 ·rw[List.take_of_length_le (by simp;omega)]
  exact h.w.snoc (x:=⟨last+1,f,t,d⟩) hd hn
 ·rcases List.mem_append.1 hs with hs|hs
  ·exact h.data s hs
  ·simp at hs;subst hs;exact hg
theorem mm (ms:Oo)(c:List Int)(n c2:Nat)(nn:Bool)(hn:n≤c.length):fu (ms++[some c]) ⟨ms.length+1,0,n,c2,nn⟩∧vb (ms++[some c]) ⟨ms.length+1,0,n,c2,nn⟩=c.take n:=by
 have h:=aA4 ms (some c)
 have hc:Kx (ms++[some c]) (ms.length+1)=c:=by unfold Kx;rw[h];rfl
 exact⟨⟨by unfold EI;simp only[h];rfl,by simp only[hc];omega⟩,by unfold vb;simp only[hc,List.drop_zero]⟩
theorem X4 {h:Hd}(k:fu ms h)(hg:TR (vb ms h)):kY N h.o h.n h.c h.nn (Kx ms h.j)=some (h.n,Kx ms h.j,vb ms h):=by
 have hl:=k.len
 obtain⟨d1,d2,d3⟩:=hg
 have e:((Kx ms h.j).drop h.o).take h.n=vb ms h:=rfl
 unfold kY
 have hb:Nat.blt 0 h.n=true:=by simp[Nat.blt];omega
 rw[hb,e,hl,dI (by omega),Nat.ble_eq_true_of_le k.fit]
 simp
theorem Y3 (hN:16400≤N)(h:Q ms g b L)(hi:idx L k=none):hY N k b last true g ms=some (0,4,b,last,true,ms,g):=by
 unfold hY
 rw[XD hN h hi]
 rfl
theorem Y2 (hN:16400≤N)(h:Q ms g b L){i:Nat}(hi:idx L k=some i)(hf:16384≤b):hY N k b last true g ms=some (0,6,b,last,true,ms,g):=by
 unfold hY
 rw[HX hN h hi]
 simp only[Option.bind_some,beq_self_eq_true,Bool.not_true,cond_false,decide_eq_true (show (16384:Int)≤((b:Nat):Int) by omega),cond_true]
theorem Y4 (hN:16400≤N)(h:Q ms g b L){i:Nat}(hi:idx L k=some i)(hf:b < 16384)(h0:0≤last)(h1:last < 9223372036854775807) :
  ∃ kS g',hY N k b last true g ms=some (last+1,0,b+1,last+1,true,kS,g')∧Q kS g' (b+1) (L++[⟨last+1,(L.getD i default).aS,(L.getD i default).To,(L.getD i default).Data⟩]):=by
 have Qn:i < b:=by have:=(RP hi).1;have:=h.len;omega
 obtain⟨e1,e2,e3⟩:=h.get Qn
 have hg:=h.mem Qn
 have hd:(L.getD i default).Data=vb ms (g.getD i default).Data:=by rw[e1];rfl
 have hft:(L.getD i default).aS=(g.getD i default).aS∧(L.getD i default).To=(g.getD i default).To:=by rw[e1];exact⟨rfl,rfl⟩
 rw[hd]at hg
 rw[hft.1,hft.2,hd]
 unfold hY
 rw[HX hN h hi]
 have t1:((i:Int)).toNat=i:=by omega
 have e4:nI (i:Int) ((b:Nat):Int)=true:=dT (by omega) (by omega)
 simp only[Option.bind_some,beq_self_eq_true,Bool.not_true,cond_false,decide_eq_false (show ¬ (16384:Int)≤((b:Nat):Int) by omega),t1,e4,decide_eq_true e3,cond_true,X4 e2 hg,e2.has,I5 e2.has]
 have hl:=e2.len
 have hv:=mm ms (vb ms (g.getD i default).Data) (g.getD i default).Data.n (g.getD i default).Data.n false (by omega)
 rw[List.take_of_length_le (by omega)]at hv
 have hq:Q (ms++[some (vb ms (g.getD i default).Data)]) g b L:=⟨h.le,h.w.more _,h.Yo,h.data⟩
 obtain⟨p1,p2⟩:=qd (N:=N) (f:=(g.getD i default).aS) (t:=(g.getD i default).To) hq hf h0 h1 hv.1 h.w.fresh (by rw[hv.2];exact hg)
 rw[p1,hv.2]at *
 exact⟨_,_,rfl,p2⟩
end
theorem kh (hN:1048700≤N){m:aN}(hr:Db N m) :
  (ER m∧(Js m).length≤1048576∧∃ c,oU N m=some ((qN (Js m)).length,0,c)∧(qN (Js m)).length≤c.length∧c.take (qN (Js m)).length=qN (Js m))∨(ER m∧1048576 < (Js m).length∧oU N m=some (0,3,[]))∨(¬ ER m∧oU N m=some (0,40,[])):=by
 unfold oU Mk
 rw[TY (by omega) hr,Option.bind_some]
 by_cases hm:ER m
 ·rw[(GA hr.Bg).2 hm]
  simp only[cond_true,beq_self_eq_true,Bool.not_true,cond_false,Option.bind_some]
  rw[aCN (by omega) hr hm (by simp),Option.bind_some]
  by_cases h:(Js m).length≤1048576
  ·refine .inl ⟨hm,h,?_⟩
   rw[aHH (by simpa[Js] using h)]
   simp only[beq_self_eq_true,Bool.not_true,cond_false,List.nil_append]
   rw[aEW (by simpa[Js] using h),Option.bind_some]
   obtain⟨c,e1,e2,e3⟩:=aCx (N:=N) (b:=Js m) (by omega) (P6 hr.Bg hm) h
   change ∃ c,(Lh N (Js m)).bind _=_∧_
   rw[e1]
   exact⟨c,rfl,e2,e3⟩
  ·refine .inr (.inl ⟨hm,by omega,?_⟩)
   have:(wr 0 [] (H5 m)).1=3:=I6 _ _ (by simp) (by simp only[List.length_nil];unfold Js at h;omega)
   rw[this];rfl
 ·refine .inr (.inr ⟨hm,?_⟩)
  have:FZ m=false:=by rw[Bool.eq_false_iff];exact fun e=>hm ((GA hr.Bg).1 e)
  rw[this];rfl
def ZG (m:aN):Bool:=FZ m&&decide ((Js m).length≤1048576)
theorem B8 (hN:1048700≤N){m:aN}(hr:Db N m):Ax N m=some (bif ZG m then (qN (Js m),0) else bif FZ m then ([],3) else ([],40)):=by
 unfold Ax ZG
 rw[S4 (by omega) hr,Option.bind_some]
 cases hm:FZ m with
 |false=>rfl
 |true =>
  have XJ:=(GA hr.Bg).1 hm
  simp only[Bool.not_true,cond_false,Bool.true_and,cond_true]
  rw[(ki (by omega) hr XJ).1,Option.bind_some]
  by_cases h:(Js m).length≤1048576
  ·rw[decide_eq_false (show ¬ (1048576:Int) < ((Js m).length:Int) by omega),decide_eq_true h,cond_false,aEY (by omega) (P6 hr.Bg XJ),if_neg (by omega)]
   rfl
  ·rw[decide_eq_true (show (1048576:Int) < ((Js m).length:Int) by omega),decide_eq_false h]
   rfl
theorem iv {m:aN}(hb:LF m)(hm:ER m)(hl:(Js m).length≤1048576):TR (qN (Js m)):=by
 have:=tg hl
 refine⟨tf hl (P6 hb hm),?_,by omega⟩
 have h4:(four (QG (Js m))).length=4:=by simp[ZI]
 unfold qN
 simp only[List.length_append]
 omega
def Ep:List aN→Int→Int→List eW→Int×Int×List eW
 |[],k,last,L=>(k,last,L)
 |m :: r,k,last,L=>bif ZG m&&decide (L.length < 16384) then Ep r (k+1) (last+1) (L++[⟨last+1,m.aS,m.To,qN (Js m)⟩]) else Ep r k last L
theorem aC2 (hN:1048700≤N){l:List aN}(hlN:l.length < N)(hl:l.length≤9223372036854775807)(hr:∀ m∈l,Db N m){ms:Oo}{g:List bJ}{b:Nat}{L:List eW}{last:Int}(h:Q ms g b L)(h0:0≤last)(h1:last+l.length < 9223372036854775807) :
  ∃ kS g' b',oK N l b last true g ms=some ((Ep l 0 last L).1,0,b',(Ep l 0 last L).2.1,true,kS,g')∧Q kS g' b' (Ep l 0 last L).2.2:=by
 suffices key:∃ r,oK N l b last true g ms=some r∧∃ kS g' b',r=((Ep l 0 last L).1,0,b',(Ep l 0 last L).2.1,true,kS,g')∧Q kS g' b' (Ep l 0 last L).2.2 by
  obtain⟨r,e,kS,g',b',rfl,hq⟩:=key
  exact⟨kS,g',b',e,hq⟩
 unfold oK eU
 simp only[Option.bind_some,Bool.not_true,cond_false]
 generalize hR:Ep l 0 last L=R
 refine rM (fun q:lW=>0≤q.t15∧q.t15≤(l.length:Int)∧0≤q.yJ∧q.yJ+(l.length:Int) - q.t15 < 9223372036854775807∧0≤q.many∧q.many≤q.t15∧q.Xz=true∧∃ L',Q q.ms q.g3 q.b0 L'∧Ep (l.drop q.t15.toNat) q.many q.yJ L'=R) (fun q=>l.length - q.t15.toNat) _ ?_ N _
  ⟨Int.le_refl _,by simp,h0,by simp only;omega,Int.le_refl _,Int.le_refl _,rfl,L,h,by simpa using hR⟩ (by simp;omega)
 rintro⟨many,t,b0,yJ,Xz,ms0,g3⟩ next ⟨p1,p2,p3,p4,p5,p6,p7,L',hq,hI⟩ hn
 simp only at p1 p2 p3 p4 p5 p6 p7 hq hI
 subst p7
 by_cases ht:t < (l.length:Int)
 ·rw[dC default p1 ht,Ep]at hI
  have hm:=hr _ (jS default p1 ht)
  have hlen:=hq.len
  rw[decide_eq_true ht,dT p1 ht]
  simp only[cond_true]
  change ∃ r,(oU N (aE l t default)).bind _=some r∧_
  have hw:IntKind.i64.wrap (t+1)=t+1:=wrap64 (by omega) (by omega)
  generalize aE l t default=m at *
  have skip:∀ c,Ep (l.drop (t+1).toNat) many yJ L'=R→∃ r,next ⟨many,t+1,b0,yJ,true,ms0++[some c],g3⟩=some r∧∃ kS g' b',r=(R.1,0,b',R.2.1,true,kS,g')∧Q kS g' b' R.2.2:=fun c hc =>
   hn _ ⟨by simp only;omega,by simp only;omega,p3,by simp only;omega,p5,by simp only;omega,rfl,L',⟨hq.le,hq.w.more _,hq.Yo,hq.data⟩,hc⟩ (by simp only;omega)
  rcases kh hN hm with⟨hm1,hs,c,e1,e2,e3⟩|⟨hm1,hs,e⟩|⟨hm1,e⟩
  ·rw[e1,Option.bind_some]
   have N7:ZG m=true:=by unfold ZG;rw[(GA hm.Bg).2 hm1,decide_eq_true hs];rfl
   rw[N7,Bool.true_and]at hI
   simp only[beq_self_eq_true,Bool.not_true,Bool.false_or]
   by_cases hf:16384≤b0
   ·rw[decide_eq_true (show (16384:Int)≤((b0:Nat):Int) by omega)]
    rw[decide_eq_false (by omega)]at hI
    simp only[cond_true,hw]
    exact skip c hI
   ·rw[decide_eq_false (show ¬ (16384:Int)≤((b0:Nat):Int) by omega)]
    rw[decide_eq_true (by omega)]at hI
    have hv:=mm ms0 c (qN (Js m)).length (qN (Js m)).length false e2
    rw[e3]at hv
    have hq':Q (ms0++[some c]) g3 b0 L':=⟨hq.le,hq.w.more _,hq.Yo,hq.data⟩
    obtain⟨k1,k2⟩:=qd (N:=N) (f:=m.aS) (t:=m.To) hq' (by omega) p3 (by omega) hv.1 hq.w.fresh (by rw[hv.2];exact iv hm.Bg hm1 hs)
    rw[hv.2]at k2
    simp only[cond_false]
    rw[k1,Option.bind_some,hw,wrap64 (n:=many+1) (by omega) (by omega)]
    exact hn _ ⟨by simp only;omega,by simp only;omega,by simp only;omega,by simp only;omega,by simp only;omega,by simp only;omega,rfl,_,k2,hI⟩ (by simp only;omega)
  ·have N7:ZG m=false:=by unfold ZG;rw[decide_eq_false (by omega),Bool.and_false]
   rw[N7]at hI
   rw[e,Option.bind_some]
   simp only[show ((3:Int)==0)=false from rfl,Bool.not_false,Bool.true_or,cond_true,hw]
   exact skip [] hI
  ·have N7:ZG m=false:=by unfold ZG;rw[show FZ m=false by rw[Bool.eq_false_iff];exact fun q=>hm1 ((GA hm.Bg).1 q)];rfl
   rw[N7]at hI
   rw[e,Option.bind_some]
   simp only[show ((40:Int)==0)=false from rfl,Bool.not_false,Bool.true_or,cond_true,hw]
   exact skip [] hI
 ·rw[decide_eq_false ht]
  rw[List.drop_eq_nil_of_le (by omega),Ep]at hI
  subst hI
  exact⟨_,rfl,ms0,g3,b0,rfl,hq⟩
end
end Go.Proofs.YtddpmkmgbdedlaaGreat
