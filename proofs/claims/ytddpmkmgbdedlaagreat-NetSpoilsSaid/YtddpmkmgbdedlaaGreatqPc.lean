/-
Nets over the pool: spoiling,sending,doubling.
-/
import Derived.Test.YtddpmkmgbdedlaaGreatqPb
set_option linter.unusedVariables false
set_option linter.unusedSimpArgs false
set_option maxRecDepth 100000
namespace Go.Proofs.YtddpmkmgbdedlaaGreat
open Go Go.Ev
section
variable {N:Nat}
theorem aVI (x y:Int):bS (bits .xor .u8 x y):=by
 have h:∃ n,bits .xor .u8 x y=IntKind.u8.wrap n:=⟨_,rfl⟩
 obtain ⟨n,h⟩:=h
 rw [h]
 have:=aOm n
 exact ⟨this.1,by omega⟩
section
variable {ms:fV} {g:List bU} {b:Nat} {L:List cC} {last k at_ with_:Int}
theorem aVJ (hN:16400≤N) (h:Q ms g b L) {i:Nat} (hi:idx L k=some i) (ha:0≤at_) (hb:at_ < ((L.getD i default).Data.length:Int)) :
  ∃ ms',aCG N k at_ with_ b last true g ms=some (0,b,last,true,g,ms')∧Q ms' g b (L.set i { L.getD i default with Data:=(L.getD i default).Data.set at_.toNat (bits .xor .u8 ((L.getD i default).Data.getD at_.toNat default) with_) }):=by
 have hib:i < b:=by have:=(aMR hi).1; have:=h.len; omega
 obtain ⟨e1,e2,e3⟩:=h.get hib
 have hn:(L.getD i default).Data.length=(g.getD i default).Data.n:=by rw [e1]; exact e2.len
 have hfit:=e2.fit
 unfold aCG
 rw [aMS hN h hi]
 have t1:((i:Int)).toNat=i:=by omega
 have e4:ibB (i:Int) ((b:Nat):Int)=true:=bV (by omega) (by omega)
 have e5:ibB at_ (((g.getD i default).Data.n:Nat):Int)=true:=bV ha (by omega)
 simp only [Option.bind_some,beq_self_eq_true,Bool.not_true,Bool.not_false,cond_false,t1,e4,e5,decide_eq_true e3,Bool.or_true,cond_true,e2.has,decide_eq_false (show ¬ at_ < 0 by omega),
  decide_eq_false (show ¬ (((g.getD i default).Data.n:Nat):Int)≤at_ by omega),Bool.or_self,Bool.and_self,decide_eq_true (show (g.getD i default).Data.o+at_.toNat < (fM ms (g.getD i default).Data.j).length by omega)]
 refine ⟨_,rfl,h.le,?_,h.most,fun s hs=>?_⟩
 ·have hd:(L.getD i default).Data=((fM ms (g.getD i default).Data.j).drop (g.getD i default).Data.o).take (g.getD i default).Data.n:=by rw [e1]; rfl
  refine set_vs h.w h.le hib (by rw [List.length_set]) ?_
  rw [List.drop_set,if_neg (by omega),Nat.add_sub_cancel_left,List.take_set,← hd]
  congr 1
  congr 1
  rw [hd]
  have q1:at_.toNat < (g.getD i default).Data.n:=by omega
  generalize (g.getD i default).Data=z at q1 ⊢
  simp only [List.getD,List.getElem?_take,List.getElem?_drop]
  rw [if_pos q1]
 ·rcases List.mem_or_eq_of_mem_set hs with hs | rfl
  ·exact h.data s hs
  ·obtain ⟨d1,d2,d3⟩:=h.mem hib
   refine ⟨fun x hx=>?_,by simpa using d2,by simpa using d3⟩
   rcases List.mem_or_eq_of_mem_set hx with hx | rfl
   ·exact d1 x hx
   ·exact aVI _ _
theorem aVK (h:Q ms g b L) {f t:aS} {d:Hd} (hb:b < 16384) (h0:0≤last) (h1:last < 9223372036854775807) (hd:HOk ms d) (hn:∀ y∈g.take b,y.Data.j≠d.j) (hg:aCI (vb ms d)) :
  aBX N f t d b last true g ms=some (last+1,b+1,last+1,true,ms,g.take b++[⟨last+1,f,t,d⟩])∧Q ms (g.take b++[⟨last+1,f,t,d⟩]) (b+1) (L++[⟨last+1,f,t,vb ms d⟩]):=by
 have hle:=h.le
 have hlt:(g.take b).length=b:=by simp; omega
 refine ⟨?_,by simp; omega,?_,by omega,fun s hs=>?_⟩
 ·unfold aBX
  rw [bH (by omega) (by omega)]
  simp only [List.length_singleton,bY (show (b+1) * 64≤70368744177664 by omega),Nat.ble_eq_true_of_le hle,Bool.and_self,cond_true]
 ·rw [List.take_of_length_le (by simp; omega)]
  exact h.w.snoc (x:=⟨last+1,f,t,d⟩) hd hn
 ·rcases List.mem_append.1 hs with hs | hs
  ·exact h.data s hs
  ·simp at hs; subst hs; exact hg
theorem vb_new (ms:fV) (c:List Int) (n c2:Nat) (nn:Bool) (hn:n≤c.length):HOk (ms++[some c]) ⟨ms.length+1,0,n,c2,nn⟩∧vb (ms++[some c]) ⟨ms.length+1,0,n,c2,nn⟩=c.take n:=by
 have h:=aVA ms (some c)
 have hc:fM (ms++[some c]) (ms.length+1)=c:=by unfold fM; rw [h]; rfl
 exact ⟨⟨by unfold jE; simp only [h]; rfl,by simp only [hc]; omega⟩,by unfold vb; simp only [hc,List.drop_zero]⟩
end
theorem aVL (hN:1048700≤N) {m:aB} (hr:roomM N m) :
  (lA m∧(msB m).length≤1048576∧∃ c,rU N m=some ((aW (msB m)).length,0,c)∧(aW (msB m)).length≤c.length∧c.take (aW (msB m)).length=aW (msB m))∨(lA m∧1048576 < (msB m).length∧rU N m=some (0,3,[]))∨(¬ lA m∧rU N m=some (0,40,[])):=by
 unfold rU aF0
 rw [aPr (by omega) hr,Option.bind_some]
 by_cases hm:lA m
 ·rw [(xE hr.byt).2 hm]
  simp only [cond_true,beq_self_eq_true,Bool.not_true,cond_false,Option.bind_some]
  rw [aYF (by omega) hr hm (by simp),Option.bind_some]
  by_cases h:(msB m).length≤1048576
  ·refine .inl ⟨hm,h,?_⟩
   rw [wr_fit (by simpa [msB] using h)]
   simp only [beq_self_eq_true,Bool.not_true,cond_false,List.nil_append]
   rw [F20_eq (by simpa [msB] using h),Option.bind_some]
   obtain ⟨c,e1,e2,e3⟩:=aYH (N:=N) (b:=msB m) (by omega) (aDN hr.byt hm) h
   change ∃ c,(yV N (msB m)).bind _=_∧_
   rw [e1]
   exact ⟨c,rfl,e2,e3⟩
  ·refine .inr (.inl ⟨hm,by omega,?_⟩)
   have:(wr 0 [] (msC m)).1=3:=aOX _ _ (by simp) (by simp only [List.length_nil]; unfold msB at h; omega)
   rw [this]; rfl
 ·refine .inr (.inr ⟨hm,?_⟩)
  have:hY m=false:=by rw [Bool.eq_false_iff]; exact fun e=>hm ((xE hr.byt).1 e)
  rw [this]; rfl
def lM (m:aB):Bool:=hY m&&decide ((msB m).length≤1048576)
theorem aVM (hN:1048700≤N) {m:aB} (hr:roomM N m):aAb N m=some (bif lM m then (aW (msB m),0) else bif hY m then ([],3) else ([],40)):=by
 unfold aAb lM
 rw [aYx (by omega) hr,Option.bind_some]
 cases hm:hY m with
 | false=>rfl
 | true =>
  have hm':=(xE hr.byt).1 hm
  simp only [Bool.not_true,cond_false,Bool.true_and,cond_true]
  rw [(aYE (by omega) hr hm').1,Option.bind_some]
  by_cases h:(msB m).length≤1048576
  ·rw [decide_eq_false (show ¬ (1048576:Int) < ((msB m).length:Int) by omega),decide_eq_true h,cond_false,F38_eq (by omega) (aDN hr.byt hm'),if_neg (by omega)]
   rfl
  ·rw [decide_eq_true (show (1048576:Int) < ((msB m).length:Int) by omega),decide_eq_false h]
   rfl
theorem aMT {m:aB} (hb:iP m) (hm:lA m) (hl:(msB m).length≤1048576):aCI (aW (msB m)):=by
 have:=aPY hl
 refine ⟨aPJ hl (aDN hb hm),?_,by omega⟩
 have h4:(dD (cQ (msB m))).length=4:=by simp [jW]
 unfold aW
 simp only [List.length_append]
 omega
def fW:List aB→Int→Int→List cC→Int×Int×List cC
 | [],k,last,L=>(k,last,L)
 | m :: r,k,last,L=>bif lM m&&decide (L.length < 16384) then fW r (k+1) (last+1) (L++[⟨last+1,m.From,m.To,aW (msB m)⟩]) else fW r k last L
theorem aVN (hN:1048700≤N) {l:List aB} (hlN:l.length < N) (hl:l.length≤9223372036854775807) (hr:∀ m∈l,roomM N m) {ms:fV} {g:List bU} {b:Nat} {L:List cC} {last:Int} (h:Q ms g b L) (h0:0≤last) (h1:last+l.length < 9223372036854775807) :
  ∃ ms' g' b',vB N l b last true g ms=some ((fW l 0 last L).1,0,b',(fW l 0 last L).2.1,true,ms',g')∧Q ms' g' b' (fW l 0 last L).2.2:=by
 suffices key:∃ r,vB N l b last true g ms=some r∧∃ ms' g' b',r=((fW l 0 last L).1,0,b',(fW l 0 last L).2.1,true,ms',g')∧Q ms' g' b' (fW l 0 last L).2.2 by
  obtain ⟨r,e,ms',g',b',rfl,hq⟩:=key
  exact ⟨ms',g',b',e,hq⟩
 unfold vB rL
 simp only [Option.bind_some,Bool.not_true,cond_false]
 generalize hR:fW l 0 last L=R
 refine wV (fun q:vA=>0≤q.t15∧q.t15≤(l.length:Int)∧0≤q.b02∧q.b02+(l.length:Int) - q.t15 < 9223372036854775807∧0≤q.many∧q.many≤q.t15∧q.b03=true∧∃ L',Q q.ms q.g3 q.b0 L'∧fW (l.drop q.t15.toNat) q.many q.b02 L'=R) (fun q=>l.length - q.t15.toNat) _ ?_ N _
  ⟨Int.le_refl _,by simp,h0,by simp only; omega,Int.le_refl _,Int.le_refl _,rfl,L,h,by simpa using hR⟩ (by simp; omega)
 rintro ⟨many,t,b0,b02,b03,ms0,g3⟩ next ⟨p1,p2,p3,p4,p5,p6,p7,L',hq,hI⟩ hn
 simp only at p1 p2 p3 p4 p5 p6 p7 hq hI
 subst p7
 by_cases ht:t < (l.length:Int)
 ·rw [cK default p1 ht, fW] at hI
  have hm:=hr _ (fJ default p1 ht)
  have hlen:=hq.len
  rw [decide_eq_true ht,bV p1 ht]
  simp only [cond_true]
  change ∃ r,(rU N (aA l t default)).bind _=some r∧_
  have hw:IntKind.i64.wrap (t+1)=t+1:=bH (by omega) (by omega)
  generalize aA l t default=m at *
  have skip:∀ c,fW (l.drop (t+1).toNat) many b02 L'=R→∃ r,next ⟨many,t+1,b0,b02,true,ms0++[some c],g3⟩=some r∧∃ ms' g' b',r=(R.1,0,b',R.2.1,true,ms',g')∧Q ms' g' b' R.2.2:=fun c hc =>
   hn _ ⟨by simp only; omega,by simp only; omega,p3,by simp only; omega,p5,by simp only; omega,rfl,L',⟨hq.le,hq.w.more _,hq.most,hq.data⟩,hc⟩ (by simp only; omega)
  rcases aVL hN hm with ⟨hm1,hs,c,e1,e2,e3⟩ | ⟨hm1,hs,e⟩ | ⟨hm1,e⟩
  ·rw [e1,Option.bind_some]
   have hfit:lM m=true:=by unfold lM; rw [(xE hm.byt).2 hm1,decide_eq_true hs]; rfl
   rw [hfit,Bool.true_and] at hI
   simp only [beq_self_eq_true,Bool.not_true,Bool.false_or]
   by_cases hf:16384≤b0
   ·rw [decide_eq_true (show (16384:Int)≤((b0:Nat):Int) by omega)]
    rw [decide_eq_false (by omega)] at hI
    simp only [cond_true,hw]
    exact skip c hI
   ·rw [decide_eq_false (show ¬ (16384:Int)≤((b0:Nat):Int) by omega)]
    rw [decide_eq_true (by omega)] at hI
    have hv:=vb_new ms0 c (aW (msB m)).length (aW (msB m)).length false e2
    rw [e3] at hv
    have hq':Q (ms0++[some c]) g3 b0 L':=⟨hq.le,hq.w.more _,hq.most,hq.data⟩
    obtain ⟨k1,k2⟩:=aVK (N:=N) (f:=m.From) (t:=m.To) hq' (by omega) p3 (by omega) hv.1 hq.w.fresh (by rw [hv.2]; exact aMT hm.byt hm1 hs)
    rw [hv.2] at k2
    simp only [cond_false]
    rw [k1,Option.bind_some,hw,bH (n:=many+1) (by omega) (by omega)]
    exact hn _ ⟨by simp only; omega,by simp only; omega,by simp only; omega,by simp only; omega,by simp only; omega,by simp only; omega,rfl,_,k2,hI⟩ (by simp only; omega)
  ·have hfit:lM m=false:=by unfold lM; rw [decide_eq_false (by omega),Bool.and_false]
   rw [hfit] at hI
   rw [e,Option.bind_some]
   simp only [show ((3:Int)==0)=false from rfl,Bool.not_false,Bool.true_or,cond_true,hw]
   exact skip [] hI
  ·have hfit:lM m=false:=by unfold lM; rw [show hY m=false by rw [Bool.eq_false_iff]; exact fun q=>hm1 ((xE hm.byt).1 q)]; rfl
   rw [hfit] at hI
   rw [e,Option.bind_some]
   simp only [show ((40:Int)==0)=false from rfl,Bool.not_false,Bool.true_or,cond_true,hw]
   exact skip [] hI
 ·rw [decide_eq_false ht]
  rw [List.drop_eq_nil_of_le (by omega),fW] at hI
  subst hI
  exact ⟨_,rfl,ms0,g3,b0,rfl,hq⟩
end
end Go.Proofs.YtddpmkmgbdedlaaGreat
