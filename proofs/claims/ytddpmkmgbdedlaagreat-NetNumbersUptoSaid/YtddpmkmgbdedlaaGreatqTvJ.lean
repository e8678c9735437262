/-
Regions that draw their order,concluded;pieces of code at an abstract state;functions.
-/
import Derived.Test.YtddpmkmgbdedlaaGreatqTvI
set_option linter.unusedVariables false
set_option linter.unusedSimpArgs false
set_option linter.unnecessarySimpa false
set_option linter.unusedSectionVars false
namespace Go.Ev
open Go
theorem P4 {ops:Array Oper}(hs:HI ops=true){i j:Nat}(wj:i < j)(hj:j < ops.size):((UU ops).getD j 0).testBit i=true∨∃ x y,ops[i]?=some x∧ops[j]?=some y∧x.apart ops y=true:=by
 unfold HI at hs
 have h1:=List.all_eq_true.1 hs j (by simpa using hj)
 simp only[Bool.and_eq_true]at h1
 have h2:=List.all_eq_true.1 h1.2 i (by simpa using wj)
 simp only[Bool.or_eq_true]at h2
 rcases h2 with h2|h2
 ·exact .inl h2
 ·right
  split at h2
  ·rename_i x y hx hy;exact⟨x,y,hx,hy,h2⟩
  ·cases h2
theorem ru {ops:Array Oper}(hs:HI ops=true){j:Nat}{o:Oper}(ho:ops[j]?=some o){e:Edge}(he:e∈o.after)(hb:Region.binds .any e=true):e.on < j:=by
 have hj:j < ops.size:=by
  rcases Nat.lt_or_ge j ops.size with h|h
  ·exact h
  ·rw[Array.getElem?_eq_none h]at ho;cases ho
 unfold HI at hs
 have h1:=List.all_eq_true.1 hs j (by simpa using hj)
 simp only[ho,Bool.and_eq_true]at h1
 have:=List.all_eq_true.1 h1.1 e (by simpa using he)
 simpa[hb] using this
structure xj (ops:Array Oper) (xs:List Rec):Prop where
 size:xs.length=ops.size
 tmps:∀ i j,i < j→j < ops.size→Reach ops i j∨(∀ k,wrT ops ⟨[],[]⟩ k i=true→False)∨True
 names:∀ i j,i < j→j < ops.size→Reach ops i j∨(ops.getD i default).apart ops (ops.getD j default)=true
 boxes:∀ i j,i < j→j < ops.size→Reach ops i j∨((∀ id∈(xs.getD j default).U.map (·.1),id ∉ (xs.getD i default).F)∧(∀ id∈(xs.getD i default).U.map (·.1),id ∉ (xs.getD j default).F))
theorem aA3 {ops:Array Oper}{xs:List Rec}(hl:xs.length=ops.size)(hs:HI ops=true)(hi:indep (UU ops) (dr 0 xs [])=true):xj ops xs:=by
 refine⟨hl,fun _ _ _ _=>.inr (.inr trivial),fun i j wj hj=>?_,fun i j wj hj=>?_⟩
 ·rcases P4 hs wj hj with h|⟨x,y,hx,hy,h⟩
  ·exact .inl (UW h)
  ·right
   have e1:ops.getD i default=x:=by simp[Array.getD_eq_getD_getElem?,hx]
   have e2:ops.getD j default=y:=by simp[Array.getD_eq_getD_getElem?,hy]
   rw[e1,e2];exact h
 ·have hxi:xs[i]?=some (xs.getD i default):=by simp[List.getD,List.getElem?_eq_getElem (show i < xs.length by omega)]
  have hxj:xs[j]?=some (xs.getD j default):=by simp[List.getD,List.getElem?_eq_getElem (show j < xs.length by omega)]
  have:=ZO xs 0 [] hi i j _ _ wj hxi hxj
  simp only[R1,Nat.zero_add]at this
  rcases this with h|⟨h1,h2⟩
  ·exact .inl (UW h)
  ·exact .inr ⟨fun id gY=>E5 h1 gY,fun id gY=>E5 h2 gY⟩
theorem aDx {α:Type}{ops:Array Oper}{D:Nat→Bool}(hD:KZ ops D){i n:Nat}(hi:D i=false)(DR:i < n)(Rs:∀ j,Reach ops j i→D j=true){wr:Nat→Bool}{val:Nat→α}{v0:α}
  (h1:∀ j,j < i→wr j=true→Reach ops j i) (h2:∀ j,i < j→j < n→wr j=true→Reach ops i j) :
  Lo (fun j=>D j&&wr j) val v0 n=Lo (fun j=>(fun _=>true) j&&wr j) val v0 i:=by
 rw[AZ (i:=i) (n:=n) (by omega)]
 ·refine FQ fun j hj=>?_
  cases hw:wr j with
  |false=>simp
  |true=>rw[Rs j (h1 j hj hw)]
 ·intro j hj hjn
  cases hw:wr j with
  |false=>simp
  |true =>
   by_cases hji:j=i
   ·subst hji;rw[hi];rfl
   ·cases hDj:D j with
    |false=>rfl
    |true=>have:=hD.reach (h2 j (by omega) hjn hw) hDj;rw[hi]at this;cases this
theorem writes {α:Type}{ops:Array Oper}{D:Nat→Bool}(hD:KZ ops D){i n:Nat}(hi:D i=false)(DR:i < n){wr:Nat→Bool}{val:Nat→α}{v0:α}(hw:wr i=true)
  (h2:∀ j,i < j→j < n→wr j=true→Reach ops i j):Lo (fun j=>(D j || j==i)&&wr j) val v0 n=val i:=by
 rw[AZ (i:=i+1) (n:=n) (by omega)]
 ·simp[Lo,hw]
 ·intro j hj hjn
  cases hwj:wr j with
  |false=>simp
  |true =>
   have dF:(j==i)=false:=by simp;omega
   cases hDj:D j with
   |false=>simp[dF]
   |true=>have:=hD.reach (h2 j (by omega) hjn hwj) hDj;rw[hi]at this;cases this
theorem E7 {α:Type}{D:Nat→Bool}{i n:Nat}{wr:Nat→Bool}{val:Nat→α}{v0:α}(hw:wr i=false):Lo (fun j=>(D j || j==i)&&wr j) val v0 n=Lo (fun j=>D j&&wr j) val v0 n:=by
 refine FQ fun j hj=>?_
 by_cases hji:j=i
 ·subst hji;simp[hw]
 ·have:(j==i)=false:=by simp[hji]
  simp[this]
section
variable {E:Env} {ops:Array Oper} {xs:List Rec} {st0:St} (hp:xj ops xs) (hF:∀ i,i < ops.size→∀ id∈(xs.getD i default).U.map (·.1),id∈(xs.getD i default).F)
 {D:Nat→Bool} (hD:KZ ops D) {i:Nat} (hi:D i=false) (DR:i < ops.size) (Rs:∀ j,Reach ops j i→D j=true)
include hp hD hi DR Rs
theorem XU {k j:Nat}(h:wrT ops st0 k j=true):(ops.getD j default).dst=some k:=by
 simp only[wrT,Bool.and_eq_true,beq_iff_eq]at h;exact h.1
theorem rm {d:Nat}(hd:d∈(ops.getD i default).looksAt ops∨(ops.getD i default).dst=some d):nth (AD ops xs D st0 ops.size).t d=nth (AD ops xs (fun _=>true) st0 i).t d:=by
 rw[ZY,ZY]
 refine aDx hD hi DR Rs (fun j hj hw=>?_) (fun j hj hjn hw=>?_)
 ·rcases hp.names j i hj DR with h|h
  ·exact h
  ·obtain⟨a1,a2,a3⟩:=Oper.apart_spec h
   have hdj:=XU hp hD hi DR Rs hw
   rcases hd with hd|hd
   ·exact absurd hd (a1 d hdj)
   ·exact absurd hd (a2 d hdj)
 ·rcases hp.names i j hj hjn with h|h
  ·exact h
  ·obtain⟨a1,a2,a3⟩:=Oper.apart_spec h
   have hdj:=XU hp hD hi DR Rs hw
   rcases hd with hd|hd
   ·exact absurd hd (a3 d hdj)
   ·exact absurd hdj (a2 d hd)
theorem XT {id j:Nat}(h:wrH xs id j=true):id∈(xs.getD j default).U.map (·.1):=by
 by_cases hm:id∈(xs.getD j default).U.map (·.1)
 ·exact hm
 ·rw[wrH,ZQ hm]at h;cases h
theorem rl {id:Nat}(gY:id∈(xs.getD i default).F):bU (AD ops xs D st0 ops.size).h id=bU (AD ops xs (fun _=>true) st0 i).h id:=by
 rw[OM,OM]
 refine aDx hD hi DR Rs (fun j hj hw=>?_) (fun j hj hjn hw=>?_)
 ·rcases hp.boxes j i hj DR with h|⟨_,h⟩
  ·exact h
  ·exact absurd gY (h id (XT hp hD hi DR Rs hw))
 ·rcases hp.boxes i j hj hjn with h|⟨h,_⟩
  ·exact h
  ·exact absurd gY (h id (XT hp hD hi DR Rs hw))
include hF in
theorem aCO:((AD ops xs D st0 ops.size).after (ops.getD i default) (xs.getD i default)).t=(AD ops xs (fun j=>D j || j==i) st0 ops.size).t ∧
  ∀ id,bU ((AD ops xs D st0 ops.size).after (ops.getD i default) (xs.getD i default)).h id=bU (AD ops xs (fun j=>D j || j==i) st0 ops.size).h id:=by
 refine⟨OV (by rw[OT,Qp,Qp]) fun k=>?_,fun id=>?_⟩
 ·rw[ZY]
  cases hw:wrT ops st0 k i with
  |true =>
   have hdst:=XU hp hD hi DR Rs hw
   rw[writes hD hi DR hw]
   ·rw[XC,hdst]
    simp only[wrT,Bool.and_eq_true,decide_eq_true_eq]at hw
    simp[SA,zG,Qp,hw.2]
   ·intro j hj hjn hwj
    rcases hp.names i j hj hjn with h|h
    ·exact h
    ·exact absurd (XU hp hD hi DR Rs hwj) ((Oper.apart_spec h).2.1 k hdst)
  |false =>
   rw[E7 hw,← ZY,XC]
   cases hd:(ops.getD i default).dst with
   |none=>rfl
   |some d =>
    simp only[SA,zG,Qp]
    rw[if_neg]
    rintro⟨rfl,nH⟩
    rw[wrT,hd]at hw
    simp[nH]at hw
 ·rw[OM,K4,Qm,cA]
  cases hw:wrH xs id i with
  |true =>
   rw[writes hD hi DR hw]
   ·rw[wrH]at hw
    obtain⟨e,he⟩:=Option.isSome_iff_exists.1 hw
    rw[he];rfl
   ·intro j hj hjn hwj
    have gY:=hF i DR id (XT hp hD hi DR Rs hw)
    rcases hp.boxes i j hj hjn with h|⟨h,_⟩
    ·exact h
    ·exact absurd gY (h id (XT hp hD hi DR Rs hwj))
  |false =>
   rw[E7 hw,← OM]
   have:FP (xs.getD i default).U id=none:=by rw[wrH]at hw;simpa using hw
   rw[this];rfl
end
theorem W0 {ops:Array Oper}{xs:List Rec}{st0:St}{D D':Nat→Bool}:∀ n,(∀ j,j < n→D j=D' j)→AD ops xs D st0 n=AD ops xs D' st0 n
 |0,_=>rfl
 |n+1,h=>by simp only[AD];rw[h n (Nat.lt_succ_self _),W0 n fun j hj=>h j (Nat.lt_succ_of_lt hj)]
def yR (listed:Array Bool)(j:Nat):Bool:=listed.getD j false
theorem ik {E:Env}{ops:Array Oper}{xs:List Rec}{st0 fZ:St}(hs:HI ops=true)(hp:xj ops xs)
  (hl:∀ i,i < ops.size→Local E ops (ops.getD i default) (AD ops xs (fun _=>true) st0 i) (xs.getD i default)∧∀ id∈(xs.getD i default).U.map (·.1),id∈(xs.getD i default).F)
  (aCB:fZ=AD ops xs (fun _=>true) st0 ops.size) {g0:Gh} {H0:Nat→dD} {w0:World} {Q:Exit→St→Prop} (hQ:Q .normal fZ) :
  ∀ (fuel:Nat) (listed:Array Bool) (g:Gh) (a:Act) (w:World),listed.size=ops.size→KZ ops (yR listed)→((List.range ops.size).filter fun j=>!yR listed j).length≤fuel →
   pN g (AD ops xs (yR listed) st0 ops.size) a w→iH g0 H0 w0 g (bU (AD ops xs (yR listed) st0 ops.size).h) w→Nz w0 a w→wpAnyIn (fe E) 0 E.P .any ops (u4 g0 H0 w0 Q) fuel listed a w:=by
 have hF:=fun i hi=>(hl i hi).2
 have aEd:∀ (listed:Array Bool) (g:Gh) (a:Act) (w:World),listed.size=ops.size→KZ ops (yR listed)→Region.ready .any ops listed=[]→pN g (AD ops xs (yR listed) st0 ops.size) a w →
   iH g0 H0 w0 g (bU (AD ops xs (yR listed) st0 ops.size).h) w→Nz w0 a w→u4 g0 H0 w0 Q .normal a w:=by
  intro listed g a w Ch RL hr sQ iP Xw
  have iI:∀ j,j < ops.size→yR listed j=true:=by
   intro j
   induction j using Nat.strongRecOn with
   |_ j ih =>
    intro hj
    cases DR:yR listed j with
    |true=>rfl
    |false =>
     have rZ:j∈Region.ready .any ops listed:=by
      rw[mem_ready]
      refine⟨?_,ops.getD j default,by simp[Array.getD,hj],fun e he hb=>?_⟩
      ·have:j < listed.size:=by omega
       simp[yR,Array.getD,this]at DR ⊢
       exact DR
      ·have ho:ops[j]?=some (ops.getD j default):=by simp[Array.getD,hj]
       have nH:=ru hs ho he hb
       exact ih e.on nH (by omega)
     rw[hr]at rZ;cases rZ
  have e:=W0 (ops:=ops) (xs:=xs) (st0:=st0) ops.size iI
  rw[e]at sQ iP
  exact⟨_,g,aCB▸hQ,sQ,iP,Xw⟩
 intro fuel
 induction fuel with
 |zero =>
  intro listed g a w Ch RL hf sQ iP Xw
  have hr:Region.ready .any ops listed=[]:=by
   cases hr:Region.ready .any ops listed with
   |nil=>rfl
   |cons i r =>
    have rZ:i∈Region.ready .any ops listed:=by rw[hr];simp
    rw[mem_ready]at rZ
    obtain⟨h0,o,ho,_⟩:=rZ
    have hi:i < ops.size:=by
     rcases Nat.lt_or_ge i ops.size with h|h
     ·exact h
     ·rw[Array.getElem?_eq_none h]at ho;cases ho
    have aAt:i∈(List.range ops.size).filter fun j=>!yR listed j:=by
     have:i < listed.size:=by omega
     simp[yR,Array.getD,this]at h0 ⊢
     exact⟨hi,h0⟩
    have:=List.length_pos_of_mem aAt
    omega
  exact⟨hr,aEd listed g a w Ch RL hr sQ iP Xw⟩
 |succ fuel ih =>
  intro listed g a w Ch RL hf sQ iP Xw
  refine⟨fun hr=>aEd listed g a w Ch RL hr sQ iP Xw,fun i rZ=>?_⟩
  rw[mem_ready]at rZ
  obtain⟨h0,o,ho,jf⟩:=rZ
  have hi:i < ops.size:=by
   rcases Nat.lt_or_ge i ops.size with h|h
   ·exact h
   ·rw[Array.getElem?_eq_none h]at ho;cases ho
  have hod:ops.getD i default=o:=by simp[Array.getD_eq_getD_getElem?,ho]
  have RN:i < listed.size:=by omega
  have hiD:yR listed i=false:=by
   simp[yR,Array.getD,RN]at h0 ⊢
   exact h0
  have Rs:∀ j,Reach ops j i→yR listed j=true:=by
   intro j hr
   cases hr with
   |aFt jr he hb=>rw[ho]at jr;cases jr;exact jf _ he hb
   |step jr he hb hr'=>rw[ho]at jr;cases jr;exact RL.reach hr' (jf _ he hb)
  have RO:∀ j,yR (listed.setIfInBounds i true) j=(yR listed j || j==i):=by
   intro j
   by_cases hji:j=i
   ·subst hji
    have:=getD_set_true (listed:=listed) (i:=j) (j:=j)
    simp[yR,RN]
   ·have:=getD_set_ne (listed:=listed) (i:=i) (j:=j) false (Ne.symm hji)
    unfold yR
    rw[this]
    simp[hji]
  have aEg:yR (listed.setIfInBounds i true)=fun j=>yR listed j || j==i:=funext RO
  obtain⟨hloc,_⟩:=hl i hi
  rw[hod]at hloc
  simp only[wpOpIn,ho]
  have key:=hloc _ g a w sQ (fun d hd=>rm hp RL hiD hi Rs (.inl (by rw[hod];exact hd))) (fun id gY=>rl hp RL hiD hi Rs gY)
   (wpAnyIn (fe E) 0 E.P .any ops (u4 g0 H0 w0 Q) fuel (listed.setIfInBounds i true)) (u4 g0 H0 w0 Q) (fun g' a' w' aF0 aAx jh=>by
    obtain⟨n1,n2⟩:=aCO (st0:=st0) hp hF RL hiD hi Rs
    rw[hod]at n1 n2
    refine ih _ g' a' w' (by simp[Ch]) ?_ ?_ ?_ ?_ (Xw.step sQ.rel jh.fr aF0)
    ·intro j o' e hj jr he hb
     rw[RO]at hj ⊢
     simp only[Bool.or_eq_true,beq_iff_eq]at hj ⊢
     left
     rcases hj with hj|rfl
     ·exact RL _ _ _ hj jr he hb
     ·rw[ho]at jr;cases jr;exact jf _ he hb
    ·have nH:((List.range ops.size).filter fun j=>!yR (listed.setIfInBounds i true) j).length < ((List.range ops.size).filter fun j=>!yR listed j).length:=by
      have hsub:(List.range ops.size).filter (fun j=>!yR (listed.setIfInBounds i true) j)=((List.range ops.size).filter fun j=>!yR listed j).filter fun j=>!(j==i):=by
       rw[List.filter_filter]
       refine List.filter_congr fun j _=>?_
       rw[RO];cases yR listed j<;>cases (j==i)<;>rfl
      rw[hsub]
      have aAt:i∈(List.range ops.size).filter fun j=>!yR listed j:=by simp[hi,hiD]
      exact List.length_filter_lt_length_iff_exists.2 ⟨i,aAt,by simp⟩
     omega
    ·rw[aEg];exact aAx.congr n1 n2
    ·rw[aEg]
     have e:bU (AD ops xs (fun j=>yR listed j || j==i) st0 ops.size).h=bU (YC (AD ops xs (yR listed) st0 ops.size).h (xs.getD i default).U):=by
      funext id
      rw[← n2 id,K4]
     rw[e]
     exact iP.trans jh)
  unfold br at key
  split
  ·rename_i hw;rw[if_pos hw]at key;exact key
  ·rename_i hw;rw[if_neg hw]at key;exact⟨fun _ _=>trivial,key⟩
end Go.Ev
