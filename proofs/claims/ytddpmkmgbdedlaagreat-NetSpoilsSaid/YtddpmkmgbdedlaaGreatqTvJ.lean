/-
Regions that draw their order,concluded; pieces of code at an abstract state; functions.
-/
import Derived.Test.YtddpmkmgbdedlaaGreatqTvI
set_option linter.unusedVariables false
set_option linter.unusedSimpArgs false
set_option linter.unnecessarySimpa false
set_option linter.unusedSectionVars false
namespace Go.Ev
open Go
theorem aWx {ops:Array Oper} (hs:qE ops=true) {i j:Nat} (hij:i < j) (hj:j < ops.size):((qD ops).getD j 0).testBit i=true∨∃ x y,ops[i]?=some x∧ops[j]?=some y∧x.apart ops y=true:=by
 unfold qE at hs
 have h1:=List.all_eq_true.1 hs j (by simpa using hj)
 simp only [Bool.and_eq_true] at h1
 have h2:=List.all_eq_true.1 h1.2 i (by simpa using hij)
 simp only [Bool.or_eq_true] at h2
 rcases h2 with h2 | h2
 ·exact .inl h2
 ·right
  split at h2
  ·rename_i x y hx hy; exact ⟨x,y,hx,hy,h2⟩
  ·cases h2
theorem aWy {ops:Array Oper} (hs:qE ops=true) {j:Nat} {o:Oper} (ho:ops[j]?=some o) {e:Edge} (he:e∈o.after) (hb:Region.binds .any e=true):e.on < j:=by
 have hj:j < ops.size:=by
  rcases Nat.lt_or_ge j ops.size with h | h
  ·exact h
  ·rw [Array.getElem?_eq_none h] at ho; cases ho
 unfold qE at hs
 have h1:=List.all_eq_true.1 hs j (by simpa using hj)
 simp only [ho,Bool.and_eq_true] at h1
 have:=List.all_eq_true.1 h1.1 e (by simpa using he)
 simpa [hb] using this
structure aJJ (ops:Array Oper) (xs:List Rec):Prop where
 size:xs.length=ops.size
 tmps:∀ i j,i < j→j < ops.size→Reach ops i j∨(∀ k,wrT ops ⟨[],[]⟩ k i=true→False)∨True
 names:∀ i j,i < j→j < ops.size→Reach ops i j∨(ops.getD i default).apart ops (ops.getD j default)=true
 boxes:∀ i j,i < j→j < ops.size→Reach ops i j∨((∀ id∈(xs.getD j default).U.map (·.1),id ∉ (xs.getD i default).F)∧(∀ id∈(xs.getD i default).U.map (·.1),id ∉ (xs.getD j default).F))
theorem aWz {ops:Array Oper} {xs:List Rec} (hl:xs.length=ops.size) (hs:qE ops=true) (hi:jR (qD ops) (qF 0 xs [])=true):aJJ ops xs:=by
 refine ⟨hl,fun _ _ _ _=>.inr (.inr trivial),fun i j hij hj=>?_,fun i j hij hj=>?_⟩
 ·rcases aWx hs hij hj with h | ⟨x,y,hx,hy,h⟩
  ·exact .inl (aNo h)
  ·right
   have e1:ops.getD i default=x:=by simp [Array.getD_eq_getD_getElem?,hx]
   have e2:ops.getD j default=y:=by simp [Array.getD_eq_getD_getElem?,hy]
   rw [e1,e2]; exact h
 ·have hxi:xs[i]?=some (xs.getD i default):=by simp [List.getD,List.getElem?_eq_getElem (show i < xs.length by omega)]
  have hxj:xs[j]?=some (xs.getD j default):=by simp [List.getD,List.getElem?_eq_getElem (show j < xs.length by omega)]
  have:=aNs xs 0 [] hi i j _ _ hij hxi hxj
  simp only [aC5,Nat.zero_add] at this
  rcases this with h | ⟨h1,h2⟩
  ·exact .inl (aNo h)
  ·exact .inr ⟨fun id hid=>aNt h1 hid,fun id hid=>aNt h2 hid⟩
theorem agree {α:Type} {ops:Array Oper} {D:Nat→Bool} (hD:Closed ops D) {i n:Nat} (hi:D i=false) (hin:i < n) (hpre:∀ j,Reach ops j i→D j=true) {wr:Nat→Bool} {val:Nat→α} {v0:α}
  (h1:∀ j,j < i→wr j=true→Reach ops j i) (h2:∀ j,i < j→j < n→wr j=true→Reach ops i j) :
  gD (fun j=>D j&&wr j) val v0 n=gD (fun j=>(fun _=>true) j&&wr j) val v0 i:=by
 rw [aJH (i:=i) (n:=n) (by omega)]
 ·refine aJG fun j hj=>?_
  cases hw:wr j with
  | false=>simp
  | true=>rw [hpre j (h1 j hj hw)]
 ·intro j hj hjn
  cases hw:wr j with
  | false=>simp
  | true =>
   by_cases hji:j=i
   ·subst hji; rw [hi]; rfl
   ·cases hDj:D j with
    | false=>rfl
    | true=>have:=hD.reach (h2 j (by omega) hjn hw) hDj; rw [hi] at this; cases this
theorem aNv {α:Type} {ops:Array Oper} {D:Nat→Bool} (hD:Closed ops D) {i n:Nat} (hi:D i=false) (hin:i < n) {wr:Nat→Bool} {val:Nat→α} {v0:α} (hw:wr i=true)
  (h2:∀ j,i < j→j < n→wr j=true→Reach ops i j):gD (fun j=>(D j || j==i)&&wr j) val v0 n=val i:=by
 rw [aJH (i:=i+1) (n:=n) (by omega)]
 ·simp [gD,hw]
 ·intro j hj hjn
  cases hwj:wr j with
  | false=>simp
  | true =>
   have hne:(j==i)=false:=by simp; omega
   cases hDj:D j with
   | false=>simp [hne]
   | true=>have:=hD.reach (h2 j (by omega) hjn hwj) hDj; rw [hi] at this; cases this
theorem aNw {α:Type} {D:Nat→Bool} {i n:Nat} {wr:Nat→Bool} {val:Nat→α} {v0:α} (hw:wr i=false):gD (fun j=>(D j || j==i)&&wr j) val v0 n=gD (fun j=>D j&&wr j) val v0 n:=by
 refine aJG fun j hj=>?_
 by_cases hji:j=i
 ·subst hji; simp [hw]
 ·have:(j==i)=false:=by simp [hji]
  simp [this]
section
variable {E:Env} {ops:Array Oper} {xs:List Rec} {st0:St} (hp:aJJ ops xs) (hF:∀ i,i < ops.size→∀ id∈(xs.getD i default).U.map (·.1),id∈(xs.getD i default).F)
 {D:Nat→Bool} (hD:Closed ops D) {i:Nat} (hi:D i=false) (hin:i < ops.size) (hpre:∀ j,Reach ops j i→D j=true)
include hp hD hi hin hpre
theorem aC6 {k j:Nat} (h:wrT ops st0 k j=true):(ops.getD j default).dst=some k:=by
 simp only [wrT,Bool.and_eq_true,beq_iff_eq] at h; exact h.1
theorem aWA {d:Nat} (hd:d∈(ops.getD i default).looksAt ops∨(ops.getD i default).dst=some d):nth (AD ops xs D st0 ops.size).t d=nth (AD ops xs (fun _=>true) st0 i).t d:=by
 rw [aAl,aAl]
 refine agree hD hi hin hpre (fun j hj hw=>?_) (fun j hj hjn hw=>?_)
 ·rcases hp.names j i hj hin with h | h
  ·exact h
  ·obtain ⟨a1,a2,a3⟩:=Oper.apart_spec h
   have hdj:=aC6 hp hD hi hin hpre hw
   rcases hd with hd | hd
   ·exact absurd hd (a1 d hdj)
   ·exact absurd hd (a2 d hdj)
 ·rcases hp.names i j hj hjn with h | h
  ·exact h
  ·obtain ⟨a1,a2,a3⟩:=Oper.apart_spec h
   have hdj:=aC6 hp hD hi hin hpre hw
   rcases hd with hd | hd
   ·exact absurd hd (a3 d hdj)
   ·exact absurd hdj (a2 d hd)
theorem aC7 {id j:Nat} (h:wrH xs id j=true):id∈(xs.getD j default).U.map (·.1):=by
 by_cases hm:id∈(xs.getD j default).U.map (·.1)
 ·exact hm
 ·rw [wrH,aNk hm] at h; cases h
theorem aWB {id:Nat} (hid:id∈(xs.getD i default).F):aH (AD ops xs D st0 ops.size).h id=aH (AD ops xs (fun _=>true) st0 i).h id:=by
 rw [aAm,aAm]
 refine agree hD hi hin hpre (fun j hj hw=>?_) (fun j hj hjn hw=>?_)
 ·rcases hp.boxes j i hj hin with h | ⟨_,h⟩
  ·exact h
  ·exact absurd hid (h id (aC7 hp hD hi hin hpre hw))
 ·rcases hp.boxes i j hj hjn with h | ⟨h,_⟩
  ·exact h
  ·exact absurd hid (h id (aC7 hp hD hi hin hpre hw))
include hF in
theorem aWC:((AD ops xs D st0 ops.size).after (ops.getD i default) (xs.getD i default)).t=(AD ops xs (fun j=>D j || j==i) st0 ops.size).t ∧
  ∀ id,aH ((AD ops xs D st0 ops.size).after (ops.getD i default) (xs.getD i default)).h id=aH (AD ops xs (fun j=>D j || j==i) st0 ops.size).h id:=by
 refine ⟨aNm (by rw [aNl,wE,wE]) fun k=>?_,fun id=>?_⟩
 ·rw [aAl]
  cases hw:wrT ops st0 k i with
  | true =>
   have hdst:=aC6 hp hD hi hin hpre hw
   rw [aNv hD hi hin hw]
   ·rw [aC4,hdst]
    simp only [wrT,Bool.and_eq_true,decide_eq_true_eq] at hw
    simp [uA,xW,wE,hw.2]
   ·intro j hj hjn hwj
    rcases hp.names i j hj hjn with h | h
    ·exact h
    ·exact absurd (aC6 hp hD hi hin hpre hwj) ((Oper.apart_spec h).2.1 k hdst)
  | false =>
   rw [aNw hw,← aAl,aC4]
   cases hd:(ops.getD i default).dst with
   | none=>rfl
   | some d =>
    simp only [uA,xW,wE]
    rw [if_neg]
    rintro ⟨rfl,hlt⟩
    rw [wrT,hd] at hw
    simp [hlt] at hw
 ·rw [aAm, aJI, uC, aU]
  cases hw:wrH xs id i with
  | true =>
   rw [aNv hD hi hin hw]
   ·rw [wrH] at hw
    obtain ⟨e,he⟩:=Option.isSome_iff_exists.1 hw
    rw [he]; rfl
   ·intro j hj hjn hwj
    have hid:=hF i hin id (aC7 hp hD hi hin hpre hw)
    rcases hp.boxes i j hj hjn with h | ⟨h,_⟩
    ·exact h
    ·exact absurd hid (h id (aC7 hp hD hi hin hpre hwj))
  | false =>
   rw [aNw hw,← aAm]
   have:lT (xs.getD i default).U id=none:=by rw [wrH] at hw; simpa using hw
   rw [this]; rfl
end
theorem aNx {ops:Array Oper} {xs:List Rec} {st0:St} {D D':Nat→Bool}:∀ n,(∀ j,j < n→D j=D' j)→AD ops xs D st0 n=AD ops xs D' st0 n
 | 0,_=>rfl
 | n+1,h=>by simp only [AD]; rw [h n (Nat.lt_succ_self _),aNx n fun j hj=>h j (Nat.lt_succ_of_lt hj)]
def cF (listed:Array Bool) (j:Nat):Bool:=listed.getD j false
theorem aWD {E:Env} {ops:Array Oper} {xs:List Rec} {st0 st':St} (hs:qE ops=true) (hp:aJJ ops xs)
  (hl:∀ i,i < ops.size→sN E ops (ops.getD i default) (AD ops xs (fun _=>true) st0 i) (xs.getD i default)∧∀ id∈(xs.getD i default).U.map (·.1),id∈(xs.getD i default).F)
  (hend:st'=AD ops xs (fun _=>true) st0 ops.size) {g0:Gh} {H0:Nat→Ent} {w0:World} {Q:Exit→St→Prop} (hQ:Q .normal st') :
  ∀ (fuel:Nat) (listed:Array Bool) (g:Gh) (a:Act) (w:World),listed.size=ops.size→Closed ops (cF listed)→((List.range ops.size).filter fun j=>!cF listed j).length≤fuel →
   StRel g (AD ops xs (cF listed) st0 ops.size) a w→EvoP g0 H0 w0 g (aH (AD ops xs (cF listed) st0 ops.size).h) w→DefOk w0 a w→wpAnyIn (fe E) 0 E.P .any ops (Post g0 H0 w0 Q) fuel listed a w:=by
 have hF:=fun i hi=>(hl i hi).2
 have hdone:∀ (listed:Array Bool) (g:Gh) (a:Act) (w:World),listed.size=ops.size→Closed ops (cF listed)→Region.ready .any ops listed=[]→StRel g (AD ops xs (cF listed) st0 ops.size) a w →
   EvoP g0 H0 w0 g (aH (AD ops xs (cF listed) st0 ops.size).h) w→DefOk w0 a w→Post g0 H0 w0 Q .normal a w:=by
  intro listed g a w hsz hcl hr hst hev hdf
  have hall:∀ j,j < ops.size→cF listed j=true:=by
   intro j
   induction j using Nat.strongRecOn with
   | _ j ih =>
    intro hj
    cases hin:cF listed j with
    | true=>rfl
    | false =>
     have hmem:j∈Region.ready .any ops listed:=by
      rw [mem_ready]
      refine ⟨?_,ops.getD j default,by simp [Array.getD,hj],fun e he hb=>?_⟩
      ·have:j < listed.size:=by omega
       simp [cF,Array.getD,this] at hin ⊢
       exact hin
      ·have ho:ops[j]?=some (ops.getD j default):=by simp [Array.getD,hj]
       have hlt:=aWy hs ho he hb
       exact ih e.on hlt (by omega)
     rw [hr] at hmem; cases hmem
  have e:=aNx (ops:=ops) (xs:=xs) (st0:=st0) ops.size hall
  rw [e] at hst hev
  exact ⟨_,g,hend▸hQ,hst,hev,hdf⟩
 intro fuel
 induction fuel with
 | zero =>
  intro listed g a w hsz hcl hf hst hev hdf
  have hr:Region.ready .any ops listed=[]:=by
   cases hr:Region.ready .any ops listed with
   | nil=>rfl
   | cons i r =>
    have hmem:i∈Region.ready .any ops listed:=by rw [hr]; simp
    rw [mem_ready] at hmem
    obtain ⟨h0,o,ho,_⟩:=hmem
    have hi:i < ops.size:=by
     rcases Nat.lt_or_ge i ops.size with h | h
     ·exact h
     ·rw [Array.getElem?_eq_none h] at ho; cases ho
    have hmem2:i∈(List.range ops.size).filter fun j=>!cF listed j:=by
     have:i < listed.size:=by omega
     simp [cF,Array.getD,this] at h0 ⊢
     exact ⟨hi,h0⟩
    have:=List.length_pos_of_mem hmem2
    omega
  exact ⟨hr,hdone listed g a w hsz hcl hr hst hev hdf⟩
 | succ fuel ih =>
  intro listed g a w hsz hcl hf hst hev hdf
  refine ⟨fun hr=>hdone listed g a w hsz hcl hr hst hev hdf,fun i hmem=>?_⟩
  rw [mem_ready] at hmem
  obtain ⟨h0,o,ho,hafter⟩:=hmem
  have hi:i < ops.size:=by
   rcases Nat.lt_or_ge i ops.size with h | h
   ·exact h
   ·rw [Array.getElem?_eq_none h] at ho; cases ho
  have hod:ops.getD i default=o:=by simp [Array.getD_eq_getD_getElem?,ho]
  have hisz:i < listed.size:=by omega
  have hiD:cF listed i=false:=by
   simp [cF,Array.getD,hisz] at h0 ⊢
   exact h0
  have hpre:∀ j,Reach ops j i→cF listed j=true:=by
   intro j hr
   cases hr with
   | edge ho' he hb=>rw [ho] at ho'; cases ho'; exact hafter _ he hb
   | step ho' he hb hr'=>rw [ho] at ho'; cases ho'; exact hcl.reach hr' (hafter _ he hb)
  have hset:∀ j,cF (listed.setIfInBounds i true) j=(cF listed j || j==i):=by
   intro j
   by_cases hji:j=i
   ·subst hji
    have:=getD_set_true (listed:=listed) (i:=j) (j:=j)
    simp [cF,hisz]
   ·have:=getD_set_ne (listed:=listed) (i:=i) (j:=j) false (Ne.symm hji)
    unfold cF
    rw [this]
    simp [hji]
  have hsetf:cF (listed.setIfInBounds i true)=fun j=>cF listed j || j==i:=funext hset
  obtain ⟨hloc,_⟩:=hl i hi
  rw [hod] at hloc
  simp only [wpOpIn,ho]
  have key:=hloc _ g a w hst (fun d hd=>aWA hp hcl hiD hi hpre (.inl (by rw [hod]; exact hd))) (fun id hid=>aWB hp hcl hiD hi hpre hid)
   (wpAnyIn (fe E) 0 E.P .any ops (Post g0 H0 w0 Q) fuel (listed.setIfInBounds i true)) (Post g0 H0 w0 Q) (fun g' a' w' hdf' hst' hev'=>by
    obtain ⟨n1,n2⟩:=aWC (st0:=st0) hp hF hcl hiD hi hpre
    rw [hod] at n1 n2
    refine ih _ g' a' w' (by simp [hsz]) ?_ ?_ ?_ ?_ (hdf.step hst.rel hev'.fr hdf')
    ·intro j o' e hj ho' he hb
     rw [hset] at hj ⊢
     simp only [Bool.or_eq_true,beq_iff_eq] at hj ⊢
     left
     rcases hj with hj | rfl
     ·exact hcl _ _ _ hj ho' he hb
     ·rw [ho] at ho'; cases ho'; exact hafter _ he hb
    ·have hlt:((List.range ops.size).filter fun j=>!cF (listed.setIfInBounds i true) j).length < ((List.range ops.size).filter fun j=>!cF listed j).length:=by
      have hsub:(List.range ops.size).filter (fun j=>!cF (listed.setIfInBounds i true) j)=((List.range ops.size).filter fun j=>!cF listed j).filter fun j=>!(j==i):=by
       rw [List.filter_filter]
       refine List.filter_congr fun j _=>?_
       rw [hset]; cases cF listed j<;>cases (j==i)<;>rfl
      rw [hsub]
      have hmem2:i∈(List.range ops.size).filter fun j=>!cF listed j:=by simp [hi,hiD]
      exact List.length_filter_lt_length_iff_exists.2 ⟨i,hmem2,by simp⟩
     omega
    ·rw [hsetf]; exact hst'.congr n1 n2
    ·rw [hsetf]
     have e:aH (AD ops xs (fun j=>cF listed j || j==i) st0 ops.size).h=aH (lI (AD ops xs (cF listed) st0 ops.size).h (xs.getD i default).U):=by
      funext id
      rw [← n2 id,aJI]
     rw [e]
     exact hev.trans hev')
  unfold qC at key
  split
  ·rename_i hw; rw [if_pos hw] at key; exact key
  ·rename_i hw; rw [if_neg hw] at key; exact ⟨fun _ _=>trivial,key⟩
end Go.Ev
