/-
A slice that could grow,fixed from now on,when a function answers it.
-/
import Derived.Test.YtddpmkmgbdedlaaGreatqTvT
set_option linter.unusedVariables false
namespace Go.Ev
open Go
theorem fC.N1 {g:Gh}{H:Nat→dD}{w:World}(h:kT g H w){id n sz:Nat}{elems:List (List AV)}{rest:List AV}(gY:H id=.eD (elems.flatten++rest))(hn:elems.length=n)(hs:∀ cs∈elems,cs.length=sz)
  {v:Value} (hv:aF g (.Fk id 0 n sz) v):∃ g',iH g H w g' (eQ H id .dead) w∧aF g' (.xA sz elems) v:=by
 obtain⟨g',iP,hI⟩:=fC.oq h.base gY
 refine⟨g',iP.xa h.aX fun q kS=>Jg (fun ms e=>by rw[gY]at e;cases e) (fun ms e=>by cases e) q kS,?_⟩
 have h0:n=0→elems=[]:=fun e=>List.length_eq_zero_iff.1 (hn.trans e)
 cases hv with
 |Ml=>rw[h0 rfl];exact .Jt
 |@Fk _ _ _ _ b lo m cap e1 e2 e3 =>
  have key:∀ (i:Nat) (cs:List AV) (k:Nat) (x:AV),elems[i]?=some cs→cs[k]?=some x→∃ c,g'.I b (0+i * sz+k)=some c∧aF g' x c:=fun i cs k x hi hk=>by
   rw[Nat.zero_add]
   exact hI b lo m e1 _ x (LN elems rest i k cs x hs hi hk)
  refine .xA (.sl (o:=0) (fun i k=>(g'.I b (0+i * sz+k)).getD undef) hn e2 (fun i cs hi=>hs cs (List.mem_of_getElem? hi)) (fun i cs k x hi hk=>?_) (fun i cs k x hi hk=>?_) trivial)
  ·obtain⟨c,h1,h2⟩:=key i cs k x hi hk
   rw[h1];rfl
  ·obtain⟨c,h1,h2⟩:=key i cs k x hi hk
   show aF g' x ((g'.I b (0+i * sz+k)).getD undef)
   rw[h1];exact h2
theorem ab:∀ (L:List dD) (k:Nat) (x:dD),L[k]?=some x→bU L k=x
 |[],_,_,h=>by simp at h
 |y :: _,0,x,h=>by simpa[bU] using h
 |_ :: r,k+1,x,h=>ab r k x (by simpa using h)
theorem ae:∀ (L:List dD) (id:Nat) (x:dD),id < L.length→bU (L.set id x)=eQ (bU L) id x
 |[],_,_,h=>by cases h
 |y :: r,0,x,_=>by
  funext k
  cases k with
  |zero=>rw[aP];rfl
  |succ k=>rw[aM _ _ (by omega)];rfl
 |y :: r,id+1,x,h=>by
  have ih:=ae r id x (Nat.lt_of_succ_lt_succ h)
  funext k
  cases k with
  |zero=>rw[aM _ _ (by omega)];rfl
  |succ k =>
   show bU (r.set id x) k=_
   rw[ih]
   by_cases e:k=id
   ·subst e;rw[aP,aP]
   ·rw[aM _ _ e,aM _ _ (by omega)];rfl
theorem mT.N1 {E:Env}{f:FuncId}{args:List AV}{L L':List dD}{id n sz:Nat}{elems:List (List AV)}{rest:List AV}(h:mT E f args L (.Fk id 0 n sz) L')(gY:L'[id]?=some (.eD (elems.flatten++rest)))
  (hn:elems.length=n) (hs:∀ cs∈elems,cs.length=sz):mT E f args L (.xA sz elems) (L'.set id .dead):=by
 refine⟨h.1,fun g w cargs hw hr=>?_⟩
 refine Calls.mono (h.2 g w cargs hw hr) fun e w' hp=>?_
 obtain⟨v,g',rfl,hv,iP⟩:=hp
 have nH:id < L'.length:=(List.getElem?_eq_some_iff.1 gY).1
 have hH:bU L' id=.eD (elems.flatten++rest):=ab _ _ _ gY
 obtain⟨g2,Z9,jx⟩:=fC.N1 iP.rel hH hn hs hv
 refine⟨v,g2,rfl,jx,?_⟩
 rw[ae L' id .dead nH]
 exact iP.trans Z9
section
variable {τ:Nat→Type}
theorem mT.mS {C:eY τ}(hC:C.Ok){E:Env}{f:FuncId}{args:List AV}{L:List dD}{aFH:List (bD τ)}{t id n:Nat}{l:List (τ t)}(h:mT E f args L ((TV.mS t id n:TV τ).den C) (aFH.map (bD.den C)))
  (gY:aFH[id]?=some (.eD t l)) (hn:n≤l.length):mT E f args L (.xA (C.sz t) ((l.take n).map (C.cel t))) ((aFH.set id .dead).map (bD.den C)):=by
 have:=mT.N1 (elems:=(l.take n).map (C.cel t)) (rest:=(l.drop n).flatMap (C.cel t)) (id:=id) (n:=n) (sz:=C.sz t) h (by
  rw[List.getElem?_map,gY]
  simp only[Option.map_some,bD.den,← List.flatMap_def]
  rw[← List.flatMap_append,List.take_append_drop]) (by simp;omega) (fun cs Tr=>by
  obtain⟨x,_,rfl⟩:=List.mem_map.1 Tr
  exact hC.len t x)
 rw[List.map_set]
 exact this
end
end Go.Ev
