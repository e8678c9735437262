/-
A slice that could grow,fixed from now on,when a function answers it.
-/
import Derived.Test.YtddpmkmgbdedlaaGreatqTvT
set_option linter.unusedVariables false
namespace Go.Ev
open Go
theorem Evo.freezeG {g:Gh} {H:Nat→Ent} {w:World} (h:WRelP g H w) {id n sz:Nat} {elems:List (List AV)} {rest:List AV} (hid:H id=.gbx (elems.flatten++rest)) (hn:elems.length=n) (hs:∀ cs∈elems,cs.length=sz)
  {v:Value} (hv:VRel g (.bsl id 0 n sz) v):∃ g',EvoP g H w g' (upd H id .dead) w∧VRel g' (.asl sz elems) v:=by
 obtain ⟨g',hev,hI⟩:=Evo.freezeB h.base hid
 refine ⟨g',hev.toP h.pool fun q ms'=>pG (fun ms e=>by rw [hid] at e; cases e) (fun ms e=>by cases e) q ms',?_⟩
 have h0:n=0→elems=[]:=fun e=>List.length_eq_zero_iff.1 (hn.trans e)
 cases hv with
 | bsl0=>rw [h0 rfl]; exact .asl0
 | @bsl _ _ _ _ b lo m cap e1 e2 e3 =>
  have key:∀ (i:Nat) (cs:List AV) (k:Nat) (x:AV),elems[i]?=some cs→cs[k]?=some x→∃ c,g'.I b (0+i * sz+k)=some c∧VRel g' x c:=fun i cs k x hi hk=>by
   rw [Nat.zero_add]
   exact hI b lo m e1 _ x (aKo elems rest i k cs x hs hi hk)
  refine .asl (.sl (o:=0) (fun i k=>(g'.I b (0+i * sz+k)).getD undef) hn e2 (fun i cs hi=>hs cs (List.mem_of_getElem? hi)) (fun i cs k x hi hk=>?_) (fun i cs k x hi hk=>?_) trivial)
  ·obtain ⟨c,h1,h2⟩:=key i cs k x hi hk
   rw [h1]; rfl
  ·obtain ⟨c,h1,h2⟩:=key i cs k x hi hk
   show VRel g' x ((g'.I b (0+i * sz+k)).getD undef)
   rw [h1]; exact h2
theorem aOo:∀ (L:List Ent) (k:Nat) (x:Ent),L[k]?=some x→aH L k=x
 | [],_,_,h=>by simp at h
 | y :: _,0,x,h=>by simpa [aH] using h
 | _ :: r,k+1,x,h=>aOo r k x (by simpa using h)
theorem aOp:∀ (L:List Ent) (id:Nat) (x:Ent),id < L.length→aH (L.set id x)=upd (aH L) id x
 | [],_,_,h=>by cases h
 | y :: r, 0, x, _ => by
  funext k
  cases k with
  | zero=>rw [aR]; rfl
  | succ k=>rw [aJ _ _ (by omega)]; rfl
 | y :: r, id + 1, x, h => by
  have ih:=aOp r id x (Nat.lt_of_succ_lt_succ h)
  funext k
  cases k with
  | zero=>rw [aJ _ _ (by omega)]; rfl
  | succ k =>
   show aH (r.set id x) k=_
   rw [ih]
   by_cases e:k=id
   ·subst e; rw [aR,aR]
   ·rw [aJ _ _ e,aJ _ _ (by omega)]; rfl
theorem FnSpec.freezeG {E:Env} {f:FuncId} {args:List AV} {L L':List Ent} {id n sz:Nat} {elems:List (List AV)} {rest:List AV} (h:FnSpec E f args L (.bsl id 0 n sz) L') (hid:L'[id]?=some (.gbx (elems.flatten++rest)))
  (hn:elems.length=n) (hs:∀ cs∈elems,cs.length=sz):FnSpec E f args L (.asl sz elems) (L'.set id .dead):=by
 refine ⟨h.1,fun g w cargs hw hr=>?_⟩
 refine Calls.mono (h.2 g w cargs hw hr) fun e w' hp=>?_
 obtain ⟨v,g',rfl,hv,hev⟩:=hp
 have hlt:id < L'.length:=(List.getElem?_eq_some_iff.1 hid).1
 have hH:aH L' id=.gbx (elems.flatten++rest):=aOo _ _ _ hid
 obtain ⟨g2,hev2,hv2⟩:=Evo.freezeG hev.rel hH hn hs hv
 refine ⟨v,g2,rfl,hv2,?_⟩
 rw [aOp L' id .dead hlt]
 exact hev.trans hev2
section
variable {τ:Nat→Type}
theorem FnSpec.msl {C:Cod τ} (hC:C.Ok) {E:Env} {f:FuncId} {args:List AV} {L:List Ent} {ents:List (TEnt τ)} {t id n:Nat} {l:List (τ t)} (h:FnSpec E f args L ((TV.msl t id n:TV τ).den C) (ents.map (TEnt.den C)))
  (hid:ents[id]?=some (.gbx t l)) (hn:n≤l.length):FnSpec E f args L (.asl (C.sz t) ((l.take n).map (C.cel t))) ((ents.set id .dead).map (TEnt.den C)):=by
 have:=FnSpec.freezeG (elems:=(l.take n).map (C.cel t)) (rest:=(l.drop n).flatMap (C.cel t)) (id:=id) (n:=n) (sz:=C.sz t) h (by
  rw [List.getElem?_map,hid]
  simp only [Option.map_some,TEnt.den,← List.flatMap_def]
  rw [← List.flatMap_append,List.take_append_drop]) (by simp; omega) (fun cs hcs=>by
  obtain ⟨x,_,rfl⟩:=List.mem_map.1 hcs
  exact hC.len t x)
 rw [List.map_set]
 exact this
end
end Go.Ev
