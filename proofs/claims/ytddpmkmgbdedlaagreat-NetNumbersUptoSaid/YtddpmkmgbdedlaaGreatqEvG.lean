/-
The abstract evaluator: literals built,CO grown.
-/
import Derived.Test.YtddpmkmgbdedlaaGreatqEvF
set_option linter.unusedVariables false
set_option linter.unusedSimpArgs false
namespace Go.Ev
open Go
theorem FC (off:Nat):∀ (vs:List Value) (k:Nat) (cs:Array Value),(vs.zipIdx k).foldl (fun cs (x:Value×Nat)=>cs.setIfInBounds (off+x.2) x.1) cs=sF cs (off+k) vs
 |[],k,cs=>rfl
 |v :: vs,k,cs=>by
  rw[List.zipIdx_cons,List.foldl_cons,FC off vs (k+1),sF]
  rfl
theorem F5 (place:Nat→Option (Nat×Nat))(cs:Array Value)(i:Nat)(v:Value)(r:List (Nat×Value)){off size:Nat}(hp:place i=some (off,size))(hs:v.cells.size=size)(hl:off+size≤cs.size) :
  Instr.fill place cs ((i,v) :: r)=Instr.fill place (sF cs off v.cells.toList) r:=by
 rw[Instr.fill,hp]
 simp only[hs,ne_eq,not_true_eq_false,decide_false,Bool.false_or]
 rw[if_neg (by simp;omega)]
 congr 1
 rw[← Array.foldl_toList,Array.toList_zipIdx,FC off _ 0 cs,Nat.add_zero]
theorem A0 {g:Gh}{cells xs:List AV}{cs:Array Value}{vs:List Value}(h:cW g cells cs.toList)(hx:cW g xs vs){off:Nat}(hl:off+xs.length≤cells.length) :
  cW g (wr cells off xs) (sF cs off vs).toList:=by
 have h1:cells.length=cs.size:=by simpa using h.1
 have h2:xs.length=vs.length:=hx.1
 refine⟨by rw[Yk _ _ _ hl,h1,Array.length_toList,jT],fun k x c hk hc=>?_⟩
 rw[FD _ _ _ hl]at hk
 rw[Array.getElem?_toList]at hc
 split at hk
 ·rw[iG _ _ _ _ (.inl ‹_›)]at hc
  exact h.2 k x c hk (by simpa using hc)
 ·split at hk
  ·have:=xC vs cs off (k - off) (by omega) (by omega)
   rw[show off+(k - off)=k by omega]at this
   rw[this]at hc
   exact hx.2 _ x c hk hc
  ·rw[iG _ _ _ _ (.inr (by omega))]at hc
   exact h.2 k x c hk (by simpa using hc)
def EX (place:Nat→Option (Nat×Nat)):List AV→List (Nat×AV)→Option (List AV)
 |cells,[]=>some cells
 |cells,(i,x) :: r =>
  match place i,x.cells? with
  |some (off,size),some xs=>if xs.length=size∧off+size≤cells.length then EX place (wr cells off xs) r else none
  |_,_=>none
theorem AO {g:Gh}{val:Operand→AV}{ρ:Operand→Value}(place:Nat→Option (Nat×Nat)):∀ (ps:List (Nat×Operand)) (cells r:List AV) (cs:Array Value),cW g cells cs.toList →
  (∀ p∈ps,aF g (val p.2) (ρ p.2))→EX place cells (ps.map fun p=>(p.1,val p.2))=some r→∃ Ju,Instr.fill place cs (ps.map fun p=>(p.1,ρ p.2))=some Ju∧cW g r Ju.toList
 |[],cells,r,cs,h,_,e=>by simp[EX]at e;subst e;exact⟨cs,rfl,h⟩
 |(i,x) :: ps,cells,r,cs,h,hv,e=>by
  simp only[List.map_cons,EX]at e
  split at e
  ·rename_i off size xs hp AX
   split at e
   ·rename_i hc
    have hx:=Bi (hv (i,x) (by simp)) AX
    have Ch:(ρ x).cells.size=size:=by have:=hx.1;simp at this;omega
    have Tr:cells.length=cs.size:=by simpa using h.1
    obtain⟨Ju,h1,h2⟩:=AO place ps _ r _ (A0 h hx (off:=off) (by omega)) (fun p hp'=>hv p (by simp[hp'])) e
    exact⟨Ju,by rw[List.map_cons,F5 place cs i (ρ x) _ hp Ch (by omega)];exact h1,h2⟩
   ·cases e
  ·cases e
def OA (E:Env)(t:TypeId)(ps:List (Nat×AV)):Option AV :=
 match E.ty t with
 |some ⟨.struct fields,_,_,zero⟩ =>
  if fields.all (fun f=>(E.ty f.type).isSome)=true then
   (EX (fun i=>fields[i]?.bind fun f=>(E.ty f.type).map fun fi=>(f.offset,fi.size)) zero ps).map .agg
  else none
 |some ⟨.array _ e,_,_,zero⟩ =>
  match E.ty e with
  |some ei=>(EX (fun i=>some (i * ei.size,ei.size)) zero ps).map .agg
  |none=>none
 |_=>none
theorem run_places {E:Env}(hE:E.Ok)(w:World):∀ (fs:List Field),fs.all (fun f=>(E.ty f.type).isSome)=true →
  (fs.mapM (m:=Sem) fun f=>do pure (f.offset,← sizeOf f.type)).run E.P w=.ok (fs.map fun f=>(f.offset,((E.ty f.type).map (·.size)).getD 0)) w
 |[],_=>rfl
 |f :: fs,h=>by
  simp only[List.all_cons,Bool.and_eq_true]at h
  obtain⟨fi,tz⟩:=Option.isSome_iff_exists.1 h.1
  simp only[List.mapM_cons,Sem.run_bind,(hE _ _ tz).sizeOf,Result.andThen_ok,Sem.run_pure,run_places hE w fs h.2,List.map_cons,tz,Option.map_some,Option.getD_some]
theorem m6 {E:Env}(hE:E.Ok)(w:World)(fs:Array Field)(h:fs.all (fun f=>(E.ty f.type).isSome)=true) :
  (fs.mapM (m:=Sem) fun f=>do pure (f.offset,← sizeOf f.type)).run E.P w=.ok (fs.map fun f=>(f.offset,((E.ty f.type).map (·.size)).getD 0)) w:=by
 rw[Array.mapM_eq_mapM_toList,Sem.run_map,run_places hE w fs.toList (by simpa using h)]
 simp only[Result.andThen_ok]
 congr 1
 apply Array.ext'
 simp
theorem v3 {E:Env}(hE:E.Ok){g:Gh}{t:TypeId}{val:Operand→AV}{ρ:Operand→Value}{ps:Array (Nat×Operand)}{r:AV}(hv:∀ p∈ps,aF g (val p.2) (ρ p.2))
  (h:OA E t (ps.toList.map fun p=>(p.1,val p.2))=some r) (w:World) :
  ∃ v,(Instr.build t (ps.map fun (i,x)=>(i,ρ x))).run E.P w=.ok v w∧aF g r v:=by
 have ue:(ps.map fun (x:Nat×Operand)=>(x.1,ρ x.2)).toList=ps.toList.map fun p=>(p.1,ρ p.2):=by simp
 have agg:∀ {l:List AV} {cs:Array Value},cW g l cs.toList→aF g (.agg l) (.agg cs):=fun hl=>.agg (by simpa using hl.1) fun k x c a b=>hl.2 k x c a (by simpa using b)
 unfold OA at h
 split at h
 ·rename_i fields _ _ zero ht
  have hT:=hE t _ ht
  obtain⟨z,hz,OP⟩:=hT.zeroValue w
  split at h
  ·rename_i iI
   obtain⟨l,hl,rfl⟩:=Option.map_eq_some_iff.1 h
   obtain⟨Ju,h1,h2⟩:=AO (val:=val) (ρ:=ρ) _ ps.toList zero l z.cells (OP g) (fun p hp=>hv p (by simpa using hp)) hl
   refine⟨.agg Ju,?_,agg h2⟩
   have aGc:(fun (i:Nat)=>(fields.map fun (f:Field)=>(f.offset,((E.ty f.type).map (·.size)).getD 0))[i]?)=fun (i:Nat)=>fields[i]?.bind fun (f:Field)=>(E.ty f.type).map fun fi=>(f.offset,fi.size):=by
    funext i
    rw[Array.getElem?_map]
    cases hf:fields[i]? with
    |none=>rfl
    |some f =>
     have hm:f∈fields:=Array.mem_of_getElem? hf
     have hs:=(Array.all_eq_true_iff_forall_mem.1 iI) f hm
     obtain⟨fi,tz⟩:=Option.isSome_iff_exists.1 hs
     simp[tz]
   simp only[Instr.build,Sem.run_bind,hz,Result.andThen_ok,hT.underlying,m6 hE w fields iI]
   rw[aGc,ue,h1]
   rfl
  ·cases h
 ·rename_i n e _ _ zero ht
  have hT:=hE t _ ht
  obtain⟨z,hz,OP⟩:=hT.zeroValue w
  split at h
  ·rename_i ei he
   have hF:=hE e _ he
   obtain⟨l,hl,rfl⟩:=Option.map_eq_some_iff.1 h
   obtain⟨Ju,h1,h2⟩:=AO (val:=val) (ρ:=ρ) _ ps.toList zero l z.cells (OP g) (fun p hp=>hv p (by simpa using hp)) hl
   refine⟨.agg Ju,?_,agg h2⟩
   simp only[Instr.build,Sem.run_bind,hz,Result.andThen_ok,hT.underlying,hF.sizeOf]
   rw[ue,h1]
   rfl
  ·cases h
 ·cases h
theorem UG {sz:Nat}:∀ (elems:List (List AV)) (k:Nat) (x:AV),(∀ (i:Nat) (cs:List AV),elems[i]?=some cs→cs.length=sz)→elems.flatten[k]?=some x →
  ∃ i j cs,k=i * sz+j∧elems[i]?=some cs∧cs[j]?=some x
 |[],k,x,_,h=>by simp at h
 |e :: es,k,x,hs,h=>by
  have he:e.length=sz:=hs 0 e rfl
  rw[List.flatten_cons,List.getElem?_append]at h
  split at h
  ·exact⟨0,k,e,by simp,rfl,h⟩
  ·obtain⟨i,j,cs,h1,h2,h3⟩:=UG es (k - e.length) x (fun i cs h=>hs (i+1) cs (by simpa using h)) h
   exact⟨i+1,j,cs,by rw[Nat.succ_mul];omega,by simpa using h2,h3⟩
theorem FE {sz:Nat}:∀ (elems:List (List AV)) (i j:Nat) (cs:List AV) (x:AV),(∀ (i:Nat) (cs:List AV),elems[i]?=some cs→cs.length=sz)→elems[i]?=some cs→cs[j]?=some x →
  elems.flatten[i * sz+j]?=some x
 |[],i,j,cs,x,_,h,_=>by simp at h
 |e :: es,0,j,cs,x,hs,h,hx=>by
  simp at h;subst h
  rw[List.flatten_cons,List.getElem?_append,Nat.zero_mul,Nat.zero_add]
  have:j < e.length:=by
   rcases Nat.lt_or_ge j e.length with h' | h'
   ·exact h'
   ·rw[List.getElem?_eq_none h']at hx;cases hx
  rw[if_pos this];exact hx
 |e :: es,i+1,j,cs,x,hs,h,hx=>by
  have he:e.length=sz:=hs 0 e rfl
  rw[List.flatten_cons,List.getElem?_append,if_neg (by rw[Nat.succ_mul];omega)]
  have:=FE es i j cs x (fun i cs h=>hs (i+1) cs (by simpa using h)) (by simpa using h) hx
  rwa [show (i+1) * sz+j - e.length=i * sz+j by rw[Nat.succ_mul];omega]
theorem length_flatten {sz:Nat}:∀ (elems:List (List AV)),(∀ (i:Nat) (cs:List AV),elems[i]?=some cs→cs.length=sz)→elems.flatten.length=elems.length * sz
 |[],_=>by simp
 |e :: es,hs=>by
  rw[List.flatten_cons,List.length_append,length_flatten es (fun i cs h=>hs (i+1) cs (by simpa using h)),hs 0 e rfl,List.length_cons,Nat.succ_mul,Nat.add_comm]
theorem Gg {g:Gh}{sz:Nat}{elems:List (List AV)}{tok:Tok}{b o len cap:Nat}(hlen:elems.length=len)(Kl:len≤cap)(hs:∀ (i:Nat) (cs:List AV),elems[i]?=some cs→cs.length=sz)
  (cs:List Value) (hr:cW g elems.flatten cs) (hI:∀ k,k < cs.length→g.I b (o+k)=cs[k]?) (ht:KJ g tok b o len cap sz) :
  aF g (.sl sz elems tok) (.slice (some ⟨b,o,none⟩) len cap):=by
 refine .sl (fun i k=>(cs[i * sz+k]?).getD undef) hlen Kl hs (fun i ce k x h hx=>?_) (fun i ce k x h hx=>?_) ht
 ·have hf:=FE elems i k ce x hs h hx
  obtain⟨c,h1,h2⟩:=hr.get hf
  have hk:i * sz+k < cs.length:=by
   rcases Nat.lt_or_ge (i * sz+k) cs.length with h' | h'
   ·exact h'
   ·rw[List.getElem?_eq_none h']at h1;cases h1
  rw[Nat.add_assoc,hI _ hk,h1];rfl
 ·have hf:=FE elems i k ce x hs h hx
  obtain⟨c,h1,h2⟩:=hr.get hf
  rw[h1];exact h2
theorem Lg {P:Program}{g:Gh}{H:Nat→dD}{w:World}(hW:eR g H w){sz:Nat}{elems:List (List AV)}{tok:Tok}{b o len cap:Nat}(h:aF g (.sl sz elems tok) (.slice (some ⟨b,o,none⟩) len cap)) :
  elems.length=len∧len≤cap∧(∀ (i:Nat) (cs:List AV),elems[i]?=some cs→cs.length=sz)∧KJ g tok b o len cap sz ∧
  ∃ cs:Array Value,(loadCells ⟨b,o,none⟩ (len * sz)).run P w=.ok cs w∧cW g elems.flatten cs.toList∧∀ k,k < cs.size→g.I b (o+k)=cs[k]?:=by
 cases h with
 |sl c e1 e2 e3 e4 e5 e6 =>
  refine⟨e1,e2,e3,e6,?_⟩
  have hfl:=length_flatten elems e3
  have DC:∀ k x,elems.flatten[k]?=some x→∃ v,w.cell? ⟨b,o+k,none⟩=some v∧aF g x v∧g.I b (o+k)=some v:=fun k x hx=>by
   obtain⟨i,j,cs,rfl,h2,h3⟩:=UG elems k x e3 hx
   exact⟨c i j,by rw[← Nat.add_assoc];exact hW.AY _ _ _ (e4 i cs j x h2 h3),e5 i cs j x h2 h3,by rw[← Nat.add_assoc];exact e4 i cs j x h2 h3⟩
  refine⟨_,run_loadCells w _ (len * sz) (fun k=>(w.cell? ⟨b,o+k,none⟩).getD undef) (fun k hk=>?_),?_,fun k hk=>?_⟩
  rotate_left 2
  ·have jR:k < len * sz:=by simpa using hk
   obtain⟨v,h1,_,h3⟩:=DC k _ (List.getElem?_eq_getElem (show k < elems.flatten.length by rw[hfl,e1];exact jR))
   rw[h3];simp[jR,h1]
  ·obtain⟨v,h1,_⟩:=DC k _ (List.getElem?_eq_getElem (show k < elems.flatten.length by rw[hfl,e1];exact hk))
   rw[mR,h1];rfl
  ·refine⟨by simp[← e1,← hfl],fun k x v hx hv=>?_⟩
   have hk:k < len * sz:=by
    rcases Nat.lt_or_ge k elems.flatten.length with h' | h'
    ·rw[hfl,e1]at h';exact h'
    ·rw[List.getElem?_eq_none h']at hx;cases hx
   obtain⟨v',h1,h2,_⟩:=DC k x hx
   simp[hk,h1]at hv
   subst hv;exact h2
def iE (E:Env)(t:TypeId)(len:Nat)(ps:List (Nat×AV)):Option AV :=
 match E.ty t with
 |some ⟨.slice e,_,_,_⟩ =>
  match E.ty e,(ps.map (·.2)).mapM AV.cells? with
  |some ei,some xs=>if ps.map (·.1)=List.range len∧(xs.all fun x=>x.length==ei.size)=true∧len * ei.size≤2 ^ 24 then some (.sl ei.size xs .full) else none
  |_,_=>none
 |_=>none
theorem OE {g:Gh}{val:Operand→AV}{ρ:Operand→Value}(size:Nat):∀ (ps:List (Nat×Operand)) (j:Nat) (xs:List (List AV)) (cs:Array Value),
  (∀ p∈ps,aF g (val p.2) (ρ p.2))→(ps.map fun p=>val p.2).mapM AV.cells?=some xs→(∀ x∈xs,x.length=size)→ps.map (·.1)=List.range' j ps.length→cs.size=(j+ps.length) * size →
  ∃ Ju:Array Value,Instr.fill (fun i=>some (i * size,size)) cs (ps.map fun p=>(p.1,ρ p.2))=some Ju∧Ju.size=cs.size∧(∀ k,k < j * size→Ju[k]?=cs[k]?)∧cW g xs.flatten (Ju.toList.drop (j * size))
 |[],j,xs,cs,_,h,_,_,Ch=>by
  simp at h;subst h
  refine⟨cs,rfl,rfl,fun _ _=>rfl,?_⟩
  rw[List.drop_eq_nil_of_le (by simp at Ch ⊢;omega)]
  exact .nil
 |(i,x) :: ps,j,xs,cs,hv,h,hl,hi,Ch=>by
  simp only[List.map_cons,List.mapM_cons,Option.bind_eq_bind,Option.bind_eq_some_iff,Option.pure_def,Option.some.injEq]at h
  obtain⟨x0,h1,xs',h2,rfl⟩:=h
  simp only[List.map_cons,List.length_cons,List.range'_succ,List.cons.injEq]at hi
  obtain⟨rfl,hi⟩:=hi
  have hx:=Bi (hv (i,x) (by simp)) h1
  have fc:x0.length=size:=hl x0 (by simp)
  have Tr:(ρ x).cells.size=size:=by have:=hx.1;simp at this;omega
  have hmul:i * size+size=(i+1) * size:=(Nat.succ_mul _ _).symm
  have hle:(i+1) * size≤cs.size:=by rw[Ch];exact Nat.mul_le_mul_right _ (by simp)
  obtain⟨Ju,g1,g2,g3,g4⟩:=OE size ps (i+1) xs' (sF cs (i * size) (ρ x).cells.toList) (fun p hp=>hv p (by simp[hp])) h2 (fun y hy=>hl y (by simp[hy])) hi
   (by rw[jT,Ch];congr 1;simp;omega)
  refine⟨Ju,?_,by rw[g2,jT],fun k hk=>?_,?_⟩
  ·rw[List.map_cons,F5 _ cs i (ρ x) _ rfl Tr (by omega)];exact g1
  ·rw[g3 k (by omega),iG _ _ _ _ (.inl hk)]
  ·have LW:Ju.toList.drop (i * size)=(ρ x).cells.toList++Ju.toList.drop ((i+1) * size):=by
    apply List.ext_getElem?
    intro k
    rw[List.getElem?_append,List.getElem?_drop,List.getElem?_drop]
    simp only[Array.length_toList,Tr,Array.getElem?_toList]
    split
    ·rw[g3 _ (by omega)]
     have:=xC (ρ x).cells.toList cs (i * size) k (by simp;omega) (by simp;omega)
     rw[this];simp
    ·congr 1;omega
   rw[List.flatten_cons,LW]
   exact hx.append g4
theorem Ro {E:Env}(hE:E.Ok){g:Gh}{H:Nat→dD}{w:World}(hW:eR g H w){t:TypeId}{len:Nat}{val:Operand→AV}{ρ:Operand→Value}{ps:Array (Nat×Operand)}{r:AV}
  (hv:∀ p∈ps,aF g (val p.2) (ρ p.2)) (h:iE E t len (ps.toList.map fun p=>(p.1,val p.2))=some r) :
  ∃ v w' g',(Instr.buildSlice t len (ps.map fun (i,x)=>(i,ρ x))).run E.P w=.ok v w'∧aF g' r v∧fC g H w g' H w':=by
 have ue:(ps.map fun (x:Nat×Operand)=>(x.1,ρ x.2)).toList=ps.toList.map fun p=>(p.1,ρ p.2):=by simp
 unfold iE at h
 split at h
 ·rename_i e _ _ _ ht
  have hT:=hE t _ ht
  split at h
  ·rename_i ei xs he AX
   have hF:=hE e _ he
   split at h
   ·rename_i hc
    obtain⟨ZL,iI,OI⟩:=hc
    cases h
    obtain⟨z,hz,OP⟩:=hF.zeroValue w
    simp only[List.map_map]at ZL AX
    have hlen:ps.toList.length=len:=by have:=congrArg List.length ZL;simpa using this
    have V3:xs.length=len:=by
     have:∀ (l:List AV) (ys:List (List AV)),l.mapM AV.cells?=some ys→ys.length=l.length:=by
      intro l
      induction l with
      |nil=>intro ys h;simp at h;simp[h]
      |cons a l ih =>
       intro ys h
       simp only[List.mapM_cons,Option.bind_eq_bind,Option.bind_eq_some_iff,Option.pure_def,Option.some.injEq]at h
       obtain⟨_,_,zs,h2,rfl⟩:=h
       simp[ih zs h2]
     rw[this _ _ AX];simpa using hlen
    have Ch:∀ x∈xs,x.length=ei.size:=fun x hx=>by simpa using List.all_eq_true.1 iI x hx
    have hs:∀ (i:Nat) (cs:List AV),xs[i]?=some cs→cs.length=ei.size:=fun i cs h=>Ch cs (List.mem_of_getElem? h)
    obtain⟨Ju,h1,h2,h3,h4⟩:=OE (g:=g) (val:=val) (ρ:=ρ) ei.size ps.toList 0 xs ((Array.range (len * ei.size)).map fun i=>(if len * ei.size=0 then #[] else z.cells)[i % (if len * ei.size=0 then #[] else z.cells).size]!)
     (fun p hp=>hv p (by simpa using hp)) AX Ch (by rw[← List.range_eq_range',hlen];exact ZL) (by simp[← hlen])
    rw[Nat.zero_mul,List.drop_zero]at h4
    obtain⟨k1,k2⟩:=fC.fixed hW Ju e Ju.size
    refine⟨.slice (some ⟨w.heap.size,0,none⟩) len len,_,_,?_,?_,k2⟩
    ·by_cases G3:len * ei.size=0
     ·simp only[if_pos G3]at h1
      simp only[Instr.buildSlice,Sem.run_bind,hT.underlying,Result.andThen_ok,hF.sizeOf,if_neg (show ¬ len * ei.size > 2 ^ 24 by omega),if_pos G3,Sem.run_pure,ue,h1,newRow,run_newObj,pure_bind]
     ·simp only[if_neg G3]at h1
      simp only[Instr.buildSlice,Sem.run_bind,hT.underlying,Result.andThen_ok,hF.sizeOf,if_neg (show ¬ len * ei.size > 2 ^ 24 by omega),if_neg G3,hz,Sem.run_pure,ue,h1,newRow,run_newObj,pure_bind]
    ·refine Gg V3 (Nat.le_refl _) hs Ju.toList (h4.mono k2.le) (fun k hk=>?_) rfl
     rw[Nat.zero_add,k1 k (by simpa using hk) (by simpa using hk)]
     simp
   ·cases h
  ·cases h
 ·cases h
theorem IU {E:Env}(hE:E.Ok){g:Gh}{H:Nat→dD}{w:World}(hW:eR g H w){n:Nat}(hn:H n=.bX){t:TypeId}{len:Nat}{val:Operand→AV}{ρ:Operand→Value}{ps:Array (Nat×Operand)}{r:AV}
  (hv:∀ p∈ps,aF g (val p.2) (ρ p.2)) (h:iE E t len (ps.toList.map fun p=>(p.1,val p.2))=some r) :
  ∃ v w' g',(Instr.buildSlice t len (ps.map fun (i,x)=>(i,ρ x))).run E.P w=.ok v w'∧(∃ sz xs,r=.sl sz xs .full∧aF g' (.sl sz xs (.tail n)) v)∧fC g H w g' (eQ H n .tail) w':=by
 have ue:(ps.map fun (x:Nat×Operand)=>(x.1,ρ x.2)).toList=ps.toList.map fun p=>(p.1,ρ p.2):=by simp
 unfold iE at h
 split at h
 ·rename_i e _ _ _ ht
  have hT:=hE t _ ht
  split at h
  ·rename_i ei xs he AX
   have hF:=hE e _ he
   split at h
   ·rename_i hc
    obtain⟨ZL,iI,OI⟩:=hc
    cases h
    obtain⟨z,hz,OP⟩:=hF.zeroValue w
    simp only[List.map_map]at ZL AX
    have hlen:ps.toList.length=len:=by have:=congrArg List.length ZL;simpa using this
    have V3:xs.length=len:=by
     have:∀ (l:List AV) (ys:List (List AV)),l.mapM AV.cells?=some ys→ys.length=l.length:=by
      intro l
      induction l with
      |nil=>intro ys h;simp at h;simp[h]
      |cons a l ih =>
       intro ys h
       simp only[List.mapM_cons,Option.bind_eq_bind,Option.bind_eq_some_iff,Option.pure_def,Option.some.injEq]at h
       obtain⟨_,_,zs,h2,rfl⟩:=h
       simp[ih zs h2]
     rw[this _ _ AX];simpa using hlen
    have Ch:∀ x∈xs,x.length=ei.size:=fun x hx=>by simpa using List.all_eq_true.1 iI x hx
    have hs:∀ (i:Nat) (cs:List AV),xs[i]?=some cs→cs.length=ei.size:=fun i cs h=>Ch cs (List.mem_of_getElem? h)
    obtain⟨Ju,h1,h2,h3,h4⟩:=OE (g:=g) (val:=val) (ρ:=ρ) ei.size ps.toList 0 xs ((Array.range (len * ei.size)).map fun i=>(if len * ei.size=0 then #[] else z.cells)[i % (if len * ei.size=0 then #[] else z.cells).size]!)
     (fun p hp=>hv p (by simpa using hp)) AX Ch (by rw[← List.range_eq_range',hlen];exact ZL) (by simp[← hlen])
    rw[Nat.zero_mul,List.drop_zero]at h4
    obtain⟨k1,k0,k2⟩:=fC.RI hW hn Ju e Ju.size (0,0) (Nat.le_refl _) (fun o _ _=>by simp) _ rfl
    refine⟨.slice (some ⟨w.heap.size,0,none⟩) len len,_,_,?_,?_,k2⟩
    ·by_cases G3:len * ei.size=0
     ·simp only[if_pos G3]at h1
      simp only[Instr.buildSlice,Sem.run_bind,hT.underlying,Result.andThen_ok,hF.sizeOf,if_neg (show ¬ len * ei.size > 2 ^ 24 by omega),if_pos G3,Sem.run_pure,ue,h1,newRow,run_newObj,pure_bind]
     ·simp only[if_neg G3]at h1
      simp only[Instr.buildSlice,Sem.run_bind,hT.underlying,Result.andThen_ok,hF.sizeOf,if_neg (show ¬ len * ei.size > 2 ^ 24 by omega),if_neg G3,hz,Sem.run_pure,ue,h1,newRow,run_newObj,pure_bind]
    ·refine⟨_,_,rfl,Gg V3 (Nat.le_refl _) hs Ju.toList (h4.mono k2.le) (fun k hk=>?_) ⟨Ju.size,?_,?_⟩⟩
     ·rw[Nat.zero_add,k1 k (by simpa using hk)]
      simp
     ·rw[k0,Nat.zero_add,h2];simp
     ·rw[Nat.zero_add,h2];simp
   ·cases h
  ·cases h
 ·cases h
theorem IT {E:Env}(hE:E.Ok){g:Gh}{H:Nat→dD}{w:World}(hW:eR g H w){n:Nat}(hn:H n=.bX){t:TypeId}{len:Nat}{val:Operand→AV}{ρ:Operand→Value}{ps:Array (Nat×Operand)}{r:AV}
  (hv:∀ p∈ps,aF g (val p.2) (ρ p.2)) (h:iE E t len (ps.toList.map fun p=>(p.1,val p.2))=some r) :
  ∃ v w' g' sz xs,(Instr.buildSlice t len (ps.map fun (i,x)=>(i,ρ x))).run E.P w=.ok v w'∧r=.sl sz xs .full∧aF g' (.Fk n 0 xs.length sz) v∧fC g H w g' (eQ H n (.eD xs.flatten)) w':=by
 have ue:(ps.map fun (x:Nat×Operand)=>(x.1,ρ x.2)).toList=ps.toList.map fun p=>(p.1,ρ p.2):=by simp
 unfold iE at h
 split at h
 ·rename_i e _ _ _ ht
  have hT:=hE t _ ht
  split at h
  ·rename_i ei xs he AX
   have hF:=hE e _ he
   split at h
   ·rename_i hc
    obtain⟨ZL,iI,OI⟩:=hc
    cases h
    obtain⟨z,hz,OP⟩:=hF.zeroValue w
    simp only[List.map_map]at ZL AX
    have hlen:ps.toList.length=len:=by have:=congrArg List.length ZL;simpa using this
    have V3:xs.length=len:=by
     have:∀ (l:List AV) (ys:List (List AV)),l.mapM AV.cells?=some ys→ys.length=l.length:=by
      intro l
      induction l with
      |nil=>intro ys h;simp at h;simp[h]
      |cons a l ih =>
       intro ys h
       simp only[List.mapM_cons,Option.bind_eq_bind,Option.bind_eq_some_iff,Option.pure_def,Option.some.injEq]at h
       obtain⟨_,_,zs,h2,rfl⟩:=h
       simp[ih zs h2]
     rw[this _ _ AX];simpa using hlen
    have Ch:∀ x∈xs,x.length=ei.size:=fun x hx=>by simpa using List.all_eq_true.1 iI x hx
    have hs:∀ (i:Nat) (cs:List AV),xs[i]?=some cs→cs.length=ei.size:=fun i cs h=>Ch cs (List.mem_of_getElem? h)
    obtain⟨Ju,h1,h2,h3,h4⟩:=OE (g:=g) (val:=val) (ρ:=ρ) ei.size ps.toList 0 xs ((Array.range (len * ei.size)).map fun i=>(if len * ei.size=0 then #[] else z.cells)[i % (if len * ei.size=0 then #[] else z.cells).size]!)
     (fun p hp=>hv p (by simpa using hp)) AX Ch (by rw[← List.range_eq_range',hlen];exact ZL) (by simp[← hlen])
    rw[Nat.zero_mul,List.drop_zero]at h4
    obtain⟨k1,k2⟩:=fC.ye hW hn xs.flatten Ju #[] e h4
    rw[Array.append_empty]at k1 k2
    refine⟨.slice (some ⟨w.heap.size,0,none⟩) len len,_,_,ei.size,xs,?_,rfl,?_,k2⟩
    ·by_cases G3:len * ei.size=0
     ·simp only[if_pos G3]at h1
      simp only[Instr.buildSlice,Sem.run_bind,hT.underlying,Result.andThen_ok,hF.sizeOf,if_neg (show ¬ len * ei.size > 2 ^ 24 by omega),if_pos G3,Sem.run_pure,ue,h1,newRow,run_newObj,pure_bind]
     ·simp only[if_neg G3]at h1
      simp only[Instr.buildSlice,Sem.run_bind,hT.underlying,Result.andThen_ok,hF.sizeOf,if_neg (show ¬ len * ei.size > 2 ^ 24 by omega),if_neg G3,hz,Sem.run_pure,ue,h1,newRow,run_newObj,pure_bind]
    ·have hf:xs.flatten.length=len * ei.size:=by rw[length_flatten _ hs,V3]
     rw[V3]
     refine .Fk k1 (Nat.le_refl _) ?_
     have:=h4.1
     rw[hf]at this
     rw[Nat.zero_add]
     simp at this;omega
   ·cases h
  ·cases h
 ·cases h
end Go.Ev
