/-
The typed layer: values built,operators,conversions.
-/
import Derived.Test.YtddpmkmgbdedlaaGreatqTvC
set_option linter.unusedVariables false
set_option linter.unusedSimpArgs false
namespace Go.Ev
open Go
section
variable {τ:Nat→Type}
def QJ (C:eY τ)(place:Nat→Option (Step×Nat)):TV τ→List (Nat×TV τ)→Option (TV τ)
 |X,[]=>some X
 |X,(k,x) :: r =>
  match place k with
  |some (s,n)=>bif x.size C==n&&s.V4 then (match X.eQ C [s] x with|some X'=>QJ C place X' r|none=>none) else none
  |none=>none
theorem OG (l:List AV)(off:Nat)(xs:List AV)(h:off+xs.length≤l.length)(k:Nat):(wr l off xs)[k]?=if off≤k∧k < off+xs.length then xs[k - off]? else l[k]?:=by
 unfold wr
 rw[List.append_assoc,List.getElem?_append,List.length_take,Nat.min_eq_left (by omega)]
 split
 ·rw[if_neg (by omega),List.getElem?_take,if_pos (by assumption)]
 ·rw[List.getElem?_append]
  split
  ·rw[if_pos (by omega)]
  ·rw[if_neg (by omega),List.getElem?_drop]
   congr 1;omega
theorem CW.wr {l l':List AV}(h:CW l l')(off:Nat)(xs:List AV)(hb:off+xs.length≤l.length):CW (wr l off xs) (wr l' off xs):=by
 have RK:off+xs.length≤l'.length:=h.1▸hb
 refine⟨by rw[Yk _ _ _ hb,Yk _ _ _ RK,h.1],fun k x y hx hy=>?_⟩
 rw[OG _ _ _ hb]at hx
 rw[OG _ _ _ RK]at hy
 split at hx
 ·rename_i hc;rw[if_pos hc]at hy;rw[hx]at hy;cases hy;exact .refl x
 ·rename_i hc;rw[if_neg hc]at hy;exact h.2 k x y hx hy
theorem HM {C:eY τ}(hC:C.Ok){tp:Nat→Option (Step×Nat)}{place:Nat→Option (Nat×Nat)}(hp:∀ k s n,tp k=some (s,n)→place k=some (s.off,n)):∀ (ps:List (Nat×TV τ)) (X X':TV τ) (cells:List AV),
  CW cells (X.cells C)→QJ C tp X ps=some X'→∃ r,EX place cells (ps.map fun p=>(p.1,p.2.den C))=some r∧CW r (X'.cells C)
 |[],X,X',cells,hw,h=>by
  simp only[QJ,Option.some.injEq]at h;subst h
  exact⟨cells,rfl,hw⟩
 |(k,x) :: r,X,X',cells,hw,h=>by
  simp only[QJ]at h
  split at h
  ·rename_i s n hs
   cases hc:(x.size C==n&&s.V4) with
   |false=>rw[hc]at h;cases h
   |true =>
    rw[hc]at h
    simp only[cond_true]at h
    simp only[Bool.and_eq_true,beq_iff_eq]at hc
    split at h
    ·rename_i X1 hX1
     obtain⟨h1,h2,h3,h4⟩:=Zq hC [s] X x X1 hX1 (by simp[Ej,hc.2])
     simp only[oF,Nat.add_zero]at h2 h3
     have RL:cells.length=X.size C:=hw.1.trans (cS hC X)
     have V3:(x.cells C).length=n:=(cS hC x).trans hc.1
     have hb:s.off+(x.cells C).length≤cells.length:=by rw[RL,cS hC];exact h2
     obtain⟨r',g1,g2⟩:=HM hC hp r X1 X' (wr cells s.off (x.cells C)) ((hw.wr _ _ hb).trans h3) h
     refine⟨r',?_,g2⟩
     simp only[List.map_cons,EX,hp k s n hs,Kg C h4]
     rw[if_pos ⟨V3,by rw[← V3];exact hb⟩]
     exact g1
    ·cases h
  ·cases h
def qz (D:fA τ)(fields:Array Field)(k:Nat):Option (Step×Nat) :=
 match fields[k]? with
 |some f=>(match D.E.ty f.type with|some fi=>some (.sS k f.offset,fi.size) | none=>none)
 |none=>none
def qy (n s:Nat)(k:Nat):Option (Step×Nat):=some (.idx k n s,s)
def ly (D:fA τ)(t:TypeId)(ps:List (Nat×TV τ)):Option (TV τ) :=
 match D.E.ty t,D.zero t with
 |some ⟨.struct fields,_,_,_⟩,some z=>bif fields.toList.all (fun f=>(D.E.ty f.type).isSome) then QJ D.C (qz D fields) z ps else none
 |some ⟨.array n e,_,_,_⟩,some z=>(match D.E.ty e with|some ei=>QJ D.C (qy n ei.size) z ps|none=>none)
 |_,_=>none
theorem aDm {C:eY τ}{X X' y:TV τ}{s:Step}{p:List Step}(h:X.eQ C (s :: p) y=some X'):X'.isAgg=true:=by
 cases X<;>cases s<;>simp only[TV.eQ,reduceCtorEq,cond_eq_ite]at h
 ·split at h
  ·split at h
   ·split at h
    ·cases h;rfl
    ·cases h
   ·cases h
  ·cases h
 ·split at h
  ·split at h
   ·split at h
    ·cases h;rfl
    ·cases h
   ·cases h
  ·cases h
theorem TG {C:eY τ}{tp:Nat→Option (Step×Nat)}:∀ (ps:List (Nat×TV τ)) (X X':TV τ),X.isAgg=true→QJ C tp X ps=some X'→X'.isAgg=true
 |[],X,X',ha,h=>by simp only[QJ,Option.some.injEq]at h;subst h;exact ha
 |(k,x) :: r,X,X',ha,h=>by
  simp only[QJ]at h
  split at h
  ·rename_i s n hs
   cases hc:(x.size C==n&&s.V4) with
   |false=>rw[hc]at h;cases h
   |true =>
    rw[hc]at h
    simp only[cond_true]at h
    split at h
    ·rename_i X1 hX1
     exact TG r X1 X' (aDm hX1) h
    ·cases h
  ·cases h
theorem NS {g:Gh}{l:List AV}{cs:Array Value}(hl:cW g l cs.toList):aF g (.agg l) (.agg cs):=.agg (by simpa using hl.1) fun k x c a b=>hl.2 k x c a (by simpa using b)
theorem Un {g:Gh}{l:List AV}{v:Value}(h:aF g (.agg l) v):∃ cs:Array Value,v=.agg cs∧cW g l cs.toList:=by
 cases h with
 |agg e h=>exact⟨_,rfl,by simpa using e,fun k x c a b=>h k x c a (by simpa using b)⟩
theorem W.agg {l l':List AV}(h:CW l l'):W (.agg l) (.agg l'):=fun g v hv=>by
 obtain⟨cs,rfl,hl⟩:=Un hv
 exact NS (h.WD hl)
theorem T1 {D:fA τ}(hD:D.Ok){g:Gh}{t:TypeId}{val:Operand→TV τ}{ρ:Operand→Value}{ps:Array (Nat×Operand)}{r:TV τ}(hv:∀ p∈ps,aF g ((val p.2).den D.C) (ρ p.2))
  (h:ly D t (ps.toList.map fun p=>(p.1,val p.2))=some r) (w:World) :
  ∃ v,(Instr.build t (ps.map fun (i,x)=>(i,ρ x))).run D.E.P w=.ok v w∧aF g (r.den D.C) v:=by
 have fin:∀ {cells:List AV},OA D.E t (ps.toList.map fun p=>(p.1,(val p.2).den D.C))=some (.agg cells)→CW cells (r.cells D.C)→r.isAgg=true →
   ∃ v,(Instr.build t (ps.map fun (i,x)=>(i,ρ x))).run D.E.P w=.ok v w∧aF g (r.den D.C) v:=fun {cells} hb hw ha=>by
  obtain⟨v,h1,h2⟩:=v3 hD.E (val:=fun x=>(val x).den D.C) (ρ:=ρ) hv hb w
  exact⟨v,h1,by rw[AJ D.C ha];exact W.agg hw g v h2⟩
 have uc:(ps.toList.map fun p=>(p.1,val p.2)).map (fun p=>(p.1,p.2.den D.C))=ps.toList.map fun p=>(p.1,(val p.2).den D.C):=by simp
 unfold ly at h
 split at h
 ·rename_i fields s b z0 z ht hz
  cases hc:fields.toList.all (fun f=>(D.E.ty f.type).isSome) with
  |false=>rw[hc]at h;cases h
  |true =>
   rw[hc]at h
   simp only[cond_true]at h
   obtain⟨i,hi,_,G0,Di⟩:=hD.zero t z hz
   rw[ht]at hi;cases hi
   obtain⟨r',k1,k2⟩:=HM hD.C (place:=fun i=>fields[i]?.bind fun f=>(D.E.ty f.type).map fun fi=>(f.offset,fi.size)) (fun k s n hs=>by
    unfold qz at hs
    split at hs
    ·rename_i f hf
     split at hs
     ·rename_i fi tz
      simp only[Option.some.injEq,Prod.mk.injEq]at hs
      obtain⟨rfl,rfl⟩:=hs
      simp[hf,tz,Step.off]
     ·cases hs
    ·cases hs) _ z r z0 G0 h
   rw[uc]at k1
   refine fin ?_ k2 (TG _ _ _ (by rw[Di];rfl) h)
   unfold OA
   simp only[ht]
   rw[if_pos (by rw[← Array.all_toList];exact hc),k1];rfl
 ·rename_i n e s b z0 z ht hz
  split at h
  ·rename_i ei he
   obtain⟨i,hi,_,G0,Di⟩:=hD.zero t z hz
   rw[ht]at hi;cases hi
   obtain⟨r',k1,k2⟩:=HM hD.C (place:=fun i=>some (i * ei.size,ei.size)) (fun k s n hs=>by
    simp only[qy,Option.some.injEq,Prod.mk.injEq]at hs
    obtain⟨rfl,rfl⟩:=hs
    rfl) _ z r z0 G0 h
   rw[uc]at k1
   refine fin ?_ k2 (TG _ _ _ (by rw[Di];rfl) h)
   unfold OA
   simp only[ht,he,k1];rfl
  ·cases h
 ·cases h
def Ri (C:eY τ)(e:Nat):List (TV τ)→Option (List (τ e))
 |[]=>some []
 |x :: r=>match C.dec e x,Ri C e r with
  |some a,some l=>some (a :: l)
  |_,_=>none
theorem AI {C:eY τ}(hC:C.Ok){e:Nat}:∀ (l:List (TV τ)) (r:List (τ e)),Ri C e l=some r →
  (l.map (TV.den C)).mapM AV.cells?=some (l.map (TV.cells C))∧l.length=r.length∧(∀ (i:Nat) (a b:List AV),(l.map (TV.cells C))[i]?=some a→(r.map (C.cel e))[i]?=some b→CW a b)∧∀ x∈l,(x.cells C).length=C.sz e
 |[],r,h=>by simp only[Ri,Option.some.injEq]at h;subst h;simp
 |x :: l,r,h=>by
  simp only[Ri]at h
  split at h
  ·rename_i a l' ha hl
   simp only[Option.some.injEq]at h;subst h
   obtain⟨h1,h2,h3,h4⟩:=AI hC l l' hl
   refine⟨by simp[Kg C (hC.cD e x a ha),h1],by simp[h2],fun i p q hp hq=>?_,fun y hy=>?_⟩
   ·cases i with
    |zero=>simp at hp hq;subst hp;subst hq;exact hC.dec e x a ha
    |succ i=>exact h3 i p q (by simpa using hp) (by simpa using hq)
   ·simp at hy
    rcases hy with rfl|hy
    ·rw[(hC.dec e y a ha).1,hC.len]
    ·exact h4 y hy
  ·cases h
def cT (e q:Nat):Nat:=e+q
theorem nb (e:Nat):cT e 0=e:=rfl
def Qc (D:fA τ)(e ce len:Nat)(ps:List (Nat×TV τ)):Option (TV τ) :=
  match D.E.ty e,Ri D.C ce (ps.map (·.2)) with
  |some ei,some l=>bif (ps.map (·.1)==List.range len)&&D.C.sz ce==ei.size&&Nat.ble (len * ei.size) 16777216 then some (.sl ce l .full) else none
  |_,_=>none
def uX (D:fA τ)(t:TypeId)(len:Nat)(q:Nat)(ps:List (Nat×TV τ)):Option (TV τ) :=
 match D.E.ty t with
 |some ⟨.slice e,_,_,_⟩=>Qc D e (cT e q) len ps
 |_=>none
theorem Vm {D:fA τ}(hD:D.Ok){g:Gh}{H:Nat→dD}{w:World}(hW:eR g H w){t:TypeId}{len:Nat}{val:Operand→TV τ}{ρ:Operand→Value}{q:Nat}{ps:Array (Nat×Operand)}{r:TV τ}
  (hv:∀ p∈ps,aF g ((val p.2).den D.C) (ρ p.2)) (h:uX D t len q (ps.toList.map fun p=>(p.1,val p.2))=some r) :
  ∃ v w' g',(Instr.buildSlice t len (ps.map fun (i,x)=>(i,ρ x))).run D.E.P w=.ok v w'∧aF g' (r.den D.C) v∧fC g H w g' H w':=by
 unfold uX at h
 split at h
 ·rename_i e s b z ht
  generalize cT e q=ce at h
  unfold Qc at h
  split at h
  ·rename_i ei l he hl
   cases hc:(((ps.toList.map fun p=>(p.1,val p.2)).map (·.1)==List.range len)&&D.C.sz ce==ei.size&&Nat.ble (len * ei.size) 16777216) with
   |false=>rw[hc]at h;cases h
   |true =>
    rw[hc]at h
    simp only[cond_true,Option.some.injEq]at h
    subst h
    simp only[Bool.and_eq_true,beq_iff_eq]at hc
    obtain⟨⟨c1,c2⟩,c3⟩:=hc
    have c3':len * ei.size≤2 ^ 24:=Nat.le_of_ble_eq_true c3
    obtain⟨h1,h2,h3,h4⟩:=AI hD.C _ _ hl
    have:iE D.E t len (ps.toList.map fun p=>(p.1,(val p.2).den D.C))=some (.sl ei.size (((ps.toList.map fun p=>(p.1,val p.2)).map (·.2)).map (TV.cells D.C)) .full):=by
     unfold iE
     have e1:(ps.toList.map fun p=>(p.1,(val p.2).den D.C)).map (·.2)=((ps.toList.map fun p=>(p.1,val p.2)).map (·.2)).map (TV.den D.C):=by simp
     have e2:(ps.toList.map fun p=>(p.1,(val p.2).den D.C)).map (·.1)=(ps.toList.map fun p=>(p.1,val p.2)).map (·.1):=by simp
     simp only[ht,he,e1,h1,e2]
     have iI:((((ps.toList.map fun p=>(p.1,val p.2)).map (·.2)).map (TV.cells D.C)).all fun x=>x.length==ei.size)=true:=List.all_eq_true.2 fun x hx=>by
      obtain⟨y,hy,rfl⟩:=List.mem_map.1 hx
      simp only[h4 y hy,c2,beq_self_eq_true]
     rw[if_pos ⟨c1,iI,c3'⟩]
    obtain⟨v,w',g',k1,k2,k3⟩:=Ro hD.E hW (val:=fun x=>(val x).den D.C) (ρ:=ρ) hv this
    refine⟨v,w',g',k1,?_,k3⟩
    simp only[TV.den,Gf,c2]
    refine W.sl (by simpa using h2) (fun i a b ha hb=>h3 i a b ha hb) g' v k2
  ·cases h
 ·cases h
def o0 (D:fA τ)(t:TypeId)(len:Nat)(ps:List (Nat×TV τ)):Option (TV τ) :=
 match D.E.ty t with
 |some ⟨.slice e,_,_,_⟩ =>
  match D.E.ty e with
  |some ei=>bif (ps.map (·.1)==List.range len)&&((ps.map (·.2)).all fun x=>x.ok&&x.size D.C==ei.size)&&Nat.ble (len * ei.size) 16777216 then some (.ls ei.size (ps.map (·.2))) else none
  |_=>none
 |_=>none
theorem o1 {D:fA τ}(hD:D.Ok){g:Gh}{H:Nat→dD}{w:World}(hW:eR g H w){t:TypeId}{len:Nat}{val:Operand→TV τ}{ρ:Operand→Value}{ps:Array (Nat×Operand)}{r:TV τ}
  (hv:∀ p∈ps,aF g ((val p.2).den D.C) (ρ p.2)) (h:o0 D t len (ps.toList.map fun p=>(p.1,val p.2))=some r) :
  ∃ v w' g',(Instr.buildSlice t len (ps.map fun (i,x)=>(i,ρ x))).run D.E.P w=.ok v w'∧aF g' (r.den D.C) v∧fC g H w g' H w':=by
 unfold o0 at h
 split at h
 ·rename_i e s b z ht
  split at h
  ·rename_i ei he
   cases hc:(((ps.toList.map fun p=>(p.1,val p.2)).map (·.1)==List.range len)&&(((ps.toList.map fun p=>(p.1,val p.2)).map (·.2)).all fun x=>x.ok&&x.size D.C==ei.size)&&Nat.ble (len * ei.size) 16777216) with
   |false=>rw[hc]at h;cases h
   |true =>
    rw[hc]at h
    simp only[cond_true,Option.some.injEq]at h
    subst h
    simp only[Bool.and_eq_true,beq_iff_eq]at hc
    obtain⟨⟨c1,c2⟩,c3⟩:=hc
    have c3':len * ei.size≤2 ^ 24:=Nat.le_of_ble_eq_true c3
    have iI:∀ x∈(ps.toList.map fun p=>(p.1,val p.2)).map (·.2),x.ok=true∧x.size D.C=ei.size:=fun x hx=>by
     have:=List.all_eq_true.1 c2 x hx
     simpa using this
    have hmm:∀ l:List (TV τ),(∀ x∈l,x.ok=true)→(l.map (TV.den D.C)).mapM AV.cells?=some (l.map (TV.cells D.C)):=fun l=>by
     induction l with
     |nil=>intro _;rfl
     |cons x l ih =>
      intro hl
      rw[List.map_cons,List.mapM_cons,Kg D.C (hl x (by simp)),ih fun y hy=>hl y (by simp[hy])]
      rfl
    have h1:=hmm _ fun x hx=>(iI x hx).1
    have:iE D.E t len (ps.toList.map fun p=>(p.1,(val p.2).den D.C))=some (.sl ei.size (((ps.toList.map fun p=>(p.1,val p.2)).map (·.2)).map (TV.cells D.C)) .full):=by
     unfold iE
     have e1:(ps.toList.map fun p=>(p.1,(val p.2).den D.C)).map (·.2)=((ps.toList.map fun p=>(p.1,val p.2)).map (·.2)).map (TV.den D.C):=by simp
     have e2:(ps.toList.map fun p=>(p.1,(val p.2).den D.C)).map (·.1)=(ps.toList.map fun p=>(p.1,val p.2)).map (·.1):=by simp
     simp only[ht,he,e1,h1,e2]
     have aIU:((((ps.toList.map fun p=>(p.1,val p.2)).map (·.2)).map (TV.cells D.C)).all fun x=>x.length==ei.size)=true:=List.all_eq_true.2 fun x hx=>by
      obtain⟨y,hy,rfl⟩:=List.mem_map.1 hx
      simp only[cS hD.C,(iI y hy).2,beq_self_eq_true]
     rw[if_pos ⟨c1,aIU,c3'⟩]
    obtain⟨v,w',g',k1,k2,k3⟩:=Ro hD.E hW (val:=fun x=>(val x).den D.C) (ρ:=ρ) hv this
    refine⟨v,w',g',k1,?_,k3⟩
    simp only[TV.den,Ya]
    exact k2
  ·cases h
 ·cases h
theorem NF {D:fA τ}(hD:D.Ok){g:Gh}{H:Nat→dD}{w:World}(hW:eR g H w){n:Nat}(hn:H n=.bX){e':Nat}{l':List (τ e')}{t:TypeId}{len:Nat}{val:Operand→TV τ}{ρ:Operand→Value}{ps:Array (Nat×Operand)} 
  (hv:∀ p∈ps,aF g ((val p.2).den D.C) (ρ p.2)) (h:uX D t len 0 (ps.toList.map fun p=>(p.1,val p.2))=some (.sl e' l' .full)) :
  ∃ v w' g',(Instr.buildSlice t len (ps.map fun (i,x)=>(i,ρ x))).run D.E.P w=.ok v w'∧aF g' (Gf D.C e' l' (.tl n)) v∧fC g H w g' (eQ H n .tail) w':=by
 unfold uX at h
 simp only[nb,Qc]at h
 split at h
 ·rename_i e s b z ht
  split at h
  ·rename_i ei l he hl
   cases hc:(((ps.toList.map fun p=>(p.1,val p.2)).map (·.1)==List.range len)&&D.C.sz e==ei.size&&Nat.ble (len * ei.size) 16777216) with
   |false=>rw[hc]at h;cases h
   |true =>
    rw[hc]at h
    simp only[cond_true,Option.some.injEq]at h
    cases h
    simp only[Bool.and_eq_true,beq_iff_eq]at hc
    obtain⟨⟨c1,c2⟩,c3⟩:=hc
    have c3':len * ei.size≤2 ^ 24:=Nat.le_of_ble_eq_true c3
    obtain⟨h1,h2,h3,h4⟩:=AI hD.C _ _ hl
    have:iE D.E t len (ps.toList.map fun p=>(p.1,(val p.2).den D.C))=some (.sl ei.size (((ps.toList.map fun p=>(p.1,val p.2)).map (·.2)).map (TV.cells D.C)) .full):=by
     unfold iE
     have e1:(ps.toList.map fun p=>(p.1,(val p.2).den D.C)).map (·.2)=((ps.toList.map fun p=>(p.1,val p.2)).map (·.2)).map (TV.den D.C):=by simp
     have e2:(ps.toList.map fun p=>(p.1,(val p.2).den D.C)).map (·.1)=(ps.toList.map fun p=>(p.1,val p.2)).map (·.1):=by simp
     simp only[ht,he,e1,h1,e2]
     have iI:((((ps.toList.map fun p=>(p.1,val p.2)).map (·.2)).map (TV.cells D.C)).all fun x=>x.length==ei.size)=true:=List.all_eq_true.2 fun x hx=>by
      obtain⟨y,hy,rfl⟩:=List.mem_map.1 hx
      simp only[h4 y hy,c2,beq_self_eq_true]
     rw[if_pos ⟨c1,iI,c3'⟩]
    obtain⟨v,w',g',k1,⟨sz,xs,k0,k2⟩,k3⟩:=IU hD.E hW hn (val:=fun x=>(val x).den D.C) (ρ:=ρ) hv this
    refine⟨v,w',g',k1,?_,k3⟩
    cases k0
    simp only[Gf,c2]
    refine W.sl (by simpa using h2) (fun i a b ha hb=>h3 i a b ha hb) g' v k2
  ·cases h
 ·cases h
theorem CW.flat:∀ (xs ys:List (List AV)),xs.length=ys.length→(∀ (i:Nat) (a b:List AV),xs[i]?=some a→ys[i]?=some b→CW a b)→CW xs.flatten ys.flatten
 |[],[],_,_=>.refl []
 |x :: xs,y :: ys,h,h'=>by
  rw[List.flatten_cons,List.flatten_cons]
  exact (h' 0 x y rfl rfl).append (CW.flat xs ys (by simpa using h) fun i a b ha hb=>h' (i+1) a b (by simpa using ha) (by simpa using hb))
theorem ND {D:fA τ}(hD:D.Ok){g:Gh}{H:Nat→dD}{w:World}(hW:eR g H w){n:Nat}(hn:H n=.bX){e':Nat}{l':List (τ e')}{t:TypeId}{len:Nat}{val:Operand→TV τ}{ρ:Operand→Value}{ps:Array (Nat×Operand)} 
  (hv:∀ p∈ps,aF g ((val p.2).den D.C) (ρ p.2)) (h:uX D t len 0 (ps.toList.map fun p=>(p.1,val p.2))=some (.sl e' l' .full)) :
  ∃ v w' g',(Instr.buildSlice t len (ps.map fun (i,x)=>(i,ρ x))).run D.E.P w=.ok v w'∧aF g' (.Fk n 0 l'.length (D.C.sz e')) v∧fC g H w g' (eQ H n (.eD (l'.flatMap (D.C.cel e')))) w':=by
 unfold uX at h
 simp only[nb,Qc]at h
 split at h
 ·rename_i e s b z ht
  split at h
  ·rename_i ei l he hl
   cases hc:(((ps.toList.map fun p=>(p.1,val p.2)).map (·.1)==List.range len)&&D.C.sz e==ei.size&&Nat.ble (len * ei.size) 16777216) with
   |false=>rw[hc]at h;cases h
   |true =>
    rw[hc]at h
    simp only[cond_true,Option.some.injEq]at h
    cases h
    simp only[Bool.and_eq_true,beq_iff_eq]at hc
    obtain⟨⟨c1,c2⟩,c3⟩:=hc
    have c3':len * ei.size≤2 ^ 24:=Nat.le_of_ble_eq_true c3
    obtain⟨h1,h2,h3,h4⟩:=AI hD.C _ _ hl
    have:iE D.E t len (ps.toList.map fun p=>(p.1,(val p.2).den D.C))=some (.sl ei.size (((ps.toList.map fun p=>(p.1,val p.2)).map (·.2)).map (TV.cells D.C)) .full):=by
     unfold iE
     have e1:(ps.toList.map fun p=>(p.1,(val p.2).den D.C)).map (·.2)=((ps.toList.map fun p=>(p.1,val p.2)).map (·.2)).map (TV.den D.C):=by simp
     have e2:(ps.toList.map fun p=>(p.1,(val p.2).den D.C)).map (·.1)=(ps.toList.map fun p=>(p.1,val p.2)).map (·.1):=by simp
     simp only[ht,he,e1,h1,e2]
     have iI:((((ps.toList.map fun p=>(p.1,val p.2)).map (·.2)).map (TV.cells D.C)).all fun x=>x.length==ei.size)=true:=List.all_eq_true.2 fun x hx=>by
      obtain⟨y,hy,rfl⟩:=List.mem_map.1 hx
      simp only[h4 y hy,c2,beq_self_eq_true]
     rw[if_pos ⟨c1,iI,c3'⟩]
    obtain⟨v,w',g',sz,xs,k1,k0,k2,k3⟩:=IT hD.E hW hn (val:=fun x=>(val x).den D.C) (ρ:=ρ) hv this
    cases k0
    have hll:(((ps.toList.map fun p=>(p.1,val p.2)).map (·.2)).map (TV.cells D.C)).length=l'.length:=by simpa using h2
    rw[hll]at k2
    refine⟨v,w',g',k1,by rw[c2];exact k2,?_⟩
    have G0:CW (((ps.toList.map fun p=>(p.1,val p.2)).map (·.2)).map (TV.cells D.C)).flatten (l'.flatMap (D.C.cel e')):=by
     rw[show l'.flatMap (D.C.cel e')=(l'.map (D.C.cel e')).flatten by rw[List.flatMap]]
     exact CW.flat _ _ (by simpa using h2) (fun i a b ha hb=>h3 i a b ha hb)
    have:=fC.rk k3.rel (id:=n) (aP _ _ _) G0
    have e3:eQ (eQ H n (.eD (((ps.toList.map fun p=>(p.1,val p.2)).map (·.2)).map (TV.cells D.C)).flatten)) n (.eD (l'.flatMap (D.C.cel e')))=eQ H n (.eD (l'.flatMap (D.C.cel e'))):=by
     funext j
     by_cases hj:j=n
     ·subst hj;rw[aP,aP]
     ·rw[aM _ _ hj,aM _ _ hj,aM _ _ hj]
    rw[e3]at this
    exact k3.trans this
  ·cases h
 ·cases h
def qv (D:fA τ)(n:Nat)(t:TypeId)(len:Nat)(ps:List (Nat×TV τ)):Option (jG τ) :=
 match uX D t len 0 ps with
 |some (.sl e (x :: l) .full)=>bif (match D.E.ty e with|some i=>i.agg|none=>false) then some { r:=.mS e n (x :: l).length,U:=[(n,.eD e (x :: l))],F:=[n] } else none
 |_=>none
def aC4 (op:BinOp)(k:IntKind)(a:Int)(k':IntKind)(b:Int):Option (jG τ) :=
 match op with
 |.shl=>some { r:=.int k (shl k a b),ob:=some (decide (0≤b)) }
 |.shr=>some { r:=.int k (shr k a b),ob:=some (decide (0≤b)) }
 |.add=>bif IntKind.IS k k' then some { r:=.int k (k.wrap (a+b)) } else none
 |.sub=>bif IntKind.IS k k' then some { r:=.int k (k.wrap (a - b)) } else none
 |.mul=>bif IntKind.IS k k' then some { r:=.int k (k.wrap (a * b)) } else none
 |.quo=>bif IntKind.IS k k' then some { r:=.int k (k.wrap (a.tdiv b)),ob:=some (!(b==0)) } else none
 |.rem=>bif IntKind.IS k k' then some { r:=.int k (a.tmod b),ob:=some (!(b==0)) } else none
 |.and=>bif IntKind.IS k k' then some { r:=.int k (bits .and k a b) } else none
 |.or=>bif IntKind.IS k k' then some { r:=.int k (bits .or k a b) } else none
 |.xor=>bif IntKind.IS k k' then some { r:=.int k (bits .xor k a b) } else none
 |.andNot=>bif IntKind.IS k k' then some { r:=.int k (bits .andNot k a b) } else none
 |.eql=>bif IntKind.IS k k' then some { r:=.bool (a==b) } else none
 |.neq=>bif IntKind.IS k k' then some { r:=.bool (!(a==b)) } else none
 |.lss=>bif IntKind.IS k k' then some { r:=.bool (decide (a < b)) } else none
 |.leq=>bif IntKind.IS k k' then some { r:=.bool (decide (a≤b)) } else none
 |.gtr=>bif IntKind.IS k k' then some { r:=.bool (decide (b < a)) } else none
 |.geq=>bif IntKind.IS k k' then some { r:=.bool (decide (b≤a)) } else none
theorem vq {op:BinOp}{k k':IntKind}{a b:Int}{res:jG τ}(h:aC4 op k a k' b=some res)(jM:res.ob=none∨res.ob=some true)(C:eY τ) :
  res.U=[]∧∃ x p,W7 op (.int k a) (.int k' b)=some (x,p)∧p∧res.r.den C=.v x:=by
 by_cases hk:IntKind.IS k k'=true
 ·have:=IntKind.LL hk;subst this
  cases op<;>simp only[aC4,hk,cond_true,Option.some.injEq]at h<;>subst h<;>refine⟨rfl,?_⟩<;>simp only[W7,if_true]<;>first
   |exact⟨_,_,rfl,trivial,rfl⟩
   |(refine⟨_,_,rfl,?_,rfl⟩;simpa using jM)
 ·have jR:IntKind.IS k k'=false:=by simpa using hk
  cases op<;>simp only[aC4,jR,cond_false,reduceCtorEq,Option.some.injEq]at h<;>subst h<;>refine⟨rfl,?_⟩<;>simp only[W7] <;>
   (refine⟨_,_,rfl,?_,rfl⟩;simpa using jM)
def aC5:TV τ→Option (Nat×Bool)
 |.nil .ptr=>some (0,true)
 |.ptr _ _ | .LY _=>some (0,false)
 |.nil .slice=>some (1,true)
 |.sl _ _ .non | .sl _ _ .nn | .sl _ _ (.tl _) | .sl _ _ .full | .ls _ _=>some (1,false)
 |.nil .func=>some (2,true)
 |.fn _ _=>some (2,false)
 |_=>none
def tEq (D:fA τ)(t:TypeId)(x y:TV τ):Option Bool :=
 match D.E.eqk t with
 |some ks=>bif x.isAgg&&y.isAgg&&(x.kds D.C).any (fun ug=>ug==ks) then x.mj D.C y else none
 |none =>
  match x,y with
  |.bool a,.bool b=>(match D.E.ty t with|some ⟨.bool,_,_,_⟩=>some (a==b) | _=>none)
  |x,y=>match D.E.ty t,aC5 x,aC5 y with
   |some ⟨.pointer _,_,_,_⟩,some (0,a),some (0,b)=>bif a || b then some (a&&b) else none
   |some ⟨.slice _,_,_,_⟩,some (1,a),some (1,b)=>bif a || b then some (a&&b) else none
   |some ⟨.func _ _ _,_,_,_⟩,some (2,a),some (2,b)=>bif a || b then some (a&&b) else none
   |_,_,_=>none
theorem qx {C:eY τ}{g:Gh}{x:TV τ}{v:Value}(hx:aF g (x.den C) v){n:Nat}{b:Bool}(h:aC5 x=some (n,b)) :
  ∃ x',aF g x' v∧kj x'=some (n,b)∧x'.cells?≠none∧(∀ k a,x'≠.v (.int k a))∧(∀ s,x'≠.v (.string s)):=by
 unfold aC5 at h
 split at h<;>first
  |(cases h;done)
  |(cases h;exact⟨_,hx,rfl,by simp[TV.den,On.val,AV.cells?,Gf],by simp[TV.den,On.val,Gf],by simp[TV.den,On.val,Gf]⟩)
  |(cases h;exact⟨_,(Fe hx).2,rfl,by simp[AV.cells?],by simp,by simp⟩)
theorem ID {E:Env}{op:BinOp}{t:TypeId}{x y:AV}(hx:(∀ k a,x≠.v (.int k a))∧(∀ s,x≠.v (.string s))) : 
  F3 E op t x y=match op with
  |.eql=>(OB E t x y).map fun b=>{ r:=.v (.bool b) }
  |.neq=>(OB E t x y).map fun b=>{ r:=.v (.bool !b) }
  |_=>none:=by
 unfold F3
 split
 ·exact absurd rfl (hx.1 _ _)
 ·exact absurd rfl (hx.2 _)
 ·rfl
def aGG (D:fA τ)(op:BinOp)(t:TypeId)(x y:TV τ):Option (jG τ) :=
 match x,y with
 |.int k a,.int k' b=>aC4 op k a k' b
 |.str a,.str b=>(match op with | .eql=>some { r:=.bool (a==b) } | .neq=>some { r:=.bool (!(a==b)) } | .lss=>some { r:=.bool (ltS a b) } | .leq=>some { r:=.bool (ltS a b || a==b) } | .gtr=>some { r:=.bool (!(ltS a b || a==b)) } | .geq=>some { r:=.bool (!(ltS a b)) } | _=>none)
 |x,y=>match op with
  |.eql=>(match tEq D t x y with|some b=>some { r:=.bool b } | none=>none)
  |.neq=>(match tEq D t x y with|some b=>some { r:=.bool (!b) } | none=>none)
  |_=>none
theorem aBD {D:fA τ}(hD:D.Ok){g:Gh}{t:TypeId}{x y:TV τ}{vx vy:Value}(hx:aF g (x.den D.C) vx)(hy:aF g (y.den D.C) vy){b:Bool}(h:tEq D t x y=some b) :
  ∃ x' y',aF g x' vx∧aF g y' vy∧OB D.E t x' y'=some b∧(∀ k a,x'≠.v (.int k a))∧(∀ s,x'≠.v (.string s)):=by
 unfold tEq at h
 split at h
 ·rename_i ks hks
  cases hc:(x.isAgg&&y.isAgg&&(x.kds D.C).any (fun ug=>ug==ks)) with
  |false=>rw[hc]at h;cases h
  |true =>
   rw[hc]at h
   simp only[cond_true]at h
   simp only[Bool.and_eq_true,Option.any_eq_true,beq_iff_eq]at hc
   obtain⟨⟨c1,c2⟩,ug,c3,rfl⟩:=hc
   have:=J6 hD.C x y ug b c3 h
   rw[AJ D.C c1]at hx
   rw[AJ D.C c2]at hy
   exact⟨_,_,hx,hy,by unfold OB;simp only[hks,AV.cells?];exact this,by simp,by simp⟩
 ·rename_i hks
  split at h
  ·rename_i a b'
   split at h
   ·rename_i s b0 z ht
    cases h
    exact⟨_,_,hx,hy,by unfold OB;simp only[hks,ht,TV.den],by simp[TV.den],by simp[TV.den]⟩
   ·cases h
  ·split at h<;>first
    |(cases h;done)
    |skip
   all_goals
    rename_i a b' ht hnx hny
    cases hab:(a || b') with
    |false=>rw[hab]at h;cases h
    |true =>
     rw[hab]at h
     simp only[cond_true,Option.some.injEq]at h
     subst h
     obtain⟨x',x1,x2,x3,x4,x5⟩:=qx hx hnx
     obtain⟨y',y1,y2,y3,y4,y5⟩:=qx hy hny
     refine⟨x',y',x1,y1,?_,x4,x5⟩
     unfold OB
     simp only[hks,ht,x2,y2,hab,if_true]
theorem lx {D:fA τ}(hD:D.Ok){g:Gh}{t:TypeId}{op:BinOp}{x y:TV τ}{vx vy:Value}(hx:aF g (x.den D.C) vx)(hy:aF g (y.den D.C) vy){res:jG τ}(h:aGG D op t x y=some res)
  (jM:res.ob=none∨res.ob=some true) (ox oy:Operand) (w:World) :
  ∃ v,(do eqGuard op t ox oy vx vy;binOp op t vx vy:Sem Value).run D.E.P w=.ok v w∧aF g (res.r.den D.C) v∧res.U=[]:=by
 unfold aGG at h
 split at h
 ·rename_i k a k' b
  obtain⟨hU,z,p,h1,h2,h3⟩:=vq h jM D.C
  obtain⟨v,k1,k2,_⟩:=Gt hD.E hD.Q (t:=t) (op:=op) (show aF g (.v (.int k a)) vx from hx) (show aF g (.v (.int k' b)) vy from hy) (res:={ r:=.v z,ob:=p }) (by unfold F3;simp only[h1];rfl) h2 ox oy w
  exact⟨v,k1,by rw[h3];exact k2,hU⟩
 ·rename_i a b
  have key:∀ z,W7 op (.string ⟨⟨a⟩⟩) (.string ⟨⟨b⟩⟩)=some (z,True)→res.r.den D.C=.v z→res.U=[]→∃ v,(do eqGuard op t ox oy vx vy;binOp op t vx vy:Sem Value).run D.E.P w=.ok v w∧aF g (res.r.den D.C) v∧res.U=[]:=fun z h1 h3 hU=>by
   obtain⟨v,k1,k2,_⟩:=Gt hD.E hD.Q (t:=t) (op:=op) (show aF g (.v (.string ⟨⟨a⟩⟩)) vx from hx) (show aF g (.v (.string ⟨⟨b⟩⟩)) vy from hy) (res:={ r:=.v z,ob:=True }) (by unfold F3;simp only[h1];rfl) trivial ox oy w
   exact⟨v,k1,by rw[h3];exact k2,hU⟩
  split at h
  ·cases h;exact key _ rfl rfl rfl
  ·cases h;exact key _ rfl rfl rfl
  ·cases h;exact key _ rfl rfl rfl
  ·cases h;exact key _ rfl rfl rfl
  ·cases h;exact key _ rfl rfl rfl
  ·cases h;exact key _ rfl rfl rfl
  ·cases h
 ·split at h
  ·split at h
   ·rename_i b hb
    cases h
    obtain⟨x',y',e1,e2,e3,e4,e5⟩:=aBD hD hx hy hb
    obtain⟨v,k1,k2,_⟩:=Gt hD.E hD.Q (t:=t) (op:=.eql) e1 e2 (res:={ r:=.v (.bool b) }) (by rw[ID ⟨e4,e5⟩];simp only[e3];rfl) trivial ox oy w
    exact⟨v,k1,k2,rfl⟩
   ·cases h
  ·split at h
   ·rename_i b hb
    cases h
    obtain⟨x',y',e1,e2,e3,e4,e5⟩:=aBD hD hx hy hb
    obtain⟨v,k1,k2,_⟩:=Gt hD.E hD.Q (t:=t) (op:=.neq) e1 e2 (res:={ r:=.v (.bool !b) }) (by rw[ID ⟨e4,e5⟩];simp only[e3];rfl) trivial ox oy w
    exact⟨v,k1,k2,rfl⟩
   ·cases h
  ·cases h
def tUn (op:UnOp)(x:TV τ):Option (TV τ) :=
 match op,x with
 |.neg,.int k n=>some (.int k (k.wrap (0 - n)))
 |.xor,.int k n=>some (.int k (bits .xor k (if k.signed then -1 else k.max) n))
 |.not,.bool b=>some (.bool !b)
 |_,_=>none
theorem vr {C:eY τ}{P:Program}{g:Gh}{op:UnOp}{x r:TV τ}{vx:Value}(hx:aF g (x.den C) vx)(h:tUn op x=some r)(w:World):∃ v,(Op.unary op vx).run P w=.ok v w∧aF g (r.den C) v:=by
 unfold tUn at h
 split at h
 ·cases h;cases hx;exact⟨_,TN rfl w,.v _⟩
 ·cases h;cases hx;exact⟨_,TN rfl w,.v _⟩
 ·cases h;cases hx;exact⟨_,TN rfl w,.v _⟩
 ·cases h
end
end Go.Ev
