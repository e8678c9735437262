/-
The typed layer: values built,operators,conversions.
-/
import Derived.Test.YtddpmkmgbdedlaaGreatqTvC
set_option linter.unusedVariables false
set_option linter.unusedSimpArgs false
namespace Go.Ev
open Go
section
variable {τ:Nat→Type}
def nT (C:Cod τ) (place:Nat→Option (Step×Nat)):TV τ→List (Nat×TV τ)→Option (TV τ)
 | X,[]=>some X
 | X, (k, x) :: r =>
  match place k with
  | some (s,n)=>bif x.size C==n&&s.inb then (match X.upd C [s] x with | some X'=>nT C place X' r | none=>none) else none
  | none=>none
theorem aM1 (l:List AV) (off:Nat) (xs:List AV) (h:off+xs.length≤l.length) (k:Nat):(wr l off xs)[k]?=if off≤k∧k < off+xs.length then xs[k - off]? else l[k]?:=by
 unfold wr
 rw [List.append_assoc,List.getElem?_append,List.length_take,Nat.min_eq_left (by omega)]
 split
 ·rw [if_neg (by omega),List.getElem?_take,if_pos (by assumption)]
 ·rw [List.getElem?_append]
  split
  ·rw [if_pos (by omega)]
  ·rw [if_neg (by omega),List.getElem?_drop]
   congr 1; omega
theorem CW.wr {l l':List AV} (h:CW l l') (off:Nat) (xs:List AV) (hb:off+xs.length≤l.length):CW (wr l off xs) (wr l' off xs):=by
 have hb':off+xs.length≤l'.length:=h.1▸hb
 refine ⟨by rw [xP _ _ _ hb,xP _ _ _ hb',h.1],fun k x y hx hy=>?_⟩
 rw [aM1 _ _ _ hb] at hx
 rw [aM1 _ _ _ hb'] at hy
 split at hx
 ·rename_i hc; rw [if_pos hc] at hy; rw [hx] at hy; cases hy; exact .refl x
 ·rename_i hc; rw [if_neg hc] at hy; exact h.2 k x y hx hy
theorem aJl {C:Cod τ} (hC:C.Ok) {tp:Nat→Option (Step×Nat)} {place:Nat→Option (Nat×Nat)} (hp:∀ k s n,tp k=some (s,n)→place k=some (s.off,n)):∀ (ps:List (Nat×TV τ)) (X X':TV τ) (cells:List AV),
  CW cells (X.cells C)→nT C tp X ps=some X'→∃ r,pD place cells (ps.map fun p=>(p.1,p.2.den C))=some r∧CW r (X'.cells C)
 | [], X, X', cells, hw, h => by
  simp only [nT,Option.some.injEq] at h; subst h
  exact ⟨cells,rfl,hw⟩
 | (k, x) :: r, X, X', cells, hw, h => by
  simp only [nT] at h
  split at h
  ·rename_i s n hs
   cases hc:(x.size C==n&&s.inb) with
   | false=>rw [hc] at h; cases h
   | true =>
    rw [hc] at h
    simp only [cond_true] at h
    simp only [Bool.and_eq_true,beq_iff_eq] at hc
    split at h
    ·rename_i X1 hX1
     obtain ⟨h1,h2,h3,h4⟩:=aAd hC [s] X x X1 hX1 (by simp [cS,hc.2])
     simp only [bM,Nat.add_zero] at h2 h3
     have hcl:cells.length=X.size C:=hw.1.trans (dO hC X)
     have hxl:(x.cells C).length=n:=(dO hC x).trans hc.1
     have hb:s.off+(x.cells C).length≤cells.length:=by rw [hcl,dO hC]; exact h2
     obtain ⟨r',g1,g2⟩:=aJl hC hp r X1 X' (wr cells s.off (x.cells C)) ((hw.wr _ _ hb).trans h3) h
     refine ⟨r',?_,g2⟩
     simp only [List.map_cons,pD,hp k s n hs,vX C h4]
     rw [if_pos ⟨hxl,by rw [← hxl]; exact hb⟩]
     exact g1
    ·cases h
  ·cases h
def aM2 (D:TEnv τ) (fields:Array Field) (k:Nat):Option (Step×Nat) :=
 match fields[k]? with
 | some f=>(match D.E.ty f.type with | some fi=>some (.fld k f.offset,fi.size) | none=>none)
 | none=>none
def aM3 (n s:Nat) (k:Nat):Option (Step×Nat):=some (.idx k n s,s)
def aJm (D:TEnv τ) (t:TypeId) (ps:List (Nat×TV τ)):Option (TV τ) :=
 match D.E.ty t,D.zero t with
 | some ⟨.struct fields,_,_,_⟩,some z=>bif fields.toList.all (fun f=>(D.E.ty f.type).isSome) then nT D.C (aM2 D fields) z ps else none
 | some ⟨.array n e,_,_,_⟩,some z=>(match D.E.ty e with | some ei=>nT D.C (aM3 n ei.size) z ps | none=>none)
 | _,_=>none
theorem aVY {C:Cod τ} {X X' y:TV τ} {s:Step} {p:List Step} (h:X.upd C (s :: p) y=some X'):X'.isAgg=true:=by
 cases X<;>cases s<;>simp only [TV.upd,reduceCtorEq,cond_eq_ite] at h
 ·split at h
  ·split at h
   ·split at h
    ·cases h; rfl
    ·cases h
   ·cases h
  ·cases h
 ·split at h
  ·split at h
   ·split at h
    ·cases h; rfl
    ·cases h
   ·cases h
  ·cases h
theorem aJn {C:Cod τ} {tp:Nat→Option (Step×Nat)}:∀ (ps:List (Nat×TV τ)) (X X':TV τ),X.isAgg=true→nT C tp X ps=some X'→X'.isAgg=true
 | [],X,X',ha,h=>by simp only [nT,Option.some.injEq] at h; subst h; exact ha
 | (k, x) :: r, X, X', ha, h => by
  simp only [nT] at h
  split at h
  ·rename_i s n hs
   cases hc:(x.size C==n&&s.inb) with
   | false=>rw [hc] at h; cases h
   | true =>
    rw [hc] at h
    simp only [cond_true] at h
    split at h
    ·rename_i X1 hX1
     exact aJn r X1 X' (aVY hX1) h
    ·cases h
  ·cases h
theorem aAg {g:Gh} {l:List AV} {cs:Array Value} (hl:LRel g l cs.toList):VRel g (.agg l) (.agg cs):=.agg (by simpa using hl.1) fun k x c a b=>hl.2 k x c a (by simpa using b)
theorem aCV {g:Gh} {l:List AV} {v:Value} (h:VRel g (.agg l) v):∃ cs:Array Value,v=.agg cs∧LRel g l cs.toList:=by
 cases h with
 | agg e h=>exact ⟨_,rfl,by simpa using e,fun k x c a b=>h k x c a (by simpa using b)⟩
theorem W.agg {l l':List AV} (h:CW l l'):W (.agg l) (.agg l'):=fun g v hv=>by
 obtain ⟨cs,rfl,hl⟩:=aCV hv
 exact aAg (h.lrel hl)
theorem aVZ {D:TEnv τ} (hD:D.Ok) {g:Gh} {t:TypeId} {val:Operand→TV τ} {ρ:Operand→Value} {ps:Array (Nat×Operand)} {r:TV τ} (hv:∀ p∈ps,VRel g ((val p.2).den D.C) (ρ p.2))
  (h:aJm D t (ps.toList.map fun p=>(p.1,val p.2))=some r) (w:World) :
  ∃ v,(Instr.build t (ps.map fun (i,x)=>(i,ρ x))).run D.E.P w=.ok v w∧VRel g (r.den D.C) v:=by
 have fin:∀ {cells:List AV},xS D.E t (ps.toList.map fun p=>(p.1,(val p.2).den D.C))=some (.agg cells)→CW cells (r.cells D.C)→r.isAgg=true →
   ∃ v,(Instr.build t (ps.map fun (i,x)=>(i,ρ x))).run D.E.P w=.ok v w∧VRel g (r.den D.C) v:=fun {cells} hb hw ha=>by
  obtain ⟨v,h1,h2⟩:=aQh hD.E (val:=fun x=>(val x).den D.C) (ρ:=ρ) hv hb w
  exact ⟨v,h1,by rw [sL D.C ha]; exact W.agg hw g v h2⟩
 have hmap:(ps.toList.map fun p=>(p.1,val p.2)).map (fun p=>(p.1,p.2.den D.C))=ps.toList.map fun p=>(p.1,(val p.2).den D.C):=by simp
 unfold aJm at h
 split at h
 ·rename_i fields s b z0 z ht hz
  cases hc:fields.toList.all (fun f=>(D.E.ty f.type).isSome) with
  | false=>rw [hc] at h; cases h
  | true =>
   rw [hc] at h
   simp only [cond_true] at h
   obtain ⟨i,hi,_,hcw,hagg⟩:=hD.zero t z hz
   rw [ht] at hi; cases hi
   obtain ⟨r',k1,k2⟩:=aJl hD.C (place:=fun i=>fields[i]?.bind fun f=>(D.E.ty f.type).map fun fi=>(f.offset,fi.size)) (fun k s n hs=>by
    unfold aM2 at hs
    split at hs
    ·rename_i f hf
     split at hs
     ·rename_i fi hfi
      simp only [Option.some.injEq,Prod.mk.injEq] at hs
      obtain ⟨rfl,rfl⟩:=hs
      simp [hf,hfi,Step.off]
     ·cases hs
    ·cases hs) _ z r z0 hcw h
   rw [hmap] at k1
   refine fin ?_ k2 (aJn _ _ _ (by rw [hagg]; rfl) h)
   unfold xS
   simp only [ht]
   rw [if_pos (by rw [← Array.all_toList]; exact hc),k1]; rfl
 ·rename_i n e s b z0 z ht hz
  split at h
  ·rename_i ei he
   obtain ⟨i,hi,_,hcw,hagg⟩:=hD.zero t z hz
   rw [ht] at hi; cases hi
   obtain ⟨r',k1,k2⟩:=aJl hD.C (place:=fun i=>some (i * ei.size,ei.size)) (fun k s n hs=>by
    simp only [aM3,Option.some.injEq,Prod.mk.injEq] at hs
    obtain ⟨rfl,rfl⟩:=hs
    rfl) _ z r z0 hcw h
   rw [hmap] at k1
   refine fin ?_ k2 (aJn _ _ _ (by rw [hagg]; rfl) h)
   unfold xS
   simp only [ht,he,k1]; rfl
  ·cases h
 ·cases h
def decs (C:Cod τ) (e:Nat):List (TV τ)→Option (List (τ e))
 | []=>some []
 | x :: r => match C.dec e x, decs C e r with
  | some a,some l=>some (a :: l)
  | _,_=>none
theorem aCW {C:Cod τ} (hC:C.Ok) {e:Nat}:∀ (l:List (TV τ)) (r:List (τ e)),decs C e l=some r →
  (l.map (TV.den C)).mapM AV.cells?=some (l.map (TV.cells C))∧l.length=r.length∧(∀ (i:Nat) (a b:List AV),(l.map (TV.cells C))[i]?=some a→(r.map (C.cel e))[i]?=some b→CW a b)∧∀ x∈l,(x.cells C).length=C.sz e
 | [],r,h=>by simp only [decs,Option.some.injEq] at h; subst h; simp
 | x :: l, r, h => by
  simp only [decs] at h
  split at h
  ·rename_i a l' ha hl
   simp only [Option.some.injEq] at h; subst h
   obtain ⟨h1,h2,h3,h4⟩:=aCW hC l l' hl
   refine ⟨by simp [vX C (hC.decok e x a ha),h1],by simp [h2],fun i p q hp hq=>?_,fun y hy=>?_⟩
   ·cases i with
    | zero=>simp at hp hq; subst hp; subst hq; exact hC.dec e x a ha
    | succ i=>exact h3 i p q (by simpa using hp) (by simpa using hq)
   ·simp at hy
    rcases hy with rfl | hy
    ·rw [(hC.dec e y a ha).1,hC.len]
    ·exact h4 y hy
  ·cases h
def cT (e q:Nat):Nat:=e+q
theorem aM4 (e:Nat):cT e 0=e:=rfl
def aCX (D:TEnv τ) (e ce len:Nat) (ps:List (Nat×TV τ)):Option (TV τ) :=
  match D.E.ty e,decs D.C ce (ps.map (·.2)) with
  | some ei,some l=>bif (ps.map (·.1)==List.range len)&&D.C.sz ce==ei.size&&Nat.ble (len * ei.size) 16777216 then some (.sl ce l .full) else none
  | _,_=>none
def nU (D:TEnv τ) (t:TypeId) (len:Nat) (q:Nat) (ps:List (Nat×TV τ)):Option (TV τ) :=
 match D.E.ty t with
 | some ⟨.slice e,_,_,_⟩=>aCX D e (cT e q) len ps
 | _=>none
theorem aM5 {D:TEnv τ} (hD:D.Ok) {g:Gh} {H:Nat→Ent} {w:World} (hW:WRel g H w) {t:TypeId} {len:Nat} {val:Operand→TV τ} {ρ:Operand→Value} {q:Nat} {ps:Array (Nat×Operand)} {r:TV τ}
  (hv:∀ p∈ps,VRel g ((val p.2).den D.C) (ρ p.2)) (h:nU D t len q (ps.toList.map fun p=>(p.1,val p.2))=some r) :
  ∃ v w' g',(Instr.buildSlice t len (ps.map fun (i,x)=>(i,ρ x))).run D.E.P w=.ok v w'∧VRel g' (r.den D.C) v∧Evo g H w g' H w':=by
 unfold nU at h
 split at h
 ·rename_i e s b z ht
  generalize cT e q=ce at h
  unfold aCX at h
  split at h
  ·rename_i ei l he hl
   cases hc:(((ps.toList.map fun p=>(p.1,val p.2)).map (·.1)==List.range len)&&D.C.sz ce==ei.size&&Nat.ble (len * ei.size) 16777216) with
   | false=>rw [hc] at h; cases h
   | true =>
    rw [hc] at h
    simp only [cond_true,Option.some.injEq] at h
    subst h
    simp only [Bool.and_eq_true,beq_iff_eq] at hc
    obtain ⟨⟨c1,c2⟩,c3⟩:=hc
    have c3':len * ei.size≤2 ^ 24:=Nat.le_of_ble_eq_true c3
    obtain ⟨h1,h2,h3,h4⟩:=aCW hD.C _ _ hl
    have:iT D.E t len (ps.toList.map fun p=>(p.1,(val p.2).den D.C))=some (.sl ei.size (((ps.toList.map fun p=>(p.1,val p.2)).map (·.2)).map (TV.cells D.C)) .full):=by
     unfold iT
     have e1:(ps.toList.map fun p=>(p.1,(val p.2).den D.C)).map (·.2)=((ps.toList.map fun p=>(p.1,val p.2)).map (·.2)).map (TV.den D.C):=by simp
     have e2:(ps.toList.map fun p=>(p.1,(val p.2).den D.C)).map (·.1)=(ps.toList.map fun p=>(p.1,val p.2)).map (·.1):=by simp
     simp only [ht,he,e1,h1,e2]
     have hall:((((ps.toList.map fun p=>(p.1,val p.2)).map (·.2)).map (TV.cells D.C)).all fun x=>x.length==ei.size)=true:=List.all_eq_true.2 fun x hx=>by
      obtain ⟨y,hy,rfl⟩:=List.mem_map.1 hx
      simp only [h4 y hy,c2,beq_self_eq_true]
     rw [if_pos ⟨c1,hall,c3'⟩]
    obtain ⟨v,w',g',k1,k2,k3⟩:=aLK hD.E hW (val:=fun x=>(val x).den D.C) (ρ:=ρ) hv this
    refine ⟨v,w',g',k1,?_,k3⟩
    simp only [TV.den,cW,c2]
    refine W.sl (by simpa using h2) (fun i a b ha hb=>h3 i a b ha hb) g' v k2
  ·cases h
 ·cases h
def aJo (D:TEnv τ) (t:TypeId) (len:Nat) (ps:List (Nat×TV τ)):Option (TV τ) :=
 match D.E.ty t with
 | some ⟨.slice e, _, _, _⟩ =>
  match D.E.ty e with
  | some ei=>bif (ps.map (·.1)==List.range len)&&((ps.map (·.2)).all fun x=>x.ok&&x.size D.C==ei.size)&&Nat.ble (len * ei.size) 16777216 then some (.ls ei.size (ps.map (·.2))) else none
  | _=>none
 | _=>none
theorem aV0 {D:TEnv τ} (hD:D.Ok) {g:Gh} {H:Nat→Ent} {w:World} (hW:WRel g H w) {t:TypeId} {len:Nat} {val:Operand→TV τ} {ρ:Operand→Value} {ps:Array (Nat×Operand)} {r:TV τ}
  (hv:∀ p∈ps,VRel g ((val p.2).den D.C) (ρ p.2)) (h:aJo D t len (ps.toList.map fun p=>(p.1,val p.2))=some r) :
  ∃ v w' g',(Instr.buildSlice t len (ps.map fun (i,x)=>(i,ρ x))).run D.E.P w=.ok v w'∧VRel g' (r.den D.C) v∧Evo g H w g' H w':=by
 unfold aJo at h
 split at h
 ·rename_i e s b z ht
  split at h
  ·rename_i ei he
   cases hc:(((ps.toList.map fun p=>(p.1,val p.2)).map (·.1)==List.range len)&&(((ps.toList.map fun p=>(p.1,val p.2)).map (·.2)).all fun x=>x.ok&&x.size D.C==ei.size)&&Nat.ble (len * ei.size) 16777216) with
   | false=>rw [hc] at h; cases h
   | true =>
    rw [hc] at h
    simp only [cond_true,Option.some.injEq] at h
    subst h
    simp only [Bool.and_eq_true,beq_iff_eq] at hc
    obtain ⟨⟨c1,c2⟩,c3⟩:=hc
    have c3':len * ei.size≤2 ^ 24:=Nat.le_of_ble_eq_true c3
    have hall:∀ x∈(ps.toList.map fun p=>(p.1,val p.2)).map (·.2),x.ok=true∧x.size D.C=ei.size:=fun x hx=>by
     have:=List.all_eq_true.1 c2 x hx
     simpa using this
    have hmm:∀ l:List (TV τ),(∀ x∈l,x.ok=true)→(l.map (TV.den D.C)).mapM AV.cells?=some (l.map (TV.cells D.C)):=fun l=>by
     induction l with
     | nil=>intro _; rfl
     | cons x l ih =>
      intro hl
      rw [List.map_cons,List.mapM_cons,vX D.C (hl x (by simp)),ih fun y hy=>hl y (by simp [hy])]
      rfl
    have h1:=hmm _ fun x hx=>(hall x hx).1
    have:iT D.E t len (ps.toList.map fun p=>(p.1,(val p.2).den D.C))=some (.sl ei.size (((ps.toList.map fun p=>(p.1,val p.2)).map (·.2)).map (TV.cells D.C)) .full):=by
     unfold iT
     have e1:(ps.toList.map fun p=>(p.1,(val p.2).den D.C)).map (·.2)=((ps.toList.map fun p=>(p.1,val p.2)).map (·.2)).map (TV.den D.C):=by simp
     have e2:(ps.toList.map fun p=>(p.1,(val p.2).den D.C)).map (·.1)=(ps.toList.map fun p=>(p.1,val p.2)).map (·.1):=by simp
     simp only [ht,he,e1,h1,e2]
     have hall':((((ps.toList.map fun p=>(p.1,val p.2)).map (·.2)).map (TV.cells D.C)).all fun x=>x.length==ei.size)=true:=List.all_eq_true.2 fun x hx=>by
      obtain ⟨y,hy,rfl⟩:=List.mem_map.1 hx
      simp only [dO hD.C,(hall y hy).2,beq_self_eq_true]
     rw [if_pos ⟨c1,hall',c3'⟩]
    obtain ⟨v,w',g',k1,k2,k3⟩:=aLK hD.E hW (val:=fun x=>(val x).den D.C) (ρ:=ρ) hv this
    refine ⟨v,w',g',k1,?_,k3⟩
    simp only [TV.den,aAe]
    exact k2
  ·cases h
 ·cases h
theorem aV1 {D:TEnv τ} (hD:D.Ok) {g:Gh} {H:Nat→Ent} {w:World} (hW:WRel g H w) {n:Nat} (hn:H n=.unborn) {e':Nat} {l':List (τ e')} {t:TypeId} {len:Nat} {val:Operand→TV τ} {ρ:Operand→Value} {ps:Array (Nat×Operand)} 
  (hv:∀ p∈ps,VRel g ((val p.2).den D.C) (ρ p.2)) (h:nU D t len 0 (ps.toList.map fun p=>(p.1,val p.2))=some (.sl e' l' .full)) :
  ∃ v w' g',(Instr.buildSlice t len (ps.map fun (i,x)=>(i,ρ x))).run D.E.P w=.ok v w'∧VRel g' (cW D.C e' l' (.tl n)) v∧Evo g H w g' (upd H n .tail) w':=by
 unfold nU at h
 simp only [aM4,aCX] at h
 split at h
 ·rename_i e s b z ht
  split at h
  ·rename_i ei l he hl
   cases hc:(((ps.toList.map fun p=>(p.1,val p.2)).map (·.1)==List.range len)&&D.C.sz e==ei.size&&Nat.ble (len * ei.size) 16777216) with
   | false=>rw [hc] at h; cases h
   | true =>
    rw [hc] at h
    simp only [cond_true,Option.some.injEq] at h
    cases h
    simp only [Bool.and_eq_true,beq_iff_eq] at hc
    obtain ⟨⟨c1,c2⟩,c3⟩:=hc
    have c3':len * ei.size≤2 ^ 24:=Nat.le_of_ble_eq_true c3
    obtain ⟨h1,h2,h3,h4⟩:=aCW hD.C _ _ hl
    have:iT D.E t len (ps.toList.map fun p=>(p.1,(val p.2).den D.C))=some (.sl ei.size (((ps.toList.map fun p=>(p.1,val p.2)).map (·.2)).map (TV.cells D.C)) .full):=by
     unfold iT
     have e1:(ps.toList.map fun p=>(p.1,(val p.2).den D.C)).map (·.2)=((ps.toList.map fun p=>(p.1,val p.2)).map (·.2)).map (TV.den D.C):=by simp
     have e2:(ps.toList.map fun p=>(p.1,(val p.2).den D.C)).map (·.1)=(ps.toList.map fun p=>(p.1,val p.2)).map (·.1):=by simp
     simp only [ht,he,e1,h1,e2]
     have hall:((((ps.toList.map fun p=>(p.1,val p.2)).map (·.2)).map (TV.cells D.C)).all fun x=>x.length==ei.size)=true:=List.all_eq_true.2 fun x hx=>by
      obtain ⟨y,hy,rfl⟩:=List.mem_map.1 hx
      simp only [h4 y hy,c2,beq_self_eq_true]
     rw [if_pos ⟨c1,hall,c3'⟩]
    obtain ⟨v,w',g',k1,⟨sz,xs,k0,k2⟩,k3⟩:=aQi hD.E hW hn (val:=fun x=>(val x).den D.C) (ρ:=ρ) hv this
    refine ⟨v,w',g',k1,?_,k3⟩
    cases k0
    simp only [cW,c2]
    refine W.sl (by simpa using h2) (fun i a b ha hb=>h3 i a b ha hb) g' v k2
  ·cases h
 ·cases h
theorem CW.flat:∀ (xs ys:List (List AV)),xs.length=ys.length→(∀ (i:Nat) (a b:List AV),xs[i]?=some a→ys[i]?=some b→CW a b)→CW xs.flatten ys.flatten
 | [],[],_,_=>.refl []
 | x :: xs, y :: ys, h, h' => by
  rw [List.flatten_cons,List.flatten_cons]
  exact (h' 0 x y rfl rfl).append (CW.flat xs ys (by simpa using h) fun i a b ha hb=>h' (i+1) a b (by simpa using ha) (by simpa using hb))
theorem aV2 {D:TEnv τ} (hD:D.Ok) {g:Gh} {H:Nat→Ent} {w:World} (hW:WRel g H w) {n:Nat} (hn:H n=.unborn) {e':Nat} {l':List (τ e')} {t:TypeId} {len:Nat} {val:Operand→TV τ} {ρ:Operand→Value} {ps:Array (Nat×Operand)} 
  (hv:∀ p∈ps,VRel g ((val p.2).den D.C) (ρ p.2)) (h:nU D t len 0 (ps.toList.map fun p=>(p.1,val p.2))=some (.sl e' l' .full)) :
  ∃ v w' g',(Instr.buildSlice t len (ps.map fun (i,x)=>(i,ρ x))).run D.E.P w=.ok v w'∧VRel g' (.bsl n 0 l'.length (D.C.sz e')) v∧Evo g H w g' (upd H n (.gbx (l'.flatMap (D.C.cel e')))) w':=by
 unfold nU at h
 simp only [aM4,aCX] at h
 split at h
 ·rename_i e s b z ht
  split at h
  ·rename_i ei l he hl
   cases hc:(((ps.toList.map fun p=>(p.1,val p.2)).map (·.1)==List.range len)&&D.C.sz e==ei.size&&Nat.ble (len * ei.size) 16777216) with
   | false=>rw [hc] at h; cases h
   | true =>
    rw [hc] at h
    simp only [cond_true,Option.some.injEq] at h
    cases h
    simp only [Bool.and_eq_true,beq_iff_eq] at hc
    obtain ⟨⟨c1,c2⟩,c3⟩:=hc
    have c3':len * ei.size≤2 ^ 24:=Nat.le_of_ble_eq_true c3
    obtain ⟨h1,h2,h3,h4⟩:=aCW hD.C _ _ hl
    have:iT D.E t len (ps.toList.map fun p=>(p.1,(val p.2).den D.C))=some (.sl ei.size (((ps.toList.map fun p=>(p.1,val p.2)).map (·.2)).map (TV.cells D.C)) .full):=by
     unfold iT
     have e1:(ps.toList.map fun p=>(p.1,(val p.2).den D.C)).map (·.2)=((ps.toList.map fun p=>(p.1,val p.2)).map (·.2)).map (TV.den D.C):=by simp
     have e2:(ps.toList.map fun p=>(p.1,(val p.2).den D.C)).map (·.1)=(ps.toList.map fun p=>(p.1,val p.2)).map (·.1):=by simp
     simp only [ht,he,e1,h1,e2]
     have hall:((((ps.toList.map fun p=>(p.1,val p.2)).map (·.2)).map (TV.cells D.C)).all fun x=>x.length==ei.size)=true:=List.all_eq_true.2 fun x hx=>by
      obtain ⟨y,hy,rfl⟩:=List.mem_map.1 hx
      simp only [h4 y hy,c2,beq_self_eq_true]
     rw [if_pos ⟨c1,hall,c3'⟩]
    obtain ⟨v,w',g',sz,xs,k1,k0,k2,k3⟩:=aQj hD.E hW hn (val:=fun x=>(val x).den D.C) (ρ:=ρ) hv this
    cases k0
    have hll:(((ps.toList.map fun p=>(p.1,val p.2)).map (·.2)).map (TV.cells D.C)).length=l'.length:=by simpa using h2
    rw [hll] at k2
    refine ⟨v,w',g',k1,by rw [c2]; exact k2,?_⟩
    have hcw:CW (((ps.toList.map fun p=>(p.1,val p.2)).map (·.2)).map (TV.cells D.C)).flatten (l'.flatMap (D.C.cel e')):=by
     rw [show l'.flatMap (D.C.cel e')=(l'.map (D.C.cel e')).flatten by rw [List.flatMap]]
     exact CW.flat _ _ (by simpa using h2) (fun i a b ha hb=>h3 i a b ha hb)
    have:=Evo.weakG k3.rel (id:=n) (aR _ _ _) hcw
    have e3:upd (upd H n (.gbx (((ps.toList.map fun p=>(p.1,val p.2)).map (·.2)).map (TV.cells D.C)).flatten)) n (.gbx (l'.flatMap (D.C.cel e')))=upd H n (.gbx (l'.flatMap (D.C.cel e'))):=by
     funext j
     by_cases hj:j=n
     ·subst hj; rw [aR,aR]
     ·rw [aJ _ _ hj,aJ _ _ hj,aJ _ _ hj]
    rw [e3] at this
    exact k3.trans this
  ·cases h
 ·cases h
def aM6 (D:TEnv τ) (n:Nat) (t:TypeId) (len:Nat) (ps:List (Nat×TV τ)):Option (bG τ) :=
 match nU D t len 0 ps with
 | some (.sl e (x :: l) .full)=>bif (match D.E.ty e with | some i=>i.agg | none=>false) then some { r:=.msl e n (x :: l).length,U:=[(n,.gbx e (x :: l))],F:=[n] } else none
 | _=>none
def tInt (op:BinOp) (k:IntKind) (a:Int) (k':IntKind) (b:Int):Option (bG τ) :=
 match op with
 | .shl=>some { r:=.int k (shl k a b),ob:=some (decide (0≤b)) }
 | .shr=>some { r:=.int k (shr k a b),ob:=some (decide (0≤b)) }
 | .add=>bif IntKind.eqb k k' then some { r:=.int k (k.wrap (a+b)) } else none
 | .sub=>bif IntKind.eqb k k' then some { r:=.int k (k.wrap (a - b)) } else none
 | .mul=>bif IntKind.eqb k k' then some { r:=.int k (k.wrap (a * b)) } else none
 | .quo=>bif IntKind.eqb k k' then some { r:=.int k (k.wrap (a.tdiv b)),ob:=some (!(b==0)) } else none
 | .rem=>bif IntKind.eqb k k' then some { r:=.int k (a.tmod b),ob:=some (!(b==0)) } else none
 | .and=>bif IntKind.eqb k k' then some { r:=.int k (bits .and k a b) } else none
 | .or=>bif IntKind.eqb k k' then some { r:=.int k (bits .or k a b) } else none
 | .xor=>bif IntKind.eqb k k' then some { r:=.int k (bits .xor k a b) } else none
 | .andNot=>bif IntKind.eqb k k' then some { r:=.int k (bits .andNot k a b) } else none
 | .eql=>bif IntKind.eqb k k' then some { r:=.bool (a==b) } else none
 | .neq=>bif IntKind.eqb k k' then some { r:=.bool (!(a==b)) } else none
 | .lss=>bif IntKind.eqb k k' then some { r:=.bool (decide (a < b)) } else none
 | .leq=>bif IntKind.eqb k k' then some { r:=.bool (decide (a≤b)) } else none
 | .gtr=>bif IntKind.eqb k k' then some { r:=.bool (decide (b < a)) } else none
 | .geq=>bif IntKind.eqb k k' then some { r:=.bool (decide (b≤a)) } else none
theorem aV3 {op:BinOp} {k k':IntKind} {a b:Int} {res:bG τ} (h:tInt op k a k' b=some res) (hob:res.ob=none∨res.ob=some true) (C:Cod τ) :
  res.U=[]∧∃ x p,pC op (.int k a) (.int k' b)=some (x,p)∧p∧res.r.den C=.v x:=by
 by_cases hk:IntKind.eqb k k'=true
 ·have:=IntKind.eqb_eq hk; subst this
  cases op<;>simp only [tInt,hk,cond_true,Option.some.injEq] at h<;>subst h<;>refine ⟨rfl,?_⟩<;>simp only [pC,if_true]<;>first
   | exact ⟨_,_,rfl,trivial,rfl⟩
   | (refine ⟨_,_,rfl,?_,rfl⟩; simpa using hob)
 ·have hk':IntKind.eqb k k'=false:=by simpa using hk
  cases op<;>simp only [tInt,hk',cond_false,reduceCtorEq,Option.some.injEq] at h<;>subst h<;>refine ⟨rfl,?_⟩<;>simp only [pC] <;>
   (refine ⟨_,_,rfl,?_,rfl⟩; simpa using hob)
def tNil:TV τ→Option (Nat×Bool)
 | .nil .ptr=>some (0,true)
 | .ptr _ _ | .ipt _=>some (0,false)
 | .nil .slice=>some (1,true)
 | .sl _ _ .non | .sl _ _ .nn | .sl _ _ (.tl _) | .sl _ _ .full | .ls _ _=>some (1,false)
 | .nil .func=>some (2,true)
 | .fn _ _=>some (2,false)
 | _=>none
def tEq (D:TEnv τ) (t:TypeId) (x y:TV τ):Option Bool :=
 match D.E.eqk t with
 | some ks=>bif x.isAgg&&y.isAgg&&(x.kds D.C).any (fun ks'=>ks'==ks) then x.teq D.C y else none
 | none =>
  match x,y with
  | .bool a,.bool b=>(match D.E.ty t with | some ⟨.bool,_,_,_⟩=>some (a==b) | _=>none)
  | x, y => match D.E.ty t, tNil x, tNil y with
   | some ⟨.pointer _,_,_,_⟩,some (0,a),some (0,b)=>bif a || b then some (a&&b) else none
   | some ⟨.slice _,_,_,_⟩,some (1,a),some (1,b)=>bif a || b then some (a&&b) else none
   | some ⟨.func _ _ _,_,_,_⟩,some (2,a),some (2,b)=>bif a || b then some (a&&b) else none
   | _,_,_=>none
theorem aM7 {C:Cod τ} {g:Gh} {x:TV τ} {v:Value} (hx:VRel g (x.den C) v) {n:Nat} {b:Bool} (h:tNil x=some (n,b)) :
  ∃ x',VRel g x' v∧rH x'=some (n,b)∧x'.cells?≠none∧(∀ k a,x'≠.v (.int k a))∧(∀ s,x'≠.v (.string s)):=by
 unfold tNil at h
 split at h<;>first
  | (cases h; done)
  | (cases h; exact ⟨_,hx,rfl,by simp [TV.den,NilK.val,AV.cells?,cW],by simp [TV.den,NilK.val,cW],by simp [TV.den,NilK.val,cW]⟩)
  | (cases h; exact ⟨_,(kO hx).2,rfl,by simp [AV.cells?],by simp,by simp⟩)
theorem aCY {E:Env} {op:BinOp} {t:TypeId} {x y:AV} (hx:(∀ k a,x≠.v (.int k a))∧(∀ s,x≠.v (.string s))) : 
  tX E op t x y=match op with
  | .eql=>(iV E t x y).map fun b=>{ r:=.v (.bool b) }
  | .neq=>(iV E t x y).map fun b=>{ r:=.v (.bool !b) }
  | _=>none:=by
 unfold tX
 split
 ·exact absurd rfl (hx.1 _ _)
 ·exact absurd rfl (hx.2 _)
 ·rfl
def tBin (D:TEnv τ) (op:BinOp) (t:TypeId) (x y:TV τ):Option (bG τ) :=
 match x,y with
 | .int k a,.int k' b=>tInt op k a k' b
 | .str a,.str b=>(match op with | .eql=>some { r:=.bool (a==b) } | .neq=>some { r:=.bool (!(a==b)) } | .lss=>some { r:=.bool (ltS a b) } | .leq=>some { r:=.bool (ltS a b || a==b) } | .gtr=>some { r:=.bool (!(ltS a b || a==b)) } | .geq=>some { r:=.bool (!(ltS a b)) } | _=>none)
 | x, y => match op with
  | .eql=>(match tEq D t x y with | some b=>some { r:=.bool b } | none=>none)
  | .neq=>(match tEq D t x y with | some b=>some { r:=.bool (!b) } | none=>none)
  | _=>none
theorem aM8 {D:TEnv τ} (hD:D.Ok) {g:Gh} {t:TypeId} {x y:TV τ} {vx vy:Value} (hx:VRel g (x.den D.C) vx) (hy:VRel g (y.den D.C) vy) {b:Bool} (h:tEq D t x y=some b) :
  ∃ x' y',VRel g x' vx∧VRel g y' vy∧iV D.E t x' y'=some b∧(∀ k a,x'≠.v (.int k a))∧(∀ s,x'≠.v (.string s)):=by
 unfold tEq at h
 split at h
 ·rename_i ks hks
  cases hc:(x.isAgg&&y.isAgg&&(x.kds D.C).any (fun ks'=>ks'==ks)) with
  | false=>rw [hc] at h; cases h
  | true =>
   rw [hc] at h
   simp only [cond_true] at h
   simp only [Bool.and_eq_true,Option.any_eq_true,beq_iff_eq] at hc
   obtain ⟨⟨c1,c2⟩,ks',c3,rfl⟩:=hc
   have:=aMZ hD.C x y ks' b c3 h
   rw [sL D.C c1] at hx
   rw [sL D.C c2] at hy
   exact ⟨_,_,hx,hy,by unfold iV; simp only [hks,AV.cells?]; exact this,by simp,by simp⟩
 ·rename_i hks
  split at h
  ·rename_i a b'
   split at h
   ·rename_i s b0 z ht
    cases h
    exact ⟨_,_,hx,hy,by unfold iV; simp only [hks,ht,TV.den],by simp [TV.den],by simp [TV.den]⟩
   ·cases h
  ·split at h<;>first
    | (cases h; done)
    | skip
   all_goals
    rename_i a b' ht hnx hny
    cases hab:(a || b') with
    | false=>rw [hab] at h; cases h
    | true =>
     rw [hab] at h
     simp only [cond_true,Option.some.injEq] at h
     subst h
     obtain ⟨x',x1,x2,x3,x4,x5⟩:=aM7 hx hnx
     obtain ⟨y',y1,y2,y3,y4,y5⟩:=aM7 hy hny
     refine ⟨x',y',x1,y1,?_,x4,x5⟩
     unfold iV
     simp only [hks,ht,x2,y2,hab,if_true]
theorem aV4 {D:TEnv τ} (hD:D.Ok) {g:Gh} {t:TypeId} {op:BinOp} {x y:TV τ} {vx vy:Value} (hx:VRel g (x.den D.C) vx) (hy:VRel g (y.den D.C) vy) {res:bG τ} (h:tBin D op t x y=some res)
  (hob:res.ob=none∨res.ob=some true) (ox oy:Operand) (w:World) :
  ∃ v,(do eqGuard op t ox oy vx vy; binOp op t vx vy:Sem Value).run D.E.P w=.ok v w∧VRel g (res.r.den D.C) v∧res.U=[]:=by
 unfold tBin at h
 split at h
 ·rename_i k a k' b
  obtain ⟨hU,z,p,h1,h2,h3⟩:=aV3 h hob D.C
  obtain ⟨v,k1,k2,_⟩:=tZ hD.E hD.Q (t:=t) (op:=op) (show VRel g (.v (.int k a)) vx from hx) (show VRel g (.v (.int k' b)) vy from hy) (res:={ r:=.v z,ob:=p }) (by unfold tX; simp only [h1]; rfl) h2 ox oy w
  exact ⟨v,k1,by rw [h3]; exact k2,hU⟩
 ·rename_i a b
  have key:∀ z,pC op (.string ⟨⟨a⟩⟩) (.string ⟨⟨b⟩⟩)=some (z,True)→res.r.den D.C=.v z→res.U=[]→∃ v,(do eqGuard op t ox oy vx vy; binOp op t vx vy:Sem Value).run D.E.P w=.ok v w∧VRel g (res.r.den D.C) v∧res.U=[]:=fun z h1 h3 hU=>by
   obtain ⟨v,k1,k2,_⟩:=tZ hD.E hD.Q (t:=t) (op:=op) (show VRel g (.v (.string ⟨⟨a⟩⟩)) vx from hx) (show VRel g (.v (.string ⟨⟨b⟩⟩)) vy from hy) (res:={ r:=.v z,ob:=True }) (by unfold tX; simp only [h1]; rfl) trivial ox oy w
   exact ⟨v,k1,by rw [h3]; exact k2,hU⟩
  split at h
  ·cases h; exact key _ rfl rfl rfl
  ·cases h; exact key _ rfl rfl rfl
  ·cases h; exact key _ rfl rfl rfl
  ·cases h; exact key _ rfl rfl rfl
  ·cases h; exact key _ rfl rfl rfl
  ·cases h; exact key _ rfl rfl rfl
  ·cases h
 ·split at h
  ·split at h
   ·rename_i b hb
    cases h
    obtain ⟨x',y',e1,e2,e3,e4,e5⟩:=aM8 hD hx hy hb
    obtain ⟨v,k1,k2,_⟩:=tZ hD.E hD.Q (t:=t) (op:=.eql) e1 e2 (res:={ r:=.v (.bool b) }) (by rw [aCY ⟨e4,e5⟩]; simp only [e3]; rfl) trivial ox oy w
    exact ⟨v,k1,k2,rfl⟩
   ·cases h
  ·split at h
   ·rename_i b hb
    cases h
    obtain ⟨x',y',e1,e2,e3,e4,e5⟩:=aM8 hD hx hy hb
    obtain ⟨v,k1,k2,_⟩:=tZ hD.E hD.Q (t:=t) (op:=.neq) e1 e2 (res:={ r:=.v (.bool !b) }) (by rw [aCY ⟨e4,e5⟩]; simp only [e3]; rfl) trivial ox oy w
    exact ⟨v,k1,k2,rfl⟩
   ·cases h
  ·cases h
def tUn (op:UnOp) (x:TV τ):Option (TV τ) :=
 match op,x with
 | .neg,.int k n=>some (.int k (k.wrap (0 - n)))
 | .xor,.int k n=>some (.int k (bits .xor k (if k.signed then -1 else k.max) n))
 | .not,.bool b=>some (.bool !b)
 | _,_=>none
theorem aV5 {C:Cod τ} {P:Program} {g:Gh} {op:UnOp} {x r:TV τ} {vx:Value} (hx:VRel g (x.den C) vx) (h:tUn op x=some r) (w:World):∃ v,(Op.unary op vx).run P w=.ok v w∧VRel g (r.den C) v:=by
 unfold tUn at h
 split at h
 ·cases h; cases hx; exact ⟨_,aE2 rfl w,.v _⟩
 ·cases h; cases hx; exact ⟨_,aE2 rfl w,.v _⟩
 ·cases h; cases hx; exact ⟨_,aE2 rfl w,.v _⟩
 ·cases h
end
end Go.Ev
