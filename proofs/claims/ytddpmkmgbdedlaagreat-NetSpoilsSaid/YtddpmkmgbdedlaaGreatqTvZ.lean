/-
Members of the pool,lent to an operation for a while; boxes that come to the pool; members that are fixed.
-/
import Derived.Test.YtddpmkmgbdedlaaGreatqTvN
set_option linter.unusedVariables false
set_option linter.unusedSimpArgs false
namespace Go.Ev
open Go
theorem aKo {sz:Nat}:∀ (elems:List (List AV)) (rest:List AV) (i k:Nat) (cs:List AV) (x:AV),(∀ cs∈elems,cs.length=sz)→elems[i]?=some cs→cs[k]?=some x→(elems.flatten++rest)[i * sz+k]?=some x
 | [],_,i,k,cs,x,_,h,_=>by simp at h
 | e :: r, rest, 0, k, cs, x, hs, h, hx => by
  simp only [List.getElem?_cons_zero,Option.some.injEq] at h
  subst h
  have hk:k < e.length:=(List.getElem?_eq_some_iff.1 hx).1
  rw [List.flatten_cons,List.append_assoc,Nat.zero_mul,Nat.zero_add,List.getElem?_append_left hk]
  exact hx
 | e :: r, rest, i + 1, k, cs, x, hs, h, hx => by
  have he:e.length=sz:=hs e (by simp)
  have:=aKo r rest i k cs x (fun c hc=>hs c (List.mem_cons_of_mem _ hc)) (by simpa using h) hx
  rw [List.flatten_cons,List.append_assoc,List.getElem?_append_right (by rw [he,Nat.succ_mul]; omega)]
  rw [← this]
  congr 1
  rw [he,Nat.succ_mul]; omega
theorem Evo.swap {g:Gh} {H H2:Nat→Ent} {w:World} {g':Gh} {H':Nat→Ent} {w':World} (hl:∀ k,(H2 k).live→(H k).live) (h:Evo g H2 w g' H' w'):Evo g H w g' H' w':=by
 have hm:∀ b o,MutOf g H2 b o→MutOf g H b o:=fun b o ⟨id,lo,n,h1,h2,h3⟩=>⟨id,lo,n,hl id h1,h2,h3⟩
 refine ⟨h.le,h.rel,h.fr.mono fun b o _ hx=>hm b o hx,fun b o v e=>?_,fun id b lo n hlv e=>?_⟩
 ·rcases h.grow b o v e with h1 | h1 | h1
  ·exact .inl h1
  ·exact .inr (.inl h1)
  ·exact .inr (.inr (hm b o h1))
 ·rcases h.own id b lo n hlv e with h1 | ⟨a1,a2,a3,h1,h2⟩
  ·exact .inl h1
  ·exact .inr ⟨a1,a2,a3,hl a1 h1,h2⟩
theorem aXD {α:Type} {cel:α→List AV} {sz:Nat}:∀ (l:List α) (i k:Nat) (a:α) (x:AV),(∀ a∈l,(cel a).length=sz)→l[i]?=some a→(cel a)[k]?=some x→(l.flatMap cel)[i * sz+k]?=some x:=fun l i k a x hs hi hk=>by
 have:=aKo (sz:=sz) (l.map cel) [] i k (cel a) x (fun cs hcs=>by obtain ⟨b,hb,rfl⟩:=List.mem_map.1 hcs; exact hs b hb) (by rw [List.getElem?_map,hi]; rfl) hk
 rwa [List.append_nil,← List.flatMap_def] at this
theorem Evo.freezeB {g:Gh} {H:Nat→Ent} {w:World} (h:WRel g H w) {id:Nat} {cells:List AV} (hid:H id=.gbx cells) :
  ∃ g',Evo g H w g' (upd H id .dead) w∧∀ b lo m,g.ρ id=some (b,lo,m)→∀ (k:Nat) (x:AV),cells[k]?=some x→∃ c,g'.I b k=some c∧VRel g' x c:=by
 have he:=h.ent id
 rw [hid] at he
 rcases he with ⟨he,h0⟩ | he
 ·refine ⟨g,Evo.noneM h _ fun k=>?_,fun b lo m e=>by rw [he] at e; cases e⟩
  by_cases e:k=id
  ·subst e; rw [aR]; exact .inr (.inl rfl)
  ·rw [aJ _ _ e]; exact .inl rfl
 ·have hw2:WRel g (upd H id (.box cells)) w:=by
   refine ⟨h.imm,fun k=>?_,fun k hk=>?_,fun k k' x x' hne hl hl' a b=>?_⟩
   ·by_cases e:k=id
    ·subst e; rw [aR]; exact he
    ·rw [aJ _ _ e]; exact h.ent k
   ·by_cases e:k=id
    ·subst e; rw [aR] at hk; cases hk
    ·rw [aJ _ _ e] at hk; exact h.fresh k hk
   ·have hlv:∀ j,(upd H id (.box cells) j).live→(H j).live:=fun j hj=>by
     by_cases e:j=id
     ·subst e; rw [hid]; trivial
     ·rw [aJ _ _ e] at hj; exact hj
    exact h.inj k k' x x' hne (hlv k hl) (hlv k' hl') a b
  obtain ⟨g',hev⟩:=Evo.freeze hw2 (aR _ _ _)
  have hev1:=Evo.swap (H:=H) (fun k hk=>by
   by_cases e:k=id
   ·subst e; rw [hid]; trivial
   ·rw [aJ _ _ e] at hk; exact hk) hev
  have hdead:Evo g' (upd (upd H id (.box cells)) id (.ibox cells)) w g' (upd H id .dead) w:=Evo.noneM hev.rel _ fun k=>by
   by_cases e:k=id
   ·subst e; rw [aR]; exact .inr (.inl rfl)
   ·rw [aJ _ _ e,aJ _ _ e,aJ _ _ e]; exact .inl rfl
  refine ⟨g',hev1.trans hdead,fun b lo m e1=>?_⟩
  have hib:=hev.rel.ent id
  rw [aR] at hib
  obtain ⟨b',n',i1,i2⟩:=hib
  have i0:=hev.le.ρ _ _ e1
  rw [i1] at i0
  simp only [Option.some.injEq,Prod.mk.injEq] at i0
  obtain ⟨rfl,rfl,rfl⟩:=i0
  exact i2
theorem Evo.freezeM {g:Gh} {H:Nat→Ent} {w:World} (h:WRel g H w) {α:Type} {cel:α→List AV} {l:List α} {id sz:Nat} (hid:H id=.gbx (l.flatMap cel)) (hs:∀ a∈l,(cel a).length=sz) :
  ∃ g',Evo g H w g' (upd H id .dead) w∧∀ (off n c:Nat) (nn:Bool) (v:Value),off+n≤l.length→VRel g (.wsl id (off * sz) n c nn sz) v→VRel g' (.asl sz (((l.drop off).take n).map cel)) v:=by
 obtain ⟨g',hev,hI⟩:=Evo.freezeB h hid
 refine ⟨g',hev,fun off n c nn v ho hv=>?_⟩
 cases hv with
 | wsl0 h1=>simpa using VRel.asl0
 | @wsl _ _ _ _ _ b lo m cap _ e1 e2 e2' e3 =>
  have key:∀ (i:Nat) (cs:List AV) (k:Nat) (x:AV),(((l.drop off).take n).map cel)[i]?=some cs→cs[k]?=some x→∃ c,g'.I b (off * sz+i * sz+k)=some c∧VRel g' x c:=fun i cs k x hi hk=>by
   simp only [List.getElem?_map,Option.map_eq_some_iff] at hi
   obtain ⟨a,ha,rfl⟩:=hi
   have ha':l[off+i]?=some a:=by
    rw [List.getElem?_take] at ha
    split at ha
    ·rw [List.getElem?_drop] at ha; exact ha
    ·cases ha
   have:=hI b lo m e1 ((off+i) * sz+k) x (aXD l (off+i) k a x hs ha' hk)
   rwa [Nat.add_mul] at this
  refine .asl (.sl (o:=off * sz) (fun i k=>(g'.I b (off * sz+i * sz+k)).getD undef) ?_ (Nat.le_trans e2 e2') (fun i cs hi=>?_) (fun i cs k x hi hk=>?_) (fun i cs k x hi hk=>?_) trivial)
  ·simp; omega
  ·simp only [List.getElem?_map,Option.map_eq_some_iff] at hi
   obtain ⟨a,ha,rfl⟩:=hi
   exact hs a (List.mem_of_mem_drop (List.mem_of_mem_take (List.mem_of_getElem? ha)))
  ·obtain ⟨c,h1,h2⟩:=key i cs k x hi hk
   rw [h1]; rfl
  ·obtain ⟨c,h1,h2⟩:=key i cs k x hi hk
   show VRel g' x ((g'.I b (off * sz+i * sz+k)).getD undef)
   rw [h1]; exact h2
def bO {α:Type}:List (Nat×α)→Nat→Option α
 | [],_=>none
 | (k, e) :: r, i => match bO r i with
  | some x=>some x
  | none=>bif Nat.beq k i then some e else none
def fK {α:Type} (m:Nat):List (Nat×α)→List (Nat×α)
 | []=>[]
 | p :: r=>bif Nat.beq p.1 m then fK m r else p :: fK m r
theorem iL:∀ (U:List (Nat×Ent)) (H:Nat→Ent) (k:Nat),app H U k=match bO U k with | some e=>e | none=>H k
 | [],H,k=>rfl
 | (i, e) :: r, H, k => by
  rw [app,iL r (upd H i e) k]
  simp only [bO]
  cases hl:bO r k with
  | some x=>rfl
  | none =>
   by_cases h:k=i
   ·subst h; simp [aR,Nat.beq_eq_true_eq]
   ·rw [aJ _ _ h]
    have:Nat.beq i k=false:=by
     cases hb:Nat.beq i k with
     | false=>rfl
     | true=>exact absurd (Nat.eq_of_beq_eq_true hb).symm h
    rw [this]; rfl
theorem tH {α:Type}:∀ (U V:List (Nat×α)) (k:Nat),bO (U++V) k=match bO V k with | some e=>some e | none=>bO U k
 | [], V, k => by
  show bO V k=_
  cases bO V k<;>rfl
 | (i, e) :: r, V, k => by
  simp only [List.cons_append,bO,tH r V k]
  cases bO V k<;>rfl
theorem tI {α:Type} {m k:Nat} (h:k≠m):∀ (U:List (Nat×α)),bO (fK m U) k=bO U k
 | []=>rfl
 | (i, e) :: r => by
  simp only [fK]
  cases hb:Nat.beq i m with
  | true =>
   have:=Nat.eq_of_beq_eq_true hb
   subst this
   simp only [cond_true,bO,tI h r]
   have:Nat.beq i k=false:=by
    cases hb:Nat.beq i k with
    | false=>rfl
    | true=>exact absurd (Nat.eq_of_beq_eq_true hb).symm h
   rw [this]
   cases bO r k<;>rfl
  | false=>simp only [cond_false,bO,tI h r]
section
variable {τ:Nat→Type}
theorem iM (C:Cod τ):∀ (U:List (Nat×TEnt τ)) (k:Nat),bO (bP C U) k=(bO U k).map (TEnt.den C)
 | [],k=>rfl
 | (i, e) :: r, k => by
  have:=iM C r k
  simp only [bP] at this
  simp only [bP,List.map_cons,bO,this]
  cases bO r k with
  | some x=>rfl
  | none=>cases Nat.beq i k<;>rfl
theorem wX:∀ (h:List (TEnt τ)) (k:Nat) (e:TEnt τ),aM (eX h k e) k=e
 | [],0,e=>rfl
 | [],k+1,e=>wX [] k e
 | x :: r,0,e=>rfl
 | x :: r,k+1,e=>wX r k e
def fL {α:Type} (ms:List (Option α)):Nat→Option α
 | 0=>none
 | j + 1 => match ms[j]? with
  | some m=>m
  | none=>none
def dC {α:Type} (ms:List (Option α)):Nat→Option α→List (Option α)
 | 0,_=>ms
 | j+1,x=>ms.set j x
def jE {α:Type} (ms:List (Option α)) (j:Nat):Bool:=(fL ms j).isSome
def fM {α:Type} (ms:List (Option (List α))) (j:Nat):List α:=(fL ms j).getD []
theorem aAE {α:Type} {ms:List (Option α)} {j:Nat} {l:α} (h:fL ms j=some l):∃ i,j=i+1∧ms[i]?=some (some l):=by
 cases j with
 | zero=>cases h
 | succ i =>
  simp only [fL] at h
  cases hm:ms[i]? with
  | none=>rw [hm] at h; cases h
  | some m=>rw [hm] at h; simp only [] at h; subst h; exact ⟨i,rfl,hm⟩
def TV.hOk (j:Nat):TV τ→Prop
 | .hsl _ j' _ _ _ _=>j'=j
 | .hptr _ j' _=>j'=j
 | _=>True
def oH (m:Nat):TV τ→TV τ
 | .hsl t _ o n c nn=>.wsl t m o n c nn
 | .hptr _ _ p=>.ptr m p
 | x=>x
def wY (t j m:Nat):TV τ→TV τ
 | .wsl t' id o n c nn=>bif Nat.beq id m then .hsl t' j o n c nn else .wsl t' id o n c nn
 | .msl t' id n=>bif Nat.beq id m then .hsl t' j 0 n n false else .msl t' id n
 | .ptr id p=>bif Nat.beq id m then .hptr t j p else .ptr id p
 | x=>x
def tJ (t j m:Nat):TV τ→TV τ
 | .tup l=>.tup (l.map (wY t j m))
 | x=>wY t j m x
theorem aOr {C:Cod τ} {g:Gh} {m j:Nat} (hle:g.up (fG g m j)) {x:TV τ} (hx:x.hOk (j+1)) {v:Value} (h:VRel g (x.den C) v):VRel (fG g m j) ((oH m x).den C) v:=by
 cases x with
 | hsl t j' o n c nn =>
  have e:j'=j+1:=hx
  subst e
  exact aLY h
 | hptr t j' p =>
  have e:j'=j+1:=hx
  subst e
  simp only [oH,TV.den,jP,dW] at h ⊢
  cases hb:cS p with
  | true=>rw [hb] at h; exact aQv h
  | false=>rw [hb] at h; exact absurd h aCR
 | _=>exact h.monoU hle
theorem aXE {C:Cod τ} {g:Gh} {m:Nat} {x:TV τ} (hx:x.hOk 0) {v:Value} (h:VRel g (x.den C) v):VRel g ((oH m x).den C) v:=by
 cases x with
 | hsl t j' o n c nn =>
  have e:j'=0:=hx
  subst e
  simp only [oH,TV.den] at h ⊢
  cases h with
  | hsl0 h1=>exact .wsl0 h1
 | hptr t j' p =>
  have e:j'=0:=hx
  subst e
  simp only [oH,TV.den,jP,dW] at h ⊢
  cases hb:cS p with
  | true=>rw [hb] at h; simp only [cond_true] at h; cases h
  | false=>rw [hb] at h; exact absurd h aCR
 | _=>exact h
theorem aOs {C:Cod τ} {g:Gh} {m j t:Nat} (hle:g.up (gO g m j)) {x:TV τ} {v:Value} (h:VRel g (x.den C) v):VRel (gO g m j) ((wY t (j+1) m x).den C) v:=by
 cases x with
 | wsl t' id o n c nn =>
  simp only [wY]
  cases hb:Nat.beq id m with
  | true =>
   have:=Nat.eq_of_beq_eq_true hb
   subst this
   exact aQw h
  | false=>exact h.monoU hle
 | msl t' id n =>
  simp only [wY]
  cases hb:Nat.beq id m with
  | true =>
   have:=Nat.eq_of_beq_eq_true hb
   subst this
   have:=aQx (j:=j) h
   simpa [TV.den] using this
  | false=>exact h.monoU hle
 | ptr id p =>
  simp only [wY]
  cases hb:Nat.beq id m with
  | true =>
   have:=Nat.eq_of_beq_eq_true hb
   subst this
   simp only [cond_true,TV.den,jP,dW] at h ⊢
   cases hb:cS p with
   | true=>rw [hb] at h; exact aQy h
   | false=>rw [hb] at h; exact absurd h aCR
  | false=>exact h.monoU hle
 | _=>exact h.monoU hle
theorem aOt {C:Cod τ} {g:Gh} {m j t:Nat} (hle:g.up (gO g m j)) {x:TV τ} {v:Value} (h:VRel g (x.den C) v):VRel (gO g m j) ((tJ t (j+1) m x).den C) v:=by
 cases x with
 | tup l =>
  simp only [tJ,TV.den,kP] at h ⊢
  cases h with
  | tup e h' =>
   refine .tup (by simpa using e) fun k y c hy hc=>?_
   simp only [List.getElem?_map,Option.map_eq_some_iff] at hy
   obtain ⟨_,⟨z,hz,rfl⟩,rfl⟩:=hy
   exact aOs hle (h' k (z.den C) c (by rw [List.getElem?_map,hz]; rfl) hc)
 | _=>exact aOs (t:=t) (x:=_) hle h
def oI (h:List (TEnt τ)) (p m t:Nat) (ms:List (Option (List (τ t)))) (l:List (τ t)):List (TEnt τ):=eX (eX h p (.pool t ms)) m (.gbx t l)
theorem aKp (h:List (TEnt τ)) (p m t:Nat) (ms:List (Option (List (τ t)))) (l:List (τ t)):aM (oI h p m t ms l) m=.gbx t l:=wX _ _ _
theorem aKq (h:List (TEnt τ)) {p m:Nat} (t:Nat) (ms:List (Option (List (τ t)))) (l:List (τ t)) (hne:p≠m):aM (oI h p m t ms l) p=.pool t ms:=by
 unfold oI
 rw [mS _ _ _ _ hne,wX]
theorem aKr (h:List (TEnt τ)) {p m k:Nat} (t:Nat) (ms:List (Option (List (τ t)))) (l:List (τ t)) (h1:k≠p) (h2:k≠m):aM (oI h p m t ms l) k=aM h k:=by
 unfold oI
 rw [mS _ _ _ _ h2,mS _ _ _ _ h1]
theorem aAF (C:Cod τ) (t:Nat) (ms:List (Option (List (τ t)))) (j:Nat) (x:Option (List (τ t))):cJ C t (ms.set j x)=(cJ C t ms).set j (x.map fun l=>l.flatMap (C.cel t)):=by simp [cJ,List.map_set]
theorem aKs {C:Cod τ} {t:Nat} {ms:List (Option (List (τ t)))} {j:Nat} {l:List (τ t)} (h:ms[j]?=some (some l)):(cJ C t ms)[j]?=some (some (l.flatMap (C.cel t))):=by simp [cJ,h]
theorem aDE (C:Cod τ) (t:Nat) (ms:List (Option (List (τ t)))):(cJ C t ms).length=ms.length:=by simp [cJ]
theorem qN {H:Nat→Ent} (h:∃ k,∀ m,k≤m→H m=.unborn) (i:Nat) (e:Ent):∃ k,∀ m,k≤m→upd H i e m=.unborn:=by
 obtain ⟨k,hk⟩:=h
 exact ⟨k+i+1,fun m hm=>by rw [aJ _ _ (by omega)]; exact hk m (by omega)⟩
theorem tne {h:List (TEnt τ)} {p m t:Nat} {ms:List (Option (List (τ t)))} (hp:aM h p=.pool t ms) (hm:aM h m=.unborn):p≠m:=fun e=>by subst e; rw [hp] at hm; cases hm
theorem aOu {E:Env} {C:Cod τ} {o:Oper} {val:Operand→TV τ} {h:List (TEnt τ)} {t p m j:Nat} {ms:List (Option (List (τ t)))} (hp:aM h p=.pool t ms) (hm:aM h m=.unborn) {l:List (τ t)} (hj:ms[j]?=some (some l))
  (hv:∀ x∈bB o.op,(val x).hOk (j+1)) {r:TV τ} {U:List (Nat×TEnt τ)} {F:List Nat} (hc:CoreOk E C true o (fun x=>oH m (val x)) (aM (oI h p m t (ms.set j none) l)) r U F) (hpU:bO U p=none)
  {l':List (τ t)} (hl':bO U m=some (.gbx t l')∨(bO U m=none∧l'=l)) :
  CoreOk E C false o val (aM h) (tJ t (j+1) m r) (fK m U++[(p,.pool t (ms.set j (some l'))),(m,.dead)]) (p :: m :: F):=by
 intro H g a w hW hrel hH hfin next Q hn
 have hne:=tne hp hm
 have hHp:H p=.pool (cJ C t ms):=by rw [hH p (by simp),hp]; rfl
 have hHm:H m=.unborn:=by rw [hH m (by simp),hm]; rfl
 have hjA:=aKs (C:=C) hj
 have ev1:=EvoP.lend hW hHp hjA hHm
 have hs:(cJ C t ms).set j none=cJ C t (ms.set j none):=(aAF C t ms j none).symm
 rw [hs] at ev1
 have hle:=ev1.le
 refine hc _ _ a w ev1.rel (fun x hx=>aOr hle (hv x hx) (hrel x hx)) (fun id hid=>?_) (qN (qN hfin _ _) _ _) next Q fun v g' w' hv' hev hα=>?_
 ·by_cases h1:id=m
  ·subst h1; rw [aR,aKp]; rfl
  ·by_cases h2:id=p
   ·subst h2; rw [aJ _ _ h1,aR,aKq _ _ _ _ hne]; rfl
   ·rw [aJ _ _ h1,aJ _ _ h2,aKr _ _ _ _ h2 h1]; exact hH id (by simp [hid])
 ·have hαg:g'.α=g.α:=hα rfl
  have h2p:app (upd (upd H p (.pool (cJ C t (ms.set j none)))) m (.gbx (l.flatMap (C.cel t)))) (bP C U) p=.pool (cJ C t (ms.set j none)):=by
   rw [iL,iM,hpU]
   show upd (upd H p _) m _ p=_
   rw [aJ _ _ hne,aR]
  have h2m:app (upd (upd H p (.pool (cJ C t (ms.set j none)))) m (.gbx (l.flatMap (C.cel t)))) (bP C U) m=.gbx (l'.flatMap (C.cel t)):=by
   rw [iL,iM]
   rcases hl' with e | ⟨e,rfl⟩
   ·rw [e]; rfl
   ·rw [e]
    show upd (upd H p _) m _ m=_
    rw [aR]
  have hjlt:j < ms.length:=(List.getElem?_eq_some_iff.1 hj).1
  have ev3:=EvoP.keepM (j:=j) hev.rel h2p h2m (.inl ⟨by rw [← hs,List.getElem?_set_self (by rw [aDE]; exact hjlt)],fun x hx=>by
   rw [hαg] at hx
   refine hev.le.ρ _ _ ?_
   have:(fG g m j).ρ m=α2ρ (g.α j):=by simp [fG]
   rw [this,hx]; rfl⟩)
  rw [if_pos (by rw [aDE]; simpa using hjlt)] at ev3
  have hset:(cJ C t (ms.set j none)).set j (some (l'.flatMap (C.cel t)))=cJ C t (ms.set j (some l')):=by
   rw [aAF,aAF]; simp
  rw [hset] at ev3
  have hfinal:upd (upd (app (upd (upd H p (.pool (cJ C t (ms.set j none)))) m (.gbx (l.flatMap (C.cel t)))) (bP C U)) m .dead) p (.pool (cJ C t (ms.set j (some l'))))=app H (bP C (fK m U++[(p,.pool t (ms.set j (some l'))),(m,.dead)])):=by
   funext k
   rw [iL (bP C (fK m U++_)),iM,tH]
   by_cases h1:k=p
   ·subst h1
    rw [aR]
    simp only [bO,Nat.beq_refl,cond_true]
    have:Nat.beq m k=false:=by
     cases hb:Nat.beq m k with
     | false=>rfl
     | true=>exact absurd (Nat.eq_of_beq_eq_true hb).symm hne
    rw [this]; rfl
   ·rw [aJ _ _ h1]
    by_cases h2:k=m
    ·subst h2
     rw [aR]
     simp only [bO,Nat.beq_refl,cond_true]; rfl
    ·rw [aJ _ _ h2,iL,iM]
     have b1:Nat.beq p k=false:=by
      cases hb:Nat.beq p k with
      | false=>rfl
      | true=>exact absurd (Nat.eq_of_beq_eq_true hb).symm h1
     have b2:Nat.beq m k=false:=by
      cases hb:Nat.beq m k with
      | false=>rfl
      | true=>exact absurd (Nat.eq_of_beq_eq_true hb).symm h2
     simp only [bO,b1,b2,cond_false,tI h2]
     rw [aJ _ _ h2,aJ _ _ h1]
  rw [hfinal] at ev3
  exact hn v _ w' (aOt ev3.le hv') ((ev1.trans hev).trans ev3) (fun e=>by cases e)
theorem aXF {E:Env} {C:Cod τ} {o:Oper} {val:Operand→TV τ} {h:List (TEnt τ)} {t p m j:Nat} {ms:List (Option (List (τ t)))} (hp:aM h p=.pool t ms) (hm:aM h m=.unborn) {l:List (τ t)} (hj:ms[j]?=some (some l))
  (hv:∀ x∈bB o.op,(val x).hOk (j+1)) {fl:Bool} {r:TV τ} {U:List (Nat×TEnt τ)} {F:List Nat} (hc:CoreOk E C fl o (fun x=>oH m (val x)) (aM (oI h p m t (ms.set j none) l)) r U F) (hpU:bO U p=none)
  (hl':bO U m=some .dead):CoreOk E C false o val (aM h) r (fK m U++[(p,.pool t (ms.set j none)),(m,.dead)]) (p :: m :: F):=by
 intro H g a w hW hrel hH hfin next Q hn
 have hne:=tne hp hm
 have hHp:H p=.pool (cJ C t ms):=by rw [hH p (by simp),hp]; rfl
 have hHm:H m=.unborn:=by rw [hH m (by simp),hm]; rfl
 have ev1:=EvoP.lend hW hHp (aKs (C:=C) hj) hHm
 have hs:(cJ C t ms).set j none=cJ C t (ms.set j none):=(aAF C t ms j none).symm
 rw [hs] at ev1
 have hle:=ev1.le
 refine hc _ _ a w ev1.rel (fun x hx=>aOr hle (hv x hx) (hrel x hx)) (fun id hid=>?_) (qN (qN hfin _ _) _ _) next Q fun v g' w' hv' hev hα=>?_
 ·by_cases h1:id=m
  ·subst h1; rw [aR,aKp]; rfl
  ·by_cases h2:id=p
   ·subst h2; rw [aJ _ _ h1,aR,aKq _ _ _ _ hne]; rfl
   ·rw [aJ _ _ h1,aJ _ _ h2,aKr _ _ _ _ h2 h1]; exact hH id (by simp [hid])
 ·have hfinal:app (upd (upd H p (.pool (cJ C t (ms.set j none)))) m (.gbx (l.flatMap (C.cel t)))) (bP C U)=app H (bP C (fK m U++[(p,.pool t (ms.set j none)),(m,.dead)])):=by
   funext k
   rw [iL (bP C (fK m U++_)),iL,iM,iM,tH]
   by_cases h1:k=p
   ·subst h1
    have:Nat.beq m k=false:=by
     cases hb:Nat.beq m k with
     | false=>rfl
     | true=>exact absurd (Nat.eq_of_beq_eq_true hb).symm hne
    simp only [bO,Nat.beq_refl,cond_true,this,cond_false,hpU]
    show upd (upd H k _) m _ k=_
    rw [aJ _ _ hne,aR]; rfl
   ·by_cases h2:k=m
    ·subst h2
     simp only [bO,Nat.beq_refl,cond_true,hl']; rfl
    ·have b1:Nat.beq p k=false:=by
      cases hb:Nat.beq p k with
      | false=>rfl
      | true=>exact absurd (Nat.eq_of_beq_eq_true hb).symm h1
     have b2:Nat.beq m k=false:=by
      cases hb:Nat.beq m k with
      | false=>rfl
      | true=>exact absurd (Nat.eq_of_beq_eq_true hb).symm h2
     simp only [bO,b1,b2,cond_false,tI h2]
     rw [aJ _ _ h2,aJ _ _ h1]
  rw [hfinal] at hev
  exact hn v _ w' hv' (ev1.trans hev) (fun e=>by cases e)
theorem aXG {E:Env} {C:Cod τ} {o:Oper} {val:Operand→TV τ} {h:List (TEnt τ)} {t p m:Nat} {ms:List (Option (List (τ t)))} (hp:aM h p=.pool t ms) (hm:aM h m=.unborn)
  (hv:∀ x∈bB o.op,(val x).hOk 0) {fl:Bool} {r:TV τ} {U:List (Nat×TEnt τ)} {F:List Nat} (hc:CoreOk E C fl o (fun x=>oH m (val x)) (aM (oI h p m t ms [])) r U F) (hpU:bO U p=none)
  (hl':bO U m=some .dead):CoreOk E C false o val (aM h) r (fK m U++[(p,.pool t ms),(m,.dead)]) (p :: m :: F):=by
 intro H g a w hW hrel hH hfin next Q hn
 have hne:=tne hp hm
 have hHp:H p=.pool (cJ C t ms):=by rw [hH p (by simp),hp]; rfl
 have hHm:H m=.unborn:=by rw [hH m (by simp),hm]; rfl
 have ev0:Evo g H w g (upd H m (.gbx [])) w:=Evo.noneM hW.base _ fun k=>by
  by_cases e:k=m
  ·subst e; rw [aR]; exact .inr (.inr ⟨rfl,hW.base.fresh k hHm⟩)
  ·rw [aJ _ _ e]; exact .inl rfl
 have ev1:=ev0.toP hW.pool fun q ms'=>pG (fun ms e=>by rw [hHm] at e; cases e) (fun ms e=>by cases e) q ms'
 refine hc _ _ a w ev1.rel (fun x hx=>aXE (hv x hx) (hrel x hx)) (fun id hid=>?_) (qN hfin _ _) next Q fun v g' w' hv' hev hα=>?_
 ·by_cases h1:id=m
  ·subst h1; rw [aR,aKp]; rfl
  ·rw [aJ _ _ h1]
   by_cases h2:id=p
   ·subst h2; rw [aKq _ _ _ _ hne]; exact hHp
   ·rw [aKr _ _ _ _ h2 h1]; exact hH id (by simp [hid])
 ·have hfinal:app (upd H m (.gbx [])) (bP C U)=app H (bP C (fK m U++[(p,.pool t ms),(m,.dead)])):=by
   funext k
   rw [iL (bP C (fK m U++_)),iL,iM,iM,tH]
   by_cases h1:k=p
   ·subst h1
    have:Nat.beq m k=false:=by
     cases hb:Nat.beq m k with
     | false=>rfl
     | true=>exact absurd (Nat.eq_of_beq_eq_true hb).symm hne
    simp only [bO,Nat.beq_refl,cond_true,this,cond_false,hpU]
    show upd H m _ k=_
    rw [aJ _ _ hne]; exact hHp
   ·by_cases h2:k=m
    ·subst h2
     simp only [bO,Nat.beq_refl,cond_true,hl']; rfl
    ·have b1:Nat.beq p k=false:=by
      cases hb:Nat.beq p k with
      | false=>rfl
      | true=>exact absurd (Nat.eq_of_beq_eq_true hb).symm h1
     have b2:Nat.beq m k=false:=by
      cases hb:Nat.beq m k with
      | false=>rfl
      | true=>exact absurd (Nat.eq_of_beq_eq_true hb).symm h2
     simp only [bO,b1,b2,cond_false,tI h2]
     rw [aJ _ _ h2]
  rw [hfinal] at hev
  exact hn v _ w' hv' (ev1.trans hev) (fun e=>by cases e)
theorem aXH {E:Env} {C:Cod τ} {o:Oper} {val:Operand→TV τ} {h:List (TEnt τ)} {t p n:Nat} {ms:List (Option (List (τ t)))} {fl:Bool} {r:TV τ} {U:List (Nat×TEnt τ)} {F:List Nat} (hc:CoreOk E C fl o val (aM h) r U F)
  (hp:bO U p=some (.pool t ms)∨(bO U p=none∧aM h p=.pool t ms)) {l:List (τ t)} (hl:bO U n=some (.gbx t l)) :
  CoreOk E C false o val (aM h) (tJ t (ms.length+1) n r) (fK n U++[(p,.pool t (ms++[some l])),(n,.dead)]) (p :: F):=by
 intro H g a w hW hrel hH hfin next Q hn
 have hne:p≠n:=fun e=>by
  subst e
  rcases hp with e | ⟨e,_⟩
  ·rw [hl] at e; cases e
  ·rw [hl] at e; cases e
 refine hc H g a w hW hrel (fun id hid=>hH id (by simp [hid])) hfin next Q fun v g' w' hv' hev hα=>?_
 have h2p:app H (bP C U) p=.pool (cJ C t ms):=by
  rw [iL,iM]
  rcases hp with e | ⟨e,e'⟩
  ·rw [e]; rfl
  ·rw [e]
   show H p=_
   rw [hH p (by simp),e']; rfl
 have h2n:app H (bP C U) n=.gbx (l.flatMap (C.cel t)):=by
  rw [iL,iM,hl]; rfl
 have ev3:=EvoP.keepM (j:=ms.length) hev.rel h2p h2n (.inr (aDE C t ms).symm)
 rw [if_neg (by rw [aDE]; omega)] at ev3
 have hset:cJ C t ms++[some (l.flatMap (C.cel t))]=cJ C t (ms++[some l]):=by simp [cJ]
 rw [hset] at ev3
 have hfinal:upd (upd (app H (bP C U)) n .dead) p (.pool (cJ C t (ms++[some l])))=app H (bP C (fK n U++[(p,.pool t (ms++[some l])),(n,.dead)])):=by
  funext k
  rw [iL (bP C (fK n U++_)),iM,tH]
  by_cases h1:k=p
  ·subst h1
   rw [aR]
   have:Nat.beq n k=false:=by
    cases hb:Nat.beq n k with
    | false=>rfl
    | true=>exact absurd (Nat.eq_of_beq_eq_true hb).symm hne
   simp only [bO,Nat.beq_refl,cond_true,this,cond_false]; rfl
  ·rw [aJ _ _ h1]
   by_cases h2:k=n
   ·subst h2
    rw [aR]
    simp only [bO,Nat.beq_refl,cond_true]; rfl
   ·rw [aJ _ _ h2,iL,iM]
    have b1:Nat.beq p k=false:=by
     cases hb:Nat.beq p k with
     | false=>rfl
     | true=>exact absurd (Nat.eq_of_beq_eq_true hb).symm h1
    have b2:Nat.beq n k=false:=by
     cases hb:Nat.beq n k with
     | false=>rfl
     | true=>exact absurd (Nat.eq_of_beq_eq_true hb).symm h2
    simp only [bO,b1,b2,cond_false,tI h2]
 rw [hfinal] at ev3
 exact hn v _ w' (aOt ev3.le hv') (hev.trans ev3) (fun e=>by cases e)
def frzV {t:Nat} (l:List (τ t)):TV τ→TV τ
 | .hsl t' _ o n _ _=>bif Nat.beq t' t then .sl t ((l.drop o).take n) .any else .junk
 | x=>x
def TV.fOk (t j len:Nat):TV τ→Prop
 | .hsl _ j' o n _ _=>j'=j∧o+n≤len
 | .hptr _ _ _=>False
 | _=>True
theorem aXI {E:Env} {C:Cod τ} (hC:C.Ok) {o:Oper} {val:Operand→TV τ} {h:List (TEnt τ)} {t p m j:Nat} {ms:List (Option (List (τ t)))} (hp:aM h p=.pool t ms) (hm:aM h m=.unborn) {l:List (τ t)} (hj:ms[j]?=some (some l))
  (hv:∀ x∈bB o.op,(val x).fOk t (j+1) l.length) {fl:Bool} {r:TV τ} {U:List (Nat×TEnt τ)} {F:List Nat} (hc:CoreOk E C fl o (fun x=>frzV l (val x)) (aM (eX (eX h p (.pool t (ms.set j none))) m .dead)) r U F) :
  CoreOk E C false o val (aM h) r ((p,.pool t (ms.set j none)) :: (m,.dead) :: U) (p :: m :: F):=by
 intro H g a w hW hrel hH hfin next Q hn
 have hne:=tne hp hm
 have hHp:H p=.pool (cJ C t ms):=by rw [hH p (by simp),hp]; rfl
 have hHm:H m=.unborn:=by rw [hH m (by simp),hm]; rfl
 have ev1:=EvoP.lend hW hHp (aKs (C:=C) hj) hHm
 have hs:(cJ C t ms).set j none=cJ C t (ms.set j none):=(aAF C t ms j none).symm
 rw [hs] at ev1
 have hle:=ev1.le
 generalize hH1:upd (upd H p (.pool (cJ C t (ms.set j none)))) m (.gbx (l.flatMap (C.cel t)))=H1 at ev1
 have hm1:H1 m=.gbx (l.flatMap (C.cel t)):=by rw [← hH1,aR]
 obtain ⟨g2,ev2,hval⟩:∃ g2,Evo (fG g m j) H1 w g2 (upd H1 m .dead) w∧∀ (off n c:Nat) (nn:Bool) (v:Value),off+n≤l.length→VRel (fG g m j) (.wsl m (off * C.sz t) n c nn (C.sz t)) v→VRel g2 (.asl (C.sz t) (((l.drop off).take n).map (C.cel t))) v:=by
  exact Evo.freezeM ev1.rel.base hm1 (fun x hx=>hC.len t x)
 have ev3:EvoP (fG g m j) H1 w g2 (upd H1 m .dead) w:=ev2.toP ev1.rel.pool fun q ms'=>pG (fun ms e=>by rw [hm1] at e; cases e) (fun ms e=>by cases e) q ms'
 refine hc _ g2 a w ev3.rel (fun x hx=>?_) (fun id hid=>?_) ?_ next Q fun v g' w' hv' hev hα=>?_
 ·have h1:=hv x hx
  have h2:=hrel x hx
  have hup:g.up g2:=ev1.le.trans ev3.le
  show VRel g2 ((frzV l (val x)).den C) _
  generalize val x=y at h1 h2 ⊢
  cases y with
  | hsl t' j' off n c nn =>
   obtain ⟨rfl,h3⟩:=h1
   simp only [frzV]
   cases hb:Nat.beq t' t with
   | false=>exact .junk _
   | true =>
    have:=Nat.eq_of_beq_eq_true hb
    subst this
    exact hval off n c nn _ h3 (aLY h2)
  | hptr t' j' pp=>exact h1.elim
  | _=>exact h2.monoU hup
 ·by_cases h1:id=m
  ·subst h1; rw [aR,wX]; rfl
  ·rw [aJ _ _ h1,mS _ _ _ _ h1,← hH1,aJ _ _ h1]
   by_cases h2:id=p
   ·subst h2; rw [aR,wX]; rfl
   ·rw [aJ _ _ h2,mS _ _ _ _ h2]; exact hH id (by simp [hid])
 ·rw [← hH1]; exact qN (qN (qN hfin _ _) _ _) _ _
 ·refine hn v g' w' hv' ?_ (fun e=>by cases e)
  have hfinal:app (upd H1 m .dead) (bP C U)=app H (bP C ((p,.pool t (ms.set j none)) :: (m,.dead) :: U)):=by
   show _=app (upd (upd H p _) m _) (bP C U)
   congr 1
   funext k
   rw [← hH1]
   by_cases h1:k=m
   ·subst h1; rw [aR,aR]; rfl
   ·rw [aJ _ _ h1,aJ _ _ h1,aJ _ _ h1]; rfl
  rw [← hfinal]
  exact (ev1.trans ev3).trans hev
end
end Go.Ev
