/-
The typed layer: contracts of functions over typed data,and tD.
-/
import Derived.Test.YtddpmkmgbdedlaaGreatqTvM
set_option linter.unusedVariables false
set_option linter.unusedSimpArgs false
namespace Go.Ev
open Go
inductive ESh where
 | box (s:Sh)
 | gbx (e:Nat)
 | tail | dead | keep
 | rcd (f k:Nat) (l:List Sh)
 | rdn
 | pool (t:Nat)
section
variable {τ:Nat→Type}
def ESh.T (τ:Nat→Type):ESh→Type
 | .box s=>s.T τ
 | .gbx e=>List (τ e)
 | .rcd _ _ l=>Sh.Ts τ l
 | .rdn=>Nat
 | .pool t=>List (Option (List (τ t)))
 | _=>Unit
def ESh.Ts (τ:Nat→Type):List ESh→Type
 | []=>Unit
 | s :: r=>ESh.T τ s×ESh.Ts τ r
def ESh.enc (C:Cod τ):(e:ESh)→e.T τ→TEnt τ
 | .box s,a=>.box (s.enc C a)
 | .gbx e,l=>.gbx e l
 | .tail,_=>.tail
 | .dead,_=>.dead
 | .keep,_=>.dead
 | .rcd f k l,a=>.rcd f k (Sh.encs C l a)
 | .rdn,e=>.rdn e
 | .pool t,ms=>.pool t ms
def ESh.encs (C:Cod τ):(l:List ESh)→ESh.Ts τ l→List (TEnt τ)
 | [],_=>[]
 | e :: r,a=>ESh.enc C e a.1 :: ESh.encs C r a.2
def sV {t:Nat} (e:Nat) (l:List (Option (List (τ t)))):Option (List (Option (List (τ e)))):=if h:t=e then some (h▸l) else none
theorem aDe {t e:Nat} {l:List (Option (List (τ t)))} {r:List (Option (List (τ e)))} (h:sV e l=some r):∃ h:t=e,r=h▸l:=by
 unfold sV at h
 split at h
 ·rename_i ht; exact ⟨ht,(Option.some.inj h).symm⟩
 ·cases h
def mU:Prs→Nat→Option (Option Nat)
 | [],_=>none
 | (k,o) :: r,j=>bif Nat.beq k j then some o else mU r j
theorem aJP {j:Nat} {o:Option Nat}:∀ {ps:Prs},mU ps j=some o→(j,o)∈ps
 | [],h=>by cases h
 | (k, o') :: r, h => by
  simp only [mU] at h
  cases hk:Nat.beq k j with
  | true =>
   rw [hk] at h
   simp only [cond_true,Option.some.injEq] at h
   have:=Nat.eq_of_beq_eq_true hk
   subst this; subst h; simp
  | false =>
   rw [hk] at h
   exact List.mem_cons_of_mem _ (aJP h)
def decE (C:Cod τ):(e:ESh)→TEnt τ→Option (e.T τ×Prs)
 | .box s,x=>(match x with | .box y=>s.dec C y | _=>none)
 | .gbx e,x=>(match x with | .gbx t l=>(match eF (t:=t) e l with | some l=>some (l,[]) | none=>none) | _=>none)
 | .tail,x=>(match x with | .tail=>some ((),[]) | _=>none)
 | .dead,_=>some ((),[])
 | .keep,_=>none
 | .rcd f k l,x=>(match x with | .rcd f' k' ts=>bif Nat.beq f f'&&Nat.beq k k' then Sh.decs C l ts else none | _=>none)
 | .rdn,x=>(match x with | .rdn e=>some (e,[]) | _=>none)
 | .pool t,x=>(match x with | .pool t' ms=>(match sV (t:=t') t ms with | some l=>some (l,[]) | none=>none) | _=>none)
def noE:(e:ESh)→Option (e.T τ)
 | .tail=>some ()
 | .dead=>some ()
 | .gbx e=>some ([]:List (τ e))
 | _=>none
def wL (C : Cod τ) (h : List (TEnt τ)) : (L : List ESh) → Nat → Prs → Option (ESh.Ts τ L × Prs)
 | [],_,ps=>some ((),ps)
 | e :: r, j, ps =>
  match mU ps j with
  | some (some id) =>
   match decE C e (aM h id) with
   | some (a, qs) => (match wL C h r (j + 1) (ps ++ qs) with
    | some (b,ps')=>some ((a,b),ps')
    | none=>none)
   | none=>none
  | some none =>
   match noE e with
   | some a => (match wL C h r (j + 1) ps with
    | some (b,ps')=>some ((a,b),ps')
    | none=>none)
   | none=>none
  | none=>none
theorem aW5 {C:Cod τ} (hC:C.Ok) {θ:Nat→Option Nat} {t:Nat} (l:List (τ t)):RWs θ (l.flatMap (C.cel t)) (l.flatMap (C.cel t)) :=
 RWs.noids (.refl _) (NoIds.of_all fun y hy=>by
  obtain ⟨z,_,hz⟩:=List.mem_flatMap.1 hy
  obtain ⟨k,hk⟩:=List.getElem?_of_mem hz
  exact (hC.noid _ z).get hk)
theorem aNO {C:Cod τ} {t:Nat} {ms:List (Option (List (τ t)))} {k:Nat} {c:List AV} (h:(cJ C t ms)[k]?=some (some c)):∃ l,ms[k]?=some (some l)∧c=l.flatMap (C.cel t):=by
 simp only [cJ,List.getElem?_map,Option.map_eq_some_iff] at h
 obtain ⟨m,h1,h2⟩:=h
 obtain ⟨l,rfl,h3⟩:=h2
 exact ⟨l,h1,h3.symm⟩
theorem aJQ {C:Cod τ} (hC:C.Ok) {θ:Nat→Option Nat} (t:Nat) (ms:List (Option (List (τ t)))):PRen θ (cJ C t ms) (cJ C t ms) :=
 ⟨rfl,fun k c h=>by
  obtain ⟨l,_,rfl⟩:=aNO h
  exact ⟨_,h,aW5 hC l⟩⟩
theorem aW6 {C:Cod τ} (hC:C.Ok) {θ:Nat→Option Nat} {H:Nat→Ent} {j id:Nat} (hj:θ j=some id) {x:TEnt τ} (hx:H id=x.den C):∀ (e:ESh) (a:e.T τ) (qs:Prs),decE C e x=some (a,qs)→okθ θ qs→EntRen θ H j ((e.enc C a).den C)
 | .box s, a, qs, h, hθ => by
  cases x with
  | box y=>exact ⟨id,y.cells C,hj,hx,(aAn hC s y a qs h hθ).2⟩
  | _=>exact nomatch h
 | .tail, a, qs, h, hθ => by
  cases x with
  | tail=>exact .inr ⟨id,hj,hx⟩
  | _=>exact nomatch h
 | .gbx e, a, qs, h, hθ => by
  cases x with
  | gbx t l =>
   have h':(match eF (t:=t) e l with | some l=>some (l,([]:Prs)) | none=>none)=some (a,qs):=h
   split at h'
   ·rename_i l' hl
    have e1:=(Prod.mk.inj (Option.some.inj h')).1
    obtain ⟨ht,hl⟩:=fZ hl
    subst ht
    subst hl
    subst e1
    refine .inr ⟨id,_,hj,hx,?_⟩
    refine RWs.noids (.refl _) (NoIds.of_all fun y hy=>?_)
    obtain ⟨z,_,hz⟩:=List.mem_flatMap.1 hy
    obtain ⟨k,hk⟩:=List.getElem?_of_mem hz
    exact (hC.noid _ z).get hk
   ·cases h'
  | _=>exact nomatch h
 | .dead,a,qs,h,hθ=>trivial
 | .keep,a,qs,h,hθ=>nomatch h
 | .rcd f k l, a, qs, h, hθ => by
  cases x with
  | rcd f' k' ts =>
   have h':(bif Nat.beq f f'&&Nat.beq k k' then Sh.decs C l ts else none)=some (a,qs):=h
   cases hb:(Nat.beq f f'&&Nat.beq k k') with
   | false=>rw [hb] at h'; cases h'
   | true =>
    rw [hb] at h'
    simp only [Bool.and_eq_true] at hb
    have e1:=Nat.eq_of_beq_eq_true hb.1
    have e2:=Nat.eq_of_beq_eq_true hb.2
    subst e1; subst e2
    exact ⟨id,_,hj,hx,(qH hC l ts a qs h' hθ).1⟩
  | _=>exact nomatch h
 | .rdn, a, qs, h, hθ => by
  cases x with
  | rdn e =>
   have h':some (e,([]:Prs))=some (a,qs):=h
   have:e=a:=(Prod.mk.inj (Option.some.inj h')).1
   subst this
   exact ⟨id,hj,hx⟩
  | _=>exact nomatch h
 | .pool t, a, qs, h, hθ => by
  cases x with
  | pool t' ms =>
   have h':(match sV (t:=t') t ms with | some l=>some (l,([]:Prs)) | none=>none)=some (a,qs):=h
   split at h'
   ·rename_i l' hl
    have e1:=(Prod.mk.inj (Option.some.inj h')).1
    obtain ⟨ht,hl⟩:=aDe hl
    subst ht
    subst hl
    subst e1
    exact ⟨id,_,hj,hx,aJQ hC _ _⟩
   ·cases h'
  | _=>exact nomatch h
theorem aDf {C:Cod τ} (hC:C.Ok) {θ:Nat→Option Nat} {h:List (TEnt τ)}:∀ (L:List ESh) (j:Nat) (ps ps':Prs) (b:ESh.Ts τ L),wL C h L j ps=some (b,ps')→okθ θ ps' →
  okθ θ ps∧∀ k,k < L.length→EntRen θ (fun i=>(aM h i).den C) (j+k) ((aM (ESh.encs C L b) k).den C)
 | [], j, ps, ps', b, hd, hθ => by
  have:ps=ps':=(Prod.mk.inj (Option.some.inj hd)).2
  subst this
  exact ⟨hθ,fun k hk=>by simp at hk⟩
 | e :: r, j, ps, ps', b, hd, hθ => by
  simp only [wL] at hd
  split at hd
  ·rename_i id hl
   split at hd
   ·rename_i a qs ha
    split at hd
    ·rename_i b' ps'' hb
     have e1:=(Prod.mk.inj (Option.some.inj hd)).1
     have e2:=(Prod.mk.inj (Option.some.inj hd)).2
     subst e2
     obtain ⟨h1,h2⟩:=aDf hC r (j+1) (ps++qs) ps'' b' hb hθ
     refine ⟨h1.left,fun k hk=>?_⟩
     cases k with
     | zero =>
      rw [← e1]
      exact aW6 hC (h1.left (j,some id) (aJP hl)) rfl e a qs ha h1.right
     | succ k =>
      rw [← e1]
      have:=h2 k (by simpa using hk)
      rw [show j+(k+1)=j+1+k by omega]
      exact this
    ·exact nomatch hd
   ·exact nomatch hd
  ·rename_i hl
   split at hd
   ·rename_i a ha
    split at hd
    ·rename_i b' ps'' hb
     have e1:=(Prod.mk.inj (Option.some.inj hd)).1
     have e2:=(Prod.mk.inj (Option.some.inj hd)).2
     subst e2
     obtain ⟨h1,h2⟩:=aDf hC r (j+1) ps ps'' b' hb hθ
     refine ⟨h1,fun k hk=>?_⟩
     cases k with
     | zero =>
      rw [← e1]
      have hj:θ j=none:=h1 (j,none) (aJP hl)
      cases e with
      | tail=>exact .inl hj
      | dead=>trivial
      | gbx e =>
       have ha':some ([]:List (τ e))=some a:=ha
       have:([]:List (τ e))=a:=Option.some.inj ha'
       subst this
       exact .inl ⟨hj,rfl⟩
      | box s=>exact nomatch ha
      | keep=>exact nomatch ha
      | rcd f k l=>exact nomatch ha
      | rdn=>exact nomatch ha
      | pool t=>exact nomatch ha
     | succ k =>
      rw [← e1]
      have:=h2 k (by simpa using hk)
      rw [show j+(k+1)=j+1+k by omega]
      exact this
    ·exact nomatch hd
   ·exact nomatch hd
  ·exact nomatch hd
theorem iZ (C:Cod τ):∀ (L:List ESh) (b:ESh.Ts τ L),(ESh.encs C L b).length=L.length
 | [],b=>rfl
 | e :: r,b=>by simp only [ESh.encs,List.length_cons,iZ C r b.2]
structure Alt (τ:Nat→Type) (R:Type) where
 ret:Sh
 L':List ESh
 of:R→ret.T τ×ESh.Ts τ L'
structure Con (τ:Nat→Type) where
 args:List Sh
 L:List ESh
 ret:Sh
 L':List ESh
 R:Type
 dflt:R
 F:Nat→Sh.Ts τ args→ESh.Ts τ L→Option R
 of:R→ret.T τ×ESh.Ts τ L'
 alt:Option (Alt τ R):=none
 sel:R→Bool:=fun _=>false
 ext:Bool:=false
def Con.out1 (C:Cod τ) (c:Con τ) (r:c.R):TV τ×List (TEnt τ):=(c.ret.enc C (c.of r).1,ESh.encs C c.L' (c.of r).2)
def Alt.out {R:Type} (C:Cod τ) (A:Alt τ R) (r:R):TV τ×List (TEnt τ):=(A.ret.enc C (A.of r).1,ESh.encs C A.L' (A.of r).2)
def Con.out (C:Cod τ) (c:Con τ) (r:c.R):TV τ×List (TEnt τ) :=
 match c.alt with
 | none=>c.out1 C r
 | some A=>bif c.sel r then A.out C r else c.out1 C r
def kR:Nat:=1000000
def YSpec (E:Env) (args:List AV) (L:List Ent) (r:AV) (L':List Ent):Prop :=
 ∀ g w (cargs:Array Value) (l:Nat),WRelP g (aH L) w→LRel g args (#[Value.func (.yield l) #[] #[]]++cargs).toList →
  YieldAt Fence.wide 0 E.P l cargs w fun e w'=>∃ v g',e=.returned v∧VRel g' r v∧EvoP g (aH L) w g' (aH L') w'
def XSpec (E:Env) (f:FuncId) (args:List AV) (L:List Ent) (r:AV) (L':List Ent):Prop :=
 ∀ g w (cargs:Array Value),WRelP g (aH L) w→LRel g args cargs.toList →
  ∃ v w' g',(callFunc f cargs).run E.P w=.ok (.value v) w'∧VRel g' r v∧EvoP g (aH L) w g' (aH L') w'
def SpecB:Bool→Bool→Env→FuncId→List AV→List Ent→AV→List Ent→Prop
 | false,false,E,f,args,L,r,L'=>FnSpec E f args L r L'
 | false,true,E,f,args,L,r,L'=>XSpec E f args L r L'
 | true,_,E,_,args,L,r,L'=>YSpec E args L r L'
def aF (E:Env) (C:Cod τ) (f:FuncId) (c:Con τ):Prop :=
 ∀ N a b r,c.F N a b=some r →
  SpecB (Nat.beq f kR) c.ext E f (TV.denL C (Sh.encs C c.args a)) ((ESh.encs C c.L b).map (TEnt.den C)) ((c.out C r).1.den C) ((c.out C r).2.map (TEnt.den C))
structure Hit (τ:Nat→Type) where
 c:Con τ
 a:Sh.Ts τ c.args
 b:ESh.Ts τ c.L
 σ:List Nat
def aDg (ps:Prs) (m:Nat):Option (List Nat) :=
 match m with
 | 0=>some []
 | m + 1 => match aDg ps m, mU ps m with
  | some l,some (some id)=>some (l++[id])
  | _,_=>none
def oA:List Nat→Bool
 | []=>true
 | x :: r=>!kQ x r&&oA r
def aDh (ps:Prs) (σ:List Nat) (n:Nat):Bool:=ps.all (fun p=>eY p.2 σ[p.1]?)&&oA σ&&σ.all (fun k=>Nat.blt k n)
theorem aDi:∀ {l:List Nat},oA l=true→l.Nodup
 | [],_=>List.nodup_nil
 | x :: r, h => by
  simp only [oA,Bool.and_eq_true,Bool.not_eq_true'] at h
  refine List.nodup_cons.2 ⟨fun hm=>?_,aDi h.2⟩
  rw [wJ.2 hm] at h; exact absurd h.1 (by simp)
theorem aW7 {ps:Prs} {σ:List Nat} {n:Nat} (h:aDh ps σ n=true):okθ (θσ σ) ps∧σ.Nodup∧∀ k∈σ,k < n:=by
 simp only [aDh,Bool.and_eq_true] at h
 obtain ⟨⟨h1,h2⟩,h3⟩:=h
 refine ⟨fun p hp=>?_,aDi h2,fun k hk=>?_⟩
 ·have:=List.all_eq_true.1 h1 p hp
  unfold eY at this
  split at this
  ·rename_i a b ha hb
   have:=Nat.eq_of_beq_eq_true this
   subst this
   rw [ha]; exact hb
  ·cases this
 ·have:=List.all_eq_true.1 h3 k hk
  simpa [Nat.blt,Nat.ble_eq,Nat.lt_iff_add_one_le] using this
theorem aNP {ps:Prs}:∀ {m:Nat} {σ:List Nat},aDg ps m=some σ→σ.length=m
 | 0,σ,h=>by cases h; rfl
 | m + 1, σ, h => by
  simp only [aDg] at h
  split at h
  ·rename_i l id h1 h2
   cases h
   simp [aNP h1]
  ·cases h
def TEnt.isPool:TEnt τ→Bool
 | .pool _ _=>true
 | _=>false
def ESh.isPool:ESh→Bool
 | .pool _=>true
 | _=>false
def aAp {α:Type} (p:α→Bool):List α→Nat→Option Nat
 | [],_=>none
 | x :: r,i=>bif p x then some i else aAp p r (i+1)
def aW8 (L:List ESh) (h:List (TEnt τ)):Prs :=
 match aAp ESh.isPool L 0 with
 | some j=>(match aAp TEnt.isPool h 0 with | some p=>[(j,some p)] | none=>[])
 | none=>[]
def hit (C:Cod τ) (c:Con τ) (h:List (TEnt τ)) (args:List (TV τ)):Option (Hit τ) :=
 match Sh.decs C c.args args with
 | some (a, ps) =>
  match wL C h c.L 0 (ps++aW8 c.L h) with
  | some (b, ps') =>
   match aDg ps' c.L.length with
   | some σ=>bif aDh ps' σ h.length then some ⟨c,a,b,σ⟩ else none
   | none=>none
  | none=>none
 | none=>none
structure sW (C:Cod τ) (h:List (TEnt τ)) (args:List (TV τ)) (x:Hit τ):Prop where
 args:RWs (θσ x.σ) (TV.denL C args) (TV.denL C (Sh.encs C x.c.args x.a))
 rens:Rens (θσ x.σ) (fun i=>(aM h i).den C) (fun j=>(aM (ESh.encs C x.c.L x.b) j).den C)
 nd:x.σ.Nodup
 lt:∀ k∈x.σ,k < h.length
 len:x.σ.length=x.c.L.length
theorem hit_ok {C:Cod τ} (hC:C.Ok) {c:Con τ} {h:List (TEnt τ)} {args:List (TV τ)} {x:Hit τ} (hh:hit C c h args=some x):x.c=c∧sW C h args x:=by
 unfold hit at hh
 split at hh
 ·rename_i a ps ha
  split at hh
  ·rename_i b ps' hb
   split at hh
   ·rename_i σ hσ
    cases hs:aDh ps' σ h.length with
    | false=>rw [hs] at hh; cases hh
    | true =>
     rw [hs] at hh
     simp only [cond_true,Option.some.injEq] at hh
     subst hh
     obtain ⟨h1,h2,h3⟩:=aW7 hs
     obtain ⟨h4,h5⟩:=aDf hC c.L 0 _ ps' b hb h1
     have hlen:=aNP hσ
     refine ⟨rfl,(qH hC c.args args a ps ha h4.left).1,⟨fun j=>?_,fun j j' i _ _ e e'=>?_⟩,h2,h3,hlen⟩
     ·show EntRen (θσ σ) (fun i=>(aM h i).den C) j ((aM (ESh.encs C c.L b) j).den C)
      rcases Nat.lt_or_ge j c.L.length with hj | hj
      ·have:=h5 j hj
       rwa [Nat.zero_add] at this
      ·rw [lU _ _ (by rw [iZ]; exact hj)]
       show σ[j]?=none
       exact List.getElem?_eq_none (by omega)
     ·have e1:σ[j]?=some i:=e
      have e2:σ[j']?=some i:=e'
      obtain ⟨h1,h1'⟩:=List.getElem?_eq_some_iff.1 e1
      obtain ⟨h2',h2''⟩:=List.getElem?_eq_some_iff.1 e2
      exact (List.getElem_inj h2).1 (h1'.trans h2''.symm)
   ·cases hh
  ·cases hh
 ·cases hh
def hits (C:Cod τ):List (Con τ)→List (TEnt τ)→List (TV τ)→Option (Hit τ)
 | [],_,_=>none
 | c :: r, h, args => match hit C c h args with
  | some x=>some x
  | none=>hits C r h args
theorem aJR {C:Cod τ} (hC:C.Ok) {h:List (TEnt τ)} {args:List (TV τ)} {x:Hit τ}:∀ {l:List (Con τ)},hits C l h args=some x→x.c∈l∧sW C h args x
 | [],hh=>by cases hh
 | c :: r, hh => by
  simp only [hits] at hh
  split at hh
  ·rename_i y hy
   cases hh
   obtain ⟨h1,h2⟩:=hit_ok hC hy
   exact ⟨h1▸List.mem_cons_self,h2⟩
  ·obtain ⟨h1,h2⟩:=aJR hC (l:=r) hh
   exact ⟨List.mem_cons_of_mem _ h1,h2⟩
def TEnt.ren (s:Nat→Nat):TEnt τ→TEnt τ
 | .box x=>.box (x.ren s)
 | .ibox x=>.ibox (x.ren s)
 | .rcd f k ts=>.rcd f k (TV.rens s ts)
 | e=>e
theorem ent_up {C:Cod τ} (hC:C.Ok) (s:Nat→Nat) (e:TEnt τ):iH s (e.den C) ((e.ren s).den C):=by
 cases e with
 | gbx t l =>
  refine ⟨_,rfl,rfl,fun k x y hx hy g g' v hI hρ hv=>?_⟩
  rw [hx] at hy; cases hy
  obtain ⟨z,_,hz⟩:=List.mem_flatMap.1 (List.mem_of_getElem? hx)
  obtain ⟨k',hk'⟩:=List.getElem?_of_mem hz
  exact mQ ((hC.noid _ z).get hk') hI hv
 | box x=>exact ⟨_,rfl,(sR hC s x).2.1,(sR hC s x).2.2⟩
 | ibox x=>exact ⟨_,rfl,(sR hC s x).2.1,(sR hC s x).2.2⟩
 | rcd f k ts=>exact ⟨_,rfl,(sS hC s ts).1.1,(sS hC s ts).1.2⟩
 | pool t ms =>
  refine ⟨_,rfl,rfl,fun q l' hl=>⟨l',hl,rfl,fun k x y hx hy g g' v hI hρ hv=>?_⟩⟩
  rw [hx] at hy; cases hy
  obtain ⟨l,_,rfl⟩:=aNO hl
  obtain ⟨z,_,hz⟩:=List.mem_flatMap.1 (List.mem_of_getElem? hx)
  obtain ⟨k',hk'⟩:=List.getElem?_of_mem hz
  exact mQ ((hC.noid _ z).get hk') hI hv
 | _=>rfl
def oB (s:Nat→Nat):List (TEnt τ)→Nat→List (Nat×TEnt τ)
 | [],_=>[]
 | e :: r,j=>(s j,e.ren s) :: oB s r (j+1)
theorem aJS (C:Cod τ) (s:Nat→Nat):∀ (l:List (TEnt τ)) (j:Nat) (H:Nat→Ent) (k:Nat),(∀ i,i < l.length→k≠s (j+i))→app H (bP C (oB s l j)) k=H k
 | [],j,H,k,h=>rfl
 | e :: r, j, H, k, h => by
  simp only [oB,bP,List.map_cons,app]
  have:=aJS C s r (j+1) (upd H (s j) ((e.ren s).den C)) k (fun i hi=>by rw [show j+1+i=j+(i+1) by omega]; exact h (i+1) (by simpa using hi))
  simp only [bP] at this
  rw [this,aJ _ _ (by have:=h 0 (by simp); simpa using this)]
theorem aNQ (C:Cod τ) (s:Nat→Nat):∀ (l:List (TEnt τ)) (j:Nat) (H:Nat→Ent),(∀ i i',i < l.length→i' < l.length→s (j+i)=s (j+i')→i=i')→∀ i,i < l.length →
  app H (bP C (oB s l j)) (s (j+i))=((aM l i).ren s).den C
 | [],j,H,hs,i,hi=>by simp at hi
 | e :: r, j, H, hs, 0, hi => by
  simp only [oB,bP,List.map_cons,app,Nat.add_zero]
  have:=aJS C s r (j+1) (upd H (s j) ((e.ren s).den C)) (s j) (fun i hi e=>by
   have:=hs 0 (i+1) (by simp) (by simpa using hi) (by rw [Nat.add_zero,e,show j+1+i=j+(i+1) by omega])
   omega)
  simp only [bP] at this
  rw [this,aR]; rfl
 | e :: r, j, H, hs, i + 1, hi => by
  simp only [oB,bP,List.map_cons,app]
  have:=aNQ C s r (j+1) (upd H (s j) ((e.ren s).den C)) (fun a b ha hb e=>by
   have:=hs (a+1) (b+1) (by simpa using ha) (by simpa using hb) (by rw [show j+(a+1)=j+1+a by omega,show j+(b+1)=j+1+b by omega]; exact e)
   omega) i (by simpa using hi)
  simp only [bP] at this
  rw [show j+(i+1)=j+1+i by omega,this]; rfl
def aAq (val:Operand→TV τ) (o:Op):Option (FuncId×List (TV τ)) :=
 match o with
 | .call c => (match c.callee with
  | .value f => (match val f with
   | .fn fid cap=>bif Nat.beq fid kR then none else some (fid,(c.args.toList.map val)++cap)
   | .yld id=>some (kR,.yld id :: c.args.toList.map val)
   | _=>none)
  | _=>none)
 | _=>none
def iI (σ:List Nat) (n:Nat) (o:TV τ×List (TEnt τ)):bG τ :=
 { r:=o.1.ren (σup σ n),U:=oB (σup σ n) o.2 0,F:=(List.range' 0 o.2.length).map (σup σ n) }
theorem aDj {D:TEnv τ} (hD:D.Ok) {h:List (TEnt τ)} {args:List (TV τ)} {x:Hit τ} (hx:sW D.C h args x) {out:TV τ×List (TEnt τ)} (hq:x.c.L.length≤out.2.length) {X:Array Value→World→(Ending→World→Prop)→Prop} (hmono:∀ {c w R R'},X c w R→(∀ e w',R e w'→R' e w')→X c w R')
  (hs:∀ g w (cargs:Array Value),WRelP g (aH ((ESh.encs D.C x.c.L x.b).map (TEnt.den D.C))) w→LRel g (TV.denL D.C (Sh.encs D.C x.c.args x.a)) cargs.toList→X cargs w fun e w'=>∃ v g',e=.returned v∧VRel g' (out.1.den D.C) v∧EvoP g (aH ((ESh.encs D.C x.c.L x.b).map (TEnt.den D.C))) w g' (aH (out.2.map (TEnt.den D.C))) w')
  {H:Nat→Ent} {g:Gh} {w:World} (hr:WRelP g H w) (hH:∀ id∈(iI x.σ h.length out).F,H id=(aM h id).den D.C) {cargs:Array Value} (hargs:LRel g (TV.denL D.C args) cargs.toList) :
  X cargs w fun e w'=>∃ v g',e=.returned v∧VRel g' ((iI x.σ h.length out).r.den D.C) v∧EvoP g H w g' (app H (bP D.C (iI x.σ h.length out).U)) w'∧((∀ p ms,aH ((ESh.encs D.C x.c.L x.b).map (TEnt.den D.C)) p≠.pool ms)→g'.α=g.α):=by
 -- names handed in, and new ones
 have hσF:∀ j,j < out.2.length→σup x.σ h.length j∈(iI x.σ h.length out).F:=fun j hj=>by
  simp only [iI,List.mem_map]
  exact ⟨j,by simp [List.mem_range']; exact hj,rfl⟩
 have hup1:∀ j k,x.σ[j]?=some k→σup x.σ h.length j=k:=fun j k e=>by simp [σup,List.getD,e]
 have hup2:∀ j,x.σ.length≤j→σup x.σ h.length j=h.length+(j - x.σ.length):=fun j hj=>by simp [σup,List.getD,List.getElem?_eq_none hj]
 have hH':∀ j k,x.σ[j]?=some k→H k=(aM h k).den D.C:=fun j k e=>by
  have hj:=(List.getElem?_eq_some_iff.1 e).1
  have:=hσF j (by have:=hx.len; omega)
  rw [hup1 j k e] at this
  exact hH k this
 have hren:Rens (θσ x.σ) (H) (aH ((ESh.encs D.C x.c.L x.b).map (TEnt.den D.C))):=by
  refine ⟨fun j=>?_,fun j j' i hl hl' e e'=>hx.rens.inj j j' i (by rw [gY] at hl; exact hl) (by rw [gY] at hl'; exact hl') e e'⟩
  rw [gY]
  have h0:=hx.rens.ent j
  cases he:(aM (ESh.encs D.C x.c.L x.b) j).den D.C with
  | unborn=>rw [he] at h0; exact h0
  | dead=>trivial
  | box l=>rw [he] at h0; obtain ⟨i,l0,a1,a2,a3⟩:=h0; exact ⟨i,l0,a1,(hH' j i a1).trans a2,a3⟩
  | ibox l=>rw [he] at h0; obtain ⟨i,l0,a1,a2,a3⟩:=h0; exact ⟨i,l0,a1,(hH' j i a1).trans a2,a3⟩
  | gbx l =>
   rw [he] at h0
   rcases h0 with h0 | ⟨i,l0,a1,a2,a3⟩
   ·exact .inl h0
   ·exact .inr ⟨i,l0,a1,(hH' j i a1).trans a2,a3⟩
  | tail =>
   rw [he] at h0
   rcases h0 with h0 | ⟨i,a1,a2⟩
   ·exact .inl h0
   ·exact .inr ⟨i,a1,(hH' j i a1).trans a2⟩
  | rcd ps asg body l=>rw [he] at h0; obtain ⟨i,l0,a1,a2,a3⟩:=h0; exact ⟨i,l0,a1,(hH' j i a1).trans a2,a3⟩
  | rdn c=>rw [he] at h0; obtain ⟨i,a1,a2⟩:=h0; exact ⟨i,a1,(hH' j i a1).trans a2⟩
  | pool ms=>rw [he] at h0; obtain ⟨i,l0,a1,a2,a3⟩:=h0; exact ⟨i,l0,a1,(hH' j i a1).trans a2,a3⟩
 refine (aWt (X:=X) hmono (Hg:=fun _=>True) (args:=TV.denL D.C (Sh.encs D.C x.c.args x.a)) (L:=(ESh.encs D.C x.c.L x.b).map (TEnt.den D.C)) (L':=out.2.map (TEnt.den D.C)) (r:=out.1.den D.C) (fun g w cargs _=>hs g w cargs) hr (σ:=x.σ) (n:=h.length) (q:=out.2.length - x.c.L.length) (H2:=app H (bP D.C (iI x.σ h.length out).U)) (r2:=(iI x.σ h.length out).r.den D.C)
  (by rw [List.length_map,iZ,hx.len]) (by rw [List.length_map,hx.len]; omega) hx.nd hx.lt (fun k h1 h2=>?_) hren (hx.args.lrel hargs) (fun k=>?_) (fun g1 g2 v hI' hρ hv'=>?_) trivial)
 ·have hk:σup x.σ h.length (x.σ.length+(k - h.length))=k:=by rw [hup2 _ (by omega)]; omega
  have:=hσF (x.σ.length+(k - h.length)) (by have:=hx.len; omega)
  rw [hk] at this
  rw [hH k this,lU _ _ h1]; rfl
 ·have hinj:∀ i i',i < out.2.length→i' < out.2.length→σup x.σ h.length (0+i)=σup x.σ h.length (0+i')→i=i':=fun i i' hi hi' e=>by
   rw [Nat.zero_add,Nat.zero_add] at e
   rcases Nat.lt_or_ge i x.σ.length with h1 | h1<;>rcases Nat.lt_or_ge i' x.σ.length with h2 | h2
   ·rw [hup1 i _ (List.getElem?_eq_getElem h1),hup1 i' _ (List.getElem?_eq_getElem h2)] at e
    exact (List.getElem_inj hx.nd).1 e
   ·rw [hup1 i _ (List.getElem?_eq_getElem h1),hup2 i' h2] at e
    have:=hx.lt _ (List.getElem_mem h1); omega
   ·rw [hup2 i h1,hup1 i' _ (List.getElem?_eq_getElem h2)] at e
    have:=hx.lt _ (List.getElem_mem h2); omega
   ·rw [hup2 i h1,hup2 i' h2] at e; omega
  have hq':=hx.len
  cases hk:σdn x.σ h.length (out.2.length - x.c.L.length) k with
  | some j =>
   have hjk:σup x.σ h.length j=k∧j < out.2.length:=by
    unfold σdn at hk
    split at hk
    ·rename_i hc
     cases hk
     exact ⟨by rw [hup2 _ (by omega)]; omega,by omega⟩
    ·rw [List.idxOf?_eq_some_iff] at hk
     obtain ⟨a1,a2,_⟩:=hk
     have a2':x.σ[j]=k:=by simpa using a2
     exact ⟨hup1 j k (by rw [List.getElem?_eq_getElem a1,a2']),by omega⟩
   have:=aNQ D.C (σup x.σ h.length) out.2 0 (H) hinj j hjk.2
   rw [Nat.zero_add,hjk.1] at this
   show iH _ _ (app H (bP D.C (oB (σup x.σ h.length) out.2 0)) k)
   rw [this,gY]
   exact ent_up hD.C _ _
  | none =>
   simp only [iI]
   refine aJS D.C _ _ 0 _ k fun i hi e=>?_
   rw [Nat.zero_add] at e
   unfold σdn at hk
   split at hk
   ·cases hk
   ·rename_i hc
    rcases Nat.lt_or_ge i x.σ.length with h1 | h1
    ·rw [hup1 i _ (List.getElem?_eq_getElem h1)] at e
     rw [List.idxOf?_eq_none_iff] at hk
     exact hk (e▸List.getElem_mem h1)
    ·rw [hup2 i h1] at e
     omega
 ·exact (sR hD.C _ _).1 g1 g2 v hI' hρ hv'
def oC (L:List ESh):Bool:=L.all fun e=>!e.isPool
theorem aNR {C:Cod τ}:∀ {L:List ESh} (b:ESh.Ts τ L),oC L=true→∀ p ms,aH ((ESh.encs C L b).map (TEnt.den C)) p≠.pool ms
 | [],b,_,p,ms,e=>by cases p<;>cases e
 | e0 :: r, b, h, 0, ms, e => by
  simp only [oC,List.all_cons,Bool.and_eq_true] at h
  cases e0 with
  | pool t=>exact absurd h.1 (by simp [ESh.isPool])
  | _=>simp only [ESh.encs,ESh.enc,List.map_cons,aH,TEnt.den] at e; cases e
 | e0 :: r, b, h, p + 1, ms, e => by
  simp only [oC,List.all_cons,Bool.and_eq_true] at h
  exact aNR (L:=r) b.2 h.2 p ms e
theorem aDk {D:TEnv τ} (hD:D.Ok) {o:Oper} {val:Operand→TV τ} {h:List (TEnt τ)} {f:FuncId} {args:List (TV τ)}
  (hc:aAq val o.op=some (f,args)) {x:Hit τ} (hx:sW D.C h args x) {out:TV τ×List (TEnt τ)}
  (hs:SpecB (Nat.beq f kR) x.c.ext D.E f (TV.denL D.C (Sh.encs D.C x.c.args x.a)) ((ESh.encs D.C x.c.L x.b).map (TEnt.den D.C)) (out.1.den D.C) (out.2.map (TEnt.den D.C))) (hq:x.c.L.length≤out.2.length) :
  CoreOk D.E D.C (oC x.c.L) o val (aM h) (iI x.σ h.length out).r (iI x.σ h.length out).U (iI x.σ h.length out).F:=by
 intro H g a w hr hrel hH _ next Q hn
 have hnp:oC x.c.L=true→∀ p ms,aH ((ESh.encs D.C x.c.L x.b).map (TEnt.den D.C)) p≠.pool ms:=aNR x.b
 unfold aAq at hc
 split at hc
 ·rename_i c ho
  split at hc
  ·rename_i fo hcal
   split at hc
   ·rename_i fid cap hf
    cases hy:Nat.beq fid kR with
    | true=>rw [hy] at hc; cases hc
    | false =>
    rw [hy] at hc
    simp only [cond_false,Option.some.injEq,Prod.mk.injEq] at hc
    obtain ⟨rfl,rfl⟩:=hc
    rw [hy] at hs
    have hop:bB o.op=[fo]++c.args.toList:=by rw [ho]; simp only [bB,hcal]
    have hfr:=hrel fo (by rw [hop]; simp)
    rw [hf] at hfr
    simp only [TV.den,kP] at hfr
    have hargs:∀ cs:Array Value,LRel g (cap.map (TV.den D.C)) cs.toList→LRel g (TV.denL D.C ((c.args.toList.map val)++cap)) (c.args.map a.eval++cs).toList:=fun cs hcs=>by
     rw [kP,List.map_append,Array.toList_append]
     refine LRel.append ⟨by simp,fun k y v e e'=>?_⟩ hcs
     simp at e e'
     obtain ⟨z,hz,rfl⟩:=e
     rw [hz] at e'
     simp at e'; subst e'
     exact hrel z (by rw [hop]; simp; right; exact Array.mem_of_getElem? hz)
    cases hxe:x.c.ext with
    | true =>
     rw [hxe] at hs
     replace hs:XSpec D.E fid (TV.denL D.C (Sh.encs D.C x.c.args x.a)) ((ESh.encs D.C x.c.L x.b).map (TEnt.den D.C)) (out.1.den D.C) (out.2.map (TEnt.den D.C)):=hs
     generalize hvf:a.eval fo=vf at hfr
     cases hfr with
     | fn e1 e2 =>
      rename_i cs
      obtain ⟨v,w',hrun',v2,g',hve,hv',hev,hα⟩:=aDj hD hx hq (X:=fun c w R=>∃ v w',(callFunc fid c).run D.E.P w=.ok (.value v) w'∧R (.returned v) w') (fun h hr=>by obtain ⟨v,w',h1,h2⟩:=h; exact ⟨v,w',h1,hr _ _ h2⟩)
       (fun g w cargs hw hl=>by obtain ⟨v,w',g',h1,h2,h3⟩:=hs g w cargs hw hl; exact ⟨v,w',h1,v,g',rfl,h2,h3⟩) hr hH (hargs cs ⟨by simpa using e1,fun k y v e e'=>e2 k y v e (by simpa using e')⟩)
      cases hve
      have hrun:(execOp a.eval o).run D.E.P w=.ok (.value v) w':=by
       rw [← hrun']
       simp [execOp,ho,resolve,hcal,hvf,Deferred.ofValue,invoke]
      refine aAi hrun (fun d=>by simp) ?_
      exact hn v g' w' hv' hev fun hf=>hα (hnp hf)
    | false =>
    rw [hxe] at hs
    replace hs:FnSpec D.E fid (TV.denL D.C (Sh.encs D.C x.c.args x.a)) ((ESh.encs D.C x.c.L x.b).map (TEnt.den D.C)) (out.1.den D.C) (out.2.map (TEnt.den D.C)):=hs
    obtain ⟨fn,h1,h2,h3⟩:=hs.1
    generalize hvf:a.eval fo=vf at hfr
    cases hfr with
    | fn e1 e2 =>
     rename_i cs
     have hb:fn.body≠none:=fun e=>by rw [e] at h2; cases h2
     have h3' : ¬ fn.name = "runtime.NumGoroutine" := by simpa using h3
     have hrun:(execOp a.eval o).run D.E.P w=.ok (.enter fid (c.args.map a.eval++cs)) w:=by
      simp [execOp,ho,resolve,hcal,hvf,Deferred.ofValue,invoke,callFunc,h1,h3',hb]
     replace hargs:=hargs cs ⟨by simpa using e1,fun k y v e e'=>e2 k y v e (by simpa using e')⟩
     refine aAi hrun (fun d=>by simp) ?_
     refine ⟨fun h=>(by cases h),?_⟩
     refine (callsIn_wide (n:=0)).2 ((aDj hD hx hq (X:=fun c w R=>Calls D.E.P fid c w R) (fun h hr=>Calls.mono h hr) (fun g w cargs=>hs.2 g w cargs) hr hH hargs).mono ?_)
     rintro e w' ⟨v,g',rfl,hv',hev,hα⟩
     exact hn v g' w' hv' hev fun hf=>hα (hnp hf)
   ·rename_i id hf
    simp only [Option.some.injEq,Prod.mk.injEq] at hc
    obtain ⟨rfl,rfl⟩:=hc
    replace hs:YSpec D.E (TV.denL D.C (Sh.encs D.C x.c.args x.a)) ((ESh.encs D.C x.c.L x.b).map (TEnt.den D.C)) (out.1.den D.C) (out.2.map (TEnt.den D.C)):=hs
    have hop:bB o.op=[fo]++c.args.toList:=by rw [ho]; simp only [bB,hcal]
    have hfr:=hrel fo (by rw [hop]; simp)
    rw [hf] at hfr
    simp only [TV.den] at hfr
    generalize hvf:a.eval fo=vf at hfr
    cases hfr with
    | @yld _ l e1 =>
     have hargs:LRel g (TV.denL D.C (.yld id :: c.args.toList.map val)) (#[Value.func (.yield l) #[] #[]]++c.args.map a.eval).toList:=by
      rw [kP,List.map_cons,Array.toList_append]
      refine LRel.cons (.yld e1) ⟨by simp,fun k y v e e'=>?_⟩
      simp at e e'
      obtain ⟨z,hz,rfl⟩:=e
      rw [hz] at e'
      simp at e'; subst e'
      exact hrel z (by rw [hop]; simp; right; exact Array.mem_of_getElem? hz)
     have key:=aDj hD hx hq (X:=fun c w R=>∀ cargs,c=#[Value.func (.yield l) #[] #[]]++cargs→YieldAt Fence.wide 0 D.E.P l cargs w R)
      (fun h hr cargs hc=>by
       obtain ⟨fn,tm,asg,bd,h1,h2⟩:=h cargs hc
       exact ⟨fn,tm,asg,bd,h1,h2.mono hr⟩) (fun g w cargs hw hl cargs' hc=>by subst hc; exact hs g w cargs' l hw hl) hr hH hargs (c.args.map a.eval) rfl
     obtain ⟨fn,tm,asg,bd,h1,h2⟩:=key
     have hrun:(execOp a.eval o).run D.E.P w=.ok (.round l fn tm asg bd) w:=by
      simp only [execOp,ho,resolve,hcal,hvf]
      simpa [Deferred.ofValue,invoke] using h1
     refine aAi hrun (fun d=>by simp) ?_
     refine ⟨fun h=>(by cases h),?_⟩
     refine RoundIn.mono (F:=fe D.E) h2 ?_
     rintro e w' ⟨v,g',rfl,hv',hev,hα⟩
     exact hn v g' w' hv' hev fun hf=>hα (hnp hf)
   ·cases hc
  ·cases hc
 ·cases hc
end
end Go.Ev
