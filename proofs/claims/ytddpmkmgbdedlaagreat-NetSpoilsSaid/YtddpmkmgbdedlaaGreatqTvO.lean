/-
The typed layer: loops' heads.
-/
import Derived.Test.YtddpmkmgbdedlaaGreatqTvZ
set_option linter.unusedVariables false
set_option linter.unusedSimpArgs false
namespace Go.Ev
open Go
inductive Sl where
 | keep | junk
 | sh (s:Sh)
section
variable {τ:Nat→Type}
def Sl.T (τ:Nat→Type):Sl→Type
 | .sh s=>s.T τ
 | _=>Unit
def Sl.Ts (τ:Nat→Type):List Sl→Type
 | []=>Unit
 | s :: r=>Sl.T τ s×Sl.Ts τ r
structure Lp (τ:Nat→Type) where
 ts:List Sl
 hs:List ESh
 S:Type
 to:Sl.Ts τ ts→ESh.Ts τ hs→S
 ot:S→Sl.Ts τ ts
 oh:S→ESh.Ts τ hs
 hk:List Nat
 tk:List Nat
 ot_to:∀ a b,ot (to a b)=a
 oh_to:∀ a b,oh (to a b)=b
def slE (C:Cod τ) (x:TV τ):(l:Sl)→l.T τ→TV τ
 | .keep,_=>x
 | .junk,_=>.junk
 | .sh s,a=>s.enc C a
def jS (C:Cod τ):List (TV τ)→(l:List Sl)→Sl.Ts τ l→List (TV τ)
 | [],_,_=>[]
 | _ :: r,[],p=>.junk :: jS C r [] p
 | x :: r,s :: l,p=>slE C x s p.1 :: jS C r l p.2
def sX (C:Cod τ) (x:TEnt τ):(e:ESh)→e.T τ→TEnt τ
 | .keep,_=>x
 | .box s,a=>.box (s.enc C a)
 | .gbx e,l=>.gbx e l
 | .tail,_=>.tail
 | .dead,_=>.dead
 | .rcd f k l,a=>.rcd f k (Sh.encs C l a)
 | .rdn,e=>.rdn e
 | .pool t,ms=>.pool t ms
def kS (C:Cod τ) (h:List (TEnt τ)):(l:List ESh)→Nat→ESh.Ts τ l→List (TEnt τ)
 | [],_,_=>[]
 | e :: l,i,p=>sX C (aM h i) e p.1 :: kS C h l (i+1) p.2
def Lp.head (C:Cod τ) (lp:Lp τ) (st:TSt τ) (s:lp.S):TSt τ:=⟨jS C st.t lp.ts (lp.ot s),kS C st.h lp.hs 0 (lp.oh s),[],[],[]⟩
mutual
def TV.idsOk (θ:Nat→Option Nat):TV τ→Bool
 | .ptr id _=>eY (θ id) (some id)
 | .sl _ _ k=>(match k with | .own id | .tl id | .brw id=>eY (θ id) (some id) | _=>true)
 | .msl _ id _=>eY (θ id) (some id)
 | .wsl _ id _ _ _ _=>eY (θ id) (some id)
 | .hsl _ _ _ _ _ _=>true
 | .hptr _ _ _=>true
 | .ls _ l=>TV.idsOks θ l
 | .any1=>true
 | .yld id=>eY (θ id) (some id)
 | .agg l=>TV.idsOks θ l
 | .tup l=>TV.idsOks θ l
 | .ipt x=>TV.idsOk θ x
 | .fn _ l=>TV.idsOks θ l
 | .cnd _ _ _ _=>false
 | .int _ _=>true
 | .bool _=>true
 | .str _=>true
 | .nil _=>true
 | .arr _ _ _=>true
 | .junk=>true
def TV.idsOks (θ:Nat→Option Nat):List (TV τ)→Bool
 | []=>true
 | x :: r=>TV.idsOk θ x&&TV.idsOks θ r
end
theorem sY {a b:Option Nat} (h:eY a b=true):a=b:=by
 unfold eY at h
 split at h
 ·rw [Nat.eq_of_beq_eq_true h]
 ·cases h
theorem RW.noid' {θ:Nat→Option Nat} {x:AV} (hn:NoId x):RW θ x x:=RW.noid (W.refl x) hn
mutual
theorem aAr {C:Cod τ} (hC:C.Ok) {θ:Nat→Option Nat}:∀ x:TV τ,x.idsOk θ=true→RW θ (x.den C) (x.den C)∧RWs θ (x.cells C) (x.cells C)
 | .ptr id p, h => by
  have h1:=sY (show eY (θ id) (some id)=true from h)
  have hw:RW θ (dW id p) (dW id p):=fun g v hv=>by
   obtain ⟨hb,hv'⟩:=kO hv
   simp only [dW,hb,cond_true]
   cases hv' with
   | ptr e=>exact .ptr (by rw [dY h1]; exact e)
  exact ⟨hw,.one hw⟩
 | .sl t l k, h => by
  have hw:RW θ (cW C t l k) (cW C t l k):=fun g v hv=>by
   cases k with
   | any=>exact mQ (g:=g) (g':=g.ren θ) (NoId.asl (gE hC t l)) ⟨rfl,fun _ _ e=>e⟩ hv
   | nn=>exact mQ (g:=g) (g':=g.ren θ) (NoId.nsl (gE hC t l)) ⟨rfl,fun _ _ e=>e⟩ hv
   | non=>exact nX (g:=g) (g':=g.ren θ) (tok:=.no) (tok':=.no) ⟨rfl,fun _ _ e=>e⟩ (gE hC t l) (fun _ _ _ _ h=>h) hv
   | full=>exact nX (g:=g) (g':=g.ren θ) (tok:=.full) (tok':=.full) ⟨rfl,fun _ _ e=>e⟩ (gE hC t l) (fun _ _ _ _ h=>h) hv
   | own id =>
    have h1:=sY (show eY (θ id) (some id)=true from h)
    exact wI (g:=g) (g':=g.ren θ) ⟨rfl,fun _ _ e=>e⟩ (gE hC t l) (fun p hp=>by rw [dY h1]; exact hp) hv
   | brw id =>
    have h1:=sY (show eY (θ id) (some id)=true from h)
    exact wI (g:=g) (g':=g.ren θ) ⟨rfl,fun _ _ e=>e⟩ (gE hC t l) (fun p hp=>by rw [dY h1]; exact hp) hv
   | tl id =>
    have h1:=sY (show eY (θ id) (some id)=true from h)
    exact nX (g:=g) (g':=g.ren θ) (tok:=.tail id) (tok':=.tail id) ⟨rfl,fun _ _ e=>e⟩ (gE hC t l) (fun b o len cap ⟨n,h1',h2⟩=>⟨n,by rw [dY h1]; exact h1',h2⟩) hv
  exact ⟨hw,.one hw⟩
 | .agg l, h => by
  have h1:=(wM hC l h).2.1
  exact ⟨RW.agg h1,h1⟩
 | .tup l, h => by
  have h1:=(wM hC l h).1
  exact ⟨RW.tup h1,RWs.one fun g v hv=>.junk v⟩
 | .ipt x, h => by
  have h1:=(aAr hC x h).2
  have hw:RW θ (.iptr (x.cells C) 0) (.iptr (x.cells C) 0):=fun g v hv=>by
   cases hv with
   | iptr c e1 e2=>exact .iptr c e1 fun k y hy=>h1.2 k y y hy hy g _ (e2 k y hy)
  exact ⟨hw,.one hw⟩
 | .fn f l, h => by
  have hw:RW θ (.fn f (TV.denL C l)) (.fn f (TV.denL C l)):=RW.fn (wM hC l h).1
  exact ⟨hw,.one hw⟩
 | .ls s l, h => by
  have hw:RW θ (.sl s (TV.cellsE C l) .full) (.sl s (TV.cellsE C l) .full):=(wM hC l h).2.2.sl
  exact ⟨hw,.one hw⟩
 | .msl t id n, h => by
  have h1:=sY (show eY (θ id) (some id)=true from h)
  have hw:RW θ (.bsl id 0 n (C.sz t)) (.bsl id 0 n (C.sz t)):=fun g v hv=>by
   cases hv with
   | bsl q1 q2 q3=>exact .bsl (by rw [dY h1]; exact q1) q2 q3
   | bsl0=>exact .bsl0
  exact ⟨hw,.one hw⟩
 | .wsl t id o n c nn, h => by
  have h1:=sY (show eY (θ id) (some id)=true from h)
  have hw:RW θ (.wsl id (o * C.sz t) n c nn (C.sz t)) (.wsl id (o * C.sz t) n c nn (C.sz t)):=fun g v hv=>by
   cases hv with
   | wsl q1 q2 q3 q4=>exact .wsl (by rw [dY h1]; exact q1) q2 q3 q4
   | wsl0 q=>exact .wsl0 q
  exact ⟨hw,.one hw⟩
 | .hsl t j o n c nn, _ => by
  have hw:RW θ (.hsl j (o * C.sz t) n c nn (C.sz t)) (.hsl j (o * C.sz t) n c nn (C.sz t)):=RW.noid' NoId.hsl
  exact ⟨hw,.one hw⟩
 | .hptr t j p, _ => by
  have hw:RW θ (jP j p) (jP j p):=RW.noid' (aNC j p)
  exact ⟨hw,.one hw⟩
 | .any1, _ => by
  have hw:RW θ .any1 .any1:=RW.noid' NoId.any1
  exact ⟨hw,.one hw⟩
 | .yld id, h => by
  have h1:=sY (show eY (θ id) (some id)=true from h)
  have hw:RW θ (.yld id) (.yld id):=fun g v hv=>by
   cases hv with
   | yld e=>exact .yld (by rw [dY h1]; exact e)
  exact ⟨hw,.one hw⟩
 | .cnd _ _ _ _,h=>by cases h
 | .int k n,_=>⟨RW.noid' (NoId.v _),.one (RW.noid' (NoId.v _))⟩
 | .bool b,_=>⟨RW.noid' (NoId.v _),.one (RW.noid' (NoId.v _))⟩
 | .str l,_=>⟨RW.noid' (NoId.v _),.one (RW.noid' (NoId.v _))⟩
 | .nil k,_=>⟨RW.noid' (NoId.v _),.one (RW.noid' (NoId.v _))⟩
 | .arr t n v, _ => by
  have hn:NoIds (v.toList.flatMap (C.cel t)):=NoIds.of_all fun x hx=>by
   obtain ⟨a,_,ha⟩:=List.mem_flatMap.1 hx
   obtain ⟨k,hk⟩:=List.getElem?_of_mem ha
   exact (hC.noid t a).get hk
  have h1:RWs θ (v.toList.flatMap (C.cel t)) (v.toList.flatMap (C.cel t)):=.noids (.refl _) hn
  exact ⟨RW.agg h1,h1⟩
 | .junk,_=>⟨fun g v _=>.junk v,.one fun g v _=>.junk v⟩
theorem wM {C:Cod τ} (hC:C.Ok) {θ:Nat→Option Nat}:∀ l:List (TV τ),TV.idsOks θ l=true→RWs θ (TV.denL C l) (TV.denL C l)∧RWs θ (TV.cellsL C l) (TV.cellsL C l)∧RWE θ (TV.cellsE C l) (TV.cellsE C l)
 | [],_=>⟨.nil,.nil,.nil⟩
 | x :: r, h => by
  simp only [TV.idsOks,Bool.and_eq_true] at h
  obtain ⟨h1,h2⟩:=aAr hC x h.1
  obtain ⟨h3,h4,h5⟩:=wM hC r h.2
  exact ⟨RWs.append (a:=[_]) (a':=[_]) (.one h1) h3,h2.append h4,.cons h2 h5⟩
end
def TEnt.idsOk (θ:Nat→Option Nat):TEnt τ→Bool
 | .box x=>x.idsOk θ
 | .ibox x=>x.idsOk θ
 | .unborn=>false
 | .rcd _ _ ts=>TV.idsOks θ ts
 | _=>true
def slD (C:Cod τ) (x:TV τ):(l:Sl)→Option (l.T τ×Prs)
 | .keep=>some ((),[])
 | .junk=>some ((),[])
 | .sh s=>s.dec C x
def kE (C:Cod τ):List (TV τ)→(l:List Sl)→Option (Sl.Ts τ l×Prs)
 | _,[]=>some ((),[])
 | [], s :: l => match slD C .junk s, kE C [] l with
  | some (a,ps),some (b,qs)=>some ((a,b),ps++qs)
  | _,_=>none
 | x :: r, s :: l => match slD C x s, kE C r l with
  | some (a,ps),some (b,qs)=>some ((a,b),ps++qs)
  | _,_=>none
def gbxD (e:Nat) (x:TEnt τ):Option (List (τ e)):=match x with | .gbx t l=>eF (t:=t) e l | _=>none
def entD (C:Cod τ) (h:List (TEnt τ)) (ps0:Prs) (i:Nat):(e:ESh)→Option (e.T τ×Prs)
 | .keep=>some ((),[(i,some i)])
 | .box s => (match mU ps0 i with
  | some none=>none
  | some (some n) => (match aM h n with
   | .box y=>(match s.dec C y with | some (a,ps)=>some (a,(i,some n) :: ps) | none=>none)
   | _=>none)
  | none => (match aM h i with
   | .box y=>(match s.dec C y with | some (a,ps)=>some (a,(i,some i) :: ps) | none=>none)
   | _=>none))
 | .gbx e => (match mU ps0 i with
  | some none=>some (([]:List (τ e)),[(i,none)])
  | some (some n)=>(match gbxD e (aM h n) with | some l=>some (l,[(i,some n)]) | none=>none)
  | none=>(match gbxD e (aM h i) with | some l=>some (l,[(i,some i)]) | none=>none))
 | .tail=>some ((),[])
 | .dead=>some ((),[(i,some i)])
 | .rcd f k l => (match aM h i with
  | .rcd f' k' ts=>bif Nat.beq f f'&&Nat.beq k k' then (match Sh.decs C l ts with | some (a,ps)=>some (a,(i,some i) :: ps) | none=>none) else none
  | _=>none)
 | .rdn=>(match aM h i with | .rdn e=>some (e,[(i,some i)]) | _=>none)
 | .pool t=>(match aM h i with | .pool t' ms=>(match sV (t:=t') t ms with | some l=>some (l,[(i,some i)]) | none=>none) | _=>none)
def decH (C:Cod τ) (h:List (TEnt τ)) (ps0:Prs):(l:List ESh)→Nat→Option (ESh.Ts τ l×Prs)
 | [],_=>some ((),[])
 | e :: l, i => match entD C h ps0 i e with
  | some (a, ps) => (match decH C h (ps0 ++ ps) l (i + 1) with
   | some (b,qs)=>some ((a,b),ps++qs)
   | none=>none)
  | none=>none
def θof (k0:Nat) (ps:Prs) (j:Nat):Option Nat:=bif Nat.blt j k0 then some j else match mU ps j with | some o=>o | none=>none
def aJT:Option Nat→Option Nat→Bool
 | some a,some b=>Nat.beq a b
 | none,none=>true
 | _,_=>false
def wN (θ:Nat→Option Nat) (ps:Prs):Bool:=ps.all fun p=>aJT (θ p.1) p.2
def mV (θ:Nat→Option Nat) (dt:List Nat):List (TV τ)→List Sl→Nat→Bool
 | [],_,_=>true
 | _ :: r,[],k=>mV θ dt r [] (k+1)
 | x :: r,s :: l,k=>(match s with | .keep=>!kQ k dt&&x.idsOk θ | _=>true)&&mV θ dt r l (k+1)
def wO (θ:Nat→Option Nat) (dh:List Nat) (h:List (TEnt τ)):List ESh→Nat→Bool
 | [],_=>true
 | e :: l, i => (match e with
  | .keep=>!kQ i dh&&(aM h i).idsOk θ
  | .tail=>(match θ i with | none=>true | some n=>(match aM h n with | .tail=>true | _=>false))
  | _=>true)&&wO θ dh h l (i+1)
def sZ (θ:Nat→Option Nat) (i:Nat):ESh→List Nat
 | .dead=>[]
 | _=>(match θ i with | some n=>[n] | none=>[])
def jA (θ:Nat→Option Nat):List ESh→Nat→List Nat
 | [],_=>[]
 | e :: l,i=>sZ θ i e++jA θ l (i+1)
theorem aDl {C:Cod τ} {θ:Nat→Option Nat} {i n:Nat} {e:ESh} {x:TEnt τ} {a:e.T τ} (hl:((sX C x e a).den C).live) (hn:θ i=some n):sZ θ i e=[n]:=by
 cases e with
 | dead=>exact hl.elim
 | _=>simp only [sZ,hn]
def Lp.dec (C:Cod τ) (k0:Nat) (lp:Lp τ) (st:TSt τ):Option lp.S :=
 match kE C st.t lp.ts with
 | none=>none
 | some (a,ps) =>
 match decH C st.h ps lp.hs 0 with
 | none=>none
 | some (b, qs) =>
  bif Nat.ble k0 lp.hs.length&&wN (θof k0 (ps++qs)) (ps++qs)&&(ps++qs).all (fun p=>Nat.blt p.1 lp.hs.length)&&mV (θof k0 (ps++qs)) st.dt st.t lp.ts 0&&wO (θof k0 (ps++qs)) st.dh st.h lp.hs 0&&oA (jA (θof k0 (ps++qs)) lp.hs 0)
  then some (lp.to a b) else none
def TEnt.kind:TEnt τ→Nat
 | .unborn=>0
 | .dead=>1
 | .box _=>2
 | .ibox _=>3
 | .gbx _ _=>4
 | .tail=>5
 | .rcd _ _ _=>6
 | .rdn _=>7
 | .pool _ _=>8
def aNS:List (TEnt τ)→List Nat→Bool
 | [],[]=>true
 | e :: r,k :: l=>Nat.beq e.kind k&&aNS r l
 | _,_=>false
def TV.kind:TV τ→Nat
 | .ptr id _=>id+2
 | .nil .ptr=>1
 | _=>0
def tkB:List (TV τ)→List Nat→Bool
 | [],_=>true
 | x :: r,[]=>Nat.beq x.kind 0&&tkB r []
 | x :: r,k :: l=>Nat.beq x.kind k&&tkB r l
def aNT (t:List (TV τ)) (h:List (TEnt τ)):List (Lp τ)→Option (Lp τ)
 | []=>none
 | lp :: r=>bif aNS h lp.hk&&tkB t lp.tk then some lp else aNT t h r
theorem aW9 {a b:Option Nat} (h:aJT a b=true):a=b:=by
 unfold aJT at h
 split at h
 ·rw [Nat.eq_of_beq_eq_true h]
 ·rfl
 ·cases h
theorem aNU {θ:Nat→Option Nat} {ps:Prs} (h:wN θ ps=true):okθ θ ps:=fun p hp=>aW9 (List.all_eq_true.1 h p hp)
theorem aXa {C:Cod τ} (hC:C.Ok) {θ:Nat→Option Nat} {s:Sh} {x:TV τ} {a:s.T τ} {ps:Prs} (h:s.dec C x=some (a,ps)) (hθ:okθ θ ps):RW θ (cO C x) (cO C (s.enc C a)):=by
 have h1:=(aAn hC s x a ps h hθ).1
 have enc':cO C (s.enc C a)=(s.enc C a).den C:=by
  cases s with
  | ty t =>
   have:=hC.ok t a
   show cO C (C.enc t a)=(C.enc t a).den C
   cases he:C.enc t a<;>first | rfl | (rw [he] at this; simp [TV.ok] at this)
  | _=>rfl
 rw [enc']
 cases x with
 | cnd d w b z =>
  cases s with
  | ty t =>
   have:=hC.decok t _ a (aNE h)
   simp [TV.ok] at this
  | junk=>exact fun g v hv=>.junk v
  | own e j=>exact nomatch h
  | nn e=>exact nomatch h
  | ptr j=>exact nomatch h
  | fn f=>exact nomatch h
  | nil k=>exact nomatch h
  | agg l=>exact nomatch h
  | tup l=>exact nomatch h
  | brw e j=>exact nomatch h
  | msl e j=>exact nomatch h
  | wsl e j=>exact nomatch h
  | any1=>rw [aNB] at h; simp [TV.ok] at h
  | yld j=>exact nomatch h
  | bo b=>exact nomatch h
  | ls s l=>exact nomatch h
 | _=>exact h1
theorem head_nocnd {C:Cod τ} (hC:C.Ok) (s:Sh) (a:s.T τ):∀ d w b x,s.enc C a≠.cnd d w b x:=fun d w b x e=>by
 cases s with
 | ty t =>
  have:=hC.ok t a
  have e':C.enc t a=.cnd d w b x:=e
  rw [e'] at this; simp [TV.ok] at this
 | own e j=>exact nomatch e
 | nn e=>exact nomatch e
 | ptr j=>exact nomatch e
 | fn f=>exact nomatch e
 | nil k=>exact nomatch e
 | agg l=>exact nomatch e
 | tup l=>exact nomatch e
 | brw e j=>exact nomatch e
 | msl e j=>exact nomatch e
 | wsl e j=>exact nomatch e
 | any1=>exact nomatch e
 | yld j=>exact nomatch e
 | bo b=>exact nomatch e
 | ls s l=>exact nomatch e
 | junk=>exact nomatch e
theorem aJU {C:Cod τ} (hC:C.Ok) {θ:Nat→Option Nat} {dt:List Nat}:∀ (t base:List (TV τ)) (l:List Sl) (a:Sl.Ts τ l) (ps:Prs) (k:Nat),t.length=base.length→kE C t l=some (a,ps)→okθ θ ps→mV θ dt t l k=true →
  (∀ j,l[j]?=some .keep→k+j ∉ dt→bT t j=bT base j)→RWs θ (t.map (cO C)) ((jS C base l a).map (cO C))
 | [],[],l,a,ps,k,_,h,hθ,hk,hb=>by simp only [jS,List.map_nil]; exact .nil
 | x :: r, y :: r', [], a, ps, k, hl, h, hθ, hk, hb => by
  have ih:=aJU hC r r' [] a ps (k+1) (by simpa using hl) (by cases r<;>exact h) hθ hk (fun j hj=>by simp at hj)
  simp only [jS,List.map_cons]
  exact RWs.append (a:=[_]) (a':=[_]) (.one fun g v _=>.junk v) ih
 | x :: r, y :: r', s :: l, a, ps, k, hl, h, hθ, hk, hb => by
  simp only [kE] at h
  split at h
  ·rename_i a1 ps1 b1 qs1 h1 h2
   have e1:=(Prod.mk.inj (Option.some.inj h)).1
   have e2:=(Prod.mk.inj (Option.some.inj h)).2
   subst e2
   simp only [mV,Bool.and_eq_true] at hk
   have ih:=aJU hC r r' l b1 qs1 (k+1) (by simpa using hl) h2 hθ.right hk.2 (fun j hl hj=>hb (j+1) (by simpa using hl) (by rw [show k+(j+1)=k+1+j by omega]; exact hj))
   rw [← e1]
   simp only [jS,List.map_cons]
   refine RWs.append (a:=[_]) (a':=[_]) (.one ?_) ih
   cases s with
   | keep =>
    have hk1:=hk.1
    simp only [Bool.and_eq_true,Bool.not_eq_true'] at hk1
    have hnd:k ∉ dt:=fun hm=>by rw [wJ.2 hm] at hk1; exact absurd hk1.1 (by simp)
    have hxy:x=y:=hb 0 rfl hnd
    subst hxy
    have:=(aAr hC x hk1.2).1
    show RW θ (cO C x) (cO C x)
    cases x<;>first | exact this | (exact absurd hk1.2 (by simp [TV.idsOk]))
   | junk=>exact fun g v _=>.junk v
   | sh sh=>exact aXa hC h1 hθ.left
  ·cases h
 | [],_ :: _,_,_,_,_,hl,_,_,_,_=>by simp at hl
 | _ :: _,[],_,_,_,_,hl,_,_,_,_=>by simp at hl
theorem aNV {C:Cod τ} (hC:C.Ok) {θ:Nat→Option Nat} {t:Nat} (l:List (τ t)):RWs θ (l.flatMap (C.cel t)) (l.flatMap (C.cel t)) :=
 RWs.noids (.refl _) (NoIds.of_all fun y hy=>by
  obtain ⟨z,_,hz⟩:=List.mem_flatMap.1 hy
  obtain ⟨k,hk⟩:=List.getElem?_of_mem hz
  exact (hC.noid _ z).get hk)
theorem aNW {C:Cod τ} (hC:C.Ok) {θ:Nat→Option Nat} {dh:List Nat} {ps0:Prs} {h base:List (TEnt τ)}:∀ (l:List ESh) (i:Nat) (b:ESh.Ts τ l) (ps:Prs),(∀ j,l[j]?=some .keep→i+j ∉ dh→aM h (i+j)=aM base (i+j))→decH C h ps0 l i=some (b,ps)→okθ θ ps→wO θ dh h l i=true →
  ∀ j,j < l.length→EntRen θ (fun k=>(aM h k).den C) (i+j) ((aM (kS C base l i b) j).den C)
 | [],i,b,ps,hb,hd,hθ,hk,j,hj=>by simp at hj
 | e :: l, i, b, ps, hb, hd, hθ, hk, j, hj => by
  simp only [decH] at hd
  split at hd
  ·rename_i a1 ps1 h1
   split at hd
   ·rename_i b1 qs1 h2
    have e1:=(Prod.mk.inj (Option.some.inj hd)).1
    have e2:=(Prod.mk.inj (Option.some.inj hd)).2
    subst e2
    simp only [wO,Bool.and_eq_true] at hk
    have ih:=aNW (base:=base) hC l (i+1) b1 qs1 (fun j hl hj=>by have:=hb (j+1) (by simpa using hl); rw [show i+(j+1)=i+1+j by omega] at this; exact this hj) h2 hθ.right hk.2
    rw [← e1]
    cases j with
    | succ j =>
     have:=ih j (by simpa using hj)
     rw [show i+(j+1)=i+1+j by omega]
     exact this
    | zero =>
     rw [Nat.add_zero]
     show EntRen θ _ i ((sX C (aM base i) e a1).den C)
     cases e with
     | keep =>
      have hk1:=hk.1
      simp only [Bool.and_eq_true,Bool.not_eq_true'] at hk1
      have hnd:i ∉ dh:=fun hm=>by rw [wJ.2 hm] at hk1; exact absurd hk1.1 (by simp)
      have hid:θ i=some i:=by
       have:ps1=[(i,some i)]:=((Prod.mk.inj (Option.some.inj h1)).2).symm
       exact hθ.left (i,some i) (by rw [this]; simp)
      show EntRen θ _ i ((aM base i).den C)
      have hbi:=hb 0 rfl (by rw [Nat.add_zero]; exact hnd)
      rw [Nat.add_zero] at hbi
      rw [← hbi]
      have hk2:=hk1.2
      cases hx:aM h i with
      | box y=>rw [hx] at hk2; exact ⟨i,y.cells C,hid,by simp only [hx]; rfl,(aAr hC y hk2).2⟩
      | ibox y=>rw [hx] at hk2; exact ⟨i,y.cells C,hid,by simp only [hx]; rfl,(aAr hC y hk2).2⟩
      | gbx t l=>exact .inr ⟨i,_,hid,by simp only [hx]; rfl,aNV hC l⟩
      | tail=>exact .inr ⟨i,hid,by simp only [hx]; rfl⟩
      | dead=>trivial
      | unborn=>rw [hx] at hk2; cases hk2
      | rcd f k ts=>rw [hx] at hk2; exact ⟨i,_,hid,by simp only [hx]; rfl,(wM hC ts hk2).1⟩
      | rdn e=>exact ⟨i,hid,by simp only [hx]; rfl⟩
      | pool t ms=>exact ⟨i,_,hid,by simp only [hx]; rfl,aJQ hC t ms⟩
     | box s =>
      have fin:∀ n,(match aM h n with
        | .box y=>(match s.dec C y with | some (a,ps)=>some (a,(i,some n) :: ps) | none=>none)
        | _=>none)=some (a1,ps1)→EntRen θ (fun k=>(aM h k).den C) i ((sX C (aM base i) (.box s) a1).den C):=fun n h1=>by
       split at h1
       ·rename_i y hy
        split at h1
        ·rename_i a2 ps2 h3
         have f1:=(Prod.mk.inj (Option.some.inj h1)).1
         have f2:=(Prod.mk.inj (Option.some.inj h1)).2
         subst f2
         have hid:θ i=some n:=hθ.left (i,some n) (by simp)
         rw [← f1]
         exact ⟨n,y.cells C,hid,by simp only [hy]; rfl,(aAn hC s y a2 ps2 h3 (fun p hp=>hθ.left p (List.mem_cons_of_mem _ hp))).2⟩
        ·cases h1
       ·cases h1
      simp only [entD] at h1
      split at h1
      ·cases h1
      ·exact fin _ h1
      ·exact fin _ h1
     | gbx e =>
      have fin:∀ {n:Nat} {l:List (τ e)},gbxD e (aM h n)=some l→θ i=some n→EntRen θ (fun k=>(aM h k).den C) i ((TEnt.gbx e l:TEnt τ).den C):=fun {n l} hg hn=>by
       unfold gbxD at hg
       split at hg
       ·rename_i t l0 ht
        obtain ⟨h2,rfl⟩:=fZ hg
        subst h2
        exact .inr ⟨n,_,hn,by simp only [ht]; rfl,aNV hC l0⟩
       ·cases hg
      simp only [entD] at h1
      split at h1
      ·have f1:=(Prod.mk.inj (Option.some.inj h1)).1
       have f2:=(Prod.mk.inj (Option.some.inj h1)).2
       subst f2
       have hid:θ i=none:=hθ.left (i,none) (by simp)
       rw [← f1]
       exact .inl ⟨hid,rfl⟩
      ·rename_i n _
       split at h1
       ·rename_i l hl
        have f1:=(Prod.mk.inj (Option.some.inj h1)).1
        have f2:=(Prod.mk.inj (Option.some.inj h1)).2
        subst f2
        rw [← f1]
        exact fin hl (hθ.left (i,some n) (by simp))
       ·cases h1
      ·split at h1
       ·rename_i l hl
        have f1:=(Prod.mk.inj (Option.some.inj h1)).1
        have f2:=(Prod.mk.inj (Option.some.inj h1)).2
        subst f2
        rw [← f1]
        exact fin hl (hθ.left (i,some i) (by simp))
       ·cases h1
     | tail =>
      have hk1:=hk.1
      simp only [] at hk1
      show θ i=none∨∃ n,θ i=some n∧(aM h n).den C=.tail
      split at hk1
      ·rename_i hn; exact .inl hn
      ·rename_i n hn
       split at hk1
       ·rename_i ht; exact .inr ⟨n,hn,by rw [ht]; rfl⟩
       ·cases hk1
     | dead=>trivial
     | rcd f k sl =>
      simp only [entD] at h1
      split at h1
      ·rename_i f' k' ts hy
       cases hb:(Nat.beq f f'&&Nat.beq k k') with
       | false=>rw [hb] at h1; cases h1
       | true =>
        rw [hb] at h1
        simp only [cond_true] at h1
        simp only [Bool.and_eq_true] at hb
        have q1:=Nat.eq_of_beq_eq_true hb.1
        have q2:=Nat.eq_of_beq_eq_true hb.2
        subst q1; subst q2
        split at h1
        ·rename_i a2 ps2 h3
         have f1:=(Prod.mk.inj (Option.some.inj h1)).1
         have f2:=(Prod.mk.inj (Option.some.inj h1)).2
         subst f2
         have hid:θ i=some i:=hθ.left (i,some i) (by simp)
         rw [← f1]
         exact ⟨i,_,hid,by simp only [hy]; rfl,(qH hC sl ts a2 ps2 h3 (fun p hp=>hθ.left p (List.mem_cons_of_mem _ hp))).1⟩
        ·cases h1
      ·cases h1
     | rdn =>
      simp only [entD] at h1
      split at h1
      ·rename_i e hy
       have f1:=(Prod.mk.inj (Option.some.inj h1)).1
       have f2:=(Prod.mk.inj (Option.some.inj h1)).2
       subst f2
       have hid:θ i=some i:=hθ.left (i,some i) (by simp)
       subst f1
       exact ⟨i,hid,by simp only [hy]; rfl⟩
      ·cases h1
     | pool t =>
      simp only [entD] at h1
      split at h1
      ·rename_i t' ms hy
       split at h1
       ·rename_i l hl
        have f1:=(Prod.mk.inj (Option.some.inj h1)).1
        have f2:=(Prod.mk.inj (Option.some.inj h1)).2
        subst f2
        have hid:θ i=some i:=hθ.left (i,some i) (by simp)
        obtain ⟨h3,rfl⟩:=aDe hl
        subst h3
        rw [← f1]
        exact ⟨i,_,hid,by simp only [hy]; rfl,aJQ hC _ _⟩
       ·cases h1
      ·cases h1
   ·cases hd
  ·cases hd
theorem aDm (C:Cod τ) (h:List (TEnt τ)):∀ (l:List ESh) (i:Nat) (b:ESh.Ts τ l),(kS C h l i b).length=l.length
 | [],i,b=>rfl
 | e :: l,i,b=>by simp only [kS,List.length_cons,aDm C h l (i+1) b.2]
theorem aDn (C:Cod τ):∀ (t:List (TV τ)) (l:List Sl) (a:Sl.Ts τ l),(jS C t l a).length=t.length
 | [],l,a=>by cases l<;>rfl
 | x :: r,[],a=>by simp only [jS,List.length_cons,aDn C r [] a]
 | x :: r,s :: l,a=>by simp only [jS,List.length_cons,aDn C r l a.2]
theorem aNX {C:Cod τ} {θ:Nat→Option Nat} {base:List (TEnt τ)}:∀ (l:List ESh) (i:Nat) (b:ESh.Ts τ l) (j n:Nat),j < l.length→((aM (kS C base l i b) j).den C).live→θ (i+j)=some n →
  ∃ p:Nat,(jA θ l i)[p]?=some n∧(∀ j' n':Nat,j' < j→((aM (kS C base l i b) j').den C).live→θ (i+j')=some n'→∃ p':Nat,p' < p∧(jA θ l i)[p']?=some n')
 | [],i,b,j,n,hj,_,_=>by simp at hj
 | e :: l, i, b, 0, n, hj, hl, hn => by
  refine ⟨0,?_,fun j' n' h=>by omega⟩
  rw [Nat.add_zero] at hn
  have:=aDl (C:=C) (x:=aM base i) (a:=b.1) hl hn
  simp only [jA,this]; rfl
 | e :: l, i, b, j + 1, n, hj, hl, hn => by
  obtain ⟨p,h1,h2⟩:=aNX (C:=C) (θ:=θ) (base:=base) l (i+1) b.2 j n (by simpa using hj) hl (by rw [← hn]; congr 1; omega)
  simp only [jA]
  refine ⟨(sZ θ i e).length+p,by rw [List.getElem?_append_right (by omega),Nat.add_sub_cancel_left]; exact h1,fun j' n' hj' hl' hn'=>?_⟩
  cases j' with
  | zero =>
   rw [Nat.add_zero] at hn'
   have:=aDl (C:=C) (x:=aM base i) (a:=b.1) hl' hn'
   rw [this]
   exact ⟨0,by simp; omega,rfl⟩
  | succ j' =>
   obtain ⟨p',h3,h4⟩:=h2 j' n' (by omega) hl' (by rw [← hn']; congr 1; omega)
   exact ⟨(sZ θ i e).length+p',by omega,by rw [List.getElem?_append_right (by omega),Nat.add_sub_cancel_left]; exact h4⟩
theorem aJV {j m:Nat}:∀ {ps:Prs},(ps.all fun p=>Nat.blt p.1 m)=true→m≤j→mU ps j=none
 | [],_,_=>rfl
 | (k, o) :: r, h, hj => by
  simp only [List.all_cons,Bool.and_eq_true] at h
  have hk:k < m:=by simpa [Nat.blt,Nat.ble_eq,Nat.lt_iff_add_one_le] using h.1
  simp only [mU]
  have hkj:Nat.beq k j=false:=by
   cases hb:Nat.beq k j with
   | false=>rfl
   | true=>exact absurd (Nat.eq_of_beq_eq_true hb) (by omega)
  rw [hkj]
  exact aJV h.2 hj
theorem Lp.ren {C:Cod τ} (hC:C.Ok) {k0:Nat} {lp:Lp τ} {st base:TSt τ} {s:lp.S} (h:lp.dec C k0 st=some s) (hlen:st.t.length=base.t.length) (ht:∀ k,lp.ts[k]?=some .keep→k ∉ st.dt→bT st.t k=bT base.t k) (hh:∀ i,lp.hs[i]?=some .keep→i ∉ st.dh→aM st.h i=aM base.h i) :
  ∃ θ,StRen k0 θ (aV C st) (aV C (lp.head C base s)):=by
 unfold Lp.dec at h
 split at h
 ·cases h
 rename_i a ps h1
 split at h
 ·cases h
 ·rename_i b qs h2
  generalize hθ:θof k0 (ps++qs)=θ at h
  cases hc:(Nat.ble k0 lp.hs.length&&wN θ (ps++qs)&&(ps++qs).all (fun p=>Nat.blt p.1 lp.hs.length)&&mV θ st.dt st.t lp.ts 0&&wO θ st.dh st.h lp.hs 0&&oA (jA θ lp.hs 0)) with
  | false=>rw [hc] at h; cases h
  | true =>
   rw [hc] at h
   simp only [cond_true,Option.some.injEq] at h
   subst h
   simp only [Bool.and_eq_true] at hc
   obtain ⟨⟨⟨⟨⟨c1,c2⟩,c3⟩,c4⟩,c5⟩,c6⟩:=hc
   have hk0:k0≤lp.hs.length:=Nat.le_of_ble_eq_true c1
   have hok:=aNU c2
   have hT:=aJU hC st.t base.t lp.ts a ps 0 hlen h1 hok.left c4 (fun j hl hj=>ht j hl (by simpa using hj))
   have hH:=aNW (base:=base.h) hC lp.hs 0 b qs (fun j hl hj=>by rw [Nat.zero_add] at hj ⊢; exact hh j hl hj) h2 hok.right c5
   refine ⟨θ,fun j hj=>?_,?_,⟨fun j=>?_,fun j j' i hl hl' e e'=>?_⟩⟩
   ·rw [← hθ]; unfold θof
    rw [show Nat.blt j k0=true by simp only [Nat.blt,Nat.ble_eq]; exact hj]; rfl
   ·simp only [aV,Lp.head,lp.ot_to]; exact hT
   ·have eg:aH (aV C st).h=fun k=>(aM st.h k).den C:=by funext k; simp only [aV,gY]
    rw [eg]
    simp only [aV,Lp.head,gY,lp.oh_to]
    rcases Nat.lt_or_ge j lp.hs.length with hj | hj
    ·have:=hH j hj
     rwa [Nat.zero_add] at this
    ·rw [lU _ _ (by rw [aDm]; exact hj)]
     show θ j=none
     rw [← hθ]; unfold θof
     rw [show Nat.blt j k0=false by rw [Bool.eq_false_iff]; intro hb; (have:j < k0:=by simpa [Nat.blt,Nat.ble_eq,Nat.lt_iff_add_one_le] using hb); omega,aJV c3 hj]; rfl
   ·simp only [aV,Lp.head,gY,lp.oh_to] at hl hl'
    have hlt:∀ k,((aM (kS C base.h lp.hs 0 b) k).den C).live→k < lp.hs.length:=fun k hk=>by
     rcases Nat.lt_or_ge k lp.hs.length with h' | h'
     ·exact h'
     ·rw [lU _ _ (by rw [aDm]; exact h')] at hk; exact hk.elim
    have key:∀ j j',j' < j→((aM (kS C base.h lp.hs 0 b) j).den C).live→((aM (kS C base.h lp.hs 0 b) j').den C).live→θ j=some i→θ j'=some i→False:=fun j j' hjj hl hl' e e'=>by
     obtain ⟨p,g1,g2⟩:=aNX (C:=C) (θ:=θ) (base:=base.h) lp.hs 0 b j i (hlt j hl) hl (by rw [Nat.zero_add]; exact e)
     obtain ⟨p',g3,g4⟩:=g2 j' i hjj hl' (by rw [Nat.zero_add]; exact e')
     have hnd:=aDi c6
     obtain ⟨q1,q2⟩:=List.getElem?_eq_some_iff.1 g1
     obtain ⟨q3,q4⟩:=List.getElem?_eq_some_iff.1 g4
     have:=(List.getElem_inj hnd (h₀:=q1) (h₁:=q3)).1 (q2.trans q4.symm)
     omega
    rcases Nat.lt_trichotomy j j' with hjj | hjj | hjj
    ·exact (key j' j hjj hl' hl e' e).elim
    ·exact hjj
    ·exact (key j j' hjj hl hl' e e').elim
theorem aJW {C:Cod τ}:∀ (t:List (TV τ)) (l:List Sl) (a:Sl.Ts τ l) (k:Nat),l[k]?=some .keep→bT (jS C t l a) k=bT t k
 | [],l,a,k,h=>by cases l<;>rfl
 | x :: r,[],a,k,h=>by simp at h
 | x :: r,s :: l,a,0,h=>by simp at h; subst h; rfl
 | x :: r,s :: l,a,k+1,h=>aJW r l a.2 k (by simpa using h)
theorem aJX {C:Cod τ} {h:List (TEnt τ)}:∀ (l:List ESh) (i:Nat) (b:ESh.Ts τ l) (k:Nat),l[k]?=some .keep→aM (kS C h l i b) k=aM h (i+k)
 | [],i,b,k,hk=>by simp at hk
 | e :: l,i,b,0,hk=>by simp at hk; subst hk; rfl
 | e :: l, i, b, k + 1, hk => by
  have:=aJX (C:=C) (h:=h) l (i+1) b.2 k (by simpa using hk)
  rw [show i+(k+1)=i+1+k by omega]
  exact this
theorem aJY {C:Cod τ} (hC:C.Ok) {θ:Nat→Option Nat} {dt:List Nat}:∀ (t:List (TV τ)) (l:List Sl) (a:Sl.Ts τ l) (k:Nat),mV θ dt t l k=true→∀ j d w b x,bT (jS C t l a) j≠.cnd d w b x
 | [],l,a,k,hk,j,d,w,b,x=>by cases l<;>(simp only [jS,bT]; exact fun e=>nomatch e)
 | y :: r,[],a,k,hk,0,d,w,b,x=>fun e=>nomatch e
 | y :: r,[],a,k,hk,j+1,d,w,b,x=>aJY hC r [] a (k+1) hk j d w b x
 | y :: r, s :: l, a, k, hk, 0, d, w, b, x => fun e => by
  simp only [mV,Bool.and_eq_true] at hk
  have e':slE C y s a.1=.cnd d w b x:=e
  cases s with
  | keep =>
   have e'':y=.cnd d w b x:=e'
   have hk1:=hk.1
   simp only [Bool.and_eq_true] at hk1
   rw [e''] at hk1
   exact absurd hk1.2 (by simp [TV.idsOk])
  | junk=>exact nomatch e'
  | sh sh=>exact head_nocnd hC sh a.1 d w b x e'
 | y :: r, s :: l, a, k, hk, j + 1, d, w, b, x => by
  simp only [mV,Bool.and_eq_true] at hk
  exact aJY hC r l a.2 (k+1) hk.2 j d w b x
theorem Lp.head_nocnd {C:Cod τ} (hC:C.Ok) {k0:Nat} {lp:Lp τ} {st st0:TSt τ} {s0:lp.S} (h:lp.dec C k0 st0=some s0) (ht:st0.t=st.t) (s:lp.S):∀ j d w b x,bT (lp.head C st s).t j≠.cnd d w b x:=by
 unfold Lp.dec at h
 split at h
 ·cases h
 rename_i a ps h1
 split at h
 ·cases h
 ·rename_i b qs h2
  generalize hθ:θof k0 (ps++qs)=θ at h
  cases hc:(Nat.ble k0 lp.hs.length&&wN θ (ps++qs)&&(ps++qs).all (fun p=>Nat.blt p.1 lp.hs.length)&&mV θ st0.dt st0.t lp.ts 0&&wO θ st0.dh st0.h lp.hs 0&&oA (jA θ lp.hs 0)) with
  | false=>rw [hc] at h; cases h
  | true =>
   simp only [Bool.and_eq_true] at hc
   obtain ⟨⟨⟨⟨⟨c1,c2⟩,c3⟩,c4⟩,c5⟩,c6⟩:=hc
   rw [ht] at c4
   intro j d w b x
   exact aJY hC st.t lp.ts (lp.ot s) 0 c4 j d w b x
end
end Go.Ev
