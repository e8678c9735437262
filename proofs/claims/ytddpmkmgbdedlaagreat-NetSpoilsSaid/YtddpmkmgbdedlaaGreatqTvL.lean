/-
The typed layer: shapes of values,and what they are read off; values under other names.
-/
import Derived.Test.YtddpmkmgbdedlaaGreatqTvK
set_option linter.unusedVariables false
set_option linter.unusedSimpArgs false
namespace Go.Ev
open Go
inductive Sh where
 | ty (t:Nat)
 | own (e j:Nat)
 | nn (e:Nat)
 | brw (e j:Nat)
 | msl (e j:Nat)
 | wsl (e j:Nat)
 | any1
 | yld (j:Nat)
 | bo (b:Bool)
 | ptr (j:Nat) (p:List Step)
 | fn (f:FuncId) (caps:List Sh)
 | ls (s:Nat) (l:List Sh)
 | nil (k:NilK)
 | agg (l:List Sh)
 | tup (l:List Sh)
 | junk
section
variable {τ:Nat→Type}
mutual
def Sh.T (τ:Nat→Type):Sh→Type
 | .ty t=>τ t
 | .own e _=>List (τ e)
 | .nn e=>List (τ e)
 | .brw e _=>List (τ e)
 | .msl _ _=>Nat
 | .wsl _ _=>Nat×Nat×Nat×Bool
 | .any1=>Unit
 | .yld _=>Unit
 | .bo _=>Unit
 | .agg l=>Sh.Ts τ l
 | .tup l=>Sh.Ts τ l
 | .ptr _ _=>Unit
 | .fn _ caps=>Sh.Ts τ caps
 | .ls _ l=>Sh.Ts τ l
 | .nil _=>Unit
 | .junk=>Unit
def Sh.Ts (τ:Nat→Type):List Sh→Type
 | []=>Unit
 | s :: r=>Sh.T τ s×Sh.Ts τ r
end
mutual
def Sh.enc (C:Cod τ):(s:Sh)→s.T τ→TV τ
 | .ty t,a=>C.enc t a
 | .own e j,l=>.sl e l (.own j)
 | .nn e,l=>.sl e l .nn
 | .agg l,a=>.agg (Sh.encs C l a)
 | .tup l,a=>.tup (Sh.encs C l a)
 | .brw e j,l=>.sl e l (.brw j)
 | .msl e j,n=>.msl e j n
 | .wsl e j,a=>.wsl e j a.1 a.2.1 a.2.2.1 a.2.2.2
 | .any1,_=>.any1
 | .yld j,_=>.yld j
 | .bo b,_=>.bool b
 | .ptr j p,_=>.ptr j p
 | .fn f caps,a=>.fn f (Sh.encs C caps a)
 | .ls s l,a=>.ls s (Sh.encs C l a)
 | .nil k,_=>.nil k
 | .junk,_=>.junk
def Sh.encs (C:Cod τ):(l:List Sh)→Sh.Ts τ l→List (TV τ)
 | [],_=>[]
 | s :: r,a=>Sh.enc C s a.1 :: Sh.encs C r a.2
end
def NilK.eqb:NilK→NilK→Bool
 | .ptr,.ptr | .slice,.slice | .func,.func | .iface,.iface=>true
 | _,_=>false
theorem NilK.eqb_eq {a b:NilK} (h:NilK.eqb a b=true):a=b:=by cases a<;>cases b<;>simp [NilK.eqb] at h<;>rfl
abbrev Prs:=List (Nat×Option Nat)
def Step.eqb:Step→Step→Bool
 | .fld k d,.fld k' d'=>Nat.beq k k'&&Nat.beq d d'
 | .idx i n s,.idx i' n' s'=>Nat.beq i i'&&(Nat.beq n n'&&Nat.beq s s')
 | .el i s,.el i' s'=>Nat.beq i i'&&Nat.beq s s'
 | _,_=>false
def wH:List Step→List Step→Bool
 | [],[]=>true
 | a :: p,b :: q=>Step.eqb a b&&wH p q
 | _,_=>false
theorem Step.eqb_eq {a b:Step} (h:Step.eqb a b=true):a=b:=by
 cases a<;>cases b<;>simp [Step.eqb] at h ⊢<;>simp [h]
theorem aNA:∀ {p q:List Step},wH p q=true→p=q
 | [],[],_=>rfl
 | a :: p, b :: q, h => by
  simp only [wH,Bool.and_eq_true] at h
  rw [Step.eqb_eq h.1,aNA h.2]
 | [],_ :: _,h=>by cases h
 | _ :: _,[],h=>by cases h
def boB:Bool→Bool→Bool
 | true,true=>true
 | false,false=>true
 | _,_=>false
theorem boB_eq {a b:Bool} (h:boB a b=true):a=b:=by cases a<;>cases b<;>first | rfl | cases h
mutual
def Sh.dec (C:Cod τ):(s:Sh)→TV τ→Option (s.T τ×Prs)
 | .ty t,x=>(match C.dec t x with | some a=>some (a,[]) | none=>none)
 | .own e j, x => (match x with
  | .sl t l (.own id)=>(match eF (t:=t) e l with | some l=>some (l,[(j,some id)]) | none=>none)
  | .sl t l .full=>(match eF (t:=t) e l with | some l=>some (l,[(j,none)]) | none=>none)
  | .nil .slice=>some ([],[(j,none)])
  | _=>none)
 | .nn _,_=>none
 | .agg l,x=>(match x with | .agg xs=>Sh.decs C l xs | _=>none)
 | .tup l,x=>(match x with | .tup xs=>Sh.decs C l xs | _=>none)
 | .brw e j,x=>(match x with | .sl t l (.brw id)=>(match eF (t:=t) e l with | some l=>some (l,[(j,some id)]) | none=>none) | _=>none)
 | .msl e j,x=>(match x with | .msl t id n=>bif Nat.beq t e then some (n,[(j,some id)]) else none | .nil .slice=>some ((0:Nat),[(j,none)]) | .wsl t id o n _ _=>bif Nat.beq t e&&Nat.beq o 0 then some (n,[(j,some id)]) else none | _=>none)
 | .wsl e j,x=>(match x with | .wsl t id o n c q=>bif Nat.beq t e then some ((o,n,c,q),[(j,some id)]) else none | .msl t id n=>bif Nat.beq t e then some (((0:Nat),n,n,false),[(j,some id)]) else none | .nil .slice=>some (((0:Nat),(0:Nat),(0:Nat),false),[(j,none)]) | _=>none)
 | .any1,x=>bif x.isAgg || !x.ok then none else some ((),[])
 | .yld j,x=>(match x with | .yld id=>some ((),[(j,some id)]) | _=>none)
 | .bo b,x=>(match x with | .bool b'=>bif boB b b' then some ((),[]) else none | _=>none)
 | .ptr j p,x=>(match x with | .ptr id p'=>bif wH p p' then some ((),[(j,some id)]) else none | _=>none)
 | .fn f caps,x=>(match x with | .fn f' xs=>bif Nat.beq f f' then Sh.decs C caps xs else none | _=>none)
 | .ls s l,x=>(match x with | .ls s' xs=>bif Nat.beq s s' then Sh.decs C l xs else none | _=>none)
 | .nil k,x=>(match x with | .nil k'=>bif NilK.eqb k k' then some ((),[]) else none | _=>none)
 | .junk,x=>bif x.isAgg then none else some ((),[])
def Sh.decs (C:Cod τ):(l:List Sh)→List (TV τ)→Option (Sh.Ts τ l×Prs)
 | [],xs=>(match xs with | []=>some ((),[]) | _=>none)
 | s :: r, xs => (match xs with
  | x :: xs => (match Sh.dec C s x with
   | some (a, ps) => (match Sh.decs C r xs with
    | some (b,qs)=>some ((a,b),ps++qs)
    | none=>none)
   | none=>none)
  | []=>none)
end
section
variable {C:Cod τ}
theorem dec_ty {t:Nat} {x:TV τ}:Sh.dec C (.ty t) x=(match C.dec t x with | some a=>some (a,[]) | none=>none):=rfl
theorem aWI {l:List Sh} {x:TV τ}:Sh.dec C (.agg l) x=(match x with | .agg xs=>Sh.decs C l xs | _=>none):=rfl
theorem aWJ {l:List Sh} {x:TV τ}:Sh.dec C (.tup l) x=(match x with | .tup xs=>Sh.decs C l xs | _=>none):=rfl
theorem aWK {e j:Nat} {x:TV τ}:Sh.dec C (.brw e j) x=(match x with | .sl t l (.brw id)=>(match eF (t:=t) e l with | some l=>some (l,[(j,some id)]) | none=>none) | _=>none):=rfl
theorem aWL {e j:Nat} {x:TV τ}:Sh.dec C (.msl e j) x=(match x with | .msl t id n=>bif Nat.beq t e then some (n,[(j,some id)]) else none | .nil .slice=>some ((0:Nat),[(j,none)]) | .wsl t id o n _ _=>bif Nat.beq t e&&Nat.beq o 0 then some (n,[(j,some id)]) else none | _=>none):=rfl
theorem aWM {e j:Nat} {x:TV τ}:Sh.dec C (.wsl e j) x=(match x with | .wsl t id o n c q=>bif Nat.beq t e then some ((o,n,c,q),[(j,some id)]) else none | .msl t id n=>bif Nat.beq t e then some (((0:Nat),n,n,false),[(j,some id)]) else none | .nil .slice=>some (((0:Nat),(0:Nat),(0:Nat),false),[(j,none)]) | _=>none):=rfl
theorem aNB {x:TV τ}:Sh.dec C .any1 x=(bif x.isAgg || !x.ok then none else some ((),[])):=rfl
theorem aWN {j:Nat} {x:TV τ}:Sh.dec C (.yld j) x=(match x with | .yld id=>some ((),[(j,some id)]) | _=>none):=rfl
theorem dec_bo {b:Bool} {x:TV τ}:Sh.dec C (.bo b) x=(match x with | .bool b'=>bif boB b b' then some ((),[]) else none | _=>none):=rfl
theorem aWO {j:Nat} {p:List Step} {x:TV τ}:Sh.dec C (.ptr j p) x=(match x with | .ptr id p'=>bif wH p p' then some ((),[(j,some id)]) else none | _=>none):=rfl
theorem dec_fn {f:FuncId} {caps:List Sh} {x:TV τ}:Sh.dec C (.fn f caps) x=(match x with | .fn f' xs=>bif Nat.beq f f' then Sh.decs C caps xs else none | _=>none):=rfl
theorem dec_ls {s:Nat} {l:List Sh} {x:TV τ}:Sh.dec C (.ls s l) x=(match x with | .ls s' xs=>bif Nat.beq s s' then Sh.decs C l xs else none | _=>none):=rfl
theorem aWP {k:NilK} {x:TV τ}:Sh.dec C (.nil k) x=(match x with | .nil k'=>bif NilK.eqb k k' then some ((),[]) else none | _=>none):=rfl
theorem aWQ {x:TV τ}:Sh.dec C .junk x=(bif x.isAgg then none else some ((),[])):=rfl
theorem aWR {xs:List (TV τ)}:Sh.decs C [] xs=(match xs with | []=>some ((),[]) | _=>none):=rfl
theorem aWS {s:Sh} {r:List Sh} {xs:List (TV τ)}:Sh.decs C (s :: r) xs=(match xs with
  | x :: xs => (match Sh.dec C s x with
   | some (a, ps) => (match Sh.decs C r xs with
    | some (b,qs)=>some ((a,b),ps++qs)
    | none=>none)
   | none=>none)
  | []=>none):=rfl
theorem aWT {s:Sh} {r:List Sh} {a:Sh.T τ s} {b:Sh.Ts τ r}:Sh.encs C (s :: r) (a,b)=Sh.enc C s a :: Sh.encs C r b:=rfl
end
def okθ (θ:Nat→Option Nat) (ps:Prs):Prop:=∀ p∈ps,θ p.1=p.2
theorem okθ.left {θ:Nat→Option Nat} {ps qs:Prs} (h:okθ θ (ps++qs)):okθ θ ps:=fun p hp=>h p (List.mem_append_left _ hp)
theorem okθ.right {θ:Nat→Option Nat} {ps qs:Prs} (h:okθ θ (ps++qs)):okθ θ qs:=fun p hp=>h p (List.mem_append_right _ hp)
theorem RW.noid {θ:Nat→Option Nat} {x y:AV} (h:W x y) (hn:NoId y):RW θ x y:=fun g v hv=>by
 obtain ⟨I,ρ,α⟩:=g
 have hle:Gh.le ⟨I,fun _=>none,α⟩ (Gh.ren ⟨I,ρ,α⟩ θ):=⟨fun _ _ _ h=>h,fun _ _ h=>(by cases h),rfl⟩
 exact (hn I ρ α v (h _ v hv)).mono hle
theorem NoIds.get {l:List AV} (h:NoIds l) {k:Nat} {x:AV} (hx:l[k]?=some x):NoId x:=h.mem hx
theorem RWs.noids {θ:Nat→Option Nat} {l l':List AV} (h:CW l l') (hn:NoIds l'):RWs θ l l':=⟨h.1,fun k x y hx hy=>RW.noid (h.2 k x y hx hy) (hn.get hy)⟩
theorem RWs.append {θ:Nat→Option Nat} {a a' b b':List AV} (h:RWs θ a a') (h':RWs θ b b'):RWs θ (a++b) (a'++b'):=by
 refine ⟨by simp [h.1,h'.1],fun k x y hx hy=>?_⟩
 rw [List.getElem?_append] at hx hy
 rw [← h.1] at hy
 split at hx
 ·rename_i hk; rw [if_pos hk] at hy; exact h.2 k x y hx hy
 ·rename_i hk; rw [if_neg hk] at hy; exact h'.2 _ x y hx hy
theorem RWs.one {θ:Nat→Option Nat} {x y:AV} (h:RW θ x y):RWs θ [x] [y]:=⟨rfl,fun k a b ha hb=>by
 cases k with
 | zero=>simp at ha hb; subst ha; subst hb; exact h
 | succ k=>simp at ha⟩
theorem RWs.nil {θ:Nat→Option Nat}:RWs θ [] []:=⟨rfl,by simp⟩
theorem RWs.lrel {θ:Nat→Option Nat} {l l':List AV} (h:RWs θ l l') {g:Gh} {cs:List Value} (hl:LRel g l cs):LRel (g.ren θ) l' cs:=by
 refine ⟨h.1.symm.trans hl.1,fun k y c hy hc=>?_⟩
 obtain ⟨x,hx,hw⟩:=h.get hy
 exact hw g c (hl.2 k x c hx hc)
theorem RW.agg {θ:Nat→Option Nat} {l l':List AV} (h:RWs θ l l'):RW θ (.agg l) (.agg l'):=fun g v hv=>by
 obtain ⟨cs,rfl,hl⟩:=aCV hv
 exact aAg (h.lrel hl)
theorem RW.tup {θ:Nat→Option Nat} {l l':List AV} (h:RWs θ l l'):RW θ (.tup l) (.tup l'):=fun g v hv=>by
 cases hv with
 | tup e h' =>
  have:=h.lrel (g:=g) (cs:=_) ⟨e.trans Array.length_toList.symm,fun k x c a b=>h' k x c a (by simpa using b)⟩
  exact .tup (by simpa using this.1) fun k x c a b=>this.2 k x c a (by simpa using b)
theorem RW.fn {θ:Nat→Option Nat} {f:FuncId} {l l':List AV} (h:RWs θ l l'):RW θ (.fn f l) (.fn f l'):=fun g v hv=>by
 cases hv with
 | fn e h' =>
  have:=h.lrel (g:=g) (cs:=_) ⟨e.trans Array.length_toList.symm,fun k x c a b=>h' k x c a (by simpa using b)⟩
  exact .fn (by simpa using this.1) fun k x c a b=>this.2 k x c a (by simpa using b)
theorem mQ {x:AV} (h:NoId x) {g g':Gh} (hI:IA g g') {v:Value} (hv:VRel g x v):VRel g' x v:=by
 obtain ⟨I,ρ,α⟩:=g
 obtain ⟨I',ρ',α'⟩:=g'
 obtain ⟨h1,h2⟩:=hI
 cases h1
 have hle:Gh.up ⟨I,fun _=>none,α⟩ ⟨I,ρ',α'⟩:=⟨fun _ _ _ h=>h,fun _ _ h=>(by cases h),h2⟩
 exact (h I ρ α v hv).monoU hle
theorem aNC (j:Nat) (p:List Step):NoId (jP j p):=by
 unfold jP
 cases cS p with
 | true=>exact NoId.hptr
 | false=>exact NoId.bot
theorem nX {g g':Gh} (hI:IA g g') {sz:Nat} {els:List (List AV)} {tok tok':Tok} {v:Value} (hn:∀ cs∈els,NoIds cs) (ht:∀ b o len cap,TokOk g tok b o len cap sz→TokOk g' tok' b o len cap sz)
  (h:VRel g (.sl sz els tok) v):VRel g' (.sl sz els tok') v:=by
 cases h with
 | sl c e1 e2 e3 e4 e5 e6 =>
  exact .sl c e1 e2 e3 (fun i cs k x a b=>hI.1▸e4 i cs k x a b) (fun i cs k x a b=>mQ ((hn cs (List.mem_of_getElem? a)).get b) hI (e5 i cs k x a b)) (ht _ _ _ _ e6)
theorem gE {C:Cod τ} (hC:C.Ok) (t:Nat) (l:List (τ t)):∀ cs∈l.map (C.cel t),NoIds cs:=fun cs h=>by
 obtain ⟨a,_,rfl⟩:=List.mem_map.1 h; exact hC.noid t a
theorem wI {g g':Gh} (hI:IA g g') {sz id id':Nat} {els:List (List AV)} {v:Value} (hn:∀ cs∈els,NoIds cs) (hρ:∀ p,g.ρ id=some p→g'.ρ id'=some p) (h:VRel g (.gsl sz els id) v):VRel g' (.gsl sz els id') v:=by
 cases h with
 | gslN=>exact .gslN
 | gslF h=>exact .gslF (nX (tok:=.full) (tok':=.full) hI hn (fun _ _ _ _ h=>h) h)
 | gslT h=>exact .gslT (nX (tok:=.tail id) (tok':=.tail id') hI hn (fun b o len cap ⟨n,h1,h2⟩=>⟨n,hρ _ h1,h2⟩) h)
theorem ty_ren {C:Cod τ} (hC:C.Ok) {θ:Nat→Option Nat} {t:Nat} {x:TV τ} {a:τ t} (ha:C.dec t x=some a):RW θ (x.den C) ((C.enc t a).den C)∧RWs θ (x.cells C) ((C.enc t a).cells C):=by
 have hcw:=hC.dec t x a ha
 have hcells:RWs θ (x.cells C) ((C.enc t a).cells C):=by rw [hC.cel]; exact .noids hcw (hC.noid t a)
 refine ⟨?_,hcells⟩
 have hagg:=hC.agg t x a ha
 cases hx:x.isAgg with
 | true=>rw [sL C hx,sL C (hagg▸hx)]; exact .agg hcells
 | false =>
  rw [aAc C hx (hC.decok t x a ha),aAc C (hagg▸hx) (hC.ok t a)] at hcells
  exact hcells.2 0 _ _ rfl rfl
def aND (C:Cod τ) (e j:Nat) (x:TV τ):Option (List (τ e)×Prs) :=
 match x with
  | .sl t l (.own id)=>(match eF (t:=t) e l with | some l=>some (l,[(j,some id)]) | none=>none)
  | .sl t l .full=>(match eF (t:=t) e l with | some l=>some (l,[(j,none)]) | none=>none)
  | .nil .slice=>some ([],[(j,none)])
  | _=>none
theorem aWU {C:Cod τ} (hC:C.Ok) {θ:Nat→Option Nat} {e j:Nat} {x:TV τ} {a:List (τ e)} {ps:Prs} (h:aND C e j x=some (a,ps)) (hθ:okθ θ ps) :
  RW θ (x.den C) ((TV.sl e a (.own j)).den C)∧RWs θ (x.cells C) ((TV.sl e a (.own j)).cells C):=by
 have fin:∀ {y:AV},RW θ y (.gsl (C.sz e) (a.map (C.cel e)) j)→x.den C=y→x.cells C=[y]→RW θ (x.den C) ((TV.sl e a (.own j)).den C)∧RWs θ (x.cells C) ((TV.sl e a (.own j)).cells C):=fun {y} hw e1 e2=>by
  simp only [TV.den,TV.cells,cW]
  rw [e1,e2]; exact ⟨hw,.one hw⟩
 unfold aND at h
 split at h
 ·rename_i t l id
  split at h
  ·rename_i l' hl
   simp only [Option.some.injEq,Prod.mk.injEq] at h
   obtain ⟨rfl,rfl⟩:=h
   obtain ⟨ht,hl⟩:=fZ hl
   subst ht
   subst hl
   refine fin (y:=_) (fun g v hv=>?_) rfl rfl
   have h1:θ j=some id:=hθ (j,some id) (by simp)
   exact wI (g:=g) (g':=g.ren θ) (id:=id) (id':=j) ⟨rfl,fun _ _ e=>e⟩ (gE hC t _) (fun p hp=>by rw [dY h1]; exact hp) hv
  ·cases h
 ·rename_i t l
  split at h
  ·rename_i l' hl
   simp only [Option.some.injEq,Prod.mk.injEq] at h
   obtain ⟨rfl,rfl⟩:=h
   obtain ⟨ht,hl⟩:=fZ hl
   subst ht
   subst hl
   refine fin (y:=_) (fun g v hv=>?_) rfl rfl
   exact .gslF (nX (g:=g) (g':=g.ren θ) (tok:=.full) (tok':=.full) ⟨rfl,fun _ _ e=>e⟩ (gE hC t _) (fun _ _ _ _ h=>h) hv)
  ·cases h
 ·simp only [Option.some.injEq,Prod.mk.injEq] at h
  obtain ⟨rfl,rfl⟩:=h
  refine fin (y:=.v (.slice none 0 0)) (fun g v hv=>?_) rfl rfl
  cases hv; exact .gslN
 ·cases h
theorem aWV {C:Cod τ} {θ:Nat→Option Nat} {id j:Nat} {p:List Step} (h1:θ j=some id):RW θ ((TV.ptr id p).den C) ((TV.ptr j p).den C)∧RWs θ ((TV.ptr id p:TV τ).cells C) ((TV.ptr j p:TV τ).cells C):=by
 have hw:RW θ (dW id p) (dW j p):=fun g v hv=>by
  obtain ⟨hb,hv'⟩:=kO hv
  simp only [dW,hb,cond_true]
  cases hv' with
  | ptr e=>exact .ptr (by rw [dY h1]; exact e)
 exact ⟨hw,.one hw⟩
def RWE (θ:Nat→Option Nat) (l l':List (List AV)):Prop:=l.length=l'.length∧∀ (i:Nat) (a b:List AV),l[i]?=some a→l'[i]?=some b→RWs θ a b
theorem RWE.nil {θ:Nat→Option Nat}:RWE θ [] []:=⟨rfl,by simp⟩
theorem RWE.cons {θ:Nat→Option Nat} {a b:List AV} {l l':List (List AV)} (h:RWs θ a b) (h':RWE θ l l'):RWE θ (a :: l) (b :: l'):=by
 refine ⟨by simp [h'.1],fun i x y hx hy=>?_⟩
 cases i with
 | zero=>simp at hx hy; subst hx; subst hy; exact h
 | succ i=>exact h'.2 i x y (by simpa using hx) (by simpa using hy)
theorem RWE.sl {θ:Nat→Option Nat} {sz:Nat} {l l':List (List AV)} (h:RWE θ l l'):RW θ (.sl sz l .full) (.sl sz l' .full):=fun g v hv=>by
 have at':∀ (i:Nat) (b:List AV),l'[i]?=some b→∃ a,l[i]?=some a∧RWs θ a b:=fun i b hb=>by
  have hi:i < l.length:=by
   rw [h.1]
   rcases Nat.lt_or_ge i l'.length with h' | h'
   ·exact h'
   ·rw [List.getElem?_eq_none h'] at hb; cases hb
  exact ⟨_,List.getElem?_eq_getElem hi,h.2 i _ b (List.getElem?_eq_getElem hi) hb⟩
 cases hv with
 | sl c e1 e2 e3 e4 e5 e6 =>
  refine .sl c (h.1▸e1) e2 (fun i b hb=>?_) (fun i b k y hb hy=>?_) (fun i b k y hb hy=>?_) e6
  ·obtain ⟨a,ha,hw⟩:=at' i b hb
   rw [← hw.1]; exact e3 i a ha
  ·obtain ⟨a,ha,hw⟩:=at' i b hb
   obtain ⟨x,hx,_⟩:=hw.get hy
   exact e4 i a k x ha hx
  ·obtain ⟨a,ha,hw⟩:=at' i b hb
   obtain ⟨x,hx,hxy⟩:=hw.get hy
   exact hxy g _ (e5 i a k x ha hx)
theorem aWW {C:Cod τ} (hC:C.Ok) {θ:Nat→Option Nat} {x:TV τ} (h1:x.isAgg=false) (h2:x.ok=true):RW θ (x.den C) .any1∧RWs θ (x.cells C) [.any1]:=by
 have hs:=aAc C h1 h2
 have ho:=aCS hC x h2
 rw [hs] at ho ⊢
 simp only [List.all_cons,List.all_nil,Bool.and_true] at ho
 have hw:RW θ (x.den C) .any1:=fun g v hv=>.any1 (aLt hv ho)
 exact ⟨hw,.one hw⟩
theorem aNE {C:Cod τ} {t:Nat} {x:TV τ} {a:τ t} {ps:Prs} (h:Sh.dec C (.ty t) x=some (a,ps)):C.dec t x=some a:=by
 rw [dec_ty] at h
 split at h
 ·rename_i a' ha
  have:=(Prod.mk.inj (Option.some.inj h)).1
  rw [ha]; exact congrArg some this
 ·cases h
mutual
theorem aAn {C:Cod τ} (hC:C.Ok) {θ:Nat→Option Nat}:∀ (s:Sh) (x:TV τ) (a:s.T τ) (ps:Prs),s.dec C x=some (a,ps)→okθ θ ps→RW θ (x.den C) ((s.enc C a).den C)∧RWs θ (x.cells C) ((s.enc C a).cells C)
 | .ty t,x,a,ps,h,hθ=>ty_ren hC (aNE h)
 | .own e j,x,a,ps,h,hθ=>aWU hC (x:=x) (a:=a) (ps:=ps) h hθ
 | .nn e,x,a,ps,h,hθ=>nomatch h
 | .agg l, x, a, ps, h, hθ => by
  rw [aWI] at h
  cases x with
  | agg xs =>
   have h1:=(qH hC l xs a ps h hθ).2.1
   exact ⟨RW.agg h1,h1⟩
  | _=>simp at h
 | .tup l, x, a, ps, h, hθ => by
  rw [aWJ] at h
  cases x with
  | tup xs =>
   have h1:=(qH hC l xs a ps h hθ).1
   exact ⟨RW.tup h1,RWs.one fun g v hv=>.junk v⟩
  | _=>simp at h
 | .brw e j, x, a, ps, h, hθ => by
  rw [aWK] at h
  split at h
  ·rename_i t l id
   split at h
   ·rename_i l' hl
    have e1:=(Prod.mk.inj (Option.some.inj h)).1
    have e2:=(Prod.mk.inj (Option.some.inj h)).2
    subst e2
    obtain ⟨ht,hl⟩:=fZ hl
    subst ht
    subst hl
    have h1:θ j=some id:=hθ (j,some id) (by simp)
    have hw:∀ a:List (τ t),RW θ (.gsl (C.sz t) (a.map (C.cel t)) id) (.gsl (C.sz t) (a.map (C.cel t)) j):=fun a g v hv =>
     wI (g:=g) (g':=g.ren θ) (id:=id) (id':=j) ⟨rfl,fun _ _ e=>e⟩ (gE hC t _) (fun p hp=>by rw [dY h1]; exact hp) hv
    rw [← e1]
    exact ⟨hw _,.one (hw _)⟩
   ·cases h
  ·cases h
 | .msl e j, x, a, ps, h, hθ => by
  rw [aWL] at h
  split at h
  ·rename_i t id n
   cases ht:Nat.beq t e with
   | false=>rw [ht] at h; cases h
   | true =>
    rw [ht] at h
    have:=Nat.eq_of_beq_eq_true ht; subst this
    have e1:n=a:=(Prod.mk.inj (Option.some.inj h)).1
    have e2:=(Prod.mk.inj (Option.some.inj h)).2
    subst e2; subst e1
    have h1:θ j=some id:=hθ (j,some id) (by simp)
    have hw:RW θ (.bsl id 0 n (C.sz t)) (.bsl j 0 n (C.sz t)):=fun g v hv=>by
     cases hv with
     | bsl q1 q2 q3=>exact .bsl (by rw [dY h1]; exact q1) q2 q3
     | bsl0=>exact .bsl0
    exact ⟨hw,.one hw⟩
  ·have e1:(0:Nat)=a:=(Prod.mk.inj (Option.some.inj h)).1
   subst e1
   have hw:RW θ (.v (.slice none 0 0)) (.bsl j 0 0 (C.sz e)):=fun g v hv=>by cases hv; exact .bsl0
   exact ⟨hw,.one hw⟩
  ·rename_i t id o n c nn
   cases ht:(Nat.beq t e&&Nat.beq o 0) with
   | false=>rw [ht] at h; cases h
   | true =>
    rw [ht] at h
    simp only [Bool.and_eq_true] at ht
    have:=Nat.eq_of_beq_eq_true ht.1; subst this
    have:=Nat.eq_of_beq_eq_true ht.2; subst this
    have e1:n=a:=(Prod.mk.inj (Option.some.inj h)).1
    have e2:=(Prod.mk.inj (Option.some.inj h)).2
    subst e2; subst e1
    have h1:θ j=some id:=hθ (j,some id) (by simp)
    have hw:RW θ (.wsl id (0 * C.sz t) n c nn (C.sz t)) (.bsl j 0 n (C.sz t)):=fun g v hv=>by
     rw [Nat.zero_mul] at hv
     cases pF hv with
     | bsl q1 q2 q3=>exact .bsl (by rw [dY h1]; exact q1) q2 q3
     | bsl0=>exact .bsl0
    exact ⟨hw,.one hw⟩
  ·cases h
 | .wsl e j, x, a, ps, h, hθ => by
  have go:∀ {t id o n c:Nat} {nn:Bool},θ j=some id→RW θ (.wsl id (o * C.sz t) n c nn (C.sz t)) (.wsl j (o * C.sz t) n c nn (C.sz t)):=fun h1 g v hv=>by
   cases hv with
   | wsl q1 q2 q3 q4=>exact .wsl (by rw [dY h1]; exact q1) q2 q3 q4
   | wsl0 q=>exact .wsl0 q
  rw [aWM] at h
  split at h
  ·rename_i t id o n c nn
   cases ht:Nat.beq t e with
   | false=>rw [ht] at h; cases h
   | true =>
    rw [ht] at h
    have:=Nat.eq_of_beq_eq_true ht; subst this
    have e1:(o,n,c,nn)=a:=(Prod.mk.inj (Option.some.inj h)).1
    have e2:=(Prod.mk.inj (Option.some.inj h)).2
    subst e2; subst e1
    have h1:θ j=some id:=hθ (j,some id) (by simp)
    exact ⟨go h1,.one (go h1)⟩
  ·rename_i t id n
   cases ht:Nat.beq t e with
   | false=>rw [ht] at h; cases h
   | true =>
    rw [ht] at h
    have:=Nat.eq_of_beq_eq_true ht; subst this
    have e1:((0:Nat),n,n,false)=a:=(Prod.mk.inj (Option.some.inj h)).1
    have e2:=(Prod.mk.inj (Option.some.inj h)).2
    subst e2; subst e1
    have h1:θ j=some id:=hθ (j,some id) (by simp)
    have hw:RW θ (.bsl id 0 n (C.sz t)) (.wsl j (0 * C.sz t) n n false (C.sz t)):=fun g v hv=>by
     rw [Nat.zero_mul]
     cases hv with
     | bsl q1 q2 q3=>exact .wsl (by rw [dY h1]; exact q1) (Nat.le_refl _) q2 q3
     | bsl0=>exact .wsl0 (fun h=>by cases h)
    exact ⟨hw,.one hw⟩
  ·have e1:((0:Nat),(0:Nat),(0:Nat),false)=a:=(Prod.mk.inj (Option.some.inj h)).1
   subst e1
   have hw:RW θ (.v (.slice none 0 0)) (.wsl j (0 * C.sz e) 0 0 false (C.sz e)):=fun g v hv=>by cases hv; exact .wsl0 (fun h=>by cases h)
   exact ⟨hw,.one hw⟩
  ·cases h
 | .any1, x, a, ps, h, hθ => by
  rw [aNB] at h
  cases hc:(x.isAgg || !x.ok) with
  | true=>rw [hc] at h; cases h
  | false =>
   simp only [Bool.or_eq_false_iff,Bool.not_eq_false'] at hc
   exact aWW hC hc.1 hc.2
 | .yld j, x, a, ps, h, hθ => by
  rw [aWN] at h
  split at h
  ·rename_i id
   have:=(Prod.mk.inj (Option.some.inj h)).2
   subst this
   have h1:θ j=some id:=hθ (j,some id) (by simp)
   have hw:RW θ (.yld id) (.yld j):=fun g v hv=>by
    cases hv with
    | yld e=>exact .yld (by rw [dY h1]; exact e)
   exact ⟨hw,.one hw⟩
  ·cases h
 | .bo b, x, a, ps, h, hθ => by
  rw [dec_bo] at h
  split at h
  ·rename_i b'
   cases hb:boB b b' with
   | false=>rw [hb] at h; cases h
   | true =>
    have:=boB_eq hb; subst this
    have hw:RW θ (.v (.bool b)) (.v (.bool b)):=fun g v hv=>by cases hv; exact .v _
    exact ⟨hw,RWs.one hw⟩
  ·cases h
 | .ptr j p, x, a, ps, h, hθ => by
  rw [aWO] at h
  split at h
  ·rename_i id p'
   cases hp:wH p p' with
   | false=>rw [hp] at h; cases h
   | true =>
    rw [hp] at h
    have:=aNA hp; subst this
    have:=(Prod.mk.inj (Option.some.inj h)).2
    subst this
    exact aWV (hθ (j,some id) (by simp))
  ·cases h
 | .fn f caps, x, a, ps, h, hθ => by
  rw [dec_fn] at h
  split at h
  ·rename_i f' xs
   cases hf:Nat.beq f f' with
   | false=>rw [hf] at h; cases h
   | true =>
    rw [hf] at h
    have:=Nat.eq_of_beq_eq_true hf; subst this
    have hw:RW θ (.fn f (TV.denL C xs)) (.fn f (TV.denL C (Sh.encs C caps a))):=RW.fn (qH hC caps xs a ps h hθ).1
    exact ⟨hw,RWs.one hw⟩
  ·cases h
 | .ls s l, x, a, ps, h, hθ => by
  rw [dec_ls] at h
  split at h
  ·rename_i s' xs
   cases hf:Nat.beq s s' with
   | false=>rw [hf] at h; cases h
   | true =>
    rw [hf] at h
    have:=Nat.eq_of_beq_eq_true hf; subst this
    have hw:RW θ (.sl s (TV.cellsE C xs) .full) (.sl s (TV.cellsE C (Sh.encs C l a)) .full):=(qH hC l xs a ps h hθ).2.2.sl
    exact ⟨hw,RWs.one hw⟩
  ·cases h
 | .nil k, x, a, ps, h, hθ => by
  rw [aWP] at h
  split at h
  ·rename_i k'
   cases hk:NilK.eqb k k' with
   | false=>rw [hk] at h; cases h
   | true =>
    have:=NilK.eqb_eq hk; subst this
    have hw:RW θ (.v k.val) (.v k.val):=fun g v hv=>by cases hv; exact .v _
    exact ⟨hw,RWs.one hw⟩
  ·cases h
 | .junk, x, a, ps, h, hθ => by
  rw [aWQ] at h
  cases hx:x.isAgg with
  | true=>rw [hx] at h; cases h
  | false =>
   refine ⟨fun g v hv=>.junk v,?_⟩
   have:∃ y,x.cells C=[y]:=by cases x<;>simp [TV.isAgg] at hx<;>exact ⟨_,rfl⟩
   obtain ⟨y,hy⟩:=this
   rw [hy]; exact RWs.one fun g v hv=>.junk v
theorem qH {C:Cod τ} (hC:C.Ok) {θ:Nat→Option Nat}:∀ (l:List Sh) (xs:List (TV τ)) (a:Sh.Ts τ l) (ps:Prs),Sh.decs C l xs=some (a,ps)→okθ θ ps →
  RWs θ (TV.denL C xs) (TV.denL C (Sh.encs C l a))∧RWs θ (TV.cellsL C xs) (TV.cellsL C (Sh.encs C l a))∧RWE θ (TV.cellsE C xs) (TV.cellsE C (Sh.encs C l a))
 | [], xs, a, ps, h, hθ => by
  rw [aWR] at h
  split at h
  ·exact ⟨RWs.nil,RWs.nil,RWE.nil⟩
  ·cases h
 | s :: r, xs, a, ps, h, hθ => by
  rw [aWS] at h
  split at h
  ·rename_i x xs
   split at h
   ·rename_i a1 ps1 h1
    split at h
    ·rename_i b1 qs1 h2
     have e1:=(Prod.mk.inj (Option.some.inj h)).1
     have e2:=(Prod.mk.inj (Option.some.inj h)).2
     subst e2
     obtain ⟨k1,k2⟩:=aAn hC s x a1 ps1 h1 hθ.left
     obtain ⟨k3,k4,k5⟩:=qH hC r xs b1 qs1 h2 hθ.right
     rw [← e1,aWT]
     simp only [TV.denL,TV.cellsL,TV.cellsE]
     exact ⟨RWs.append (a:=[_]) (a':=[_]) (.one k1) k3,k2.append k4,.cons k2 k5⟩
    ·cases h
   ·cases h
  ·cases h
end
mutual
def TV.ren (s:Nat→Nat):TV τ→TV τ
 | .ptr id p=>.ptr (s id) p
 | .sl t l k=>.sl t l (match k with | .own id=>.own (s id) | .tl id=>.tl (s id) | .brw id=>.brw (s id) | k=>k)
 | .agg l=>.agg (TV.rens s l)
 | .tup l=>.tup (TV.rens s l)
 | .ipt x=>.ipt (TV.ren s x)
 | .ls k l=>.ls k (TV.rens s l)
 | .msl t id n=>.msl t (s id) n
 | .wsl t id o n c nn=>.wsl t (s id) o n c nn
 | .hsl t j o n c nn=>.hsl t j o n c nn
 | .hptr t j p=>.hptr t j p
 | .any1=>.any1
 | .yld id=>.yld (s id)
 | .fn f l=>.fn f (TV.rens s l)
 | .int k n=>.int k n
 | .bool b=>.bool b
 | .str l=>.str l
 | .nil k=>.nil k
 | .arr t n v=>.arr t n v
 | .cnd _ _ _ _=>.junk
 | .junk=>.junk
def TV.rens (s:Nat→Nat):List (TV τ)→List (TV τ)
 | []=>[]
 | x :: r=>TV.ren s x :: TV.rens s r
end
def Up (s:Nat→Nat) (x y:AV):Prop:=∀ (g g':Gh) (v:Value),IA g g'→(∀ j p,g.ρ j=some p→g'.ρ (s j)=some p)→VRel g x v→VRel g' y v
def Ups (s:Nat→Nat) (l l':List AV):Prop:=l.length=l'.length∧∀ (k:Nat) (x y:AV),l[k]?=some x→l'[k]?=some y→Up s x y
theorem Ups.append {s:Nat→Nat} {a a' b b':List AV} (h:Ups s a a') (h':Ups s b b'):Ups s (a++b) (a'++b'):=by
 refine ⟨by simp [h.1,h'.1],fun k x y hx hy=>?_⟩
 rw [List.getElem?_append] at hx hy
 rw [← h.1] at hy
 split at hx
 ·rename_i hk; rw [if_pos hk] at hy; exact h.2 k x y hx hy
 ·rename_i hk; rw [if_neg hk] at hy; exact h'.2 _ x y hx hy
theorem Ups.one {s:Nat→Nat} {x y:AV} (h:Up s x y):Ups s [x] [y]:=⟨rfl,fun k a b ha hb=>by
 cases k with
 | zero=>simp at ha hb; subst ha; subst hb; exact h
 | succ k=>simp at ha⟩
def UpE (s:Nat→Nat) (l l':List (List AV)):Prop:=l.length=l'.length∧∀ (i:Nat) (a b:List AV),l[i]?=some a→l'[i]?=some b→Ups s a b
theorem UpE.nil {s:Nat→Nat}:UpE s [] []:=⟨rfl,by simp⟩
theorem UpE.cons {s:Nat→Nat} {a b:List AV} {l l':List (List AV)} (h:Ups s a b) (h':UpE s l l'):UpE s (a :: l) (b :: l'):=by
 refine ⟨by simp [h'.1],fun i x y hx hy=>?_⟩
 cases i with
 | zero=>simp at hx hy; subst hx; subst hy; exact h
 | succ i=>exact h'.2 i x y (by simpa using hx) (by simpa using hy)
theorem UpE.sl {s:Nat→Nat} {sz:Nat} {l l':List (List AV)} (h:UpE s l l'):Up s (.sl sz l .full) (.sl sz l' .full):=fun g g' v hI hρ hv=>by
 have at':∀ (i:Nat) (b:List AV),l'[i]?=some b→∃ a,l[i]?=some a∧Ups s a b:=fun i b hb=>by
  have hi:i < l.length:=by
   rw [h.1]
   rcases Nat.lt_or_ge i l'.length with h' | h'
   ·exact h'
   ·rw [List.getElem?_eq_none h'] at hb; cases hb
  exact ⟨_,List.getElem?_eq_getElem hi,h.2 i _ b (List.getElem?_eq_getElem hi) hb⟩
 have in':∀ (a b:List AV) (k:Nat) (y:AV),Ups s a b→b[k]?=some y→∃ x,a[k]?=some x∧Up s x y:=fun a b k y hw hy=>by
  have hk:k < a.length:=by
   rw [hw.1]
   rcases Nat.lt_or_ge k b.length with h' | h'
   ·exact h'
   ·rw [List.getElem?_eq_none h'] at hy; cases hy
  exact ⟨_,List.getElem?_eq_getElem hk,hw.2 k _ y (List.getElem?_eq_getElem hk) hy⟩
 cases hv with
 | sl c e1 e2 e3 e4 e5 e6 =>
  refine .sl c (h.1▸e1) e2 (fun i b hb=>?_) (fun i b k y hb hy=>?_) (fun i b k y hb hy=>?_) e6
  ·obtain ⟨a,ha,hw⟩:=at' i b hb
   rw [← hw.1]; exact e3 i a ha
  ·obtain ⟨a,ha,hw⟩:=at' i b hb
   obtain ⟨x,hx,_⟩:=in' a b k y hw hy
   rw [← hI.1]; exact e4 i a k x ha hx
  ·obtain ⟨a,ha,hw⟩:=at' i b hb
   obtain ⟨x,hx,hxy⟩:=in' a b k y hw hy
   exact hxy g g' _ hI hρ (e5 i a k x ha hx)
theorem Ups.nil {s:Nat→Nat}:Ups s [] []:=⟨rfl,by simp⟩
theorem Ups.lrel {s:Nat→Nat} {l l':List AV} (h:Ups s l l') {g g':Gh} (hI:IA g g') (hρ:∀ j p,g.ρ j=some p→g'.ρ (s j)=some p) {cs:List Value} (hl:LRel g l cs):LRel g' l' cs:=by
 refine ⟨h.1.symm.trans hl.1,fun k y c hy hc=>?_⟩
 have hk:k < l.length:=by
  rw [h.1]
  rcases Nat.lt_or_ge k l'.length with h' | h'
  ·exact h'
  ·rw [List.getElem?_eq_none h'] at hy; cases hy
 exact h.2 k _ y (List.getElem?_eq_getElem hk) hy g g' c hI hρ (hl.2 k _ c (List.getElem?_eq_getElem hk) hc)
mutual
theorem sR {C:Cod τ} (hC:C.Ok) (s:Nat→Nat):∀ x:TV τ,Up s (x.den C) ((x.ren s).den C)∧Ups s (x.cells C) ((x.ren s).cells C)
 | .ptr id p => by
  have hw:Up s (dW id p) (dW (s id) p):=fun g g' v hI hρ hv=>by
   obtain ⟨hb,hv'⟩:=kO hv
   simp only [dW,hb,cond_true]
   cases hv' with
   | ptr e=>exact .ptr (hρ _ _ e)
  simp only [TV.ren,TV.den,TV.cells]
  exact ⟨hw,.one hw⟩
 | .sl t l k => by
  have hw:Up s (cW C t l k) (cW C t l (match k with | .own id=>.own (s id) | .tl id=>.tl (s id) | .brw id=>.brw (s id) | k=>k)):=fun g g' v hI hρ hv=>by
   cases k with
   | any =>
    refine mQ ?_ hI hv
    exact NoId.asl (gE hC t l)
   | nn =>
    refine mQ ?_ hI hv
    exact NoId.nsl (gE hC t l)
   | non=>exact nX (tok:=.no) (tok':=.no) hI (gE hC t l) (fun _ _ _ _ h=>h) hv
   | full=>exact nX (tok:=.full) (tok':=.full) hI (gE hC t l) (fun _ _ _ _ h=>h) hv
   | own id=>exact wI hI (gE hC t l) (fun p hp=>hρ id p hp) hv
   | brw id=>exact wI hI (gE hC t l) (fun p hp=>hρ id p hp) hv
   | tl id=>exact nX (tok:=.tail id) (tok':=.tail (s id)) hI (gE hC t l) (fun b o len cap ⟨n,h1,h2⟩=>⟨n,hρ id _ h1,h2⟩) hv
  simp only [TV.ren,TV.den,TV.cells]
  exact ⟨hw,.one hw⟩
 | .agg l => by
  have h1:=(sS hC s l).2.1
  simp only [TV.ren,TV.den,TV.cells]
  refine ⟨fun g g' v hI hρ hv=>?_,h1⟩
  obtain ⟨cs,rfl,hl⟩:=aCV hv
  exact aAg (h1.lrel hI hρ hl)
 | .tup l => by
  have h1:=(sS hC s l).1
  simp only [TV.ren,TV.den,TV.cells]
  refine ⟨fun g g' v hI hρ hv=>?_,.one fun g g' v _ _ _=>.junk v⟩
  cases hv with
  | tup e h' =>
   have:=h1.lrel (g:=g) hI hρ (cs:=_) ⟨e.trans Array.length_toList.symm,fun k x c a b=>h' k x c a (by simpa using b)⟩
   exact .tup (by simpa using this.1) fun k x c a b=>this.2 k x c a (by simpa using b)
 | .ipt x => by
  have h1:=(sR hC s x).2
  have hw:Up s (.iptr (x.cells C) 0) (.iptr ((x.ren s).cells C) 0):=fun g g' v hI hρ hv=>by
   cases hv with
   | iptr c e1 e2 =>
    refine .iptr c (fun k y hy=>?_) (fun k y hy=>?_)
    all_goals
     have hk:k < (x.cells C).length:=by
      rw [h1.1]
      rcases Nat.lt_or_ge k ((x.ren s).cells C).length with h' | h'
      ·exact h'
      ·rw [List.getElem?_eq_none h'] at hy; cases hy
    ·rw [← hI.1]; exact e1 k _ (List.getElem?_eq_getElem hk)
    ·exact h1.2 k _ y (List.getElem?_eq_getElem hk) hy g g' _ hI hρ (e2 k _ (List.getElem?_eq_getElem hk))
  simp only [TV.ren,TV.den,TV.cells]
  exact ⟨hw,.one hw⟩
 | .ls k l => by
  have hw:Up s (.sl k (TV.cellsE C l) .full) (.sl k (TV.cellsE C (TV.rens s l)) .full):=(sS hC s l).2.2.sl
  simp only [TV.ren,TV.den,TV.cells]
  exact ⟨hw,.one hw⟩
 | .msl t id n => by
  have hw:Up s (.bsl id 0 n (C.sz t)) (.bsl (s id) 0 n (C.sz t)):=fun g g' v hI hρ hv=>by
   cases hv with
   | bsl q1 q2 q3=>exact .bsl (hρ _ _ q1) q2 q3
   | bsl0=>exact .bsl0
  simp only [TV.ren,TV.den,TV.cells]
  exact ⟨hw,.one hw⟩
 | .wsl t id o n c nn => by
  have hw:Up s (.wsl id (o * C.sz t) n c nn (C.sz t)) (.wsl (s id) (o * C.sz t) n c nn (C.sz t)):=fun g g' v hI hρ hv=>by
   cases hv with
   | wsl q1 q2 q3 q4=>exact .wsl (hρ _ _ q1) q2 q3 q4
   | wsl0 q=>exact .wsl0 q
  simp only [TV.ren,TV.den,TV.cells]
  exact ⟨hw,.one hw⟩
 | .hsl t j o n c nn => by
  have hw:Up s (.hsl j (o * C.sz t) n c nn (C.sz t)) (.hsl j (o * C.sz t) n c nn (C.sz t)):=fun g g' v hI _ hv=>mQ NoId.hsl hI hv
  simp only [TV.ren,TV.den,TV.cells]
  exact ⟨hw,.one hw⟩
 | .hptr t j p => by
  have hw:Up s (jP j p) (jP j p):=fun g g' v hI _ hv=>mQ (aNC j p) hI hv
  simp only [TV.ren,TV.den,TV.cells]
  exact ⟨hw,.one hw⟩
 | .any1 => by
  have hw:Up s .any1 .any1:=fun g g' v _ _ hv=>by
   cases hv with
   | any1 q=>exact .any1 q
  exact ⟨hw,.one hw⟩
 | .yld id => by
  have hw:Up s (.yld id) (.yld (s id)):=fun g g' v hI hρ hv=>by
   cases hv with
   | yld e=>exact .yld (hρ _ _ e)
  simp only [TV.ren,TV.den,TV.cells]
  exact ⟨hw,.one hw⟩
 | .fn f l => by
  have h1:=(sS hC s l).1
  have hw:Up s (.fn f (TV.denL C l)) (.fn f (TV.denL C (TV.rens s l))):=fun g g' v hI hρ hv=>by
   cases hv with
   | fn e h' =>
    have:=h1.lrel (g:=g) hI hρ (cs:=_) ⟨e.trans Array.length_toList.symm,fun k x c a b=>h' k x c a (by simpa using b)⟩
    exact .fn (by simpa using this.1) fun k x c a b=>this.2 k x c a (by simpa using b)
  simp only [TV.ren,TV.den,TV.cells]
  exact ⟨hw,.one hw⟩
 | .int k n => by
  have hw:Up s (.v (.int k n)) (.v (.int k n)):=fun g g' v _ _ hv=>by cases hv; exact .v _
  exact ⟨hw,.one hw⟩
 | .bool b => by
  have hw:Up s (.v (.bool b)) (.v (.bool b)):=fun g g' v _ _ hv=>by cases hv; exact .v _
  exact ⟨hw,.one hw⟩
 | .str l => by
  have hw:Up s (.v (.string ⟨⟨l⟩⟩)) (.v (.string ⟨⟨l⟩⟩)):=fun g g' v _ _ hv=>by cases hv; exact .v _
  exact ⟨hw,.one hw⟩
 | .nil k => by
  have hw:Up s (.v k.val) (.v k.val):=fun g g' v _ _ hv=>by cases hv; exact .v _
  exact ⟨hw,.one hw⟩
 | .arr t n v => by
  have hn:∀ l:List (τ t),NoIds (l.flatMap (C.cel t)):=fun l=>NoIds.of_all fun x hx=>by
   obtain ⟨a,_,ha⟩:=List.mem_flatMap.1 hx
   obtain ⟨k,hk⟩:=List.getElem?_of_mem ha
   exact (hC.noid t a).get hk
  have h1:Ups s (v.toList.flatMap (C.cel t)) (v.toList.flatMap (C.cel t)):=⟨rfl,fun k x y hx hy=>by
   rw [hx] at hy; cases hy
   exact fun g g' v hI _ hv=>mQ ((hn _).get hx) hI hv⟩
  simp only [TV.ren,TV.den,TV.cells]
  refine ⟨fun g g' v hI hρ hv=>?_,h1⟩
  obtain ⟨cs,rfl,hl⟩:=aCV hv
  exact aAg (h1.lrel hI hρ hl)
 | .cnd d w b x => by
  simp only [TV.ren,TV.den,TV.cells]
  exact ⟨fun g g' v _ _ _=>.junk v,.one fun g g' v _ _ _=>.junk v⟩
 | .junk => by
  simp only [TV.ren,TV.den,TV.cells]
  exact ⟨fun g g' v _ _ _=>.junk v,.one fun g g' v _ _ _=>.junk v⟩
theorem sS {C:Cod τ} (hC:C.Ok) (s:Nat→Nat):∀ l:List (TV τ),Ups s (TV.denL C l) (TV.denL C (TV.rens s l))∧Ups s (TV.cellsL C l) (TV.cellsL C (TV.rens s l))∧UpE s (TV.cellsE C l) (TV.cellsE C (TV.rens s l))
 | []=>⟨.nil,.nil,.nil⟩
 | x :: r => by
  obtain ⟨h1,h2⟩:=sR hC s x
  obtain ⟨h3,h4,h5⟩:=sS hC s r
  simp only [TV.rens,TV.denL,TV.cellsL,TV.cellsE]
  exact ⟨Ups.append (a:=[_]) (a':=[_]) (.one h1) h3,h2.append h4,.cons h2 h5⟩
end
end
end Go.Ev
