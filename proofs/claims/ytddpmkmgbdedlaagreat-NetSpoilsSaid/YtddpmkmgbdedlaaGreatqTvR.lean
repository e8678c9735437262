/-
The typed layer: how the common kinds of data are told and read.
-/
import Derived.Test.YtddpmkmgbdedlaaGreatqTvQ
set_option linter.unusedVariables false
set_option linter.unusedSimpArgs false
namespace Go.Ev
open Go
structure Hd where
 j:Nat
 o:Nat
 n:Nat
 c:Nat
 nn:Bool
instance:Inhabited Hd:=⟨⟨0,0,0,0,false⟩⟩
section
variable {τ:Nat→Type}
def dHd (e:Nat) (x:TV τ):Option Hd:=match x with | .hsl t j o n c nn=>bif Nat.beq t e then some ⟨j,o,n,c,nn⟩ else none | .nil .slice=>some ⟨0,0,0,0,false⟩ | _=>none
def cA (k:IntKind) (x:TV τ):Option Int:=match x with | .int k' n=>bif IntKind.eqb k k' then some n else none | _=>none
def wU (x:TV τ):Option Bool:=match x with | .bool b=>some b | _=>none
def dStr (x:TV τ):Option (List UInt8):=match x with | .str s=>some s | _=>none
def dSl (e:Nat) (x:TV τ):Option (List (τ e)):=match x with | .sl _ l _=>eF e l | .nil .slice=>some [] | _=>none
def castV {t n:Nat} (e m:Nat) (v:Vector (τ t) n):Option (Vector (τ e) m):=if h:t=e∧n=m then some (h.1▸h.2▸v) else none
def jC (e n:Nat) (x:TV τ):Option (Vector (τ e) n):=match x with | .arr _ _ v=>castV e n v | _=>none
variable {C:Cod τ}
theorem dB {k:IntKind} {x:TV τ} {a:Int} (h:cA k x=some a):x=.int k a:=by
 cases x<;>simp only [cA,reduceCtorEq] at h
 rename_i k' n
 cases hk:IntKind.eqb k k' with
 | false=>rw [hk] at h; cases h
 | true=>rw [hk] at h; cases h; rw [IntKind.eqb_eq hk]
theorem aKc {x:TV τ} {a:Bool} (h:wU x=some a):x=.bool a:=by
 cases x<;>simp only [wU,reduceCtorEq,Option.some.injEq] at h; rw [h]
theorem aKd {x:TV τ} {a:List UInt8} (h:dStr x=some a):x=.str a:=by
 cases x<;>simp only [dStr,reduceCtorEq,Option.some.injEq] at h; rw [h]
theorem oF {e n:Nat} {x:TV τ} {a:Vector (τ e) n} (h:jC e n x=some a):x=.arr e n a:=by
 cases x<;>simp only [jC,reduceCtorEq] at h
 rename_i t m v
 unfold castV at h
 split at h
 ·rename_i hc
  obtain ⟨rfl,rfl⟩:=hc
  cases h; rfl
 ·cases h
theorem cP {e:Nat} {x:TV τ} {a:List (τ e)} (h:dSl e x=some a):CW (x.cells C) [.asl (C.sz e) (a.map (C.cel e))]∧x.ok=true∧x.isAgg=false:=by
 cases x<;>simp only [dSl,reduceCtorEq] at h
 ·rename_i k
  cases k<;>simp only [reduceCtorEq,Option.some.injEq] at h
  subst h
  exact ⟨.cons (fun g v hv=>by cases hv; exact .asl0) (.refl []),rfl,rfl⟩
 ·rename_i t l k
  obtain ⟨rfl,rfl⟩:=fZ h
  exact ⟨.cons (wA C _ _ k) (.refl []),rfl,rfl⟩
theorem aKe {e:Nat} {x:TV τ} {a:Hd} (h:dHd e x=some a):CW (x.cells C) [.hsl a.j (a.o * C.sz e) a.n a.c a.nn (C.sz e)]∧x.ok=true∧x.isAgg=false:=by
 cases x<;>simp only [dHd,reduceCtorEq] at h
 ·rename_i k
  cases k<;>simp only [reduceCtorEq,Option.some.injEq] at h
  subst h
  exact ⟨.cons (fun g v hv=>by cases hv; rw [Nat.zero_mul]; exact .hsl0 (fun e=>by cases e)) (.refl []),rfl,rfl⟩
 ·rename_i t j o n c nn
  cases hb:Nat.beq t e with
  | false=>rw [hb] at h; cases h
  | true =>
   rw [hb] at h
   have:=Nat.eq_of_beq_eq_true hb
   subst this
   cases h
   exact ⟨.refl _,rfl,rfl⟩
theorem eA {x:AV} (h:NoId x):NoIds [x]:=⟨h,trivial⟩
theorem aZ {l m:List AV} (h:NoIds l) (h':NoIds m):NoIds (l++m):=NoIds.of_all fun x hx=>by
 rcases List.mem_append.1 hx with hx | hx
 ·obtain ⟨k,hk⟩:=List.getElem?_of_mem hx; exact h.get hk
 ·obtain ⟨k,hk⟩:=List.getElem?_of_mem hx; exact h'.get hk
def jU (s:List UInt8):List Int:=s.map fun b=>(b.toNat:Int)
def jD (l:List Int):List UInt8:=l.map fun n=>UInt8.ofNat n.toNat
theorem aOg:∀ l:List Int,kG (l.map fun x=>[AV.v (.int .u8 x)])=some (jD l)
 | []=>rfl
 | n :: l=>by simp only [List.map_cons,kG,aOg l,Option.map_some]; rfl
theorem aKf {e:Nat} (h:bD C e) {n:Nat} (v:Vector (τ e) n):(v.toList.flatMap (C.cel e)).length=n * C.sz e:=by
 have:∀ l:List (τ e),(l.flatMap (C.cel e)).length=l.length * C.sz e:=fun l=>by
  induction l with
  | nil=>simp
  | cons x l ih=>simp [ih,h.len,Nat.add_mul,Nat.add_comm]
 rw [this]; simp
theorem aKg {e:Nat} (h:bD C e) (l:List (τ e)):(l.flatMap (C.cel e)).all AV.one=true:=by
 rw [List.all_flatMap]
 exact List.all_eq_true.2 fun x _=>h.one x
theorem aKh {e:Nat} (h:bD C e) (l:List (τ e)):NoIds (l.flatMap (C.cel e)):=NoIds.of_all fun x hx=>by
 obtain ⟨a,_,ha⟩:=List.mem_flatMap.1 hx
 obtain ⟨k,hk⟩:=List.getElem?_of_mem ha
 exact (h.noid a).get hk
theorem aDz {t:Nat} (h:bD C t) {ks:List Kd} (hk:C.kd t=some ks):∀ (l m:List (τ t)),l.length=m.length →
  cD (rep l.length ks) (l.flatMap (C.cel t)) (m.flatMap (C.cel t))=some ((l.zip m).all fun p=>C.beq t p.1 p.2)
 | [],[],_=>rfl
 | x :: l,[],h'=>by simp at h'
 | [],y :: m,h'=>by simp at h'
 | x :: l, y :: m, h' => by
  have:=eW (h.kd ks hk x y) (aDz h hk l m (by simpa using h'))
  simpa [rep,List.replicate_succ] using this
theorem aOh:∀ l:List Value,zrel (l.map .v) l
 | []=>trivial
 | x :: l=>⟨rfl,aOh l⟩
theorem bF {P:Program} {t:TypeId} {i:TI} {z:Value} (hd:P.underlying t=some i.d) (hl:i.zero.length=i.size) (hi:(P.info? t).map (fun x=>(x.size,x.bytes,x.zero))=some (i.size,i.bytes,some z))
  (hz:i.zero=z.cells.toList.map .v):TyOk P t i:=TyOk.mk' hd hl hi (hz▸aOh _)
def qL:Code→Nat→Option (Array Tmp×Code×Code)
 | .seq a b,k=>(match qL a k with | some x=>some x | none=>qL b k)
 | .cond _ a b,k=>(match qL a k with | some x=>some x | none=>qL b k)
 | .block _ c,k=>qL c k
 | .loop c,k=>qL c k
 | .scope c,k=>qL c k
 | .rangeFunc _ ps a b,k=>bif Nat.beq (aAs a b) k then some (ps,a,b) else none
 | _,_=>none
def aDA (fn:Func) (k:Nat):Array Tmp×Code×Code :=
 match fn.body with
 | some c=>(match qL c k with | some x=>x | none=>(#[],.skip,.skip))
 | none=>(#[],.skip,.skip)
def tG:List (Nat×Con τ)→FuncId→List (Con τ)
 | [],_=>[]
 | (k,c) :: r,f=>bif Nat.beq k f then c :: tG r f else tG r f
def aAB:List (Nat×Lp τ)→Nat→List (Lp τ)
 | [],_=>[]
 | (k,c) :: r,f=>bif Nat.beq k f then c :: aAB r f else aAB r f
def aDB (E:Env) (C:Cod τ):List (Nat×Con τ)→Prop
 | []=>True
 | p :: r=>aF E C p.1 p.2∧aDB E C r
theorem aAC {E:Env}:∀ {l:List (Nat×Con τ)},aDB E C l→∀ f c,c∈tG l f→aF E C f c
 | [],_,f,c,h=>by cases h
 | (k, d) :: r, ha, f, c, h => by
  simp only [tG] at h
  cases hk:Nat.beq k f with
  | true =>
   rw [hk] at h
   simp only [cond_true,List.mem_cons] at h
   have:=Nat.eq_of_beq_eq_true hk
   subst this
   rcases h with rfl | h
   ·exact ha.1
   ·exact aAC ha.2 _ c h
  | false=>rw [hk] at h; exact aAC ha.2 f c h
theorem CW.of_eq {l l':List AV} (h:l=l'):CW l l':=h▸CW.refl l
end
theorem LRel.swap {g:Gh} {pre post:List AV} {x y:AV} {cs:List Value} {v:Value} (h:LRel g (pre++x :: post) cs) (hv:cs[pre.length]?=some v) (hy:VRel g y v):LRel g (pre++y :: post) cs:=by
 refine ⟨by simpa using h.1,fun k z c hk hc=>?_⟩
 rcases Nat.lt_trichotomy k pre.length with h1 | h1 | h1
 ·rw [List.getElem?_append_left h1] at hk
  exact h.2 k z c (by rw [List.getElem?_append_left h1]; exact hk) hc
 ·subst h1
  rw [List.getElem?_append_right (Nat.le_refl _)] at hk
  simp only [Nat.sub_self,List.getElem?_cons_zero,Option.some.injEq] at hk
  rw [hc] at hv
  cases hv; subst hk; exact hy
 ·obtain ⟨j,rfl⟩:∃ j,k=pre.length+(j+1):=⟨k - pre.length - 1,by omega⟩
  have e:∀ q:AV,(pre++q :: post)[pre.length+(j+1)]?=post[j]?:=fun q=>by
   rw [List.getElem?_append_right (by omega)]; simp
  rw [e] at hk
  exact h.2 _ z c (by rw [e]; exact hk) hc
theorem FnSpec.split {E:Env} {f:FuncId} {pre post:List AV} {sz:Nat} {elems:List (List AV)} {L L':List Ent} {a:AV} (h1:elems=[]→FnSpec E f (pre++.v (.slice none 0 0) :: post) L a L')
  (h2:FnSpec E f (pre++.nsl sz elems :: post) L a L'):FnSpec E f (pre++.asl sz elems :: post) L a L':=by
 refine ⟨h2.1,fun g w cargs hw hr=>?_⟩
 obtain ⟨v,hv,hx⟩:=hr.get (k:=pre.length) (x:=.asl sz elems) (by simp)
 by_cases e:v=.slice none 0 0
 ·subst e
  have:elems=[]:=by
   cases hx with
   | asl h=>cases h
   | asl0=>rfl
  exact (h1 this).2 g w cargs hw (hr.swap hv (.v _))
 ·exact h2.2 g w cargs hw (hr.swap hv (.nsl hx e))
end Go.Ev
