/-
The typed layer: how the common kinds of data are told and read.
-/
import Derived.Test.YtddpmkmgbdedlaaGreatqTvQ
set_option linter.unusedVariables false
set_option linter.unusedSimpArgs false
namespace Go.Ev
open Go
structure Hd where
 j:Nat
 o:Nat
 n:Nat
 c:Nat
 nn:Bool
instance:Inhabited Hd:=⟨⟨0,0,0,0,false⟩⟩
section
variable {τ:Nat→Type}
def dHd (e:Nat)(x:TV τ):Option Hd:=match x with | .Bw t j o n c nn=>bif Nat.beq t e then some ⟨j,o,n,c,nn⟩ else none | .nil .slice=>some ⟨0,0,0,0,false⟩|_=>none
def vN (k:IntKind)(x:TV τ):Option Int:=match x with | .int k' n=>bif IntKind.IS k k' then some n else none|_=>none
def E0 (x:TV τ):Option Bool:=match x with | .bool b=>some b|_=>none
def sq (x:TV τ):Option (List UInt8):=match x with | .str s=>some s|_=>none
def Tq (e:Nat)(x:TV τ):Option (List (τ e)):=match x with | .sl _ l _=>Bh e l | .nil .slice=>some [] | _=>none
def aDI {t n:Nat}(e m:Nat)(v:Vector (τ t) n):Option (Vector (τ e) m):=if h:t=e∧n=m then some (h.1▸h.2▸v) else none
def NV (e n:Nat)(x:TV τ):Option (Vector (τ e) n):=match x with | .arr _ _ v=>aDI e n v|_=>none
variable {C:eY τ}
theorem kR {k:IntKind}{x:TV τ}{a:Int}(h:vN k x=some a):x=.int k a:=by
 cases x<;>simp only[vN,reduceCtorEq]at h
 rename_i k' n
 cases hk:IntKind.IS k k' with
 |false=>rw[hk]at h;cases h
 |true=>rw[hk]at h;cases h;rw[IntKind.LL hk]
theorem L9 {x:TV τ}{a:Bool}(h:E0 x=some a):x=.bool a:=by
 cases x<;>simp only[E0,reduceCtorEq,Option.some.injEq]at h;rw[h]
theorem gn {x:TV τ}{a:List UInt8}(h:sq x=some a):x=.str a:=by
 cases x<;>simp only[sq,reduceCtorEq,Option.some.injEq]at h;rw[h]
theorem AH {e n:Nat}{x:TV τ}{a:Vector (τ e) n}(h:NV e n x=some a):x=.arr e n a:=by
 cases x<;>simp only[NV,reduceCtorEq]at h
 rename_i t m v
 unfold aDI at h
 split at h
 ·rename_i hc
  obtain⟨rfl,rfl⟩:=hc
  cases h;rfl
 ·cases h
theorem jH {e:Nat}{x:TV τ}{a:List (τ e)}(h:Tq e x=some a):CW (x.cells C) [.xA (C.sz e) (a.map (C.cel e))]∧x.ok=true∧x.isAgg=false:=by
 cases x<;>simp only[Tq,reduceCtorEq]at h
 ·rename_i k
  cases k<;>simp only[reduceCtorEq,Option.some.injEq]at h
  subst h
  exact⟨.cons (fun g v hv=>by cases hv;exact .Jt) (.refl []),rfl,rfl⟩
 ·rename_i t l k
  obtain⟨rfl,rfl⟩:=iT h
  exact⟨.cons (TC C _ _ k) (.refl []),rfl,rfl⟩
theorem gm {e:Nat}{x:TV τ}{a:Hd}(h:dHd e x=some a):CW (x.cells C) [.Bw a.j (a.o * C.sz e) a.n a.c a.nn (C.sz e)]∧x.ok=true∧x.isAgg=false:=by
 cases x<;>simp only[dHd,reduceCtorEq]at h
 ·rename_i k
  cases k<;>simp only[reduceCtorEq,Option.some.injEq]at h
  subst h
  exact⟨.cons (fun g v hv=>by cases hv;rw[Nat.zero_mul];exact .LV (fun e=>by cases e)) (.refl []),rfl,rfl⟩
 ·rename_i t j o n c nn
  cases hb:Nat.beq t e with
  |false=>rw[hb]at h;cases h
  |true =>
   rw[hb]at h
   have:=Nat.eq_of_beq_eq_true hb
   subst this
   cases h
   exact⟨.refl _,rfl,rfl⟩
theorem fO {x:AV}(h:gR x):rA [x]:=⟨h,trivial⟩
theorem aW {l m:List AV}(h:rA l)(h':rA m):rA (l++m):=rA.MI fun x hx=>by
 rcases List.mem_append.1 hx with hx|hx
 ·obtain⟨k,hk⟩:=List.getElem?_of_mem hx;exact h.get hk
 ·obtain⟨k,hk⟩:=List.getElem?_of_mem hx;exact h'.get hk
def Kf (s:List UInt8):List Int:=s.map fun b=>(b.toNat:Int)
def QF (l:List Int):List UInt8:=l.map fun n=>UInt8.ofNat n.toNat
theorem VN:∀ l:List Int,Ff (l.map fun x=>[AV.v (.int .u8 x)])=some (QF l)
 |[]=>rfl
 |n :: l=>by simp only[List.map_cons,Ff,VN l,Option.map_some];rfl
theorem FU {e:Nat}(h:eH C e){n:Nat}(v:Vector (τ e) n):(v.toList.flatMap (C.cel e)).length=n * C.sz e:=by
 have:∀ l:List (τ e),(l.flatMap (C.cel e)).length=l.length * C.sz e:=fun l=>by
  induction l with
  |nil=>simp
  |cons x l ih=>simp[ih,h.len,Nat.add_mul,Nat.add_comm]
 rw[this];simp
theorem g7 {e:Nat}(h:eH C e)(l:List (τ e)):(l.flatMap (C.cel e)).all AV.one=true:=by
 rw[List.all_flatMap]
 exact List.all_eq_true.2 fun x _=>h.one x
theorem RZ {e:Nat}(h:eH C e)(l:List (τ e)):rA (l.flatMap (C.cel e)):=rA.MI fun x hx=>by
 obtain⟨a,_,ha⟩:=List.mem_flatMap.1 hx
 obtain⟨k,hk⟩:=List.getElem?_of_mem ha
 exact (h.dB a).get hk
theorem Ov {t:Nat}(h:eH C t){ks:List Kd}(hk:C.kd t=some ks):∀ (l m:List (τ t)),l.length=m.length →
  eN (rep l.length ks) (l.flatMap (C.cel t)) (m.flatMap (C.cel t))=some ((l.zip m).all fun p=>C.beq t p.1 p.2)
 |[],[],_=>rfl
 |x :: l,[],h'=>by simp at h'
 |[],y :: m,h'=>by simp at h'
 |x :: l,y :: m,h'=>by
  have:=cZ (h.kd ks hk x y) (Ov h hk l m (by simpa using h'))
  simpa[rep,List.replicate_succ] using this
theorem ej:∀ l:List Value,wb (l.map .v) l
 |[]=>trivial
 |x :: l=>⟨rfl,ej l⟩
theorem eM {P:Program}{t:TypeId}{i:TI}{z:Value}(hd:P.underlying t=some i.d)(hl:i.zero.length=i.size)(hi:(P.info? t).map (fun x=>(x.size,x.bytes,x.zero))=some (i.size,i.bytes,some z))
  (hz:i.zero=z.cells.toList.map .v):gP P t i:=gP.mk' hd hl hi (hz▸ej _)
def HH:Code→Nat→Option (Array Tmp×Code×Code)
 |.seq a b,k=>(match HH a k with|some x=>some x|none=>HH b k)
 |.cond _ a b,k=>(match HH a k with|some x=>some x|none=>HH b k)
 |.block _ c,k=>HH c k
 |.loop c,k=>HH c k
 |.scope c,k=>HH c k
 |.rangeFunc _ ps a b,k=>bif Nat.beq (QA a b) k then some (ps,a,b) else none
 |_,_=>none
def S9 (fn:Func)(k:Nat):Array Tmp×Code×Code :=
 match fn.body with
 |some c=>(match HH c k with|some x=>x|none=>(#[],.skip,.skip))
 |none=>(#[],.skip,.skip)
def KX:List (Nat×dL τ)→FuncId→List (dL τ)
 |[],_=>[]
 |(k,c) :: r,f=>bif Nat.beq k f then c :: KX r f else KX r f
def UT:List (Nat×Lp τ)→Nat→List (Lp τ)
 |[],_=>[]
 |(k,c) :: r,f=>bif Nat.beq k f then c :: UT r f else UT r f
def mr (E:Env)(C:eY τ):List (Nat×dL τ)→Prop
 |[]=>True
 |p :: r=>aR E C p.1 p.2∧mr E C r
theorem Mf {E:Env}:∀ {l:List (Nat×dL τ)},mr E C l→∀ f c,c∈KX l f→aR E C f c
 |[],_,f,c,h=>by cases h
 |(k,d) :: r,ha,f,c,h=>by
  simp only[KX]at h
  cases hk:Nat.beq k f with
  |true =>
   rw[hk]at h
   simp only[cond_true,List.mem_cons]at h
   have:=Nat.eq_of_beq_eq_true hk
   subst this
   rcases h with rfl|h
   ·exact ha.1
   ·exact Mf ha.2 _ c h
  |false=>rw[hk]at h;exact Mf ha.2 f c h
theorem CW.of_eq {l l':List AV}(h:l=l'):CW l l':=h▸CW.refl l
end
theorem cW.swap {g:Gh}{pre post:List AV}{x y:AV}{cs:List Value}{v:Value}(h:cW g (pre++x :: post) cs)(hv:cs[pre.length]?=some v)(hy:aF g y v):cW g (pre++y :: post) cs:=by
 refine⟨by simpa using h.1,fun k z c hk hc=>?_⟩
 rcases Nat.lt_trichotomy k pre.length with h1|h1|h1
 ·rw[List.getElem?_append_left h1]at hk
  exact h.2 k z c (by rw[List.getElem?_append_left h1];exact hk) hc
 ·subst h1
  rw[List.getElem?_append_right (Nat.le_refl _)]at hk
  simp only[Nat.sub_self,List.getElem?_cons_zero,Option.some.injEq]at hk
  rw[hc]at hv
  cases hv;subst hk;exact hy
 ·obtain⟨j,rfl⟩:∃ j,k=pre.length+(j+1):=⟨k - pre.length - 1,by omega⟩
  have e:∀ q:AV,(pre++q :: post)[pre.length+(j+1)]?=post[j]?:=fun q=>by
   rw[List.getElem?_append_right (by omega)];simp
  rw[e]at hk
  exact h.2 _ z c (by rw[e];exact hk) hc
theorem mT.split {E:Env}{f:FuncId}{pre post:List AV}{sz:Nat}{elems:List (List AV)}{L L':List dD}{a:AV}(h1:elems=[]→mT E f (pre++.v (.slice none 0 0) :: post) L a L')
  (h2:mT E f (pre++.VA sz elems :: post) L a L'):mT E f (pre++.xA sz elems :: post) L a L':=by
 refine⟨h2.1,fun g w cargs hw hr=>?_⟩
 obtain⟨v,hv,hx⟩:=hr.get (k:=pre.length) (x:=.xA sz elems) (by simp)
 by_cases e:v=.slice none 0 0
 ·subst e
  have:elems=[]:=by
   cases hx with
   |xA h=>cases h
   |Jt=>rfl
  exact (h1 this).2 g w cargs hw (hr.swap hv (.v _))
 ·exact h2.2 g w cargs hw (hr.swap hv (.VA hx e))
theorem mT.aGF {E:Env}{f:FuncId}{pre post:List AV}{id n sz:Nat}{L L':List dD}{a:AV}(h1:n=0→mT E f (pre++.v (.slice none 0 0) :: post) L a L')
  (h2:mT E f (pre++.nG id 0 n n true sz :: post) L a L'):mT E f (pre++.Fk id 0 n sz :: post) L a L':=by
 refine⟨h2.1,fun g w cargs hw hr=>?_⟩
 obtain⟨v,hv,hx⟩:=hr.get (k:=pre.length) (x:=.Fk id 0 n sz) (by simp)
 by_cases e:v=.slice none 0 0
 ·subst e
  have:n=0:=by
   cases hx with
   |Ml=>rfl
  exact (h1 this).2 g w cargs hw (hr.swap hv (.v _))
 ·refine h2.2 g w cargs hw (hr.swap hv ?_)
  cases hx with
  |Fk e1 e2 e3=>exact .nG e1 (Nat.le_refl _) e2 e3
  |Ml=>exact .Jr (fun _ h=>e (by rw[h]))
end Go.Ev
