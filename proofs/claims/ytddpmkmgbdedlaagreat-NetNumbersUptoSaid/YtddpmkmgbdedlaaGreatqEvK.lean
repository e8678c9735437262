/-
Contracts of functions over abstract values,and the operations of a region one behind the other.
-/
import Derived.Test.YtddpmkmgbdedlaaGreatqEvJ
set_option linter.unusedVariables false
set_option linter.unusedSimpArgs false
namespace Go.Ev
open Go
def mv (E : Env) (f : FuncId) : Prop := ∃ fn, E.P.funcs[f]? = some fn ∧ fn.body.isSome = true ∧ (fn.name == "runtime.NumGoroutine") = false
def mT (E:Env)(f:FuncId)(args:List AV)(L:List dD)(r:AV)(L':List dD):Prop :=
 mv E f∧∀ g w (cargs:Array Value),kT g (bU L) w→cW g args cargs.toList →
  Calls E.P f cargs w fun e w'=>∃ v g',e=.returned v∧aF g' r v∧iH g (bU L) w g' (bU L') w'
def gR (x:AV):Prop:=∀ I ρ α v,aF ⟨I,ρ,α⟩ x v→aF ⟨I,fun _=>none,α⟩ x v
def rA:List AV→Prop
 |[]=>True
 |x :: r=>gR x∧rA r
theorem rA.mem {l:List AV}(h:rA l){k:Nat}{x:AV}(hx:l[k]?=some x):gR x:=by
 induction l generalizing k with
 |nil=>simp at hx
 |cons y l ih =>
  cases k with
  |zero=>simp at hx;subst hx;exact h.1
  |succ k=>exact ih h.2 (by simpa using hx)
theorem rA.MI {l:List AV}(h:∀ x∈l,gR x):rA l:=by
 induction l with
 |nil=>trivial
 |cons x l ih=>exact⟨h x (by simp),ih fun y hy=>h y (by simp[hy])⟩
theorem gR.v (x:Value):gR (.v x):=fun _ _ _ _ h=>by cases h;exact .v _
theorem gR.agg {l:List AV}(h:rA l):gR (.agg l):=fun I ρ α v hv=>by
 cases hv with
 |agg e h1=>exact .agg e fun k x c a b=>(h.mem a) _ _ _ _ (h1 k x c a b)
theorem gR.jE {l:List AV}(h:rA l):gR (.jE l):=fun I ρ α v hv=>by
 cases hv with
 |jE e h1=>exact .jE e fun k x c a b=>(h.mem a) _ _ _ _ (h1 k x c a b)
theorem gR.fn {f:FuncId}{l:List AV}(h:rA l):gR (.fn f l):=fun I ρ α v hv=>by
 cases hv with
 |fn e h1=>exact .fn e fun k x c a b=>(h.mem a) _ _ _ _ (h1 k x c a b)
def fv (l:List (List AV)):Prop:=∀ cs∈l,rA cs
theorem gR.sl {sz:Nat}{l:List (List AV)}{tok:Tok}(ht:∀ t,tok≠.tail t)(h:fv l):gR (.sl sz l tok):=fun I ρ α v hv=>by
 cases hv with
 |sl c e1 e2 e3 e4 e5 e6 =>
  refine .sl c e1 e2 e3 e4 (fun i cs k x a b=>((h cs (List.mem_of_getElem? a)).mem b) _ _ _ _ (e5 i cs k x a b)) ?_
  cases tok with
  |no=>trivial
  |full=>exact e6
  |tail t=>exact absurd rfl (ht t)
theorem gR.xA {sz:Nat}{l:List (List AV)}(h:fv l):gR (.xA sz l):=fun I ρ α v hv=>by
 cases hv with
 |xA hv=>exact .xA (gR.sl (by simp) h _ _ _ _ hv)
 |Jt=>exact .Jt
theorem gR.VA {sz:Nat}{l:List (List AV)}(h:fv l):gR (.VA sz l):=fun I ρ α v hv=>by
 cases hv with
 |VA hv e=>exact .VA (gR.xA h _ _ _ _ hv) e
theorem gR.ifc {t:TypeId}{x:AV}(h:gR x):gR (.ifc t x):=fun I ρ α v hv=>by
 cases hv with
 |ifc h1=>exact .ifc (h _ _ _ _ h1)
theorem gR.kQ:gR .kQ:=fun I ρ α v hv=>by
 cases hv with
 |kQ h=>exact .kQ h
theorem gR.Bw {j off len c sz:Nat}{nn:Bool}:gR (.Bw j off len c nn sz):=fun I ρ α v hv=>by
 cases hv with
 |Bw e h1 h2 h3=>exact .Bw e h1 h2 h3
 |LV h1=>exact .LV h1
theorem gR.qO {j off:Nat}:gR (.qO j off):=fun I ρ α v hv=>by
 cases hv with
 |qO e=>exact .qO e
theorem gR.bot:gR (.sl 1 [[]] .no):=fun I ρ α v hv=>by
 cases hv with
 |sl c e1 e2 e3 e4 e5 e6=>have:=e3 0 [] rfl;simp at this
structure pN (g:Gh) (s:St) (a:Act) (w:World):Prop where
 len:s.t.length=a.tmps.size
 t:∀ (k:Nat) (x:AV) (c:Value),s.t[k]?=some x→a.tmps[k]?=some c→aF g x c
 rel:kT g (bU s.h) w
theorem pN.val {g:Gh}{s:St}{a:Act}{w:World}(h:pN g s a w)(x:Operand):aF g (s.val x) (a.eval x):=by
 cases x with
 |tmp k =>
  simp only[St.val,Act.eval,SA]
  cases hk:s.t[k]? with
  |none=>exact .aZ _
  |some y =>
   have nH:k < a.tmps.size:=by
    rw[← h.len]
    rcases Nat.lt_or_ge k s.t.length with h' | h'
    ·exact h'
    ·rw[List.getElem?_eq_none h']at hk;cases hk
   have:=h.t k y _ hk (Array.getElem?_eq_getElem nH)
   simpa[nH] using this
 |const v=>exact .v v
 |func f=>exact .fn rfl (by simp)
 |global n=>exact .aZ _
theorem pN.put {g g':Gh}{s:St}{a:Act}{w w':World}(h:pN g s a w)(hle:g.up g'){h':List dD}(hW:kT g' (bU h') w')(d:Option Tmp){x:AV}{c:Value}(hx:aF g' x c) :
  pN g' ((⟨s.t,h'⟩:St).put d x) (a.put d c) w':=by
 cases d with
 |none=>exact⟨h.len,fun k y c a b=>(h.t k y c a b).rD hle,hW⟩
 |some d =>
  refine⟨by simp[St.put,Act.put,Ve,h.len],fun k y c' e1 e2=>?_,hW⟩
  simp only[St.put]at e1
  simp only[Act.put]at e2
  rw[zG]at e1
  split at e1
  ·rename_i hc
   obtain⟨rfl,nH⟩:=hc
   cases e1
   rw[Array.getElem?_setIfInBounds_self_of_lt (by rw[← h.len];exact nH)]at e2
   cases e2;exact hx
  ·rename_i hc
   by_cases hk:k=d
   ·subst hk
    have nH:k < a.tmps.size:=by
     rcases Nat.lt_or_ge k a.tmps.size with h' | h'
     ·exact h'
     ·rw[Array.getElem?_eq_none (by simpa using h')]at e2;cases e2
    exact absurd ⟨rfl,by rw[h.len];exact nH⟩ hc
   ·rw[Array.getElem?_setIfInBounds_ne (Ne.symm hk)]at e2
    exact (h.t k y c' e1 e2).rD hle
def LQ (x:AV)(want:Bool):Option Bool :=
 match x with
 |.v (.bool b)=>some (b==want)
 |.yK B (.v (.bool b))=>some (B&&(b==want))
 |_=>none
def guardOf (ops:Array Oper)(st:St)(o:Oper):Option (Option Bool) :=
 match o.guard with
 |none=>some none
 |some (j,want)=>match (ops[j]?).bind (·.dst) with
  |some d=>(LQ (nth st.t d) want).map some
  |none=>none
theorem N3 {ops:Array Oper}{st:St}{o:Oper}(h:guardOf ops st o=some none)(y:Nat→Option Bool):Region.wanted o y=true:=by
 unfold guardOf at h
 unfold Region.wanted
 split at h
 ·rename_i hg;rw[hg]
 ·split at h
  ·obtain⟨b,_,hb⟩:=Option.map_eq_some_iff.1 h;cases hb
  ·cases h
theorem Ox {ops:Array Oper}{g:Gh}{st:St}{a:Act}{w:World}(hr:pN g st a w){o:Oper}{B:Bool}(h:guardOf ops st o=some (some B)):Region.wanted o (yielded ops a.tmps)=B:=by
 unfold guardOf at h
 unfold Region.wanted
 split at h
 ·cases h
 ·rename_i j want hg
  rw[hg]
  split at h
  ·rename_i d hd
   obtain⟨b,hb,hB⟩:=Option.map_eq_some_iff.1 h
   cases hB
   have OO:=hr.val (.tmp d)
   simp only[St.val,Act.eval]at OO
   have nH:d < a.tmps.size:=by
    rcases Nat.lt_or_ge d a.tmps.size with h' | h'
    ·exact h'
    ·rw[SA,List.getElem?_eq_none (by rw[hr.len];exact h')]at hb;simp[LQ]at hb
   have hy:yielded ops a.tmps j=match a.tmps.getD d undef with | .bool b=>some b|_=>none:=by
    have:a.tmps.getD d undef=a.tmps[d]:=by simp[Array.getD,nH]
    rw[this]
    simp only[yielded,hd,Option.bind_some,Array.getElem?_eq_getElem nH]
    cases a.tmps[d]<;>rfl
   simp only[hy]
   clear hy
   unfold LQ at hb
   split at hb
   ·rename_i b' hx
    cases hb
    rw[hx]at OO
    generalize a.tmps.getD d undef=c at OO ⊢
    cases OO
    cases b'<;>cases want<;>rfl
   ·rename_i B' b' hx
    cases hb
    rw[hx]at OO
    generalize a.tmps.getD d undef=c at OO ⊢
    cases OO with
    |yK h1 h2 =>
     cases B' with
     |true=>have:=h1 rfl;cases this;cases b'<;>cases want<;>rfl
     |false=>rw[h2 rfl];rfl
   ·cases hb
  ·cases h
end Go.Ev
