/-
Contracts of functions over abstract values,and the operations of a region one behind the other.
-/
import Derived.Test.YtddpmkmgbdedlaaGreatqEvJ
set_option linter.unusedVariables false
set_option linter.unusedSimpArgs false
namespace Go.Ev
open Go
def aLV (E : Env) (f : FuncId) : Prop := ∃ fn, E.P.funcs[f]? = some fn ∧ fn.body.isSome = true ∧ (fn.name == "runtime.NumGoroutine") = false
def FnSpec (E:Env) (f:FuncId) (args:List AV) (L:List Ent) (r:AV) (L':List Ent):Prop :=
 aLV E f∧∀ g w (cargs:Array Value),WRelP g (aH L) w→LRel g args cargs.toList →
  Calls E.P f cargs w fun e w'=>∃ v g',e=.returned v∧VRel g' r v∧EvoP g (aH L) w g' (aH L') w'
def NoId (x:AV):Prop:=∀ I ρ α v,VRel ⟨I,ρ,α⟩ x v→VRel ⟨I,fun _=>none,α⟩ x v
def NoIds:List AV→Prop
 | []=>True
 | x :: r=>NoId x∧NoIds r
theorem NoIds.mem {l:List AV} (h:NoIds l) {k:Nat} {x:AV} (hx:l[k]?=some x):NoId x:=by
 induction l generalizing k with
 | nil=>simp at hx
 | cons y l ih =>
  cases k with
  | zero=>simp at hx; subst hx; exact h.1
  | succ k=>exact ih h.2 (by simpa using hx)
theorem NoIds.of_all {l:List AV} (h:∀ x∈l,NoId x):NoIds l:=by
 induction l with
 | nil=>trivial
 | cons x l ih=>exact ⟨h x (by simp),ih fun y hy=>h y (by simp [hy])⟩
theorem NoId.v (x:Value):NoId (.v x):=fun _ _ _ _ h=>by cases h; exact .v _
theorem NoId.agg {l:List AV} (h:NoIds l):NoId (.agg l):=fun I ρ α v hv=>by
 cases hv with
 | agg e h1=>exact .agg e fun k x c a b=>(h.mem a) _ _ _ _ (h1 k x c a b)
theorem NoId.tup {l:List AV} (h:NoIds l):NoId (.tup l):=fun I ρ α v hv=>by
 cases hv with
 | tup e h1=>exact .tup e fun k x c a b=>(h.mem a) _ _ _ _ (h1 k x c a b)
theorem NoId.fn {f:FuncId} {l:List AV} (h:NoIds l):NoId (.fn f l):=fun I ρ α v hv=>by
 cases hv with
 | fn e h1=>exact .fn e fun k x c a b=>(h.mem a) _ _ _ _ (h1 k x c a b)
def aFj (l:List (List AV)):Prop:=∀ cs∈l,NoIds cs
theorem NoId.sl {sz:Nat} {l:List (List AV)} {tok:Tok} (ht:∀ t,tok≠.tail t) (h:aFj l):NoId (.sl sz l tok):=fun I ρ α v hv=>by
 cases hv with
 | sl c e1 e2 e3 e4 e5 e6 =>
  refine .sl c e1 e2 e3 e4 (fun i cs k x a b=>((h cs (List.mem_of_getElem? a)).mem b) _ _ _ _ (e5 i cs k x a b)) ?_
  cases tok with
  | no=>trivial
  | full=>exact e6
  | tail t=>exact absurd rfl (ht t)
theorem NoId.asl {sz:Nat} {l:List (List AV)} (h:aFj l):NoId (.asl sz l):=fun I ρ α v hv=>by
 cases hv with
 | asl hv=>exact .asl (NoId.sl (by simp) h _ _ _ _ hv)
 | asl0=>exact .asl0
theorem NoId.nsl {sz:Nat} {l:List (List AV)} (h:aFj l):NoId (.nsl sz l):=fun I ρ α v hv=>by
 cases hv with
 | nsl hv e=>exact .nsl (NoId.asl h _ _ _ _ hv) e
theorem NoId.ifc {t:TypeId} {x:AV} (h:NoId x):NoId (.ifc t x):=fun I ρ α v hv=>by
 cases hv with
 | ifc h1=>exact .ifc (h _ _ _ _ h1)
theorem NoId.any1:NoId .any1:=fun I ρ α v hv=>by
 cases hv with
 | any1 h=>exact .any1 h
theorem NoId.hsl {j off len c sz:Nat} {nn:Bool}:NoId (.hsl j off len c nn sz):=fun I ρ α v hv=>by
 cases hv with
 | hsl e h1 h2 h3=>exact .hsl e h1 h2 h3
 | hsl0 h1=>exact .hsl0 h1
theorem NoId.hptr {j off:Nat}:NoId (.hptr j off):=fun I ρ α v hv=>by
 cases hv with
 | hptr e=>exact .hptr e
theorem NoId.bot:NoId (.sl 1 [[]] .no):=fun I ρ α v hv=>by
 cases hv with
 | sl c e1 e2 e3 e4 e5 e6=>have:=e3 0 [] rfl; simp at this
structure StRel (g:Gh) (s:St) (a:Act) (w:World):Prop where
 len:s.t.length=a.tmps.size
 t:∀ (k:Nat) (x:AV) (c:Value),s.t[k]?=some x→a.tmps[k]?=some c→VRel g x c
 rel:WRelP g (aH s.h) w
theorem StRel.val {g:Gh} {s:St} {a:Act} {w:World} (h:StRel g s a w) (x:Operand):VRel g (s.val x) (a.eval x):=by
 cases x with
 | tmp k =>
  simp only [St.val,Act.eval,uA]
  cases hk:s.t[k]? with
  | none=>exact .junk _
  | some y =>
   have hlt:k < a.tmps.size:=by
    rw [← h.len]
    rcases Nat.lt_or_ge k s.t.length with h' | h'
    ·exact h'
    ·rw [List.getElem?_eq_none h'] at hk; cases hk
   have:=h.t k y _ hk (Array.getElem?_eq_getElem hlt)
   simpa [hlt] using this
 | const v=>exact .v v
 | func f=>exact .fn rfl (by simp)
 | global n=>exact .junk _
theorem StRel.put {g g':Gh} {s:St} {a:Act} {w w':World} (h:StRel g s a w) (hle:g.up g') {h':List Ent} (hW:WRelP g' (aH h') w') (d:Option Tmp) {x:AV} {c:Value} (hx:VRel g' x c) :
  StRel g' ((⟨s.t,h'⟩:St).put d x) (a.put d c) w':=by
 cases d with
 | none=>exact ⟨h.len,fun k y c a b=>(h.t k y c a b).monoU hle,hW⟩
 | some d =>
  refine ⟨by simp [St.put,Act.put,aFi,h.len],fun k y c' e1 e2=>?_,hW⟩
  simp only [St.put] at e1
  simp only [Act.put] at e2
  rw [xW] at e1
  split at e1
  ·rename_i hc
   obtain ⟨rfl,hlt⟩:=hc
   cases e1
   rw [Array.getElem?_setIfInBounds_self_of_lt (by rw [← h.len]; exact hlt)] at e2
   cases e2; exact hx
  ·rename_i hc
   by_cases hk:k=d
   ·subst hk
    have hlt:k < a.tmps.size:=by
     rcases Nat.lt_or_ge k a.tmps.size with h' | h'
     ·exact h'
     ·rw [Array.getElem?_eq_none (by simpa using h')] at e2; cases e2
    exact absurd ⟨rfl,by rw [h.len]; exact hlt⟩ hc
   ·rw [Array.getElem?_setIfInBounds_ne (Ne.symm hk)] at e2
    exact (h.t k y c' e1 e2).monoU hle
def rK (x:AV) (want:Bool):Option Bool :=
 match x with
 | .v (.bool b)=>some (b==want)
 | .cnd B (.v (.bool b))=>some (B&&(b==want))
 | _=>none
def dS (ops:Array Oper) (st:St) (o:Oper):Option (Option Bool) :=
 match o.guard with
 | none=>some none
 | some (j, want) => match (ops[j]?).bind (·.dst) with
  | some d=>(rK (nth st.t d) want).map some
  | none=>none
theorem aQu {ops:Array Oper} {st:St} {o:Oper} (h:dS ops st o=some none) (y:Nat→Option Bool):Region.wanted o y=true:=by
 unfold dS at h
 unfold Region.wanted
 split at h
 ·rename_i hg; rw [hg]
 ·split at h
  ·obtain ⟨b,_,hb⟩:=Option.map_eq_some_iff.1 h; cases hb
  ·cases h
theorem aBg {ops:Array Oper} {g:Gh} {st:St} {a:Act} {w:World} (hr:StRel g st a w) {o:Oper} {B:Bool} (h:dS ops st o=some (some B)):Region.wanted o (yielded ops a.tmps)=B:=by
 unfold dS at h
 unfold Region.wanted
 split at h
 ·cases h
 ·rename_i j want hg
  rw [hg]
  split at h
  ·rename_i d hd
   obtain ⟨b,hb,hB⟩:=Option.map_eq_some_iff.1 h
   cases hB
   have hval:=hr.val (.tmp d)
   simp only [St.val,Act.eval] at hval
   have hlt:d < a.tmps.size:=by
    rcases Nat.lt_or_ge d a.tmps.size with h' | h'
    ·exact h'
    ·rw [uA,List.getElem?_eq_none (by rw [hr.len]; exact h')] at hb; simp [rK] at hb
   have hy:yielded ops a.tmps j=match a.tmps.getD d undef with | .bool b=>some b | _=>none:=by
    have:a.tmps.getD d undef=a.tmps[d]:=by simp [Array.getD,hlt]
    rw [this]
    simp only [yielded,hd,Option.bind_some,Array.getElem?_eq_getElem hlt]
    cases a.tmps[d]<;>rfl
   simp only [hy]
   clear hy
   unfold rK at hb
   split at hb
   ·rename_i b' hx
    cases hb
    rw [hx] at hval
    generalize a.tmps.getD d undef=c at hval ⊢
    cases hval
    cases b'<;>cases want<;>rfl
   ·rename_i B' b' hx
    cases hb
    rw [hx] at hval
    generalize a.tmps.getD d undef=c at hval ⊢
    cases hval with
    | cnd h1 h2 =>
     cases B' with
     | true=>have:=h1 rfl; cases this; cases b'<;>cases want<;>rfl
     | false=>rw [h2 rfl]; rfl
   ·cases hb
  ·cases h
end Go.Ev
