/-
The words of the abstract evaluator: abstract values,what they say of a world,and how worlds go on. No program in sight.
-/
import Derived.Orders
import Derived.Laws.Cells
import Derived.Laws.Sem
import Derived.Laws.IdiomCopy
set_option linter.unusedVariables false
set_option linter.unusedSimpArgs false
namespace Go.Ev
open Go
inductive Tok where
 | no | full | tail (id:Nat)
inductive AV where
 | v (x:Value)
 | ptr (id off:Nat)
 | iptr (cells:List AV) (off:Nat)
 | sl (sz:Nat) (elems:List (List AV)) (tok:Tok)
 | asl (sz:Nat) (elems:List (List AV))
 | nsl (sz:Nat) (elems:List (List AV))
 | gsl (sz:Nat) (elems:List (List AV)) (id:Nat)
 | bsl (id off len sz:Nat)
 | wsl (id off len c:Nat) (nn:Bool) (sz:Nat)
 | fn (f:FuncId) (captured:List AV)
 | ifc (t:TypeId) (x:AV)
 | agg (cells:List AV)
 | tup (l:List AV)
 | cnd (b:Bool) (x:AV)
 | any1
 | yld (id:Nat)
 | hsl (j off len c:Nat) (nn:Bool) (sz:Nat)
 | hptr (j off:Nat)
 | junk
 deriving Inhabited
inductive Ent where
 | unborn | dead
 | box (cells:List AV)
 | ibox (cells:List AV)
 | gbx (cells:List AV)
 | tail
 | rcd (ps:Array Tmp) (asg body:Code) (ts:List AV)
 | rdn (c:Code)
 | pool (ms:List (Option (List AV)))
 deriving Inhabited
def Ent.live:Ent→Prop
 | .box _ | .tail | .gbx _ | .rcd _ _ _ _ | .rdn _ | .pool _=>True
 | _=>False
structure Gh where
 I:Nat→Nat→Option Value
 ρ:Nat→Option (Nat×Nat×Nat)
 α:Nat→Option (Nat×Nat)
structure Gh.le (g g':Gh):Prop where
 I:∀ b o v,g.I b o=some v→g'.I b o=some v
 ρ:∀ id x,g.ρ id=some x→g'.ρ id=some x
 α:g'.α=g.α
structure Gh.up (g g':Gh):Prop where
 I:∀ b o v,g.I b o=some v→g'.I b o=some v
 ρ:∀ id x,g.ρ id=some x→g'.ρ id=some x
 α:∀ j x,g.α j=some x→g'.α j=some x
theorem Gh.le.up {g g':Gh} (h:g.le g'):g.up g':=⟨h.I,h.ρ,fun _ _ e=>by rw [h.α]; exact e⟩
theorem Gh.le_refl (g:Gh):g.le g:=⟨fun _ _ _ h=>h,fun _ _ h=>h,rfl⟩
theorem Gh.le.trans {g g' g'':Gh} (h:g.le g') (h':g'.le g''):g.le g'' :=
 ⟨fun _ _ _ e=>h'.I _ _ _ (h.I _ _ _ e),fun _ _ e=>h'.ρ _ _ (h.ρ _ _ e),h'.α.trans h.α⟩
theorem Gh.up_refl (g:Gh):g.up g:=g.le_refl.up
theorem Gh.up.trans {g g' g'':Gh} (h:g.up g') (h':g'.up g''):g.up g'' :=
 ⟨fun _ _ _ e=>h'.I _ _ _ (h.I _ _ _ e),fun _ _ e=>h'.ρ _ _ (h.ρ _ _ e),fun _ _ e=>h'.α _ _ (h.α _ _ e)⟩
def TokOk (g:Gh) (tok:Tok) (b o len cap sz:Nat):Prop :=
 match tok with
 | .no=>True
 | .full=>cap=len
 | .tail t=>∃ n,g.ρ t=some (b,o+len * sz,n)∧o+cap * sz≤n
inductive VRel (g:Gh):AV→Value→Prop
 | v (x:Value):VRel g (.v x) x
 | ptr {id off b lo n:Nat}:g.ρ id=some (b,lo,n)→VRel g (.ptr id off) (.pointer (some ⟨b,off,none⟩))
 | iptr {cells:List AV} {off b o:Nat} (c:Nat→Value):(∀ (k:Nat) (x:AV),cells[k]?=some x→g.I b (o+k)=some (c k))→(∀ (k:Nat) (x:AV),cells[k]?=some x→VRel g x (c k)) →
   VRel g (.iptr cells off) (.pointer (some ⟨b,o+off,none⟩))
 | sl {sz:Nat} {elems:List (List AV)} {tok:Tok} {b o len cap:Nat} (c:Nat→Nat→Value):elems.length=len→len≤cap→(∀ (i:Nat) (cs:List AV),elems[i]?=some cs→cs.length=sz) →
   (∀ (i:Nat) (cs:List AV) (k:Nat) (x:AV),elems[i]?=some cs→cs[k]?=some x→g.I b (o+i * sz+k)=some (c i k))→(∀ (i:Nat) (cs:List AV) (k:Nat) (x:AV),elems[i]?=some cs→cs[k]?=some x→VRel g x (c i k)) →
   TokOk g tok b o len cap sz→VRel g (.sl sz elems tok) (.slice (some ⟨b,o,none⟩) len cap)
 | asl {sz:Nat} {elems:List (List AV)} {v:Value}:VRel g (.sl sz elems .no) v→VRel g (.asl sz elems) v
 | asl0 {sz:Nat} {a:Option Addr}:VRel g (.asl sz []) (.slice a 0 0)
 | nsl {sz:Nat} {elems:List (List AV)} {v:Value}:VRel g (.asl sz elems) v→v≠.slice none 0 0→VRel g (.nsl sz elems) v
 | gslN {sz id:Nat}:VRel g (.gsl sz [] id) (.slice none 0 0)
 | gslF {sz id:Nat} {elems:List (List AV)} {v:Value}:VRel g (.sl sz elems .full) v→VRel g (.gsl sz elems id) v
 | gslT {sz id:Nat} {elems:List (List AV)} {v:Value}:VRel g (.sl sz elems (.tail id)) v→VRel g (.gsl sz elems id) v
 | bsl {id off len sz b lo n cap:Nat}:g.ρ id=some (b,lo,n)→len≤cap→off+cap * sz≤n→VRel g (.bsl id off len sz) (.slice (some ⟨b,off,none⟩) len cap)
 | bsl0 {id off sz:Nat} {a:Option Addr}:VRel g (.bsl id off 0 sz) (.slice a 0 0)
 | wsl {id off len c sz b lo n cap:Nat} {nn:Bool}:g.ρ id=some (b,lo,n)→len≤c→c≤cap→off+cap * sz≤n→VRel g (.wsl id off len c nn sz) (.slice (some ⟨b,off,none⟩) len cap)
 | wsl0 {id off sz:Nat} {nn:Bool} {a:Option Addr}:(nn=true→a≠none)→VRel g (.wsl id off 0 0 nn sz) (.slice a 0 0)
 | fn {f:FuncId} {l:List AV} {cs:Array Value}:l.length=cs.size→(∀ (k:Nat) (x:AV) (c:Value),l[k]?=some x→cs[k]?=some c→VRel g x c)→VRel g (.fn f l) (.func (.func f) #[] cs)
 | ifc {t:TypeId} {x:AV} {c:Value}:VRel g x c→VRel g (.ifc t x) (.iface t c)
 | agg {l:List AV} {cs:Array Value}:l.length=cs.size→(∀ (k:Nat) (x:AV) (c:Value),l[k]?=some x→cs[k]?=some c→VRel g x c)→VRel g (.agg l) (.agg cs)
 | tup {l:List AV} {cs:Array Value}:l.length=cs.size→(∀ (k:Nat) (x:AV) (c:Value),l[k]?=some x→cs[k]?=some c→VRel g x c)→VRel g (.tup l) (.tuple cs)
 | cnd {b:Bool} {x:AV} {c:Value}:(b=true→VRel g x c)→(b=false→c=undef)→VRel g (.cnd b x) c
 | any1 {c:Value}:c.oneCell'=true→VRel g .any1 c
 | yld {id l:Nat}:g.ρ id=some (l,0,0)→VRel g (.yld id) (.func (.yield l) #[] #[])
 | hsl {j off len c sz b n cap:Nat} {nn:Bool}:g.α j=some (b,n)→len≤c→c≤cap→off+cap * sz≤n→VRel g (.hsl (j+1) off len c nn sz) (.slice (some ⟨b,off,none⟩) len cap)
 | hsl0 {j off sz:Nat} {nn:Bool} {a:Option Addr}:(nn=true→a≠none)→VRel g (.hsl j off 0 0 nn sz) (.slice a 0 0)
 | hptr {j off b n:Nat}:g.α j=some (b,n)→VRel g (.hptr (j+1) off) (.pointer (some ⟨b,off,none⟩))
 | junk (x:Value):VRel g .junk x
def LRel (g:Gh) (l:List AV) (cs:List Value):Prop:=l.length=cs.length∧∀ (k:Nat) (x:AV) (c:Value),l[k]?=some x→cs[k]?=some c→VRel g x c
theorem TokOk.mono {g g':Gh} (h:g.up g') {tok:Tok} {b o len cap sz:Nat} (ht:TokOk g tok b o len cap sz):TokOk g' tok b o len cap sz:=by
 cases tok with
 | no=>trivial
 | full=>exact ht
 | tail t=>obtain ⟨n,h1,h2⟩:=ht; exact ⟨n,h.ρ _ _ h1,h2⟩
theorem VRel.monoU {g g':Gh} (h:g.up g') {a:AV} {v:Value} (hv:VRel g a v):VRel g' a v:=by
 induction hv with
 | v x=>exact .v x
 | ptr e=>exact .ptr (h.ρ _ _ e)
 | iptr c h1 _ ih=>exact .iptr c (fun k x e=>h.I _ _ _ (h1 k x e)) (fun k x e=>ih k x e)
 | sl c e1 e2 e3 h1 _ ht ih=>exact .sl c e1 e2 e3 (fun i cs k x a b=>h.I _ _ _ (h1 i cs k x a b)) (fun i cs k x a b=>ih i cs k x a b) (ht.mono h)
 | asl _ ih=>exact .asl ih
 | asl0=>exact .asl0
 | nsl _ e ih=>exact .nsl ih e
 | gslN=>exact .gslN
 | gslF _ ih=>exact .gslF ih
 | gslT _ ih=>exact .gslT ih
 | bsl e h1 h2=>exact .bsl (h.ρ _ _ e) h1 h2
 | bsl0=>exact .bsl0
 | wsl e h1 h2 h3=>exact .wsl (h.ρ _ _ e) h1 h2 h3
 | wsl0 h1=>exact .wsl0 h1
 | fn e _ ih=>exact .fn e (fun k x c a b=>ih k x c a b)
 | ifc _ ih=>exact .ifc ih
 | agg e _ ih=>exact .agg e (fun k x c a b=>ih k x c a b)
 | tup e _ ih=>exact .tup e (fun k x c a b=>ih k x c a b)
 | cnd _ h1 ih=>exact .cnd ih h1
 | any1 h1=>exact .any1 h1
 | yld e=>exact .yld (h.ρ _ _ e)
 | hsl e h1 h2 h3=>exact .hsl (h.α _ _ e) h1 h2 h3
 | hsl0 h1=>exact .hsl0 h1
 | hptr e=>exact .hptr (h.α _ _ e)
 | junk x=>exact .junk x
theorem VRel.mono {g g':Gh} (h:g.le g') {a:AV} {v:Value} (hv:VRel g a v):VRel g' a v:=hv.monoU h.up
theorem LRel.monoU {g g':Gh} (h:g.up g') {l:List AV} {cs:List Value} (hl:LRel g l cs):LRel g' l cs :=
 ⟨hl.1,fun k x c a b=>(hl.2 k x c a b).monoU h⟩
theorem LRel.mono {g g':Gh} (h:g.le g') {l:List AV} {cs:List Value} (hl:LRel g l cs):LRel g' l cs :=
 ⟨hl.1,fun k x c a b=>(hl.2 k x c a b).mono h⟩
theorem LRel.nil {g:Gh}:LRel g [] []:=⟨rfl,by simp⟩
theorem LRel.cons {g:Gh} {x:AV} {c:Value} {l:List AV} {cs:List Value} (h:VRel g x c) (hl:LRel g l cs):LRel g (x :: l) (c :: cs):=by
 refine ⟨by simp [hl.1],fun k y d a b=>?_⟩
 cases k with
 | zero=>simp at a b; subst a; subst b; exact h
 | succ k=>exact hl.2 k y d (by simpa using a) (by simpa using b)
theorem LRel.get {g:Gh} {l:List AV} {cs:List Value} (h:LRel g l cs) {k:Nat} {x:AV} (hx:l[k]?=some x):∃ c,cs[k]?=some c∧VRel g x c:=by
 have hk:k < cs.length:=by
  rw [← h.1]
  rcases Nat.lt_or_ge k l.length with h' | h'
  ·exact h'
  ·rw [List.getElem?_eq_none h'] at hx; cases hx
 exact ⟨cs[k],List.getElem?_eq_getElem hk,h.2 k x _ hx (List.getElem?_eq_getElem hk)⟩
theorem LRel.append {g:Gh} {l l':List AV} {cs cs':List Value} (h:LRel g l cs) (h':LRel g l' cs'):LRel g (l++l') (cs++cs'):=by
 refine ⟨by simp [h.1,h'.1],fun k x c a b=>?_⟩
 rw [List.getElem?_append] at a b
 rw [h.1] at a
 by_cases hk:k < cs.length
 ·rw [if_pos hk] at a b; exact h.2 k x c a b
 ·rw [if_neg hk] at a b; exact h'.2 _ x c a b
theorem LRel.take {g:Gh} {l:List AV} {cs:List Value} (h:LRel g l cs) (n:Nat):LRel g (l.take n) (cs.take n):=by
 refine ⟨by simp [h.1],fun k x c a b=>?_⟩
 rw [List.getElem?_take] at a b
 split at a
 ·rw [if_pos ‹_›] at b; exact h.2 k x c a b
 ·cases a
theorem LRel.drop {g:Gh} {l:List AV} {cs:List Value} (h:LRel g l cs) (n:Nat):LRel g (l.drop n) (cs.drop n):=by
 refine ⟨by simp [h.1],fun k x c a b=>?_⟩
 rw [List.getElem?_drop] at a b
 exact h.2 _ x c a b
theorem LRel.of_v {g:Gh} (l:List Value):LRel g (l.map .v) l:=by
 refine ⟨by simp,fun k x c a b=>?_⟩
 simp at a
 obtain ⟨y,hy,rfl⟩:=a
 rw [hy] at b
 cases b
 exact .v _
def AV.cells?:AV→Option (List AV)
 | .agg l=>some l
 | .v (.agg cs)=>some (cs.toList.map .v)
 | .v (.tuple _)=>none
 | .tup _=>none
 | .cnd _ _=>none
 | .junk=>none
 | x=>some [x]
theorem oY {g:Gh} {x:AV} {c:Value} {l:List AV} (h:VRel g x c) (hl:x.cells?=some l):LRel g l c.cells.toList:=by
 cases h with
 | v =>
  cases c<;>simp [AV.cells?] at hl<;>subst hl<;>first
   | exact LRel.of_v _
   | exact .cons (.v _) .nil
 | agg e h1=>simp [AV.cells?] at hl; subst hl; exact ⟨by simpa [Value.cells] using e,fun k x c a b=>h1 k x c a (by simpa [Value.cells] using b)⟩
 | tup=>simp [AV.cells?] at hl
 | cnd=>simp [AV.cells?] at hl
 | junk=>simp [AV.cells?] at hl
 | asl h' =>
  simp [AV.cells?] at hl; subst hl
  cases h' with
  | sl c e1 e2 e3 e4 e5 e6=>exact .cons (.asl (.sl c e1 e2 e3 e4 e5 e6)) .nil
 | asl0=>simp [AV.cells?] at hl; subst hl; exact .cons .asl0 .nil
 | nsl h' e =>
  simp [AV.cells?] at hl; subst hl
  cases h' with
  | asl0=>exact .cons (.nsl .asl0 e) .nil
  | asl h'' =>
   cases h'' with
   | sl c e1 e2 e3 e4 e5 e6=>exact .cons (.nsl (.asl (.sl c e1 e2 e3 e4 e5 e6)) e) .nil
 | gslN=>simp [AV.cells?] at hl; subst hl; exact .cons .gslN .nil
 | gslF h' =>
  simp [AV.cells?] at hl; subst hl
  cases h' with
  | sl c e1 e2 e3 e4 e5 e6=>exact .cons (.gslF (.sl c e1 e2 e3 e4 e5 e6)) .nil
 | gslT h' =>
  simp [AV.cells?] at hl; subst hl
  cases h' with
  | sl c e1 e2 e3 e4 e5 e6=>exact .cons (.gslT (.sl c e1 e2 e3 e4 e5 e6)) .nil
 | ptr e=>simp [AV.cells?] at hl; subst hl; exact .cons (.ptr e) .nil
 | iptr c e1 e2=>simp [AV.cells?] at hl; subst hl; exact .cons (.iptr c e1 e2) .nil
 | sl c e1 e2 e3 e4 e5 e6=>simp [AV.cells?] at hl; subst hl; exact .cons (.sl c e1 e2 e3 e4 e5 e6) .nil
 | bsl e h1 h2=>simp [AV.cells?] at hl; subst hl; exact .cons (.bsl e h1 h2) .nil
 | bsl0=>simp [AV.cells?] at hl; subst hl; exact .cons .bsl0 .nil
 | wsl e h1 h2 h3=>simp [AV.cells?] at hl; subst hl; exact .cons (.wsl e h1 h2 h3) .nil
 | wsl0 h1=>simp [AV.cells?] at hl; subst hl; exact .cons (.wsl0 h1) .nil
 | fn e h1=>simp [AV.cells?] at hl; subst hl; exact .cons (.fn e h1) .nil
 | ifc h1=>simp [AV.cells?] at hl; subst hl; exact .cons (.ifc h1) .nil
 | yld e=>simp [AV.cells?] at hl; subst hl; exact .cons (.yld e) .nil
 | hsl e h1 h2 h3=>simp [AV.cells?] at hl; subst hl; exact .cons (.hsl e h1 h2 h3) .nil
 | hsl0 h1=>simp [AV.cells?] at hl; subst hl; exact .cons (.hsl0 h1) .nil
 | hptr e=>simp [AV.cells?] at hl; subst hl; exact .cons (.hptr e) .nil
 | any1 h1 =>
  simp [AV.cells?] at hl; subst hl
  have:c.cells.toList=[c]:=by cases c<;>first | rfl | (simp [Value.oneCell'] at h1)
  rw [this]; exact .cons (.any1 h1) .nil
def xO (fr:Nat×Nat) (lo n:Nat):Prop:=∀ o,lo≤o→o < n→¬ (fr.1≤o∧o < fr.2)
@[reducible] def aLp (g:Gh) (w:World) (id:Nat) (cells:List AV):Prop:=∃ (b n:Nat) (cs:Array Value) (T:TypeId) (fr:Nat×Nat),g.ρ id=some (b,0,n)∧w.heap[b]?=some (.cells cs T fr)∧cs.size=n∧xO fr 0 n∧cells.length≤n ∧
   (∀ (k:Nat) (x:AV),cells[k]?=some x→∃ c,cs[k]?=some c∧VRel g x c)∧∀ o,g.I b o=none
def EntRel (g:Gh) (w:World) (id:Nat):Ent→Prop
 | .pool _=>g.ρ id=none
 | .unborn=>True
 | .dead=>True
 | .box cells=>aLp g w id cells
 | .gbx cells=>(g.ρ id=none∧cells=[])∨aLp g w id cells
 | .ibox cells=>∃ b n,g.ρ id=some (b,0,n)∧∀ (k:Nat) (x:AV),cells[k]?=some x→∃ c,g.I b k=some c∧VRel g x c
 | .tail=>∀ (b lo n:Nat),g.ρ id=some (b,lo,n)→∃ (cs:Array Value) (T:TypeId) (fr:Nat×Nat),w.heap[b]?=some (.cells cs T fr)∧cs.size=n∧xO fr lo n∧∀ o,lo≤o→g.I b o=none
 | .rcd ps asg body ts=>∃ (l:Nat) (fn:FuncId) (tm:Array Value) (df:Nat),g.ρ id=some (l,0,0)∧w.heap[l]?=some (.loop { state:=.ready,pending:=none,fn:=fn,tmps:=tm,params:=ps,assign:=asg,body:=body,defers:=df })∧LRel g ts tm.toList
 | .rdn c=>∃ (l:Nat) (r:Loop),g.ρ id=some (l,0,0)∧w.heap[l]?=some (.loop r)∧r.state=.done∧r.pending=some c
structure WRel (g:Gh) (H:Nat→Ent) (w:World):Prop where
 imm:∀ b o v,g.I b o=some v→w.cell? ⟨b,o,none⟩=some v
 ent:∀ id,EntRel g w id (H id)
 fresh:∀ id,H id=.unborn→g.ρ id=none
 inj:∀ id id' x x',id≠id'→(H id).live→(H id').live→g.ρ id=some x→g.ρ id'=some x'→x.1≠x'.1
def MutOf (g:Gh) (H:Nat→Ent) (b o:Nat):Prop:=∃ id lo n,(H id).live∧g.ρ id=some (b,lo,n)∧lo≤o
structure Fr (M:Nat→Nat→Prop) (w w':World):Prop where
 size:w.heap.size≤w'.heap.size
 os:w'.os=w.os
 out:w'.output=w.output
 cells:∀ (b:Nat) (cs:Array Value) (T:TypeId) (fr:Nat×Nat),w.heap[b]?=some (.cells cs T fr)→∃ (cs':Array Value) (fr':Nat×Nat),w'.heap[b]?=some (.cells cs' T fr')∧cs'.size=cs.size∧(∀ o:Nat,¬ M b o→cs'[o]?=cs[o]?)∧(fr'=fr∨∃ o,M b o)
 objs:∀ (b:Nat) (o:Obj),w.heap[b]?=some o→(∀ cs T fr,o≠.cells cs T fr)→(∀ k,¬ M b k)→w'.heap[b]?=some o
theorem Fr.refl (M:Nat→Nat→Prop) (w:World):Fr M w w :=
 ⟨Nat.le_refl _,rfl,rfl,fun b cs T fr h=>⟨cs,fr,h,rfl,fun _ _=>rfl,.inl rfl⟩,fun b o h _ _=>h⟩
theorem Fr.drew (M:Nat→Nat→Prop) (w:World) (n:Nat):Fr M w { w with drawn:=n } :=
 ⟨Nat.le_refl _,rfl,rfl,fun b cs T fr h=>⟨cs,fr,h,rfl,fun _ _=>rfl,.inl rfl⟩,fun b o h _ _=>h⟩
theorem Fr.trans {M M':Nat→Nat→Prop} {w w' w'':World} (h:Fr M w w') (h':Fr M' w' w'')
  (hm:∀ b o,b < w.heap.size→M' b o→M b o):Fr M w w'':=by
 refine ⟨Nat.le_trans h.size h'.size,h'.os.trans h.os,h'.out.trans h.out,fun b cs T fr e=>?_,fun b o e hne hM=>?_⟩
 ·obtain ⟨cs1,fr1,e1,s1,c1,f1⟩:=h.cells b cs T fr e
  obtain ⟨cs2,fr2,e2,s2,c2,f2⟩:=h'.cells b cs1 T fr1 e1
  have hb:b < w.heap.size:=by
   rcases Nat.lt_or_ge b w.heap.size with hb | hb
   ·exact hb
   ·rw [Array.getElem?_eq_none hb] at e; cases e
  refine ⟨cs2,fr2,e2,s2.trans s1,fun o ho=>(c2 o (fun hm'=>ho (hm b o hb hm'))).trans (c1 o ho),?_⟩
  rcases f2 with rfl | ⟨o,ho⟩
  ·exact f1
  ·exact .inr ⟨o,hm b o hb ho⟩
 ·have hb:b < w.heap.size:=by
   rcases Nat.lt_or_ge b w.heap.size with hb | hb
   ·exact hb
   ·rw [Array.getElem?_eq_none hb] at e; cases e
  exact h'.objs b o (h.objs b o e hne hM) hne fun k hk=>hM k (hm b k hb hk)
theorem Fr.mono {M M':Nat→Nat→Prop} {w w':World} (h:Fr M w w') (hm:∀ b o,b < w.heap.size→M b o→M' b o):Fr M' w w':=by
 refine ⟨h.size,h.os,h.out,fun b cs T fr e=>?_,fun b o e hne hM=>?_⟩
 case refine_2 =>
  have hb:b < w.heap.size:=by
   rcases Nat.lt_or_ge b w.heap.size with hb | hb
   ·exact hb
   ·rw [Array.getElem?_eq_none hb] at e; cases e
  exact h.objs b o e hne fun k hk=>hM k (hm b k hb hk)
 obtain ⟨cs1,fr1,e1,s1,c1,f1⟩:=h.cells b cs T fr e
 have hb:b < w.heap.size:=by
  rcases Nat.lt_or_ge b w.heap.size with hb | hb
  ·exact hb
  ·rw [Array.getElem?_eq_none hb] at e; cases e
 exact ⟨cs1,fr1,e1,s1,fun o ho=>c1 o (fun h'=>ho (hm b o hb h')),f1.imp_right fun ⟨o,ho⟩=>⟨o,hm b o hb ho⟩⟩
structure Evo (g:Gh) (H:Nat→Ent) (w:World) (g':Gh) (H':Nat→Ent) (w':World):Prop where
 le:g.le g'
 rel:WRel g' H' w'
 fr:Fr (MutOf g H) w w'
 grow:∀ b o v,g'.I b o=some v→g.I b o=some v∨w.heap.size≤b∨MutOf g H b o
 own:∀ id b lo n,(H' id).live→g'.ρ id=some (b,lo,n)→w.heap.size≤b∨∃ id0 lo0 n0,(H id0).live∧g.ρ id0=some (b,lo0,n0)∧lo0≤lo
theorem Evo.refl {g:Gh} {H:Nat→Ent} {w:World} (h:WRel g H w):Evo g H w g H w :=
 ⟨g.le_refl,h,.refl _ _,fun _ _ _ e=>.inl e,fun id b lo n hl e=>.inr ⟨id,lo,n,hl,e,Nat.le_refl _⟩⟩
theorem Evo.gbx {g g':Gh} {H H':Nat→Ent} {w w':World} (h:Evo g H w g' H' w') {b o:Nat} (hm:MutOf g' H' b o):w.heap.size≤b∨MutOf g H b o:=by
 obtain ⟨id,lo,n,hl,e,ho⟩:=hm
 rcases h.own id b lo n hl e with hb | ⟨id0,lo0,n0,hl0,e0,hlo⟩
 ·exact .inl hb
 ·exact .inr ⟨id0,lo0,n0,hl0,e0,Nat.le_trans hlo ho⟩
theorem Evo.trans {g g' g'':Gh} {H H' H'':Nat→Ent} {w w' w'':World} (h:Evo g H w g' H' w') (h':Evo g' H' w' g'' H'' w''):Evo g H w g'' H'' w'':=by
 refine ⟨h.le.trans h'.le,h'.rel,h.fr.trans h'.fr (fun b o hb hm=>?_),fun b o v e=>?_,fun id b lo n hl e=>?_⟩
 ·rcases h.gbx hm with h1 | h1
  ·omega
  ·exact h1
 ·rcases h'.grow b o v e with h1 | h1 | h1
  ·exact h.grow b o v h1
  ·exact .inr (.inl (Nat.le_trans h.fr.size h1))
  ·exact .inr (h.gbx h1)
 ·rcases h'.own id b lo n hl e with h1 | ⟨id0,lo0,n0,hl0,e0,hlo⟩
  ·exact .inl (Nat.le_trans h.fr.size h1)
  ·rcases h.own id0 b lo0 n0 hl0 e0 with h2 | ⟨id1,lo1,n1,hl1,e1,hlo1⟩
   ·exact .inl h2
   ·exact .inr ⟨id1,lo1,n1,hl1,e1,Nat.le_trans hlo1 hlo⟩
end Go.Ev
