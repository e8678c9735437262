/-
The words of the abstract evaluator: abstract values,what they say of a world,and how worlds go on. No program in sight.
-/
import Derived.Orders
import Derived.Laws.Cells
import Derived.Laws.Sem
import Derived.Laws.IdiomCopy
set_option linter.unusedVariables false
set_option linter.unusedSimpArgs false
namespace Go.Ev
open Go
inductive Tok where
 |no|full|tail (id:Nat)
inductive AV where
 |v (x:Value)
 |ptr (id off:Nat)
 |rL (cells:List AV) (off:Nat)
 |sl (sz:Nat) (elems:List (List AV)) (tok:Tok)
 |xA (sz:Nat) (elems:List (List AV))
 |VA (sz:Nat) (elems:List (List AV))
 |q9 (sz:Nat) (elems:List (List AV)) (id:Nat)
 |Fk (id off len sz:Nat)
 |nG (id off len c:Nat) (nn:Bool) (sz:Nat)
 |fn (f:FuncId) (captured:List AV)
 |ifc (t:TypeId) (x:AV)
 |agg (cells:List AV)
 |jE (l:List AV)
 |yK (b:Bool) (x:AV)
 |kQ
 |Ar (id:Nat)
 |Bw (j off len c:Nat) (nn:Bool) (sz:Nat)
 |qO (j off:Nat)
 |aZ
 deriving Inhabited
inductive dD where
 |bX|dead
 |box (cells:List AV)
 |Aa (cells:List AV)
 |eD (cells:List AV)
 |tail
 |yU (ps:Array Tmp) (asg body:Code) (ts:List AV)
 |Qa (c:Code)
 |aX (ms:List (Option (List AV)))
 deriving Inhabited
def dD.live:dD→Prop
 |.box _ | .tail | .eD _ | .yU _ _ _ _ | .Qa _ | .aX _=>True
 |_=>False
structure Gh where
 I:Nat→Nat→Option Value
 ρ:Nat→Option (Nat×Nat×Nat)
 α:Nat→Option (Nat×Nat)
structure Gh.le (g g':Gh):Prop where
 I:∀ b o v,g.I b o=some v→g'.I b o=some v
 ρ:∀ id x,g.ρ id=some x→g'.ρ id=some x
 α:g'.α=g.α
structure Gh.up (g g':Gh):Prop where
 I:∀ b o v,g.I b o=some v→g'.I b o=some v
 ρ:∀ id x,g.ρ id=some x→g'.ρ id=some x
 α:∀ j x,g.α j=some x→g'.α j=some x
theorem Gh.le.up {g g':Gh}(h:g.le g'):g.up g':=⟨h.I,h.ρ,fun _ _ e=>by rw[h.α];exact e⟩
theorem Gh.le_refl (g:Gh):g.le g:=⟨fun _ _ _ h=>h,fun _ _ h=>h,rfl⟩
theorem Gh.le.trans {g g' g'':Gh}(h:g.le g')(h':g'.le g''):g.le g'' :=
 ⟨fun _ _ _ e=>h'.I _ _ _ (h.I _ _ _ e),fun _ _ e=>h'.ρ _ _ (h.ρ _ _ e),h'.α.trans h.α⟩
theorem Gh.U5 (g:Gh):g.up g:=g.le_refl.up
theorem Gh.up.trans {g g' g'':Gh}(h:g.up g')(h':g'.up g''):g.up g'' :=
 ⟨fun _ _ _ e=>h'.I _ _ _ (h.I _ _ _ e),fun _ _ e=>h'.ρ _ _ (h.ρ _ _ e),fun _ _ e=>h'.α _ _ (h.α _ _ e)⟩
def KJ (g:Gh)(tok:Tok)(b o len cap sz:Nat):Prop :=
 match tok with
 |.no=>True
 |.full=>cap=len
 |.tail t=>∃ n,g.ρ t=some (b,o+len * sz,n)∧o+cap * sz≤n
inductive aF (g:Gh):AV→Value→Prop
 |v (x:Value):aF g (.v x) x
 |ptr {id off b lo n:Nat}:g.ρ id=some (b,lo,n)→aF g (.ptr id off) (.pointer (some ⟨b,off,none⟩))
 |rL {cells:List AV} {off b o:Nat} (c:Nat→Value):(∀ (k:Nat) (x:AV),cells[k]?=some x→g.I b (o+k)=some (c k))→(∀ (k:Nat) (x:AV),cells[k]?=some x→aF g x (c k)) →
   aF g (.rL cells off) (.pointer (some ⟨b,o+off,none⟩))
 |sl {sz:Nat} {elems:List (List AV)} {tok:Tok} {b o len cap:Nat} (c:Nat→Nat→Value):elems.length=len→len≤cap→(∀ (i:Nat) (cs:List AV),elems[i]?=some cs→cs.length=sz) →
   (∀ (i:Nat) (cs:List AV) (k:Nat) (x:AV),elems[i]?=some cs→cs[k]?=some x→g.I b (o+i * sz+k)=some (c i k))→(∀ (i:Nat) (cs:List AV) (k:Nat) (x:AV),elems[i]?=some cs→cs[k]?=some x→aF g x (c i k)) →
   KJ g tok b o len cap sz→aF g (.sl sz elems tok) (.slice (some ⟨b,o,none⟩) len cap)
 |xA {sz:Nat} {elems:List (List AV)} {v:Value}:aF g (.sl sz elems .no) v→aF g (.xA sz elems) v
 |Jt {sz:Nat} {a:Option Addr}:aF g (.xA sz []) (.slice a 0 0)
 |VA {sz:Nat} {elems:List (List AV)} {v:Value}:aF g (.xA sz elems) v→v≠.slice none 0 0→aF g (.VA sz elems) v
 |LP {sz id:Nat}:aF g (.q9 sz [] id) (.slice none 0 0)
 |FF {sz id:Nat} {elems:List (List AV)} {v:Value}:aF g (.sl sz elems .full) v→aF g (.q9 sz elems id) v
 |Tw {sz id:Nat} {elems:List (List AV)} {v:Value}:aF g (.sl sz elems (.tail id)) v→aF g (.q9 sz elems id) v
 |Fk {id off len sz b lo n cap:Nat}:g.ρ id=some (b,lo,n)→len≤cap→off+cap * sz≤n→aF g (.Fk id off len sz) (.slice (some ⟨b,off,none⟩) len cap)
 |Ml {id off sz:Nat} {a:Option Addr}:aF g (.Fk id off 0 sz) (.slice a 0 0)
 |nG {id off len c sz b lo n cap:Nat} {nn:Bool}:g.ρ id=some (b,lo,n)→len≤c→c≤cap→off+cap * sz≤n→aF g (.nG id off len c nn sz) (.slice (some ⟨b,off,none⟩) len cap)
 |Jr {id off sz:Nat} {nn:Bool} {a:Option Addr}:(nn=true→a≠none)→aF g (.nG id off 0 0 nn sz) (.slice a 0 0)
 |fn {f:FuncId} {l:List AV} {cs:Array Value}:l.length=cs.size→(∀ (k:Nat) (x:AV) (c:Value),l[k]?=some x→cs[k]?=some c→aF g x c)→aF g (.fn f l) (.func (.func f) #[] cs)
 |ifc {t:TypeId} {x:AV} {c:Value}:aF g x c→aF g (.ifc t x) (.iface t c)
 |agg {l:List AV} {cs:Array Value}:l.length=cs.size→(∀ (k:Nat) (x:AV) (c:Value),l[k]?=some x→cs[k]?=some c→aF g x c)→aF g (.agg l) (.agg cs)
 |jE {l:List AV} {cs:Array Value}:l.length=cs.size→(∀ (k:Nat) (x:AV) (c:Value),l[k]?=some x→cs[k]?=some c→aF g x c)→aF g (.jE l) (.tuple cs)
 |yK {b:Bool} {x:AV} {c:Value}:(b=true→aF g x c)→(b=false→c=undef)→aF g (.yK b x) c
 |kQ {c:Value}:c.oneCell'=true→aF g .kQ c
 |Ar {id l:Nat}:g.ρ id=some (l,0,0)→aF g (.Ar id) (.func (.yield l) #[] #[])
 |Bw {j off len c sz b n cap:Nat} {nn:Bool}:g.α j=some (b,n)→len≤c→c≤cap→off+cap * sz≤n→aF g (.Bw (j+1) off len c nn sz) (.slice (some ⟨b,off,none⟩) len cap)
 |LV {j off sz:Nat} {nn:Bool} {a:Option Addr}:(nn=true→a≠none)→aF g (.Bw j off 0 0 nn sz) (.slice a 0 0)
 |qO {j off b n:Nat}:g.α j=some (b,n)→aF g (.qO (j+1) off) (.pointer (some ⟨b,off,none⟩))
 |aZ (x:Value):aF g .aZ x
def cW (g:Gh)(l:List AV)(cs:List Value):Prop:=l.length=cs.length∧∀ (k:Nat) (x:AV) (c:Value),l[k]?=some x→cs[k]?=some c→aF g x c
theorem KJ.mono {g g':Gh}(h:g.up g'){tok:Tok}{b o len cap sz:Nat}(ht:KJ g tok b o len cap sz):KJ g' tok b o len cap sz:=by
 cases tok with
 |no=>trivial
 |full=>exact ht
 |tail t=>obtain⟨n,h1,h2⟩:=ht;exact⟨n,h.ρ _ _ h1,h2⟩
theorem aF.rD {g g':Gh}(h:g.up g'){a:AV}{v:Value}(hv:aF g a v):aF g' a v:=by
 induction hv with
 |v x=>exact .v x
 |ptr e=>exact .ptr (h.ρ _ _ e)
 |rL c h1 _ ih=>exact .rL c (fun k x e=>h.I _ _ _ (h1 k x e)) (fun k x e=>ih k x e)
 |sl c e1 e2 e3 h1 _ ht ih=>exact .sl c e1 e2 e3 (fun i cs k x a b=>h.I _ _ _ (h1 i cs k x a b)) (fun i cs k x a b=>ih i cs k x a b) (ht.mono h)
 |xA _ ih=>exact .xA ih
 |Jt=>exact .Jt
 |VA _ e ih=>exact .VA ih e
 |LP=>exact .LP
 |FF _ ih=>exact .FF ih
 |Tw _ ih=>exact .Tw ih
 |Fk e h1 h2=>exact .Fk (h.ρ _ _ e) h1 h2
 |Ml=>exact .Ml
 |nG e h1 h2 h3=>exact .nG (h.ρ _ _ e) h1 h2 h3
 |Jr h1=>exact .Jr h1
 |fn e _ ih=>exact .fn e (fun k x c a b=>ih k x c a b)
 |ifc _ ih=>exact .ifc ih
 |agg e _ ih=>exact .agg e (fun k x c a b=>ih k x c a b)
 |jE e _ ih=>exact .jE e (fun k x c a b=>ih k x c a b)
 |yK _ h1 ih=>exact .yK ih h1
 |kQ h1=>exact .kQ h1
 |Ar e=>exact .Ar (h.ρ _ _ e)
 |Bw e h1 h2 h3=>exact .Bw (h.α _ _ e) h1 h2 h3
 |LV h1=>exact .LV h1
 |qO e=>exact .qO (h.α _ _ e)
 |aZ x=>exact .aZ x
theorem aF.mono {g g':Gh}(h:g.le g'){a:AV}{v:Value}(hv:aF g a v):aF g' a v:=hv.rD h.up
theorem cW.rD {g g':Gh}(h:g.up g'){l:List AV}{cs:List Value}(hl:cW g l cs):cW g' l cs :=
 ⟨hl.1,fun k x c a b=>(hl.2 k x c a b).rD h⟩
theorem cW.mono {g g':Gh}(h:g.le g'){l:List AV}{cs:List Value}(hl:cW g l cs):cW g' l cs :=
 ⟨hl.1,fun k x c a b=>(hl.2 k x c a b).mono h⟩
theorem cW.nil {g:Gh}:cW g [] []:=⟨rfl,by simp⟩
theorem cW.cons {g:Gh}{x:AV}{c:Value}{l:List AV}{cs:List Value}(h:aF g x c)(hl:cW g l cs):cW g (x :: l) (c :: cs):=by
 refine⟨by simp[hl.1],fun k y d a b=>?_⟩
 cases k with
 |zero=>simp at a b;subst a;subst b;exact h
 |succ k=>exact hl.2 k y d (by simpa using a) (by simpa using b)
theorem cW.get {g:Gh}{l:List AV}{cs:List Value}(h:cW g l cs){k:Nat}{x:AV}(hx:l[k]?=some x):∃ c,cs[k]?=some c∧aF g x c:=by
 have hk:k < cs.length:=by
  rw[← h.1]
  rcases Nat.lt_or_ge k l.length with h' | h'
  ·exact h'
  ·rw[List.getElem?_eq_none h']at hx;cases hx
 exact⟨cs[k],List.getElem?_eq_getElem hk,h.2 k x _ hx (List.getElem?_eq_getElem hk)⟩
theorem cW.append {g:Gh}{l l':List AV}{cs Ju:List Value}(h:cW g l cs)(h':cW g l' Ju):cW g (l++l') (cs++Ju):=by
 refine⟨by simp[h.1,h'.1],fun k x c a b=>?_⟩
 rw[List.getElem?_append]at a b
 rw[h.1]at a
 by_cases hk:k < cs.length
 ·rw[if_pos hk]at a b;exact h.2 k x c a b
 ·rw[if_neg hk]at a b;exact h'.2 _ x c a b
theorem cW.take {g:Gh}{l:List AV}{cs:List Value}(h:cW g l cs)(n:Nat):cW g (l.take n) (cs.take n):=by
 refine⟨by simp[h.1],fun k x c a b=>?_⟩
 rw[List.getElem?_take]at a b
 split at a
 ·rw[if_pos ‹_›]at b;exact h.2 k x c a b
 ·cases a
theorem cW.drop {g:Gh}{l:List AV}{cs:List Value}(h:cW g l cs)(n:Nat):cW g (l.drop n) (cs.drop n):=by
 refine⟨by simp[h.1],fun k x c a b=>?_⟩
 rw[List.getElem?_drop]at a b
 exact h.2 _ x c a b
theorem cW.aGr {g:Gh}(l:List Value):cW g (l.map .v) l:=by
 refine⟨by simp,fun k x c a b=>?_⟩
 simp at a
 obtain⟨y,hy,rfl⟩:=a
 rw[hy]at b
 cases b
 exact .v _
def AV.cells?:AV→Option (List AV)
 |.agg l=>some l
 |.v (.agg cs)=>some (cs.toList.map .v)
 |.v (.tuple _)=>none
 |.jE _=>none
 |.yK _ _=>none
 |.aZ=>none
 |x=>some [x]
theorem Bi {g:Gh}{x:AV}{c:Value}{l:List AV}(h:aF g x c)(hl:x.cells?=some l):cW g l c.cells.toList:=by
 cases h with
 |v =>
  cases c<;>simp[AV.cells?]at hl<;>subst hl<;>first
   |exact cW.aGr _
   |exact .cons (.v _) .nil
 |agg e h1=>simp[AV.cells?]at hl;subst hl;exact⟨by simpa[Value.cells] using e,fun k x c a b=>h1 k x c a (by simpa[Value.cells] using b)⟩
 |jE=>simp[AV.cells?]at hl
 |yK=>simp[AV.cells?]at hl
 |aZ=>simp[AV.cells?]at hl
 |xA h' =>
  simp[AV.cells?]at hl;subst hl
  cases h' with
  |sl c e1 e2 e3 e4 e5 e6=>exact .cons (.xA (.sl c e1 e2 e3 e4 e5 e6)) .nil
 |Jt=>simp[AV.cells?]at hl;subst hl;exact .cons .Jt .nil
 |VA h' e =>
  simp[AV.cells?]at hl;subst hl
  cases h' with
  |Jt=>exact .cons (.VA .Jt e) .nil
  |xA h'' =>
   cases h'' with
   |sl c e1 e2 e3 e4 e5 e6=>exact .cons (.VA (.xA (.sl c e1 e2 e3 e4 e5 e6)) e) .nil
 |LP=>simp[AV.cells?]at hl;subst hl;exact .cons .LP .nil
 |FF h' =>
  simp[AV.cells?]at hl;subst hl
  cases h' with
  |sl c e1 e2 e3 e4 e5 e6=>exact .cons (.FF (.sl c e1 e2 e3 e4 e5 e6)) .nil
 |Tw h' =>
  simp[AV.cells?]at hl;subst hl
  cases h' with
  |sl c e1 e2 e3 e4 e5 e6=>exact .cons (.Tw (.sl c e1 e2 e3 e4 e5 e6)) .nil
 |ptr e=>simp[AV.cells?]at hl;subst hl;exact .cons (.ptr e) .nil
 |rL c e1 e2=>simp[AV.cells?]at hl;subst hl;exact .cons (.rL c e1 e2) .nil
 |sl c e1 e2 e3 e4 e5 e6=>simp[AV.cells?]at hl;subst hl;exact .cons (.sl c e1 e2 e3 e4 e5 e6) .nil
 |Fk e h1 h2=>simp[AV.cells?]at hl;subst hl;exact .cons (.Fk e h1 h2) .nil
 |Ml=>simp[AV.cells?]at hl;subst hl;exact .cons .Ml .nil
 |nG e h1 h2 h3=>simp[AV.cells?]at hl;subst hl;exact .cons (.nG e h1 h2 h3) .nil
 |Jr h1=>simp[AV.cells?]at hl;subst hl;exact .cons (.Jr h1) .nil
 |fn e h1=>simp[AV.cells?]at hl;subst hl;exact .cons (.fn e h1) .nil
 |ifc h1=>simp[AV.cells?]at hl;subst hl;exact .cons (.ifc h1) .nil
 |Ar e=>simp[AV.cells?]at hl;subst hl;exact .cons (.Ar e) .nil
 |Bw e h1 h2 h3=>simp[AV.cells?]at hl;subst hl;exact .cons (.Bw e h1 h2 h3) .nil
 |LV h1=>simp[AV.cells?]at hl;subst hl;exact .cons (.LV h1) .nil
 |qO e=>simp[AV.cells?]at hl;subst hl;exact .cons (.qO e) .nil
 |kQ h1 =>
  simp[AV.cells?]at hl;subst hl
  have:c.cells.toList=[c]:=by cases c<;>first|rfl | (simp[Value.oneCell']at h1)
  rw[this];exact .cons (.kQ h1) .nil
def HR (fr:Nat×Nat)(lo n:Nat):Prop:=∀ o,lo≤o→o < n→¬ (fr.1≤o∧o < fr.2)
@[reducible] def yf (g:Gh) (w:World) (id:Nat) (cells:List AV):Prop:=∃ (b n:Nat) (cs:Array Value) (T:TypeId) (fr:Nat×Nat),g.ρ id=some (b,0,n)∧w.heap[b]?=some (.cells cs T fr)∧cs.size=n∧HR fr 0 n∧cells.length≤n ∧
   (∀ (k:Nat) (x:AV),cells[k]?=some x→∃ c,cs[k]?=some c∧aF g x c)∧∀ o,g.I b o=none
def Hn (g:Gh)(w:World)(id:Nat):dD→Prop
 |.aX _=>g.ρ id=none
 |.bX=>True
 |.dead=>True
 |.box cells=>yf g w id cells
 |.eD cells=>(g.ρ id=none∧cells=[])∨yf g w id cells
 |.Aa cells=>∃ b n,g.ρ id=some (b,0,n)∧∀ (k:Nat) (x:AV),cells[k]?=some x→∃ c,g.I b k=some c∧aF g x c
 |.tail=>∀ (b lo n:Nat),g.ρ id=some (b,lo,n)→∃ (cs:Array Value) (T:TypeId) (fr:Nat×Nat),w.heap[b]?=some (.cells cs T fr)∧cs.size=n∧HR fr lo n∧∀ o,lo≤o→g.I b o=none
 |.yU ps asg body ts=>∃ (l:Nat) (fn:FuncId) (tm:Array Value) (df:Nat),g.ρ id=some (l,0,0)∧w.heap[l]?=some (.loop { state:=.ready,pending:=none,fn:=fn,tmps:=tm,params:=ps,assign:=asg,body:=body,defers:=df })∧cW g ts tm.toList
 |.Qa c=>∃ (l:Nat) (r:Loop),g.ρ id=some (l,0,0)∧w.heap[l]?=some (.loop r)∧r.state=.done∧r.pending=some c
structure eR (g:Gh) (H:Nat→dD) (w:World):Prop where
 AY:∀ b o v,g.I b o=some v→w.cell? ⟨b,o,none⟩=some v
 zD:∀ id,Hn g w id (H id)
 fresh:∀ id,H id=.bX→g.ρ id=none
 inj:∀ id id' x x',id≠id'→(H id).live→(H id').live→g.ρ id=some x→g.ρ id'=some x'→x.1≠x'.1
def Jx (g:Gh)(H:Nat→dD)(b o:Nat):Prop:=∃ id lo n,(H id).live∧g.ρ id=some (b,lo,n)∧lo≤o
structure Fr (M:Nat→Nat→Prop) (w w':World):Prop where
 size:w.heap.size≤w'.heap.size
 os:w'.os=w.os
 out:w'.output=w.output
 cells:∀ (b:Nat) (cs:Array Value) (T:TypeId) (fr:Nat×Nat),w.heap[b]?=some (.cells cs T fr)→∃ (Ju:Array Value) (UH:Nat×Nat),w'.heap[b]?=some (.cells Ju T UH)∧Ju.size=cs.size∧(∀ o:Nat,¬ M b o→Ju[o]?=cs[o]?)∧(UH=fr∨∃ o,M b o)
 A2:∀ (b:Nat) (o:Obj),w.heap[b]?=some o→(∀ cs T fr,o≠.cells cs T fr)→(∀ k,¬ M b k)→w'.heap[b]?=some o
theorem Fr.refl (M:Nat→Nat→Prop)(w:World):Fr M w w :=
 ⟨Nat.le_refl _,rfl,rfl,fun b cs T fr h=>⟨cs,fr,h,rfl,fun _ _=>rfl,.inl rfl⟩,fun b o h _ _=>h⟩
theorem Fr.drew (M:Nat→Nat→Prop)(w:World)(n:Nat):Fr M w { w with drawn:=n } :=
 ⟨Nat.le_refl _,rfl,rfl,fun b cs T fr h=>⟨cs,fr,h,rfl,fun _ _=>rfl,.inl rfl⟩,fun b o h _ _=>h⟩
theorem Fr.trans {M M':Nat→Nat→Prop}{w w' w'':World}(h:Fr M w w')(h':Fr M' w' w'')
  (hm:∀ b o,b < w.heap.size→M' b o→M b o):Fr M w w'':=by
 refine⟨Nat.le_trans h.size h'.size,h'.os.trans h.os,h'.out.trans h.out,fun b cs T fr e=>?_,fun b o e dF hM=>?_⟩
 ·obtain⟨TZ,fr1,e1,s1,c1,f1⟩:=h.cells b cs T fr e
  obtain⟨cs2,fr2,e2,s2,c2,f2⟩:=h'.cells b TZ T fr1 e1
  have hb:b < w.heap.size:=by
   rcases Nat.lt_or_ge b w.heap.size with hb|hb
   ·exact hb
   ·rw[Array.getElem?_eq_none hb]at e;cases e
  refine⟨cs2,fr2,e2,s2.trans s1,fun o ho=>(c2 o (fun XJ=>ho (hm b o hb XJ))).trans (c1 o ho),?_⟩
  rcases f2 with rfl|⟨o,ho⟩
  ·exact f1
  ·exact .inr ⟨o,hm b o hb ho⟩
 ·have hb:b < w.heap.size:=by
   rcases Nat.lt_or_ge b w.heap.size with hb|hb
   ·exact hb
   ·rw[Array.getElem?_eq_none hb]at e;cases e
  exact h'.A2 b o (h.A2 b o e dF hM) dF fun k hk=>hM k (hm b k hb hk)
theorem Fr.mono {M M':Nat→Nat→Prop}{w w':World}(h:Fr M w w')(hm:∀ b o,b < w.heap.size→M b o→M' b o):Fr M' w w':=by
 refine⟨h.size,h.os,h.out,fun b cs T fr e=>?_,fun b o e dF hM=>?_⟩
 case refine_2 =>
  have hb:b < w.heap.size:=by
   rcases Nat.lt_or_ge b w.heap.size with hb|hb
   ·exact hb
   ·rw[Array.getElem?_eq_none hb]at e;cases e
  exact h.A2 b o e dF fun k hk=>hM k (hm b k hb hk)
 obtain⟨TZ,fr1,e1,s1,c1,f1⟩:=h.cells b cs T fr e
 have hb:b < w.heap.size:=by
  rcases Nat.lt_or_ge b w.heap.size with hb|hb
  ·exact hb
  ·rw[Array.getElem?_eq_none hb]at e;cases e
 exact⟨TZ,fr1,e1,s1,fun o ho=>c1 o (fun h'=>ho (hm b o hb h')),f1.imp_right fun ⟨o,ho⟩=>⟨o,hm b o hb ho⟩⟩
structure fC (g:Gh) (H:Nat→dD) (w:World) (g':Gh) (H':Nat→dD) (w':World):Prop where
 le:g.le g'
 rel:eR g' H' w'
 fr:Fr (Jx g H) w w'
 grow:∀ b o v,g'.I b o=some v→g.I b o=some v∨w.heap.size≤b∨Jx g H b o
 own:∀ id b lo n,(H' id).live→g'.ρ id=some (b,lo,n)→w.heap.size≤b∨∃ id0 QU n0,(H id0).live∧g.ρ id0=some (b,QU,n0)∧QU≤lo
theorem fC.refl {g:Gh}{H:Nat→dD}{w:World}(h:eR g H w):fC g H w g H w :=
 ⟨g.le_refl,h,.refl _ _,fun _ _ _ e=>.inl e,fun id b lo n hl e=>.inr ⟨id,lo,n,hl,e,Nat.le_refl _⟩⟩
theorem fC.eD {g g':Gh}{H H':Nat→dD}{w w':World}(h:fC g H w g' H' w'){b o:Nat}(hm:Jx g' H' b o):w.heap.size≤b∨Jx g H b o:=by
 obtain⟨id,lo,n,hl,e,ho⟩:=hm
 rcases h.own id b lo n hl e with hb|⟨id0,QU,n0,hl0,e0,IV⟩
 ·exact .inl hb
 ·exact .inr ⟨id0,QU,n0,hl0,e0,Nat.le_trans IV ho⟩
theorem fC.trans {g g' g'':Gh}{H H' H'':Nat→dD}{w w' w'':World}(h:fC g H w g' H' w')(h':fC g' H' w' g'' H'' w''):fC g H w g'' H'' w'':=by
 refine⟨h.le.trans h'.le,h'.rel,h.fr.trans h'.fr (fun b o hb hm=>?_),fun b o v e=>?_,fun id b lo n hl e=>?_⟩
 ·rcases h.eD hm with h1|h1
  ·omega
  ·exact h1
 ·rcases h'.grow b o v e with h1|h1|h1
  ·exact h.grow b o v h1
  ·exact .inr (.inl (Nat.le_trans h.fr.size h1))
  ·exact .inr (h.eD h1)
 ·rcases h'.own id b lo n hl e with h1|⟨id0,QU,n0,hl0,e0,IV⟩
  ·exact .inl (Nat.le_trans h.fr.size h1)
  ·rcases h.own id0 b QU n0 hl0 e0 with h2|⟨id1,pk,n1,hl1,e1,aF8⟩
   ·exact .inl h2
   ·exact .inr ⟨id1,pk,n1,hl1,e1,Nat.le_trans aF8 IV⟩
end Go.Ev
