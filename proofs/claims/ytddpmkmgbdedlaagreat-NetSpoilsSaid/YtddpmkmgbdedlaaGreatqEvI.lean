/-
The abstract evaluator: conversions,comparisons,the small builtins,and all operations but tD of functions together.
-/
import Derived.Test.YtddpmkmgbdedlaaGreatqEvH
import Derived.Laws.MakeOwn
import Derived.Laws.BytesString
set_option linter.unusedVariables false
set_option linter.unusedSimpArgs false
namespace Go.Ev
open Go
def Env.EqOk (E:Env):Prop:=∀ t ks,E.eqk t=some ks→mG E 16 t=some ks∧E.P.eqGuardType E.P.depth t=false∧(E.ty t).map (·.agg)=some true
def kG:List (List AV)→Option (List UInt8)
 | []=>some []
 | [.v (.int .u8 n)] :: r=>(kG r).map (UInt8.ofNat n.toNat :: ·)
 | _=>none
def tW (E:Env) (n:Nat) (src dst:TypeId) (x:AV):Option Res :=
 match E.ty src,E.ty dst,x with
 | some _,some ⟨.int k,_,_,_⟩,.v (.int _ m)=>some { r:=.v (.int k (k.wrap m)) }
 | some _,some ⟨.string,_,_,_⟩,.v (.string s)=>some { r:=.v (.string s) }
 | some _, some ⟨.slice e, _, _, _⟩, .v (.string s) =>
  match E.ty e with
  | some ⟨.int .u8,_,_,_⟩=>some { r:=.sl 1 (iF s) (.tail n),U:=[(n,.tail)] }
  | _=>none
 | some ⟨.slice e, _, _, _⟩, some ⟨.string, _, _, _⟩, .sl 1 elems _ | some ⟨.slice e, _, _, _⟩, some ⟨.string, _, _, _⟩, .asl 1 elems =>
  match E.ty e,kG elems with
  | some ⟨.int .u8,_,_,_⟩,some l=>some { r:=.v (.string ⟨l.toArray⟩) }
  | _,_=>none
 | _,_,_=>none
theorem aFg {g:Gh}:∀ {elems:List (List AV)} {l:List UInt8} {cs:List Value},kG elems=some l→LRel g elems.flatten cs→∃ ns:List Int,cs=ns.map (Value.int .u8)∧ns.map (fun n=>UInt8.ofNat n.toNat)=l
 | elems, l, cs, h, hr => by
  unfold kG at h
  split at h
  ·cases h
   have:cs=[]:=List.length_eq_zero_iff.1 (by simpa using hr.1.symm)
   subst this
   exact ⟨[],rfl,rfl⟩
  ·rename_i n r
   obtain ⟨l',h1,rfl⟩:=Option.map_eq_some_iff.1 h
   cases cs with
   | nil=>have:=hr.1; simp at this
   | cons c cs =>
    have hc:=hr.2 0 (.v (.int .u8 n)) c rfl rfl
    cases hc
    obtain ⟨ns,rfl,h3⟩:=aFg (cs:=cs) h1 ⟨by simpa using hr.1,fun k x c a b=>hr.2 (k+1) x c (by simpa using a) (by simpa using b)⟩
    exact ⟨n :: ns,rfl,by simp [h3]⟩
  ·cases h
theorem aFh:∀ (ns:List Int) (s:ByteArray),ns.foldl (fun r n=>r.push (UInt8.ofNat n.toNat)) s=⟨s.data++(ns.map fun n=>UInt8.ofNat n.toNat).toArray⟩
 | [],s=>by simp
 | n :: ns, s => by
  rw [List.foldl_cons,aFh ns]
  apply ByteArray.ext
  apply Array.ext'
  simp [ByteArray.push]
theorem aQn {P:Program} {g:Gh} {H:Nat→Ent} {w:World} (hW:WRel g H w) {n:Nat} (hn:H n=.unborn) (e:TypeId) (s:ByteArray) :
  ∃ v w' g',(Conv.stringToBytes e s).run P w=.ok v w'∧VRel g' (.sl 1 (iF s) (.tail n)) v∧Evo g H w g' (upd H n .tail) w':=by
 have hes:∀ (i:Nat) (cs:List AV),(iF s)[i]?=some cs→cs.length=1:=fun i cs h=>by
  simp [iF] at h
  obtain ⟨b,_,rfl⟩:=h
  rfl
 have hfl:(iF s).flatten=(s.data.toList.map fun b=>Value.int .u8 b.toNat).map .v:=by
  simp only [iF]
  induction s.data.toList with
  | nil=>rfl
  | cons b l ih=>simp [rE,ih]
 have hcs:(s.data.map fun b=>Value.int .u8 b.toNat).toList=s.data.toList.map fun b=>Value.int .u8 b.toNat:=by simp
 obtain ⟨cap,hcap⟩:∃ cap,cap=s.size+w.tape w.drawn (.appendCap s.size 0 e) % (2 ^ 63 - s.size):=⟨_,rfl⟩
 have hle:s.size≤cap:=by omega
 let row:Array Value:=(s.data.map fun b=>Value.int .u8 b.toNat)++Array.replicate (cap - s.size) (.int .u8 0)
 have hrow:row.size=cap:=by simp [row]; omega
 obtain ⟨h1,h2,h3⟩:=Evo.fixedTail (hW.drew (w.drawn+1)) hn row e s.size (row.size,row.size+1) (by omega) (fun o ho1 ho2=>by simp; omega) _ rfl
 refine ⟨.slice (some ⟨w.heap.size,0,none⟩) s.size cap,_,_,?_,?_,(Evo.drew hW _).trans h3⟩
 ·simp only [Conv.stringToBytes,Sem.run_bind,run_choose,Question.forced,Question.cut,Bool.false_eq_true,if_false,Result.andThen_ok,newRow,run_newObj,Sem.run_pure,markStringish,run_shape,World.shape?]
  rw [← hcap]
  simp only [Array.getElem?_push_size,Sem.run_bind,run_shape,Result.andThen_ok,run_freeze,World.freeze,Nat.one_ne_zero,if_false,Sem.run_pure]
  congr 2
  apply Array.ext_getElem?
  intro k
  rw [Array.getElem?_modify,Array.getElem?_push,Array.getElem?_push]
  split
  ·rename_i hk
   simp only [hk,if_true]
   rfl
  ·rename_i hk
   simp only [Ne.symm hk,if_false]
 ·have hc:((s.data.map fun b=>Value.int .u8 b.toNat)).size=s.size:=by simp
  refine rD (by simp [iF]) hle hes ((s.data.map fun b=>Value.int .u8 b.toNat)).toList ?_ (fun k hk=>?_) ⟨row.size,?_,?_⟩
  ·rw [hfl,hcs]; exact LRel.of_v _
  ·have hk':k < s.size:=by simpa using hk
   rw [Nat.zero_add,h1 k hk']
   simp only [row]
   rw [Array.getElem?_append_left (by rw [hc]; exact hk')]
   simp
  ·rw [h2,Nat.zero_add,Nat.mul_one]
  ·rw [hrow]; omega
theorem aBd {E:Env} (hE:E.Ok) {g:Gh} {H:Nat→Ent} {w:World} (hW:WRel g H w) {n:Nat} (hn:H n=.unborn) {src dst:TypeId} {x:AV} {vx:Value} (hx:VRel g x vx) {res:Res}
  (h:tW E n src dst x=some res) :
  ∃ v w' g',(convert src dst vx).run E.P w=.ok v w'∧VRel g' res.r v∧Evo g H w g' (app H res.U) w':=by
 unfold tW at h
 have slcase:∀ {e s1 b1 z1 s2 b2 z2 elems tok},E.ty src=some ⟨.slice e,s1,b1,z1⟩→E.ty dst=some ⟨.string,s2,b2,z2⟩→∀ {s3 b3 z3},E.ty e=some ⟨.int .u8,s3,b3,z3⟩→∀ {l},kG elems=some l →
   VRel g (.sl 1 elems tok) vx→(convert src dst vx).run E.P w=.ok (.string ⟨l.toArray⟩) w:=by
  intro e s1 b1 z1 s2 b2 z2 elems tok hs hd s3 b3 z3 he l hl hsl
  have hS:=hE _ _ hs
  have hD:=hE _ _ hd
  have hF:=hE _ _ he
  have hsl0:=hsl
  cases hsl with
  | sl c e1 e2 e3 e4 e5 e6 =>
   rename_i b o len cap
   subst e1
   obtain ⟨_,_,_,_,cs,l4,l5,_⟩:=mI (P:=E.P) hW hsl0
   obtain ⟨ns,h1,h2⟩:=aFg hl l5
   rw [run_convert_bytes_string w src dst e _ _ _ hS.d hF.d hD.d]
   rw [run_bytesToString w _ elems.length cap ns (by rw [Nat.mul_one] at l4; rw [l4,← h1])]
   rw [aFh,h2]
   simp
 split at h
 ·rename_i _ k _ _ _ _ m hs hd
  have hS:=hE _ _ hs
  have hD:=hE _ _ hd
  cases h; cases hx
  refine ⟨_,_,g,?_,.v _,.refl hW⟩
  simp only [convert,Sem.run_bind,hS.underlying,hD.underlying,Result.andThen_ok,Conv.intToInt,Sem.run_pure]
 ·rename_i _ _ _ _ s hs hd
  have hS:=hE _ _ hs
  have hD:=hE _ _ hd
  cases h; cases hx
  refine ⟨_,_,g,?_,.v _,.refl hW⟩
  simp only [convert,Sem.run_bind,hS.underlying,hD.underlying,Result.andThen_ok,Sem.run_pure]
 ·rename_i _ e _ _ _ s hs hd
  have hS:=hE _ _ hs
  have hD:=hE _ _ hd
  split at h
  ·rename_i _ _ _ he
   have hF:=hE _ _ he
   cases h; cases hx
   obtain ⟨v,w',g',h1,h2,h3⟩:=aQn (P:=E.P) hW hn e s
   refine ⟨v,w',g',?_,h2,h3⟩
   simp only [convert,Sem.run_bind,hS.underlying,hD.underlying,Result.andThen_ok,hF.underlying,h1]
  ·cases h
 ·rename_i e _ _ _ _ _ _ elems _ hs hd
  split at h
  ·rename_i _ _ _ l he hl
   cases h
   exact ⟨_,_,g,slcase hs hd he hl hx,.v _,.refl hW⟩
  ·cases h
 ·rename_i e _ _ _ _ _ _ elems hs hd
  split at h
  ·rename_i _ _ _ l he hl
   cases h
   cases hx with
   | asl0 =>
    simp [kG] at hl; subst hl
    have hS:=hE _ _ hs
    have hD:=hE _ _ hd
    have hF:=hE _ _ he
    refine ⟨_,_,g,?_,.v _,.refl hW⟩
    rw [run_convert_bytes_string w src dst e _ _ _ hS.d hF.d hD.d]
    rename_i ad
    cases ad
    ·simp [Conv.bytesToString]
     rfl
    ·simp [Conv.bytesToString,loadCells,loadCellsFrom]
     rfl
   | asl hx=>exact ⟨_,_,g,slcase hs hd he hl hx,.v _,.refl hW⟩
  ·cases h
 ·cases h
def rH:AV→Option (Nat×Bool)
 | .v (.pointer none)=>some (0,true)
 | .ptr _ _ | .iptr _ _=>some (0,false)
 | .v (.slice none 0 0)=>some (1,true)
 | .sl _ _ _ | .nsl _ _=>some (1,false)
 | .v .nilFunc=>some (2,true)
 | .fn _ _=>some (2,false)
 | _=>none
def iV (E:Env) (t:TypeId) (x y:AV):Option Bool :=
 match E.eqk t,x.cells?,y.cells? with
 | some ks, some l, some l' => match x, y with
  | .agg _,.agg _ | .agg _,.v (.agg _) | .v (.agg _),.agg _ | .v (.agg _),.v (.agg _)=>cD ks l l'
  | _,_=>none
 | _, _, _ =>
  match E.ty t,rH x,rH y with
  | some ⟨.pointer _,_,_,_⟩,some (0,a),some (0,b) | some ⟨.slice _,_,_,_⟩,some (1,a),some (1,b) | some ⟨.func _ _ _,_,_,_⟩,some (2,a),some (2,b)=>if a || b then some (a&&b) else none
  | some ⟨.bool,_,_,_⟩,_,_=>match x,y with | .v (.bool a),.v (.bool b)=>some (a==b) | _,_=>none
  | _,_,_=>none
def tX (E:Env) (op:BinOp) (t:TypeId) (x y:AV):Option Res :=
 match x,y with
 | .v (.int k a),.v (.int k' b)=>(pC op (.int k a) (.int k' b)).map fun r=>{ r:=.v r.1,ob:=r.2 }
 | .v (.string a),.v (.string b)=>(pC op (.string a) (.string b)).map fun r=>{ r:=.v r.1,ob:=r.2 }
 | x, y => match op with
  | .eql=>(iV E t x y).map fun b=>{ r:=.v (.bool b) }
  | .neq=>(iV E t x y).map fun b=>{ r:=.v (.bool !b) }
  | _=>none
theorem aQo {g:Gh} {sz:Nat} {el:List (List AV)} {vx:Value} (h:VRel g (.nsl sz el) vx):∃ a n c,vx=.slice a n c∧a.isNone=false:=by
 cases h with
 | nsl h e =>
  cases h with
  | asl h=>cases h; exact ⟨_,_,_,rfl,rfl⟩
  | @asl0 _ a =>
   cases a with
   | none=>exact absurd rfl e
   | some a=>exact ⟨_,_,_,rfl,rfl⟩
theorem rJ {g:Gh} {x:AV} {vx:Value} (h:VRel g x vx) {k:Nat} {b:Bool} (hk:rH x=some (k,b)) :
  (k=0∧∃ a,vx=.pointer a∧a.isNone=b)∨(k=1∧∃ a n c,vx=.slice a n c∧a.isNone=b)∨(k=2∧((b=true∧vx=.nilFunc)∨(b=false∧∃ f l c,vx=.func f l c))):=by
 unfold rH at hk
 split at hk<;>first
  | (cases hk; cases h; simp; done)
  | (cases hk; exact .inr (.inl ⟨rfl,aQo h⟩))
  | (cases hk; cases h; left; exact ⟨rfl,_,rfl,rfl⟩)
  | (cases hk; cases h; right; left; exact ⟨rfl,_,_,_,rfl,rfl⟩)
  | (cases hk; cases h; right; right; exact ⟨rfl,.inr ⟨rfl,_,_,_,rfl⟩⟩)
  | cases hk
theorem tY {P:Program} {t:TypeId} {x y:Value} {b:Bool} {w:World} (h:∀ d,(Op.equalIn (d+1) t x y).run P w=.ok b w):(Op.equal t x y).run P w=.ok b w:=h 9999
theorem aLP {E:Env} (hE:E.Ok) (hQ:E.EqOk) {g:Gh} {t:TypeId} {x y:AV} {vx vy:Value} (hx:VRel g x vx) (hy:VRel g y vy) {b:Bool} (h:iV E t x y=some b) (op:BinOp) (ox oy:Operand) (w:World) :
  (eqGuard op t ox oy vx vy).run E.P w=.ok () w∧(Op.equal t vx vy).run E.P w=.ok b w:=by
 unfold iV at h
 split at h
 ·rename_i ks l l' hk hl hl'
  obtain ⟨h1,h2,h3⟩:=hQ t ks hk
  have rx:=oY hx hl
  have ry:=oY hy hl'
  obtain ⟨i,hi,hagg⟩:=Option.map_eq_some_iff.1 h3
  have key:∀ (xs ys:Array Value),vx=.agg xs→vy=.agg ys→cD ks l l'=some b→(eqGuard op t ox oy vx vy).run E.P w=.ok () w∧(Op.equal t vx vy).run E.P w=.ok b w:=by
   intro xs ys ex ey he
   subst ex; subst ey
   refine ⟨?_,?_⟩
   ·cases op<;>simp [eqGuard,h2]
   ·have hv:=aLz rx ry he
    have:=aE4 hE 16 t i ks h1 hi Op.maxDepth (by decide) _ _ b hv w
    simpa [TI.val,hagg,Value.cells,Op.equal] using this
  split at h
  ·cases hx; cases hy; exact key _ _ rfl rfl h
  ·cases hx; cases hy; exact key _ _ rfl rfl h
  ·cases hx; cases hy; exact key _ _ rfl rfl h
  ·cases hx; cases hy; exact key _ _ rfl rfl h
  ·cases h
 ·split at h
  ·rename_i _ _ _ a b' ht hkx hky
   have hT:=hE _ _ ht
   split at h
   ·rename_i hab
    cases h
    rcases rJ hx hkx with ⟨_,p,rfl,hp⟩ | ⟨h0,_⟩ | ⟨h0,_⟩<;>first | (simp at h0; done) | skip
    rcases rJ hy hky with ⟨_,q,rfl,hq⟩ | ⟨h0,_⟩ | ⟨h0,_⟩<;>first | (simp at h0; done) | skip
    refine ⟨by rw [eqGuard_at_pointer]; rfl,?_⟩
    refine tY fun d=>?_
    subst hp; subst hq
    cases p<;>cases q<;>first
     | (simp at hab; done)
     | simp [Op.equalIn,hT.underlying]
   ·cases h
  ·rename_i _ _ _ a b' ht hkx hky
   have hT:=hE _ _ ht
   split at h
   ·rename_i hab
    cases h
    rcases rJ hx hkx with ⟨h0,_⟩ | ⟨_,p,n,c,rfl,hp⟩ | ⟨h0,_⟩<;>first | (simp at h0; done) | skip
    rcases rJ hy hky with ⟨h0,_⟩ | ⟨_,q,n',c',rfl,hq⟩ | ⟨h0,_⟩<;>first | (simp at h0; done) | skip
    refine ⟨by rw [eqGuard_at_slice]; rfl,?_⟩
    refine tY fun d=>?_
    subst hp; subst hq
    cases p<;>cases q<;>first
     | (simp at hab; done)
     | simp [Op.equalIn,hT.underlying]
   ·cases h
  ·rename_i _ _ _ _ _ a b' ht hkx hky
   have hT:=hE _ _ ht
   split at h
   ·rename_i hab
    cases h
    rcases rJ hx hkx with ⟨h0,_⟩ | ⟨h0,_⟩ | ⟨_,hp⟩<;>first | (simp at h0; done) | skip
    rcases rJ hy hky with ⟨h0,_⟩ | ⟨h0,_⟩ | ⟨_,hq⟩<;>first | (simp at h0; done) | skip
    rcases hp with ⟨rfl,rfl⟩ | ⟨rfl,f,l,c,rfl⟩<;>rcases hq with ⟨rfl,rfl⟩ | ⟨rfl,f',l',c',rfl⟩
    ·exact ⟨by rw [eqGuard_at_nilFunc]; rfl,tY fun d=>by simp [Op.equalIn,hT.underlying]⟩
    ·exact ⟨by rw [eqGuard_at_nilFunc]; rfl,tY fun d=>by simp [Op.equalIn,hT.underlying]⟩
    ·exact ⟨by rw [eqGuard_at_func]; rfl,tY fun d=>by simp [Op.equalIn,hT.underlying]⟩
    ·simp at hab
   ·cases h
  ·rename_i _ _ _ ht
   have hT:=hE _ _ ht
   split at h
   ·cases h; cases hx; cases hy
    exact ⟨by rw [eqGuard_at_bool]; rfl,tY fun d=>by simp [Op.equalIn,hT.underlying]⟩
   ·cases h
  ·cases h
theorem aLQ (t:TypeId) (x y:Value) (hn:∀ k a,x≠.int k a) (hs:∀ s,x≠.string s) (hf:∀ k a,x≠.float k a) (hc:∀ k a b,x≠.complex k a b) :
  binOp .eql t x y=(do pure (.bool (← Op.equal t x y)))∧binOp .neq t x y=(do pure (.bool (!(← Op.equal t x y)))):=by
 cases x<;>first
  | (constructor<;>rfl)
  | (exact absurd rfl (hn _ _))
  | (exact absurd rfl (hs _))
  | (exact absurd rfl (hf _ _))
  | (exact absurd rfl (hc _ _ _))
theorem aLR {E:Env} {g:Gh} {t:TypeId} {x y:AV} {vx:Value} (hx:VRel g x vx) {b:Bool} (h:iV E t x y=some b) :
  (∀ k a,vx≠.int k a)∧(∀ s,vx≠.string s)∧(∀ k a,vx≠.float k a)∧(∀ k a b,vx≠.complex k a b):=by
 have hk:∀ {k b},rH x=some (k,b)→(∀ k a,vx≠.int k a)∧(∀ s,vx≠.string s)∧(∀ k a,vx≠.float k a)∧(∀ k a b,vx≠.complex k a b):=fun hk=>by
  rcases rJ hx hk with ⟨_,p,rfl,_⟩ | ⟨_,p,n,c,rfl,_⟩ | ⟨_,⟨_,rfl⟩ | ⟨_,f,l,c,rfl⟩⟩<;>simp
 unfold iV at h
 split at h
 ·split at h<;>first
   | (cases hx; simp; done)
   | cases h
 ·split at h
  ·exact hk (by assumption)
  ·exact hk (by assumption)
  ·exact hk (by assumption)
  ·split at h
   ·cases hx; simp
   ·cases h
  ·cases h
theorem tZ {E:Env} (hE:E.Ok) (hQ:E.EqOk) {g:Gh} {t:TypeId} {op:BinOp} {x y:AV} {vx vy:Value} (hx:VRel g x vx) (hy:VRel g y vy) {res:Res} (h:tX E op t x y=some res) (hob:res.ob)
  (ox oy:Operand) (w:World) :
  ∃ v,(do eqGuard op t ox oy vx vy; binOp op t vx vy:Sem Value).run E.P w=.ok v w∧VRel g res.r v∧res.U=[]:=by
 unfold tX at h
 split at h
 ·obtain ⟨r,hr,rfl⟩:=Option.map_eq_some_iff.1 h
  cases hx; cases hy
  exact ⟨_,aLy hr hob t ox oy w,.v _,rfl⟩
 ·obtain ⟨r,hr,rfl⟩:=Option.map_eq_some_iff.1 h
  cases hx; cases hy
  exact ⟨_,aLy hr hob t ox oy w,.v _,rfl⟩
 ·split at h
  ·obtain ⟨r,hr,rfl⟩:=Option.map_eq_some_iff.1 h
   obtain ⟨h1,h2⟩:=aLP hE hQ hx hy hr .eql ox oy w
   obtain ⟨n1,n2,n3,n4⟩:=aLR hx hr
   refine ⟨_,?_,.v _,rfl⟩
   rw [Sem.run_bind,h1,Result.andThen_ok,(aLQ t vx vy n1 n2 n3 n4).1,Sem.run_bind,h2,Result.andThen_ok,Sem.run_pure]
  ·obtain ⟨r,hr,rfl⟩:=Option.map_eq_some_iff.1 h
   obtain ⟨h1,h2⟩:=aLP hE hQ hx hy hr .neq ox oy w
   obtain ⟨n1,n2,n3,n4⟩:=aLR hx hr
   refine ⟨_,?_,.v _,rfl⟩
   rw [Sem.run_bind,h1,Result.andThen_ok,(aLQ t vx vy n1 n2 n3 n4).2,Sem.run_bind,h2,Result.andThen_ok,Sem.run_pure]
  ·cases h
theorem aQp {E:Env} (hE:E.Ok) {g:Gh} {H:Nat→Ent} {w:World} (hW:WRel g H w) {t e:TypeId} {s1 b1 s2 b2:Nat} {z1 z2:List AV} (ht:E.ty t=some ⟨.slice e,s1,b1,z1⟩) (he:E.ty e=some ⟨.int .u8,s2,b2,z2⟩)
  {id sz:Nat} {elems:List (List AV)} (hid:H id=.tail) {v:Value} (hx:VRel g (.sl sz elems (.tail id)) v) :
  ∃ w',(convert t t v).run E.P w=.ok v w'∧VRel g (.sl sz elems .no) v∧Evo g H w g (upd H id .dead) w':=by
 have hT:=hE _ _ ht
 have hF:=hE _ _ he
 cases hx with
 | sl c e1 e2 e3 e4 e5 e6 =>
  rename_i b o len cap
  obtain ⟨n,hρ,hn⟩:=e6
  obtain ⟨cs,T,fr,h1,_,_,_⟩:=hW.tail_at hid hρ
  refine ⟨w.freeze ⟨b,cs.size,none⟩ 1,?_,.sl c e1 e2 e3 e4 e5 trivial,Evo.mark hW hid hρ⟩
  simp only [convert,Sem.run_bind,hT.underlying,hF.underlying,Result.andThen_ok,beq_self_eq_true,markStringish,run_shape,World.shape?,h1,run_freeze,Sem.run_pure]
theorem aBe {z:Array Value} {n:Nat} (hn:z.size=n):∀ c:Nat,(madeCells z (c * n)).toList=(List.replicate c z.toList).flatten
 | 0=>by simp [madeCells]
 | c + 1 => by
  have ih:=aBe hn c
  rw [List.replicate_succ,List.flatten_cons,← ih]
  simp only [madeCells,Array.toList_map,Array.toList_range] at ih ⊢
  rw [Nat.succ_mul,Nat.add_comm,List.range_add,List.map_append,List.map_map]
  congr 1
  ·apply List.ext_getElem?
   intro k
   rw [List.getElem?_map]
   rcases Nat.lt_or_ge k n with hk | hk
   ·rw [List.getElem?_range hk]
    simp only [Option.map_some,hn,Nat.mod_eq_of_lt hk]
    rw [getElem!_pos z k (by omega)]
    rw [List.getElem?_eq_getElem (by simpa [hn] using hk)]
    simp
   ·rw [List.getElem?_eq_none (by simpa using hk),List.getElem?_eq_none (by simp [hn]; exact hk)]; rfl
  ·apply List.map_congr_left
   intro k _
   simp [hn]
theorem aBf {g:Gh} {zl:List AV} {z:List Value} (h:LRel g zl z):∀ c:Nat,LRel g (List.replicate c zl).flatten (List.replicate c z).flatten
 | 0=>.nil
 | c+1=>by rw [List.replicate_succ,List.replicate_succ,List.flatten_cons,List.flatten_cons]; exact h.append (aBf h c)
theorem aLS {E:Env} (hE:E.Ok) {t e:TypeId} {s1 b1:Nat} {z1:List AV} {ei:TI} (ht:E.ty t=some ⟨.slice e,s1,b1,z1⟩) (he:E.ty e=some ei) {kl kc:IntKind} {c:Int} (h0:0≤c) (h1:c≤9223372036854775807)
  (hb:c * ei.bytes≤70368744177664) (w:World) (g:Gh):∃ cs:Array Value,(Instr.makeSlice t (.int kl c) (.int kc c)).run E.P w=.ok (.slice (some ⟨w.heap.size,0,none⟩) c.toNat c.toNat) { w with heap:=w.heap.push (.cells cs e) } ∧
   LRel g (List.replicate c.toNat ei.zero).flatten cs.toList:=by
 have hT:=hE _ _ ht
 have hF:=hE _ _ he
 obtain ⟨info,hinfo,hisz,hib,z,hz,hzr⟩:=hF.info
 have hzsz:z.cells.size=ei.size:=by have:=(hzr g).1; rw [hF.zl] at this; simpa using this.symm
 refine ⟨_,run_make (P:=E.P) w t e info z hT.d hinfo hz kl kc c c h0 (Int.le_refl _) (by rw [hib,Int.mul_comm]; omega) h1,?_⟩
 rw [hisz,aBe hzsz]
 exact aBf (hzr g) _
theorem aQq {E:Env} (hE:E.Ok) {g:Gh} {H:Nat→Ent} {w:World} (hW:WRel g H w) {t e:TypeId} {s1 b1:Nat} {z1:List AV} {ei:TI} (ht:E.ty t=some ⟨.slice e,s1,b1,z1⟩) (he:E.ty e=some ei) {kl kc:IntKind} {c:Int}
  (h0:0≤c) (h1:c≤9223372036854775807) (hb:c * ei.bytes≤70368744177664) :
  ∃ v w' g',(Instr.makeSlice t (.int kl c) (.int kc c)).run E.P w=.ok v w'∧VRel g' (.sl ei.size (List.replicate c.toNat ei.zero) .full) v∧Evo g H w g' H w':=by
 have hF:=hE _ _ he
 obtain ⟨cs,hrun,hrel⟩:=aLS hE ht he (kl:=kl) (kc:=kc) h0 h1 hb w g
 obtain ⟨k1,k2⟩:=Evo.fixed hW cs e cs.size
 refine ⟨_,_,_,hrun,?_,k2⟩
 have hs:∀ (i:Nat) (x:List AV),(List.replicate c.toNat ei.zero)[i]?=some x→x.length=ei.size:=fun i x hx=>by
  rw [List.getElem?_replicate] at hx
  split at hx
  ·cases hx; exact hF.zl
  ·cases hx
 refine rD (by simp) (Nat.le_refl _) hs cs.toList (hrel.mono k2.le) (fun k hk=>?_) rfl
 have hk':k < cs.size:=by simpa using hk
 rw [Nat.zero_add,k1 k hk' hk']
 simp
theorem aQr {E:Env} (hE:E.Ok) {g:Gh} {H:Nat→Ent} {w:World} (hW:WRel g H w) {n:Nat} (hn:H n=.unborn) {t e:TypeId} {s1 b1:Nat} {z1:List AV} {ei:TI} (ht:E.ty t=some ⟨.slice e,s1,b1,z1⟩) (he:E.ty e=some ei) {kl kc:IntKind} {c:Int}
  (h0:0≤c) (h1:c≤9223372036854775807) (hb:c * ei.bytes≤70368744177664) :
  ∃ v w' g',(Instr.makeSlice t (.int kl c) (.int kc c)).run E.P w=.ok v w'∧VRel g' (.bsl n 0 c.toNat ei.size) v∧Evo g H w g' (upd H n (.gbx (List.replicate c.toNat ei.zero).flatten)) w':=by
 have hF:=hE _ _ he
 obtain ⟨cs,hrun,hrel⟩:=aLS hE ht he (kl:=kl) (kc:=kc) h0 h1 hb w g
 obtain ⟨k1,k2⟩:=Evo.boxM hW hn (List.replicate c.toNat ei.zero).flatten cs #[] e hrel
 rw [Array.append_empty] at k1 k2
 refine ⟨_,_,_,hrun,.bsl k1 (Nat.le_refl _) ?_,k2⟩
 have hs:∀ (i:Nat) (x:List AV),(List.replicate c.toNat ei.zero)[i]?=some x→x.length=ei.size:=fun i x hx=>by
  rw [List.getElem?_replicate] at hx
  split at hx
  ·cases hx; exact hF.zl
  ·cases hx
 have:=hrel.1
 rw [dX _ hs,List.length_replicate] at this
 rw [Nat.zero_add]
 simp at this; omega
theorem aQs {E:Env} (hE:E.Ok) {g:Gh} {H:Nat→Ent} {w:World} (hW:WRel g H w) {n:Nat} (hn:H n=.unborn) {ats:Array TypeId} {sT xT e:TypeId} {s1 b1:Nat} {z1:List AV} {xi ei:TI} {kx kl:IntKind} {c:Int}
  (h0:ats[0]?=some sT) (h1:ats[1]?=some xT) (hsT:E.ty sT=some ⟨.slice e,s1,b1,z1⟩) (hxT:E.ty xT=some xi) (hxi:xi.d=.int kx) (he:E.ty e=some ei) (hby:¬ (ei.bytes=0∨2 ^ 20 < ei.bytes))
  (hc0:0≤c) (hc1:c≤9223372036854775807) (hob:c * ei.bytes≤70368744177664) (ty:TypeId) :
  ∃ v w' g',(Builtin.append_ ats ty #[.slice none 0 0,.int kl c]).run E.P w=.ok v w'∧VRel g' (.bsl n 0 c.toNat ei.size) v∧Evo g H w g' (upd H n (.gbx (List.replicate c.toNat ei.zero).flatten)) w':=by
 have hT:=hE _ _ hsT
 have hX:=hE _ _ hxT
 have hF:=hE _ _ he
 have hby0:ei.bytes≠0:=fun e=>hby (.inl e)
 have hby1:ei.bytes≤2 ^ 20:=by omega
 obtain ⟨m,rfl⟩:∃ m:Nat,c=m:=⟨c.toNat,by omega⟩
 rw [Int.toNat_natCast]
 have hm1:m≤9223372036854775807:=by omega
 have hb2:m * ei.bytes≤2 ^ 46:=by
  have:((m * ei.bytes:Nat):Int)≤70368744177664:=by rw [Int.natCast_mul]; exact hob
  omega
 obtain ⟨info,hinfo,hisz,hib,z,hz,hzr⟩:=hF.info
 have hzsz:z.cells.size=ei.size:=by have:=(hzr g).1; rw [hF.zl] at this; simpa using this.symm
 have hwrap:IntKind.i64.wrap (m:Int)=(m:Int):=by simp only [IntKind.wrap,IntKind.bits,IntKind.signed]; simp; omega
 have hnot:¬ ((m:Int) < 0):=by omega
 have hbig:¬ ((m:Int) * (ei.bytes:Int) > 2 ^ 48):=by
  have:((m:Int) * (ei.bytes:Int))≤70368744177664:=hob
  omega
 have hnew:∀ w:World,(if m * ei.size=0 then (pure #[]:Sem (Array Value)) else do pure (Builtin.zeroCells (← zeroValue e).cells m)).run E.P w=.ok (Builtin.zeroCells z.cells m) w:=by
  intro w
  split
  ·rename_i h
   have:Builtin.zeroCells z.cells m=#[]:=Array.eq_empty_of_size_eq_zero (by rw [mJ,hzsz]; exact h)
   rw [this]; rfl
  ·simp only [Sem.run_bind,zeroValue,typeInfo,run_program,hinfo,Result.andThen_ok,hz,Sem.run_pure,pure_bind]
 by_cases hm:m=0
 ·subst hm
  refine ⟨.slice none 0 0,w,g,?_,.bsl0,?_⟩
  ·simp only [Builtin.append_,h0,h1,List.getElem?_toArray,List.getElem?_cons_zero,List.getElem?_cons_succ,Sem.run_bind,hT.underlying,Result.andThen_ok,hF.sizeOf,hX.underlying,Sem.run_pure]
   simp only [hxi,if_true,asInt,asIntOf,Sem.run_bind,Result.andThen_ok,Sem.run_pure,pure_bind,hwrap,hnot,if_false,typeInfo,run_program,hinfo,hib,hbig,Bool.not_true,Bool.false_eq_true,
    Int.toNat_natCast,Nat.zero_mul,Nat.add_zero,Nat.le_refl,pure_bind]
  ·refine Evo.noneM hW _ fun j=>?_
   by_cases hj:j=n
   ·subst hj; right; right; exact ⟨by rw [aR]; simp,hW.fresh _ hn⟩
   ·left; rw [aJ _ _ hj]
 ·have hold:∀ w:World,(Builtin.firstCells ei.size 0 (.slice none 0 0)).run E.P w=.ok #[] w:=fun w=>by simp [Builtin.firstCells]
  have hnext:=aLM (0+m) 0 (by omega)
  have hmul:Builtin.nextslicecap (0+m) 0 * ei.bytes≤(2 * (0+m)+1024) * ei.bytes:=Nat.mul_le_mul_right _ hnext
  have hmul2:(2 * (0+m)+1024) * ei.bytes=2 * (m * ei.bytes)+1024 * ei.bytes:=by rw [Nat.zero_add,Nat.add_mul,Nat.mul_assoc]
  have hno:¬ Builtin.nextslicecap (0+m) 0 * ei.bytes > 2 ^ 48:=by
   generalize Builtin.nextslicecap (0+m) 0 * ei.bytes=q at *
   generalize m * ei.bytes=q2 at *
   omega
  have hroom:¬ 0+m≤0:=by omega
  have hmax:¬ (((0+m:Nat):Int) > IntKind.i64.max):=by simp only [IntKind.max,IntKind.bits,IntKind.signed]; simp; omega
  simp only [Builtin.append_,h0,h1,List.getElem?_toArray,List.getElem?_cons_zero,List.getElem?_cons_succ,Sem.run_bind,hT.underlying,Result.andThen_ok,hF.sizeOf,hX.underlying,Sem.run_pure]
  simp only [hxi,if_true,asInt,asIntOf,Sem.run_bind,Result.andThen_ok,Sem.run_pure,pure_bind,hwrap,hnot,if_false,typeInfo,run_program,hinfo,hib,hbig,Bool.not_true,Bool.false_eq_true,
    Int.toNat_natCast,pure_bind,hroom,hno,hmax,false_and,run_choose,Question.forced,Question.cut,run_askRoom,hold,hnew,zeroValue,hz,newRow,run_newObj]
  simp only [zeroValue,typeInfo] at hnew
  simp only [hnew,Result.andThen_ok]
  have hrel:LRel g (List.replicate m ei.zero).flatten (#[]++Builtin.zeroCells z.cells m).toList:=by
   have e1:Builtin.zeroCells z.cells m=madeCells z.cells (m * z.cells.size):=rfl
   rw [Array.empty_append,e1,hzsz,aBe hzsz]
   exact aBf (hzr g) _
  obtain ⟨hρ,hev⟩:=Evo.boxM (hW.drew (w.drawn+1)) hn (List.replicate m ei.zero).flatten (#[]++Builtin.zeroCells z.cells m) (Builtin.zeroCells z.cells (0+m+w.tape w.drawn (Question.appendCap (0+m) 0 e) % (2 ^ 63 - (0+m)) - (0+m))) e hrel
  refine ⟨_,_,_,rfl,?_,(Evo.drew hW (w.drawn+1)).trans hev⟩
  rw [show 0+m=m from Nat.zero_add m] at hρ ⊢
  refine .bsl hρ (Nat.le_add_right _ _) ?_
  rw [Array.size_append,Array.size_append,mJ,mJ,hzsz,Array.size_empty,Nat.zero_add,Nat.zero_add,← Nat.add_mul]
  exact Nat.mul_le_mul_right _ (by omega)
theorem aQt {E:Env} (hE:E.Ok) {g:Gh} {t e:TypeId} {s1 b1 id n:Nat} {z1:List AV} {ei:TI} (ht:E.ty t=some ⟨.slice e,s1,b1,z1⟩) (he:E.ty e=some ei) {vx vh:Value} {k:IntKind} {h:Int} (hx:VRel g (.bsl id 0 n ei.size) vx)
  (hh:VRel g (.v (.int k h)) vh) (h0:0≤h) (h1:h≤n) (w:World):∃ v,(Instr.sliceAt t vx none (some vh) none).run E.P w=.ok v w∧VRel g (.bsl id 0 h.toNat ei.size) v:=by
 have hT:=hE _ _ ht
 have hF:=hE _ _ he
 cases hx with
 | bsl e1 e2 e3 =>
  rename_i b lo m cap
  have hb:=rC (P:=E.P) (g:=g) (lo:=none) (hi:=some (.v (.int k h))) (l:=0) (h:=h) n cap true rfl rfl (by simp) (fun _=>rfl) (fun a ha=>by cases ha; exact ⟨_,rfl,hh⟩) (by simp) rfl (Int.le_refl _) h0 h1 e2 w
  refine ⟨.slice (some ⟨b,0,none⟩) h.toNat cap,?_,.bsl e1 (by omega) e3⟩
  simp only [Instr.sliceAt,Sem.run_bind,hT.underlying,Result.andThen_ok,Instr.slice,hb,hF.sizeOf,Sem.run_pure,Option.map_some,fO]
  simp
 | bsl0 =>
  rename_i a
  have hb:=rC (P:=E.P) (g:=g) (lo:=none) (hi:=some (.v (.int k h))) (l:=0) (h:=h) 0 0 true rfl rfl (by simp) (fun _=>rfl) (fun a ha=>by cases ha; exact ⟨_,rfl,hh⟩) (by simp) rfl (Int.le_refl _) h0 h1 (Nat.le_refl _) w
  have e0:h=0:=by simp at h1; omega
  subst e0
  refine ⟨.slice a 0 0,?_,.bsl0⟩
  simp only [Instr.sliceAt,Sem.run_bind,hT.underlying,Result.andThen_ok,Instr.slice,hb,hF.sizeOf,Sem.run_pure]
  cases a<;>simp
theorem evCap0 {E:Env} (hE:E.Ok) {t:TypeId} {e:TypeId} {s1 b1:Nat} {z1:List AV} (ht:E.ty t=some ⟨.slice e,s1,b1,z1⟩) (ty:TypeId) (w:World):(Builtin.cap_ #[t] ty #[.slice none 0 0]).run E.P w=.ok (.int .i64 0) w:=by
 have hT:=hE _ _ ht
 simp [Builtin.cap_,hT.underlying,goInt]
end Go.Ev
