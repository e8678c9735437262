/-
The abstract evaluator: conversions,comparisons,the small builtins,and all operations but calls of functions together.
-/
import Derived.Test.YtddpmkmgbdedlaaGreatqEvH
import Derived.Laws.MakeOwn
import Derived.Laws.BytesString
set_option linter.unusedVariables false
set_option linter.unusedSimpArgs false
namespace Go.Ev
open Go
def Env.fp (E:Env):Prop:=∀ t ks,E.eqk t=some ks→Rp E 16 t=some ks∧E.P.eqGuardType E.P.depth t=false∧(E.ty t).map (·.agg)=some true
def Ff:List (List AV)→Option (List UInt8)
 |[]=>some []
 |[.v (.int .u8 n)] :: r=>(Ff r).map (UInt8.ofNat n.toNat :: ·)
 |_=>none
def Qk (E:Env)(n:Nat)(src dst:TypeId)(x:AV):Option my :=
 match E.ty src,E.ty dst,x with
 |some _,some ⟨.int k,_,_,_⟩,.v (.int _ m)=>some { r:=.v (.int k (k.wrap m)) }
 |some _,some ⟨.string,_,_,_⟩,.v (.string s)=>some { r:=.v (.string s) }
 |some _,some ⟨.slice e,_,_,_⟩,.v (.string s) =>
  match E.ty e with
  |some ⟨.int .u8,_,_,_⟩=>some { r:=.sl 1 (bytesOf s) (.tail n),U:=[(n,.tail)] }
  |_=>none
 |some ⟨.slice e,_,_,_⟩,some ⟨.string,_,_,_⟩,.sl 1 elems _|some ⟨.slice e,_,_,_⟩,some ⟨.string,_,_,_⟩,.xA 1 elems =>
  match E.ty e,Ff elems with
  |some ⟨.int .u8,_,_,_⟩,some l=>some { r:=.v (.string ⟨l.toArray⟩) }
  |_,_=>none
 |_,_,_=>none
theorem DA {g:Gh}:∀ {elems:List (List AV)} {l:List UInt8} {cs:List Value},Ff elems=some l→cW g elems.flatten cs→∃ ns:List Int,cs=ns.map (Value.int .u8)∧ns.map (fun n=>UInt8.ofNat n.toNat)=l
 |elems,l,cs,h,hr=>by
  unfold Ff at h
  split at h
  ·cases h
   have:cs=[]:=List.length_eq_zero_iff.1 (by simpa using hr.1.symm)
   subst this
   exact⟨[],rfl,rfl⟩
  ·rename_i n r
   obtain⟨l',h1,rfl⟩:=Option.map_eq_some_iff.1 h
   cases cs with
   |nil=>have:=hr.1;simp at this
   |cons c cs =>
    have hc:=hr.2 0 (.v (.int .u8 n)) c rfl rfl
    cases hc
    obtain⟨ns,rfl,h3⟩:=DA (cs:=cs) h1 ⟨by simpa using hr.1,fun k x c a b=>hr.2 (k+1) x c (by simpa using a) (by simpa using b)⟩
    exact⟨n :: ns,rfl,by simp[h3]⟩
  ·cases h
theorem foldl_push:∀ (ns:List Int) (s:ByteArray),ns.foldl (fun r n=>r.push (UInt8.ofNat n.toNat)) s=⟨s.data++(ns.map fun n=>UInt8.ofNat n.toNat).toArray⟩
 |[],s=>by simp
 |n :: ns,s=>by
  rw[List.foldl_cons,foldl_push ns]
  apply ByteArray.ext
  apply Array.ext'
  simp[ByteArray.push]
theorem PY {P:Program}{g:Gh}{H:Nat→dD}{w:World}(hW:eR g H w){n:Nat}(hn:H n=.bX)(e:TypeId)(s:ByteArray) :
  ∃ v w' g',(Conv.stringToBytes e s).run P w=.ok v w'∧aF g' (.sl 1 (bytesOf s) (.tail n)) v∧fC g H w g' (eQ H n .tail) w':=by
 have fa:∀ (i:Nat) (cs:List AV),(bytesOf s)[i]?=some cs→cs.length=1:=fun i cs h=>by
  simp[bytesOf]at h
  obtain⟨b,_,rfl⟩:=h
  rfl
 have hfl:(bytesOf s).flatten=(s.data.toList.map fun b=>Value.int .u8 b.toNat).map .v:=by
  simp only[bytesOf]
  induction s.data.toList with
  |nil=>rfl
  |cons b l ih=>simp[Rb,ih]
 have Tr:(s.data.map fun b=>Value.int .u8 b.toNat).toList=s.data.toList.map fun b=>Value.int .u8 b.toNat:=by simp
 obtain⟨cap,Kl⟩:∃ cap,cap=s.size+w.tape w.drawn (.appendCap s.size 0 e) % (2 ^ 63 - s.size):=⟨_,rfl⟩
 have hle:s.size≤cap:=by omega
 let row:Array Value:=(s.data.map fun b=>Value.int .u8 b.toNat)++Array.replicate (cap - s.size) (.int .u8 0)
 have hrow:row.size=cap:=by simp[row];omega
 obtain⟨h1,h2,h3⟩:=fC.RI (hW.drew (w.drawn+1)) hn row e s.size (row.size,row.size+1) (by omega) (fun o ho1 ho2=>by simp;omega) _ rfl
 refine⟨.slice (some ⟨w.heap.size,0,none⟩) s.size cap,_,_,?_,?_,(fC.drew hW _).trans h3⟩
 ·simp only[Conv.stringToBytes,Sem.run_bind,run_choose,Question.forced,Question.cut,Bool.false_eq_true,if_false,Result.andThen_ok,newRow,run_newObj,Sem.run_pure,markStringish,run_shape,World.shape?]
  rw[← Kl]
  simp only[Array.getElem?_push_size,Sem.run_bind,run_shape,Result.andThen_ok,run_freeze,World.freeze,Nat.one_ne_zero,if_false,Sem.run_pure]
  congr 2
  apply Array.ext_getElem?
  intro k
  rw[Array.getElem?_modify,Array.getElem?_push,Array.getElem?_push]
  split
  ·rename_i hk
   simp only[hk,if_true]
   rfl
  ·rename_i hk
   simp only[Ne.symm hk,if_false]
 ·have hc:((s.data.map fun b=>Value.int .u8 b.toNat)).size=s.size:=by simp
  refine Gg (by simp[bytesOf]) hle fa ((s.data.map fun b=>Value.int .u8 b.toNat)).toList ?_ (fun k hk=>?_) ⟨row.size,?_,?_⟩
  ·rw[hfl,Tr];exact cW.aGr _
  ·have jR:k < s.size:=by simpa using hk
   rw[Nat.zero_add,h1 k jR]
   simp only[row]
   rw[Array.getElem?_append_left (by rw[hc];exact jR)]
   simp
  ·rw[h2,Nat.zero_add,Nat.mul_one]
  ·rw[hrow];omega
theorem Fb {E:Env}(hE:E.Ok){g:Gh}{H:Nat→dD}{w:World}(hW:eR g H w){n:Nat}(hn:H n=.bX){src dst:TypeId}{x:AV}{vx:Value}(hx:aF g x vx){res:my}
  (h:Qk E n src dst x=some res) :
  ∃ v w' g',(convert src dst vx).run E.P w=.ok v w'∧aF g' res.r v∧fC g H w g' (app H res.U) w':=by
 unfold Qk at h
 have TE:∀ {e s1 b1 z1 s2 b2 z2 elems tok},E.ty src=some ⟨.slice e,s1,b1,z1⟩→E.ty dst=some ⟨.string,s2,b2,z2⟩→∀ {s3 b3 z3},E.ty e=some ⟨.int .u8,s3,b3,z3⟩→∀ {l},Ff elems=some l →
   aF g (.sl 1 elems tok) vx→(convert src dst vx).run E.P w=.ok (.string ⟨l.toArray⟩) w:=by
  intro e s1 b1 z1 s2 b2 z2 elems tok hs hd s3 b3 z3 he l hl Bw
  have hS:=hE _ _ hs
  have hD:=hE _ _ hd
  have hF:=hE _ _ he
  have LV:=Bw
  cases Bw with
  |sl c e1 e2 e3 e4 e5 e6 =>
   rename_i b o len cap
   subst e1
   obtain⟨_,_,_,_,cs,l4,l5,_⟩:=Lg (P:=E.P) hW LV
   obtain⟨ns,h1,h2⟩:=DA hl l5
   rw[run_convert_bytes_string w src dst e _ _ _ hS.d hF.d hD.d]
   rw[run_bytesToString w _ elems.length cap ns (by rw[Nat.mul_one]at l4;rw[l4,← h1])]
   rw[foldl_push,h2]
   simp
 split at h
 ·rename_i _ k _ _ _ _ m hs hd
  have hS:=hE _ _ hs
  have hD:=hE _ _ hd
  cases h;cases hx
  refine⟨_,_,g,?_,.v _,.refl hW⟩
  simp only[convert,Sem.run_bind,hS.underlying,hD.underlying,Result.andThen_ok,Conv.intToInt,Sem.run_pure]
 ·rename_i _ _ _ _ s hs hd
  have hS:=hE _ _ hs
  have hD:=hE _ _ hd
  cases h;cases hx
  refine⟨_,_,g,?_,.v _,.refl hW⟩
  simp only[convert,Sem.run_bind,hS.underlying,hD.underlying,Result.andThen_ok,Sem.run_pure]
 ·rename_i _ e _ _ _ s hs hd
  have hS:=hE _ _ hs
  have hD:=hE _ _ hd
  split at h
  ·rename_i _ _ _ he
   have hF:=hE _ _ he
   cases h;cases hx
   obtain⟨v,w',g',h1,h2,h3⟩:=PY (P:=E.P) hW hn e s
   refine⟨v,w',g',?_,h2,h3⟩
   simp only[convert,Sem.run_bind,hS.underlying,hD.underlying,Result.andThen_ok,hF.underlying,h1]
  ·cases h
 ·rename_i e _ _ _ _ _ _ elems _ hs hd
  split at h
  ·rename_i _ _ _ l he hl
   cases h
   exact⟨_,_,g,TE hs hd he hl hx,.v _,.refl hW⟩
  ·cases h
 ·rename_i e _ _ _ _ _ _ elems hs hd
  split at h
  ·rename_i _ _ _ l he hl
   cases h
   cases hx with
   |Jt =>
    simp[Ff]at hl;subst hl
    have hS:=hE _ _ hs
    have hD:=hE _ _ hd
    have hF:=hE _ _ he
    refine⟨_,_,g,?_,.v _,.refl hW⟩
    rw[run_convert_bytes_string w src dst e _ _ _ hS.d hF.d hD.d]
    rename_i ad
    cases ad
    ·simp[Conv.bytesToString]
     rfl
    ·simp[Conv.bytesToString,loadCells,loadCellsFrom]
     rfl
   |xA hx=>exact⟨_,_,g,TE hs hd he hl hx,.v _,.refl hW⟩
  ·cases h
 ·cases h
def kj:AV→Option (Nat×Bool)
 |.v (.pointer none)=>some (0,true)
 |.ptr _ _ | .rL _ _=>some (0,false)
 |.v (.slice none 0 0)=>some (1,true)
 |.sl _ _ _ | .VA _ _=>some (1,false)
 |.v .nilFunc=>some (2,true)
 |.fn _ _=>some (2,false)
 |_=>none
def OB (E:Env)(t:TypeId)(x y:AV):Option Bool :=
 match E.eqk t,x.cells?,y.cells? with
 |some ks,some l,some l'=>match x,y with
  |.agg _,.agg _ | .agg _,.v (.agg _) | .v (.agg _),.agg _ | .v (.agg _),.v (.agg _)=>eN ks l l'
  |_,_=>none
 |_,_,_ =>
  match E.ty t,kj x,kj y with
  |some ⟨.pointer _,_,_,_⟩,some (0,a),some (0,b) | some ⟨.slice _,_,_,_⟩,some (1,a),some (1,b) | some ⟨.func _ _ _,_,_,_⟩,some (2,a),some (2,b)=>if a || b then some (a&&b) else none
  |some ⟨.bool,_,_,_⟩,_,_=>match x,y with | .v (.bool a),.v (.bool b)=>some (a==b) | _,_=>none
  |_,_,_=>none
def F3 (E:Env)(op:BinOp)(t:TypeId)(x y:AV):Option my :=
 match x,y with
 |.v (.int k a),.v (.int k' b)=>(W7 op (.int k a) (.int k' b)).map fun r=>{ r:=.v r.1,ob:=r.2 }
 |.v (.string a),.v (.string b)=>(W7 op (.string a) (.string b)).map fun r=>{ r:=.v r.1,ob:=r.2 }
 |x,y=>match op with
  |.eql=>(OB E t x y).map fun b=>{ r:=.v (.bool b) }
  |.neq=>(OB E t x y).map fun b=>{ r:=.v (.bool !b) }
  |_=>none
theorem um {g:Gh}{sz:Nat}{el:List (List AV)}{vx:Value}(h:aF g (.VA sz el) vx):∃ a n c,vx=.slice a n c∧a.isNone=false:=by
 cases h with
 |VA h e =>
  cases h with
  |xA h=>cases h;exact⟨_,_,_,rfl,rfl⟩
  |@Jt _ a =>
   cases a with
   |none=>exact absurd rfl e
   |some a=>exact⟨_,_,_,rfl,rfl⟩
theorem Fy {g:Gh}{x:AV}{vx:Value}(h:aF g x vx){k:Nat}{b:Bool}(hk:kj x=some (k,b)) :
  (k=0∧∃ a,vx=.pointer a∧a.isNone=b)∨(k=1∧∃ a n c,vx=.slice a n c∧a.isNone=b)∨(k=2∧((b=true∧vx=.nilFunc)∨(b=false∧∃ f l c,vx=.func f l c))):=by
 unfold kj at hk
 split at hk<;>first
  |(cases hk;cases h;simp;done)
  |(cases hk;exact .inr (.inl ⟨rfl,um h⟩))
  |(cases hk;cases h;left;exact⟨rfl,_,rfl,rfl⟩)
  |(cases hk;cases h;right;left;exact⟨rfl,_,_,_,rfl,rfl⟩)
  |(cases hk;cases h;right;right;exact⟨rfl,.inr ⟨rfl,_,_,_,rfl⟩⟩)
  |cases hk
theorem wX {P:Program}{t:TypeId}{x y:Value}{b:Bool}{w:World}(h:∀ d,(Op.equalIn (d+1) t x y).run P w=.ok b w):(Op.equal t x y).run P w=.ok b w:=h 9999
theorem ZA {E:Env}(hE:E.Ok)(hQ:E.fp){g:Gh}{t:TypeId}{x y:AV}{vx vy:Value}(hx:aF g x vx)(hy:aF g y vy){b:Bool}(h:OB E t x y=some b)(op:BinOp)(ox oy:Operand)(w:World) :
  (eqGuard op t ox oy vx vy).run E.P w=.ok () w∧(Op.equal t vx vy).run E.P w=.ok b w:=by
 unfold OB at h
 split at h
 ·rename_i ks l l' hk hl oI
  obtain⟨h1,h2,h3⟩:=hQ t ks hk
  have rx:=Bi hx hl
  have ry:=Bi hy oI
  obtain⟨i,hi,Di⟩:=Option.map_eq_some_iff.1 h3
  have key:∀ (xs ys:Array Value),vx=.agg xs→vy=.agg ys→eN ks l l'=some b→(eqGuard op t ox oy vx vy).run E.P w=.ok () w∧(Op.equal t vx vy).run E.P w=.ok b w:=by
   intro xs ys ex ey he
   subst ex;subst ey
   refine⟨?_,?_⟩
   ·cases op<;>simp[eqGuard,h2]
   ·have hv:=NZ rx ry he
    have:=FA hE 16 t i ks h1 hi Op.maxDepth (by decide) _ _ b hv w
    simpa[TI.val,Di,Value.cells,Op.equal] using this
  split at h
  ·cases hx;cases hy;exact key _ _ rfl rfl h
  ·cases hx;cases hy;exact key _ _ rfl rfl h
  ·cases hx;cases hy;exact key _ _ rfl rfl h
  ·cases hx;cases hy;exact key _ _ rfl rfl h
  ·cases h
 ·split at h
  ·rename_i _ _ _ a b' ht hkx hky
   have hT:=hE _ _ ht
   split at h
   ·rename_i hab
    cases h
    rcases Fy hx hkx with⟨_,p,rfl,hp⟩|⟨h0,_⟩|⟨h0,_⟩<;>first | (simp at h0;done) | skip
    rcases Fy hy hky with⟨_,q,rfl,hq⟩|⟨h0,_⟩|⟨h0,_⟩<;>first | (simp at h0;done) | skip
    refine⟨by rw[eqGuard_at_pointer];rfl,?_⟩
    refine wX fun d=>?_
    subst hp;subst hq
    cases p<;>cases q<;>first
     |(simp at hab;done)
     |simp[Op.equalIn,hT.underlying]
   ·cases h
  ·rename_i _ _ _ a b' ht hkx hky
   have hT:=hE _ _ ht
   split at h
   ·rename_i hab
    cases h
    rcases Fy hx hkx with⟨h0,_⟩|⟨_,p,n,c,rfl,hp⟩|⟨h0,_⟩<;>first | (simp at h0;done) | skip
    rcases Fy hy hky with⟨h0,_⟩|⟨_,q,n',c',rfl,hq⟩|⟨h0,_⟩<;>first | (simp at h0;done) | skip
    refine⟨by rw[eqGuard_at_slice];rfl,?_⟩
    refine wX fun d=>?_
    subst hp;subst hq
    cases p<;>cases q<;>first
     |(simp at hab;done)
     |simp[Op.equalIn,hT.underlying]
   ·cases h
  ·rename_i _ _ _ _ _ a b' ht hkx hky
   have hT:=hE _ _ ht
   split at h
   ·rename_i hab
    cases h
    rcases Fy hx hkx with⟨h0,_⟩|⟨h0,_⟩|⟨_,hp⟩<;>first | (simp at h0;done) | skip
    rcases Fy hy hky with⟨h0,_⟩|⟨h0,_⟩|⟨_,hq⟩<;>first | (simp at h0;done) | skip
    rcases hp with⟨rfl,rfl⟩|⟨rfl,f,l,c,rfl⟩<;>rcases hq with⟨rfl,rfl⟩|⟨rfl,f',l',c',rfl⟩
    ·exact⟨by rw[eqGuard_at_nilFunc];rfl,wX fun d=>by simp[Op.equalIn,hT.underlying]⟩
    ·exact⟨by rw[eqGuard_at_nilFunc];rfl,wX fun d=>by simp[Op.equalIn,hT.underlying]⟩
    ·exact⟨by rw[eqGuard_at_func];rfl,wX fun d=>by simp[Op.equalIn,hT.underlying]⟩
    ·simp at hab
   ·cases h
  ·rename_i _ _ _ ht
   have hT:=hE _ _ ht
   split at h
   ·cases h;cases hx;cases hy
    exact⟨by rw[eqGuard_at_bool];rfl,wX fun d=>by simp[Op.equalIn,hT.underlying]⟩
   ·cases h
  ·cases h
theorem ET (t:TypeId)(x y:Value)(hn:∀ k a,x≠.int k a)(hs:∀ s,x≠.string s)(hf:∀ k a,x≠.float k a)(hc:∀ k a b,x≠.complex k a b) :
  binOp .eql t x y=(do pure (.bool (← Op.equal t x y)))∧binOp .neq t x y=(do pure (.bool (!(← Op.equal t x y)))):=by
 cases x<;>first
  |(constructor<;>rfl)
  |(exact absurd rfl (hn _ _))
  |(exact absurd rfl (hs _))
  |(exact absurd rfl (hf _ _))
  |(exact absurd rfl (hc _ _ _))
theorem F4 {E:Env}{g:Gh}{t:TypeId}{x y:AV}{vx:Value}(hx:aF g x vx){b:Bool}(h:OB E t x y=some b) :
  (∀ k a,vx≠.int k a)∧(∀ s,vx≠.string s)∧(∀ k a,vx≠.float k a)∧(∀ k a b,vx≠.complex k a b):=by
 have hk:∀ {k b},kj x=some (k,b)→(∀ k a,vx≠.int k a)∧(∀ s,vx≠.string s)∧(∀ k a,vx≠.float k a)∧(∀ k a b,vx≠.complex k a b):=fun hk=>by
  rcases Fy hx hk with⟨_,p,rfl,_⟩|⟨_,p,n,c,rfl,_⟩|⟨_,⟨_,rfl⟩|⟨_,f,l,c,rfl⟩⟩<;>simp
 unfold OB at h
 split at h
 ·split at h<;>first
   |(cases hx;simp;done)
   |cases h
 ·split at h
  ·exact hk (by assumption)
  ·exact hk (by assumption)
  ·exact hk (by assumption)
  ·split at h
   ·cases hx;simp
   ·cases h
  ·cases h
theorem Gt {E:Env}(hE:E.Ok)(hQ:E.fp){g:Gh}{t:TypeId}{op:BinOp}{x y:AV}{vx vy:Value}(hx:aF g x vx)(hy:aF g y vy){res:my}(h:F3 E op t x y=some res)(jM:res.ob)
  (ox oy:Operand) (w:World) :
  ∃ v,(do eqGuard op t ox oy vx vy;binOp op t vx vy:Sem Value).run E.P w=.ok v w∧aF g res.r v∧res.U=[]:=by
 unfold F3 at h
 split at h
 ·obtain⟨r,hr,rfl⟩:=Option.map_eq_some_iff.1 h
  cases hx;cases hy
  exact⟨_,YH hr jM t ox oy w,.v _,rfl⟩
 ·obtain⟨r,hr,rfl⟩:=Option.map_eq_some_iff.1 h
  cases hx;cases hy
  exact⟨_,YH hr jM t ox oy w,.v _,rfl⟩
 ·split at h
  ·obtain⟨r,hr,rfl⟩:=Option.map_eq_some_iff.1 h
   obtain⟨h1,h2⟩:=ZA hE hQ hx hy hr .eql ox oy w
   obtain⟨n1,n2,n3,n4⟩:=F4 hx hr
   refine⟨_,?_,.v _,rfl⟩
   rw[Sem.run_bind,h1,Result.andThen_ok,(ET t vx vy n1 n2 n3 n4).1,Sem.run_bind,h2,Result.andThen_ok,Sem.run_pure]
  ·obtain⟨r,hr,rfl⟩:=Option.map_eq_some_iff.1 h
   obtain⟨h1,h2⟩:=ZA hE hQ hx hy hr .neq ox oy w
   obtain⟨n1,n2,n3,n4⟩:=F4 hx hr
   refine⟨_,?_,.v _,rfl⟩
   rw[Sem.run_bind,h1,Result.andThen_ok,(ET t vx vy n1 n2 n3 n4).2,Sem.run_bind,h2,Result.andThen_ok,Sem.run_pure]
  ·cases h
theorem run_mark {E:Env}(hE:E.Ok){g:Gh}{H:Nat→dD}{w:World}(hW:eR g H w){t e:TypeId}{s1 b1 s2 b2:Nat}{z1 z2:List AV}(ht:E.ty t=some ⟨.slice e,s1,b1,z1⟩)(he:E.ty e=some ⟨.int .u8,s2,b2,z2⟩)
  {id sz:Nat} {elems:List (List AV)} (gY:H id=.tail) {v:Value} (hx:aF g (.sl sz elems (.tail id)) v) :
  ∃ w',(convert t t v).run E.P w=.ok v w'∧aF g (.sl sz elems .no) v∧fC g H w g (eQ H id .dead) w':=by
 have hT:=hE _ _ ht
 have hF:=hE _ _ he
 cases hx with
 |sl c e1 e2 e3 e4 e5 e6 =>
  rename_i b o len cap
  obtain⟨n,gO,hn⟩:=e6
  obtain⟨cs,T,fr,h1,_,_,_⟩:=hW.tail_at gY gO
  refine⟨w.freeze ⟨b,cs.size,none⟩ 1,?_,.sl c e1 e2 e3 e4 e5 trivial,fC.mark hW gY gO⟩
  simp only[convert,Sem.run_bind,hT.underlying,hF.underlying,Result.andThen_ok,beq_self_eq_true,markStringish,run_shape,World.shape?,h1,run_freeze,Sem.run_pure]
theorem IH {z:Array Value}{n:Nat}(hn:z.size=n):∀ c:Nat,(madeCells z (c * n)).toList=(List.replicate c z.toList).flatten
 |0=>by simp[madeCells]
 |c+1=>by
  have ih:=IH hn c
  rw[List.replicate_succ,List.flatten_cons,← ih]
  simp only[madeCells,Array.toList_map,Array.toList_range]at ih ⊢
  rw[Nat.succ_mul,Nat.add_comm,List.range_add,List.map_append,List.map_map]
  congr 1
  ·apply List.ext_getElem?
   intro k
   rw[List.getElem?_map]
   rcases Nat.lt_or_ge k n with hk|hk
   ·rw[List.getElem?_range hk]
    simp only[Option.map_some,hn,Nat.mod_eq_of_lt hk]
    rw[getElem!_pos z k (by omega)]
    rw[List.getElem?_eq_getElem (by simpa[hn] using hk)]
    simp
   ·rw[List.getElem?_eq_none (by simpa using hk),List.getElem?_eq_none (by simp[hn];exact hk)];rfl
  ·apply List.map_congr_left
   intro k _
   simp[hn]
theorem Uw {g:Gh}{zl:List AV}{z:List Value}(h:cW g zl z):∀ c:Nat,cW g (List.replicate c zl).flatten (List.replicate c z).flatten
 |0=>.nil
 |c+1=>by rw[List.replicate_succ,List.replicate_succ,List.flatten_cons,List.flatten_cons];exact h.append (Uw h c)
theorem ct {E:Env}(hE:E.Ok){t e:TypeId}{s1 b1:Nat}{z1:List AV}{ei:TI}(ht:E.ty t=some ⟨.slice e,s1,b1,z1⟩)(he:E.ty e=some ei){kl kc:IntKind}{c:Int}(h0:0≤c)(h1:c≤9223372036854775807)
  (hb:c * ei.bytes≤70368744177664) (w:World) (g:Gh):∃ cs:Array Value,(Instr.makeSlice t (.int kl c) (.int kc c)).run E.P w=.ok (.slice (some ⟨w.heap.size,0,none⟩) c.toNat c.toNat) { w with heap:=w.heap.push (.cells cs e) } ∧
   cW g (List.replicate c.toNat ei.zero).flatten cs.toList:=by
 have hT:=hE _ _ ht
 have hF:=hE _ _ he
 obtain⟨info,Bv,RN,Qn,z,hz,OP⟩:=hF.info
 have Ty:z.cells.size=ei.size:=by have:=(OP g).1;rw[hF.zl]at this;simpa using this.symm
 refine⟨_,run_make (P:=E.P) w t e info z hT.d Bv hz kl kc c c h0 (Int.le_refl _) (by rw[Qn,Int.mul_comm];omega) h1,?_⟩
 rw[RN,IH Ty]
 exact Uw (OP g) _
theorem M7 {E:Env}(hE:E.Ok){g:Gh}{H:Nat→dD}{w:World}(hW:eR g H w){t e:TypeId}{s1 b1:Nat}{z1:List AV}{ei:TI}(ht:E.ty t=some ⟨.slice e,s1,b1,z1⟩)(he:E.ty e=some ei){kl kc:IntKind}{c:Int}
  (h0:0≤c) (h1:c≤9223372036854775807) (hb:c * ei.bytes≤70368744177664) :
  ∃ v w' g',(Instr.makeSlice t (.int kl c) (.int kc c)).run E.P w=.ok v w'∧aF g' (.sl ei.size (List.replicate c.toNat ei.zero) .full) v∧fC g H w g' H w':=by
 have hF:=hE _ _ he
 obtain⟨cs,Ms,wU⟩:=ct hE ht he (kl:=kl) (kc:=kc) h0 h1 hb w g
 obtain⟨k1,k2⟩:=fC.fixed hW cs e cs.size
 refine⟨_,_,_,Ms,?_,k2⟩
 have hs:∀ (i:Nat) (x:List AV),(List.replicate c.toNat ei.zero)[i]?=some x→x.length=ei.size:=fun i x hx=>by
  rw[List.getElem?_replicate]at hx
  split at hx
  ·cases hx;exact hF.zl
  ·cases hx
 refine Gg (by simp) (Nat.le_refl _) hs cs.toList (wU.mono k2.le) (fun k hk=>?_) rfl
 have jR:k < cs.size:=by simpa using hk
 rw[Nat.zero_add,k1 k jR jR]
 simp
theorem v7 {E:Env}(hE:E.Ok){g:Gh}{H:Nat→dD}{w:World}(hW:eR g H w){n:Nat}(hn:H n=.bX){t e:TypeId}{s1 b1:Nat}{z1:List AV}{ei:TI}(ht:E.ty t=some ⟨.slice e,s1,b1,z1⟩)(he:E.ty e=some ei){kl kc:IntKind}{c:Int}
  (h0:0≤c) (h1:c≤9223372036854775807) (hb:c * ei.bytes≤70368744177664) :
  ∃ v w' g',(Instr.makeSlice t (.int kl c) (.int kc c)).run E.P w=.ok v w'∧aF g' (.Fk n 0 c.toNat ei.size) v∧fC g H w g' (eQ H n (.eD (List.replicate c.toNat ei.zero).flatten)) w':=by
 have hF:=hE _ _ he
 obtain⟨cs,Ms,wU⟩:=ct hE ht he (kl:=kl) (kc:=kc) h0 h1 hb w g
 obtain⟨k1,k2⟩:=fC.ye hW hn (List.replicate c.toNat ei.zero).flatten cs #[] e wU
 rw[Array.append_empty]at k1 k2
 refine⟨_,_,_,Ms,.Fk k1 (Nat.le_refl _) ?_,k2⟩
 have hs:∀ (i:Nat) (x:List AV),(List.replicate c.toNat ei.zero)[i]?=some x→x.length=ei.size:=fun i x hx=>by
  rw[List.getElem?_replicate]at hx
  split at hx
  ·cases hx;exact hF.zl
  ·cases hx
 have:=wU.1
 rw[length_flatten _ hs,List.length_replicate]at this
 rw[Nat.zero_add]
 simp at this;omega
theorem VW {E:Env}(hE:E.Ok){g:Gh}{H:Nat→dD}{w:World}(hW:eR g H w){n:Nat}(hn:H n=.bX){ats:Array TypeId}{sT xT e:TypeId}{s1 b1:Nat}{z1:List AV}{xi ei:TI}{kx kl:IntKind}{c:Int}
  (h0:ats[0]?=some sT) (h1:ats[1]?=some xT) (Gv:E.ty sT=some ⟨.slice e,s1,b1,z1⟩) (Gw:E.ty xT=some xi) (hxi:xi.d=.int kx) (he:E.ty e=some ei) (Ql:¬ (ei.bytes=0∨2 ^ 20 < ei.bytes))
  (Z6:0≤c) (hc1:c≤9223372036854775807) (jM:c * ei.bytes≤70368744177664) (ty:TypeId) :
  ∃ v w' g',(Builtin.append_ ats ty #[.slice none 0 0,.int kl c]).run E.P w=.ok v w'∧aF g' (.Fk n 0 c.toNat ei.size) v∧fC g H w g' (eQ H n (.eD (List.replicate c.toNat ei.zero).flatten)) w':=by
 have hT:=hE _ _ Gv
 have hX:=hE _ _ Gw
 have hF:=hE _ _ he
 have OJ:ei.bytes≠0:=fun e=>Ql (.inl e)
 have OK:ei.bytes≤2 ^ 20:=by omega
 obtain⟨m,rfl⟩:∃ m:Nat,c=m:=⟨c.toNat,by omega⟩
 rw[Int.toNat_natCast]
 have hm1:m≤9223372036854775807:=by omega
 have hb2:m * ei.bytes≤2 ^ 46:=by
  have:((m * ei.bytes:Nat):Int)≤70368744177664:=by rw[Int.natCast_mul];exact jM
  omega
 obtain⟨info,Bv,RN,Qn,z,hz,OP⟩:=hF.info
 have Ty:z.cells.size=ei.size:=by have:=(OP g).1;rw[hF.zl]at this;simpa using this.symm
 have aEj:IntKind.i64.wrap (m:Int)=(m:Int):=by simp only[IntKind.wrap,IntKind.bits,IntKind.signed];simp;omega
 have ud:¬ ((m:Int) < 0):=by omega
 have OI:¬ ((m:Int) * (ei.bytes:Int) > 2 ^ 48):=by
  have:((m:Int) * (ei.bytes:Int))≤70368744177664:=jM
  omega
 have jq:∀ w:World,(if m * ei.size=0 then (pure #[]:Sem (Array Value)) else do pure (Builtin.zeroCells (← zeroValue e).cells m)).run E.P w=.ok (Builtin.zeroCells z.cells m) w:=by
  intro w
  split
  ·rename_i h
   have:Builtin.zeroCells z.cells m=#[]:=Array.eq_empty_of_size_eq_zero (by rw[size_zeroCells,Ty];exact h)
   rw[this];rfl
  ·simp only[Sem.run_bind,zeroValue,typeInfo,run_program,Bv,Result.andThen_ok,hz,Sem.run_pure,pure_bind]
 by_cases hm:m=0
 ·subst hm
  refine⟨.slice none 0 0,w,g,?_,.Ml,?_⟩
  ·simp only[Builtin.append_,h0,h1,List.getElem?_toArray,List.getElem?_cons_zero,List.getElem?_cons_succ,Sem.run_bind,hT.underlying,Result.andThen_ok,hF.sizeOf,hX.underlying,Sem.run_pure]
   simp only[hxi,if_true,asInt,asIntOf,Sem.run_bind,Result.andThen_ok,Sem.run_pure,pure_bind,aEj,ud,if_false,typeInfo,run_program,Bv,Qn,OI,Bool.not_true,Bool.false_eq_true,
    Int.toNat_natCast,Nat.zero_mul,Nat.add_zero,Nat.le_refl,pure_bind]
  ·refine fC.H8 hW _ fun j=>?_
   by_cases hj:j=n
   ·subst hj;right;right;exact⟨by rw[aP];simp,hW.fresh _ hn⟩
   ·left;rw[aM _ _ hj]
 ·have hold:∀ w:World,(Builtin.firstCells ei.size 0 (.slice none 0 0)).run E.P w=.ok #[] w:=fun w=>by simp[Builtin.firstCells]
  have aAv:=nextslicecap_le (0+m) 0 (by omega)
  have hmul:Builtin.nextslicecap (0+m) 0 * ei.bytes≤(2 * (0+m)+1024) * ei.bytes:=Nat.mul_le_mul_right _ aAv
  have aI1:(2 * (0+m)+1024) * ei.bytes=2 * (m * ei.bytes)+1024 * ei.bytes:=by rw[Nat.zero_add,Nat.add_mul,Nat.mul_assoc]
  have NQ:¬ Builtin.nextslicecap (0+m) 0 * ei.bytes > 2 ^ 48:=by
   generalize Builtin.nextslicecap (0+m) 0 * ei.bytes=q at *
   generalize m * ei.bytes=q2 at *
   omega
  have rC:¬ 0+m≤0:=by omega
  have aCE:¬ (((0+m:Nat):Int) > IntKind.i64.max):=by simp only[IntKind.max,IntKind.bits,IntKind.signed];simp;omega
  simp only[Builtin.append_,h0,h1,List.getElem?_toArray,List.getElem?_cons_zero,List.getElem?_cons_succ,Sem.run_bind,hT.underlying,Result.andThen_ok,hF.sizeOf,hX.underlying,Sem.run_pure]
  simp only[hxi,if_true,asInt,asIntOf,Sem.run_bind,Result.andThen_ok,Sem.run_pure,pure_bind,aEj,ud,if_false,typeInfo,run_program,Bv,Qn,OI,Bool.not_true,Bool.false_eq_true,
    Int.toNat_natCast,pure_bind,rC,NQ,aCE,false_and,run_choose,Question.forced,Question.cut,run_askRoom,hold,jq,zeroValue,hz,newRow,run_newObj]
  simp only[zeroValue,typeInfo]at jq
  simp only[jq,Result.andThen_ok]
  have wU:cW g (List.replicate m ei.zero).flatten (#[]++Builtin.zeroCells z.cells m).toList:=by
   have e1:Builtin.zeroCells z.cells m=madeCells z.cells (m * z.cells.size):=rfl
   rw[Array.empty_append,e1,Ty,IH Ty]
   exact Uw (OP g) _
  obtain⟨gO,iP⟩:=fC.ye (hW.drew (w.drawn+1)) hn (List.replicate m ei.zero).flatten (#[]++Builtin.zeroCells z.cells m) (Builtin.zeroCells z.cells (0+m+w.tape w.drawn (Question.appendCap (0+m) 0 e) % (2 ^ 63 - (0+m)) - (0+m))) e wU
  refine⟨_,_,_,rfl,?_,(fC.drew hW (w.drawn+1)).trans iP⟩
  rw[show 0+m=m from Nat.zero_add m]at gO ⊢
  refine .Fk gO (Nat.le_add_right _ _) ?_
  rw[Array.size_append,Array.size_append,size_zeroCells,size_zeroCells,Ty,Array.size_empty,Nat.zero_add,Nat.zero_add,← Nat.add_mul]
  exact Nat.mul_le_mul_right _ (by omega)
theorem ZB {E:Env}(hE:E.Ok){g:Gh}{t e:TypeId}{s1 b1 id n:Nat}{z1:List AV}{ei:TI}(ht:E.ty t=some ⟨.slice e,s1,b1,z1⟩)(he:E.ty e=some ei){vx vh:Value}{k:IntKind}{h:Int}(hx:aF g (.Fk id 0 n ei.size) vx)
  (hh:aF g (.v (.int k h)) vh) (h0:0≤h) (h1:h≤n) (w:World):∃ v,(Instr.sliceAt t vx none (some vh) none).run E.P w=.ok v w∧aF g (.Fk id 0 h.toNat ei.size) v:=by
 have hT:=hE _ _ ht
 have hF:=hE _ _ he
 cases hx with
 |Fk e1 e2 e3 =>
  rename_i b lo m cap
  have hb:=Ge (P:=E.P) (g:=g) (lo:=none) (hi:=some (.v (.int k h))) (l:=0) (h:=h) n cap true rfl rfl (by simp) (fun _=>rfl) (fun a ha=>by cases ha;exact⟨_,rfl,hh⟩) (by simp) rfl (Int.le_refl _) h0 h1 e2 w
  refine⟨.slice (some ⟨b,0,none⟩) h.toNat cap,?_,.Fk e1 (by omega) e3⟩
  simp only[Instr.sliceAt,Sem.run_bind,hT.underlying,Result.andThen_ok,Instr.slice,hb,hF.sizeOf,Sem.run_pure,Option.map_some,mR]
  simp
 |Ml =>
  rename_i a
  have hb:=Ge (P:=E.P) (g:=g) (lo:=none) (hi:=some (.v (.int k h))) (l:=0) (h:=h) 0 0 true rfl rfl (by simp) (fun _=>rfl) (fun a ha=>by cases ha;exact⟨_,rfl,hh⟩) (by simp) rfl (Int.le_refl _) h0 h1 (Nat.le_refl _) w
  have e0:h=0:=by simp at h1;omega
  subst e0
  refine⟨.slice a 0 0,?_,.Ml⟩
  simp only[Instr.sliceAt,Sem.run_bind,hT.underlying,Result.andThen_ok,Instr.slice,hb,hF.sizeOf,Sem.run_pure]
  cases a<;>simp
theorem aFJ {E:Env}(hE:E.Ok){t:TypeId}{e:TypeId}{s1 b1:Nat}{z1:List AV}(ht:E.ty t=some ⟨.slice e,s1,b1,z1⟩)(ty:TypeId)(w:World):(Builtin.cap_ #[t] ty #[.slice none 0 0]).run E.P w=.ok (.int .i64 0) w:=by
 have hT:=hE _ _ ht
 simp[Builtin.cap_,hT.underlying,goInt]
end Go.Ev
