/-
Operators on plain values,and '==' on structs and arrays of plain cells.
-/
import Derived.Test.YtddpmkmgbdedlaaGreatqEvD
import Derived.Laws.StructEq
set_option linter.unusedVariables false
set_option linter.unusedSimpArgs false
namespace Go.Ev
open Go
def shl (k:IntKind)(a b:Int):Int:=k.wrap (a * 2 ^ (min b.toNat k.bits))
def shr (k:IntKind)(a b:Int):Int:=a.fdiv (2 ^ (min b.toNat k.bits))
def ltS (a b:List UInt8):Bool:=Op.bytesLess a b
def W7 (op:BinOp)(x y:Value):Option (Value×Prop) :=
 match x,y with
 |.int k a,.int k' b =>
  match op with
  |.shl=>some (.int k (shl k a b),0≤b)
  |.shr=>some (.int k (shr k a b),0≤b)
  |.add=>if k=k' then some (.int k (k.wrap (a+b)),True) else none
  |.sub=>if k=k' then some (.int k (k.wrap (a - b)),True) else none
  |.mul=>if k=k' then some (.int k (k.wrap (a * b)),True) else none
  |.quo=>if k=k' then some (.int k (k.wrap (a.tdiv b)),b≠0) else none
  |.rem=>if k=k' then some (.int k (a.tmod b),b≠0) else none
  |.and=>if k=k' then some (.int k (bits .and k a b),True) else none
  |.or=>if k=k' then some (.int k (bits .or k a b),True) else none
  |.xor=>if k=k' then some (.int k (bits .xor k a b),True) else none
  |.andNot=>if k=k' then some (.int k (bits .andNot k a b),True) else none
  |.eql=>if k=k' then some (.bool (a==b),True) else none
  |.neq=>if k=k' then some (.bool (a != b),True) else none
  |.lss=>if k=k' then some (.bool (a < b),True) else none
  |.leq=>if k=k' then some (.bool (a≤b),True) else none
  |.gtr=>if k=k' then some (.bool (a > b),True) else none
  |.geq=>if k=k' then some (.bool (a ≥ b),True) else none
    
 |.string a,.string b =>
  match op with
  |.eql=>some (.bool (a.data.toList==b.data.toList),True)
  |.neq=>some (.bool (!(a.data.toList==b.data.toList)),True)
  |.lss=>some (.bool (ltS a.data.toList b.data.toList),True)
  |.leq=>some (.bool (ltS a.data.toList b.data.toList || a.data.toList==b.data.toList),True)
  |.gtr=>some (.bool (!(ltS a.data.toList b.data.toList || a.data.toList==b.data.toList)),True)
  |.geq=>some (.bool (!(ltS a.data.toList b.data.toList)),True)
  |_=>none
 |_,_=>none
theorem YH {P:Program}{op:BinOp}{x y v:Value}{ob:Prop}(h:W7 op x y=some (v,ob))(jM:ob)(t:TypeId)(ox oy:Operand)(w:World) :
  (do eqGuard op t ox oy x y;binOp op t x y:Sem Value).run P w=.ok v w:=by
 unfold W7 at h
 split at h
 ·rename_i k a k' b
  rw[eqGuard_at_int]
  cases op<;>simp only[]at h<;>first
   |(
    split at h
    ·rename_i hk;subst hk;cases h;simp[binOp,Op.intArith,Op.intCmp,Op.intDiv,Op.intBits,bits,jM];done
    ·cases h)
   |(
    cases h
    have hn:¬ b < 0:=by omega
    simp[binOp,Op.shift,hn,shl,shr];done)
 ·rename_i a b
  rw[eqGuard_at_string]
  cases op<;>simp only[]at h<;>first
   |(cases h;simp[binOp,Op.stringOp,ByteArray.toList_eq,ltS];done)
   |(cases h;done)
 ·cases h
def unV (op:UnOp)(x:Value):Option Value :=
 match op,x with
 |.neg,.int k n=>some (.int k (k.wrap (0 - n)))
 |.xor,.int k n=>some (.int k (bits .xor k (if k.signed then -1 else k.max) n))
 |.not,.bool b=>some (.bool !b)
 |_,_=>none
theorem TN {P:Program}{op:UnOp}{x v:Value}(h:unV op x=some v)(w:World):(Op.unary op x).run P w=.ok v w:=by
 unfold unV at h
 split at h
 ·cases h;simp[Op.unary,Op.intArith]
 ·cases h;simp[Op.unary,Op.intBits,bits]
 ·cases h;simp[Op.unary]
 ·cases h
def Xn (k:Kd)(x y:Value):Option Bool :=
 match k,x,y with
 |.i,.int k a,.int k' b=>if k=k' then some (a==b) else none
 |.b,.bool a,.bool b=>some (a==b)
 |.s,.string a,.string b=>some (a.data.toList==b.data.toList)
 |_,_,_=>none
def xX:List Kd→List Value→List Value→Option Bool
 |[],[],[]=>some true
 |k :: ks,x :: l,y :: l'=>match Xn k x y,xX ks l l' with|some b,some b'=>some (b&&b') | _,_=>none
 |_,_,_=>none
def eN:List Kd→List AV→List AV→Option Bool
 |[],[],[]=>some true
 |k :: ks,.v x :: l,.v y :: l'=>match Xn k x y,eN ks l l' with|some b,some b'=>some (b&&b') | _,_=>none
 |_,_,_=>none
theorem NZ {g:Gh}:∀ {ks:List Kd} {l l':List AV} {xs ys:List Value} {b:Bool},cW g l xs→cW g l' ys→eN ks l l'=some b→xX ks xs ys=some b
 |ks,l,l',xs,ys,b,h,h',e=>by
  unfold eN at e
  split at e
  ·have h1:xs=[]:=List.length_eq_zero_iff.1 (by simpa using h.1.symm)
   have h2:ys=[]:=List.length_eq_zero_iff.1 (by simpa using h'.1.symm)
   subst h1;subst h2;simpa[xX] using e
  ·rename_i k ks x l y l'
   cases xs with
   |nil=>have:=h.1;simp at this
   |cons c xs =>
    cases ys with
    |nil=>have:=h'.1;simp at this
    |cons d ys =>
     have hc:=h.2 0 _ c rfl rfl
     have hd:=h'.2 0 _ d rfl rfl
     have hl:cW g l xs:=⟨by simpa using h.1,fun k z e a b=>h.2 (k+1) z e (by simpa using a) (by simpa using b)⟩
     have oI:cW g l' ys:=⟨by simpa using h'.1,fun k z e a b=>h'.2 (k+1) z e (by simpa using a) (by simpa using b)⟩
     cases hc;cases hd
     split at e
     ·rename_i b1 b2 e1 e2
      cases e
      rw[xX,e1,NZ hl oI e2]
     ·cases e
  ·cases e
theorem zF:∀ {ks:List Kd} {xs ys:List Value} {b:Bool},xX ks xs ys=some b→xs.length=ks.length∧ys.length=ks.length
 |ks,xs,ys,b,h=>by
  unfold xX at h
  split at h
  ·exact⟨rfl,rfl⟩
  ·rename_i k ks x l y l'
   split at h
   ·rename_i e1 e2
    obtain⟨h1,h2⟩:=zF e2
    simp[h1,h2]
   ·cases h
  ·cases h
theorem Vz:∀ {k1 k2:List Kd} {a b a' b':List Value} {r:Bool},a.length=k1.length→a'.length=k1.length→xX (k1++k2) (a++b) (a'++b')=some r →
  ∃ r1 r2,xX k1 a a'=some r1∧xX k2 b b'=some r2∧r=(r1&&r2)
 |[],k2,a,b,a',b',r,h1,h2,h=>by
  have e1:a=[]:=List.length_eq_zero_iff.1 (by simpa using h1)
  have e2:a'=[]:=List.length_eq_zero_iff.1 (by simpa using h2)
  subst e1;subst e2
  exact⟨true,r,rfl,h,by simp⟩
 |k :: k1,k2,[],b,a',b',r,h1,h2,h=>by simp at h1
 |k :: k1,k2,x :: a,b,[],b',r,h1,h2,h=>by simp at h2
 |k :: k1,k2,x :: a,b,y :: a',b',r,h1,h2,h=>by
  simp only[List.cons_append,xX]at h
  split at h
  ·rename_i b1 b2 e1 e2
   cases h
   obtain⟨r1,r2,g1,g2,g3⟩:=Vz (by simpa using h1) (by simpa using h2) e2
   exact⟨b1&&r1,r2,by rw[xX,e1,g1],g2,by rw[g3,Bool.and_assoc]⟩
  ·cases h
def EZ (E:Env)(F:TypeId→Option (List Kd)):Nat→List Field→Option (List Kd)
 |_,[]=>some []
 |off,f :: fs=>match E.ty f.type,F f.type with
  | some i, some ks => if f.offset = off ∧ f.name ≠ "_" ∧ ks.length = i.size ∧ i.size ≠ 0 then (EZ E F (off + i.size) fs).map (ks ++ ·) else none
  |_,_=>none
def Rp (E:Env):Nat→TypeId→Option (List Kd)
 |0,_=>none
 |k+1,t =>
  match E.ty t with
  |some ⟨.int _,s,_,_⟩=>if s=1 then some [.i] else none
  |some ⟨.bool,s,_,_⟩=>if s=1 then some [.b] else none
  |some ⟨.string,s,_,_⟩=>if s=1 then some [.s] else none
  |some ⟨.struct fs,s,_,_⟩=>if E.P.stoodInHeld t=false then EZ E (Rp E k) 0 fs.toList else none
  |some ⟨.array n e,s,_,_⟩=>match E.ty e,Rp E k e with
   |some ei,some ks=>if s=n * ei.size∧ks.length=ei.size∧ei.size≠0 then some (List.replicate n ks).flatten else none
   |_,_=>none
  |_=>none
def TI.val (i:TI)(xs:List Value):Value:=if i.agg then .agg xs.toArray else xs.headD undef
theorem Qb {E:Env}(hE:E.Ok){t:TypeId}{i:TI}(hi:E.ty t=some i)(xs:Array Value)(off:Nat)(hlen:off+i.size≤xs.size)(h1:i.agg=false→i.size=1)(w:World) :
  (part t xs off).run E.P w=.ok (i.val ((xs.toList.drop off).take i.size)) w:=by
 have hT:=hE t _ hi
 cases Di:i.agg with
 |true =>
  simp only[part,Sem.run_bind,hT.isAgg,Result.andThen_ok,Di,if_true,hT.sizeOf,Sem.run_pure,TI.val]
  congr 2
  apply Array.ext'
  simp[List.take_drop]
 |false =>
  have hs:=h1 Di
  have nH:off < xs.size:=by omega
  simp only[part,Sem.run_bind,hT.isAgg,Result.andThen_ok,Di,Bool.false_eq_true,if_false,Array.getElem?_eq_getElem nH,Sem.run_pure,TI.val,hs]
  congr 1
  rw[List.drop_eq_getElem_cons (by simpa using nH)]
  simp
theorem F8 {E:Env}{k:Nat}{t:TypeId}{i:TI}{ks:List Kd}(h:Rp E k t=some ks)(hi:E.ty t=some i):i.agg=false→i.size=1:=by
 cases k with
 |zero=>simp[Rp]at h
 |succ k =>
  intro ha
  unfold Rp at h
  rw[hi]at h
  obtain⟨d,s,by_,z⟩:=i
  cases d<;>simp[TI.agg]at h ha ⊢<;>omega
theorem PX {E:Env}(hE:E.Ok)(d:Nat)(F:TypeId→Option (List Kd))(hF1:∀ t i ks,F t=some ks→E.ty t=some i→i.agg=false→i.size=1)
  (ih:∀ t i ks,F t=some ks→E.ty t=some i→∀ (xs ys:List Value) (b:Bool),xX ks xs ys=some b→∀ w,(Op.equalIn d t (i.val xs) (i.val ys)).run E.P w=.ok b w) :
  ∀ (fs:List Field) (off:Nat) (ks:List Kd) (xs ys:Array Value) (b:Bool) (w:World),EZ E F off fs=some ks →
   xX ks (xs.toList.drop off) (ys.toList.drop off)=some b→(Op.eqFields d xs ys fs).run E.P w=.ok b w
 |[],off,ks,xs,ys,b,w,hl,he=>by
  simp only[EZ,Option.some.injEq]at hl
  subst hl
  obtain⟨h1,h2⟩:=zF he
  have e1:=List.length_eq_zero_iff.1 h1
  have e2:=List.length_eq_zero_iff.1 h2
  rw[e1,e2]at he
  simp[xX]at he
  simp[Op.eqFields,he]
 |f :: fs,off,ks,xs,ys,b,w,hl,he=>by
  simp only[EZ]at hl
  split at hl
  ·rename_i i k1 hi XI
   split at hl
   ·rename_i hc
    obtain⟨DS,FL,hk1l,dF⟩:=hc
    rw[Option.map_eq_some_iff]at hl
    obtain⟨k2,KO,rfl⟩:=hl
    obtain⟨hx,hy⟩:=zF he
    simp at hx hy
    have LW:∀ zs:Array Value,zs.toList.drop off=(zs.toList.drop off).take i.size++zs.toList.drop (off+i.size):=fun zs=>by
     rw[← List.drop_drop,List.take_append_drop]
    rw[LW xs,LW ys]at he
    obtain⟨r1,r2,h1,h2,h3⟩:=Vz (by simp;omega) (by simp;omega) he
    have Di:=hF1 f.type i k1 XI hi
    have e:=ih f.type i k1 XI hi _ _ r1 h1 w
    simp only[Op.eqFields,if_pos FL,Sem.run_bind,DS,Qb hE hi xs off (by omega) Di,Qb hE hi ys off (by omega) Di,Result.andThen_ok,e]
    cases r1 with
    |false=>simp[h3]
    |true =>
     simp only[Bool.not_true,Bool.false_eq_true,if_false]
     rw[PX hE d F hF1 ih fs (off+i.size) k2 xs ys r2 w KO h2,h3,Bool.true_and]
   ·cases hl
  ·cases hl
theorem VK {E:Env}(hE:E.Ok)(d:Nat)(t:TypeId)(i:TI)(hi:E.ty t=some i)(Di:i.agg=false→i.size=1)(ks:List Kd)(hks:ks.length=i.size)(dF:i.size≠0)(xs ys:Array Value)
  (ih:∀ (xs ys:List Value) (b:Bool),xX ks xs ys=some b→∀ w,(Op.equalIn d t (i.val xs) (i.val ys)).run E.P w=.ok b w) :
  ∀ (m j:Nat) (b:Bool) (w:World),xX (List.replicate m ks).flatten (xs.toList.drop (j * i.size)) (ys.toList.drop (j * i.size))=some b →
   (forIn (m:=Sem) (List.range' j m) ((none,()):Option Bool×Unit) fun a r=>do
    let p ← part t xs (a * i.size)
    let q ← part t ys (a * i.size)
    let r ← Op.equalIn d t p q
    if (!r)=true then pure (ForInStep.done (some false,())) else pure (ForInStep.yield (none,()))).run E.P w=.ok (if b then (none,()) else (some false,())) w
 |0,j,b,w,he=>by
  obtain⟨h1,h2⟩:=zF he
  have e1:=List.length_eq_zero_iff.1 (h1.trans (by simp))
  have e2:=List.length_eq_zero_iff.1 (h2.trans (by simp))
  rw[e1,e2]at he
  simp[xX]at he
  subst he
  simp
 |m+1,j,b,w,he=>by
  have hmul:j * i.size+i.size=(j+1) * i.size:=(Nat.succ_mul _ _).symm
  obtain⟨hx,hy⟩:=zF he
  simp[List.replicate_succ,hks]at hx hy
  have LW:∀ zs:Array Value,zs.toList.drop (j * i.size)=(zs.toList.drop (j * i.size)).take i.size++zs.toList.drop ((j+1) * i.size):=fun zs=>by
   rw[← hmul,← List.drop_drop,List.take_append_drop]
  rw[LW xs,LW ys,List.replicate_succ,List.flatten_cons]at he
  obtain⟨r1,r2,h1,h2,h3⟩:=Vz (by simp;omega) (by simp;omega) he
  have e:=ih _ _ r1 h1 w
  have more:=VK hE d t i hi Di ks hks dF xs ys ih m (j+1) r2 w h2
  simp only[List.range'_succ,List.forIn_cons,Sem.run_bind,Qb hE hi xs (j * i.size) (by omega) Di,Qb hE hi ys (j * i.size) (by omega) Di,Result.andThen_ok,e]
  cases r1 with
  |false=>simp[h3]
  |true =>
   simp only[Bool.not_true,Bool.false_eq_true,if_false,Sem.run_pure,Result.andThen_ok]
   rw[h3,Bool.true_and]
   exact more
theorem FA {E:Env}(hE:E.Ok):∀ (k:Nat) (t:TypeId) (i:TI) (ks:List Kd),Rp E k t=some ks→E.ty t=some i→∀ d,k≤d→∀ (xs ys:List Value) (b:Bool),
  xX ks xs ys=some b→∀ w,(Op.equalIn d t (i.val xs) (i.val ys)).run E.P w=.ok b w
 |0,t,i,ks,h,hi,_,_,_,_,_,_,_=>by simp[Rp]at h
 |k+1,t,i,ks,h,hi,0,hd,_,_,_,_,_=>by omega
 |k+1,t,i,ks,h,hi,d+1,hd,xs,ys,b,he,w=>by
  have hT:=hE t _ hi
  have one:∀ k',ks=[k']→∃ x y,xs=[x]∧ys=[y]∧Xn k' x y=some b:=fun k' h1=>by
   subst h1
   obtain⟨hx,hy⟩:=zF he
   obtain⟨x,rfl⟩:=List.length_eq_one_iff.1 hx
   obtain⟨y,rfl⟩:=List.length_eq_one_iff.1 hy
   refine⟨x,y,rfl,rfl,?_⟩
   simp only[xX]at he
   split at he
   ·rename_i b1 b2 e1 e2
    cases e2;simp at he;rw[e1,he]
   ·cases he
  unfold Rp at h
  split at h
  ·rename_i q s _ _ hq
   rw[hi]at hq;cases hq
   split at h
   ·cases h
    obtain⟨x,y,rfl,rfl,hs⟩:=one _ rfl
    cases x<;>cases y<;>simp[Xn]at hs
    simp[TI.val,TI.agg,Op.equalIn,hT.underlying,hs]
   ·cases h
  ·rename_i s _ _ hq
   rw[hi]at hq;cases hq
   split at h
   ·cases h
    obtain⟨x,y,rfl,rfl,hs⟩:=one _ rfl
    cases x<;>cases y<;>simp[Xn]at hs
    simp[TI.val,TI.agg,Op.equalIn,hT.underlying,hs]
   ·cases h
  ·rename_i s _ _ hq
   rw[hi]at hq;cases hq
   split at h
   ·cases h
    obtain⟨x,y,rfl,rfl,hs⟩:=one _ rfl
    cases x<;>cases y<;>simp[Xn]at hs
    simp[TI.val,TI.agg,Op.equalIn,hT.underlying,← hs,beq_toListBytes,ByteArray.toList_eq]
   ·cases h
  ·rename_i fs s _ _ hq
   rw[hi]at hq;cases hq
   split at h
   ·rename_i sQ
    have hf:E.P.fieldsOf t=fs:=by simp[Program.fieldsOf,hT.d]
    have hu:E.P.underlying t=some (.struct (E.P.fieldsOf t)):=by rw[hf];exact hT.d
    simp only[TI.val,TI.agg,if_true]
    rw[run_equalIn_struct w d t _ _ hu sQ,hf]
    exact PX hE d (Rp E k) (fun t i ks a c=>F8 a c) (fun t i ks a c xs ys r e' w=>FA hE k t i ks a c d (by omega) xs ys r e' w) fs.toList 0 ks _ _ b w h (by simpa using he)
   ·cases h
  ·rename_i n e s _ _ hq
   rw[hi]at hq;cases hq
   split at h
   ·rename_i ei ug ZK hke
    split at h
    ·rename_i hc
     obtain⟨hs,hkl,dF⟩:=hc
     cases h
     have hF:=hE e _ ZK
     have Di:=F8 hke ZK
     have key:=VK hE d e ei ZK Di ug hkl dF xs.toArray ys.toArray (fun xs ys b e' w=>FA hE k e ei ug hke ZK d (by omega) xs ys b e' w) n 0 b w (by simpa using he)
     simp only[TI.val,TI.agg,if_true,Op.equalIn,Sem.run_bind,hT.underlying,Result.andThen_ok,hF.sizeOf]
     simp only[Std.Legacy.Range.forIn_eq_forIn_range',Std.Legacy.Range.size,Nat.sub_zero,Nat.add_sub_cancel,Nat.div_one]at key ⊢
     rw[key]
     cases b<;>rfl
    ·cases h
   ·cases h
  ·cases h
end Go.Ev
