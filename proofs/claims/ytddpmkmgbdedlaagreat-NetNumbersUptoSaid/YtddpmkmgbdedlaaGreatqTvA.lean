/-
The typed layer: abstract values whose CO and arrays hold typed data,and what abstract value each of them stands for.
-/
import Derived.Test.YtddpmkmgbdedlaaGreatqEvY
set_option linter.unusedVariables false
set_option linter.unusedSimpArgs false
namespace Go.Ev
open Go
inductive On where
 |ptr|slice|func|iface
def On.val:On→Value
 |.ptr=>.pointer none
 |.slice=>.slice none 0 0
 |.func=>.nilFunc
 |.iface=>.nilIface
inductive Step where
 |sS (k d:Nat)
 |idx (i n s:Nat)
 |el (i s:Nat)
def Step.off:Step→Nat
 |.sS _ d=>d
 |.idx i _ s=>i * s
 |.el i s=>i * s
def Step.V4:Step→Bool
 |.sS _ _=>true
 |.idx i n _=>decide (i < n)
 |.el _ _=>true
def oF:List Step→Nat
 |[]=>0
 |s :: p=>s.off+oF p
def Ej:List Step→Bool
 |[]=>true
 |s :: p=>s.V4&&Ej p
inductive SK where
 |any|non|nn|full
 |own (id:Nat)
 |tl (id:Nat)
 |q8 (id:Nat)
inductive TV (τ:Nat→Type) where
 |int (k:IntKind) (n:Int)
 |bool (b:Bool)
 |str (l:List UInt8)
 |nil (k:On)
 |agg (l:List (TV τ))
 |arr (t n:Nat) (v:Vector (τ t) n)
 |sl (t:Nat) (l:List (τ t)) (k:SK)
 |ptr (id:Nat) (p:List Step)
 |LY (x:TV τ)
 |ls (s:Nat) (l:List (TV τ))
 |mS (t id n:Nat)
 |nG (t id o n c:Nat) (nn:Bool)
 |Bw (t j o n c:Nat) (nn:Bool)
 |qO (t j:Nat) (p:List Step)
 |kQ
 |Ar (id:Nat)
 |fn (f:FuncId) (Ht:List (TV τ))
 |jE (l:List (TV τ))
 |yK (d:Nat) (w b:Bool) (x:TV τ)
 |aZ
structure eY (τ:Nat→Type) where
 cel:(t:Nat)→τ t→List AV
 enc:(t:Nat)→τ t→TV τ
 dec:(t:Nat)→TV τ→Option (τ t)
 df:(t:Nat)→τ t
 sz:Nat→Nat
 kd:Nat→Option (List Kd)
 beq:(t:Nat)→τ t→τ t→Bool
 TS:(t:Nat)→List (τ t)→Option (List UInt8)
 VL:(t:Nat)→List UInt8→Option (List (τ t))
 site:Nat→Nat→Array Tmp×Code×Code:=fun _ _=>(#[],.skip,.skip)
def iK {α:Type}{n:Nat}(v:Vector α n)(i:Nat)(d:α):α:=v.toList.getD i d
def NO {α:Type}{n:Nat}(v:Vector α n)(i:Nat)(x:α):Vector α n:=v.setIfInBounds i x
def aE {α:Type}(l:List α)(i:Int)(d:α):α:=l.getD i.toNat d
def AV.bot:AV:=.sl 1 [[]] .no
theorem XO {g:Gh}{v:Value}:¬ aF g .bot v:=fun h=>by
 cases h with
 |sl c e1 e2 e3 e4 e5 e6=>have:=e3 0 [] rfl;simp at this
section
variable {τ:Nat→Type}
def Gf (C:eY τ)(t:Nat)(l:List (τ t)):SK→AV
 |.any=>.xA (C.sz t) (l.map (C.cel t))
 |.non=>.sl (C.sz t) (l.map (C.cel t)) .no
 |.nn=>.VA (C.sz t) (l.map (C.cel t))
 |.full=>.sl (C.sz t) (l.map (C.cel t)) .full
 |.own id=>.q9 (C.sz t) (l.map (C.cel t)) id
 |.tl id=>.sl (C.sz t) (l.map (C.cel t)) (.tail id)
 |.q8 id=>.q9 (C.sz t) (l.map (C.cel t)) id
def yT (id:Nat)(p:List Step):AV:=bif Ej p then .ptr id (oF p) else .bot
def Ko (j:Nat)(p:List Step):AV:=bif Ej p then .qO j (oF p) else .bot
mutual
def TV.cells (C:eY τ):TV τ→List AV
 |.int k n=>[.v (.int k n)]
 |.bool b=>[.v (.bool b)]
 |.str l=>[.v (.string ⟨⟨l⟩⟩)]
 |.nil k=>[.v k.val]
 |.agg l=>TV.gL C l
 |.arr t _ v=>v.toList.flatMap (C.cel t)
 |.sl t l k=>[Gf C t l k]
 |.ptr id p=>[yT id p]
 |.LY x=>[.rL (TV.cells C x) 0]
 |.ls s l=>[.sl s (TV.pW C l) .full]
 |.mS t id n=>[.Fk id 0 n (C.sz t)]
 |.nG t id o n c nn=>[.nG id (o * C.sz t) n c nn (C.sz t)]
 |.Bw t j o n c nn=>[.Bw j (o * C.sz t) n c nn (C.sz t)]
 |.qO _ j p=>[Ko j p]
 |.kQ=>[.kQ]
 |.Ar id=>[.Ar id]
 |.fn f Ht=>[.fn f (TV.kU C Ht)]
 |.jE _=>[.aZ]
 |.yK _ _ _ _=>[.aZ]
 |.aZ=>[.aZ]
def TV.gL (C:eY τ):List (TV τ)→List AV
 |[]=>[]
 |x :: r=>TV.cells C x++TV.gL C r
def TV.pW (C:eY τ):List (TV τ)→List (List AV)
 |[]=>[]
 |x :: r=>TV.cells C x :: TV.pW C r
def TV.den (C:eY τ):TV τ→AV
 |.int k n=>.v (.int k n)
 |.bool b=>.v (.bool b)
 |.str l=>.v (.string ⟨⟨l⟩⟩)
 |.nil k=>.v k.val
 |.agg l=>.agg (TV.gL C l)
 |.arr t _ v=>.agg (v.toList.flatMap (C.cel t))
 |.sl t l k=>Gf C t l k
 |.ptr id p=>yT id p
 |.LY x=>.rL (TV.cells C x) 0
 |.ls s l=>.sl s (TV.pW C l) .full
 |.mS t id n=>.Fk id 0 n (C.sz t)
 |.nG t id o n c nn=>.nG id (o * C.sz t) n c nn (C.sz t)
 |.Bw t j o n c nn=>.Bw j (o * C.sz t) n c nn (C.sz t)
 |.qO _ j p=>Ko j p
 |.kQ=>.kQ
 |.Ar id=>.Ar id
 |.fn f Ht=>.fn f (TV.kU C Ht)
 |.jE l=>.jE (TV.kU C l)
 |.yK _ _ _ _=>.aZ
 |.aZ=>.aZ
def TV.kU (C:eY τ):List (TV τ)→List AV
 |[]=>[]
 |x :: r=>TV.den C x :: TV.kU C r
end
def TV.isAgg:TV τ→Bool
 |.agg _ | .arr _ _ _=>true
 |_=>false
mutual
/-- It may lie in cells. -/
def TV.ok:TV τ→Bool
 |.jE _ | .yK _ _ _ _ | .aZ=>false
 |.agg l=>TV.okL l
 |_=>true
def TV.okL:List (TV τ)→Bool
 |[]=>true
 |x :: r=>TV.ok x&&TV.okL r
end
mutual
def TV.size (C:eY τ):TV τ→Nat
 |.agg l=>TV.rF C l
 |.arr t n _=>n * C.sz t
 |_=>1
def TV.rF (C:eY τ):List (TV τ)→Nat
 |[]=>0
 |x :: r=>TV.size C x+TV.rF C r
end
inductive bD (τ:Nat→Type) where
 |bX|dead
 |box (x:TV τ)
 |Aa (x:TV τ)
 |eD (t:Nat) (l:List (τ t))
 |tail
 |yU (f k:Nat) (ts:List (TV τ))
 |Qa (e:Nat)
 |aX (t:Nat) (ms:List (Option (List (τ t))))
def iJ (C:eY τ)(t:Nat)(ms:List (Option (List (τ t)))):List (Option (List AV)):=ms.map fun m=>m.map fun l=>l.flatMap (C.cel t)
def Mq:Nat→Code
 |0=>.ret
 |n+1=>.exit n
def bD.den (C:eY τ):bD τ→dD
 |.bX=>.bX
 |.dead=>.dead
 |.box x=>.box (x.cells C)
 |.Aa x=>.Aa (x.cells C)
 |.eD t l=>.eD (l.flatMap (C.cel t))
 |.tail=>.tail
 |.yU f k ts=>.yU (C.site f k).1 (C.site f k).2.1 (C.site f k).2.2 (TV.kU C ts)
 |.Qa e=>.Qa (Mq e)
 |.aX t ms=>.aX (iJ C t ms)
def W (x y:AV):Prop:=∀ g v,aF g x v→aF g y v
def CW (l l':List AV):Prop:=l.length=l'.length∧∀ (k:Nat) (x y:AV),l[k]?=some x→l'[k]?=some y→W x y
theorem W.refl (x:AV):W x x:=fun _ _ h=>h
theorem W.trans {x y z:AV}(h:W x y)(h':W y z):W x z:=fun g v hv=>h' g v (h g v hv)
theorem CW.refl (l:List AV):CW l l:=⟨rfl,fun k x y a b=>by rw[a]at b;cases b;exact .refl x⟩
theorem CW.WD {l l':List AV}(h:CW l l'){g:Gh}{cs:List Value}(hl:cW g l cs):cW g l' cs:=by
 refine⟨h.1.symm.trans hl.1,fun k y c hy hc=>?_⟩
 have hk:k < l.length:=by
  rw[h.1]
  rcases Nat.lt_or_ge k l'.length with h' | h'
  ·exact h'
  ·rw[List.getElem?_eq_none h']at hy;cases hy
 exact h.2 k l[k] y (List.getElem?_eq_getElem hk) hy g c (hl.2 k _ c (List.getElem?_eq_getElem hk) hc)
theorem CW.append {a a' b b':List AV}(h:CW a a')(h':CW b b'):CW (a++b) (a'++b'):=by
 refine⟨by simp[h.1,h'.1],fun k x y hx hy=>?_⟩
 rw[List.getElem?_append]at hx hy
 rw[← h.1]at hy
 split at hx
 ·rename_i hk;rw[if_pos hk]at hy;exact h.2 k x y hx hy
 ·rename_i hk;rw[if_neg hk]at hy;exact h'.2 _ x y hx hy
theorem CW.cons {x y:AV}{l l':List AV}(h:W x y)(h':CW l l'):CW (x :: l) (y :: l') :=
 CW.append (a:=[x]) (a':=[y]) ⟨rfl,fun k a b ha hb=>by
  cases k with
  |zero=>simp at ha hb;subst ha;subst hb;exact h
  |succ k=>simp at ha⟩ h'
theorem CW.trans {a b c:List AV}(h:CW a b)(h':CW b c):CW a c:=by
 refine⟨h.1.trans h'.1,fun k x z hx hz=>?_⟩
 have hk:k < b.length:=by
  rw[← h.1]
  rcases Nat.lt_or_ge k a.length with h' | h'
  ·exact h'
  ·rw[List.getElem?_eq_none h']at hx;cases hx
 exact (h.2 k x b[k] hx (List.getElem?_eq_getElem hk)).trans (h'.2 k b[k] z (List.getElem?_eq_getElem hk) hz)
structure eY.Ok (C:eY τ):Prop where
 cel:∀ t x,(C.enc t x).cells C=C.cel t x
 len:∀ t x,(C.cel t x).length=C.sz t
 dec:∀ t x a,C.dec t x=some a→CW (x.cells C) (C.cel t a)
 ok:∀ t x,(C.enc t x).ok=true
 cD:∀ t x a,C.dec t x=some a→x.ok=true
 agg:∀ t x a,C.dec t x=some a→x.isAgg=(C.enc t a).isAgg
 one:∀ t a,(C.cel t a).all AV.one=true
 dB:∀ t a,rA (C.cel t a)
 kd:∀ t ks,C.kd t=some ks→∀ a b,eN ks (C.cel t a) (C.cel t b)=some (C.beq t a b)
 TS:∀ t l s,C.TS t l=some s→C.sz t=1∧Ff (l.map (C.cel t))=some s
 VL:∀ t s l,C.VL t s=some l→C.sz t=1∧l.map (C.cel t)=s.map Rb
structure eH (C:eY τ) (t:Nat):Prop where
 cel:∀ x,(C.enc t x).cells C=C.cel t x
 len:∀ x,(C.cel t x).length=C.sz t
 dec:∀ x a,C.dec t x=some a→CW (x.cells C) (C.cel t a)
 ok:∀ x,(C.enc t x).ok=true
 cD:∀ x a,C.dec t x=some a→x.ok=true
 agg:∀ x a,C.dec t x=some a→x.isAgg=(C.enc t a).isAgg
 one:∀ a,(C.cel t a).all AV.one=true
 dB:∀ a,rA (C.cel t a)
 kd:∀ ks,C.kd t=some ks→∀ a b,eN ks (C.cel t a) (C.cel t b)=some (C.beq t a b)
 TS:∀ l s,C.TS t l=some s→C.sz t=1∧Ff (l.map (C.cel t))=some s
 VL:∀ s l,C.VL t s=some l→C.sz t=1∧l.map (C.cel t)=s.map Rb
theorem eY.Ok.of {C:eY τ}(h:∀ t,eH C t):C.Ok :=
 ⟨fun t=>(h t).cel,fun t=>(h t).len,fun t=>(h t).dec,fun t=>(h t).ok,fun t=>(h t).cD,fun t=>(h t).agg,fun t=>(h t).one,fun t=>(h t).dB,fun t=>(h t).kd,fun t=>(h t).TS,fun t=>(h t).VL⟩
theorem Vq (C:eY τ):∀ (l l':List (TV τ)),TV.gL C (l++l')=TV.gL C l++TV.gL C l'
 |[],l'=>rfl
 |x :: l,l'=>by simp[TV.gL,Vq C l l']
theorem CN (C:eY τ):∀ (l l':List (TV τ)),TV.rF C (l++l')=TV.rF C l+TV.rF C l'
 |[],l'=>by simp[TV.rF]
 |x :: l,l'=>by simp[TV.rF,CN C l l',Nat.add_assoc]
theorem Kr {C:eY τ}(hC:C.Ok){t n:Nat}(v:Vector (τ t) n):(v.toList.flatMap (C.cel t)).length=n * C.sz t:=by
 have:∀ l:List (τ t),(l.flatMap (C.cel t)).length=l.length * C.sz t:=fun l=>by
  induction l with
  |nil=>simp
  |cons x l ih=>simp[ih,hC.len,Nat.add_mul,Nat.add_comm]
 rw[this];simp
mutual
theorem cS {C:eY τ}(hC:C.Ok):∀ x:TV τ,(x.cells C).length=x.size C
 |.agg l=>by rw[TV.cells,TV.size];exact Wh hC l
 |.arr t n v=>by rw[TV.cells,TV.size];exact Kr hC v
 |.int _ _ | .bool _ | .str _ | .nil _ | .sl _ _ _ | .ptr _ _ | .LY _ | .ls _ _ | .mS _ _ _ | .nG _ _ _ _ _ _ | .Bw _ _ _ _ _ _ | .qO _ _ _ | .kQ | .Ar _ | .fn _ _ | .jE _ | .yK _ _ _ _ | .aZ  => by simp[TV.cells,TV.size]
theorem Wh {C:eY τ}(hC:C.Ok):∀ l:List (TV τ),(TV.gL C l).length=TV.rF C l
 |[]=>rfl
 |x :: r=>by rw[TV.gL,TV.rF,List.length_append,cS hC x,Wh hC r]
end
theorem Rj (C:eY τ){x:TV τ}(h:x.isAgg=false)(ho:x.ok=true):x.cells C=[x.den C]:=by
 cases x<;>simp[TV.isAgg,TV.ok]at h ho<;>simp[TV.cells,TV.den]
theorem AJ (C:eY τ){x:TV τ}(h:x.isAgg=true):x.den C=.agg (x.cells C):=by
 cases x<;>simp[TV.isAgg]at h<;>simp[TV.cells,TV.den]
theorem Kg (C:eY τ){x:TV τ}(ho:x.ok=true):(x.den C).cells?=some (x.cells C):=by
 cases x with
 |nil k=>cases k<;>simp[TV.den,TV.cells,On.val,AV.cells?]
 |sl t l k=>cases k<;>simp[TV.den,TV.cells,Gf,AV.cells?]
 |ptr id p=>simp only[TV.den,TV.cells,yT];cases Ej p<;>simp[AV.cells?,AV.bot]
 |qO t j p=>simp only[TV.den,TV.cells,Ko];cases Ej p<;>simp[AV.cells?,AV.bot]
 |_=>simp[TV.ok]at ho<;>simp[TV.den,TV.cells,AV.cells?]
mutual
theorem II {C:eY τ}(hC:C.Ok):∀ x:TV τ,x.ok=true→(x.cells C).all AV.one=true
 |.agg l,h=>by rw[TV.cells];exact g6 hC l (by simpa[TV.ok] using h)
 |.arr t n v,h=>by
  rw[TV.cells,List.all_flatMap]
  exact List.all_eq_true.2 fun x _=>hC.one t x
 |.nil k,_=>by cases k<;>rfl
 |.sl t l k,_=>by cases k<;>rfl
 |.ptr id p,_=>by simp only[TV.cells,yT];cases Ej p<;>rfl
 |.int _ _,_ | .bool _,_ | .str _,_ | .LY _,_ | .ls _ _,_ | .mS _ _ _,_ | .nG _ _ _ _ _ _,_ | .Bw _ _ _ _ _ _,_ | .kQ,_ | .Ar _,_ | .fn _ _,_  => by simp[TV.cells,AV.one]
 |.qO _ _ p,_=>by simp only[TV.cells,Ko];cases Ej p<;>rfl
 |.jE _,h | .yK _ _ _ _,h | .aZ,h=>by simp[TV.ok]at h
theorem g6 {C:eY τ}(hC:C.Ok):∀ l:List (TV τ),TV.okL l=true→(TV.gL C l).all AV.one=true
 |[],_=>rfl
 |x :: r,h=>by
  simp only[TV.okL,Bool.and_eq_true]at h
  rw[TV.gL,List.all_append,II hC x h.1,g6 hC r h.2];rfl
end
def TV.sub (C:eY τ):TV τ→List Step→Option (TV τ)
 |x,[]=>some x
 |.agg l,.sS k d :: p=>bif TV.rF C (l.take k)==d then (match l[k]? with|some y=>TV.sub C y p|none=>none) else none
 |.arr t n v,.idx i m s :: p=>bif m==n&&s==C.sz t then TV.sub C (C.enc t (iK v i (C.df t))) p else none
 |_,_=>none
theorem qn (l:List AV)(o n o' n':Nat)(h:o'+n'≤n):rd (rd l o n) o' n'=rd l (o+o') n':=by
 apply List.ext_getElem?
 intro k
 simp only[uU]
 by_cases hk:k < n'
 ·simp only[if_pos hk,show o'+k < n by omega,if_true,Nat.add_assoc]
 ·simp only[if_neg hk]
theorem RD {C:eY τ}(hC:C.Ok):∀ (l:List (TV τ)) (k:Nat) (y:TV τ),l[k]?=some y→rd (TV.gL C l) (TV.rF C (l.take k)) (y.size C)=y.cells C∧TV.rF C (l.take k)+y.size C≤TV.rF C l
 |[],k,y,h=>by simp at h
 |x :: r,0,y,h=>by
  simp at h;subst h
  refine⟨?_,by simp[TV.rF]⟩
  simp only[List.take_zero,TV.rF,TV.gL]
  rw[← cS hC x]
  simp[rd]
 |x :: r,k+1,y,h=>by
  obtain⟨h1,h2⟩:=RD hC r k y (by simpa using h)
  simp only[List.take_succ_cons,TV.rF,TV.gL]
  refine⟨?_,by omega⟩
  rw[← h1]
  simp only[rd]
  rw[← cS hC x,List.drop_append,List.drop_eq_nil_of_le (by omega)]
  simp
theorem IF {C:eY τ}(hC:C.Ok){t:Nat}:∀ (l:List (τ t)) (i:Nat),i < l.length→∀ d,rd (l.flatMap (C.cel t)) (i * C.sz t) (C.sz t)=C.cel t (l.getD i d)
 |[],i,h,d=>by simp at h
 |x :: r,0,h,d=>by
  rw[List.flatMap_cons,Nat.zero_mul,← hC.len t x]
  simp[rd]
 |x :: r,i+1,h,d=>by
  have:=IF hC r i (by simpa using h) d
  rw[List.flatMap_cons,Nat.add_mul,Nat.one_mul,List.getD_cons_succ,← this]
  simp only[rd]
  rw[← hC.len t x,List.drop_append,List.drop_eq_nil_of_le (by omega)]
  simp
theorem Qu {C:eY τ}(hC:C.Ok):∀ (p:List Step) (x y:TV τ),x.sub C p=some y→Ej p=true→rd (x.cells C) (oF p) (y.size C)=y.cells C∧oF p+y.size C≤x.size C
 |[],x,y,h,_=>by
  simp[TV.sub]at h;subst h
  refine⟨?_,by simp[oF]⟩
  rw[← cS hC x];simp[rd,oF]
 |.sS k d :: p,.agg l,y,h,hb=>by
  simp only[TV.sub]at h
  cases hd:TV.rF C (l.take k)==d with
  |false=>rw[hd]at h;cases h
  |true =>
   rw[hd]at h
   simp only[cond_true]at h
   have hd':TV.rF C (l.take k)=d:=by simpa using hd
   split at h
   ·rename_i z hz
    simp only[Ej,Step.V4,Bool.true_and]at hb
    obtain⟨h1,h2⟩:=Qu hC p z y h hb
    obtain⟨h3,h4⟩:=RD hC l k z hz
    simp only[oF,Step.off,TV.cells,TV.size]
    refine⟨?_,by omega⟩
    rw[← hd',← qn _ _ _ _ _ h2,h3];exact h1
   ·cases h
 |.idx i m s :: p,.arr t n v,y,h,hb=>by
  simp only[TV.sub]at h
  cases hd:(m==n&&s==C.sz t) with
  |false=>rw[hd]at h;cases h
  |true =>
   rw[hd]at h
   simp only[cond_true]at h
   simp only[Bool.and_eq_true,beq_iff_eq]at hd
   simp only[Ej,Step.V4,Bool.and_eq_true,decide_eq_true_eq]at hb
   obtain⟨h1,h2⟩:=Qu hC p _ y h hb.2
   have hlen:i < v.toList.length:=by simpa[← hd.1] using hb.1
   have h3:=IF hC v.toList i hlen (C.df t)
   have Ch:(C.enc t (iK v i (C.df t))).size C=C.sz t:=by rw[← cS hC,hC.cel,hC.len]
   simp only[oF,Step.off,TV.cells,TV.size]
   rw[hd.2]
   have hi:i * C.sz t+C.sz t≤n * C.sz t:=by
    have:i+1≤n:=Nat.succ_le_of_lt (by simpa using hlen)
    calc i * C.sz t+C.sz t=(i+1) * C.sz t:=by rw[Nat.add_mul,Nat.one_mul]
     _≤n * C.sz t:=Nat.mul_le_mul_right _ this
   rw[Ch]at h2
   refine⟨?_,by omega⟩
   rw[← qn _ _ _ _ _ h2,h3,← h1,hC.cel];rfl
 |.sS _ _ :: _,.int _ _,_,h,_ | .sS _ _ :: _,.bool _,_,h,_ | .sS _ _ :: _,.str _,_,h,_ | .sS _ _ :: _,.nil _,_,h,_ | .sS _ _ :: _,.arr _ _ _,_,h,_
 |.sS _ _ :: _,.sl _ _ _,_,h,_ | .sS _ _ :: _,.ptr _ _,_,h,_ | .sS _ _ :: _,.LY _,_,h,_ | .sS _ _ :: _,.ls _ _,_,h,_ | .sS _ _ :: _,.mS _ _ _,_,h,_ | .sS _ _ :: _,.nG _ _ _ _ _ _,_,h,_ | .sS _ _ :: _,.Bw _ _ _ _ _ _,_,h,_ | .sS _ _ :: _,.qO _ _ _,_,h,_ | .sS _ _ :: _,.kQ,_,h,_ | .sS _ _ :: _,.Ar _,_,h,_ | .sS _ _ :: _,.fn _ _,_,h,_ | .sS _ _ :: _,.jE _,_,h,_ | .sS _ _ :: _,.yK _ _ _ _,_,h,_ | .sS _ _ :: _,.aZ,_,h,_  => by simp[TV.sub]at h
 |.idx _ _ _ :: _,.int _ _,_,h,_ | .idx _ _ _ :: _,.bool _,_,h,_ | .idx _ _ _ :: _,.str _,_,h,_ | .idx _ _ _ :: _,.nil _,_,h,_ | .idx _ _ _ :: _,.agg _,_,h,_
 |.idx _ _ _ :: _,.sl _ _ _,_,h,_ | .idx _ _ _ :: _,.ptr _ _,_,h,_ | .idx _ _ _ :: _,.LY _,_,h,_ | .idx _ _ _ :: _,.ls _ _,_,h,_ | .idx _ _ _ :: _,.mS _ _ _,_,h,_ | .idx _ _ _ :: _,.nG _ _ _ _ _ _,_,h,_ | .idx _ _ _ :: _,.Bw _ _ _ _ _ _,_,h,_ | .idx _ _ _ :: _,.qO _ _ _,_,h,_ | .idx _ _ _ :: _,.kQ,_,h,_ | .idx _ _ _ :: _,.Ar _,_,h,_ | .idx _ _ _ :: _,.fn _ _,_,h,_ | .idx _ _ _ :: _,.jE _,_,h,_ | .idx _ _ _ :: _,.yK _ _ _ _,_,h,_ | .idx _ _ _ :: _,.aZ,_,h,_  => by simp[TV.sub]at h
 |.el _ _ :: _,x,_,h,_=>by cases x<;>simp[TV.sub]at h
def TV.eQ (C:eY τ):TV τ→List Step→TV τ→Option (TV τ)
 |x,[],y=>bif (x.size C==y.size C)&&y.ok then some y else none
 |.agg l,.sS k d :: p,y=>bif TV.rF C (l.take k)==d then (match l[k]? with|some z=>(match TV.eQ C z p y with|some z'=>some (.agg (l.set k z')) | none=>none) | none=>none) else none
 |.arr t n v,.idx i m s :: p,y=>bif m==n&&s==C.sz t then (match TV.eQ C (C.enc t (iK v i (C.df t))) p y with|some z'=>(match C.dec t z' with|some a=>some (.arr t n (NO v i a)) | none=>none) | none=>none) else none
 |_,_,_=>none
end
end Go.Ev
