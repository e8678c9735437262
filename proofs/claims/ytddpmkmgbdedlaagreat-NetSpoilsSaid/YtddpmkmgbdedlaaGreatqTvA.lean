/-
The typed layer: abstract values whose slices and arrays hold typed data,and what abstract value each of them stands for.
-/
import Derived.Test.YtddpmkmgbdedlaaGreatqEvY
set_option linter.unusedVariables false
set_option linter.unusedSimpArgs false
namespace Go.Ev
open Go
inductive NilK where
 | ptr | slice | func | iface
def NilK.val:NilK→Value
 | .ptr=>.pointer none
 | .slice=>.slice none 0 0
 | .func=>.nilFunc
 | .iface=>.nilIface
inductive Step where
 | fld (k d:Nat)
 | idx (i n s:Nat)
 | el (i s:Nat)
def Step.off:Step→Nat
 | .fld _ d=>d
 | .idx i _ s=>i * s
 | .el i s=>i * s
def Step.inb:Step→Bool
 | .fld _ _=>true
 | .idx i n _=>decide (i < n)
 | .el _ _=>true
def bM:List Step→Nat
 | []=>0
 | s :: p=>s.off+bM p
def cS:List Step→Bool
 | []=>true
 | s :: p=>s.inb&&cS p
inductive SK where
 | any | non | nn | full
 | own (id:Nat)
 | tl (id:Nat)
 | brw (id:Nat)
inductive TV (τ:Nat→Type) where
 | int (k:IntKind) (n:Int)
 | bool (b:Bool)
 | str (l:List UInt8)
 | nil (k:NilK)
 | agg (l:List (TV τ))
 | arr (t n:Nat) (v:Vector (τ t) n)
 | sl (t:Nat) (l:List (τ t)) (k:SK)
 | ptr (id:Nat) (p:List Step)
 | ipt (x:TV τ)
 | ls (s:Nat) (l:List (TV τ))
 | msl (t id n:Nat)
 | wsl (t id o n c:Nat) (nn:Bool)
 | hsl (t j o n c:Nat) (nn:Bool)
 | hptr (t j:Nat) (p:List Step)
 | any1
 | yld (id:Nat)
 | fn (f:FuncId) (caps:List (TV τ))
 | tup (l:List (TV τ))
 | cnd (d:Nat) (w b:Bool) (x:TV τ)
 | junk
structure Cod (τ:Nat→Type) where
 cel:(t:Nat)→τ t→List AV
 enc:(t:Nat)→τ t→TV τ
 dec:(t:Nat)→TV τ→Option (τ t)
 df:(t:Nat)→τ t
 sz:Nat→Nat
 kd:Nat→Option (List Kd)
 beq:(t:Nat)→τ t→τ t→Bool
 b2s:(t:Nat)→List (τ t)→Option (List UInt8)
 s2b:(t:Nat)→List UInt8→Option (List (τ t))
 site:Nat→Nat→Array Tmp×Code×Code:=fun _ _=>(#[],.skip,.skip)
def bC {α:Type} {n:Nat} (v:Vector α n) (i:Nat) (d:α):α:=v.toList.getD i d
def iG {α:Type} {n:Nat} (v:Vector α n) (i:Nat) (x:α):Vector α n:=v.setIfInBounds i x
def aA {α:Type} (l:List α) (i:Int) (d:α):α:=l.getD i.toNat d
def AV.bot:AV:=.sl 1 [[]] .no
theorem aCR {g:Gh} {v:Value}:¬ VRel g .bot v:=fun h=>by
 cases h with
 | sl c e1 e2 e3 e4 e5 e6=>have:=e3 0 [] rfl; simp at this
section
variable {τ:Nat→Type}
def cW (C:Cod τ) (t:Nat) (l:List (τ t)):SK→AV
 | .any=>.asl (C.sz t) (l.map (C.cel t))
 | .non=>.sl (C.sz t) (l.map (C.cel t)) .no
 | .nn=>.nsl (C.sz t) (l.map (C.cel t))
 | .full=>.sl (C.sz t) (l.map (C.cel t)) .full
 | .own id=>.gsl (C.sz t) (l.map (C.cel t)) id
 | .tl id=>.sl (C.sz t) (l.map (C.cel t)) (.tail id)
 | .brw id=>.gsl (C.sz t) (l.map (C.cel t)) id
def dW (id:Nat) (p:List Step):AV:=bif cS p then .ptr id (bM p) else .bot
def jP (j:Nat) (p:List Step):AV:=bif cS p then .hptr j (bM p) else .bot
mutual
def TV.cells (C:Cod τ):TV τ→List AV
 | .int k n=>[.v (.int k n)]
 | .bool b=>[.v (.bool b)]
 | .str l=>[.v (.string ⟨⟨l⟩⟩)]
 | .nil k=>[.v k.val]
 | .agg l=>TV.cellsL C l
 | .arr t _ v=>v.toList.flatMap (C.cel t)
 | .sl t l k=>[cW C t l k]
 | .ptr id p=>[dW id p]
 | .ipt x=>[.iptr (TV.cells C x) 0]
 | .ls s l=>[.sl s (TV.cellsE C l) .full]
 | .msl t id n=>[.bsl id 0 n (C.sz t)]
 | .wsl t id o n c nn=>[.wsl id (o * C.sz t) n c nn (C.sz t)]
 | .hsl t j o n c nn=>[.hsl j (o * C.sz t) n c nn (C.sz t)]
 | .hptr _ j p=>[jP j p]
 | .any1=>[.any1]
 | .yld id=>[.yld id]
 | .fn f caps=>[.fn f (TV.denL C caps)]
 | .tup _=>[.junk]
 | .cnd _ _ _ _=>[.junk]
 | .junk=>[.junk]
def TV.cellsL (C:Cod τ):List (TV τ)→List AV
 | []=>[]
 | x :: r=>TV.cells C x++TV.cellsL C r
def TV.cellsE (C:Cod τ):List (TV τ)→List (List AV)
 | []=>[]
 | x :: r=>TV.cells C x :: TV.cellsE C r
def TV.den (C:Cod τ):TV τ→AV
 | .int k n=>.v (.int k n)
 | .bool b=>.v (.bool b)
 | .str l=>.v (.string ⟨⟨l⟩⟩)
 | .nil k=>.v k.val
 | .agg l=>.agg (TV.cellsL C l)
 | .arr t _ v=>.agg (v.toList.flatMap (C.cel t))
 | .sl t l k=>cW C t l k
 | .ptr id p=>dW id p
 | .ipt x=>.iptr (TV.cells C x) 0
 | .ls s l=>.sl s (TV.cellsE C l) .full
 | .msl t id n=>.bsl id 0 n (C.sz t)
 | .wsl t id o n c nn=>.wsl id (o * C.sz t) n c nn (C.sz t)
 | .hsl t j o n c nn=>.hsl j (o * C.sz t) n c nn (C.sz t)
 | .hptr _ j p=>jP j p
 | .any1=>.any1
 | .yld id=>.yld id
 | .fn f caps=>.fn f (TV.denL C caps)
 | .tup l=>.tup (TV.denL C l)
 | .cnd _ _ _ _=>.junk
 | .junk=>.junk
def TV.denL (C:Cod τ):List (TV τ)→List AV
 | []=>[]
 | x :: r=>TV.den C x :: TV.denL C r
end
def TV.isAgg:TV τ→Bool
 | .agg _ | .arr _ _ _=>true
 | _=>false
mutual
/-- It may lie in cells. -/
def TV.ok:TV τ→Bool
 | .tup _ | .cnd _ _ _ _ | .junk=>false
 | .agg l=>TV.okL l
 | _=>true
def TV.okL:List (TV τ)→Bool
 | []=>true
 | x :: r=>TV.ok x&&TV.okL r
end
mutual
def TV.size (C:Cod τ):TV τ→Nat
 | .agg l=>TV.sizes C l
 | .arr t n _=>n * C.sz t
 | _=>1
def TV.sizes (C:Cod τ):List (TV τ)→Nat
 | []=>0
 | x :: r=>TV.size C x+TV.sizes C r
end
inductive TEnt (τ:Nat→Type) where
 | unborn | dead
 | box (x:TV τ)
 | ibox (x:TV τ)
 | gbx (t:Nat) (l:List (τ t))
 | tail
 | rcd (f k:Nat) (ts:List (TV τ))
 | rdn (e:Nat)
 | pool (t:Nat) (ms:List (Option (List (τ t))))
def cJ (C:Cod τ) (t:Nat) (ms:List (Option (List (τ t)))):List (Option (List AV)):=ms.map fun m=>m.map fun l=>l.flatMap (C.cel t)
def vW:Nat→Code
 | 0=>.ret
 | n+1=>.exit n
def TEnt.den (C:Cod τ):TEnt τ→Ent
 | .unborn=>.unborn
 | .dead=>.dead
 | .box x=>.box (x.cells C)
 | .ibox x=>.ibox (x.cells C)
 | .gbx t l=>.gbx (l.flatMap (C.cel t))
 | .tail=>.tail
 | .rcd f k ts=>.rcd (C.site f k).1 (C.site f k).2.1 (C.site f k).2.2 (TV.denL C ts)
 | .rdn e=>.rdn (vW e)
 | .pool t ms=>.pool (cJ C t ms)
def W (x y:AV):Prop:=∀ g v,VRel g x v→VRel g y v
def CW (l l':List AV):Prop:=l.length=l'.length∧∀ (k:Nat) (x y:AV),l[k]?=some x→l'[k]?=some y→W x y
theorem W.refl (x:AV):W x x:=fun _ _ h=>h
theorem W.trans {x y z:AV} (h:W x y) (h':W y z):W x z:=fun g v hv=>h' g v (h g v hv)
theorem CW.refl (l:List AV):CW l l:=⟨rfl,fun k x y a b=>by rw [a] at b; cases b; exact .refl x⟩
theorem CW.lrel {l l':List AV} (h:CW l l') {g:Gh} {cs:List Value} (hl:LRel g l cs):LRel g l' cs:=by
 refine ⟨h.1.symm.trans hl.1,fun k y c hy hc=>?_⟩
 have hk:k < l.length:=by
  rw [h.1]
  rcases Nat.lt_or_ge k l'.length with h' | h'
  ·exact h'
  ·rw [List.getElem?_eq_none h'] at hy; cases hy
 exact h.2 k l[k] y (List.getElem?_eq_getElem hk) hy g c (hl.2 k _ c (List.getElem?_eq_getElem hk) hc)
theorem CW.append {a a' b b':List AV} (h:CW a a') (h':CW b b'):CW (a++b) (a'++b'):=by
 refine ⟨by simp [h.1,h'.1],fun k x y hx hy=>?_⟩
 rw [List.getElem?_append] at hx hy
 rw [← h.1] at hy
 split at hx
 ·rename_i hk; rw [if_pos hk] at hy; exact h.2 k x y hx hy
 ·rename_i hk; rw [if_neg hk] at hy; exact h'.2 _ x y hx hy
theorem CW.cons {x y:AV} {l l':List AV} (h:W x y) (h':CW l l'):CW (x :: l) (y :: l') :=
 CW.append (a:=[x]) (a':=[y]) ⟨rfl,fun k a b ha hb=>by
  cases k with
  | zero=>simp at ha hb; subst ha; subst hb; exact h
  | succ k=>simp at ha⟩ h'
theorem CW.trans {a b c:List AV} (h:CW a b) (h':CW b c):CW a c:=by
 refine ⟨h.1.trans h'.1,fun k x z hx hz=>?_⟩
 have hk:k < b.length:=by
  rw [← h.1]
  rcases Nat.lt_or_ge k a.length with h' | h'
  ·exact h'
  ·rw [List.getElem?_eq_none h'] at hx; cases hx
 exact (h.2 k x b[k] hx (List.getElem?_eq_getElem hk)).trans (h'.2 k b[k] z (List.getElem?_eq_getElem hk) hz)
structure Cod.Ok (C:Cod τ):Prop where
 cel:∀ t x,(C.enc t x).cells C=C.cel t x
 len:∀ t x,(C.cel t x).length=C.sz t
 dec:∀ t x a,C.dec t x=some a→CW (x.cells C) (C.cel t a)
 ok:∀ t x,(C.enc t x).ok=true
 decok:∀ t x a,C.dec t x=some a→x.ok=true
 agg:∀ t x a,C.dec t x=some a→x.isAgg=(C.enc t a).isAgg
 one:∀ t a,(C.cel t a).all AV.one=true
 noid:∀ t a,NoIds (C.cel t a)
 kd:∀ t ks,C.kd t=some ks→∀ a b,cD ks (C.cel t a) (C.cel t b)=some (C.beq t a b)
 b2s:∀ t l s,C.b2s t l=some s→C.sz t=1∧kG (l.map (C.cel t))=some s
 s2b:∀ t s l,C.s2b t s=some l→C.sz t=1∧l.map (C.cel t)=s.map rE
structure bD (C:Cod τ) (t:Nat):Prop where
 cel:∀ x,(C.enc t x).cells C=C.cel t x
 len:∀ x,(C.cel t x).length=C.sz t
 dec:∀ x a,C.dec t x=some a→CW (x.cells C) (C.cel t a)
 ok:∀ x,(C.enc t x).ok=true
 decok:∀ x a,C.dec t x=some a→x.ok=true
 agg:∀ x a,C.dec t x=some a→x.isAgg=(C.enc t a).isAgg
 one:∀ a,(C.cel t a).all AV.one=true
 noid:∀ a,NoIds (C.cel t a)
 kd:∀ ks,C.kd t=some ks→∀ a b,cD ks (C.cel t a) (C.cel t b)=some (C.beq t a b)
 b2s:∀ l s,C.b2s t l=some s→C.sz t=1∧kG (l.map (C.cel t))=some s
 s2b:∀ s l,C.s2b t s=some l→C.sz t=1∧l.map (C.cel t)=s.map rE
theorem Cod.Ok.of {C:Cod τ} (h:∀ t,bD C t):C.Ok :=
 ⟨fun t=>(h t).cel,fun t=>(h t).len,fun t=>(h t).dec,fun t=>(h t).ok,fun t=>(h t).decok,fun t=>(h t).agg,fun t=>(h t).one,fun t=>(h t).noid,fun t=>(h t).kd,fun t=>(h t).b2s,fun t=>(h t).s2b⟩
theorem aI6 (C:Cod τ):∀ (l l':List (TV τ)),TV.cellsL C (l++l')=TV.cellsL C l++TV.cellsL C l'
 | [],l'=>rfl
 | x :: l,l'=>by simp [TV.cellsL,aI6 C l l']
theorem aI7 (C:Cod τ):∀ (l l':List (TV τ)),TV.sizes C (l++l')=TV.sizes C l+TV.sizes C l'
 | [],l'=>by simp [TV.sizes]
 | x :: l,l'=>by simp [TV.sizes,aI7 C l l',Nat.add_assoc]
theorem aI8 {C:Cod τ} (hC:C.Ok) {t n:Nat} (v:Vector (τ t) n):(v.toList.flatMap (C.cel t)).length=n * C.sz t:=by
 have:∀ l:List (τ t),(l.flatMap (C.cel t)).length=l.length * C.sz t:=fun l=>by
  induction l with
  | nil=>simp
  | cons x l ih=>simp [ih,hC.len,Nat.add_mul,Nat.add_comm]
 rw [this]; simp
mutual
theorem dO {C:Cod τ} (hC:C.Ok):∀ x:TV τ,(x.cells C).length=x.size C
 | .agg l=>by rw [TV.cells,TV.size]; exact aI9 hC l
 | .arr t n v=>by rw [TV.cells,TV.size]; exact aI8 hC v
 | .int _ _ | .bool _ | .str _ | .nil _ | .sl _ _ _ | .ptr _ _ | .ipt _ | .ls _ _ | .msl _ _ _ | .wsl _ _ _ _ _ _ | .hsl _ _ _ _ _ _ | .hptr _ _ _ | .any1 | .yld _ | .fn _ _ | .tup _ | .cnd _ _ _ _ | .junk  => by simp [TV.cells,TV.size]
theorem aI9 {C:Cod τ} (hC:C.Ok):∀ l:List (TV τ),(TV.cellsL C l).length=TV.sizes C l
 | []=>rfl
 | x :: r=>by rw [TV.cellsL,TV.sizes,List.length_append,dO hC x,aI9 hC r]
end
theorem aAc (C:Cod τ) {x:TV τ} (h:x.isAgg=false) (ho:x.ok=true):x.cells C=[x.den C]:=by
 cases x<;>simp [TV.isAgg,TV.ok] at h ho<;>simp [TV.cells,TV.den]
theorem sL (C:Cod τ) {x:TV τ} (h:x.isAgg=true):x.den C=.agg (x.cells C):=by
 cases x<;>simp [TV.isAgg] at h<;>simp [TV.cells,TV.den]
theorem vX (C:Cod τ) {x:TV τ} (ho:x.ok=true):(x.den C).cells?=some (x.cells C):=by
 cases x with
 | nil k=>cases k<;>simp [TV.den,TV.cells,NilK.val,AV.cells?]
 | sl t l k=>cases k<;>simp [TV.den,TV.cells,cW,AV.cells?]
 | ptr id p=>simp only [TV.den,TV.cells,dW]; cases cS p<;>simp [AV.cells?,AV.bot]
 | hptr t j p=>simp only [TV.den,TV.cells,jP]; cases cS p<;>simp [AV.cells?,AV.bot]
 | _=>simp [TV.ok] at ho<;>simp [TV.den,TV.cells,AV.cells?]
mutual
theorem aCS {C:Cod τ} (hC:C.Ok):∀ x:TV τ,x.ok=true→(x.cells C).all AV.one=true
 | .agg l,h=>by rw [TV.cells]; exact aMX hC l (by simpa [TV.ok] using h)
 | .arr t n v, h => by
  rw [TV.cells,List.all_flatMap]
  exact List.all_eq_true.2 fun x _=>hC.one t x
 | .nil k,_=>by cases k<;>rfl
 | .sl t l k,_=>by cases k<;>rfl
 | .ptr id p,_=>by simp only [TV.cells,dW]; cases cS p<;>rfl
 | .int _ _,_ | .bool _,_ | .str _,_ | .ipt _,_ | .ls _ _,_ | .msl _ _ _,_ | .wsl _ _ _ _ _ _,_ | .hsl _ _ _ _ _ _,_ | .any1,_ | .yld _,_ | .fn _ _,_  => by simp [TV.cells,AV.one]
 | .hptr _ _ p,_=>by simp only [TV.cells,jP]; cases cS p<;>rfl
 | .tup _,h | .cnd _ _ _ _,h | .junk,h=>by simp [TV.ok] at h
theorem aMX {C:Cod τ} (hC:C.Ok):∀ l:List (TV τ),TV.okL l=true→(TV.cellsL C l).all AV.one=true
 | [],_=>rfl
 | x :: r, h => by
  simp only [TV.okL,Bool.and_eq_true] at h
  rw [TV.cellsL,List.all_append,aCS hC x h.1,aMX hC r h.2]; rfl
end
def TV.sub (C:Cod τ):TV τ→List Step→Option (TV τ)
 | x,[]=>some x
 | .agg l,.fld k d :: p=>bif TV.sizes C (l.take k)==d then (match l[k]? with | some y=>TV.sub C y p | none=>none) else none
 | .arr t n v,.idx i m s :: p=>bif m==n&&s==C.sz t then TV.sub C (C.enc t (bC v i (C.df t))) p else none
 | _,_=>none
theorem aCT (l:List AV) (o n o' n':Nat) (h:o'+n'≤n):rd (rd l o n) o' n'=rd l (o+o') n':=by
 apply List.ext_getElem?
 intro k
 simp only [nJ]
 by_cases hk:k < n'
 ·simp only [if_pos hk,show o'+k < n by omega,if_true,Nat.add_assoc]
 ·simp only [if_neg hk]
theorem aJa {C:Cod τ} (hC:C.Ok):∀ (l:List (TV τ)) (k:Nat) (y:TV τ),l[k]?=some y→rd (TV.cellsL C l) (TV.sizes C (l.take k)) (y.size C)=y.cells C∧TV.sizes C (l.take k)+y.size C≤TV.sizes C l
 | [],k,y,h=>by simp at h
 | x :: r, 0, y, h => by
  simp at h; subst h
  refine ⟨?_,by simp [TV.sizes]⟩
  simp only [List.take_zero,TV.sizes,TV.cellsL]
  rw [← dO hC x]
  simp [rd]
 | x :: r, k + 1, y, h => by
  obtain ⟨h1,h2⟩:=aJa hC r k y (by simpa using h)
  simp only [List.take_succ_cons,TV.sizes,TV.cellsL]
  refine ⟨?_,by omega⟩
  rw [← h1]
  simp only [rd]
  rw [← dO hC x,List.drop_append,List.drop_eq_nil_of_le (by omega)]
  simp
theorem vY {C:Cod τ} (hC:C.Ok) {t:Nat}:∀ (l:List (τ t)) (i:Nat),i < l.length→∀ d,rd (l.flatMap (C.cel t)) (i * C.sz t) (C.sz t)=C.cel t (l.getD i d)
 | [],i,h,d=>by simp at h
 | x :: r, 0, h, d => by
  rw [List.flatMap_cons,Nat.zero_mul,← hC.len t x]
  simp [rd]
 | x :: r, i + 1, h, d => by
  have:=vY hC r i (by simpa using h) d
  rw [List.flatMap_cons,Nat.add_mul,Nat.one_mul,List.getD_cons_succ,← this]
  simp only [rd]
  rw [← hC.len t x,List.drop_append,List.drop_eq_nil_of_le (by omega)]
  simp
theorem vZ {C:Cod τ} (hC:C.Ok):∀ (p:List Step) (x y:TV τ),x.sub C p=some y→cS p=true→rd (x.cells C) (bM p) (y.size C)=y.cells C∧bM p+y.size C≤x.size C
 | [], x, y, h, _ => by
  simp [TV.sub] at h; subst h
  refine ⟨?_,by simp [bM]⟩
  rw [← dO hC x]; simp [rd,bM]
 | .fld k d :: p, .agg l, y, h, hb => by
  simp only [TV.sub] at h
  cases hd:TV.sizes C (l.take k)==d with
  | false=>rw [hd] at h; cases h
  | true =>
   rw [hd] at h
   simp only [cond_true] at h
   have hd':TV.sizes C (l.take k)=d:=by simpa using hd
   split at h
   ·rename_i z hz
    simp only [cS,Step.inb,Bool.true_and] at hb
    obtain ⟨h1,h2⟩:=vZ hC p z y h hb
    obtain ⟨h3,h4⟩:=aJa hC l k z hz
    simp only [bM,Step.off,TV.cells,TV.size]
    refine ⟨?_,by omega⟩
    rw [← hd',← aCT _ _ _ _ _ h2,h3]; exact h1
   ·cases h
 | .idx i m s :: p, .arr t n v, y, h, hb => by
  simp only [TV.sub] at h
  cases hd:(m==n&&s==C.sz t) with
  | false=>rw [hd] at h; cases h
  | true =>
   rw [hd] at h
   simp only [cond_true] at h
   simp only [Bool.and_eq_true,beq_iff_eq] at hd
   simp only [cS,Step.inb,Bool.and_eq_true,decide_eq_true_eq] at hb
   obtain ⟨h1,h2⟩:=vZ hC p _ y h hb.2
   have hlen:i < v.toList.length:=by simpa [← hd.1] using hb.1
   have h3:=vY hC v.toList i hlen (C.df t)
   have hsz:(C.enc t (bC v i (C.df t))).size C=C.sz t:=by rw [← dO hC,hC.cel,hC.len]
   simp only [bM,Step.off,TV.cells,TV.size]
   rw [hd.2]
   have hi:i * C.sz t+C.sz t≤n * C.sz t:=by
    have:i+1≤n:=Nat.succ_le_of_lt (by simpa using hlen)
    calc i * C.sz t+C.sz t=(i+1) * C.sz t:=by rw [Nat.add_mul,Nat.one_mul]
     _≤n * C.sz t:=Nat.mul_le_mul_right _ this
   rw [hsz] at h2
   refine ⟨?_,by omega⟩
   rw [← aCT _ _ _ _ _ h2,h3,← h1,hC.cel]; rfl
 | .fld _ _ :: _,.int _ _,_,h,_ | .fld _ _ :: _,.bool _,_,h,_ | .fld _ _ :: _,.str _,_,h,_ | .fld _ _ :: _,.nil _,_,h,_ | .fld _ _ :: _,.arr _ _ _,_,h,_
 | .fld _ _ :: _,.sl _ _ _,_,h,_ | .fld _ _ :: _,.ptr _ _,_,h,_ | .fld _ _ :: _,.ipt _,_,h,_ | .fld _ _ :: _,.ls _ _,_,h,_ | .fld _ _ :: _,.msl _ _ _,_,h,_ | .fld _ _ :: _,.wsl _ _ _ _ _ _,_,h,_ | .fld _ _ :: _,.hsl _ _ _ _ _ _,_,h,_ | .fld _ _ :: _,.hptr _ _ _,_,h,_ | .fld _ _ :: _,.any1,_,h,_ | .fld _ _ :: _,.yld _,_,h,_ | .fld _ _ :: _,.fn _ _,_,h,_ | .fld _ _ :: _,.tup _,_,h,_ | .fld _ _ :: _,.cnd _ _ _ _,_,h,_ | .fld _ _ :: _,.junk,_,h,_  => by simp [TV.sub] at h
 | .idx _ _ _ :: _,.int _ _,_,h,_ | .idx _ _ _ :: _,.bool _,_,h,_ | .idx _ _ _ :: _,.str _,_,h,_ | .idx _ _ _ :: _,.nil _,_,h,_ | .idx _ _ _ :: _,.agg _,_,h,_
 | .idx _ _ _ :: _,.sl _ _ _,_,h,_ | .idx _ _ _ :: _,.ptr _ _,_,h,_ | .idx _ _ _ :: _,.ipt _,_,h,_ | .idx _ _ _ :: _,.ls _ _,_,h,_ | .idx _ _ _ :: _,.msl _ _ _,_,h,_ | .idx _ _ _ :: _,.wsl _ _ _ _ _ _,_,h,_ | .idx _ _ _ :: _,.hsl _ _ _ _ _ _,_,h,_ | .idx _ _ _ :: _,.hptr _ _ _,_,h,_ | .idx _ _ _ :: _,.any1,_,h,_ | .idx _ _ _ :: _,.yld _,_,h,_ | .idx _ _ _ :: _,.fn _ _,_,h,_ | .idx _ _ _ :: _,.tup _,_,h,_ | .idx _ _ _ :: _,.cnd _ _ _ _,_,h,_ | .idx _ _ _ :: _,.junk,_,h,_  => by simp [TV.sub] at h
 | .el _ _ :: _,x,_,h,_=>by cases x<;>simp [TV.sub] at h
def TV.upd (C:Cod τ):TV τ→List Step→TV τ→Option (TV τ)
 | x,[],y=>bif (x.size C==y.size C)&&y.ok then some y else none
 | .agg l,.fld k d :: p,y=>bif TV.sizes C (l.take k)==d then (match l[k]? with | some z=>(match TV.upd C z p y with | some z'=>some (.agg (l.set k z')) | none=>none) | none=>none) else none
 | .arr t n v,.idx i m s :: p,y=>bif m==n&&s==C.sz t then (match TV.upd C (C.enc t (bC v i (C.df t))) p y with | some z'=>(match C.dec t z' with | some a=>some (.arr t n (iG v i a)) | none=>none) | none=>none) else none
 | _,_,_=>none
end
end Go.Ev
