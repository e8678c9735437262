/-
The typed layer: writing into a tree; comparing; zero values.
-/
import Derived.Test.YtddpmkmgbdedlaaGreatqTvA
set_option linter.unusedVariables false
set_option linter.unusedSimpArgs false
namespace Go.Ev
open Go
section
variable {τ:Nat→Type}
theorem aJb (A B D ys:List AV) (o:Nat) (h:o+ys.length≤B.length):wr (A++B++D) (A.length+o) ys=A++wr B o ys++D:=by
 unfold wr
 rw [List.append_assoc A B D,List.take_length_add_append,show A.length+o+ys.length=A.length+(o+ys.length) by omega,List.drop_length_add_append]
 rw [List.take_append_of_le_length (by omega),List.drop_append_of_le_length (by omega)]
 simp
theorem aCU {α:Type}:∀ (l:List α) (k:Nat) (z:α),l[k]?=some z→l=l.take k++[z]++l.drop (k+1)∧∀ y,l.set k y=l.take k++[y]++l.drop (k+1)
 | [],k,z,h=>by simp at h
 | x :: r,0,z,h=>by simp at h; subst h; simp
 | x :: r, k + 1, z, h => by
  obtain ⟨h1,h2⟩:=aCU r k z (by simpa using h)
  refine ⟨?_,fun y=>?_⟩
  ·simp only [List.take_succ_cons,List.drop_succ_cons,List.cons_append]
   exact congrArg _ h1
  ·simp only [List.set_cons_succ,List.take_succ_cons,List.drop_succ_cons,List.cons_append]
   exact congrArg _ (h2 y)
theorem CW.mid {A B B' D:List AV} (h:CW B B'):CW (A++B++D) (A++B'++D):=((CW.refl A).append h).append (.refl D)
theorem aAd {C:Cod τ} (hC:C.Ok):∀ (p:List Step) (x y x':TV τ),x.upd C p y=some x'→cS p=true →
  x'.size C=x.size C∧bM p+y.size C≤x.size C∧CW (wr (x.cells C) (bM p) (y.cells C)) (x'.cells C)∧y.ok=true
 | [], x, y, x', h, _ => by
  simp only [TV.upd] at h
  cases hd:((x.size C==y.size C)&&y.ok) with
  | false=>rw [hd] at h; cases h
  | true =>
   rw [hd] at h
   simp only [cond_true,Option.some.injEq] at h
   subst h
   simp only [Bool.and_eq_true,beq_iff_eq] at hd
   refine ⟨hd.1.symm,by simp [bM,hd.1],?_,hd.2⟩
   have:wr (x.cells C) (bM []) (y.cells C)=y.cells C:=by
    unfold wr
    rw [List.drop_eq_nil_of_le (by simp [bM,dO hC,hd.1])]
    simp [bM]
   rw [this]; exact .refl _
 | .fld k d :: p, .agg l, y, x', h, hb => by
  simp only [TV.upd] at h
  cases hd:TV.sizes C (l.take k)==d with
  | false=>rw [hd] at h; cases h
  | true =>
   rw [hd] at h
   simp only [cond_true] at h
   have hd':TV.sizes C (l.take k)=d:=by simpa using hd
   split at h
   ·rename_i z hz
    split at h
    ·rename_i z' hz'
     simp only [Option.some.injEq] at h
     subst h
     simp only [cS,Step.inb,Bool.true_and] at hb
     obtain ⟨h1,h2,h3,h4⟩:=aAd hC p z y z' hz' hb
     obtain ⟨e1,e2⟩:=aCU l k z hz
     have hcw:∀ w,TV.cellsL C (l.take k++[w]++l.drop (k+1))=TV.cellsL C (l.take k)++w.cells C++TV.cellsL C (l.drop (k+1)):=fun w=>by
      rw [aI6,aI6]; simp only [TV.cellsL,List.append_nil]
     have hsw:∀ w,TV.sizes C (l.take k++[w]++l.drop (k+1))=TV.sizes C (l.take k)+w.size C+TV.sizes C (l.drop (k+1)):=fun w=>by
      rw [aI7,aI7]; simp only [TV.sizes,Nat.add_zero]
     have hcl:=(congrArg (TV.cellsL C) e1).trans (hcw z)
     have hcs:=(congrArg (TV.cellsL C) (e2 z')).trans (hcw z')
     have hsl:=(congrArg (TV.sizes C) e1).trans (hsw z)
     have hss:=(congrArg (TV.sizes C) (e2 z')).trans (hsw z')
     simp only [TV.size,TV.cells,bM,Step.off]
     refine ⟨by omega,by omega,?_,h4⟩
     rw [hcl,hcs,← hd',← aI9 hC (l.take k),aJb _ _ _ _ _ (by rw [dO hC,dO hC]; exact h2)]
     exact h3.mid
    ·cases h
   ·cases h
 | .idx i m s :: p, .arr t n v, y, x', h, hb => by
  simp only [TV.upd] at h
  cases hd:(m==n&&s==C.sz t) with
  | false=>rw [hd] at h; cases h
  | true =>
   rw [hd] at h
   simp only [cond_true] at h
   simp only [Bool.and_eq_true,beq_iff_eq] at hd
   simp only [cS,Step.inb,Bool.and_eq_true,decide_eq_true_eq] at hb
   split at h
   ·rename_i z' hz'
    split at h
    ·rename_i a ha
     simp only [Option.some.injEq] at h
     subst h
     obtain ⟨h1,h2,h3,h4⟩:=aAd hC p _ y z' hz' hb.2
     have hsz:(C.enc t (bC v i (C.df t))).size C=C.sz t:=by rw [← dO hC,hC.cel,hC.len]
     rw [hsz] at h1 h2
     rw [hC.cel] at h3
     have hlen:i < v.toList.length:=by simpa [← hd.1] using hb.1
     have hz:v.toList[i]?=some (bC v i (C.df t)):=by simp [bC,List.getElem?_eq_getElem hlen]
     obtain ⟨e1,e2⟩:=aCU v.toList i _ hz
     have hvs:(iG v i a).toList=v.toList.take i++[a]++v.toList.drop (i+1):=by
      rw [← e2 a]
      simp [iG]
     have hpre:((v.toList.take i).flatMap (C.cel t)).length=i * C.sz t:=by
      have:∀ l:List (τ t),(l.flatMap (C.cel t)).length=l.length * C.sz t:=fun l=>by
       induction l with
       | nil=>simp
       | cons x l ih=>simp [ih,hC.len,Nat.add_mul,Nat.add_comm]
      rw [this,List.length_take,Nat.min_eq_left (by omega)]
     have hcl:v.toList.flatMap (C.cel t)=(v.toList.take i).flatMap (C.cel t)++C.cel t (bC v i (C.df t))++(v.toList.drop (i+1)).flatMap (C.cel t):=by
      conv=>lhs; rw [e1]
      simp
     have hcs:(iG v i a).toList.flatMap (C.cel t)=(v.toList.take i).flatMap (C.cel t)++C.cel t a++(v.toList.drop (i+1)).flatMap (C.cel t):=by
      rw [hvs]
      simp
     have hi:i * C.sz t+C.sz t≤n * C.sz t:=by
      have:i+1≤n:=Nat.succ_le_of_lt (by simpa using hlen)
      calc i * C.sz t+C.sz t=(i+1) * C.sz t:=by rw [Nat.add_mul,Nat.one_mul]
       _≤n * C.sz t:=Nat.mul_le_mul_right _ this
     simp only [TV.size,TV.cells,bM,Step.off]
     rw [hd.2]
     refine ⟨trivial,by omega,?_,h4⟩
     rw [hcl,hcs,← hpre,aJb _ _ _ _ _ (by rw [hC.len,dO hC]; exact h2)]
     exact (h3.trans (hC.dec t z' a ha)).mid
    ·cases h
   ·cases h
 | .fld _ _ :: _,.int _ _,_,_,h,_ | .fld _ _ :: _,.bool _,_,_,h,_ | .fld _ _ :: _,.str _,_,_,h,_ | .fld _ _ :: _,.nil _,_,_,h,_ | .fld _ _ :: _,.arr _ _ _,_,_,h,_
 | .fld _ _ :: _,.sl _ _ _,_,_,h,_ | .fld _ _ :: _,.ptr _ _,_,_,h,_ | .fld _ _ :: _,.ipt _,_,_,h,_ | .fld _ _ :: _,.ls _ _,_,_,h,_ | .fld _ _ :: _,.msl _ _ _,_,_,h,_ | .fld _ _ :: _,.wsl _ _ _ _ _ _,_,_,h,_ | .fld _ _ :: _,.hsl _ _ _ _ _ _,_,_,h,_ | .fld _ _ :: _,.hptr _ _ _,_,_,h,_ | .fld _ _ :: _,.any1,_,_,h,_ | .fld _ _ :: _,.yld _,_,_,h,_ | .fld _ _ :: _,.fn _ _,_,_,h,_ | .fld _ _ :: _,.tup _,_,_,h,_ | .fld _ _ :: _,.cnd _ _ _ _,_,_,h,_ | .fld _ _ :: _,.junk,_,_,h,_  => by simp [TV.upd] at h
 | .idx _ _ _ :: _,.int _ _,_,_,h,_ | .idx _ _ _ :: _,.bool _,_,_,h,_ | .idx _ _ _ :: _,.str _,_,_,h,_ | .idx _ _ _ :: _,.nil _,_,_,h,_ | .idx _ _ _ :: _,.agg _,_,_,h,_
 | .idx _ _ _ :: _,.sl _ _ _,_,_,h,_ | .idx _ _ _ :: _,.ptr _ _,_,_,h,_ | .idx _ _ _ :: _,.ipt _,_,_,h,_ | .idx _ _ _ :: _,.ls _ _,_,_,h,_ | .idx _ _ _ :: _,.msl _ _ _,_,_,h,_ | .idx _ _ _ :: _,.wsl _ _ _ _ _ _,_,_,h,_ | .idx _ _ _ :: _,.hsl _ _ _ _ _ _,_,_,h,_ | .idx _ _ _ :: _,.hptr _ _ _,_,_,h,_ | .idx _ _ _ :: _,.any1,_,_,h,_ | .idx _ _ _ :: _,.yld _,_,_,h,_ | .idx _ _ _ :: _,.fn _ _,_,_,h,_ | .idx _ _ _ :: _,.tup _,_,_,h,_ | .idx _ _ _ :: _,.cnd _ _ _ _,_,_,h,_ | .idx _ _ _ :: _,.junk,_,_,h,_  => by simp [TV.upd] at h
 | .el _ _ :: _,x,_,_,h,_=>by cases x<;>simp [TV.upd] at h
def bR {α:Type} {n:Nat} (f:α→α→Bool) (v w:Vector α n):Bool:=(v.toList.zip w.toList).all fun p=>f p.1 p.2
def rep (n:Nat) (ks:List Kd):List Kd:=(List.replicate n ks).flatten
mutual
def TV.kds (C:Cod τ):TV τ→Option (List Kd)
 | .int _ _=>some [.i]
 | .bool _=>some [.b]
 | .str _=>some [.s]
 | .agg l=>TV.kdsL C l
 | .arr t n _=>(C.kd t).map (rep n)
 | _=>none
def TV.kdsL (C:Cod τ):List (TV τ)→Option (List Kd)
 | []=>some []
 | x :: r => match TV.kds C x, TV.kdsL C r with
  | some a,some b=>some (a++b)
  | _,_=>none
end
def IntKind.eqb:IntKind→IntKind→Bool
 | .i8,.i8 | .i16,.i16 | .i32,.i32 | .i64,.i64 | .u8,.u8 | .u16,.u16 | .u32,.u32 | .u64,.u64=>true
 | _,_=>false
theorem IntKind.eqb_eq {a b:IntKind} (h:IntKind.eqb a b=true):a=b:=by cases a<;>cases b<;>simp [IntKind.eqb] at h<;>rfl
mutual
def TV.teq (C:Cod τ):TV τ→TV τ→Option Bool
 | .int k a,.int k' b=>bif IntKind.eqb k k' then some (a==b) else none
 | .bool a,.bool b=>some (a==b)
 | .str a,.str b=>some (a==b)
 | .agg l,.agg l'=>TV.teqL C l l'
 | .arr t n v,.arr t' n' v'=>if h:t=t'∧n=n' then some (bR (C.beq t') (h.1▸h.2▸v) v') else none
 | _,_=>none
def TV.teqL (C:Cod τ):List (TV τ)→List (TV τ)→Option Bool
 | [],[]=>some true
 | [x],[y]=>TV.teq C x y
 | x :: r, y :: r' => match TV.teq C x y, TV.teqL C r r' with
  | some a,some b=>some (a&&b)
  | _,_=>none
 | _,_=>none
end
theorem eW:∀ {ks ks':List Kd} {l l' m m':List AV} {a b:Bool},cD ks l m=some a→cD ks' l' m'=some b→cD (ks++ks') (l++l') (m++m')=some (a&&b)
 | ks, ks', l, l', m, m', a, b, h, h' => by
  induction ks generalizing l m a with
  | nil =>
   cases l<;>cases m<;>simp [cD] at h
   subst h; simpa using h'
  | cons k ks ih =>
   cases l with
   | nil=>simp [cD] at h
   | cons x l =>
    cases m with
    | nil=>cases x<;>simp [cD] at h
    | cons y m =>
     cases x<;>cases y<;>simp only [cD] at h<;>first
      | (cases h; done)
      | skip
     split at h
     ·rename_i c d hc hd
      cases h
      simp only [List.cons_append,cD,hc,ih _ _ _ hd,Bool.and_assoc]
     ·cases h
theorem aMY {C:Cod τ} (hC:C.Ok) {t:Nat} {ks:List Kd} (hk:C.kd t=some ks):∀ (l m:List (τ t)),l.length=m.length →
  cD (rep l.length ks) (l.flatMap (C.cel t)) (m.flatMap (C.cel t))=some ((l.zip m).all fun p=>C.beq t p.1 p.2)
 | [],[],_=>rfl
 | x :: l,[],h=>by simp at h
 | [],y :: m,h=>by simp at h
 | x :: l, y :: m, h => by
  have:=eW (hC.kd t ks hk x y) (aMY hC hk l m (by simpa using h))
  simpa [rep,List.replicate_succ] using this
mutual
theorem aMZ {C:Cod τ} (hC:C.Ok):∀ (x y:TV τ) (ks:List Kd) (b:Bool),x.kds C=some ks→x.teq C y=some b→cD ks (x.cells C) (y.cells C)=some b
 | .int k a, .int k' b', ks, b, hk, h => by
  simp only [TV.kds,Option.some.injEq] at hk; subst hk
  simp only [TV.teq] at h
  cases hd:IntKind.eqb k k' with
  | false=>rw [hd] at h; cases h
  | true =>
   rw [hd] at h
   simp only [cond_true,Option.some.injEq] at h
   subst h
   have:=IntKind.eqb_eq hd; subst this
   simp [TV.cells,cD,eP]
 | .bool a, .bool b', ks, b, hk, h => by
  simp only [TV.kds,Option.some.injEq] at hk; subst hk
  simp only [TV.teq,Option.some.injEq] at h
  subst h
  simp [TV.cells,cD,eP]
 | .str a, .str b', ks, b, hk, h => by
  simp only [TV.kds,Option.some.injEq] at hk; subst hk
  simp only [TV.teq,Option.some.injEq] at h
  subst h
  simp [TV.cells,cD,eP]
 | .agg l, .agg l', ks, b, hk, h => by
  simp only [TV.kds] at hk
  simp only [TV.teq] at h
  simp only [TV.cells]
  exact aM0 hC l l' ks b hk h
 | .arr t n v, .arr t' n' v', ks, b, hk, h => by
  simp only [TV.kds,Option.map_eq_some_iff] at hk
  obtain ⟨ks',hk',rfl⟩:=hk
  simp only [TV.teq] at h
  split at h
  ·rename_i hd
   obtain ⟨rfl,rfl⟩:=hd
   simp only [Option.some.injEq] at h
   subst h
   have:=aMY hC hk' v.toList v'.toList (by simp)
   simp only [Vector.length_toList] at this
   simp only [TV.cells,this]; rfl
  ·cases h
 | .int _ _,.bool _,_,_,_,h | .int _ _,.str _,_,_,_,h | .int _ _,.nil _,_,_,_,h | .int _ _,.agg _,_,_,_,h | .int _ _,.arr _ _ _,_,_,_,h | .int _ _,.sl _ _ _,_,_,_,h
 | .int _ _,.ptr _ _,_,_,_,h | .int _ _,.ipt _,_,_,_,h | .int _ _,.ls _ _,_,_,_,h | .int _ _,.msl _ _ _,_,_,_,h | .int _ _,.wsl _ _ _ _ _ _,_,_,_,h | .int _ _,.hsl _ _ _ _ _ _,_,_,_,h | .int _ _,.hptr _ _ _,_,_,_,h | .int _ _,.any1,_,_,_,h | .int _ _,.yld _,_,_,_,h | .int _ _,.fn _ _,_,_,_,h | .int _ _,.tup _,_,_,_,h | .int _ _,.cnd _ _ _ _,_,_,_,h | .int _ _,.junk,_,_,_,h  => by simp [TV.teq] at h
 | .bool _,.int _ _,_,_,_,h | .bool _,.str _,_,_,_,h | .bool _,.nil _,_,_,_,h | .bool _,.agg _,_,_,_,h | .bool _,.arr _ _ _,_,_,_,h | .bool _,.sl _ _ _,_,_,_,h
 | .bool _,.ptr _ _,_,_,_,h | .bool _,.ipt _,_,_,_,h | .bool _,.ls _ _,_,_,_,h | .bool _,.msl _ _ _,_,_,_,h | .bool _,.wsl _ _ _ _ _ _,_,_,_,h | .bool _,.hsl _ _ _ _ _ _,_,_,_,h | .bool _,.hptr _ _ _,_,_,_,h | .bool _,.any1,_,_,_,h | .bool _,.yld _,_,_,_,h | .bool _,.fn _ _,_,_,_,h | .bool _,.tup _,_,_,_,h | .bool _,.cnd _ _ _ _,_,_,_,h | .bool _,.junk,_,_,_,h  => by simp [TV.teq] at h
 | .str _,.int _ _,_,_,_,h | .str _,.bool _,_,_,_,h | .str _,.nil _,_,_,_,h | .str _,.agg _,_,_,_,h | .str _,.arr _ _ _,_,_,_,h | .str _,.sl _ _ _,_,_,_,h
 | .str _,.ptr _ _,_,_,_,h | .str _,.ipt _,_,_,_,h | .str _,.ls _ _,_,_,_,h | .str _,.msl _ _ _,_,_,_,h | .str _,.wsl _ _ _ _ _ _,_,_,_,h | .str _,.hsl _ _ _ _ _ _,_,_,_,h | .str _,.hptr _ _ _,_,_,_,h | .str _,.any1,_,_,_,h | .str _,.yld _,_,_,_,h | .str _,.fn _ _,_,_,_,h | .str _,.tup _,_,_,_,h | .str _,.cnd _ _ _ _,_,_,_,h | .str _,.junk,_,_,_,h  => by simp [TV.teq] at h
 | .agg _,.int _ _,_,_,_,h | .agg _,.bool _,_,_,_,h | .agg _,.str _,_,_,_,h | .agg _,.nil _,_,_,_,h | .agg _,.arr _ _ _,_,_,_,h | .agg _,.sl _ _ _,_,_,_,h
 | .agg _,.ptr _ _,_,_,_,h | .agg _,.ipt _,_,_,_,h | .agg _,.ls _ _,_,_,_,h | .agg _,.msl _ _ _,_,_,_,h | .agg _,.wsl _ _ _ _ _ _,_,_,_,h | .agg _,.hsl _ _ _ _ _ _,_,_,_,h | .agg _,.hptr _ _ _,_,_,_,h | .agg _,.any1,_,_,_,h | .agg _,.yld _,_,_,_,h | .agg _,.fn _ _,_,_,_,h | .agg _,.tup _,_,_,_,h | .agg _,.cnd _ _ _ _,_,_,_,h | .agg _,.junk,_,_,_,h  => by simp [TV.teq] at h
 | .arr _ _ _,.int _ _,_,_,_,h | .arr _ _ _,.bool _,_,_,_,h | .arr _ _ _,.str _,_,_,_,h | .arr _ _ _,.nil _,_,_,_,h | .arr _ _ _,.agg _,_,_,_,h | .arr _ _ _,.sl _ _ _,_,_,_,h
 | .arr _ _ _,.ptr _ _,_,_,_,h | .arr _ _ _,.ipt _,_,_,_,h | .arr _ _ _,.ls _ _,_,_,_,h | .arr _ _ _,.msl _ _ _,_,_,_,h | .arr _ _ _,.wsl _ _ _ _ _ _,_,_,_,h | .arr _ _ _,.hsl _ _ _ _ _ _,_,_,_,h | .arr _ _ _,.hptr _ _ _,_,_,_,h | .arr _ _ _,.any1,_,_,_,h | .arr _ _ _,.yld _,_,_,_,h | .arr _ _ _,.fn _ _,_,_,_,h | .arr _ _ _,.tup _,_,_,_,h | .arr _ _ _,.cnd _ _ _ _,_,_,_,h | .arr _ _ _,.junk,_,_,_,h  => by simp [TV.teq] at h
 | .nil _,_,_,_,hk,_ | .sl _ _ _,_,_,_,hk,_ | .ptr _ _,_,_,_,hk,_ | .ipt _,_,_,_,hk,_ | .ls _ _,_,_,_,hk,_ | .msl _ _ _,_,_,_,hk,_ | .wsl _ _ _ _ _ _,_,_,_,hk,_ | .hsl _ _ _ _ _ _,_,_,_,hk,_ | .hptr _ _ _,_,_,_,hk,_ | .any1,_,_,_,hk,_ | .yld _,_,_,_,hk,_ | .fn _ _,_,_,_,hk,_ | .tup _,_,_,_,hk,_ | .cnd _ _ _ _,_,_,_,hk,_ | .junk,_,_,_,hk,_  => by simp [TV.kds] at hk
theorem aM0 {C:Cod τ} (hC:C.Ok):∀ (l l':List (TV τ)) (ks:List Kd) (b:Bool),TV.kdsL C l=some ks→TV.teqL C l l'=some b→cD ks (TV.cellsL C l) (TV.cellsL C l')=some b
 | [], [], ks, b, hk, h => by
  simp only [TV.kdsL,Option.some.injEq] at hk; subst hk
  simp only [TV.teqL,Option.some.injEq] at h; subst h
  rfl
 | x :: r, y :: r', ks, b, hk, h => by
  simp only [TV.kdsL] at hk
  split at hk
  ·rename_i k1 k2 hk1 hk2
   simp only [Option.some.injEq] at hk; subst hk
   have key:∀ c d,TV.teq C x y=some c→TV.teqL C r r'=some d→cD (k1++k2) (TV.cellsL C (x :: r)) (TV.cellsL C (y :: r'))=some (c&&d):=fun c d hc hd=>by
    simp only [TV.cellsL]
    exact eW (aMZ hC x y k1 c hk1 hc) (aM0 hC r r' k2 d hk2 hd)
   cases r with
   | nil =>
    cases r' with
    | nil =>
     simp only [TV.teqL] at h
     have:=key b true h rfl
     simpa using this
    | cons z r' =>
     simp only [TV.teqL] at h
     split at h
     ·rename_i c d hc hd; cases h; exact key c d hc hd
     ·cases h
   | cons z r =>
    simp only [TV.teqL] at h
    split at h
    ·rename_i c d hc hd; cases h; exact key c d hc hd
    ·cases h
  ·cases hk
 | [],_ :: _,_,_,_,h=>by simp [TV.teqL] at h
 | _ :: _,[],_,_,_,h=>by simp [TV.teqL] at h
end
end
end Go.Ev
