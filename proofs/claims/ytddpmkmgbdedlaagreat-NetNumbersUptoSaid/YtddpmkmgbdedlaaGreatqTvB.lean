/-
The typed layer: writing into a tree;comparing;zero values.
-/
import Derived.Test.YtddpmkmgbdedlaaGreatqTvA
set_option linter.unusedVariables false
set_option linter.unusedSimpArgs false
namespace Go.Ev
open Go
section
variable {τ:Nat→Type}
theorem mo (A B D ys:List AV)(o:Nat)(h:o+ys.length≤B.length):wr (A++B++D) (A.length+o) ys=A++wr B o ys++D:=by
 unfold wr
 rw[List.append_assoc A B D,List.take_length_add_append,show A.length+o+ys.length=A.length+(o+ys.length) by omega,List.drop_length_add_append]
 rw[List.take_append_of_le_length (by omega),List.drop_append_of_le_length (by omega)]
 simp
theorem QD {α:Type}:∀ (l:List α) (k:Nat) (z:α),l[k]?=some z→l=l.take k++[z]++l.drop (k+1)∧∀ y,l.set k y=l.take k++[y]++l.drop (k+1)
 |[],k,z,h=>by simp at h
 |x :: r,0,z,h=>by simp at h;subst h;simp
 |x :: r,k+1,z,h=>by
  obtain⟨h1,h2⟩:=QD r k z (by simpa using h)
  refine⟨?_,fun y=>?_⟩
  ·simp only[List.take_succ_cons,List.drop_succ_cons,List.cons_append]
   exact congrArg _ h1
  ·simp only[List.set_cons_succ,List.take_succ_cons,List.drop_succ_cons,List.cons_append]
   exact congrArg _ (h2 y)
theorem CW.mid {A B B' D:List AV}(h:CW B B'):CW (A++B++D) (A++B'++D):=((CW.refl A).append h).append (.refl D)
theorem Zq {C:eY τ}(hC:C.Ok):∀ (p:List Step) (x y x':TV τ),x.eQ C p y=some x'→Ej p=true →
  x'.size C=x.size C∧oF p+y.size C≤x.size C∧CW (wr (x.cells C) (oF p) (y.cells C)) (x'.cells C)∧y.ok=true
 |[],x,y,x',h,_=>by
  simp only[TV.eQ]at h
  cases hd:((x.size C==y.size C)&&y.ok) with
  |false=>rw[hd]at h;cases h
  |true =>
   rw[hd]at h
   simp only[cond_true,Option.some.injEq]at h
   subst h
   simp only[Bool.and_eq_true,beq_iff_eq]at hd
   refine⟨hd.1.symm,by simp[oF,hd.1],?_,hd.2⟩
   have:wr (x.cells C) (oF []) (y.cells C)=y.cells C:=by
    unfold wr
    rw[List.drop_eq_nil_of_le (by simp[oF,cS hC,hd.1])]
    simp[oF]
   rw[this];exact .refl _
 |.sS k d :: p,.agg l,y,x',h,hb=>by
  simp only[TV.eQ]at h
  cases hd:TV.rF C (l.take k)==d with
  |false=>rw[hd]at h;cases h
  |true =>
   rw[hd]at h
   simp only[cond_true]at h
   have hd':TV.rF C (l.take k)=d:=by simpa using hd
   split at h
   ·rename_i z hz
    split at h
    ·rename_i z' hz'
     simp only[Option.some.injEq]at h
     subst h
     simp only[Ej,Step.V4,Bool.true_and]at hb
     obtain⟨h1,h2,h3,h4⟩:=Zq hC p z y z' hz' hb
     obtain⟨e1,e2⟩:=QD l k z hz
     have G0:∀ w,TV.gL C (l.take k++[w]++l.drop (k+1))=TV.gL C (l.take k)++w.cells C++TV.gL C (l.drop (k+1)):=fun w=>by
      rw[Vq,Vq];simp only[TV.gL,List.append_nil]
     have hsw:∀ w,TV.rF C (l.take k++[w]++l.drop (k+1))=TV.rF C (l.take k)+w.size C+TV.rF C (l.drop (k+1)):=fun w=>by
      rw[CN,CN];simp only[TV.rF,Nat.add_zero]
     have RL:=(congrArg (TV.gL C) e1).trans (G0 z)
     have Tr:=(congrArg (TV.gL C) (e2 z')).trans (G0 z')
     have Bw:=(congrArg (TV.rF C) e1).trans (hsw z)
     have hss:=(congrArg (TV.rF C) (e2 z')).trans (hsw z')
     simp only[TV.size,TV.cells,oF,Step.off]
     refine⟨by omega,by omega,?_,h4⟩
     rw[RL,Tr,← hd',← Wh hC (l.take k),mo _ _ _ _ _ (by rw[cS hC,cS hC];exact h2)]
     exact h3.mid
    ·cases h
   ·cases h
 |.idx i m s :: p,.arr t n v,y,x',h,hb=>by
  simp only[TV.eQ]at h
  cases hd:(m==n&&s==C.sz t) with
  |false=>rw[hd]at h;cases h
  |true =>
   rw[hd]at h
   simp only[cond_true]at h
   simp only[Bool.and_eq_true,beq_iff_eq]at hd
   simp only[Ej,Step.V4,Bool.and_eq_true,decide_eq_true_eq]at hb
   split at h
   ·rename_i z' hz'
    split at h
    ·rename_i a ha
     simp only[Option.some.injEq]at h
     subst h
     obtain⟨h1,h2,h3,h4⟩:=Zq hC p _ y z' hz' hb.2
     have Ch:(C.enc t (iK v i (C.df t))).size C=C.sz t:=by rw[← cS hC,hC.cel,hC.len]
     rw[Ch]at h1 h2
     rw[hC.cel]at h3
     have hlen:i < v.toList.length:=by simpa[← hd.1] using hb.1
     have hz:v.toList[i]?=some (iK v i (C.df t)):=by simp[iK,List.getElem?_eq_getElem hlen]
     obtain⟨e1,e2⟩:=QD v.toList i _ hz
     have pe:(NO v i a).toList=v.toList.take i++[a]++v.toList.drop (i+1):=by
      rw[← e2 a]
      simp[NO]
     have Rs:((v.toList.take i).flatMap (C.cel t)).length=i * C.sz t:=by
      have:∀ l:List (τ t),(l.flatMap (C.cel t)).length=l.length * C.sz t:=fun l=>by
       induction l with
       |nil=>simp
       |cons x l ih=>simp[ih,hC.len,Nat.add_mul,Nat.add_comm]
      rw[this,List.length_take,Nat.min_eq_left (by omega)]
     have RL:v.toList.flatMap (C.cel t)=(v.toList.take i).flatMap (C.cel t)++C.cel t (iK v i (C.df t))++(v.toList.drop (i+1)).flatMap (C.cel t):=by
      conv=>lhs;rw[e1]
      simp
     have Tr:(NO v i a).toList.flatMap (C.cel t)=(v.toList.take i).flatMap (C.cel t)++C.cel t a++(v.toList.drop (i+1)).flatMap (C.cel t):=by
      rw[pe]
      simp
     have hi:i * C.sz t+C.sz t≤n * C.sz t:=by
      have:i+1≤n:=Nat.succ_le_of_lt (by simpa using hlen)
      calc i * C.sz t+C.sz t=(i+1) * C.sz t:=by rw[Nat.add_mul,Nat.one_mul]
       _≤n * C.sz t:=Nat.mul_le_mul_right _ this
     simp only[TV.size,TV.cells,oF,Step.off]
     rw[hd.2]
     refine⟨trivial,by omega,?_,h4⟩
     rw[RL,Tr,← Rs,mo _ _ _ _ _ (by rw[hC.len,cS hC];exact h2)]
     exact (h3.trans (hC.dec t z' a ha)).mid
    ·cases h
   ·cases h
 |.sS _ _ :: _,.int _ _,_,_,h,_ | .sS _ _ :: _,.bool _,_,_,h,_ | .sS _ _ :: _,.str _,_,_,h,_ | .sS _ _ :: _,.nil _,_,_,h,_ | .sS _ _ :: _,.arr _ _ _,_,_,h,_
 |.sS _ _ :: _,.sl _ _ _,_,_,h,_ | .sS _ _ :: _,.ptr _ _,_,_,h,_ | .sS _ _ :: _,.LY _,_,_,h,_ | .sS _ _ :: _,.ls _ _,_,_,h,_ | .sS _ _ :: _,.mS _ _ _,_,_,h,_ | .sS _ _ :: _,.nG _ _ _ _ _ _,_,_,h,_ | .sS _ _ :: _,.Bw _ _ _ _ _ _,_,_,h,_ | .sS _ _ :: _,.qO _ _ _,_,_,h,_ | .sS _ _ :: _,.kQ,_,_,h,_ | .sS _ _ :: _,.Ar _,_,_,h,_ | .sS _ _ :: _,.fn _ _,_,_,h,_ | .sS _ _ :: _,.jE _,_,_,h,_ | .sS _ _ :: _,.yK _ _ _ _,_,_,h,_ | .sS _ _ :: _,.aZ,_,_,h,_  => by simp[TV.eQ]at h
 |.idx _ _ _ :: _,.int _ _,_,_,h,_ | .idx _ _ _ :: _,.bool _,_,_,h,_ | .idx _ _ _ :: _,.str _,_,_,h,_ | .idx _ _ _ :: _,.nil _,_,_,h,_ | .idx _ _ _ :: _,.agg _,_,_,h,_
 |.idx _ _ _ :: _,.sl _ _ _,_,_,h,_ | .idx _ _ _ :: _,.ptr _ _,_,_,h,_ | .idx _ _ _ :: _,.LY _,_,_,h,_ | .idx _ _ _ :: _,.ls _ _,_,_,h,_ | .idx _ _ _ :: _,.mS _ _ _,_,_,h,_ | .idx _ _ _ :: _,.nG _ _ _ _ _ _,_,_,h,_ | .idx _ _ _ :: _,.Bw _ _ _ _ _ _,_,_,h,_ | .idx _ _ _ :: _,.qO _ _ _,_,_,h,_ | .idx _ _ _ :: _,.kQ,_,_,h,_ | .idx _ _ _ :: _,.Ar _,_,_,h,_ | .idx _ _ _ :: _,.fn _ _,_,_,h,_ | .idx _ _ _ :: _,.jE _,_,_,h,_ | .idx _ _ _ :: _,.yK _ _ _ _,_,_,h,_ | .idx _ _ _ :: _,.aZ,_,_,h,_  => by simp[TV.eQ]at h
 |.el _ _ :: _,x,_,_,h,_=>by cases x<;>simp[TV.eQ]at h
def rN {α:Type}{n:Nat}(f:α→α→Bool)(v w:Vector α n):Bool:=(v.toList.zip w.toList).all fun p=>f p.1 p.2
def rep (n:Nat)(ks:List Kd):List Kd:=(List.replicate n ks).flatten
mutual
def TV.kds (C:eY τ):TV τ→Option (List Kd)
 |.int _ _=>some [.i]
 |.bool _=>some [.b]
 |.str _=>some [.s]
 |.agg l=>TV.aAB C l
 |.arr t n _=>(C.kd t).map (rep n)
 |_=>none
def TV.aAB (C:eY τ):List (TV τ)→Option (List Kd)
 |[]=>some []
 |x :: r=>match TV.kds C x,TV.aAB C r with
  |some a,some b=>some (a++b)
  |_,_=>none
end
def IntKind.IS:IntKind→IntKind→Bool
 |.i8,.i8 | .i16,.i16 | .i32,.i32 | .i64,.i64 | .u8,.u8 | .u16,.u16 | .u32,.u32 | .u64,.u64=>true
 |_,_=>false
theorem IntKind.LL {a b:IntKind}(h:IntKind.IS a b=true):a=b:=by cases a<;>cases b<;>simp[IntKind.IS]at h<;>rfl
mutual
def TV.mj (C:eY τ):TV τ→TV τ→Option Bool
 |.int k a,.int k' b=>bif IntKind.IS k k' then some (a==b) else none
 |.bool a,.bool b=>some (a==b)
 |.str a,.str b=>some (a==b)
 |.agg l,.agg l'=>TV.C5 C l l'
 |.arr t n v,.arr t' n' v'=>if h:t=t'∧n=n' then some (rN (C.beq t') (h.1▸h.2▸v) v') else none
 |_,_=>none
def TV.C5 (C:eY τ):List (TV τ)→List (TV τ)→Option Bool
 |[],[]=>some true
 |[x],[y]=>TV.mj C x y
 |x :: r,y :: r'=>match TV.mj C x y,TV.C5 C r r' with
  |some a,some b=>some (a&&b)
  |_,_=>none
 |_,_=>none
end
theorem cZ:∀ {ks ug:List Kd} {l l' m m':List AV} {a b:Bool},eN ks l m=some a→eN ug l' m'=some b→eN (ks++ug) (l++l') (m++m')=some (a&&b)
 |ks,ug,l,l',m,m',a,b,h,h'=>by
  induction ks generalizing l m a with
  |nil =>
   cases l<;>cases m<;>simp[eN]at h
   subst h;simpa using h'
  |cons k ks ih =>
   cases l with
   |nil=>simp[eN]at h
   |cons x l =>
    cases m with
    |nil=>cases x<;>simp[eN]at h
    |cons y m =>
     cases x<;>cases y<;>simp only[eN]at h<;>first
      |(cases h;done)
      |skip
     split at h
     ·rename_i c d hc hd
      cases h
      simp only[List.cons_append,eN,hc,ih _ _ _ hd,Bool.and_assoc]
     ·cases h
theorem UE {C:eY τ}(hC:C.Ok){t:Nat}{ks:List Kd}(hk:C.kd t=some ks):∀ (l m:List (τ t)),l.length=m.length →
  eN (rep l.length ks) (l.flatMap (C.cel t)) (m.flatMap (C.cel t))=some ((l.zip m).all fun p=>C.beq t p.1 p.2)
 |[],[],_=>rfl
 |x :: l,[],h=>by simp at h
 |[],y :: m,h=>by simp at h
 |x :: l,y :: m,h=>by
  have:=cZ (hC.kd t ks hk x y) (UE hC hk l m (by simpa using h))
  simpa[rep,List.replicate_succ] using this
mutual
theorem J6 {C:eY τ}(hC:C.Ok):∀ (x y:TV τ) (ks:List Kd) (b:Bool),x.kds C=some ks→x.mj C y=some b→eN ks (x.cells C) (y.cells C)=some b
 |.int k a,.int k' b',ks,b,hk,h=>by
  simp only[TV.kds,Option.some.injEq]at hk;subst hk
  simp only[TV.mj]at h
  cases hd:IntKind.IS k k' with
  |false=>rw[hd]at h;cases h
  |true =>
   rw[hd]at h
   simp only[cond_true,Option.some.injEq]at h
   subst h
   have:=IntKind.LL hd;subst this
   simp[TV.cells,eN,Xn]
 |.bool a,.bool b',ks,b,hk,h=>by
  simp only[TV.kds,Option.some.injEq]at hk;subst hk
  simp only[TV.mj,Option.some.injEq]at h
  subst h
  simp[TV.cells,eN,Xn]
 |.str a,.str b',ks,b,hk,h=>by
  simp only[TV.kds,Option.some.injEq]at hk;subst hk
  simp only[TV.mj,Option.some.injEq]at h
  subst h
  simp[TV.cells,eN,Xn]
 |.agg l,.agg l',ks,b,hk,h=>by
  simp only[TV.kds]at hk
  simp only[TV.mj]at h
  simp only[TV.cells]
  exact o5 hC l l' ks b hk h
 |.arr t n v,.arr t' n' v',ks,b,hk,h=>by
  simp only[TV.kds,Option.map_eq_some_iff]at hk
  obtain⟨ug,jR,rfl⟩:=hk
  simp only[TV.mj]at h
  split at h
  ·rename_i hd
   obtain⟨rfl,rfl⟩:=hd
   simp only[Option.some.injEq]at h
   subst h
   have:=UE hC jR v.toList v'.toList (by simp)
   simp only[Vector.length_toList]at this
   simp only[TV.cells,this];rfl
  ·cases h
 |.int _ _,.bool _,_,_,_,h | .int _ _,.str _,_,_,_,h | .int _ _,.nil _,_,_,_,h | .int _ _,.agg _,_,_,_,h | .int _ _,.arr _ _ _,_,_,_,h | .int _ _,.sl _ _ _,_,_,_,h
 |.int _ _,.ptr _ _,_,_,_,h | .int _ _,.LY _,_,_,_,h | .int _ _,.ls _ _,_,_,_,h | .int _ _,.mS _ _ _,_,_,_,h | .int _ _,.nG _ _ _ _ _ _,_,_,_,h | .int _ _,.Bw _ _ _ _ _ _,_,_,_,h | .int _ _,.qO _ _ _,_,_,_,h | .int _ _,.kQ,_,_,_,h | .int _ _,.Ar _,_,_,_,h | .int _ _,.fn _ _,_,_,_,h | .int _ _,.jE _,_,_,_,h | .int _ _,.yK _ _ _ _,_,_,_,h | .int _ _,.aZ,_,_,_,h  => by simp[TV.mj]at h
 |.bool _,.int _ _,_,_,_,h | .bool _,.str _,_,_,_,h | .bool _,.nil _,_,_,_,h | .bool _,.agg _,_,_,_,h | .bool _,.arr _ _ _,_,_,_,h | .bool _,.sl _ _ _,_,_,_,h
 |.bool _,.ptr _ _,_,_,_,h | .bool _,.LY _,_,_,_,h | .bool _,.ls _ _,_,_,_,h | .bool _,.mS _ _ _,_,_,_,h | .bool _,.nG _ _ _ _ _ _,_,_,_,h | .bool _,.Bw _ _ _ _ _ _,_,_,_,h | .bool _,.qO _ _ _,_,_,_,h | .bool _,.kQ,_,_,_,h | .bool _,.Ar _,_,_,_,h | .bool _,.fn _ _,_,_,_,h | .bool _,.jE _,_,_,_,h | .bool _,.yK _ _ _ _,_,_,_,h | .bool _,.aZ,_,_,_,h  => by simp[TV.mj]at h
 |.str _,.int _ _,_,_,_,h | .str _,.bool _,_,_,_,h | .str _,.nil _,_,_,_,h | .str _,.agg _,_,_,_,h | .str _,.arr _ _ _,_,_,_,h | .str _,.sl _ _ _,_,_,_,h
 |.str _,.ptr _ _,_,_,_,h | .str _,.LY _,_,_,_,h | .str _,.ls _ _,_,_,_,h | .str _,.mS _ _ _,_,_,_,h | .str _,.nG _ _ _ _ _ _,_,_,_,h | .str _,.Bw _ _ _ _ _ _,_,_,_,h | .str _,.qO _ _ _,_,_,_,h | .str _,.kQ,_,_,_,h | .str _,.Ar _,_,_,_,h | .str _,.fn _ _,_,_,_,h | .str _,.jE _,_,_,_,h | .str _,.yK _ _ _ _,_,_,_,h | .str _,.aZ,_,_,_,h  => by simp[TV.mj]at h
 |.agg _,.int _ _,_,_,_,h | .agg _,.bool _,_,_,_,h | .agg _,.str _,_,_,_,h | .agg _,.nil _,_,_,_,h | .agg _,.arr _ _ _,_,_,_,h | .agg _,.sl _ _ _,_,_,_,h
 |.agg _,.ptr _ _,_,_,_,h | .agg _,.LY _,_,_,_,h | .agg _,.ls _ _,_,_,_,h | .agg _,.mS _ _ _,_,_,_,h | .agg _,.nG _ _ _ _ _ _,_,_,_,h | .agg _,.Bw _ _ _ _ _ _,_,_,_,h | .agg _,.qO _ _ _,_,_,_,h | .agg _,.kQ,_,_,_,h | .agg _,.Ar _,_,_,_,h | .agg _,.fn _ _,_,_,_,h | .agg _,.jE _,_,_,_,h | .agg _,.yK _ _ _ _,_,_,_,h | .agg _,.aZ,_,_,_,h  => by simp[TV.mj]at h
 |.arr _ _ _,.int _ _,_,_,_,h | .arr _ _ _,.bool _,_,_,_,h | .arr _ _ _,.str _,_,_,_,h | .arr _ _ _,.nil _,_,_,_,h | .arr _ _ _,.agg _,_,_,_,h | .arr _ _ _,.sl _ _ _,_,_,_,h
 |.arr _ _ _,.ptr _ _,_,_,_,h | .arr _ _ _,.LY _,_,_,_,h | .arr _ _ _,.ls _ _,_,_,_,h | .arr _ _ _,.mS _ _ _,_,_,_,h | .arr _ _ _,.nG _ _ _ _ _ _,_,_,_,h | .arr _ _ _,.Bw _ _ _ _ _ _,_,_,_,h | .arr _ _ _,.qO _ _ _,_,_,_,h | .arr _ _ _,.kQ,_,_,_,h | .arr _ _ _,.Ar _,_,_,_,h | .arr _ _ _,.fn _ _,_,_,_,h | .arr _ _ _,.jE _,_,_,_,h | .arr _ _ _,.yK _ _ _ _,_,_,_,h | .arr _ _ _,.aZ,_,_,_,h  => by simp[TV.mj]at h
 |.nil _,_,_,_,hk,_ | .sl _ _ _,_,_,_,hk,_ | .ptr _ _,_,_,_,hk,_ | .LY _,_,_,_,hk,_ | .ls _ _,_,_,_,hk,_ | .mS _ _ _,_,_,_,hk,_ | .nG _ _ _ _ _ _,_,_,_,hk,_ | .Bw _ _ _ _ _ _,_,_,_,hk,_ | .qO _ _ _,_,_,_,hk,_ | .kQ,_,_,_,hk,_ | .Ar _,_,_,_,hk,_ | .fn _ _,_,_,_,hk,_ | .jE _,_,_,_,hk,_ | .yK _ _ _ _,_,_,_,hk,_ | .aZ,_,_,_,hk,_  => by simp[TV.kds]at hk
theorem o5 {C:eY τ}(hC:C.Ok):∀ (l l':List (TV τ)) (ks:List Kd) (b:Bool),TV.aAB C l=some ks→TV.C5 C l l'=some b→eN ks (TV.gL C l) (TV.gL C l')=some b
 |[],[],ks,b,hk,h=>by
  simp only[TV.aAB,Option.some.injEq]at hk;subst hk
  simp only[TV.C5,Option.some.injEq]at h;subst h
  rfl
 |x :: r,y :: r',ks,b,hk,h=>by
  simp only[TV.aAB]at hk
  split at hk
  ·rename_i k1 k2 XI KO
   simp only[Option.some.injEq]at hk;subst hk
   have key:∀ c d,TV.mj C x y=some c→TV.C5 C r r'=some d→eN (k1++k2) (TV.gL C (x :: r)) (TV.gL C (y :: r'))=some (c&&d):=fun c d hc hd=>by
    simp only[TV.gL]
    exact cZ (J6 hC x y k1 c XI hc) (o5 hC r r' k2 d KO hd)
   cases r with
   |nil =>
    cases r' with
    |nil =>
     simp only[TV.C5]at h
     have:=key b true h rfl
     simpa using this
    |cons z r' =>
     simp only[TV.C5]at h
     split at h
     ·rename_i c d hc hd;cases h;exact key c d hc hd
     ·cases h
   |cons z r =>
    simp only[TV.C5]at h
    split at h
    ·rename_i c d hc hd;cases h;exact key c d hc hd
    ·cases h
  ·cases hk
 |[],_ :: _,_,_,_,h=>by simp[TV.C5]at h
 |_ :: _,[],_,_,_,h=>by simp[TV.C5]at h
end
end
end Go.Ev
