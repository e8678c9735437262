/-
The typed layer: operations that read and write memory,and that they are what the model does.
-/
import Derived.Test.YtddpmkmgbdedlaaGreatqTvB
set_option linter.unusedVariables false
set_option linter.unusedSimpArgs false
namespace Go.Ev
open Go
structure fA (τ:Nat→Type) where
 E:Env
 C:eY τ
 zero:TypeId→Option (TV τ)
structure jG (τ:Nat→Type) where
 r:TV τ
 U:List (Nat×bD τ):=[]
 F:List Nat:=[]
 ob:Option Bool:=none
section
variable {τ:Nat→Type}
structure fA.Ok (D:fA τ):Prop where
 E:D.E.Ok
 Q:D.E.fp
 C:D.C.Ok
 zero:∀ t x,D.zero t=some x→∃ i,D.E.ty t=some i∧x.ok=true∧CW i.zero (x.cells D.C)∧x.isAgg=i.agg
theorem fC.aDp {g:Gh}{H:Nat→dD}{w:World}(h:eR g H w)(H':Nat→dD)(hH:∀ k,H' k=H k∨∃ l l',H k=.box l∧H' k=.box l'∧CW l l'):fC g H w g H' w:=by
 have eE:∀ k,(H' k).live→(H k).live:=fun k hk=>by
  rcases hH k with e|⟨l,l',e,e',_⟩
  ·rw[← e];exact hk
  ·rw[e];trivial
 refine⟨g.le_refl,⟨h.AY,fun k=>?_,fun k hk=>?_,fun k k' x x' dF hl oI e e'=>h.inj k k' x x' dF (eE k hl) (eE k' oI) e e'⟩,.refl _ _,fun _ _ _ e=>.inl e,
  fun k b lo n hl e=>.inr ⟨k,lo,n,eE k hl,e,Nat.le_refl _⟩⟩
 ·rcases hH k with e|⟨l,l',e,e',hw⟩
  ·rw[e];exact h.zD k
  ·rw[e']
   have:=h.zD k
   rw[e]at this
   obtain⟨b,n,cs,T,fr,e1,e2,e3,e4,e5,e6,e7⟩:=this
   refine⟨b,n,cs,T,fr,e1,e2,e3,e4,by rw[← hw.1];exact e5,fun j y hy=>?_,e7⟩
   have hj:j < l.length:=by
    rw[hw.1]
    rcases Nat.lt_or_ge j l'.length with h' | h'
    ·exact h'
    ·rw[List.getElem?_eq_none h']at hy;cases hy
   obtain⟨c,h1,h2⟩:=e6 j l[j] (List.getElem?_eq_getElem hj)
   exact⟨c,h1,hw.2 j _ y (List.getElem?_eq_getElem hj) hy g c h2⟩
 ·rcases hH k with e|⟨l,l',e,e',_⟩
  ·exact h.fresh k (e▸hk)
  ·rw[e']at hk;cases hk
theorem Fe {g:Gh}{id:Nat}{p:List Step}{v:Value}(h:aF g (yT id p) v):Ej p=true∧aF g (.ptr id (oF p)) v:=by
 unfold yT at h
 cases hb:Ej p with
 |true=>rw[hb]at h;exact⟨rfl,h⟩
 |false=>rw[hb]at h;exact (XO h).elim
theorem W.sl {sz:Nat}{tok:Tok}{xs ys:List (List AV)}(hl:xs.length=ys.length)(h:∀ (i:Nat) (a b:List AV),xs[i]?=some a→ys[i]?=some b→CW a b):W (.sl sz xs tok) (.sl sz ys tok):=by
 intro g v hv
 have mz:∀ (i:Nat) (b:List AV),ys[i]?=some b→∃ a,xs[i]?=some a∧CW a b:=fun i b hb=>by
  have hi:i < xs.length:=by
   rw[hl]
   rcases Nat.lt_or_ge i ys.length with h' | h'
   ·exact h'
   ·rw[List.getElem?_eq_none h']at hb;cases hb
  exact⟨_,List.getElem?_eq_getElem hi,h i _ b (List.getElem?_eq_getElem hi) hb⟩
 have in':∀ (a b:List AV) (k:Nat) (y:AV),CW a b→b[k]?=some y→∃ x,a[k]?=some x∧W x y:=fun a b k y hw hy=>by
  have hk:k < a.length:=by
   rw[hw.1]
   rcases Nat.lt_or_ge k b.length with h' | h'
   ·exact h'
   ·rw[List.getElem?_eq_none h']at hy;cases hy
  exact⟨_,List.getElem?_eq_getElem hk,hw.2 k _ y (List.getElem?_eq_getElem hk) hy⟩
 cases hv with
 |sl c e1 e2 e3 e4 e5 e6 =>
  refine .sl c (hl▸e1) e2 (fun i b hb=>?_) (fun i b k y hb hy=>?_) (fun i b k y hb hy=>?_) e6
  ·obtain⟨a,ha,hw⟩:=mz i b hb
   rw[← hw.1];exact e3 i a ha
  ·obtain⟨a,ha,hw⟩:=mz i b hb
   obtain⟨x,hx,_⟩:=in' a b k y hw hy
   exact e4 i a k x ha hx
  ·obtain⟨a,ha,hw⟩:=mz i b hb
   obtain⟨x,hx,hxy⟩:=in' a b k y hw hy
   exact hxy g _ (e5 i a k x ha hx)
theorem W.rL {cells sub:List AV}{off:Nat}(h:CW (rd cells off sub.length) sub):W (.rL cells off) (.rL sub 0):=by
 intro g v hv
 cases hv with
 |rL c e1 e2 =>
  rename_i b o
  have mz:∀ (k:Nat) (y:AV),sub[k]?=some y→∃ x,cells[off+k]?=some x∧W x y:=fun k y hy=>by
   have hk:k < sub.length:=by
    rcases Nat.lt_or_ge k sub.length with h' | h'
    ·exact h'
    ·rw[List.getElem?_eq_none h']at hy;cases hy
   have jR:k < (rd cells off sub.length).length:=by rw[h.1];exact hk
   have hx:=List.getElem?_eq_getElem jR
   have Lm:=hx
   rw[uU,if_pos hk]at Lm
   exact⟨_,Lm,h.2 k _ y hx hy⟩
  refine .rL (off:=0) (o:=o+off) (fun k=>c (off+k)) (fun k y hy=>?_) (fun k y hy=>?_)
  ·obtain⟨x,hx,_⟩:=mz k y hy
   have:=e1 _ x hx
   rw[Nat.add_assoc];exact this
  ·obtain⟨x,hx,hw⟩:=mz k y hy
   exact hw g _ (e2 _ x hx)
theorem TC (C:eY τ)(t:Nat)(l:List (τ t))(k:SK):W (Gf C t l k) (.xA (C.sz t) (l.map (C.cel t))):=by
 intro g v hv
 cases k with
 |any=>exact hv
 |non=>exact .xA hv
 |nn=>cases hv with
  |VA hv _=>exact hv
 |tl id =>
  cases hv with
  |sl c e1 e2 e3 e4 e5 e6=>exact .xA (.sl c e1 e2 e3 e4 e5 trivial)
 |full =>
  cases hv with
  |sl c e1 e2 e3 e4 e5 e6=>exact .xA (.sl c e1 e2 e3 e4 e5 trivial)
 |q8 id =>
  simp only[Gf]at hv
  generalize hm:l.map (C.cel t)=m at hv
  cases hv with
  |LP=>exact .Jt
  |FF hv=>cases hv with
   |sl c e1 e2 e3 e4 e5 e6=>exact .xA (.sl c e1 e2 e3 e4 e5 trivial)
  |Tw hv=>cases hv with
   |sl c e1 e2 e3 e4 e5 e6=>exact .xA (.sl c e1 e2 e3 e4 e5 trivial)
 |own id =>
  simp only[Gf]at hv
  generalize hm:l.map (C.cel t)=m at hv
  cases hv with
  |LP=>exact .Jt
  |FF hv=>cases hv with
   |sl c e1 e2 e3 e4 e5 e6=>exact .xA (.sl c e1 e2 e3 e4 e5 trivial)
  |Tw hv=>cases hv with
   |sl c e1 e2 e3 e4 e5 e6=>exact .xA (.sl c e1 e2 e3 e4 e5 trivial)
theorem Ya (C:eY τ):∀ l:List (TV τ),TV.pW C l=l.map (TV.cells C)
 |[]=>rfl
 |x :: r=>by rw[TV.pW,List.map_cons,Ya C r]
def fits (C:eY τ)(i:TI)(y:TV τ):Bool:=(y.isAgg==i.agg)&&(y.size C==i.size)&&y.ok
def J5 (D:fA τ)(h:Nat→bD τ)(t:TypeId)(a:TV τ):Option (TV τ) :=
 match D.E.ty t with
 |none=>none
 |some i =>
  match a with
  |.ptr id p =>
   match h id with
   |.box x=>(match x.sub D.C p with|some y=>(bif fits D.C i y then some y else none) | none=>none)
   |.Aa x=>(match x.sub D.C p with|some y=>(bif fits D.C i y then some y else none) | none=>none)
   |_=>none
  |.LY y=>bif fits D.C i y then some y else none
  |_=>none
def aHb:TV τ→List Nat
 |.ptr id _=>[id]
 |_=>[]
theorem OW {D:fA τ}(hD:D.Ok){i:TI}{x y:TV τ}{p:List Step}(hs:x.sub D.C p=some y)(hb:Ej p=true)(hf:fits D.C i y=true) :
  (if i.agg then (if oF p+i.size≤(x.cells D.C).length then some (AV.agg (rd (x.cells D.C) (oF p) i.size)) else none) else (x.cells D.C)[oF p]?)=some (y.den D.C):=by
 obtain⟨h1,h2⟩:=Qu hD.C p x y hs hb
 simp only[fits,Bool.and_eq_true,beq_iff_eq]at hf
 obtain⟨⟨f1,f2⟩,f3⟩:=hf
 rw[cS hD.C,← f2,if_pos h2,h1]
 cases ha:i.agg with
 |true=>rw[if_pos rfl,AJ D.C (f1.trans ha)]
 |false =>
  rw[if_neg (by simp)]
  have hy:=Rj D.C (f1.trans ha) f3
  have hl:=cS hD.C y
  rw[hy]at h1 hl
  have:=uU (x.cells D.C) (oF p) (y.size D.C) 0
  rw[h1,if_pos (by simp at hl;omega)]at this
  simpa using this.symm
theorem dg {D:fA τ}(hD:D.Ok){g:Gh}{H:Nat→dD}{w:World}(hW:eR g H w){h:Nat→bD τ}{t:TypeId}{a r:TV τ}{va:Value}(hH:∀ id∈aHb a,H id=(h id).den D.C)
  (ha:aF g (a.den D.C) va) (hl:J5 D h t a=some r):∃ v,(Instr.loadAt t va).run D.E.P w=.ok v w∧aF g (r.den D.C) v:=by
 unfold J5 at hl
 split at hl
 ·cases hl
 ·rename_i i hi
  have key:∀ {id p x},(h id=.box x∨h id=.Aa x)→a=.ptr id p→(match x.sub D.C p with|some y=>(bif fits D.C i y then some y else none) | none=>none)=some r →
    ∃ v,(Instr.loadAt t va).run D.E.P w=.ok v w∧aF g (r.den D.C) v:=fun {id p x} hx hap hm=>by
   clear hl
   subst hap
   obtain⟨hb,ou⟩:=Fe ha
   split at hm
   ·rename_i y hy
    cases hf:fits D.C i y with
    |false=>rw[hf]at hm;cases hm
    |true =>
     rw[hf]at hm
     simp only[cond_true,Option.some.injEq]at hm
     subst hm
     refine Ow hD.E hW ou (t:=t) ?_
     have gY:=hH id (by simp[aHb])
     unfold Wa
     simp only[hi,Ur]
     rcases hx with hx|hx<;>(rw[hx]at gY;simp only[bD.den]at gY;rw[gY];exact OW hD hy hb hf)
   ·cases hm
  split at hl
  ·rename_i id p
   split at hl
   ·rename_i x hx;exact key (.inl hx) rfl hl
   ·rename_i x hx;exact key (.inr hx) rfl hl
   ·cases hl
  ·rename_i y
   cases hf:fits D.C i y with
   |false=>rw[hf]at hl;cases hl
   |true =>
    rw[hf]at hl
    simp only[cond_true,Option.some.injEq]at hl
    subst hl
    refine Ow hD.E hW ha (t:=t) ?_
    unfold Wa
    simp only[hi,TV.den,Ur]
    exact OW (p:=[]) hD rfl rfl hf
  ·cases hl
def mg (D:fA τ)(h:Nat→bD τ)(t:TypeId)(a x:TV τ):Option (Nat×bD τ) :=
 match D.E.ty t,a with
 |some i,.ptr id p =>
  match h id with
  |.box X=>bif x.size D.C==i.size then (match X.eQ D.C p x with|some X'=>some (id,.box X') | none=>none) else none
  |_=>none
 |_,_=>none
theorem U0 {D:fA τ}(hD:D.Ok){g:Gh}{H:Nat→dD}{w:World}(hW:eR g H w){h:Nat→bD τ}{t:TypeId}{a x:TV τ}{va vx:Value}{id:Nat}{e:bD τ}
  (hs:mg D h t a x=some (id,e)) (hH:H id=(h id).den D.C) (ha:aF g (a.den D.C) va) (hx:aF g (x.den D.C) vx) :
  ∃ w',(Instr.storeAt t va vx).run D.E.P w=.ok () w'∧fC g H w g (app H [(id,e.den D.C)]) w':=by
 unfold mg at hs
 split at hs
 ·rename_i i id' p hi
  split at hs
  ·rename_i X hX
   cases hd:x.size D.C==i.size with
   |false=>rw[hd]at hs;cases hs
   |true =>
    rw[hd]at hs
    simp only[cond_true]at hs
    have hd':x.size D.C=i.size:=by simpa using hd
    split at hs
    ·rename_i X' hX'
     simp only[Option.some.injEq,Prod.mk.injEq]at hs
     obtain⟨rfl,rfl⟩:=hs
     obtain⟨hb,ou⟩:=Fe ha
     obtain⟨h1,h2,h3,h4⟩:=Zq hD.C p X x X' hX' hb
     rw[hX]at hH
     simp only[bD.den]at hH
     have iP:IE D.E H t (.ptr id' (oF p)) (x.den D.C)=some [(id',.box (wr (X.cells D.C) (oF p) (x.cells D.C)))]:=by
      unfold IE
      rw[hi,Kg D.C h4]
      simp only[hH]
      rw[if_pos ⟨by rw[cS hD.C];exact hd',by rw[cS hD.C,cS hD.C];exact h2,II hD.C x h4⟩]
     obtain⟨w',k1,k2⟩:=KN hD.E hW ou hx iP
     refine⟨w',k1,k2.trans (fC.aDp k2.rel _ fun k=>?_)⟩
     simp only[app,bD.den]
     by_cases hk:k=id'
     ·subst hk;right;exact⟨_,_,aP _ _ _,aP _ _ _,h3⟩
     ·left;rw[aM _ _ hk,aM _ _ hk]
    ·cases hs
  ·cases hs
 ·cases hs
def me (D:fA τ)(h:Nat→bD τ)(t:TypeId)(id i s:Nat)(p:List Step):Option (jG τ) :=
 match D.E.ty t,h id with
 |some ti,.eD t' l=>bif s==D.C.sz t' then (match (D.C.enc t' (l.getD i (D.C.df t'))).sub D.C p with
  |some y=>bif fits D.C ti y then some { r:=y,F:=[id],ob:=some (decide (i < l.length)) } else none
  |none=>none) else none
 |_,_=>none
theorem iZ {C:eY τ}(hC:C.Ok){t:Nat}(l:List (τ t)):(l.flatMap (C.cel t)).length=l.length * C.sz t:=by
 induction l with
 |nil=>simp
 |cons x l ih=>simp[ih,hC.len,Nat.add_mul,Nat.add_comm]
theorem T7 {D:fA τ}(hD:D.Ok){g:Gh}{H:Nat→dD}{w:World}(hW:eR g H w){h:Nat→bD τ}{t:TypeId}{id i s:Nat}{p:List Step}{res:jG τ}{va:Value}(hH:∀ id∈res.F,H id=(h id).den D.C)
  (ha:aF g (yT id (.el i s :: p)) va) (hl:me D h t id i s p=some res) (jM:res.ob=none∨res.ob=some true):∃ v,(Instr.loadAt t va).run D.E.P w=.ok v w∧aF g (res.r.den D.C) v∧res.U=[]:=by
 unfold me at hl
 split at hl
 ·rename_i ti t' l hti hg
  cases hs:s==D.C.sz t' with
  |false=>rw[hs]at hl;cases hl
  |true =>
   rw[hs]at hl
   simp only[cond_true]at hl
   have UK:s=D.C.sz t':=by simpa using hs
   split at hl
   ·rename_i y hy
    cases hf:fits D.C ti y with
    |false=>rw[hf]at hl;cases hl
    |true =>
     rw[hf]at hl
     simp only[cond_true,Option.some.injEq]at hl
     subst hl
     have hi:i < l.length:=by simpa using jM
     obtain⟨hb,ou⟩:=Fe ha
     have RK:Ej p=true:=by simpa[Ej,Step.V4] using hb
     have gY:=hH id (by simp)
     rw[hg]at gY
     simp only[bD.den]at gY
     obtain⟨h1,h2⟩:=Qu hD.C p _ y hy RK
     have Ch:(D.C.enc t' (l.getD i (D.C.df t'))).size D.C=D.C.sz t':=by rw[← cS hD.C,hD.C.cel,hD.C.len]
     rw[Ch]at h2
     rw[hD.C.cel]at h1
     have aIX:=IF hD.C l i hi (D.C.df t')
     have hlen:=iZ hD.C l
     have hmul:i * D.C.sz t'+D.C.sz t'≤l.length * D.C.sz t':=by rw[← Nat.succ_mul];exact Nat.mul_le_mul_right _ hi
     have hrd:rd (l.flatMap (D.C.cel t')) (i * D.C.sz t'+oF p) (y.size D.C)=y.cells D.C:=by
      rw[← qn _ _ (D.C.sz t') _ _ (by omega),aIX];exact h1
     simp only[fits,Bool.and_eq_true,beq_iff_eq]at hf
     obtain⟨⟨f1,f2⟩,f3⟩:=hf
     have iP:Wa D.E H t (.ptr id (i * D.C.sz t'+oF p))=some (y.den D.C):=by
      unfold Wa
      simp only[hti,Ur,gY]
      cases hag:ti.agg with
      |true =>
       rw[if_pos rfl,if_pos (by rw[hlen,← f2];omega),← f2,hrd,AJ D.C (f1.trans hag)]
      |false =>
       rw[if_neg (by simp)]
       have hy':=Rj D.C (f1.trans hag) f3
       have oI:=cS hD.C y
       rw[hy']at hrd oI
       have:=uU (l.flatMap (D.C.cel t')) (i * D.C.sz t'+oF p) (y.size D.C) 0
       rw[hrd,if_pos (by simp at oI;omega)]at this
       simpa using this.symm
     have ha2:aF g (.ptr id (i * D.C.sz t'+oF p)) va:=by
      have:=ou
      simp only[oF,Step.off]at this
      rw[UK]at this;exact this
     obtain⟨v,k1,k2⟩:=Ow hD.E hW ha2 iP
     exact⟨v,k1,k2,rfl⟩
   ·cases hl
 ·cases hl
def T9 (D:fA τ)(h:Nat→bD τ)(t:TypeId)(id i s:Nat)(p:List Step)(x:TV τ):Option (jG τ) :=
 match D.E.ty t,h id with
 |some ti,.eD t' l=>bif s==D.C.sz t'&&x.size D.C==ti.size then (match (D.C.enc t' (l.getD i (D.C.df t'))).eQ D.C p x with
  |some z=>(match D.C.dec t' z with
   |some a=>some { r:=.aZ,U:=[(id,.eD t' (l.set i a))],F:=[id],ob:=some (decide (i < l.length)) }
   |none=>none)
  |none=>none) else none
 |_,_=>none
theorem fC.rk {g:Gh}{H:Nat→dD}{w:World}(h:eR g H w){id:Nat}{l l':List AV}(gY:H id=.eD l)(hw:CW l l'):fC g H w g (eQ H id (.eD l')) w:=by
 have eE:∀ k,(eQ H id (.eD l') k).live→(H k).live:=fun k hk=>by
  by_cases e:k=id
  ·subst e;rw[gY];trivial
  ·rw[aM _ _ e]at hk;exact hk
 refine⟨g.le_refl,⟨h.AY,fun k=>?_,fun k hk=>?_,fun k k' x x' dF hl oI e e'=>h.inj k k' x x' dF (eE k hl) (eE k' oI) e e'⟩,.refl _ _,fun _ _ _ e=>.inl e,
  fun k b lo n hl e=>.inr ⟨k,lo,n,eE k hl,e,Nat.le_refl _⟩⟩
 ·by_cases hk:k=id
  ·subst hk
   rw[aP]
   have:=h.zD k
   rw[gY]at this
   rcases this with⟨e0,e1⟩|⟨b,n,cs,T,fr,e1,e2,e3,e4,e5,e6,e7⟩
   ·subst e1
    have:=hw.1
    simp at this
    exact .inl ⟨e0,List.length_eq_zero_iff.1 this.symm⟩
   ·refine .inr ⟨b,n,cs,T,fr,e1,e2,e3,e4,by rw[← hw.1];exact e5,fun j y hy=>?_,e7⟩
    have hj:j < l.length:=by
     rw[hw.1]
     rcases Nat.lt_or_ge j l'.length with h' | h'
     ·exact h'
     ·rw[List.getElem?_eq_none h']at hy;cases hy
    obtain⟨c,h1,h2⟩:=e6 j l[j] (List.getElem?_eq_getElem hj)
    exact⟨c,h1,hw.2 j _ y (List.getElem?_eq_getElem hj) hy g c h2⟩
  ·rw[aM _ _ hk];exact h.zD k
 ·by_cases jR:k=id
  ·subst jR;simp at hk
  ·rw[aM _ _ jR]at hk;exact h.fresh k hk
theorem C4 {D:fA τ}(hD:D.Ok){g:Gh}{H:Nat→dD}{w:World}(hW:eR g H w){h:Nat→bD τ}{t:TypeId}{id i s:Nat}{p:List Step}{x:TV τ}{res:jG τ}{va vx:Value}(hH:∀ id∈res.F,H id=(h id).den D.C)
  (ha:aF g (yT id (.el i s :: p)) va) (hx:aF g (x.den D.C) vx) (hs:T9 D h t id i s p x=some res) (jM:res.ob=none∨res.ob=some true) :
  ∃ w',(Instr.storeAt t va vx).run D.E.P w=.ok () w'∧res.r=.aZ∧fC g H w g (app H (res.U.map fun p=>(p.1,p.2.den D.C))) w':=by
 unfold T9 at hs
 split at hs
 ·rename_i ti t' l hti hg
  cases hc:(s==D.C.sz t'&&x.size D.C==ti.size) with
  |false=>rw[hc]at hs;cases hs
  |true =>
   rw[hc]at hs
   simp only[cond_true]at hs
   simp only[Bool.and_eq_true,beq_iff_eq]at hc
   obtain⟨UK,AX⟩:=hc
   split at hs
   ·rename_i z hz
    split at hs
    ·rename_i a hza
     cases hs
     have hi:i < l.length:=by simpa using jM
     obtain⟨hb,ou⟩:=Fe ha
     have RK:Ej p=true:=by simpa[Ej,Step.V4] using hb
     have gY:=hH id (by simp)
     rw[hg]at gY
     simp only[bD.den]at gY
     obtain⟨h1,h2,h3,h4⟩:=Zq hD.C p _ x z hz RK
     have Ch:(D.C.enc t' (l.getD i (D.C.df t'))).size D.C=D.C.sz t':=by rw[← cS hD.C,hD.C.cel,hD.C.len]
     rw[Ch]at h1 h2
     rw[hD.C.cel]at h3
     have hlen:=iZ hD.C l
     have hmul:i * D.C.sz t'+D.C.sz t'≤l.length * D.C.sz t':=by rw[← Nat.succ_mul];exact Nat.mul_le_mul_right _ hi
     have V3:=cS hD.C x
     have DS:oF (.el i s :: p)=i * D.C.sz t'+oF p:=by simp only[oF,Step.off,UK]
     rw[DS]at ou
     have iP:IE D.E H t (.ptr id (i * D.C.sz t'+oF p)) (x.den D.C)=some [(id,.eD (wr (l.flatMap (D.C.cel t')) (i * D.C.sz t'+oF p) (x.cells D.C)))]:=by
      unfold IE
      rw[hti,Kg D.C h4]
      simp only[gY]
      rw[if_pos ⟨V3.trans AX,by rw[hlen,V3];omega,II hD.C x h4⟩]
     obtain⟨w',k1,k2⟩:=KN hD.E hW ou hx iP
     refine⟨w',k1,rfl,?_⟩
     have G0:CW (wr (l.flatMap (D.C.cel t')) (i * D.C.sz t'+oF p) (x.cells D.C)) ((l.set i a).flatMap (D.C.cel t')):=by
      have hlz:l[i]?=some (l.getD i (D.C.df t')):=by simp[List.getD,List.getElem?_eq_getElem hi]
      obtain⟨e1,e2⟩:=QD l i _ hlz
      have Rs:((l.take i).flatMap (D.C.cel t')).length=i * D.C.sz t':=by
       rw[iZ hD.C,List.length_take,Nat.min_eq_left (by omega)]
      have RL:l.flatMap (D.C.cel t')=(l.take i).flatMap (D.C.cel t')++D.C.cel t' (l.getD i (D.C.df t'))++(l.drop (i+1)).flatMap (D.C.cel t'):=by
       conv=>lhs;rw[e1]
       simp
      have Tr:(l.set i a).flatMap (D.C.cel t')=(l.take i).flatMap (D.C.cel t')++D.C.cel t' a++(l.drop (i+1)).flatMap (D.C.cel t'):=by
       rw[e2 a];simp
      rw[RL,Tr,← Rs,mo _ _ _ _ _ (by rw[hD.C.len,V3];omega)]
      exact (h3.trans (hD.C.dec t' z a hza)).mid
     refine k2.trans ?_
     simp only[app,List.map_cons,List.map_nil,bD.den]
     have:=fC.rk k2.rel (id:=id) (l:=wr (l.flatMap (D.C.cel t')) (i * D.C.sz t'+oF p) (x.cells D.C)) (by simp only[app];exact aP _ _ _) G0
     have e3:eQ (app H [(id,.eD (wr (l.flatMap (D.C.cel t')) (i * D.C.sz t'+oF p) (x.cells D.C)))]) id (.eD ((l.set i a).flatMap (D.C.cel t')))=eQ H id (.eD ((l.set i a).flatMap (D.C.cel t'))):=by
      funext k
      simp only[app]
      by_cases hk:k=id
      ·subst hk;rw[aP,aP]
      ·rw[aM _ _ hk,aM _ _ hk,aM _ _ hk]
     rw[e3]at this
     exact this
    ·cases hs
   ·cases hs
 ·cases hs
def NG (D:fA τ)(t:TypeId)(a:TV τ)(k:Nat):Option (TV τ) :=
 match D.E.ty t with
 |some ⟨.struct fields,_,_,_⟩ =>
  match fields[k]? with
  |some f =>
   match D.E.ty f.type with
   |some fi=>bif fi.size==0 then none else
    match a with
    |.ptr id p=>some (.ptr id (p++[.sS k f.offset]))
    |.LY (.agg l)=>(match l[k]? with|some y=>(bif TV.rF D.C (l.take k)==f.offset then some (.LY y) else none) | none=>none)
    |_=>none
   |none=>none
  |none=>none
 |_=>none
theorem SB:∀ (p:List Step) (s:Step),oF (p++[s])=oF p+s.off
 |[],s=>by simp[oF]
 |x :: p,s=>by simp[oF,SB p s,Nat.add_assoc]
theorem RQ:∀ (p:List Step) (s:Step),Ej (p++[s])=(Ej p&&s.V4)
 |[],s=>by simp[Ej]
 |x :: p,s=>by simp[Ej,RQ p s,Bool.and_assoc]
theorem TF {D:fA τ}(hD:D.Ok){g:Gh}{t:TypeId}{a r:TV τ}{va:Value}{k:Nat}(ha:aF g (a.den D.C) va)(h:NG D t a k=some r)(w:World) :
  ∃ v,(Instr.fieldAt t va k).run D.E.P w=.ok v w∧aF g (r.den D.C) v:=by
 unfold NG at h
 split at h
 ·rename_i fields s b z ht
  split at h
  ·rename_i f hf
   split at h
   ·rename_i fi tz
    cases hz:fi.size==0 with
    |true=>rw[hz]at h;cases h
    |false =>
     rw[hz]at h
     simp only[cond_false]at h
     have hz':¬ fi.size=0:=by simpa using hz
     split at h
     ·rename_i id p
      cases h
      obtain⟨hb,ou⟩:=Fe ha
      have:Gu D.E t (.ptr id (oF p)) k=some (.ptr id (oF p+f.offset)):=by
       unfold Gu;simp only[ht,hf,tz,if_neg hz']
      obtain⟨v,h1,h2⟩:=Uu hD.E ou this w
      refine⟨v,h1,?_⟩
      simp only[TV.den,yT,RQ,SB,hb,Step.V4,Step.off,Bool.and_true,cond_true]
      exact h2
     ·rename_i l
      split at h
      ·rename_i y hy
       cases ho:TV.rF D.C (l.take k)==f.offset with
       |false=>rw[ho]at h;cases h
       |true =>
        rw[ho]at h
        simp only[cond_true,Option.some.injEq]at h
        subst h
        have jr:TV.rF D.C (l.take k)=f.offset:=by simpa using ho
        have:Gu D.E t (.rL (TV.gL D.C l) 0) k=some (.rL (TV.gL D.C l) (0+f.offset)):=by
         unfold Gu;simp only[ht,hf,tz,if_neg hz']
        obtain⟨v,h1,h2⟩:=Uu hD.E (show aF g (.rL (TV.gL D.C l) 0) va by simpa[TV.den,TV.cells] using ha) this w
        refine⟨v,h1,?_⟩
        obtain⟨h3,h4⟩:=RD hD.C l k y hy
        simp only[TV.den]
        refine W.rL (off:=0+f.offset) ?_ g v h2
        rw[Nat.zero_add,cS hD.C,← jr,h3]
        exact .refl _
      ·cases h
     ·cases h
   ·cases h
  ·cases h
 ·cases h
def ma (D:fA τ)(t:TypeId)(x:TV τ)(k:Nat):Option (TV τ) :=
 match D.E.ty t,x with
 |some ⟨.struct fields,_,_,_⟩,.agg l =>
  match fields[k]?,l[k]? with
  |some f,some y =>
   match D.E.ty f.type with
   |some fi=>bif TV.rF D.C (l.take k)==f.offset&&fits D.C fi y then some y else none
   |none=>none
  |_,_=>none
 |_,_=>none
theorem T4 {D:fA τ}(hD:D.Ok){g:Gh}{t:TypeId}{x r:TV τ}{vx:Value}{k:Nat}(hx:aF g (x.den D.C) vx)(h:ma D t x k=some r)(w:World) :
  ∃ v,(Instr.field t vx k).run D.E.P w=.ok v w∧aF g (r.den D.C) v:=by
 unfold ma at h
 split at h
 ·rename_i fields s b z l ht
  split at h
  ·rename_i f y hf hy
   split at h
   ·rename_i fi tz
    cases hc:TV.rF D.C (l.take k)==f.offset&&fits D.C fi y with
    |false=>rw[hc]at h;cases h
    |true =>
     rw[hc]at h
     simp only[cond_true,Option.some.injEq]at h
     subst h
     simp only[Bool.and_eq_true,beq_iff_eq]at hc
     refine v5 hD.E hx (t:=t) (k:=k) ?_ w
     unfold M6
     simp only[ht,TV.den,AV.cells?,hf]
     unfold LM
     simp only[tz]
     have:=OW (x:=.agg l) (p:=[.sS k f.offset]) (y:=y) (i:=fi) hD (by simp[TV.sub,hc.1,hy]) rfl hc.2
     simp only[oF,Step.off,Nat.add_zero,TV.cells]at this
     exact this
   ·cases h
  ·cases h
 ·cases h
def nI (i:Int)(n:Int):Bool:=decide (0≤i)&&decide (i < n)
theorem Va {i n:Int}(h:nI i n=true):0≤i∧i < n:=by simpa[nI] using h
def NH (D:fA τ)(t:TypeId)(x ix:TV τ):Option (jG τ) :=
 match D.E.ty t,ix with
 |some ⟨.array n e,_,_,_⟩,.int _ i =>
  match D.E.ty e,x with
  |some ei,.ptr id p=>some { r:=.ptr id (p++[.idx i.toNat n ei.size]),ob:=some (nI i n) }
  |some ei,.LY (.arr t' n' v)=>bif n==n'&&D.C.sz t'==ei.size then some { r:=.LY (D.C.enc t' (iK v i.toNat (D.C.df t'))),ob:=some (nI i n) } else none
  |_,_=>none
 |some ⟨.slice e,_,_,_⟩,.int _ i =>
  match D.E.ty e,x with
  |some ei,.sl t' l _=>bif D.C.sz t'==ei.size then some { r:=.LY (D.C.enc t' (aE l i (D.C.df t'))),ob:=some (nI i l.length) } else none
  |some ei,.ls s l=>bif s==ei.size then (match l[i.toNat]? with|some y=>some { r:=.LY y,ob:=some (nI i l.length) } | none=>none) else none
  |some ei,.mS t' id n=>bif D.C.sz t'==ei.size then some { r:=.ptr id [.el i.toNat ei.size],ob:=some (nI i n) } else none
  |some ei,.nG t' id o n c nn=>bif D.C.sz t'==ei.size then some { r:=.ptr id [.el (o+i.toNat) ei.size],ob:=some (nI i n) } else none
  |some _,.nil .slice=>some { r:=.aZ,ob:=some false }
  |_,_=>none
 |_,_=>none
theorem TH {D:fA τ}(hD:D.Ok){g:Gh}{t:TypeId}{x ix:TV τ}{vx vi:Value}(hx:aF g (x.den D.C) vx)(jl:aF g (ix.den D.C) vi){res:jG τ}(h:NH D t x ix=some res)
  (jM:res.ob=none∨res.ob=some true) (w:World):∃ v,(Instr.indexAt t vx vi).run D.E.P w=.ok v w∧aF g (res.r.den D.C) v∧res.U=[]:=by
 unfold NH at h
 split at h
 ·rename_i n e s b z k i ht
  split at h
  ·rename_i ei id p he
   cases h
   have jg:=Va (show nI i n=true by simpa using jM)
   obtain⟨hb,Lm⟩:=Fe hx
   have:jL D.E t (.ptr id (oF p)) (.v (.int k i))=some { r:=.ptr id (oF p+i.toNat * ei.size),ob:=0≤i∧i < n }:=by
    unfold jL;simp only[ht,he]
   obtain⟨v,h1,h2,_⟩:=oT hD.E Lm jl this jg w
   refine⟨v,h1,?_,rfl⟩
   have nH:i.toNat < n:=by omega
   simp only[TV.den,yT,RQ,SB,hb,Step.V4,Step.off,nH,decide_true,Bool.and_true,cond_true]
   exact h2
  ·rename_i ei t' n' v0 he
   cases hc:n==n'&&D.C.sz t'==ei.size with
   |false=>rw[hc]at h;cases h
   |true =>
    rw[hc]at h
    simp only[cond_true,Option.some.injEq]at h
    subst h
    simp only[Bool.and_eq_true,beq_iff_eq]at hc
    have jg:=Va (show nI i n=true by simpa using jM)
    have:jL D.E t (.rL (v0.toList.flatMap (D.C.cel t')) 0) (.v (.int k i))=some { r:=.rL (v0.toList.flatMap (D.C.cel t')) (0+i.toNat * ei.size),ob:=0≤i∧i < n }:=by
     unfold jL;simp only[ht,he]
    obtain⟨v,h1,h2,_⟩:=oT hD.E (show aF g (.rL (v0.toList.flatMap (D.C.cel t')) 0) vx by simpa[TV.den,TV.cells] using hx) jl this jg w
    refine⟨v,h1,?_,rfl⟩
    simp only[TV.den]
    refine W.rL (off:=0+i.toNat * ei.size) ?_ g v h2
    rw[hD.C.cel,hD.C.len,Nat.zero_add,← hc.2,IF hD.C v0.toList i.toNat (by simp;omega) (D.C.df t')]
    exact .refl _
  ·cases h
 ·rename_i e s b z k i ht
  split at h
  ·rename_i ei t' l kk he
   cases hc:D.C.sz t'==ei.size with
   |false=>rw[hc]at h;cases h
   |true =>
    rw[hc]at h
    simp only[cond_true,Option.some.injEq]at h
    subst h
    simp only[beq_iff_eq]at hc
    have jg:=Va (show nI i l.length=true by simpa using jM)
    have Lm:=TC D.C t' l kk g vx hx
    have:jL D.E t (.xA (D.C.sz t') (l.map (D.C.cel t'))) (.v (.int k i))=some { r:=.rL ((l.map (D.C.cel t')).getD i.toNat []) 0,ob:=0≤i∧i < (l.map (D.C.cel t')).length }:=by
     unfold jL;simp only[ht,he,if_pos hc]
    obtain⟨v,h1,h2,_⟩:=oT hD.E Lm jl this (by simpa using jg) w
    refine⟨v,h1,?_,rfl⟩
    have nH:i.toNat < l.length:=by omega
    simp only[TV.den,hD.C.cel,aE]
    have:(l.map (D.C.cel t')).getD i.toNat []=D.C.cel t' (l.getD i.toNat (D.C.df t')):=by simp[List.getD,nH]
    rw[← this];exact h2
  ·rename_i ei s' l he
   cases hc:s'==ei.size with
   |false=>rw[hc]at h;cases h
   |true =>
    rw[hc]at h
    simp only[cond_true]at h
    split at h
    ·rename_i y hy
     cases h
     simp only[beq_iff_eq]at hc
     have jg:=Va (show nI i l.length=true by simpa using jM)
     have hel:(TV.pW D.C l)[i.toNat]?=some (y.cells D.C):=by rw[Ya,List.getElem?_map,hy];rfl
     have:jL D.E t (.sl s' (TV.pW D.C l) .full) (.v (.int k i))=some { r:=.rL ((TV.pW D.C l).getD i.toNat []) 0,ob:=0≤i∧i < (TV.pW D.C l).length }:=by
      unfold jL;simp only[ht,he,if_pos hc]
     obtain⟨v,h1,h2,_⟩:=oT hD.E (show aF g (.sl s' (TV.pW D.C l) .full) vx from hx) jl this (by rw[Ya];simpa using jg) w
     refine⟨v,h1,?_,rfl⟩
     simp only[List.getD,hel,Option.getD_some]at h2
     exact h2
    ·cases h
  ·rename_i ei t' id n he
   cases hc:D.C.sz t'==ei.size with
   |false=>rw[hc]at h;cases h
   |true =>
    rw[hc]at h
    simp only[cond_true,Option.some.injEq]at h
    subst h
    simp only[beq_iff_eq]at hc
    have jg:=Va (show nI i n=true by simpa using jM)
    have:jL D.E t (.Fk id 0 n (D.C.sz t')) (.v (.int k i))=some { r:=.ptr id (0+i.toNat * D.C.sz t'),ob:=0≤i∧i < n }:=by
     unfold jL;simp only[ht,he,if_pos hc]
    obtain⟨v,h1,h2,_⟩:=oT hD.E (show aF g (.Fk id 0 n (D.C.sz t')) vx from hx) jl this jg w
    refine⟨v,h1,?_,rfl⟩
    simp only[TV.den,yT,Ej,Step.V4,Bool.and_true,cond_true,oF,Step.off,Nat.add_zero]
    rw[Nat.zero_add,hc]at h2
    exact h2
  ·rename_i ei t' id o n c nn he
   cases hc:D.C.sz t'==ei.size with
   |false=>rw[hc]at h;cases h
   |true =>
    rw[hc]at h
    simp only[cond_true,Option.some.injEq]at h
    subst h
    simp only[beq_iff_eq]at hc
    have jg:=Va (show nI i n=true by simpa using jM)
    cases jl
    obtain⟨v,h1,h2⟩:=aAg hD.E ht he hc (show aF g (.nG id (o * D.C.sz t') n c nn (D.C.sz t')) vx from hx) (k:=k) jg w
    refine⟨v,h1,?_,rfl⟩
    simp only[TV.den,yT,Ej,Step.V4,Bool.and_true,cond_true,oF,Step.off,Nat.add_zero]
    rw[← Nat.add_mul,hc]at h2
    exact h2
  ·cases h
   simp at jM
  ·cases h
 ·cases h
def mb (D:fA τ)(t:TypeId)(x ix:TV τ):Option (jG τ) :=
 match D.E.ty t,x,ix with
 |some ⟨.array n e,_,_,_⟩,.arr t' n' v,.int _ i =>
  match D.E.ty e with
  |some ei=>bif n==n'&&D.C.sz t'==ei.size&&fits D.C ei (D.C.enc t' (iK v i.toNat (D.C.df t'))) then some { r:=D.C.enc t' (iK v i.toNat (D.C.df t')),ob:=some (nI i n) } else none
  |none=>none
 |some ⟨.string,_,_,_⟩,.str s,.int _ i=>some { r:=.int .u8 (s.getD i.toNat 0).toNat,ob:=some (nI i s.length) }
 |_,_,_=>none
theorem T6 {D:fA τ}(hD:D.Ok){g:Gh}{t:TypeId}{x ix:TV τ}{vx vi:Value}(hx:aF g (x.den D.C) vx)(jl:aF g (ix.den D.C) vi){res:jG τ}(h:mb D t x ix=some res)
  (jM:res.ob=none∨res.ob=some true) (w:World):∃ v,(Instr.index t vx vi).run D.E.P w=.ok v w∧aF g (res.r.den D.C) v∧res.U=[]:=by
 unfold mb at h
 split at h
 ·rename_i n e s b z t' n' v0 k i ht
  split at h
  ·rename_i ei he
   cases hc:n==n'&&D.C.sz t'==ei.size&&fits D.C ei (D.C.enc t' (iK v0 i.toNat (D.C.df t'))) with
   |false=>rw[hc]at h;cases h
   |true =>
    rw[hc]at h
    simp only[cond_true,Option.some.injEq]at h
    subst h
    simp only[Bool.and_eq_true,beq_iff_eq]at hc
    obtain⟨⟨c1,c2⟩,c3⟩:=hc
    have jg:=Va (show nI i n=true by simpa using jM)
    have:OC D.E t (.agg (v0.toList.flatMap (D.C.cel t'))) (.v (.int k i))=some { r:=(D.C.enc t' (iK v0 i.toNat (D.C.df t'))).den D.C,ob:=0≤i∧i < n }:=by
     have hl:=OW (x:=.arr t' n' v0) (p:=[.idx i.toNat n ei.size]) (i:=ei) hD (by simp[TV.sub,c1,c2]) (by simp[Ej,Step.V4];omega) c3
     simp only[oF,Step.off,Nat.add_zero,TV.cells]at hl
     have hp:LM D.E e (v0.toList.flatMap (D.C.cel t')) (i.toNat * ei.size)=some ((D.C.enc t' (iK v0 i.toNat (D.C.df t'))).den D.C):=by
      unfold LM;simp only[he];exact hl
     unfold OC
     simp only[ht,he,Option.map_some,Option.getD_some,hp]
    obtain⟨v,h1,h2,_⟩:=KL hD.E (show aF g (.agg (v0.toList.flatMap (D.C.cel t'))) vx by simpa[TV.den] using hx) jl this jg w
    exact⟨v,h1,h2,rfl⟩
  ·cases h
 ·rename_i s0 b z s k i ht
  cases h
  have jg:=Va (show nI i _=true by simpa using jM)
  obtain⟨v,h1,h2,_⟩:=KL hD.E (t:=t) hx jl (res:={ r:=.v (.int .u8 (s.getD i.toNat 0).toNat),ob:=0≤i∧i < s.length }) (by unfold OC;simp only[ht,TV.den];first|done|rfl) jg w
  exact⟨v,h1,h2,rfl⟩
 ·cases h
end
end Go.Ev
