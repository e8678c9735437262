/-
The typed layer: operations that read and write memory,and that they are what the model does.
-/
import Derived.Test.YtddpmkmgbdedlaaGreatqTvB
set_option linter.unusedVariables false
set_option linter.unusedSimpArgs false
namespace Go.Ev
open Go
structure TEnv (τ:Nat→Type) where
 E:Env
 C:Cod τ
 zero:TypeId→Option (TV τ)
structure bG (τ:Nat→Type) where
 r:TV τ
 U:List (Nat×TEnt τ):=[]
 F:List Nat:=[]
 ob:Option Bool:=none
section
variable {τ:Nat→Type}
structure TEnv.Ok (D:TEnv τ):Prop where
 E:D.E.Ok
 Q:D.E.EqOk
 C:D.C.Ok
 zero:∀ t x,D.zero t=some x→∃ i,D.E.ty t=some i∧x.ok=true∧CW i.zero (x.cells D.C)∧x.isAgg=i.agg
theorem Evo.weak {g:Gh} {H:Nat→Ent} {w:World} (h:WRel g H w) (H':Nat→Ent) (hH:∀ k,H' k=H k∨∃ l l',H k=.box l∧H' k=.box l'∧CW l l'):Evo g H w g H' w:=by
 have hlive:∀ k,(H' k).live→(H k).live:=fun k hk=>by
  rcases hH k with e | ⟨l,l',e,e',_⟩
  ·rw [← e]; exact hk
  ·rw [e]; trivial
 refine ⟨g.le_refl,⟨h.imm,fun k=>?_,fun k hk=>?_,fun k k' x x' hne hl hl' e e'=>h.inj k k' x x' hne (hlive k hl) (hlive k' hl') e e'⟩,.refl _ _,fun _ _ _ e=>.inl e,
  fun k b lo n hl e=>.inr ⟨k,lo,n,hlive k hl,e,Nat.le_refl _⟩⟩
 ·rcases hH k with e | ⟨l,l',e,e',hw⟩
  ·rw [e]; exact h.ent k
  ·rw [e']
   have:=h.ent k
   rw [e] at this
   obtain ⟨b,n,cs,T,fr,e1,e2,e3,e4,e5,e6,e7⟩:=this
   refine ⟨b,n,cs,T,fr,e1,e2,e3,e4,by rw [← hw.1]; exact e5,fun j y hy=>?_,e7⟩
   have hj:j < l.length:=by
    rw [hw.1]
    rcases Nat.lt_or_ge j l'.length with h' | h'
    ·exact h'
    ·rw [List.getElem?_eq_none h'] at hy; cases hy
   obtain ⟨c,h1,h2⟩:=e6 j l[j] (List.getElem?_eq_getElem hj)
   exact ⟨c,h1,hw.2 j _ y (List.getElem?_eq_getElem hj) hy g c h2⟩
 ·rcases hH k with e | ⟨l,l',e,e',_⟩
  ·exact h.fresh k (e▸hk)
  ·rw [e'] at hk; cases hk
theorem kO {g:Gh} {id:Nat} {p:List Step} {v:Value} (h:VRel g (dW id p) v):cS p=true∧VRel g (.ptr id (bM p)) v:=by
 unfold dW at h
 cases hb:cS p with
 | true=>rw [hb] at h; exact ⟨rfl,h⟩
 | false=>rw [hb] at h; exact (aCR h).elim
theorem W.sl {sz:Nat} {tok:Tok} {xs ys:List (List AV)} (hl:xs.length=ys.length) (h:∀ (i:Nat) (a b:List AV),xs[i]?=some a→ys[i]?=some b→CW a b):W (.sl sz xs tok) (.sl sz ys tok):=by
 intro g v hv
 have at':∀ (i:Nat) (b:List AV),ys[i]?=some b→∃ a,xs[i]?=some a∧CW a b:=fun i b hb=>by
  have hi:i < xs.length:=by
   rw [hl]
   rcases Nat.lt_or_ge i ys.length with h' | h'
   ·exact h'
   ·rw [List.getElem?_eq_none h'] at hb; cases hb
  exact ⟨_,List.getElem?_eq_getElem hi,h i _ b (List.getElem?_eq_getElem hi) hb⟩
 have in':∀ (a b:List AV) (k:Nat) (y:AV),CW a b→b[k]?=some y→∃ x,a[k]?=some x∧W x y:=fun a b k y hw hy=>by
  have hk:k < a.length:=by
   rw [hw.1]
   rcases Nat.lt_or_ge k b.length with h' | h'
   ·exact h'
   ·rw [List.getElem?_eq_none h'] at hy; cases hy
  exact ⟨_,List.getElem?_eq_getElem hk,hw.2 k _ y (List.getElem?_eq_getElem hk) hy⟩
 cases hv with
 | sl c e1 e2 e3 e4 e5 e6 =>
  refine .sl c (hl▸e1) e2 (fun i b hb=>?_) (fun i b k y hb hy=>?_) (fun i b k y hb hy=>?_) e6
  ·obtain ⟨a,ha,hw⟩:=at' i b hb
   rw [← hw.1]; exact e3 i a ha
  ·obtain ⟨a,ha,hw⟩:=at' i b hb
   obtain ⟨x,hx,_⟩:=in' a b k y hw hy
   exact e4 i a k x ha hx
  ·obtain ⟨a,ha,hw⟩:=at' i b hb
   obtain ⟨x,hx,hxy⟩:=in' a b k y hw hy
   exact hxy g _ (e5 i a k x ha hx)
theorem W.iptr {cells sub:List AV} {off:Nat} (h:CW (rd cells off sub.length) sub):W (.iptr cells off) (.iptr sub 0):=by
 intro g v hv
 cases hv with
 | iptr c e1 e2 =>
  rename_i b o
  have at':∀ (k:Nat) (y:AV),sub[k]?=some y→∃ x,cells[off+k]?=some x∧W x y:=fun k y hy=>by
   have hk:k < sub.length:=by
    rcases Nat.lt_or_ge k sub.length with h' | h'
    ·exact h'
    ·rw [List.getElem?_eq_none h'] at hy; cases hy
   have hk':k < (rd cells off sub.length).length:=by rw [h.1]; exact hk
   have hx:=List.getElem?_eq_getElem hk'
   have hx':=hx
   rw [nJ,if_pos hk] at hx'
   exact ⟨_,hx',h.2 k _ y hx hy⟩
  refine .iptr (off:=0) (o:=o+off) (fun k=>c (off+k)) (fun k y hy=>?_) (fun k y hy=>?_)
  ·obtain ⟨x,hx,_⟩:=at' k y hy
   have:=e1 _ x hx
   rw [Nat.add_assoc]; exact this
  ·obtain ⟨x,hx,hw⟩:=at' k y hy
   exact hw g _ (e2 _ x hx)
theorem wA (C:Cod τ) (t:Nat) (l:List (τ t)) (k:SK):W (cW C t l k) (.asl (C.sz t) (l.map (C.cel t))):=by
 intro g v hv
 cases k with
 | any=>exact hv
 | non=>exact .asl hv
 | nn => cases hv with
  | nsl hv _=>exact hv
 | tl id =>
  cases hv with
  | sl c e1 e2 e3 e4 e5 e6=>exact .asl (.sl c e1 e2 e3 e4 e5 trivial)
 | full =>
  cases hv with
  | sl c e1 e2 e3 e4 e5 e6=>exact .asl (.sl c e1 e2 e3 e4 e5 trivial)
 | brw id =>
  simp only [cW] at hv
  generalize hm:l.map (C.cel t)=m at hv
  cases hv with
  | gslN=>exact .asl0
  | gslF hv => cases hv with
   | sl c e1 e2 e3 e4 e5 e6=>exact .asl (.sl c e1 e2 e3 e4 e5 trivial)
  | gslT hv => cases hv with
   | sl c e1 e2 e3 e4 e5 e6=>exact .asl (.sl c e1 e2 e3 e4 e5 trivial)
 | own id =>
  simp only [cW] at hv
  generalize hm:l.map (C.cel t)=m at hv
  cases hv with
  | gslN=>exact .asl0
  | gslF hv => cases hv with
   | sl c e1 e2 e3 e4 e5 e6=>exact .asl (.sl c e1 e2 e3 e4 e5 trivial)
  | gslT hv => cases hv with
   | sl c e1 e2 e3 e4 e5 e6=>exact .asl (.sl c e1 e2 e3 e4 e5 trivial)
theorem aAe (C:Cod τ):∀ l:List (TV τ),TV.cellsE C l=l.map (TV.cells C)
 | []=>rfl
 | x :: r=>by rw [TV.cellsE,List.map_cons,aAe C r]
def fY (C:Cod τ) (i:TI) (y:TV τ):Bool:=(y.isAgg==i.agg)&&(y.size C==i.size)&&y.ok
def wB (D:TEnv τ) (h:Nat→TEnt τ) (t:TypeId) (a:TV τ):Option (TV τ) :=
 match D.E.ty t with
 | none=>none
 | some i =>
  match a with
  | .ptr id p =>
   match h id with
   | .box x=>(match x.sub D.C p with | some y=>(bif fY D.C i y then some y else none) | none=>none)
   | .ibox x=>(match x.sub D.C p with | some y=>(bif fY D.C i y then some y else none) | none=>none)
   | _=>none
  | .ipt y=>bif fY D.C i y then some y else none
  | _=>none
def tids:TV τ→List Nat
 | .ptr id _=>[id]
 | _=>[]
theorem aAf {D:TEnv τ} (hD:D.Ok) {i:TI} {x y:TV τ} {p:List Step} (hs:x.sub D.C p=some y) (hb:cS p=true) (hf:fY D.C i y=true) :
  (if i.agg then (if bM p+i.size≤(x.cells D.C).length then some (AV.agg (rd (x.cells D.C) (bM p) i.size)) else none) else (x.cells D.C)[bM p]?)=some (y.den D.C):=by
 obtain ⟨h1,h2⟩:=vZ hD.C p x y hs hb
 simp only [fY,Bool.and_eq_true,beq_iff_eq] at hf
 obtain ⟨⟨f1,f2⟩,f3⟩:=hf
 rw [dO hD.C,← f2,if_pos h2,h1]
 cases ha:i.agg with
 | true=>rw [if_pos rfl,sL D.C (f1.trans ha)]
 | false =>
  rw [if_neg (by simp)]
  have hy:=aAc D.C (f1.trans ha) f3
  have hl:=dO hD.C y
  rw [hy] at h1 hl
  have:=nJ (x.cells D.C) (bM p) (y.size D.C) 0
  rw [h1,if_pos (by simp at hl; omega)] at this
  simpa using this.symm
theorem aVQ {D:TEnv τ} (hD:D.Ok) {g:Gh} {H:Nat→Ent} {w:World} (hW:WRel g H w) {h:Nat→TEnt τ} {t:TypeId} {a r:TV τ} {va:Value} (hH:∀ id∈tids a,H id=(h id).den D.C)
  (ha:VRel g (a.den D.C) va) (hl:wB D h t a=some r):∃ v,(Instr.loadAt t va).run D.E.P w=.ok v w∧VRel g (r.den D.C) v:=by
 unfold wB at hl
 split at hl
 ·cases hl
 ·rename_i i hi
  have key:∀ {id p x},(h id=.box x∨h id=.ibox x)→a=.ptr id p→(match x.sub D.C p with | some y=>(bif fY D.C i y then some y else none) | none=>none)=some r →
    ∃ v,(Instr.loadAt t va).run D.E.P w=.ok v w∧VRel g (r.den D.C) v:=fun {id p x} hx hap hm=>by
   clear hl
   subst hap
   obtain ⟨hb,ha'⟩:=kO ha
   split at hm
   ·rename_i y hy
    cases hf:fY D.C i y with
    | false=>rw [hf] at hm; cases hm
    | true =>
     rw [hf] at hm
     simp only [cond_true,Option.some.injEq] at hm
     subst hm
     refine aA9 hD.E hW ha' (t:=t) ?_
     have hid:=hH id (by simp [tids])
     unfold mF
     simp only [hi,pA]
     rcases hx with hx | hx<;>(rw [hx] at hid; simp only [TEnt.den] at hid; rw [hid]; exact aAf hD hy hb hf)
   ·cases hm
  split at hl
  ·rename_i id p
   split at hl
   ·rename_i x hx; exact key (.inl hx) rfl hl
   ·rename_i x hx; exact key (.inr hx) rfl hl
   ·cases hl
  ·rename_i y
   cases hf:fY D.C i y with
   | false=>rw [hf] at hl; cases hl
   | true =>
    rw [hf] at hl
    simp only [cond_true,Option.some.injEq] at hl
    subst hl
    refine aA9 hD.E hW ha (t:=t) ?_
    unfold mF
    simp only [hi,TV.den,pA]
    exact aAf (p:=[]) hD rfl rfl hf
  ·cases hl
def aJc (D:TEnv τ) (h:Nat→TEnt τ) (t:TypeId) (a x:TV τ):Option (Nat×TEnt τ) :=
 match D.E.ty t,a with
 | some i, .ptr id p =>
  match h id with
  | .box X=>bif x.size D.C==i.size then (match X.upd D.C p x with | some X'=>some (id,.box X') | none=>none) else none
  | _=>none
 | _,_=>none
theorem aVR {D:TEnv τ} (hD:D.Ok) {g:Gh} {H:Nat→Ent} {w:World} (hW:WRel g H w) {h:Nat→TEnt τ} {t:TypeId} {a x:TV τ} {va vx:Value} {id:Nat} {e:TEnt τ}
  (hs:aJc D h t a x=some (id,e)) (hH:H id=(h id).den D.C) (ha:VRel g (a.den D.C) va) (hx:VRel g (x.den D.C) vx) :
  ∃ w',(Instr.storeAt t va vx).run D.E.P w=.ok () w'∧Evo g H w g (app H [(id,e.den D.C)]) w':=by
 unfold aJc at hs
 split at hs
 ·rename_i i id' p hi
  split at hs
  ·rename_i X hX
   cases hd:x.size D.C==i.size with
   | false=>rw [hd] at hs; cases hs
   | true =>
    rw [hd] at hs
    simp only [cond_true] at hs
    have hd':x.size D.C=i.size:=by simpa using hd
    split at hs
    ·rename_i X' hX'
     simp only [Option.some.injEq,Prod.mk.injEq] at hs
     obtain ⟨rfl,rfl⟩:=hs
     obtain ⟨hb,ha'⟩:=kO ha
     obtain ⟨h1,h2,h3,h4⟩:=aAd hD.C p X x X' hX' hb
     rw [hX] at hH
     simp only [TEnt.den] at hH
     have hev:tS D.E H t (.ptr id' (bM p)) (x.den D.C)=some [(id',.box (wr (X.cells D.C) (bM p) (x.cells D.C)))]:=by
      unfold tS
      rw [hi,vX D.C h4]
      simp only [hH]
      rw [if_pos ⟨by rw [dO hD.C]; exact hd',by rw [dO hD.C,dO hD.C]; exact h2,aCS hD.C x h4⟩]
     obtain ⟨w',k1,k2⟩:=aLu hD.E hW ha' hx hev
     refine ⟨w',k1,k2.trans (Evo.weak k2.rel _ fun k=>?_)⟩
     simp only [app,TEnt.den]
     by_cases hk:k=id'
     ·subst hk; right; exact ⟨_,_,aR _ _ _,aR _ _ _,h3⟩
     ·left; rw [aJ _ _ hk,aJ _ _ hk]
    ·cases hs
  ·cases hs
 ·cases hs
def aJd (D:TEnv τ) (h:Nat→TEnt τ) (t:TypeId) (id i s:Nat) (p:List Step):Option (bG τ) :=
 match D.E.ty t,h id with
 | some ti, .gbx t' l => bif s == D.C.sz t' then (match (D.C.enc t' (l.getD i (D.C.df t'))).sub D.C p with
  | some y=>bif fY D.C ti y then some { r:=y,F:=[id],ob:=some (decide (i < l.length)) } else none
  | none=>none) else none
 | _,_=>none
theorem jQ {C:Cod τ} (hC:C.Ok) {t:Nat} (l:List (τ t)):(l.flatMap (C.cel t)).length=l.length * C.sz t:=by
 induction l with
 | nil=>simp
 | cons x l ih=>simp [ih,hC.len,Nat.add_mul,Nat.add_comm]
theorem aVS {D:TEnv τ} (hD:D.Ok) {g:Gh} {H:Nat→Ent} {w:World} (hW:WRel g H w) {h:Nat→TEnt τ} {t:TypeId} {id i s:Nat} {p:List Step} {res:bG τ} {va:Value} (hH:∀ id∈res.F,H id=(h id).den D.C)
  (ha:VRel g (dW id (.el i s :: p)) va) (hl:aJd D h t id i s p=some res) (hob:res.ob=none∨res.ob=some true):∃ v,(Instr.loadAt t va).run D.E.P w=.ok v w∧VRel g (res.r.den D.C) v∧res.U=[]:=by
 unfold aJd at hl
 split at hl
 ·rename_i ti t' l hti hg
  cases hs:s==D.C.sz t' with
  | false=>rw [hs] at hl; cases hl
  | true =>
   rw [hs] at hl
   simp only [cond_true] at hl
   have hs':s=D.C.sz t':=by simpa using hs
   split at hl
   ·rename_i y hy
    cases hf:fY D.C ti y with
    | false=>rw [hf] at hl; cases hl
    | true =>
     rw [hf] at hl
     simp only [cond_true,Option.some.injEq] at hl
     subst hl
     have hi:i < l.length:=by simpa using hob
     obtain ⟨hb,ha'⟩:=kO ha
     have hb':cS p=true:=by simpa [cS,Step.inb] using hb
     have hid:=hH id (by simp)
     rw [hg] at hid
     simp only [TEnt.den] at hid
     obtain ⟨h1,h2⟩:=vZ hD.C p _ y hy hb'
     have hsz:(D.C.enc t' (l.getD i (D.C.df t'))).size D.C=D.C.sz t':=by rw [← dO hD.C,hD.C.cel,hD.C.len]
     rw [hsz] at h2
     rw [hD.C.cel] at h1
     have hflat:=vY hD.C l i hi (D.C.df t')
     have hlen:=jQ hD.C l
     have hmul:i * D.C.sz t'+D.C.sz t'≤l.length * D.C.sz t':=by rw [← Nat.succ_mul]; exact Nat.mul_le_mul_right _ hi
     have hrd:rd (l.flatMap (D.C.cel t')) (i * D.C.sz t'+bM p) (y.size D.C)=y.cells D.C:=by
      rw [← aCT _ _ (D.C.sz t') _ _ (by omega),hflat]; exact h1
     simp only [fY,Bool.and_eq_true,beq_iff_eq] at hf
     obtain ⟨⟨f1,f2⟩,f3⟩:=hf
     have hev:mF D.E H t (.ptr id (i * D.C.sz t'+bM p))=some (y.den D.C):=by
      unfold mF
      simp only [hti,pA,hid]
      cases hag:ti.agg with
      | true =>
       rw [if_pos rfl,if_pos (by rw [hlen,← f2]; omega),← f2,hrd,sL D.C (f1.trans hag)]
      | false =>
       rw [if_neg (by simp)]
       have hy':=aAc D.C (f1.trans hag) f3
       have hl':=dO hD.C y
       rw [hy'] at hrd hl'
       have:=nJ (l.flatMap (D.C.cel t')) (i * D.C.sz t'+bM p) (y.size D.C) 0
       rw [hrd,if_pos (by simp at hl'; omega)] at this
       simpa using this.symm
     have ha2:VRel g (.ptr id (i * D.C.sz t'+bM p)) va:=by
      have:=ha'
      simp only [bM,Step.off] at this
      rw [hs'] at this; exact this
     obtain ⟨v,k1,k2⟩:=aA9 hD.E hW ha2 hev
     exact ⟨v,k1,k2,rfl⟩
   ·cases hl
 ·cases hl
def aJe (D:TEnv τ) (h:Nat→TEnt τ) (t:TypeId) (id i s:Nat) (p:List Step) (x:TV τ):Option (bG τ) :=
 match D.E.ty t,h id with
 | some ti, .gbx t' l => bif s == D.C.sz t' && x.size D.C == ti.size then (match (D.C.enc t' (l.getD i (D.C.df t'))).upd D.C p x with
  | some z => (match D.C.dec t' z with
   | some a=>some { r:=.junk,U:=[(id,.gbx t' (l.set i a))],F:=[id],ob:=some (decide (i < l.length)) }
   | none=>none)
  | none=>none) else none
 | _,_=>none
theorem Evo.weakG {g:Gh} {H:Nat→Ent} {w:World} (h:WRel g H w) {id:Nat} {l l':List AV} (hid:H id=.gbx l) (hw:CW l l'):Evo g H w g (upd H id (.gbx l')) w:=by
 have hlive:∀ k,(upd H id (.gbx l') k).live→(H k).live:=fun k hk=>by
  by_cases e:k=id
  ·subst e; rw [hid]; trivial
  ·rw [aJ _ _ e] at hk; exact hk
 refine ⟨g.le_refl,⟨h.imm,fun k=>?_,fun k hk=>?_,fun k k' x x' hne hl hl' e e'=>h.inj k k' x x' hne (hlive k hl) (hlive k' hl') e e'⟩,.refl _ _,fun _ _ _ e=>.inl e,
  fun k b lo n hl e=>.inr ⟨k,lo,n,hlive k hl,e,Nat.le_refl _⟩⟩
 ·by_cases hk:k=id
  ·subst hk
   rw [aR]
   have:=h.ent k
   rw [hid] at this
   rcases this with ⟨e0,e1⟩ | ⟨b,n,cs,T,fr,e1,e2,e3,e4,e5,e6,e7⟩
   ·subst e1
    have:=hw.1
    simp at this
    exact .inl ⟨e0,List.length_eq_zero_iff.1 this.symm⟩
   ·refine .inr ⟨b,n,cs,T,fr,e1,e2,e3,e4,by rw [← hw.1]; exact e5,fun j y hy=>?_,e7⟩
    have hj:j < l.length:=by
     rw [hw.1]
     rcases Nat.lt_or_ge j l'.length with h' | h'
     ·exact h'
     ·rw [List.getElem?_eq_none h'] at hy; cases hy
    obtain ⟨c,h1,h2⟩:=e6 j l[j] (List.getElem?_eq_getElem hj)
    exact ⟨c,h1,hw.2 j _ y (List.getElem?_eq_getElem hj) hy g c h2⟩
  ·rw [aJ _ _ hk]; exact h.ent k
 ·by_cases hk':k=id
  ·subst hk'; simp at hk
  ·rw [aJ _ _ hk'] at hk; exact h.fresh k hk
theorem aVT {D:TEnv τ} (hD:D.Ok) {g:Gh} {H:Nat→Ent} {w:World} (hW:WRel g H w) {h:Nat→TEnt τ} {t:TypeId} {id i s:Nat} {p:List Step} {x:TV τ} {res:bG τ} {va vx:Value} (hH:∀ id∈res.F,H id=(h id).den D.C)
  (ha:VRel g (dW id (.el i s :: p)) va) (hx:VRel g (x.den D.C) vx) (hs:aJe D h t id i s p x=some res) (hob:res.ob=none∨res.ob=some true) :
  ∃ w',(Instr.storeAt t va vx).run D.E.P w=.ok () w'∧res.r=.junk∧Evo g H w g (app H (res.U.map fun p=>(p.1,p.2.den D.C))) w':=by
 unfold aJe at hs
 split at hs
 ·rename_i ti t' l hti hg
  cases hc:(s==D.C.sz t'&&x.size D.C==ti.size) with
  | false=>rw [hc] at hs; cases hs
  | true =>
   rw [hc] at hs
   simp only [cond_true] at hs
   simp only [Bool.and_eq_true,beq_iff_eq] at hc
   obtain ⟨hs',hxs⟩:=hc
   split at hs
   ·rename_i z hz
    split at hs
    ·rename_i a hza
     cases hs
     have hi:i < l.length:=by simpa using hob
     obtain ⟨hb,ha'⟩:=kO ha
     have hb':cS p=true:=by simpa [cS,Step.inb] using hb
     have hid:=hH id (by simp)
     rw [hg] at hid
     simp only [TEnt.den] at hid
     obtain ⟨h1,h2,h3,h4⟩:=aAd hD.C p _ x z hz hb'
     have hsz:(D.C.enc t' (l.getD i (D.C.df t'))).size D.C=D.C.sz t':=by rw [← dO hD.C,hD.C.cel,hD.C.len]
     rw [hsz] at h1 h2
     rw [hD.C.cel] at h3
     have hlen:=jQ hD.C l
     have hmul:i * D.C.sz t'+D.C.sz t'≤l.length * D.C.sz t':=by rw [← Nat.succ_mul]; exact Nat.mul_le_mul_right _ hi
     have hxl:=dO hD.C x
     have hoff:bM (.el i s :: p)=i * D.C.sz t'+bM p:=by simp only [bM,Step.off,hs']
     rw [hoff] at ha'
     have hev:tS D.E H t (.ptr id (i * D.C.sz t'+bM p)) (x.den D.C)=some [(id,.gbx (wr (l.flatMap (D.C.cel t')) (i * D.C.sz t'+bM p) (x.cells D.C)))]:=by
      unfold tS
      rw [hti,vX D.C h4]
      simp only [hid]
      rw [if_pos ⟨hxl.trans hxs,by rw [hlen,hxl]; omega,aCS hD.C x h4⟩]
     obtain ⟨w',k1,k2⟩:=aLu hD.E hW ha' hx hev
     refine ⟨w',k1,rfl,?_⟩
     have hcw:CW (wr (l.flatMap (D.C.cel t')) (i * D.C.sz t'+bM p) (x.cells D.C)) ((l.set i a).flatMap (D.C.cel t')):=by
      have hlz:l[i]?=some (l.getD i (D.C.df t')):=by simp [List.getD,List.getElem?_eq_getElem hi]
      obtain ⟨e1,e2⟩:=aCU l i _ hlz
      have hpre:((l.take i).flatMap (D.C.cel t')).length=i * D.C.sz t':=by
       rw [jQ hD.C,List.length_take,Nat.min_eq_left (by omega)]
      have hcl:l.flatMap (D.C.cel t')=(l.take i).flatMap (D.C.cel t')++D.C.cel t' (l.getD i (D.C.df t'))++(l.drop (i+1)).flatMap (D.C.cel t'):=by
       conv=>lhs; rw [e1]
       simp
      have hcs:(l.set i a).flatMap (D.C.cel t')=(l.take i).flatMap (D.C.cel t')++D.C.cel t' a++(l.drop (i+1)).flatMap (D.C.cel t'):=by
       rw [e2 a]; simp
      rw [hcl,hcs,← hpre,aJb _ _ _ _ _ (by rw [hD.C.len,hxl]; omega)]
      exact (h3.trans (hD.C.dec t' z a hza)).mid
     refine k2.trans ?_
     simp only [app,List.map_cons,List.map_nil,TEnt.den]
     have:=Evo.weakG k2.rel (id:=id) (l:=wr (l.flatMap (D.C.cel t')) (i * D.C.sz t'+bM p) (x.cells D.C)) (by simp only [app]; exact aR _ _ _) hcw
     have e3:upd (app H [(id,.gbx (wr (l.flatMap (D.C.cel t')) (i * D.C.sz t'+bM p) (x.cells D.C)))]) id (.gbx ((l.set i a).flatMap (D.C.cel t')))=upd H id (.gbx ((l.set i a).flatMap (D.C.cel t'))):=by
      funext k
      simp only [app]
      by_cases hk:k=id
      ·subst hk; rw [aR,aR]
      ·rw [aJ _ _ hk,aJ _ _ hk,aJ _ _ hk]
     rw [e3] at this
     exact this
    ·cases hs
   ·cases hs
 ·cases hs
def aJf (D:TEnv τ) (t:TypeId) (a:TV τ) (k:Nat):Option (TV τ) :=
 match D.E.ty t with
 | some ⟨.struct fields, _, _, _⟩ =>
  match fields[k]? with
  | some f =>
   match D.E.ty f.type with
   | some fi => bif fi.size == 0 then none else
    match a with
    | .ptr id p=>some (.ptr id (p++[.fld k f.offset]))
    | .ipt (.agg l)=>(match l[k]? with | some y=>(bif TV.sizes D.C (l.take k)==f.offset then some (.ipt y) else none) | none=>none)
    | _=>none
   | none=>none
  | none=>none
 | _=>none
theorem aJg:∀ (p:List Step) (s:Step),bM (p++[s])=bM p+s.off
 | [],s=>by simp [bM]
 | x :: p,s=>by simp [bM,aJg p s,Nat.add_assoc]
theorem aJh:∀ (p:List Step) (s:Step),cS (p++[s])=(cS p&&s.inb)
 | [],s=>by simp [cS]
 | x :: p,s=>by simp [cS,aJh p s,Bool.and_assoc]
theorem aVU {D:TEnv τ} (hD:D.Ok) {g:Gh} {t:TypeId} {a r:TV τ} {va:Value} {k:Nat} (ha:VRel g (a.den D.C) va) (h:aJf D t a k=some r) (w:World) :
  ∃ v,(Instr.fieldAt t va k).run D.E.P w=.ok v w∧VRel g (r.den D.C) v:=by
 unfold aJf at h
 split at h
 ·rename_i fields s b z ht
  split at h
  ·rename_i f hf
   split at h
   ·rename_i fi hfi
    cases hz:fi.size==0 with
    | true=>rw [hz] at h; cases h
    | false =>
     rw [hz] at h
     simp only [cond_false] at h
     have hz':¬ fi.size=0:=by simpa using hz
     split at h
     ·rename_i id p
      cases h
      obtain ⟨hb,ha'⟩:=kO ha
      have:tT D.E t (.ptr id (bM p)) k=some (.ptr id (bM p+f.offset)):=by
       unfold tT; simp only [ht,hf,hfi,if_neg hz']
      obtain ⟨v,h1,h2⟩:=aLv hD.E ha' this w
      refine ⟨v,h1,?_⟩
      simp only [TV.den,dW,aJh,aJg,hb,Step.inb,Step.off,Bool.and_true,cond_true]
      exact h2
     ·rename_i l
      split at h
      ·rename_i y hy
       cases ho:TV.sizes D.C (l.take k)==f.offset with
       | false=>rw [ho] at h; cases h
       | true =>
        rw [ho] at h
        simp only [cond_true,Option.some.injEq] at h
        subst h
        have ho':TV.sizes D.C (l.take k)=f.offset:=by simpa using ho
        have:tT D.E t (.iptr (TV.cellsL D.C l) 0) k=some (.iptr (TV.cellsL D.C l) (0+f.offset)):=by
         unfold tT; simp only [ht,hf,hfi,if_neg hz']
        obtain ⟨v,h1,h2⟩:=aLv hD.E (show VRel g (.iptr (TV.cellsL D.C l) 0) va by simpa [TV.den,TV.cells] using ha) this w
        refine ⟨v,h1,?_⟩
        obtain ⟨h3,h4⟩:=aJa hD.C l k y hy
        simp only [TV.den]
        refine W.iptr (off:=0+f.offset) ?_ g v h2
        rw [Nat.zero_add,dO hD.C,← ho',h3]
        exact .refl _
      ·cases h
     ·cases h
   ·cases h
  ·cases h
 ·cases h
def aJi (D:TEnv τ) (t:TypeId) (x:TV τ) (k:Nat):Option (TV τ) :=
 match D.E.ty t,x with
 | some ⟨.struct fields, _, _, _⟩, .agg l =>
  match fields[k]?,l[k]? with
  | some f, some y =>
   match D.E.ty f.type with
   | some fi=>bif TV.sizes D.C (l.take k)==f.offset&&fY D.C fi y then some y else none
   | none=>none
  | _,_=>none
 | _,_=>none
theorem aVV {D:TEnv τ} (hD:D.Ok) {g:Gh} {t:TypeId} {x r:TV τ} {vx:Value} {k:Nat} (hx:VRel g (x.den D.C) vx) (h:aJi D t x k=some r) (w:World) :
  ∃ v,(Instr.field t vx k).run D.E.P w=.ok v w∧VRel g (r.den D.C) v:=by
 unfold aJi at h
 split at h
 ·rename_i fields s b z l ht
  split at h
  ·rename_i f y hf hy
   split at h
   ·rename_i fi hfi
    cases hc:TV.sizes D.C (l.take k)==f.offset&&fY D.C fi y with
    | false=>rw [hc] at h; cases h
    | true =>
     rw [hc] at h
     simp only [cond_true,Option.some.injEq] at h
     subst h
     simp only [Bool.and_eq_true,beq_iff_eq] at hc
     refine aQd hD.E hx (t:=t) (k:=k) ?_ w
     unfold aE0
     simp only [ht,TV.den,AV.cells?,hf]
     unfold qY
     simp only [hfi]
     have:=aAf (x:=.agg l) (p:=[.fld k f.offset]) (y:=y) (i:=fi) hD (by simp [TV.sub,hc.1,hy]) rfl hc.2
     simp only [bM,Step.off,Nat.add_zero,TV.cells] at this
     exact this
   ·cases h
  ·cases h
 ·cases h
def ibB (i:Int) (n:Int):Bool:=decide (0≤i)&&decide (i < n)
theorem qA {i n:Int} (h:ibB i n=true):0≤i∧i < n:=by simpa [ibB] using h
def aJj (D:TEnv τ) (t:TypeId) (x ix:TV τ):Option (bG τ) :=
 match D.E.ty t,ix with
 | some ⟨.array n e, _, _, _⟩, .int _ i =>
  match D.E.ty e,x with
  | some ei,.ptr id p=>some { r:=.ptr id (p++[.idx i.toNat n ei.size]),ob:=some (ibB i n) }
  | some ei,.ipt (.arr t' n' v)=>bif n==n'&&D.C.sz t'==ei.size then some { r:=.ipt (D.C.enc t' (bC v i.toNat (D.C.df t'))),ob:=some (ibB i n) } else none
  | _,_=>none
 | some ⟨.slice e, _, _, _⟩, .int _ i =>
  match D.E.ty e,x with
  | some ei,.sl t' l _=>bif D.C.sz t'==ei.size then some { r:=.ipt (D.C.enc t' (aA l i (D.C.df t'))),ob:=some (ibB i l.length) } else none
  | some ei,.ls s l=>bif s==ei.size then (match l[i.toNat]? with | some y=>some { r:=.ipt y,ob:=some (ibB i l.length) } | none=>none) else none
  | some ei,.msl t' id n=>bif D.C.sz t'==ei.size then some { r:=.ptr id [.el i.toNat ei.size],ob:=some (ibB i n) } else none
  | some ei,.wsl t' id o n c nn=>bif D.C.sz t'==ei.size then some { r:=.ptr id [.el (o+i.toNat) ei.size],ob:=some (ibB i n) } else none
  | some _,.nil .slice=>some { r:=.junk,ob:=some false }
  | _,_=>none
 | _,_=>none
theorem aVW {D:TEnv τ} (hD:D.Ok) {g:Gh} {t:TypeId} {x ix:TV τ} {vx vi:Value} (hx:VRel g (x.den D.C) vx) (hix:VRel g (ix.den D.C) vi) {res:bG τ} (h:aJj D t x ix=some res)
  (hob:res.ob=none∨res.ob=some true) (w:World):∃ v,(Instr.indexAt t vx vi).run D.E.P w=.ok v w∧VRel g (res.r.den D.C) v∧res.U=[]:=by
 unfold aJj at h
 split at h
 ·rename_i n e s b z k i ht
  split at h
  ·rename_i ei id p he
   cases h
   have hb0:=qA (show ibB i n=true by simpa using hob)
   obtain ⟨hb,hx'⟩:=kO hx
   have:iS D.E t (.ptr id (bM p)) (.v (.int k i))=some { r:=.ptr id (bM p+i.toNat * ei.size),ob:=0≤i∧i < n }:=by
    unfold iS; simp only [ht,he]
   obtain ⟨v,h1,h2,_⟩:=tU hD.E hx' hix this hb0 w
   refine ⟨v,h1,?_,rfl⟩
   have hlt:i.toNat < n:=by omega
   simp only [TV.den,dW,aJh,aJg,hb,Step.inb,Step.off,hlt,decide_true,Bool.and_true,cond_true]
   exact h2
  ·rename_i ei t' n' v0 he
   cases hc:n==n'&&D.C.sz t'==ei.size with
   | false=>rw [hc] at h; cases h
   | true =>
    rw [hc] at h
    simp only [cond_true,Option.some.injEq] at h
    subst h
    simp only [Bool.and_eq_true,beq_iff_eq] at hc
    have hb0:=qA (show ibB i n=true by simpa using hob)
    have:iS D.E t (.iptr (v0.toList.flatMap (D.C.cel t')) 0) (.v (.int k i))=some { r:=.iptr (v0.toList.flatMap (D.C.cel t')) (0+i.toNat * ei.size),ob:=0≤i∧i < n }:=by
     unfold iS; simp only [ht,he]
    obtain ⟨v,h1,h2,_⟩:=tU hD.E (show VRel g (.iptr (v0.toList.flatMap (D.C.cel t')) 0) vx by simpa [TV.den,TV.cells] using hx) hix this hb0 w
    refine ⟨v,h1,?_,rfl⟩
    simp only [TV.den]
    refine W.iptr (off:=0+i.toNat * ei.size) ?_ g v h2
    rw [hD.C.cel,hD.C.len,Nat.zero_add,← hc.2,vY hD.C v0.toList i.toNat (by simp; omega) (D.C.df t')]
    exact .refl _
  ·cases h
 ·rename_i e s b z k i ht
  split at h
  ·rename_i ei t' l kk he
   cases hc:D.C.sz t'==ei.size with
   | false=>rw [hc] at h; cases h
   | true =>
    rw [hc] at h
    simp only [cond_true,Option.some.injEq] at h
    subst h
    simp only [beq_iff_eq] at hc
    have hb0:=qA (show ibB i l.length=true by simpa using hob)
    have hx':=wA D.C t' l kk g vx hx
    have:iS D.E t (.asl (D.C.sz t') (l.map (D.C.cel t'))) (.v (.int k i))=some { r:=.iptr ((l.map (D.C.cel t')).getD i.toNat []) 0,ob:=0≤i∧i < (l.map (D.C.cel t')).length }:=by
     unfold iS; simp only [ht,he,if_pos hc]
    obtain ⟨v,h1,h2,_⟩:=tU hD.E hx' hix this (by simpa using hb0) w
    refine ⟨v,h1,?_,rfl⟩
    have hlt:i.toNat < l.length:=by omega
    simp only [TV.den,hD.C.cel,aA]
    have:(l.map (D.C.cel t')).getD i.toNat []=D.C.cel t' (l.getD i.toNat (D.C.df t')):=by simp [List.getD,hlt]
    rw [← this]; exact h2
  ·rename_i ei s' l he
   cases hc:s'==ei.size with
   | false=>rw [hc] at h; cases h
   | true =>
    rw [hc] at h
    simp only [cond_true] at h
    split at h
    ·rename_i y hy
     cases h
     simp only [beq_iff_eq] at hc
     have hb0:=qA (show ibB i l.length=true by simpa using hob)
     have hel:(TV.cellsE D.C l)[i.toNat]?=some (y.cells D.C):=by rw [aAe,List.getElem?_map,hy]; rfl
     have:iS D.E t (.sl s' (TV.cellsE D.C l) .full) (.v (.int k i))=some { r:=.iptr ((TV.cellsE D.C l).getD i.toNat []) 0,ob:=0≤i∧i < (TV.cellsE D.C l).length }:=by
      unfold iS; simp only [ht,he,if_pos hc]
     obtain ⟨v,h1,h2,_⟩:=tU hD.E (show VRel g (.sl s' (TV.cellsE D.C l) .full) vx from hx) hix this (by rw [aAe]; simpa using hb0) w
     refine ⟨v,h1,?_,rfl⟩
     simp only [List.getD,hel,Option.getD_some] at h2
     exact h2
    ·cases h
  ·rename_i ei t' id n he
   cases hc:D.C.sz t'==ei.size with
   | false=>rw [hc] at h; cases h
   | true =>
    rw [hc] at h
    simp only [cond_true,Option.some.injEq] at h
    subst h
    simp only [beq_iff_eq] at hc
    have hb0:=qA (show ibB i n=true by simpa using hob)
    have:iS D.E t (.bsl id 0 n (D.C.sz t')) (.v (.int k i))=some { r:=.ptr id (0+i.toNat * D.C.sz t'),ob:=0≤i∧i < n }:=by
     unfold iS; simp only [ht,he,if_pos hc]
    obtain ⟨v,h1,h2,_⟩:=tU hD.E (show VRel g (.bsl id 0 n (D.C.sz t')) vx from hx) hix this hb0 w
    refine ⟨v,h1,?_,rfl⟩
    simp only [TV.den,dW,cS,Step.inb,Bool.and_true,cond_true,bM,Step.off,Nat.add_zero]
    rw [Nat.zero_add,hc] at h2
    exact h2
  ·rename_i ei t' id o n c nn he
   cases hc:D.C.sz t'==ei.size with
   | false=>rw [hc] at h; cases h
   | true =>
    rw [hc] at h
    simp only [cond_true,Option.some.injEq] at h
    subst h
    simp only [beq_iff_eq] at hc
    have hb0:=qA (show ibB i n=true by simpa using hob)
    cases hix
    obtain ⟨v,h1,h2⟩:=aQz hD.E ht he hc (show VRel g (.wsl id (o * D.C.sz t') n c nn (D.C.sz t')) vx from hx) (k:=k) hb0 w
    refine ⟨v,h1,?_,rfl⟩
    simp only [TV.den,dW,cS,Step.inb,Bool.and_true,cond_true,bM,Step.off,Nat.add_zero]
    rw [← Nat.add_mul,hc] at h2
    exact h2
  ·cases h
   simp at hob
  ·cases h
 ·cases h
def aJk (D:TEnv τ) (t:TypeId) (x ix:TV τ):Option (bG τ) :=
 match D.E.ty t,x,ix with
 | some ⟨.array n e, _, _, _⟩, .arr t' n' v, .int _ i =>
  match D.E.ty e with
  | some ei=>bif n==n'&&D.C.sz t'==ei.size&&fY D.C ei (D.C.enc t' (bC v i.toNat (D.C.df t'))) then some { r:=D.C.enc t' (bC v i.toNat (D.C.df t')),ob:=some (ibB i n) } else none
  | none=>none
 | some ⟨.string,_,_,_⟩,.str s,.int _ i=>some { r:=.int .u8 (s.getD i.toNat 0).toNat,ob:=some (ibB i s.length) }
 | _,_,_=>none
theorem aVX {D:TEnv τ} (hD:D.Ok) {g:Gh} {t:TypeId} {x ix:TV τ} {vx vi:Value} (hx:VRel g (x.den D.C) vx) (hix:VRel g (ix.den D.C) vi) {res:bG τ} (h:aJk D t x ix=some res)
  (hob:res.ob=none∨res.ob=some true) (w:World):∃ v,(Instr.index t vx vi).run D.E.P w=.ok v w∧VRel g (res.r.den D.C) v∧res.U=[]:=by
 unfold aJk at h
 split at h
 ·rename_i n e s b z t' n' v0 k i ht
  split at h
  ·rename_i ei he
   cases hc:n==n'&&D.C.sz t'==ei.size&&fY D.C ei (D.C.enc t' (bC v0 i.toNat (D.C.df t'))) with
   | false=>rw [hc] at h; cases h
   | true =>
    rw [hc] at h
    simp only [cond_true,Option.some.injEq] at h
    subst h
    simp only [Bool.and_eq_true,beq_iff_eq] at hc
    obtain ⟨⟨c1,c2⟩,c3⟩:=hc
    have hb0:=qA (show ibB i n=true by simpa using hob)
    have:xQ D.E t (.agg (v0.toList.flatMap (D.C.cel t'))) (.v (.int k i))=some { r:=(D.C.enc t' (bC v0 i.toNat (D.C.df t'))).den D.C,ob:=0≤i∧i < n }:=by
     have hl:=aAf (x:=.arr t' n' v0) (p:=[.idx i.toNat n ei.size]) (i:=ei) hD (by simp [TV.sub,c1,c2]) (by simp [cS,Step.inb]; omega) c3
     simp only [bM,Step.off,Nat.add_zero,TV.cells] at hl
     have hp:qY D.E e (v0.toList.flatMap (D.C.cel t')) (i.toNat * ei.size)=some ((D.C.enc t' (bC v0 i.toNat (D.C.df t'))).den D.C):=by
      unfold qY; simp only [he]; exact hl
     unfold xQ
     simp only [ht,he,Option.map_some,Option.getD_some,hp]
    obtain ⟨v,h1,h2,_⟩:=aLx hD.E (show VRel g (.agg (v0.toList.flatMap (D.C.cel t'))) vx by simpa [TV.den] using hx) hix this hb0 w
    exact ⟨v,h1,h2,rfl⟩
  ·cases h
 ·rename_i s0 b z s k i ht
  cases h
  have hb0:=qA (show ibB i _=true by simpa using hob)
  obtain ⟨v,h1,h2,_⟩:=aLx hD.E (t:=t) hx hix (res:={ r:=.v (.int .u8 (s.getD i.toNat 0).toNat),ob:=0≤i∧i < s.length }) (by unfold xQ; simp only [ht,TV.den]; first | done | rfl) hb0 w
  exact ⟨v,h1,h2,rfl⟩
 ·cases h
end
end Go.Ev
