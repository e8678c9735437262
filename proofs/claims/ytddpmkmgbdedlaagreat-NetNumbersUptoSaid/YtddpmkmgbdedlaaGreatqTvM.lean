/-
The typed layer: states,guards,and one operation at a typed state.
-/
import Derived.Test.YtddpmkmgbdedlaaGreatqTvL
set_option linter.unusedVariables false
set_option linter.unusedSimpArgs false
namespace Go.Ev
open Go
section
variable {τ:Nat→Type}
structure mE (τ:Nat→Type) where
 t:List (TV τ)
 h:List (bD τ)
 dt:List Nat
 dh:List Nat
 off:List (Nat×Bool)
def sG:List (TV τ)→Nat→TV τ
 |[],_=>.aZ
 |x :: _,0=>x
 |_ :: r,k+1=>sG r k
def KH:List (TV τ)→Nat→TV τ→List (TV τ)
 |[],_,_=>[]
 |_ :: r,0,v=>v :: r
 |x :: r,k+1,v=>x :: KH r k v
def dA:List (bD τ)→Nat→bD τ
 |[],_=>.bX
 |x :: _,0=>x
 |_ :: r,k+1=>dA r k
def Qi:List (bD τ)→Nat→bD τ→List (bD τ)
 |[],0,e=>[e]
 |[],k+1,e=>.bX :: Qi [] k e
 |_ :: r,0,e=>e :: r
 |x :: r,k+1,e=>x :: Qi r k e
def Me (h:List (bD τ)):List (Nat×bD τ)→List (bD τ)
 |[]=>h
 |(k,e) :: r=>Me (Qi h k e) r
def Dh (C:eY τ):TV τ→AV
 |.yK _ _ b x=>.yK b (x.den C)
 |x=>x.den C
def fG (C:eY τ)(st:mE τ):St:=⟨st.t.map (Dh C),st.h.map (bD.den C)⟩
def pQ (C:eY τ)(U:List (Nat×bD τ)):List (Nat×dD):=U.map fun p=>(p.1,p.2.den C)
theorem BH (C:eY τ):∀ (t:List (TV τ)) (k:Nat),nth (t.map (Dh C)) k=Dh C (sG t k)
 |[],k=>by cases k<;>rfl
 |x :: r,0=>rfl
 |x :: r,k+1=>BH C r k
theorem pS (C:eY τ):∀ (h:List (bD τ)) (k:Nat),bU (h.map (bD.den C)) k=(dA h k).den C
 |[],k=>by cases k<;>rfl
 |x :: r,0=>rfl
 |x :: r,k+1=>pS C r k
theorem cw (C:eY τ):∀ (t:List (TV τ)) (k:Nat) (v:TV τ),NB (t.map (Dh C)) k (Dh C v)=(KH t k v).map (Dh C)
 |[],k,v=>rfl
 |x :: r,0,v=>rfl
 |x :: r,k+1,v=>by simp only[List.map_cons,NB,KH,cw C r k v]
theorem Zk (C:eY τ):∀ (h:List (bD τ)) (k:Nat) (e:bD τ),JZ (h.map (bD.den C)) k (e.den C)=(Qi h k e).map (bD.den C)
 |[],0,e=>rfl
 |[],k+1,e=>by
  have:=Zk C [] k e
  simp only[List.map_nil]at this
  simp only[List.map_nil,JZ,Qi,List.map_cons,this];rfl
 |x :: r,0,e=>rfl
 |x :: r,k+1,e=>by simp only[List.map_cons,JZ,Qi,Zk C r k e]
theorem NT (C:eY τ):∀ (U:List (Nat×bD τ)) (h:List (bD τ)),YC (h.map (bD.den C)) (pQ C U)=(Me h U).map (bD.den C)
 |[],h=>rfl
 |(k,e) :: r,h=>by
  have:=NT C r (Qi h k e)
  simp only[pQ,List.map_cons,YC,Me,Zk]at this ⊢
  exact this
theorem IP:∀ (t:List (TV τ)) (k j:Nat) (v:TV τ),j≠k→sG (KH t k v) j=sG t j
 |[],k,j,v,h=>rfl
 |x :: r,0,0,v,h=>absurd rfl h
 |x :: r,0,j+1,v,h=>rfl
 |x :: r,k+1,0,v,h=>rfl
 |x :: r,k+1,j+1,v,h=>IP r k j v (fun e=>h (by rw[e]))
theorem HN:∀ (t:List (TV τ)) (k:Nat) (v:TV τ),sG (KH t k v) k=v∨sG (KH t k v) k=.aZ
 |[],k,v=>.inr rfl
 |x :: r,0,v=>.inl rfl
 |x :: r,k+1,v=>HN r k v
theorem US:∀ (t:List (TV τ)) (k:Nat) (v:TV τ),(KH t k v).length=t.length
 |[],k,v=>rfl
 |x :: r,0,v=>rfl
 |x :: r,k+1,v=>by simp only[KH,List.length_cons,US r k v]
theorem nT:∀ (h:List (bD τ)) (k j:Nat) (e:bD τ),j≠k→dA (Qi h k e) j=dA h j
 |[],0,0,e,hn=>absurd rfl hn
 |[],0,j+1,e,hn=>by cases j<;>rfl
 |[],k+1,0,e,hn=>rfl
 |[],k+1,j+1,e,hn=>by
  have:=nT [] k j e (fun x=>hn (by rw[x]))
  simp only[Qi,dA]
  rw[this];cases j<;>rfl
 |x :: r,0,0,e,hn=>absurd rfl hn
 |x :: r,0,j+1,e,hn=>rfl
 |x :: r,k+1,0,e,hn=>rfl
 |x :: r,k+1,j+1,e,hn=>nT r k j e (fun x=>hn (by rw[x]))
theorem CR:∀ (U:List (Nat×bD τ)) (h:List (bD τ)) (j:Nat),j ∉ U.map (·.1)→dA (Me h U) j=dA h j
 |[],h,j,hn=>rfl
 |(k,e) :: r,h,j,hn=>by
  simp only[List.map_cons,List.mem_cons,not_or]at hn
  rw[Me,CR r _ j hn.2,nT h k j e hn.1]
theorem Jk:∀ (h:List (bD τ)) (k:Nat),h.length≤k→dA h k=.bX
 |[],k,_=>by cases k<;>rfl
 |x :: r,0,hk=>by simp at hk
 |x :: r,k+1,hk=>Jk r k (by simpa using hk)
def WE (k:Nat):List Nat→Bool
 |[]=>false
 |x :: r=>Nat.beq x k || WE k r
theorem Yn {k:Nat}:∀ {l:List Nat},WE k l=true↔k∈l
 |[]=>by simp[WE]
 |x :: r=>by simp only[WE,Bool.or_eq_true,Yn (l:=r),List.mem_cons,Nat.beq_eq];exact or_congr_left eq_comm
def sk:Value→TV τ
 |.int k n=>.int k n
 |.bool b=>.bool b
 |.string s=>.str s.data.toList
 |.pointer none=>.nil .ptr
 |.slice none 0 0=>.nil .slice
 |.nilFunc=>.nil .func
 |.nilIface=>.nil .iface
 |_=>.aZ
def mE.val (st:mE τ):Operand→TV τ
 |.tmp k=>sG st.t k
 |.const v=>sk v
 |.func f=>.fn f []
 |.global _=>.aZ
def TV.strip:TV τ→TV τ
 |.yK _ _ _ x=>x
 |x=>x
def nc:TV τ→TV τ
 |.yK _ _ _ _=>.aZ
 |x=>x
theorem aAU {C:eY τ}{g:Gh}{x:TV τ}{v:Value}(h:aF g (x.den C) v):aF g (Dh C (nc x)) v:=by
 cases x<;>first|exact h|exact .aZ v
theorem aDn {C:eY τ}{g:Gh}{st:mE τ}{x:Operand}{v:Value}(h:aF g ((fG C st).val x) v):aF g (Dh C (st.val x)) v:=by
 cases x with
 |tmp k=>simp only[fG,St.val,BH]at h;exact h
 |const c =>
  simp only[St.val]at h
  cases h
  simp only[mE.val]
  unfold sk
  split<;>first|exact .v _|exact .aZ _
 |func f=>exact h
 |global n=>exact .aZ v
def gB (w b:Bool):Bool:=bif w then b else !b
theorem aEc (w b:Bool):gB w b=(b==w):=by cases w<;>cases b<;>rfl
def Ao (t:List (TV τ))(g:Nat×Bool):Option Bool :=
 match sG t g.1 with
 |.bool c=>some (gB g.2 c)
 |.yK _ _ b (.bool c)=>some (b&&gB g.2 c)
 |_=>none
def Zc:Option Nat→Option Nat→Bool
 |some a,some b=>Nat.beq a b
 |_,_=>false
def AQ (ops:Array Oper)(t:List (TV τ))(o:Oper):Option (Option (Nat×Bool)) :=
 match o.guard with
 |none=>some none
 |some (j,w) =>
  match (ops[j]?).bind (·.dst) with
  |some d=>bif Zc o.dst (some d) then none else (match Ao t (d,w) with|some _=>some (some (d,w)) | none=>none)
  |none=>none
theorem ja {C:eY τ}{x:TV τ}{w b:Bool}(h:(match x with | .bool c=>some (gB w c) | .yK _ _ b (.bool c)=>some (b&&gB w c) | _=>none)=some b):LQ (Dh C x) w=some b:=by
 split at h
 ·cases h;simp[Dh,TV.den,LQ,aEc]
 ·cases h;simp[Dh,TV.den,LQ,aEc]
 ·cases h
theorem UI {C:eY τ}{ops:Array Oper}{st:mE τ}{o:Oper}(h:AQ ops st.t o=some none):guardOf ops (fG C st) o=some none:=by
 unfold AQ at h
 unfold guardOf
 split at h
 ·rename_i hg;rw[hg]
 ·split at h
  ·rename_i d _
   cases hb:Zc o.dst (some d) with
   |true=>rw[hb]at h;cases h
   |false =>
    rw[hb]at h
    simp only[cond_false]at h
    split at h<;>cases h
  ·cases h
theorem Uy {C:eY τ}{ops:Array Oper}{st:mE τ}{o:Oper}{g:Nat×Bool}(h:AQ ops st.t o=some (some g)):∃ b,Ao st.t g=some b∧guardOf ops (fG C st) o=some (some b)∧∀ k,o.dst=some k→g.1≠k:=by
 unfold AQ at h
 unfold guardOf
 split at h
 ·cases h
 ·rename_i j w hg
  split at h
  ·rename_i d hd
   cases hbd:Zc o.dst (some d) with
   |true=>rw[hbd]at h;cases h
   |false =>
    rw[hbd]at h
    simp only[cond_false]at h
    split at h
    ·rename_i b hb
     cases h
     refine⟨b,hb,?_,fun k hk e=>?_⟩
     ·have:LQ (Dh C (sG st.t d)) w=some b:=ja hb
      simp only[hg,hd,fG,BH,this,Option.map_some]
     ·have e':d=k:=e
      subst e'
      rw[hk]at hbd;simp[Zc]at hbd
    ·cases h
  ·cases h
def Inv (t:List (TV τ)):Prop:=∀ k d w b x,sG t k=.yK d w b x→Ao t (d,w)=some b
def geq (a b:Nat×Bool):Bool:=Nat.beq a.1 b.1&&(a.2==b.2)
theorem N2 {a b:Nat×Bool}(h:geq a b=true):a=b:=by
 simp only[geq,Bool.and_eq_true,beq_iff_eq]at h
 exact Prod.ext (Nat.eq_of_beq_eq_true h.1) h.2
def aCJ:Nat→List (TV τ)→Nat×Bool→Nat×Bool→Bool
 |0,_,_,_=>false
 |n+1,t,g,k=>geq g k || (match sG t g.1 with | .yK d w _ _=>aCJ n t (d,w) k|_=>false)
theorem LX {t:List (TV τ)}(hI:Inv t):∀ (n:Nat) (g k:Nat×Bool) (b:Bool),aCJ n t g k=true→Ao t g=some true→Ao t k=some b→b=true
 |0,g,k,b,h,_,_=>by cases h
 |n+1,g,k,b,h,hg,hk=>by
  simp only[aCJ,Bool.or_eq_true]at h
  rcases h with h|h
  ·have:=N2 h;subst this
   rw[hg]at hk;exact (Option.some.inj hk).symm
  ·split at h
   ·rename_i d w b' x hx
    refine LX hI n (d,w) k b h ?_ hk
    have h1:=hI g.1 d w b' x hx
    unfold Ao at hg
    rw[hx]at hg
    split at hg
    ·rename_i he;cases he
    ·rename_i he
     cases he
     simp only[Option.some.injEq,Bool.and_eq_true]at hg
     rw[h1,hg.1]
    ·cases hg
   ·cases h
def PM (t:List (TV τ))(G:Option (Nat×Bool))(x:TV τ):Bool :=
 match x with
 |.yK d w _ _=>(match G with|some g=>aCJ 8 t g (d,w) | none=>false)
 |_=>true
def OH (t:List (TV τ))(G:Option (Nat×Bool)):Prop:=match G with|none=>True|some g=>Ao t g=some true
theorem g8 {C:eY τ}{g:Gh}{st:mE τ}(hI:Inv st.t){G:Option (Nat×Bool)}(hG:OH st.t G){x:Operand}(h:PM st.t G (st.val x)=true){v:Value}(hv:aF g (Dh C (st.val x)) v):aF g ((st.val x).strip.den C) v:=by
 generalize hx:st.val x=y at h hv
 cases y with
 |yK d w b z =>
  have hk:∃ k,sG st.t k=.yK d w b z:=by
   cases x with
   |tmp k=>exact⟨k,hx⟩
   |const c =>
    simp only[mE.val]at hx
    unfold sk at hx
    split at hx<;>cases hx
   |func f=>cases hx
   |global n=>cases hx
  obtain⟨k,hk⟩:=hk
  have hb:=hI k d w b z hk
  unfold PM at h
  cases G with
  |none=>cases h
  |some g0 =>
   have:b=true:=LX hI 8 g0 (d,w) b h hG hb
   subst this
   simp only[Dh]at hv
   cases hv with
   |yK h1 _=>exact h1 rfl
 |_=>exact hv
theorem aAO {E:Env}{ops:Array Oper}{o:Oper}{s:St}{r:AV}{U:List (Nat×dD)}{F:List Nat}(hg:guardOf ops s o=some none∨guardOf ops s o=some (some true))
  (Yf:∀ (s':St) g a w,pN g s' a w→(∀ x∈o.op.operands,s'.val x=s.val x)→(∀ id∈F,bU s'.h id=bU s.h id)→∀ (next:Act→World→Prop) (Q:Exit→Act→World→Prop),
   (∀ v g' w',aF g' r v→iH g (bU s'.h) w g' (app (bU s'.h) U) w'→next (a.put o.dst v) w')→owp E o a w next Q):Local E ops o s ⟨r,U,F⟩:=by
 intro s' g a w hr ht hH next Q hnx
 have hv:=J7 ht
 have hw:Region.wanted o (yielded ops a.tmps)=true:=by
  rcases hg with hg|hg
  ·exact N3 ((Ll ht).trans hg) _
  ·exact Ox hr ((Ll ht).trans hg)
 unfold br
 rw[if_pos hw]
 refine Yf s' g a w hr hv hH next Q fun v g' w' h2 h3=>?_
 have h4:iH g (bU s'.h) w g' (bU (YC s'.h U)) w':=by rw[Qm];exact h3
 exact hnx g' _ w' (Act.put_defers _ _ _) (hr.put h4.le h4.rel o.dst h2) h4
theorem ui {E:Env}{ops:Array Oper}{o:Oper}{s:St}{r:AV}{F:List Nat}{b:Bool}(hg:guardOf ops s o=some (some b))
  (Yf:b=true→∀ (s':St) g a w,pN g s' a w→(∀ x∈o.op.operands,s'.val x=s.val x)→(∀ id∈F,bU s'.h id=bU s.h id)→∀ (next:Act→World→Prop) (Q:Exit→Act→World→Prop),
   (∀ v g' w',aF g' r v→iH g (bU s'.h) w g' (bU s'.h) w'→next (a.put o.dst v) w')→owp E o a w next Q):Local E ops o s ⟨.yK b r,[],F⟩:=by
 intro s' g a w hr ht hH next Q hnx
 cases b with
 |false =>
  have hw:=Ox hr ((Ll ht).trans hg)
  unfold br
  rw[if_neg (by rw[hw];simp)]
  exact hnx g _ w (Act.put_defers _ _ _) (hr.put (h':=s'.h) g.U5 hr.rel o.dst (.yK (by simp) fun _=>rfl)) (.refl hr.rel)
 |true =>
  have hv:=J7 ht
  have hw:Region.wanted o (yielded ops a.tmps)=true:=Ox hr ((Ll ht).trans hg)
  unfold br
  rw[if_pos hw]
  refine Yf rfl s' g a w hr hv hH next Q fun v g' w' h2 h3=>?_
  exact hnx g' _ w' (Act.put_defers _ _ _) (hr.put (h':=s'.h) h3.le h3.rel o.dst (.yK (fun _=>h2) (by simp))) h3
theorem G8 {E:Env}{ops:Array Oper}{o:Oper}{s:St}(hg:guardOf ops s o=some (some false)):Local E ops o s ⟨.aZ,[],[]⟩:=by
 intro s' g a w hr ht hH next Q hnx
 have hw:=Ox hr ((Ll ht).trans hg)
 unfold br
 rw[if_neg (by rw[hw];simp)]
 exact hnx g _ w (Act.put_defers _ _ _) (hr.put (h':=s'.h) g.U5 hr.rel o.dst (.aZ _)) (.refl hr.rel)
def QZ (E:Env)(C:eY τ)(o:Oper)(st:mE τ)(r:TV τ)(U:List (Nat×bD τ))(F:List Nat):Prop :=
 ∀ (s':St) g a w,pN g s' a w→(∀ x∈o.op.operands,s'.val x=(fG C st).val x)→(∀ id∈F,bU s'.h id=(dA st.h id).den C)→∀ (next:Act→World→Prop) (Q:Exit→Act→World→Prop),
  (∀ v g' w',aF g' (r.den C) v→iH g (bU s'.h) w g' (app (bU s'.h) (pQ C U)) w'→next (a.put o.dst v) w')→owp E o a w next Q
theorem km (op:Op):∀ x∈eC op,x∈op.operands:=by
 intro x hx
 cases op with
 |call c =>
  simp only[eC,List.mem_append]at hx
  simp only[Op.operands,Call.operands,Array.mem_append]
  rcases hx with hx|hx
  ·left
   cases hc:c.callee<;>simp_all
  ·right;simpa using hx
 |slice t x lo hi mx =>
  simp only[eC,List.mem_cons,List.mem_append]at hx
  simp only[Op.operands,Array.mem_append]
  rcases hx with rfl | (hx|hx) | hx
  ·left;left;left;simp
  ·left;left;right;simpa using hx
  ·left;right;simpa using hx
  ·right;simpa using hx
 |build t ps=>simpa[eC,Op.operands] using hx
 |buildSlice t n ps=>simpa[eC,Op.operands] using hx
 |makeFunc fn first captured=>simp only[eC]at hx;simp only[Op.operands,Array.mem_append];right;simpa using hx
 |pick c a b=>simp only[eC]at hx;simp[Op.operands];left;simpa using hx
 |_=>first | (simp[eC]at hx;done) | simpa[eC,Op.operands] using hx
theorem PN {C:eY τ}{g:Gh}{st:mE τ}{s':St}{a:Act}{w:World}(hr:pN g s' a w){x:Operand}(hx:s'.val x=(fG C st).val x):aF g (Dh C (st.val x)) (a.eval x) :=
 aDn (hx▸hr.val x)
def lZ (E:Env)(C:eY τ)(fl:Bool)(o:Oper)(val:Operand→TV τ)(h:Nat→bD τ)(r:TV τ)(U:List (Nat×bD τ))(F:List Nat):Prop :=
 ∀ (H:Nat→dD) (g:Gh) (a:Act) (w:World),kT g H w→(∀ x∈eC o.op,aF g ((val x).den C) (a.eval x))→(∀ id∈F,H id=(h id).den C)→(∃ k,∀ m,k≤m→H m=.bX) →
  ∀ (next:Act→World→Prop) (Q:Exit→Act→World→Prop),
  (∀ v g' w',aF g' (r.den C) v→iH g H w g' (app H (pQ C U)) w'→(fl=true→g'.α=g.α)→next (a.put o.dst v) w')→owp E o a w next Q
def bD.XN:bD τ→Bool
 |.aX _ _=>false
 |_=>true
def j5 (h:Nat→bD τ)(U:List (Nat×bD τ))(F:List Nat):Bool:=U.all fun p=>WE p.1 F&&(p.2.XN&&(h p.1).XN)
theorem UZ {C:eY τ}{e:bD τ}(h:e.XN=true)(ms:List (Option (List AV))):e.den C≠.aX ms:=by
 cases e with
 |aX t ms=>simp[bD.XN]at h
 |_=>simp[bD.den]
theorem W5:∀ (U:List (Nat×dD)) (H:Nat→dD),(∀ q∈U,(∀ ms,H q.1≠.aX ms)∧∀ ms,q.2≠.aX ms)→∀ p ms,app H U p=.aX ms↔H p=.aX ms
 |[],H,h,p,ms=>Iff.rfl
 |(k,e) :: r,H,h,p,ms=>by
  obtain⟨h1,h2⟩:=h (k,e) List.mem_cons_self
  rw[app,W5 r (eQ H k e) (fun q hq=>⟨fun kS=>?_,(h q (List.mem_cons_of_mem _ hq)).2⟩) p ms]
  ·exact Jg h1 h2 p ms
  ·by_cases hk:q.1=k
   ·rw[hk,aP];exact h2 kS
   ·rw[aM _ _ hk];exact (h q (List.mem_cons_of_mem _ hq)).1 kS
theorem aCh {D:fA τ}(hD:D.Ok){o:Oper}{val:Operand→TV τ}{h:Nat→bD τ}{n:Nat}(wq:h n=.bX){mu:Bool}{res:jG τ}
  (he:evT D h n mu o.op val=some res) (jM:res.ob=none∨res.ob=some true) (js:j5 h res.U res.F=true):lZ D.E D.C true o val h res.r res.U res.F:=by
 intro H g a w hW hv hH RM next Q hn
 obtain⟨k,hk⟩:=RM
 obtain⟨v,w',g',h1,h2,h3⟩:=sy hD hW.base (H:=H) (h:=h) (hk k (Nat.le_refl _)) (val:=val) (ρ:=a.eval) hv he jM hH (fun hn=>by rw[hH _ hn,wq];rfl)
 refine dy h1 (hn v g' w' h2 (h3.xa hW.aX fun p ms=>W5 _ H (fun q hq=>?_) p ms) fun _=>h3.le.α)
 obtain⟨p',hp',rfl⟩:=List.mem_map.1 hq
 have:=List.all_eq_true.1 js p' hp'
 simp only[Bool.and_eq_true]at this
 refine⟨fun ms=>?_,UZ this.2.1⟩
 rw[hH _ (Yn.1 this.1)]
 exact UZ this.2.2 ms
theorem lZ.step {E:Env}{C:eY τ}{fl:Bool}{o:Oper}{st:mE τ}{r:TV τ}{U:List (Nat×bD τ)}{F:List Nat}(hI:Inv st.t){G:Option (Nat×Bool)}(hG:OH st.t G)(Hm:(eC o.op).all (fun x=>PM st.t G (st.val x))=true)
  (h:lZ E C fl o (fun x=>(st.val x).strip) (dA st.h) r U F):QZ E C o st r U F:=by
 intro s' g a w hr hv hH next Q hn
 exact h (bU s'.h) g a w hr.rel (fun x hx=>g8 hI hG (List.all_eq_true.1 Hm x hx) (PN hr (hv x (km _ x hx)))) hH ⟨s'.h.length,fun m hm=>AT _ _ hm⟩ next Q fun v g' w' h1 h2 _=>hn v g' w' h1 h2
def Xk (t:List (TV τ))(G:Option (Nat×Bool))(c:Operand)(w:Bool)(x:TV τ):Bool :=
 PM t G x || (match x,c with | .yK d w' _ _,.tmp dc=>geq (d,w') (dc,w) | _,_=>false)
def aCQ (off:List (Nat×Bool))(g:Nat×Bool):Bool:=off.any (geq g)
def uq (off:List (Nat×Bool))(c:Operand)(w:Bool):Bool:=match c with | .tmp dc=>aCQ off (dc,w) | _=>false
def aA7 (st:mE τ)(G:Option (Nat×Bool))(c a b:Operand):Option (TV τ) :=
 bif PM st.t G (st.val c) then
  match (st.val c).strip with
  |.bool q =>
   bif uq st.off c true then (bif Xk st.t G c false (st.val b) then some (st.val b).strip else none)
   else bif uq st.off c false then (bif Xk st.t G c true (st.val a) then some (st.val a).strip else none)
   else match (st.val a).strip,(st.val b).strip with
   |.bool x,.bool y=>bif Xk st.t G c true (st.val a)&&Xk st.t G c false (st.val b) then some (.bool (bif q then x else y)) else none
   |_,_=>none
  |_=>none
 else none
def aDt (st:mE τ):Prop:=∀ g∈st.off,Ao st.t g=some false
theorem bn {off:List (Nat×Bool)}{c:Operand}{w:Bool}(h:uq off c w=true):∃ dc,c=.tmp dc∧(dc,w)∈off:=by
 unfold uq at h
 split at h
 ·rename_i dc
  unfold aCQ at h
  rw[List.any_eq_true]at h
  obtain⟨g,h1,h2⟩:=h
  have:=N2 h2
  subst this
  exact⟨dc,rfl,h1⟩
 ·cases h
theorem v8 {st:mE τ}(hI:Inv st.t){G:Option (Nat×Bool)}(hG:OH st.t G){dc:Nat}{q:Bool}(Hm:PM st.t G (sG st.t dc)=true)(hq:(sG st.t dc).strip=.bool q)(w:Bool):Ao st.t (dc,w)=some (gB w q):=by
 unfold Ao
 generalize hx:sG st.t dc=y at Hm hq
 cases y with
 |yK d w' b z =>
  simp only[TV.strip]at hq
  subst hq
  have hb:=hI dc d w' b _ hx
  unfold PM at Hm
  cases G with
  |none=>cases Hm
  |some g0 =>
   have:b=true:=LX hI 8 g0 (d,w') b Hm hG hb
   subst this
   simp[hx]
 |bool c=>simp only[TV.strip]at hq;cases hq;simp[hx]
 |_=>simp[TV.strip]at hq
theorem CF {C:eY τ}{g:Gh}{st:mE τ}(hI:Inv st.t){G:Option (Nat×Bool)}(hG:OH st.t G){c x:Operand}{w:Bool}(h:Xk st.t G c w (st.val x)=true)
  (hc:∀ dc,c=.tmp dc→Ao st.t (dc,w)=some true) {v:Value} (hv:aF g (Dh C (st.val x)) v):aF g ((st.val x).strip.den C) v:=by
 unfold Xk at h
 rw[Bool.or_eq_true]at h
 rcases h with h|h
 ·exact g8 hI hG h hv
 ·split at h
  ·rename_i d w' b z dc hx
   have:=N2 h
   cases this
   rw[hx]at hv ⊢
   have hk:∃ k,sG st.t k=.yK d w b z:=by
    cases x with
    |tmp k=>exact⟨k,hx⟩
    |const c =>
     simp only[mE.val]at hx
     unfold sk at hx
     split at hx<;>cases hx
    |func f=>cases hx
    |global n=>cases hx
   obtain⟨k,hk⟩:=hk
   have hb:=hI k d w b z hk
   rw[hc d rfl]at hb
   cases hb
   simp only[Dh]at hv
   cases hv with
   |yK h1 _=>exact h1 rfl
  ·cases h
theorem da {D:fA τ}{o:Oper}{c a b:Operand}(ho:o.op=.pick c a b){st:mE τ}(hI:Inv st.t)(hO:aDt st){G:Option (Nat×Bool)}(hG:OH st.t G){r:TV τ}(h:aA7 st G c a b=some r) :
  QZ D.E D.C o st r [] []:=by
 intro s' g act w hr hv hH next Q hn
 have mem:∀ x,x=c∨x=a∨x=b→x∈o.op.operands:=fun x hx=>by rw[ho];simpa[Op.operands] using hx
 have rc:=PN hr (hv c (mem c (.inl rfl)))
 have ra:=PN hr (hv a (mem a (.inr (.inl rfl))))
 have rb:=PN hr (hv b (mem b (.inr (.inr rfl))))
 unfold aA7 at h
 cases Hm:PM st.t G (st.val c) with
 |false=>rw[Hm]at h;cases h
 |true =>
  rw[Hm]at h
  simp only[cond_true]at h
  have rc':=g8 hI hG Hm rc
  split at h
  ·rename_i q hq
   rw[hq]at rc'
   simp only[TV.den]at rc'
   generalize hec:act.eval c=vc at rc'
   cases rc'
   have hgc:∀ dc w,c=.tmp dc→Ao st.t (dc,w)=some (gB w q):=fun dc w e=>by
    subst e
    exact v8 hI hG Hm hq w
   have fin:∀ v,v=(if q then act.eval a else act.eval b)→aF g (r.den D.C) v→owp D.E o act w next Q:=fun v e hvr=>by
    refine dy (E:=D.E) (w':=w) (v:=v) (.inl ?_) (hn v g w hvr (.refl hr.rel))
    rw[e]
    cases q<;>simp[execOp,ho,hec,asBool]
   cases h1:uq st.off c true with
   |true =>
    rw[h1]at h
    simp only[cond_true]at h
    obtain⟨dc,rfl,hm⟩:=bn h1
    have hqf:q=false:=by
     have e1:=hO _ hm
     rw[hgc dc true rfl]at e1
     simpa[gB] using e1
    subst hqf
    cases hp:Xk st.t G (.tmp dc) false (st.val b) with
    |false=>rw[hp]at h;cases h
    |true =>
     rw[hp]at h
     simp only[cond_true,Option.some.injEq]at h
     subst h
     exact fin (act.eval b) (by simp) (CF hI hG hp (fun dc' e=>hgc dc' false e) rb)
   |false =>
    rw[h1]at h
    simp only[cond_false]at h
    cases h2:uq st.off c false with
    |true =>
     rw[h2]at h
     simp only[cond_true]at h
     obtain⟨dc,rfl,hm⟩:=bn h2
     have hqt:q=true:=by
      have e1:=hO _ hm
      rw[hgc dc false rfl]at e1
      simpa[gB] using e1
     subst hqt
     cases hp:Xk st.t G (.tmp dc) true (st.val a) with
     |false=>rw[hp]at h;cases h
     |true =>
      rw[hp]at h
      simp only[cond_true,Option.some.injEq]at h
      subst h
      exact fin (act.eval a) (by simp) (CF hI hG hp (fun dc' e=>hgc dc' true e) ra)
    |false =>
     rw[h2]at h
     simp only[cond_false]at h
     split at h
     ·rename_i x y hx hy
      cases hp:(Xk st.t G c true (st.val a)&&Xk st.t G c false (st.val b)) with
      |false=>rw[hp]at h;cases h
      |true =>
       rw[hp]at h
       simp only[cond_true,Option.some.injEq]at h
       subst h
       simp only[Bool.and_eq_true]at hp
       cases q with
       |true =>
        have:=CF hI hG hp.1 (fun dc' e=>hgc dc' true e) ra
        rw[hx]at this
        exact fin (act.eval a) (by simp) this
       |false =>
        have:=CF hI hG hp.2 (fun dc' e=>hgc dc' false e) rb
        rw[hy]at this
        exact fin (act.eval b) (by simp) this
     ·cases h
  ·cases h
end
end Go.Ev
