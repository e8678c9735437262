/-
The typed layer: states,guards,and one operation at a typed state.
-/
import Derived.Test.YtddpmkmgbdedlaaGreatqTvL
set_option linter.unusedVariables false
set_option linter.unusedSimpArgs false
namespace Go.Ev
open Go
section
variable {τ:Nat→Type}
structure TSt (τ:Nat→Type) where
 t:List (TV τ)
 h:List (TEnt τ)
 dt:List Nat
 dh:List Nat
 off:List (Nat×Bool)
def bT:List (TV τ)→Nat→TV τ
 | [],_=>.junk
 | x :: _,0=>x
 | _ :: r,k+1=>bT r k
def mR:List (TV τ)→Nat→TV τ→List (TV τ)
 | [],_,_=>[]
 | _ :: r,0,v=>v :: r
 | x :: r,k+1,v=>x :: mR r k v
def aM:List (TEnt τ)→Nat→TEnt τ
 | [],_=>.unborn
 | x :: _,0=>x
 | _ :: r,k+1=>aM r k
def eX:List (TEnt τ)→Nat→TEnt τ→List (TEnt τ)
 | [],0,e=>[e]
 | [],k+1,e=>.unborn :: eX [] k e
 | _ :: r,0,e=>e :: r
 | x :: r,k+1,e=>x :: eX r k e
def dP (h:List (TEnt τ)):List (Nat×TEnt τ)→List (TEnt τ)
 | []=>h
 | (k,e) :: r=>dP (eX h k e) r
def cO (C:Cod τ):TV τ→AV
 | .cnd _ _ b x=>.cnd b (x.den C)
 | x=>x.den C
def aV (C:Cod τ) (st:TSt τ):St:=⟨st.t.map (cO C),st.h.map (TEnt.den C)⟩
def bP (C:Cod τ) (U:List (Nat×TEnt τ)):List (Nat×Ent):=U.map fun p=>(p.1,p.2.den C)
theorem sU (C:Cod τ):∀ (t:List (TV τ)) (k:Nat),nth (t.map (cO C)) k=cO C (bT t k)
 | [],k=>by cases k<;>rfl
 | x :: r,0=>rfl
 | x :: r,k+1=>sU C r k
theorem gY (C:Cod τ):∀ (h:List (TEnt τ)) (k:Nat),aH (h.map (TEnt.den C)) k=(aM h k).den C
 | [],k=>by cases k<;>rfl
 | x :: r,0=>rfl
 | x :: r,k+1=>gY C r k
theorem aNF (C:Cod τ):∀ (t:List (TV τ)) (k:Nat) (v:TV τ),kH (t.map (cO C)) k (cO C v)=(mR t k v).map (cO C)
 | [],k,v=>rfl
 | x :: r,0,v=>rfl
 | x :: r,k+1,v=>by simp only [List.map_cons,kH,mR,aNF C r k v]
theorem aAo (C:Cod τ):∀ (h:List (TEnt τ)) (k:Nat) (e:TEnt τ),jL (h.map (TEnt.den C)) k (e.den C)=(eX h k e).map (TEnt.den C)
 | [],0,e=>rfl
 | [], k + 1, e => by
  have:=aAo C [] k e
  simp only [List.map_nil] at this
  simp only [List.map_nil,jL,eX,List.map_cons,this]; rfl
 | x :: r,0,e=>rfl
 | x :: r,k+1,e=>by simp only [List.map_cons,jL,eX,aAo C r k e]
theorem aC8 (C:Cod τ):∀ (U:List (Nat×TEnt τ)) (h:List (TEnt τ)),lI (h.map (TEnt.den C)) (bP C U)=(dP h U).map (TEnt.den C)
 | [],h=>rfl
 | (k, e) :: r, h => by
  have:=aC8 C r (eX h k e)
  simp only [bP,List.map_cons,lI,dP,aAo] at this ⊢
  exact this
theorem aC9:∀ (t:List (TV τ)) (k j:Nat) (v:TV τ),j≠k→bT (mR t k v) j=bT t j
 | [],k,j,v,h=>rfl
 | x :: r,0,0,v,h=>absurd rfl h
 | x :: r,0,j+1,v,h=>rfl
 | x :: r,k+1,0,v,h=>rfl
 | x :: r,k+1,j+1,v,h=>aC9 r k j v (fun e=>h (by rw [e]))
theorem aNG:∀ (t:List (TV τ)) (k:Nat) (v:TV τ),bT (mR t k v) k=v∨bT (mR t k v) k=.junk
 | [],k,v=>.inr rfl
 | x :: r,0,v=>.inl rfl
 | x :: r,k+1,v=>aNG r k v
theorem aNH:∀ (t:List (TV τ)) (k:Nat) (v:TV τ),(mR t k v).length=t.length
 | [],k,v=>rfl
 | x :: r,0,v=>rfl
 | x :: r,k+1,v=>by simp only [mR,List.length_cons,aNH r k v]
theorem mS:∀ (h:List (TEnt τ)) (k j:Nat) (e:TEnt τ),j≠k→aM (eX h k e) j=aM h j
 | [],0,0,e,hn=>absurd rfl hn
 | [],0,j+1,e,hn=>by cases j<;>rfl
 | [],k+1,0,e,hn=>rfl
 | [], k + 1, j + 1, e, hn => by
  have:=mS [] k j e (fun x=>hn (by rw [x]))
  simp only [eX,aM]
  rw [this]; cases j<;>rfl
 | x :: r,0,0,e,hn=>absurd rfl hn
 | x :: r,0,j+1,e,hn=>rfl
 | x :: r,k+1,0,e,hn=>rfl
 | x :: r,k+1,j+1,e,hn=>mS r k j e (fun x=>hn (by rw [x]))
theorem aJK:∀ (U:List (Nat×TEnt τ)) (h:List (TEnt τ)) (j:Nat),j ∉ U.map (·.1)→aM (dP h U) j=aM h j
 | [],h,j,hn=>rfl
 | (k, e) :: r, h, j, hn => by
  simp only [List.map_cons,List.mem_cons,not_or] at hn
  rw [dP,aJK r _ j hn.2,mS h k j e hn.1]
theorem lU:∀ (h:List (TEnt τ)) (k:Nat),h.length≤k→aM h k=.unborn
 | [],k,_=>by cases k<;>rfl
 | x :: r,0,hk=>by simp at hk
 | x :: r,k+1,hk=>lU r k (by simpa using hk)
def kQ (k:Nat):List Nat→Bool
 | []=>false
 | x :: r=>Nat.beq x k || kQ k r
theorem wJ {k:Nat}:∀ {l:List Nat},kQ k l=true↔k∈l
 | []=>by simp [kQ]
 | x :: r=>by simp only [kQ,Bool.or_eq_true,wJ (l:=r),List.mem_cons,Nat.beq_eq]; exact or_congr_left eq_comm
def cval:Value→TV τ
 | .int k n=>.int k n
 | .bool b=>.bool b
 | .string s=>.str s.data.toList
 | .pointer none=>.nil .ptr
 | .slice none 0 0=>.nil .slice
 | .nilFunc=>.nil .func
 | .nilIface=>.nil .iface
 | _=>.junk
def TSt.val (st:TSt τ):Operand→TV τ
 | .tmp k=>bT st.t k
 | .const v=>cval v
 | .func f=>.fn f []
 | .global _=>.junk
def TV.strip:TV τ→TV τ
 | .cnd _ _ _ x=>x
 | x=>x
def nc:TV τ→TV τ
 | .cnd _ _ _ _=>.junk
 | x=>x
theorem aNI {C:Cod τ} {g:Gh} {x:TV τ} {v:Value} (h:VRel g (x.den C) v):VRel g (cO C (nc x)) v:=by
 cases x<;>first | exact h | exact .junk v
theorem aWX {C:Cod τ} {g:Gh} {st:TSt τ} {x:Operand} {v:Value} (h:VRel g ((aV C st).val x) v):VRel g (cO C (st.val x)) v:=by
 cases x with
 | tmp k=>simp only [aV,St.val,sU] at h; exact h
 | const c =>
  simp only [St.val] at h
  cases h
  simp only [TSt.val]
  unfold cval
  split<;>first | exact .v _ | exact .junk _
 | func f=>exact h
 | global n=>exact .junk v
def gB (w b:Bool):Bool:=bif w then b else !b
theorem gB_eq (w b:Bool):gB w b=(b==w):=by cases w<;>cases b<;>rfl
def dZ (t:List (TV τ)) (g:Nat×Bool):Option Bool :=
 match bT t g.1 with
 | .bool c=>some (gB g.2 c)
 | .cnd _ _ b (.bool c)=>some (b&&gB g.2 c)
 | _=>none
def eY:Option Nat→Option Nat→Bool
 | some a,some b=>Nat.beq a b
 | _,_=>false
def nY (ops:Array Oper) (t:List (TV τ)) (o:Oper):Option (Option (Nat×Bool)) :=
 match o.guard with
 | none=>some none
 | some (j, w) =>
  match (ops[j]?).bind (·.dst) with
  | some d=>bif eY o.dst (some d) then none else (match dZ t (d,w) with | some _=>some (some (d,w)) | none=>none)
  | none=>none
theorem aWY {C:Cod τ} {x:TV τ} {w b:Bool} (h:(match x with | .bool c=>some (gB w c) | .cnd _ _ b (.bool c)=>some (b&&gB w c) | _=>none)=some b):rK (cO C x) w=some b:=by
 split at h
 ·cases h; simp [cO,TV.den,rK,gB_eq]
 ·cases h; simp [cO,TV.den,rK,gB_eq]
 ·cases h
theorem aNJ {C:Cod τ} {ops:Array Oper} {st:TSt τ} {o:Oper} (h:nY ops st.t o=some none):dS ops (aV C st) o=some none:=by
 unfold nY at h
 unfold dS
 split at h
 ·rename_i hg; rw [hg]
 ·split at h
  ·rename_i d _
   cases hb:eY o.dst (some d) with
   | true=>rw [hb] at h; cases h
   | false =>
    rw [hb] at h
    simp only [cond_false] at h
    split at h<;>cases h
  ·cases h
theorem aDa {C:Cod τ} {ops:Array Oper} {st:TSt τ} {o:Oper} {g:Nat×Bool} (h:nY ops st.t o=some (some g)):∃ b,dZ st.t g=some b∧dS ops (aV C st) o=some (some b)∧∀ k,o.dst=some k→g.1≠k:=by
 unfold nY at h
 unfold dS
 split at h
 ·cases h
 ·rename_i j w hg
  split at h
  ·rename_i d hd
   cases hbd:eY o.dst (some d) with
   | true=>rw [hbd] at h; cases h
   | false =>
    rw [hbd] at h
    simp only [cond_false] at h
    split at h
    ·rename_i b hb
     cases h
     refine ⟨b,hb,?_,fun k hk e=>?_⟩
     ·have:rK (cO C (bT st.t d)) w=some b:=aWY hb
      simp only [hg,hd,aV,sU,this,Option.map_some]
     ·have e':d=k:=e
      subst e'
      rw [hk] at hbd; simp [eY] at hbd
    ·cases h
  ·cases h
def Inv (t:List (TV τ)):Prop:=∀ k d w b x,bT t k=.cnd d w b x→dZ t (d,w)=some b
def geq (a b:Nat×Bool):Bool:=Nat.beq a.1 b.1&&(a.2==b.2)
theorem aDb {a b:Nat×Bool} (h:geq a b=true):a=b:=by
 simp only [geq,Bool.and_eq_true,beq_iff_eq] at h
 exact Prod.ext (Nat.eq_of_beq_eq_true h.1) h.2
def impT:Nat→List (TV τ)→Nat×Bool→Nat×Bool→Bool
 | 0,_,_,_=>false
 | n+1,t,g,k=>geq g k || (match bT t g.1 with | .cnd d w _ _=>impT n t (d,w) k | _=>false)
theorem aJL {t:List (TV τ)} (hI:Inv t):∀ (n:Nat) (g k:Nat×Bool) (b:Bool),impT n t g k=true→dZ t g=some true→dZ t k=some b→b=true
 | 0,g,k,b,h,_,_=>by cases h
 | n + 1, g, k, b, h, hg, hk => by
  simp only [impT,Bool.or_eq_true] at h
  rcases h with h | h
  ·have:=aDb h; subst this
   rw [hg] at hk; exact (Option.some.inj hk).symm
  ·split at h
   ·rename_i d w b' x hx
    refine aJL hI n (d,w) k b h ?_ hk
    have h1:=hI g.1 d w b' x hx
    unfold dZ at hg
    rw [hx] at hg
    split at hg
    ·rename_i he; cases he
    ·rename_i he
     cases he
     simp only [Option.some.injEq,Bool.and_eq_true] at hg
     rw [h1,hg.1]
    ·cases hg
   ·cases h
def iY (t:List (TV τ)) (G:Option (Nat×Bool)) (x:TV τ):Bool :=
 match x with
 | .cnd d w _ _=>(match G with | some g=>impT 8 t g (d,w) | none=>false)
 | _=>true
def nZ (t:List (TV τ)) (G:Option (Nat×Bool)):Prop:=match G with | none=>True | some g=>dZ t g=some true
theorem aJM {C:Cod τ} {g:Gh} {st:TSt τ} (hI:Inv st.t) {G:Option (Nat×Bool)} (hG:nZ st.t G) {x:Operand} (h:iY st.t G (st.val x)=true) {v:Value} (hv:VRel g (cO C (st.val x)) v):VRel g ((st.val x).strip.den C) v:=by
 generalize hx:st.val x=y at h hv
 cases y with
 | cnd d w b z =>
  have hk:∃ k,bT st.t k=.cnd d w b z:=by
   cases x with
   | tmp k=>exact ⟨k,hx⟩
   | const c =>
    simp only [TSt.val] at hx
    unfold cval at hx
    split at hx<;>cases hx
   | func f=>cases hx
   | global n=>cases hx
  obtain ⟨k,hk⟩:=hk
  have hb:=hI k d w b z hk
  unfold iY at h
  cases G with
  | none=>cases h
  | some g0 =>
   have:b=true:=aJL hI 8 g0 (d,w) b h hG hb
   subst this
   simp only [cO] at hv
   cases hv with
   | cnd h1 _=>exact h1 rfl
 | _=>exact hv
theorem aWZ {E:Env} {ops:Array Oper} {o:Oper} {s:St} {r:AV} {U:List (Nat×Ent)} {F:List Nat} (hg:dS ops s o=some none∨dS ops s o=some (some true))
  (hstep:∀ (s':St) g a w,StRel g s' a w→(∀ x∈o.op.operands,s'.val x=s.val x)→(∀ id∈F,aH s'.h id=aH s.h id)→∀ (next:Act→World→Prop) (Q:Exit→Act→World→Prop),
   (∀ v g' w',VRel g' r v→EvoP g (aH s'.h) w g' (app (aH s'.h) U) w'→next (a.put o.dst v) w')→owp E o a w next Q):sN E ops o s ⟨r,U,F⟩:=by
 intro s' g a w hr ht hH next Q hnx
 have hv:=aNg ht
 have hw:Region.wanted o (yielded ops a.tmps)=true:=by
  rcases hg with hg | hg
  ·exact aQu ((aAj ht).trans hg) _
  ·exact aBg hr ((aAj ht).trans hg)
 unfold qC
 rw [if_pos hw]
 refine hstep s' g a w hr hv hH next Q fun v g' w' h2 h3=>?_
 have h4:EvoP g (aH s'.h) w g' (aH (lI s'.h U)) w':=by rw [uC]; exact h3
 exact hnx g' _ w' (Act.put_defers _ _ _) (hr.put h4.le h4.rel o.dst h2) h4
theorem aW0 {E:Env} {ops:Array Oper} {o:Oper} {s:St} {r:AV} {F:List Nat} {b:Bool} (hg:dS ops s o=some (some b))
  (hstep:b=true→∀ (s':St) g a w,StRel g s' a w→(∀ x∈o.op.operands,s'.val x=s.val x)→(∀ id∈F,aH s'.h id=aH s.h id)→∀ (next:Act→World→Prop) (Q:Exit→Act→World→Prop),
   (∀ v g' w',VRel g' r v→EvoP g (aH s'.h) w g' (aH s'.h) w'→next (a.put o.dst v) w')→owp E o a w next Q):sN E ops o s ⟨.cnd b r,[],F⟩:=by
 intro s' g a w hr ht hH next Q hnx
 cases b with
 | false =>
  have hw:=aBg hr ((aAj ht).trans hg)
  unfold qC
  rw [if_neg (by rw [hw]; simp)]
  exact hnx g _ w (Act.put_defers _ _ _) (hr.put (h':=s'.h) g.up_refl hr.rel o.dst (.cnd (by simp) fun _=>rfl)) (.refl hr.rel)
 | true =>
  have hv:=aNg ht
  have hw:Region.wanted o (yielded ops a.tmps)=true:=aBg hr ((aAj ht).trans hg)
  unfold qC
  rw [if_pos hw]
  refine hstep rfl s' g a w hr hv hH next Q fun v g' w' h2 h3=>?_
  exact hnx g' _ w' (Act.put_defers _ _ _) (hr.put (h':=s'.h) h3.le h3.rel o.dst (.cnd (fun _=>h2) (by simp))) h3
theorem aNK {E:Env} {ops:Array Oper} {o:Oper} {s:St} (hg:dS ops s o=some (some false)):sN E ops o s ⟨.junk,[],[]⟩:=by
 intro s' g a w hr ht hH next Q hnx
 have hw:=aBg hr ((aAj ht).trans hg)
 unfold qC
 rw [if_neg (by rw [hw]; simp)]
 exact hnx g _ w (Act.put_defers _ _ _) (hr.put (h':=s'.h) g.up_refl hr.rel o.dst (.junk _)) (.refl hr.rel)
def wK (E:Env) (C:Cod τ) (o:Oper) (st:TSt τ) (r:TV τ) (U:List (Nat×TEnt τ)) (F:List Nat):Prop :=
 ∀ (s':St) g a w,StRel g s' a w→(∀ x∈o.op.operands,s'.val x=(aV C st).val x)→(∀ id∈F,aH s'.h id=(aM st.h id).den C)→∀ (next:Act→World→Prop) (Q:Exit→Act→World→Prop),
  (∀ v g' w',VRel g' (r.den C) v→EvoP g (aH s'.h) w g' (app (aH s'.h) (bP C U)) w'→next (a.put o.dst v) w')→owp E o a w next Q
theorem aW1 (op:Op):∀ x∈bB op,x∈op.operands:=by
 intro x hx
 cases op with
 | call c =>
  simp only [bB,List.mem_append] at hx
  simp only [Op.operands,Call.operands,Array.mem_append]
  rcases hx with hx | hx
  ·left
   cases hc:c.callee<;>simp_all
  ·right; simpa using hx
 | slice t x lo hi mx =>
  simp only [bB,List.mem_cons,List.mem_append] at hx
  simp only [Op.operands,Array.mem_append]
  rcases hx with rfl | (hx | hx) | hx
  ·left; left; left; simp
  ·left; left; right; simpa using hx
  ·left; right; simpa using hx
  ·right; simpa using hx
 | build t ps=>simpa [bB,Op.operands] using hx
 | buildSlice t n ps=>simpa [bB,Op.operands] using hx
 | makeFunc fn first captured=>simp only [bB] at hx; simp only [Op.operands,Array.mem_append]; right; simpa using hx
 | pick c a b=>simp only [bB] at hx; simp [Op.operands]; left; simpa using hx
 | _=>first | (simp [bB] at hx; done) | simpa [bB,Op.operands] using hx
theorem aDc {C:Cod τ} {g:Gh} {st:TSt τ} {s':St} {a:Act} {w:World} (hr:StRel g s' a w) {x:Operand} (hx:s'.val x=(aV C st).val x):VRel g (cO C (st.val x)) (a.eval x) :=
 aWX (hx▸hr.val x)
def CoreOk (E:Env) (C:Cod τ) (fl:Bool) (o:Oper) (val:Operand→TV τ) (h:Nat→TEnt τ) (r:TV τ) (U:List (Nat×TEnt τ)) (F:List Nat):Prop :=
 ∀ (H:Nat→Ent) (g:Gh) (a:Act) (w:World),WRelP g H w→(∀ x∈bB o.op,VRel g ((val x).den C) (a.eval x))→(∀ id∈F,H id=(h id).den C)→(∃ k,∀ m,k≤m→H m=.unborn) →
  ∀ (next:Act→World→Prop) (Q:Exit→Act→World→Prop),
  (∀ v g' w',VRel g' (r.den C) v→EvoP g H w g' (app H (bP C U)) w'→(fl=true→g'.α=g.α)→next (a.put o.dst v) w')→owp E o a w next Q
def TEnt.notPool:TEnt τ→Bool
 | .pool _ _=>false
 | _=>true
def aJN (h:Nat→TEnt τ) (U:List (Nat×TEnt τ)) (F:List Nat):Bool:=U.all fun p=>kQ p.1 F&&(p.2.notPool&&(h p.1).notPool)
theorem aNL {C:Cod τ} {e:TEnt τ} (h:e.notPool=true) (ms:List (Option (List AV))):e.den C≠.pool ms:=by
 cases e with
 | pool t ms=>simp [TEnt.notPool] at h
 | _=>simp [TEnt.den]
theorem aNM:∀ (U:List (Nat×Ent)) (H:Nat→Ent),(∀ q∈U,(∀ ms,H q.1≠.pool ms)∧∀ ms,q.2≠.pool ms)→∀ p ms,app H U p=.pool ms↔H p=.pool ms
 | [],H,h,p,ms=>Iff.rfl
 | (k, e) :: r, H, h, p, ms => by
  obtain ⟨h1,h2⟩:=h (k,e) List.mem_cons_self
  rw [app,aNM r (upd H k e) (fun q hq=>⟨fun ms'=>?_,(h q (List.mem_cons_of_mem _ hq)).2⟩) p ms]
  ·exact pG h1 h2 p ms
  ·by_cases hk:q.1=k
   ·rw [hk,aR]; exact h2 ms'
   ·rw [aJ _ _ hk]; exact (h q (List.mem_cons_of_mem _ hq)).1 ms'
theorem aW2 {D:TEnv τ} (hD:D.Ok) {o:Oper} {val:Operand→TV τ} {h:Nat→TEnt τ} {n:Nat} (hun:h n=.unborn) {mu:Bool} {res:bG τ}
  (he:evT D h n mu o.op val=some res) (hob:res.ob=none∨res.ob=some true) (hpf:aJN h res.U res.F=true):CoreOk D.E D.C true o val h res.r res.U res.F:=by
 intro H g a w hW hv hH hfin next Q hn
 obtain ⟨k,hk⟩:=hfin
 obtain ⟨v,w',g',h1,h2,h3⟩:=aWs hD hW.base (H:=H) (h:=h) (hk k (Nat.le_refl _)) (val:=val) (ρ:=a.eval) hv he hob hH (fun hn=>by rw [hH _ hn,hun]; rfl)
 refine aNh h1 (hn v g' w' h2 (h3.toP hW.pool fun p ms=>aNM _ H (fun q hq=>?_) p ms) fun _=>h3.le.α)
 obtain ⟨p',hp',rfl⟩:=List.mem_map.1 hq
 have:=List.all_eq_true.1 hpf p' hp'
 simp only [Bool.and_eq_true] at this
 refine ⟨fun ms=>?_,aNL this.2.1⟩
 rw [hH _ (wJ.1 this.1)]
 exact aNL this.2.2 ms
theorem CoreOk.step {E:Env} {C:Cod τ} {fl:Bool} {o:Oper} {st:TSt τ} {r:TV τ} {U:List (Nat×TEnt τ)} {F:List Nat} (hI:Inv st.t) {G:Option (Nat×Bool)} (hG:nZ st.t G) (hok:(bB o.op).all (fun x=>iY st.t G (st.val x))=true)
  (h:CoreOk E C fl o (fun x=>(st.val x).strip) (aM st.h) r U F):wK E C o st r U F:=by
 intro s' g a w hr hv hH next Q hn
 exact h (aH s'.h) g a w hr.rel (fun x hx=>aJM hI hG (List.all_eq_true.1 hok x hx) (aDc hr (hv x (aW1 _ x hx)))) hH ⟨s'.h.length,fun m hm=>uB _ _ hm⟩ next Q fun v g' w' h1 h2 _=>hn v g' w' h1 h2
def mT (t:List (TV τ)) (G:Option (Nat×Bool)) (c:Operand) (w:Bool) (x:TV τ):Bool :=
 iY t G x || (match x,c with | .cnd d w' _ _,.tmp dc=>geq (d,w') (dc,w) | _,_=>false)
def offB (off:List (Nat×Bool)) (g:Nat×Bool):Bool:=off.any (geq g)
def offC (off:List (Nat×Bool)) (c:Operand) (w:Bool):Bool:=match c with | .tmp dc=>offB off (dc,w) | _=>false
def aJO (st:TSt τ) (G:Option (Nat×Bool)) (c a b:Operand):Option (TV τ) :=
 bif iY st.t G (st.val c) then
  match (st.val c).strip with
  | .bool q =>
   bif offC st.off c true then (bif mT st.t G c false (st.val b) then some (st.val b).strip else none)
   else bif offC st.off c false then (bif mT st.t G c true (st.val a) then some (st.val a).strip else none)
   else match (st.val a).strip,(st.val b).strip with
   | .bool x,.bool y=>bif mT st.t G c true (st.val a)&&mT st.t G c false (st.val b) then some (.bool (bif q then x else y)) else none
   | _,_=>none
  | _=>none
 else none
def OffOk (st:TSt τ):Prop:=∀ g∈st.off,dZ st.t g=some false
theorem aNN {off:List (Nat×Bool)} {c:Operand} {w:Bool} (h:offC off c w=true):∃ dc,c=.tmp dc∧(dc,w)∈off:=by
 unfold offC at h
 split at h
 ·rename_i dc
  unfold offB at h
  rw [List.any_eq_true] at h
  obtain ⟨g,h1,h2⟩:=h
  have:=aDb h2
  subst this
  exact ⟨dc,rfl,h1⟩
 ·cases h
theorem aW3 {st:TSt τ} (hI:Inv st.t) {G:Option (Nat×Bool)} (hG:nZ st.t G) {dc:Nat} {q:Bool} (hok:iY st.t G (bT st.t dc)=true) (hq:(bT st.t dc).strip=.bool q) (w:Bool):dZ st.t (dc,w)=some (gB w q):=by
 unfold dZ
 generalize hx:bT st.t dc=y at hok hq
 cases y with
 | cnd d w' b z =>
  simp only [TV.strip] at hq
  subst hq
  have hb:=hI dc d w' b _ hx
  unfold iY at hok
  cases G with
  | none=>cases hok
  | some g0 =>
   have:b=true:=aJL hI 8 g0 (d,w') b hok hG hb
   subst this
   simp [hx]
 | bool c=>simp only [TV.strip] at hq; cases hq; simp [hx]
 | _=>simp [TV.strip] at hq
theorem aDd {C:Cod τ} {g:Gh} {st:TSt τ} (hI:Inv st.t) {G:Option (Nat×Bool)} (hG:nZ st.t G) {c x:Operand} {w:Bool} (h:mT st.t G c w (st.val x)=true)
  (hc:∀ dc,c=.tmp dc→dZ st.t (dc,w)=some true) {v:Value} (hv:VRel g (cO C (st.val x)) v):VRel g ((st.val x).strip.den C) v:=by
 unfold mT at h
 rw [Bool.or_eq_true] at h
 rcases h with h | h
 ·exact aJM hI hG h hv
 ·split at h
  ·rename_i d w' b z dc hx
   have:=aDb h
   cases this
   rw [hx] at hv ⊢
   have hk:∃ k,bT st.t k=.cnd d w b z:=by
    cases x with
    | tmp k=>exact ⟨k,hx⟩
    | const c =>
     simp only [TSt.val] at hx
     unfold cval at hx
     split at hx<;>cases hx
    | func f=>cases hx
    | global n=>cases hx
   obtain ⟨k,hk⟩:=hk
   have hb:=hI k d w b z hk
   rw [hc d rfl] at hb
   cases hb
   simp only [cO] at hv
   cases hv with
   | cnd h1 _=>exact h1 rfl
  ·cases h
theorem aW4 {D:TEnv τ} {o:Oper} {c a b:Operand} (ho:o.op=.pick c a b) {st:TSt τ} (hI:Inv st.t) (hO:OffOk st) {G:Option (Nat×Bool)} (hG:nZ st.t G) {r:TV τ} (h:aJO st G c a b=some r) :
  wK D.E D.C o st r [] []:=by
 intro s' g act w hr hv hH next Q hn
 have mem:∀ x,x=c∨x=a∨x=b→x∈o.op.operands:=fun x hx=>by rw [ho]; simpa [Op.operands] using hx
 have rc:=aDc hr (hv c (mem c (.inl rfl)))
 have ra:=aDc hr (hv a (mem a (.inr (.inl rfl))))
 have rb:=aDc hr (hv b (mem b (.inr (.inr rfl))))
 unfold aJO at h
 cases hok:iY st.t G (st.val c) with
 | false=>rw [hok] at h; cases h
 | true =>
  rw [hok] at h
  simp only [cond_true] at h
  have rc':=aJM hI hG hok rc
  split at h
  ·rename_i q hq
   rw [hq] at rc'
   simp only [TV.den] at rc'
   generalize hec:act.eval c=vc at rc'
   cases rc'
   have hgc:∀ dc w,c=.tmp dc→dZ st.t (dc,w)=some (gB w q):=fun dc w e=>by
    subst e
    exact aW3 hI hG hok hq w
   have fin:∀ v,v=(if q then act.eval a else act.eval b)→VRel g (r.den D.C) v→owp D.E o act w next Q:=fun v e hvr=>by
    refine aNh (E:=D.E) (w':=w) (v:=v) (.inl ?_) (hn v g w hvr (.refl hr.rel))
    rw [e]
    cases q<;>simp [execOp,ho,hec,asBool]
   cases h1:offC st.off c true with
   | true =>
    rw [h1] at h
    simp only [cond_true] at h
    obtain ⟨dc,rfl,hm⟩:=aNN h1
    have hqf:q=false:=by
     have e1:=hO _ hm
     rw [hgc dc true rfl] at e1
     simpa [gB] using e1
    subst hqf
    cases hp:mT st.t G (.tmp dc) false (st.val b) with
    | false=>rw [hp] at h; cases h
    | true =>
     rw [hp] at h
     simp only [cond_true,Option.some.injEq] at h
     subst h
     exact fin (act.eval b) (by simp) (aDd hI hG hp (fun dc' e=>hgc dc' false e) rb)
   | false =>
    rw [h1] at h
    simp only [cond_false] at h
    cases h2:offC st.off c false with
    | true =>
     rw [h2] at h
     simp only [cond_true] at h
     obtain ⟨dc,rfl,hm⟩:=aNN h2
     have hqt:q=true:=by
      have e1:=hO _ hm
      rw [hgc dc false rfl] at e1
      simpa [gB] using e1
     subst hqt
     cases hp:mT st.t G (.tmp dc) true (st.val a) with
     | false=>rw [hp] at h; cases h
     | true =>
      rw [hp] at h
      simp only [cond_true,Option.some.injEq] at h
      subst h
      exact fin (act.eval a) (by simp) (aDd hI hG hp (fun dc' e=>hgc dc' true e) ra)
    | false =>
     rw [h2] at h
     simp only [cond_false] at h
     split at h
     ·rename_i x y hx hy
      cases hp:(mT st.t G c true (st.val a)&&mT st.t G c false (st.val b)) with
      | false=>rw [hp] at h; cases h
      | true =>
       rw [hp] at h
       simp only [cond_true,Option.some.injEq] at h
       subst h
       simp only [Bool.and_eq_true] at hp
       cases q with
       | true =>
        have:=aDd hI hG hp.1 (fun dc' e=>hgc dc' true e) ra
        rw [hx] at this
        exact fin (act.eval a) (by simp) this
       | false =>
        have:=aDd hI hG hp.2 (fun dc' e=>hgc dc' false e) rb
        rw [hy] at this
        exact fin (act.eval b) (by simp) this
     ·cases h
  ·cases h
end
end Go.Ev
