/-
The typed layer: conversions,cuts,the small builtins,and all operations together.
-/
import Derived.Test.YtddpmkmgbdedlaaGreatqTvD
set_option linter.unusedVariables false
set_option linter.unusedSimpArgs false
namespace Go.Ev
open Go
section
variable {τ:Nat→Type}
def Bh {t:Nat}(e:Nat)(l:List (τ t)):Option (List (τ e)):=if h:t=e then some (h▸l) else none
theorem iT {t e:Nat}{l:List (τ t)}{r:List (τ e)}(h:Bh e l=some r):∃ h:t=e,r=h▸l:=by
 unfold Bh at h
 split at h
 ·rename_i ht;exact⟨ht,(Option.some.inj h).symm⟩
 ·cases h
def aBC (D:fA τ)(n:Nat)(src dst:TypeId)(x:TV τ):Option (jG τ) :=
 match D.E.ty src,D.E.ty dst,x with
 |some _,some ⟨.int k,_,_,_⟩,.int _ m=>some { r:=.int k (k.wrap m) }
 |some _,some ⟨.string,_,_,_⟩,.str s=>some { r:=.str s }
 |some _,some ⟨.slice e,_,_,_⟩,.str s =>
  match D.E.ty e,D.C.VL e s with
  |some ⟨.int .u8,_,_,_⟩,some l=>some { r:=.sl e l (.own n),U:=[(n,.tail)],F:=[n] }
  |_,_=>none
 |some ⟨.slice e,_,_,_⟩,some ⟨.string,_,_,_⟩,.sl t l _ =>
  match D.E.ty e,D.C.TS t l with
  |some ⟨.int .u8,_,_,_⟩,some s=>some { r:=.str s }
  |_,_=>none
 |_,_,_=>none
theorem de {D:fA τ}(hD:D.Ok){g:Gh}{H:Nat→dD}{w:World}(hW:eR g H w){n m:Nat}(hm:H m=.bX){src dst:TypeId}{x:TV τ}{vx:Value}(hx:aF g (x.den D.C) vx){res:jG τ}
  (h:aBC D n src dst x=some res) (hn:n∈res.F→H n=.bX) :
  ∃ v w' g',(convert src dst vx).run D.E.P w=.ok v w'∧aF g' (res.r.den D.C) v∧fC g H w g' (app H (res.U.map fun p=>(p.1,p.2.den D.C))) w':=by
 unfold aBC at h
 split at h
 ·rename_i i0 k s b z k0 m0 hs hd
  cases h
  obtain⟨v,w',g',h1,h2,h3⟩:=Fb hD.E hW hm hx (src:=src) (dst:=dst) (res:={ r:=.v (.int k (k.wrap m0)) }) (by unfold Qk;simp only[hs,hd,TV.den])
  exact⟨v,w',g',h1,h2,h3⟩
 ·rename_i i0 s b z s0 hs hd
  cases h
  obtain⟨v,w',g',h1,h2,h3⟩:=Fb hD.E hW hm hx (src:=src) (dst:=dst) (res:={ r:=.v (.string ⟨⟨s0⟩⟩) }) (by unfold Qk;simp only[hs,hd,TV.den])
  exact⟨v,w',g',h1,h2,h3⟩
 ·rename_i i0 e s b z s0 hs hd
  split at h
  ·rename_i s1 b1 z1 l he hl
   cases h
   obtain⟨hz,oI⟩:=hD.C.VL e s0 l hl
   obtain⟨v,w',g',h1,h2,h3⟩:=Fb hD.E hW (hn (by simp)) hx (src:=src) (dst:=dst) (res:={ r:=.sl 1 (bytesOf ⟨⟨s0⟩⟩) (.tail n),U:=[(n,.tail)] }) (by unfold Qk;simp only[hs,hd,he,TV.den])
   refine⟨v,w',g',h1,?_,h3⟩
   simp only[TV.den,Gf,hz,oI]
   exact .Tw h2
  ·cases h
 ·rename_i e s b z s2 b2 z2 t l kk hs hd
  split at h
  ·rename_i s1 b1 z1 s0 he hl
   cases h
   obtain⟨hz,oI⟩:=hD.C.TS t l s0 hl
   have Lm:=TC D.C t l kk g vx hx
   rw[hz]at Lm
   obtain⟨v,w',g',h1,h2,h3⟩:=Fb hD.E hW hm Lm (src:=src) (dst:=dst) (res:={ r:=.v (.string ⟨s0.toArray⟩) }) (by unfold Qk;simp only[hs,hd,he,oI])
   exact⟨v,w',g',h1,h2,h3⟩
  ·cases h
 ·cases h
def n9 (x:Option (TV τ))(d:Int):Option Int :=
 match x with
 |none=>some d
 |some (.int _ i)=>some i
 |_=>none
def DP (l h n:Int):Bool:=decide (0≤l)&&(decide (l≤h)&&decide (h≤n))
theorem YO {l h n:Int}(hb:DP l h n=true):0≤l∧l≤h∧h≤n:=by simpa[DP] using hb
def mf (D:fA τ)(t:TypeId)(x:TV τ)(lo hi mx:Option (TV τ)):Option (jG τ) :=
 match D.E.ty t,x with
 |some ⟨.string,_,_,_⟩,.str s =>
  match n9 lo 0,n9 hi s.length,mx with
  |some l,some h,none=>some { r:=.str (cut s l h),ob:=some (DP l h s.length) }
  |_,_,_=>none
 |some ⟨.slice e,_,_,_⟩,.sl t' s k =>
  match D.E.ty e,n9 lo 0,n9 hi s.length,mx with
  |some ei,some l,some h,none=>bif D.C.sz t'==ei.size then some { r:=.sl t' (cut s l h) .any,ob:=some (DP l h s.length) } else none
  |_,_,_,_=>none
 |some ⟨.slice e,_,_,_⟩,.nil .slice =>
  match D.E.ty e,n9 lo 0,n9 hi 0,mx with
  |some _,some l,some h,none=>some { r:=.nil .slice,ob:=some (l==0&&h==0) }
  |_,_,_,_=>none
 |some ⟨.slice e,_,_,_⟩,.mS t' id n =>
  match D.E.ty e,lo,hi,mx with
  |some ei,none,some (.int _ h),none=>bif D.C.sz t'==ei.size then some { r:=.mS t' id h.toNat,ob:=some (DP 0 h n) } else none
  |_,_,_,_=>none
 |_,_=>none
theorem aCi {α β:Type}(f:α→β)(l:List α)(i j:Int):(cut l i j).map f=cut (l.map f) i j:=by simp[cut,List.map_drop,List.map_take]
theorem Jj {C:eY τ}{x:Option (TV τ)}{d i:Int}(h:n9 x d=some i):NP (x.map (TV.den C)) d=some i:=by
 unfold n9 at h
 split at h
 ·simpa[NP] using h
 ·simpa[NP,TV.den] using h
 ·cases h
theorem T8 {D:fA τ}(hD:D.Ok){g:Gh}{H:Nat→dD}{w:World}(hW:eR g H w){t:TypeId}{x:TV τ}{lo hi mx:Option (TV τ)}{vx:Value}{vlo vhi vmx:Option Value}(hx:aF g (x.den D.C) vx)
  (IV:∀ a,lo=some a→∃ v,vlo=some v∧aF g (a.den D.C) v) (Mr:lo=none→vlo=none) (XH:∀ a,hi=some a→∃ v,vhi=some v∧aF g (a.den D.C) v) (Oy:hi=none→vhi=none)
  (Tx:mx=none→vmx=none) {res:jG τ} (h:mf D t x lo hi mx=some res) (jM:res.ob=none∨res.ob=some true) :
  ∃ v,(Instr.sliceAt t vx vlo vhi vmx).run D.E.P w=.ok v w∧(∃ g',aF g' (res.r.den D.C) v∧fC g H w g' H w)∧res.U=[]:=by
 have main:∀ {x':AV} {r:AV} {ob:Prop},aF g x' vx→mx=none→Le D.E H t x' (lo.map (TV.den D.C)) (hi.map (TV.den D.C)) none=some { r:=r,ob:=ob }→ob→W r (res.r.den D.C)→res.U=[] →
   ∃ v,(Instr.sliceAt t vx vlo vhi vmx).run D.E.P w=.ok v w∧(∃ g',aF g' (res.r.den D.C) v∧fC g H w g' H w)∧res.U=[]:=fun {x' r ob} Lm hmn he jM hw hU=>by
  have tc:∀ {z:Option (TV τ)} {vz:Option Value},(∀ a,z=some a→∃ v,vz=some v∧aF g (a.den D.C) v)→∀ a,z.map (TV.den D.C)=some a→∃ v,vz=some v∧aF g a v:=fun {z vz} hz a ha=>by
   cases z with
   |none=>simp at ha
   |some y=>simp at ha;subst ha;exact hz y rfl
  obtain⟨v,g',h1,h2,h3⟩:=KM hD.E hW Lm (tc IV) (fun e=>Mr (by simpa using e)) (tc XH) (fun e=>Oy (by simpa using e)) (mx:=none) (vmx:=vmx) (by simp) (fun _=>Tx hmn) he jM
  exact⟨v,h1,⟨g',hw g' v h2,h3⟩,hU⟩
 unfold mf at h
 split at h
 ·rename_i sz b z s ht
  split at h
  ·rename_i l hh hl1 V0
   cases h
   have hb:=YO (show DP l hh s.length=true by simpa using jM)
   refine main hx rfl (r:=.v (.string ⟨(cut s l hh).toArray⟩)) (ob:=0≤l∧l≤hh∧hh≤s.length) ?_ hb (.refl _) rfl
   unfold Le
   simp only[ht,TV.den,Jj hl1]
   have:=Jj (C:=D.C) V0
   simp only[this]
  ·cases h
 ·rename_i e sz b z t' s k ht
  split at h
  ·rename_i ei l hh he hl1 V0
   cases hc:D.C.sz t'==ei.size with
   |false=>rw[hc]at h;cases h
   |true =>
    rw[hc]at h
    simp only[cond_true,Option.some.injEq]at h
    subst h
    have ew:D.C.sz t'=ei.size:=by simpa using hc
    have hb:=YO (show DP l hh s.length=true by simpa using jM)
    refine main (TC D.C t' s k g vx hx) rfl (r:=.xA (D.C.sz t') (cut (s.map (D.C.cel t')) l hh)) (ob:=0≤l∧l≤hh∧hh≤(s.map (D.C.cel t')).length) ?_ (by simpa using hb) ?_ rfl
    ·unfold Le
     have h2:=Jj (C:=D.C) V0
     simp only[ht,Jj hl1,List.length_map,h2,he,Option.map_some,ew,if_true]
    ·simp only[TV.den,Gf,aCi];exact .refl _
  ·cases h
 ·rename_i e sz b z ht
  split at h
  ·rename_i i0 l hh he hl1 V0
   cases h
   have hb:l=0∧hh=0:=by simpa using jM
   refine main hx rfl (r:=.v (.slice none 0 0)) (ob:=l=0∧hh=0) ?_ hb (.refl _) rfl
   unfold Le
   simp only[ht,TV.den,On.val,he,Jj hl1,Jj V0]
  ·cases h
 ·rename_i e sz b z t' id n ht
  split at h
  ·rename_i ei k hh he
   cases hc:D.C.sz t'==ei.size with
   |false=>rw[hc]at h;cases h
   |true =>
    rw[hc]at h
    simp only[cond_true,Option.some.injEq]at h
    subst h
    have ew:D.C.sz t'=ei.size:=by simpa using hc
    have hb:=YO (show DP 0 hh n=true by simpa using jM)
    obtain⟨vh,rfl,hvh⟩:=XH _ rfl
    have e1:=Mr rfl
    have e3:=Tx rfl
    subst e1;subst e3
    obtain⟨v,h1,h2⟩:=ZB hD.E ht he (show aF g (.Fk id 0 n ei.size) vx by rw[← ew];exact hx) (show aF g (.v (.int k hh)) vh from hvh) hb.2.1 hb.2.2 w
    exact⟨v,h1,⟨g,by rw[← ew]at h2;exact h2,.refl hW⟩,rfl⟩
  ·cases h
 ·cases h
def T5 (D:fA τ)(h:Nat→bD τ)(t:TypeId)(x:TV τ)(lo hi mx:Option (TV τ)):Option (jG τ) :=
 match D.E.ty t,lo,hi,mx with
 |some ⟨.array n e,_,_,_⟩,none,none,none =>
  match D.E.ty e,x with
  |some ei,.ptr id p =>
   match h id with
   |.box X=>(match X.sub D.C p with|some (.arr t' n' v)=>(bif n==n'&&D.C.sz t'==ei.size then some { r:=.sl t' v.toList .full,U:=[(id,.Aa X)],F:=[id] } else none) | _=>none)
   |.Aa X=>(match X.sub D.C p with|some (.arr t' n' v)=>(bif n==n'&&D.C.sz t'==ei.size then some { r:=.sl t' v.toList .full,F:=[id] } else none) | _=>none)
   |_=>none
  |some ei,.LY (.arr t' n' v)=>bif n==n'&&D.C.sz t'==ei.size then some { r:=.sl t' v.toList .full } else none
  |_,_=>none
 |_,_,_,_=>none
theorem LG {C:eY τ}(hC:C.Ok){t n:Nat}(v:Vector (τ t) n){cells:List AV}{off:Nat}(h:rd cells off (n * C.sz t)=v.toList.flatMap (C.cel t)):chunks cells off n (C.sz t)=v.toList.map (C.cel t):=by
 apply List.ext_getElem?
 intro i
 rcases Nat.lt_or_ge i n with hi|hi
 ·rw[List.getElem?_map]
  simp only[chunks,List.getElem?_map,List.getElem?_range hi,Option.map_some]
  have hv:v.toList[i]?=some v[i]:=by simp[hi]
  rw[hv]
  simp only[Option.map_some,Option.some.injEq]
  have hm:i * C.sz t+C.sz t≤n * C.sz t:=by rw[← Nat.succ_mul];exact Nat.mul_le_mul_right _ hi
  rw[← qn _ _ _ _ _ hm,h,IF hC v.toList i (by simpa using hi) v[i]]
  simp[List.getD,hv]
 ·rw[List.getElem?_eq_none (by simp[chunks];exact hi),List.getElem?_eq_none (by simp;exact hi)]
theorem C3 {D:fA τ}(hD:D.Ok){g:Gh}{H:Nat→dD}{w:World}(hW:eR g H w){h:Nat→bD τ}{t:TypeId}{x:TV τ}{lo hi mx:Option (TV τ)}{vx:Value}{vlo vhi vmx:Option Value}(hx:aF g (x.den D.C) vx)
  (Mr:lo=none→vlo=none) (Oy:hi=none→vhi=none) (Tx:mx=none→vmx=none) {res:jG τ} (hr:T5 D h t x lo hi mx=some res) (hH:∀ id∈res.F,H id=(h id).den D.C) :
  ∃ v g',(Instr.sliceAt t vx vlo vhi vmx).run D.E.P w=.ok v w∧aF g' (res.r.den D.C) v∧fC g H w g' (app H (res.U.map fun p=>(p.1,p.2.den D.C))) w:=by
 unfold T5 at hr
 split at hr
 ·rename_i n e s b z ht
  have e1:=Mr rfl
  have e2:=Oy rfl
  have e3:=Tx rfl
  subst e1;subst e2;subst e3
  have fin:∀ {x':AV} {r:AV} {U:List (Nat×dD)},aF g x' vx→Le D.E H t x' none none none=some { r:=r,U:=U }→∃ v g',(Instr.sliceAt t vx none none none).run D.E.P w=.ok v w∧aF g' r v∧fC g H w g' (app H U) w:=fun {x' r U} Lm he=>by
   obtain⟨v,g',h1,h2,h3⟩:=KM hD.E hW Lm (lo:=none) (hi:=none) (mx:=none) (vlo:=none) (vhi:=none) (vmx:=none) (by simp) (fun _=>rfl) (by simp) (fun _=>rfl) (by simp) (fun _=>rfl) he trivial
   exact⟨v,g',h1,h2,h3⟩
  split at hr
  ·rename_i ei id p he
   obtain⟨hb,Lm⟩:=Fe hx
   split at hr
   ·rename_i X hX
    split at hr
    ·rename_i t' n' v hv
     cases hc:(n==n'&&D.C.sz t'==ei.size) with
     |false=>rw[hc]at hr;cases hr
     |true =>
      rw[hc]at hr
      simp only[cond_true,Option.some.injEq]at hr
      subst hr
      simp only[Bool.and_eq_true,beq_iff_eq]at hc
      obtain⟨c1,c2⟩:=hc
      subst c1
      obtain⟨h1,h2⟩:=Qu hD.C p X _ hv hb
      simp only[TV.size,TV.cells]at h1 h2
      have gY:=hH id (by simp)
      rw[hX]at gY
      simp only[bD.den]at gY
      obtain⟨v',g',k1,k2,k3⟩:=fin Lm (r:=.sl ei.size (chunks (X.cells D.C) (oF p) n ei.size) .full) (U:=[(id,.Aa (X.cells D.C))]) (by
       unfold Le
       simp only[ht,he,gY]
       rw[if_pos (by rw[cS hD.C,← c2];exact h2)])
      refine⟨v',g',k1,?_,k3⟩
      rw[← c2,LG hD.C v h1]at k2
      exact k2
    ·cases hr
   ·rename_i X hX
    split at hr
    ·rename_i t' n' v hv
     cases hc:(n==n'&&D.C.sz t'==ei.size) with
     |false=>rw[hc]at hr;cases hr
     |true =>
      rw[hc]at hr
      simp only[cond_true,Option.some.injEq]at hr
      subst hr
      simp only[Bool.and_eq_true,beq_iff_eq]at hc
      obtain⟨c1,c2⟩:=hc
      subst c1
      obtain⟨h1,h2⟩:=Qu hD.C p X _ hv hb
      simp only[TV.size,TV.cells]at h1 h2
      have gY:=hH id (by simp)
      rw[hX]at gY
      simp only[bD.den]at gY
      obtain⟨v',g',k1,k2,k3⟩:=fin Lm (r:=.sl ei.size (chunks (X.cells D.C) (oF p) n ei.size) .full) (U:=[]) (by
       unfold Le
       simp only[ht,he,gY]
       rw[if_pos (by rw[cS hD.C,← c2];exact h2)])
      refine⟨v',g',k1,?_,k3⟩
      rw[← c2,LG hD.C v h1]at k2
      exact k2
    ·cases hr
   ·cases hr
  ·rename_i ei t' n' v he
   cases hc:(n==n'&&D.C.sz t'==ei.size) with
   |false=>rw[hc]at hr;cases hr
   |true =>
    rw[hc]at hr
    simp only[cond_true,Option.some.injEq]at hr
    subst hr
    simp only[Bool.and_eq_true,beq_iff_eq]at hc
    obtain⟨c1,c2⟩:=hc
    subst c1
    obtain⟨v',g',k1,k2,k3⟩:=fin (x':=.rL (v.toList.flatMap (D.C.cel t')) 0) (by simpa[TV.den,TV.cells] using hx) (r:=.sl ei.size (chunks (v.toList.flatMap (D.C.cel t')) 0 n ei.size) .full) (U:=[]) (by
     unfold Le
     simp only[ht,he]
     rw[if_pos (by rw[Kr hD.C,← c2];omega)])
    refine⟨v',g',k1,?_,k3⟩
    have h1:rd (v.toList.flatMap (D.C.cel t')) 0 (n * D.C.sz t')=v.toList.flatMap (D.C.cel t'):=by
     rw[← Kr hD.C v];simp only[rd,List.drop_zero];exact List.take_length
    rw[← c2,LG hD.C v h1]at k2
    exact k2
  ·cases hr
 ·cases hr
def aGH (D:fA τ)(t:TypeId)(x:TV τ):Option Nat :=
 match D.E.ty t,x with
 |some ⟨.string,_,_,_⟩,.str s=>some s.length
 |some ⟨.slice _,_,_,_⟩,.sl _ l _=>some l.length
 |some ⟨.slice _,_,_,_⟩,.nil .slice=>some 0
 |some ⟨.slice _,_,_,_⟩,.ls _ l=>some l.length
 |some ⟨.slice _,_,_,_⟩,.mS _ _ n=>some n
 |some ⟨.slice _,_,_,_⟩,.nG _ _ _ n _ _=>some n
 |some ⟨.array n _,_,_,_⟩,_=>some n
 |_,_=>none
theorem mc {D:fA τ}(hD:D.Ok){g:Gh}{t:TypeId}{x:TV τ}{vx:Value}(hx:aF g (x.den D.C) vx){n:Nat}(h:aGH D t x=some n)(ty:TypeId)(w:World) :
  (Builtin.len_ #[t] ty #[vx]).run D.E.P w=.ok (.int .i64 n) w:=by
 unfold aGH at h
 split at h
 ·rename_i ht;cases h;exact Bt hD.E hx (by unfold OD;simp only[ht,TV.den]) ty w
 ·rename_i t' l k ht
  cases h
  exact Bt hD.E (TC D.C t' l k g vx hx) (by unfold OD;simp only[ht];simp) ty w
 ·rename_i ht;cases h;exact Bt hD.E hx (by unfold OD;simp only[ht,TV.den,On.val]) ty w
 ·rename_i ht;cases h;exact Bt hD.E hx (by unfold OD;simp only[ht,TV.den,Ya,List.length_map]) ty w
 ·rename_i ht;cases h;exact Bt hD.E hx (by unfold OD;simp only[ht,TV.den]) ty w
 ·rename_i ht;cases h;exact aFK hD.E ht hx ty w
 ·rename_i ht;cases h;exact Bt hD.E hx (by unfold OD;simp only[ht]) ty w
 ·cases h
def aBI (D:fA τ)(e:Nat)(xi:TI)(x:TV τ):Option (List (τ e)) :=
 match xi.d,x with
 |.slice _,.sl _ l _=>Bh e l
 |.slice _,.nil .slice=>some []
 |.string,.str s=>D.C.VL e s
 |_,_=>none
theorem o4 {D:fA τ}(hD:D.Ok){g:Gh}{e:Nat}{ei xi:TI}(ZK:D.C.sz e=ei.size){x:TV τ}{vx:Value}(hx:aF g (x.den D.C) vx){l:List (τ e)}(h:aBI D e xi x=some l) :
  ∃ x',aF g x' vx∧uW ei xi x'=some (l.map (D.C.cel e)):=by
 unfold aBI at h
 split at h
 ·rename_i t l0 k ht
  obtain⟨he,hl⟩:=iT h
  subst he;subst hl
  exact⟨_,TC D.C _ l k g vx hx,by unfold uW;simp only[ht,if_pos ZK]⟩
 ·rename_i t ht
  cases h
  exact⟨_,hx,by unfold uW;simp only[ht,TV.den,On.val];rfl⟩
 ·rename_i s ht
  obtain⟨hz,hl⟩:=hD.C.VL e s l h
  refine⟨_,hx,?_⟩
  unfold uW
  simp only[ht,TV.den]
  rw[if_pos (by rw[← ZK];exact hz),hl];rfl
 ·cases h
def dG (n k:Nat):Bool:=decide (n * k≤70368744177664)
def T0 (D:fA τ)(h:Nat→bD τ)(n:Nat)(ats:Array TypeId)(s x:TV τ):Option (jG τ) :=
 match ats[0]?,ats[1]? with
 |some sT,some xT =>
  match D.E.ty sT,D.E.ty xT with
  |some ⟨.slice e,_,_,_⟩,some xi =>
   match D.E.ty e with
   |some ei =>
    bif (ei.bytes==0) || Nat.blt 1048576 ei.bytes || !(D.C.sz e==ei.size) then none else
    match aBI D e xi x with
    |some xs =>
     match s with
     |.nil .slice=>some { r:=.sl e xs (.own n),U:=[(n,.tail)],F:=[n],ob:=some (dG xs.length ei.bytes) }
     |.sl _ l .full=>(match Bh e l with|some l=>some { r:=.sl e (l++xs) (.own n),U:=[(n,.tail)],F:=[n],ob:=some (dG (l.length+xs.length) ei.bytes) } | none=>none)
     |.sl _ l (.own id)=>(match Bh e l,h id with|some l,.tail=>some { r:=.sl e (l++xs) (.own n),U:=[(id,.dead),(n,.tail)],F:=[id,n],ob:=some (dG (l.length+xs.length) ei.bytes) } | _,_=>none)
     |_=>none
    |none=>none
   |none=>none
  |_,_=>none
 |_,_=>none
theorem iy {g:Gh}{sz n:Nat}{el xs:List (List AV)}{v:Value}(h:aF g (bif xs.isEmpty then .sl sz el .full else .sl sz (el++xs) (.tail n)) v):aF g (.q9 sz (el++xs) n) v:=by
 cases xs with
 |nil=>rw[List.append_nil];exact .FF h
 |cons y ys=>exact .Tw h
theorem iz {g:Gh}{sz n:Nat}{xs:List (List AV)}{v:Value}(h:aF g (bif xs.isEmpty then .v (.slice none 0 0) else .sl sz xs (.tail n)) v):aF g (.q9 sz xs n) v:=by
 cases xs with
 |nil=>simp only[List.isEmpty_nil,cond_true]at h;cases h;exact .LP
 |cons y ys=>exact .Tw h
theorem C2 {D:fA τ}(hD:D.Ok){g:Gh}{H:Nat→dD}{w:World}(hW:eR g H w){h:Nat→bD τ}{n:Nat}{ats:Array TypeId}{s x:TV τ}{vs vx:Value}(hs:aF g (s.den D.C) vs)(hx:aF g (x.den D.C) vx)
  {res:jG τ} (ha:T0 D h n ats s x=some res) (jM:res.ob=none∨res.ob=some true) (hH:∀ id∈res.F,H id=(h id).den D.C) (hn:n∈res.F→H n=.bX) (ty:TypeId) :
  ∃ v w' g',(Builtin.append_ ats ty #[vs,vx]).run D.E.P w=.ok v w'∧aF g' (res.r.den D.C) v∧fC g H w g' (app H (res.U.map fun p=>(p.1,p.2.den D.C))) w':=by
 unfold T0 at ha
 split at ha
 ·rename_i sT xT h0 h1
  split at ha
  ·rename_i e s1 b1 z1 xi Gv Gw
   split at ha
   ·rename_i ei he
    cases hc:((ei.bytes==0) || Nat.blt 1048576 ei.bytes || !(D.C.sz e==ei.size)) with
    |true=>rw[hc]at ha;cases ha
    |false =>
     rw[hc]at ha
     simp only[cond_false]at ha
     simp only[Bool.or_eq_false_iff,Bool.not_eq_false',beq_eq_false_iff_ne,beq_iff_eq]at hc
     obtain⟨⟨c1,c2⟩,c3⟩:=hc
     have Ql:¬ (ei.bytes=0∨2 ^ 20 < ei.bytes):=by
      rintro (h|h)
      ·exact c1 h
      ·have:Nat.blt 1048576 ei.bytes=true:=by simp only[Nat.blt,Nat.ble_eq];exact h
       rw[this]at c2;cases c2
     split at ha
     ·rename_i xs AX
      obtain⟨x',Lm,Il⟩:=o4 hD c3 hx AX
      have Kn:((xs.map (D.C.cel e)).all fun c=>c.all AV.one)=true:=List.all_eq_true.2 fun y hy=>by
       obtain⟨a,_,rfl⟩:=List.mem_map.1 hy;exact hD.C.one e a
      split at ha
      ·cases ha
       have hb:xs.length * ei.bytes≤2 ^ 46:=by simpa[dG] using jM
       obtain⟨v,w',g',k1,k2,k3⟩:=Rn hD.E hW (hn (by simp)) hs Lm (ats:=ats) (res:={ r:=bif (xs.map (D.C.cel e)).isEmpty then .v (.slice none 0 0) else .sl ei.size (xs.map (D.C.cel e)) (.tail n),U:=[(n,.tail)],ob:=(xs.map (D.C.cel e)).length * ei.bytes≤2 ^ 46 })
        (by unfold EV;simp only[TV.den,On.val];unfold wT;simp only[h0,h1,Gv,Gw,he,if_neg Ql,Il]) (by simpa using hb) ty
       refine⟨v,w',g',k1,?_,k3⟩
       simp only[TV.den,Gf,c3]
       exact iz k2
      ·rename_i t' l0
       split at ha
       ·rename_i l hl
        obtain⟨ht,rfl⟩:=iT hl
        subst ht
        cases ha
        have hb:(l0.length+xs.length) * ei.bytes≤2 ^ 46:=by simpa[dG] using jM
        obtain⟨v,w',g',k1,k2,k3⟩:=Rn hD.E hW (hn (by simp)) hs Lm (ats:=ats) (res:={ r:=bif (xs.map (D.C.cel t')).isEmpty then .sl (D.C.sz t') (l0.map (D.C.cel t')) .full else .sl (D.C.sz t') (l0.map (D.C.cel t')++xs.map (D.C.cel t')) (.tail n),U:=[(n,.tail)],ob:=((l0.map (D.C.cel t')).length+(xs.map (D.C.cel t')).length) * ei.bytes≤2 ^ 46 })
         (by unfold EV;simp only[TV.den,Gf];unfold wT;simp only[h0,h1,Gv,Gw,he,if_neg Ql,Il,c3,if_true]) (by simpa using hb) ty
        refine⟨v,w',g',k1,?_,k3⟩
        simp only[TV.den,Gf,List.map_append]
        exact iy k2
       ·cases ha
      ·rename_i t' l0 id
       split at ha
       ·rename_i l hl gY
        obtain⟨ht,rfl⟩:=iT hl
        subst ht
        cases ha
        have hb:(l0.length+xs.length) * ei.bytes≤2 ^ 46:=by simpa[dG] using jM
        have FH:H id=.tail:=by rw[hH id (by simp),gY];rfl
        obtain⟨v,w',g',k1,k2,k3⟩:=Rn hD.E hW (hn (by simp)) hs Lm (ats:=ats) (res:={ r:=.q9 (D.C.sz t') (l0.map (D.C.cel t')++xs.map (D.C.cel t')) n,U:=[(id,.dead),(n,.tail)],ob:=((l0.map (D.C.cel t')).length+(xs.map (D.C.cel t')).length) * ei.bytes≤2 ^ 46 })
         (by unfold EV;simp only[TV.den,Gf,h0,h1,Gv,Gw,he,if_neg Ql,Il,c3,FH,Kn,and_self,if_true]) (by simpa using hb) ty
        refine⟨v,w',g',k1,?_,k3⟩
        simp only[TV.den,Gf,List.map_append]
        exact k2
       ·cases ha
      ·cases ha
     ·cases ha
   ·cases ha
  ·cases ha
 ·cases ha
def n5 (D:fA τ)(h:Nat→bD τ)(n:Nat)(mu:Bool)(ats:Array TypeId)(s x:TV τ):Option (jG τ) :=
 match ats[0]?,ats[1]? with
 |some sT,some xT =>
  match D.E.ty sT,D.E.ty xT with
  |some ⟨.slice e,_,_,_⟩,some xi =>
   match D.E.ty e with
   |some ei =>
    bif (ei.bytes==0) || Nat.blt 1048576 ei.bytes || !(D.C.sz e==ei.size) then none else
    match aBI D e xi x with
    |some xs =>
     match s with
     |.sl t l (.q8 id)=>bif Nat.beq t e then (match h id with | .tail=>some { r:=.kQ,F:=[id],ob:=some (dG (l.length+xs.length) ei.bytes) } | _=>none) else none
     |.mS t id k=>bif Nat.beq t e then (match h id with
      |.eD t' l=>(match Bh e l with|some l=>some { r:=.mS e n (k+xs.length),U:=[(id,.dead),(n,.eD e (l.take k++xs))],F:=[id,n],ob:=some (dG (k+xs.length) ei.bytes&&Nat.ble k l.length) } | none=>none)
      |_=>none) else none
     |.nil .slice=>bif mu then some { r:=.mS e n xs.length,U:=[(n,.eD e xs)],F:=[n],ob:=some (dG xs.length ei.bytes) } else none
     |.sl _ [] .full=>bif mu then some { r:=.mS e n xs.length,U:=[(n,.eD e xs)],F:=[n],ob:=some (dG xs.length ei.bytes) } else none
     |_=>none
    |none=>none
   |none=>none
  |_,_=>none
 |_,_=>none
theorem oC (C:eY τ)(e:Nat)(l:List (τ e)):(l.map (C.cel e)).flatten=l.flatMap (C.cel e):=by rw[List.flatMap]
theorem IN {C:eY τ}(hC:C.Ok){e:Nat}:∀ (l:List (τ e)) (k:Nat),k≤l.length→(l.flatMap (C.cel e)).take (k * C.sz e)=(l.take k).flatMap (C.cel e)
 |l,0,_=>by simp
 |[],k+1,h=>by simp at h
 |x :: l,k+1,h=>by
  have ih:=IN hC l k (by simpa using h)
  rw[List.flatMap_cons,List.take_succ_cons,List.flatMap_cons,← ih,Nat.succ_mul,Nat.add_comm,List.take_add,← hC.len e x]
  simp
theorem n6 {D:fA τ}(hD:D.Ok){g:Gh}{H:Nat→dD}{w:World}(hW:eR g H w){h:Nat→bD τ}{n:Nat}{mu:Bool}{ats:Array TypeId}{s x:TV τ}{vs vx:Value}(hs:aF g (s.den D.C) vs)(hx:aF g (x.den D.C) vx)
  {res:jG τ} (ha:n5 D h n mu ats s x=some res) (jM:res.ob=none∨res.ob=some true) (hH:∀ id∈res.F,H id=(h id).den D.C) (hn:n∈res.F→H n=.bX) (ty:TypeId) :
  ∃ v w' g',(Builtin.append_ ats ty #[vs,vx]).run D.E.P w=.ok v w'∧aF g' (res.r.den D.C) v∧fC g H w g' (app H (res.U.map fun p=>(p.1,p.2.den D.C))) w':=by
 unfold n5 at ha
 split at ha
 ·rename_i sT xT h0 h1
  split at ha
  ·rename_i e s1 b1 z1 xi Gv Gw
   split at ha
   ·rename_i ei he
    cases hc:((ei.bytes==0) || Nat.blt 1048576 ei.bytes || !(D.C.sz e==ei.size)) with
    |true=>rw[hc]at ha;cases ha
    |false =>
     rw[hc]at ha
     simp only[cond_false]at ha
     simp only[Bool.or_eq_false_iff,Bool.not_eq_false',beq_eq_false_iff_ne,beq_iff_eq]at hc
     obtain⟨⟨c1,c2⟩,c3⟩:=hc
     have Ql:¬ (ei.bytes=0∨2 ^ 20 < ei.bytes):=by
      rintro (h|h)
      ·exact c1 h
      ·have:Nat.blt 1048576 ei.bytes=true:=by simp only[Nat.blt,Nat.ble_eq];exact h
       rw[this]at c2;cases c2
     split at ha
     ·rename_i xs AX
      obtain⟨x',Lm,Il⟩:=o4 hD c3 hx AX
      have Kn:((xs.map (D.C.cel e)).all fun c=>c.all AV.one)=true:=List.all_eq_true.2 fun y hy=>by
       obtain⟨a,_,rfl⟩:=List.mem_map.1 hy;exact hD.C.one e a
      split at ha
      ·rename_i t l id
       cases ht:Nat.beq t e with
       |false=>rw[ht]at ha;cases ha
       |true =>
        rw[ht]at ha
        simp only[cond_true]at ha
        have:=Nat.eq_of_beq_eq_true ht
        subst this
        split at ha
        ·rename_i gY
         cases ha
         have hb:(l.length+xs.length) * ei.bytes≤2 ^ 46:=by simpa[dG] using jM
         have FH:H id=.tail:=by rw[hH id (by simp),gY];rfl
         obtain⟨v,w',g',k1,k2,k3⟩:=VU hD.E hW h0 h1 Gv Gw he Ql (show aF g (.q9 ei.size (l.map (D.C.cel t)) id) vs by rw[← c3];exact hs) Lm Il FH Kn (by simpa using hb) ty
         exact⟨v,w',g',k1,k2,k3⟩
        ·cases ha
      ·rename_i t id k
       cases ht:Nat.beq t e with
       |false=>rw[ht]at ha;cases ha
       |true =>
        rw[ht]at ha
        simp only[cond_true]at ha
        have:=Nat.eq_of_beq_eq_true ht
        subst this
        split at ha
        ·rename_i t' l0 gY
         split at ha
         ·rename_i l hl
          obtain⟨jt,rfl⟩:=iT hl
          subst jt
          cases ha
          have hb:dG (k+xs.length) ei.bytes=true∧Nat.ble k l0.length=true:=by simpa using jM
          have UJ:(k+xs.length) * ei.bytes≤2 ^ 46:=by simpa[dG] using hb.1
          have hb2:k≤l0.length:=Nat.le_of_ble_eq_true hb.2
          have FH:H id=.eD (l0.flatMap (D.C.cel t')):=by rw[hH id (by simp),gY];rfl
          obtain⟨v,w',g',k1,k2,k3⟩:=VV hD.E hW (hn (by simp)) h0 h1 Gv Gw he Ql (show aF g (.Fk id 0 k ei.size) vs by rw[← c3];exact hs) Lm Il FH
           (by rw[iZ hD.C,← c3];exact Nat.mul_le_mul_right _ hb2) Kn (by simpa using UJ) ty
          refine⟨v,w',g',k1,?_,?_⟩
          ·simp only[TV.den,c3];simpa using k2
          ·simp only[app,List.map_cons,List.map_nil,bD.den]
           rw[← c3,IN hD.C _ _ hb2,oC]at k3
           rw[List.flatMap_append]
           exact k3
         ·cases ha
        ·cases ha
      ·cases mu with
       |false=>cases ha
       |true =>
        cases ha
        have hb:xs.length * ei.bytes≤2 ^ 46:=by simpa[dG] using jM
        have UK:aF g (.v (.slice none 0 0)) vs:=hs
        cases UK
        obtain⟨v,w',g',k1,k2,k3⟩:=DB hD.E hW (hn (by simp)) h0 h1 Gv Gw he Ql Lm Il (by simpa using hb) ty
        refine⟨v,w',g',k1,by simp only[TV.den,c3];simpa using k2,?_⟩
        simp only[app,List.map_cons,List.map_nil,bD.den]
        rw[oC]at k3;exact k3
      ·rename_i t
       cases mu with
       |false=>cases ha
       |true =>
        cases ha
        have hb:xs.length * ei.bytes≤2 ^ 46:=by simpa[dG] using jM
        have UK:aF g (.sl (D.C.sz t) [] .full) vs:=hs
        cases UK with
        |sl c e1 e2 e3 e4 e5 e6 =>
         rename_i b o len cap
         have Kl:cap=len:=e6
         have hl0:len=0:=by simpa using e1.symm
         subst Kl;subst hl0
         obtain⟨v,w',g',k1,k2,k3⟩:=DB hD.E hW (hn (by simp)) h0 h1 Gv Gw he Ql Lm Il (by simpa using hb) ty
         refine⟨v,w',g',k1,by simp only[TV.den,c3];simpa using k2,?_⟩
         simp only[app,List.map_cons,List.map_nil,bD.den]
         rw[oC]at k3;exact k3
      ·cases ha
     ·cases ha
   ·cases ha
  ·cases ha
 ·cases ha
def pq:Operand→Operand→Bool
 |.tmp a,.tmp b=>Nat.beq a b
 |.const (.int .i64 a),.const (.int .i64 b)=>a==b
 |_,_=>false
theorem aAY {x y:Operand}(h:pq x y=true):x=y:=by
 unfold pq at h
 split at h
 ·rw[Nat.eq_of_beq_eq_true h]
 ·rw[eq_of_beq h]
 ·cases h
def wu (a:Int)(b:Nat):Bool:=decide (0≤a)&&(decide (a * b≤70368744177664)&&decide (a≤9223372036854775807))
def aBF (D:fA τ)(n:Nat)(mu:Bool)(t:TypeId)(x:TV τ):Option (jG τ) :=
 match D.E.ty t,x with
 |some ⟨.slice e,_,_,_⟩,.int _ a =>
  match D.E.ty e,D.zero e with
  |some ei,some z=>(match D.C.dec e z with
   |some d=>bif D.C.sz e==ei.size then (bif mu then some { r:=.mS e n a.toNat,U:=[(n,.eD e (List.replicate a.toNat d))],F:=[n],ob:=some (wu a ei.bytes) }
     else some { r:=.sl e (List.replicate a.toNat d) .full,ob:=some (wu a ei.bytes) }) else none
   |none=>none)
  |_,_=>none
 |_,_=>none
theorem CW.Ux {a b:List AV}(h:CW a b):∀ n:Nat,CW (List.replicate n a).flatten (List.replicate n b).flatten
 |0=>.refl []
 |n+1=>by rw[List.replicate_succ,List.replicate_succ,List.flatten_cons,List.flatten_cons];exact h.append (CW.Ux h n)
theorem di {D:fA τ}(hD:D.Ok){g:Gh}{H:Nat→dD}{w:World}(hW:eR g H w){n:Nat}{mu:Bool}{t:TypeId}{x:TV τ}{vx:Value}(hx:aF g (x.den D.C) vx){res:jG τ}(hr:aBF D n mu t x=some res)
  (jM:res.ob=none∨res.ob=some true) (hn:n∈res.F→H n=.bX) :
  ∃ v w' g',(Instr.makeSlice t vx vx).run D.E.P w=.ok v w'∧aF g' (res.r.den D.C) v∧fC g H w g' (app H (res.U.map fun p=>(p.1,p.2.den D.C))) w':=by
 unfold aBF at hr
 split at hr
 ·rename_i e s1 b1 z1 k a ht
  have Lm:aF g (.v (.int k a)) vx:=hx
  cases Lm
  split at hr
  ·rename_i ei z he hz
   split at hr
   ·rename_i d hd
    cases hc:D.C.sz e==ei.size with
    |false=>rw[hc]at hr;cases hr
    |true =>
     rw[hc]at hr
     simp only[cond_true]at hr
     have ew:D.C.sz e=ei.size:=by simpa using hc
     obtain⟨i,hi,Hm,G0,Di⟩:=hD.zero e z hz
     rw[he]at hi;cases hi
     have hw0:CW ei.zero (D.C.cel e d):=G0.trans (hD.C.dec e z d hd)
     cases mu with
     |false =>
      cases hr
      have hb:wu a ei.bytes=true:=by simpa using jM
      simp only[wu,Bool.and_eq_true,decide_eq_true_eq]at hb
      obtain⟨v,w',g',k1,k2,k3⟩:=M7 hD.E hW ht he (kl:=k) (kc:=k) hb.1 hb.2.2 hb.2.1
      refine⟨v,w',g',k1,?_,k3⟩
      simp only[TV.den,Gf,ew,List.map_replicate]
      refine W.sl (by simp) (fun i p q hp hq=>?_) g' v k2
      rw[List.getElem?_replicate]at hp hq
      split at hp
      ·rename_i nH
       rw[if_pos nH]at hq
       cases hp;cases hq;exact hw0
      ·cases hp
     |true =>
      cases hr
      have hb:wu a ei.bytes=true:=by simpa using jM
      simp only[wu,Bool.and_eq_true,decide_eq_true_eq]at hb
      obtain⟨v,w',g',k1,k2,k3⟩:=v7 hD.E hW (hn (by simp)) ht he (kl:=k) (kc:=k) hb.1 hb.2.2 hb.2.1
      refine⟨v,w',g',k1,by simp only[TV.den,ew];exact k2,?_⟩
      simp only[app,List.map_cons,List.map_nil,bD.den]
      have aAo:CW (List.replicate a.toNat ei.zero).flatten ((List.replicate a.toNat d).flatMap (D.C.cel e)):=by
       rw[← oC,List.map_replicate];exact CW.Ux hw0 _
      have:=fC.rk k3.rel (id:=n) (aP _ _ _) aAo
      have e3:eQ (eQ H n (.eD (List.replicate a.toNat ei.zero).flatten)) n (.eD ((List.replicate a.toNat d).flatMap (D.C.cel e)))=eQ H n (.eD ((List.replicate a.toNat d).flatMap (D.C.cel e))):=by
       funext j
       by_cases hj:j=n
       ·subst hj;rw[aP,aP]
       ·rw[aM _ _ hj,aM _ _ hj,aM _ _ hj]
      rw[e3]at this
      exact k3.trans this
   ·cases hr
  ·cases hr
 ·cases hr
def n7 (D:fA τ)(n:Nat)(mu:Bool)(ats:Array TypeId)(s x:TV τ):Option (jG τ) :=
 match mu,s,x,ats[0]?,ats[1]? with
 |true,.nil .slice,.int _ a,some sT,some xT =>
  match D.E.ty sT,D.E.ty xT with
  |some ⟨.slice e,_,_,_⟩,some ⟨.int _,_,_,_⟩ =>
   match D.E.ty e,D.zero e with
   |some ei,some z=>(match D.C.dec e z with
    |some d=>bif (ei.bytes==0) || Nat.blt 1048576 ei.bytes || !(D.C.sz e==ei.size) then none else some { r:=.mS e n a.toNat,U:=[(n,.eD e (List.replicate a.toNat d))],F:=[n],ob:=some (wu a ei.bytes) }
    |none=>none)
   |_,_=>none
  |_,_=>none
 |_,_,_,_,_=>none
theorem n8 {D:fA τ}(hD:D.Ok){g:Gh}{H:Nat→dD}{w:World}(hW:eR g H w){n:Nat}{mu:Bool}{ats:Array TypeId}{s x:TV τ}{vs vx:Value}(hs:aF g (s.den D.C) vs)(hx:aF g (x.den D.C) vx){res:jG τ}(hr:n7 D n mu ats s x=some res)
  (jM:res.ob=none∨res.ob=some true) (hn:n∈res.F→H n=.bX) (ty:TypeId) :
  ∃ v w' g',(Builtin.append_ ats ty #[vs,vx]).run D.E.P w=.ok v w'∧aF g' (res.r.den D.C) v∧fC g H w g' (app H (res.U.map fun p=>(p.1,p.2.den D.C))) w':=by
 unfold n7 at hr
 split at hr
 ·rename_i k a sT xT h0 h1
  have Lm:aF g (.v (.int k a)) vx:=hx
  cases Lm
  have UK:aF g (.v (.slice none 0 0)) vs:=hs
  cases UK
  split at hr
  ·rename_i e s1 b1 z1 kx s2 b2 z2 Gv Gw
   split at hr
   ·rename_i ei z he hz
    split at hr
    ·rename_i d hd
     cases hc:((ei.bytes==0) || Nat.blt 1048576 ei.bytes || !(D.C.sz e==ei.size)) with
     |true=>rw[hc]at hr;cases hr
     |false =>
      rw[hc]at hr
      simp only[cond_false]at hr
      simp only[Bool.or_eq_false_iff,Bool.not_eq_false',beq_eq_false_iff_ne,beq_iff_eq]at hc
      obtain⟨⟨c1,c2⟩,ew⟩:=hc
      have Ql:¬ (ei.bytes=0∨2 ^ 20 < ei.bytes):=by
       rintro (h|h)
       ·exact c1 h
       ·have:Nat.blt 1048576 ei.bytes=true:=by simp only[Nat.blt,Nat.ble_eq];exact h
        rw[this]at c2;cases c2
      obtain⟨i,hi,Hm,G0,Di⟩:=hD.zero e z hz
      rw[he]at hi;cases hi
      have hw0:CW ei.zero (D.C.cel e d):=G0.trans (hD.C.dec e z d hd)
      cases hr
      have hb:wu a ei.bytes=true:=by simpa using jM
      simp only[wu,Bool.and_eq_true,decide_eq_true_eq]at hb
      obtain⟨v,w',g',k1,k2,k3⟩:=VW hD.E hW (hn (by simp)) h0 h1 Gv Gw rfl he Ql (kl:=k) hb.1 hb.2.2 hb.2.1 ty
      refine⟨v,w',g',k1,by simp only[TV.den,ew];exact k2,?_⟩
      simp only[app,List.map_cons,List.map_nil,bD.den]
      have aAo:CW (List.replicate a.toNat ei.zero).flatten ((List.replicate a.toNat d).flatMap (D.C.cel e)):=by
       rw[← oC,List.map_replicate];exact CW.Ux hw0 _
      have:=fC.rk k3.rel (id:=n) (aP _ _ _) aAo
      have e3:eQ (eQ H n (.eD (List.replicate a.toNat ei.zero).flatten)) n (.eD ((List.replicate a.toNat d).flatMap (D.C.cel e)))=eQ H n (.eD ((List.replicate a.toNat d).flatMap (D.C.cel e))):=by
       funext j
       by_cases hj:j=n
       ·subst hj;rw[aP,aP]
       ·rw[aM _ _ hj,aM _ _ hj,aM _ _ hj]
      rw[e3]at this
      exact k3.trans this
    ·cases hr
   ·cases hr
  ·cases hr
 ·cases hr
def CQ (mx:Bool):List (TV τ)→Option (TV τ)
 |.int k a :: r=>go k a r
 |_=>none
where
 go (k:IntKind) (a:Int):List (TV τ)→Option (TV τ)
  |[]=>some (.int k a)
  |.int _ b :: r=>go k (bif mx then (bif decide (a < b) then b else a) else (bif decide (b < a) then b else a)) r
  |_=>none
theorem uT (C:eY τ):∀ l:List (TV τ),TV.kU C l=l.map (TV.den C)
 |[]=>rfl
 |x :: r=>by rw[TV.kU,List.map_cons,uT C r]
theorem o3 {C:eY τ}{mx:Bool}:∀ (l:List (TV τ)) (k:IntKind) (a:Int) (r:TV τ),CQ.go mx k a l=some r→∃ v,Bu.go mx k a (l.map (TV.den C))=some v∧r.den C=.v v
 |[],k,a,r,h=>by simp only[CQ.go,Option.some.injEq]at h;subst h;exact⟨_,rfl,rfl⟩
 |x :: l,k,a,r,h=>by
  cases x<;>simp only[CQ.go,reduceCtorEq]at h
  obtain⟨v,h1,h2⟩:=o3 (C:=C) l k _ r h
  refine⟨v,?_,h2⟩
  simp only[List.map_cons,TV.den,Bu.go]
  rw[← h1]
  congr 1
  cases mx<;>simp[cond_eq_ite]
theorem o2 {C:eY τ}{mx:Bool}{l:List (TV τ)}{r:TV τ}(h:CQ mx l=some r):∃ v,Bu mx (l.map (TV.den C))=some v∧r.den C=.v v:=by
 unfold CQ at h
 split at h
 ·obtain⟨v,h1,h2⟩:=o3 (C:=C) _ _ _ _ h
  exact⟨v,by simp only[List.map_cons,TV.den,Bu];exact h1,h2⟩
 ·cases h
def asW:TV τ→Option (Nat×Nat×Nat×Nat×Nat×Bool)
 |.mS t id n=>some (t,id,0,n,n,false)
 |.nG t id o n c nn=>some (t,id,o,n,c,nn)
 |_=>none
theorem NU {C:eY τ}{g:Gh}{x:TV τ}{t id o n c:Nat}{nn:Bool}(h:asW x=some (t,id,o,n,c,nn)){v:Value}(hx:aF g (x.den C) v):aF g (.nG id (o * C.sz t) n c nn (C.sz t)) v:=by
 unfold asW at h
 split at h
 ·cases h
  rw[Nat.zero_mul]
  exact K7 hx
 ·cases h;exact hx
 ·cases h
def AG (l h m c:Int):Bool:=decide (0≤l)&&(decide (l≤h)&&(decide (h≤m)&&decide (m≤c)))
theorem zb {l h m c:Int}(hb:AG l h m c=true):0≤l∧l≤h∧h≤m∧m≤c:=by simpa[AG] using hb
def winB (win:Bool)(x:TV τ)(lo mx:Option (TV τ)):Bool :=
 match win,x,lo,mx with
 |true,_,_,_=>true
 |_,.nG _ _ _ _ _ _,_,_=>true
 |_,_,some _,_=>true
 |_,_,_,some _=>true
 |_,_,_,_=>false
def aGI (D:fA τ)(win:Bool)(t:TypeId)(x:TV τ)(lo hi mx:Option (TV τ)):Option (jG τ) :=
 bif winB win x lo mx then (match D.E.ty t,asW x with
  |some ⟨.slice e,_,_,_⟩,some (t',id,o,n,c,nn) =>
   match D.E.ty e,n9 lo 0,n9 hi n,n9 mx c with
   |some ei,some l,some h,some m=>bif (D.C.sz t'==ei.size)&&(hi.isSome || !mx.isSome) then some { r:=.nG t' id (o+l.toNat) (h.toNat - l.toNat) (m.toNat - l.toNat) (nn || Nat.blt 0 n),ob:=some (AG l h m c) } else none
   |_,_,_,_=>none
  |_,_=>none) else none
theorem mh {D:fA τ}(hD:D.Ok){g:Gh}{win:Bool}{t:TypeId}{x:TV τ}{lo hi mx:Option (TV τ)}{vx:Value}{vlo vhi vmx:Option Value}(hx:aF g (x.den D.C) vx)
  (IV:∀ a,lo=some a→∃ v,vlo=some v∧aF g (a.den D.C) v) (Mr:lo=none→vlo=none) (XH:∀ a,hi=some a→∃ v,vhi=some v∧aF g (a.den D.C) v) (Oy:hi=none→vhi=none)
  (wo:∀ a,mx=some a→∃ v,vmx=some v∧aF g (a.den D.C) v) (Tx:mx=none→vmx=none) {res:jG τ} (h:aGI D win t x lo hi mx=some res) (jM:res.ob=none∨res.ob=some true) (w:World) :
  ∃ v,(Instr.sliceAt t vx vlo vhi vmx).run D.E.P w=.ok v w∧aF g (res.r.den D.C) v∧res.U=[]:=by
 unfold aGI at h
 cases hwin:winB win x lo mx with
 |false=>rw[hwin]at h;cases h
 |true =>
  rw[hwin]at h
  simp only[cond_true]at h
  split at h
  ·rename_i e s1 b1 z1 t' id o n c nn ht hw
   split at h
   ·rename_i ei l hh m he hl hhh hm
    cases hc:((D.C.sz t'==ei.size)&&(hi.isSome || !mx.isSome)) with
    |false=>rw[hc]at h;cases h
    |true =>
     rw[hc]at h
     simp only[cond_true,Option.some.injEq]at h
     subst h
     simp only[Bool.and_eq_true,beq_iff_eq]at hc
     obtain⟨c1,c2⟩:=hc
     obtain⟨h0,h1,h2,h3⟩:=zb (show AG l hh m c=true by simpa using jM)
     have tc:∀ {z:Option (TV τ)} {vz:Option Value},(∀ a,z=some a→∃ v,vz=some v∧aF g (a.den D.C) v)→∀ a,z.map (TV.den D.C)=some a→∃ v,vz=some v∧aF g a v:=fun {z vz} hz a ha=>by
      cases z with
      |none=>simp at ha
      |some y=>simp at ha;subst ha;exact hz y rfl
     obtain⟨v,k1,k2⟩:=aAh hD.E ht he c1 (NU hw hx) (Jj (C:=D.C) hl) (Jj (C:=D.C) hhh) (Jj (C:=D.C) hm)
      (tc IV) (fun e=>Mr (by simpa using e)) (tc XH) (fun e=>Oy (by simpa using e)) (tc wo) (fun e=>Tx (by simpa using e))
      (fun e=>by
       rw[Option.isSome_map]at e ⊢
       rw[e]at c2;simpa using c2) h0 h1 h2 h3 w
     refine⟨v,k1,?_,rfl⟩
     simp only[TV.den]
     rw[Nat.add_mul]
     rw[show Nat.blt 0 n=decide (0 < n) by rw[Bool.eq_iff_iff];simp[Nat.blt,Nat.succ_le_iff]]
     exact k2
   ·cases h
  ·cases h
def aBH (D:fA τ)(op:BinOp)(t:TypeId)(x y:TV τ):Option (jG τ) :=
 match asW x,y,D.E.ty t,D.E.eqk t with
 |some (t',id,o,n,c,nn),.nil .slice,some ⟨.slice _,_,_,_⟩,none =>
  (match op with
  |.eql=>some { r:=.bool false,ob:=some (nn || Nat.blt 0 n) }
  |.neq=>some { r:=.bool true,ob:=some (nn || Nat.blt 0 n) }
  |_=>none)
 |_,_,_,_=>none
theorem dk {D:fA τ}(hD:D.Ok){g:Gh}{t:TypeId}{op:BinOp}{x y:TV τ}{vx vy:Value}(hx:aF g (x.den D.C) vx)(hy:aF g (y.den D.C) vy){res:jG τ}(h:aBH D op t x y=some res)
  (jM:res.ob=none∨res.ob=some true) (ox oy:Operand) (w:World) :
  ∃ v,(do eqGuard op t ox oy vx vy;binOp op t vx vy:Sem Value).run D.E.P w=.ok v w∧aF g (res.r.den D.C) v∧res.U=[]:=by
 unfold aBH at h
 split at h
 ·rename_i t' id o n c nn e s b z hw ht hks
  have hy':aF g (.v (.slice none 0 0)) vy:=hy
  have key:∀ (hn:(nn || Nat.blt 0 n)=true),∃ x',aF g x' vx∧OB D.E t x' (.v (.slice none 0 0))=some false∧(∀ k a,x'≠.v (.int k a))∧(∀ s,x'≠.v (.string s)):=fun hn =>
   ⟨_,mq (NU hw hx) hn,by unfold OB;simp only[hks,ht,kj];simp,by simp,by simp⟩
  split at h
  ·cases h
   obtain⟨x',e1,e3,e4,e5⟩:=key (by simpa using jM)
   obtain⟨v,k1,k2,_⟩:=Gt hD.E hD.Q (t:=t) (op:=.eql) e1 hy' (res:={ r:=.v (.bool false) }) (by rw[ID ⟨e4,e5⟩];simp only[e3];rfl) trivial ox oy w
   exact⟨v,k1,k2,rfl⟩
  ·cases h
   obtain⟨x',e1,e3,e4,e5⟩:=key (by simpa using jM)
   obtain⟨v,k1,k2,_⟩:=Gt hD.E hD.Q (t:=t) (op:=.neq) e1 hy' (res:={ r:=.v (.bool true) }) (by rw[ID ⟨e4,e5⟩];simp only[e3];rfl) trivial ox oy w
   exact⟨v,k1,k2,rfl⟩
  ·cases h
 ·cases h
def re (D:fA τ)(h:Nat→bD τ)(e:Nat)(xi:TI)(x:TV τ):Option (List (τ e)×Option Bool×List Nat) :=
 match aBI D e xi x with
 |some xs=>some (xs,none,[])
 |none =>
  match xi.d,asW x with
  |.slice _,some (t,id,o,n,_,_)=>(match h id with
   |.eD t' l=>(match Bh e l with|some l=>bif Nat.beq t e then some ((l.drop o).take n,some (Nat.ble (o+n) l.length),[id]) else none|none=>none)
   |_=>none)
  |_,_=>none
theorem LH {C:eY τ}(hC:C.Ok){t:Nat}:∀ (n o:Nat) (l:List (τ t)),o+n≤l.length→chunks (l.flatMap (C.cel t)) (o * C.sz t) n (C.sz t)=((l.drop o).take n).map (C.cel t)
 |0,o,l,h=>by simp[chunks]
 |n+1,o,l,h=>by
  have ih:=LH hC n o l (by omega)
  have e1:chunks (l.flatMap (C.cel t)) (o * C.sz t) (n+1) (C.sz t)=chunks (l.flatMap (C.cel t)) (o * C.sz t) n (C.sz t)++[rd (l.flatMap (C.cel t)) (o * C.sz t+n * C.sz t) (C.sz t)]:=by simp[chunks,List.range_succ]
  rw[e1,ih,List.take_add_one,List.map_append]
  congr 1
  rw[← Nat.add_mul,IF hC l (o+n) (by omega) l[o+n]]
  simp only[List.getElem?_drop,List.getD,List.getElem?_eq_getElem (show o+n < l.length by omega),Option.getD_some,Option.toList_some,List.map_cons,List.map_nil]
theorem Zn {D:fA τ}(hD:D.Ok){g:Gh}{H:Nat→dD}{w:World}(hW:eR g H w){h:Nat→bD τ}{e:Nat}{ei xi:TI}(ZK:D.C.sz e=ei.size){x:TV τ}{vx:Value}(hx:aF g (x.den D.C) vx){l:List (τ e)}{ob:Option Bool}{F:List Nat}
  (hs:re D h e xi x=some (l,ob,F)) (jM:ob=none∨ob=some true) (hH:∀ id∈F,H id=(h id).den D.C) :
  Ra D.E.P g w ei.size (l.map (D.C.cel e)) vx∧∀ k,xi.d≠.int k:=by
 unfold re at hs
 split at hs
 ·rename_i xs AX
  cases hs
  obtain⟨x',Lm,Il⟩:=o4 hD ZK hx AX
  exact⟨.of hW Lm Il,yV Il⟩
 ·split at hs
  ·rename_i e' t id o n c nn hd hw
   split at hs
   ·rename_i t' l0 gY
    split at hs
    ·rename_i l1 hl
     obtain⟨jt,rfl⟩:=iT hl
     subst jt
     cases ht:Nat.beq t t' with
     |false=>rw[ht]at hs;cases hs
     |true =>
      rw[ht]at hs
      simp only[cond_true,Option.some.injEq,Prod.mk.injEq]at hs
      obtain⟨rfl,rfl,rfl⟩:=hs
      have:=Nat.eq_of_beq_eq_true ht
      subst this
      have hb:o+n≤l0.length:=Nat.le_of_ble_eq_true (by simpa using jM)
      have FH:H id=.eD (l0.flatMap (D.C.cel t)):=by rw[hH id (by simp),gY];rfl
      have Lm:=NU hw hx
      rw[ZK]at Lm
      have:=Ra.heap (P:=D.E.P) hW Lm FH (by rw[iZ hD.C,← ZK,← Nat.add_mul];exact Nat.mul_le_mul_right _ hb)
      rw[← ZK,LH hD.C n o l0 hb]at this
      rw[← ZK]
      exact⟨this,fun k hk=>by rw[hd]at hk;cases hk⟩
    ·cases hs
   ·cases hs
  ·cases hs
def lz (D:fA τ)(h:Nat→bD τ)(src dst:TypeId)(x:TV τ):Option (jG τ) :=
 match D.E.ty src,D.E.ty dst,asW x with
 |some ⟨.slice e,_,_,_⟩,some ⟨.string,_,_,_⟩,some (t,id,o,n,_,_) =>
  match D.E.ty e,h id with
  |some ⟨.int .u8,_,_,_⟩,.eD t' l=>bif Nat.beq t t' then (match D.C.TS t' ((l.drop o).take n) with|some s=>some { r:=.str s,F:=[id],ob:=some (Nat.ble (o+n) l.length) } | none=>none) else none
  |_,_=>none
 |_,_,_=>none
theorem T3 {D:fA τ}(hD:D.Ok){g:Gh}{H:Nat→dD}{w:World}(hW:eR g H w){h:Nat→bD τ}{src dst:TypeId}{x:TV τ}{vx:Value}(hx:aF g (x.den D.C) vx){res:jG τ}
  (hr:lz D h src dst x=some res) (jM:res.ob=none∨res.ob=some true) (hH:∀ id∈res.F,H id=(h id).den D.C) :
  ∃ v w' g',(convert src dst vx).run D.E.P w=.ok v w'∧aF g' (res.r.den D.C) v∧fC g H w g' (app H (res.U.map fun p=>(p.1,p.2.den D.C))) w':=by
 unfold lz at hr
 split at hr
 ·rename_i e s1 b1 z1 s2 b2 z2 t id o n c nn hs hd hw
  split at hr
  ·rename_i s3 b3 z3 t' l he gY
   cases ht:Nat.beq t t' with
   |false=>rw[ht]at hr;cases hr
   |true =>
    rw[ht]at hr
    simp only[cond_true]at hr
    have:=Nat.eq_of_beq_eq_true ht
    subst this
    split at hr
    ·rename_i s0 hl
     cases hr
     obtain⟨hz,oI⟩:=hD.C.TS t _ s0 hl
     have hb:o+n≤l.length:=Nat.le_of_ble_eq_true (by simpa using jM)
     have FH:H id=.eD (l.flatMap (D.C.cel t)):=by rw[hH id (by simp),gY];rfl
     have Lm:=NU hw hx
     have hS:=Ra.heap (P:=D.E.P) hW Lm FH (by rw[iZ hD.C,← Nat.add_mul];exact Nat.mul_le_mul_right _ hb)
     rw[LH hD.C n o l hb,hz]at hS
     rw[hz]at Lm
     have hlen:(((l.drop o).take n).map (D.C.cel t)).length=n:=by simp;omega
     exact⟨_,w,g,aCw hD.E hs hd he Lm hS hlen oI,.v _,.refl hW⟩
    ·cases hr
  ·cases hr
 ·cases hr
theorem obD {ob:Option Bool}(h:ob.getD true=true):ob=none∨ob=some true:=by
 cases ob with
 |none=>exact .inl rfl
 |some b=>exact .inr (by simpa using h)
def m8 (D:fA τ)(h:Nat→bD τ)(n:Nat)(ats:Array TypeId)(s x:TV τ):Option (jG τ) :=
 match ats[0]?,ats[1]? with
 |some sT,some xT =>
  match D.E.ty sT,D.E.ty xT with
  |some ⟨.slice e,_,_,_⟩,some xi =>
   match D.E.ty e with
   |some ei =>
    bif (ei.bytes==0) || Nat.blt 1048576 ei.bytes || !(D.C.sz e==ei.size) then none else
    match s with
    |.sl _ l (.own id)=>(match re D h e xi x with
     |some (xs,ob,F)=>(match Bh e l,h id with|some l,.tail=>some { r:=.sl e (l++xs) (.own n),U:=[(id,.dead),(n,.tail)],F:=[id,n]++F,ob:=some (dG (l.length+xs.length) ei.bytes&&ob.getD true) } | _,_=>none)
     |none=>none)
    |_=>none
   |none=>none
  |_,_=>none
 |_,_=>none
theorem m9 {D:fA τ}(hD:D.Ok){g:Gh}{H:Nat→dD}{w:World}(hW:eR g H w){h:Nat→bD τ}{n:Nat}{ats:Array TypeId}{s x:TV τ}{vs vx:Value}(hs:aF g (s.den D.C) vs)(hx:aF g (x.den D.C) vx)
  {res:jG τ} (ha:m8 D h n ats s x=some res) (jM:res.ob=none∨res.ob=some true) (hH:∀ id∈res.F,H id=(h id).den D.C) (hn:n∈res.F→H n=.bX) (ty:TypeId) :
  ∃ v w' g',(Builtin.append_ ats ty #[vs,vx]).run D.E.P w=.ok v w'∧aF g' (res.r.den D.C) v∧fC g H w g' (app H (res.U.map fun p=>(p.1,p.2.den D.C))) w':=by
 unfold m8 at ha
 split at ha
 ·rename_i sT xT h0 h1
  split at ha
  ·rename_i e s1 b1 z1 xi Gv Gw
   split at ha
   ·rename_i ei he
    cases hc:((ei.bytes==0) || Nat.blt 1048576 ei.bytes || !(D.C.sz e==ei.size)) with
    |true=>rw[hc]at ha;cases ha
    |false =>
     rw[hc]at ha
     simp only[cond_false]at ha
     simp only[Bool.or_eq_false_iff,Bool.not_eq_false',beq_eq_false_iff_ne,beq_iff_eq]at hc
     obtain⟨⟨c1,c2⟩,c3⟩:=hc
     have Ql:¬ (ei.bytes=0∨2 ^ 20 < ei.bytes):=by
      rintro (h|h)
      ·exact c1 h
      ·have:Nat.blt 1048576 ei.bytes=true:=by simp only[Nat.blt,Nat.ble_eq];exact h
       rw[this]at c2;cases c2
     split at ha
     ·rename_i t' l0 id
      split at ha
      ·rename_i xs ob F AX
       have Kn:((xs.map (D.C.cel e)).all fun c=>c.all AV.one)=true:=List.all_eq_true.2 fun y hy=>by
        obtain⟨a,_,rfl⟩:=List.mem_map.1 hy;exact hD.C.one e a
       split at ha
       ·rename_i l hl gY
        obtain⟨ht,rfl⟩:=iT hl
        subst ht
        cases ha
        have hb:dG (l0.length+xs.length) ei.bytes=true∧ob.getD true=true:=by simpa using jM
        have UJ:(l0.length+xs.length) * ei.bytes≤2 ^ 46:=by simpa[dG] using hb.1
        have FH:H id=.tail:=by rw[hH id (by simp),gY];rfl
        obtain⟨hS,Wb⟩:=Zn hD hW c3 hx AX (obD hb.2) (fun j hj=>hH j (by simp[hj]))
        have UK:aF g (.q9 ei.size (l0.map (D.C.cel t')) id) vs:=by rw[← c3];exact hs
        obtain⟨v,w',g',k1,k2,k3⟩:=YZ hD.E hW (hn (by simp)) h0 h1 Gv Gw he Ql Wb hS FH Kn UK (by simpa using UJ) ty
        exact⟨v,w',g',k1,by simp only[TV.den,Gf,c3,List.map_append];exact k2,k3⟩
       ·cases ha
      ·cases ha
     ·cases ha
   ·cases ha
  ·cases ha
 ·cases ha
def J4 (D:fA τ)(h:Nat→bD τ)(n:Nat)(mu:Bool)(ce:Nat)(ei xi:TI)(s x:TV τ):Option (jG τ) :=
    bif (ei.bytes==0) || Nat.blt 1048576 ei.bytes || !(D.C.sz ce==ei.size) then none else
    match re D h ce xi x with
    |some (xs,ob,F) =>
     match s with
     |.mS t id k=>bif Nat.beq t ce then (match h id with
      |.eD t' l=>(match Bh ce l with|some l=>some { r:=.mS ce n (k+xs.length),U:=[(id,.dead),(n,.eD ce (l.take k++xs))],F:=[id,n]++F,ob:=some ((dG (k+xs.length) ei.bytes&&Nat.ble k l.length)&&ob.getD true) } | none=>none)
      |_=>none) else none
     |.nG t id o k c nn=>bif Nat.beq t ce&&Nat.beq o 0 then (match h id with
      |.eD t' l=>(match Bh ce l with|some l=>some { r:=.nG ce n 0 (k+xs.length) (max c (k+xs.length)) (nn || Nat.blt 0 (k+xs.length)),U:=[(id,.dead),(n,.eD ce (l.take k++xs))],F:=[id,n]++F,ob:=some ((dG (k+xs.length) ei.bytes&&Nat.ble k l.length)&&ob.getD true) } | none=>none)
      |_=>none) else none
     |.nil .slice=>bif mu then some { r:=.mS ce n xs.length,U:=[(n,.eD ce xs)],F:=[n]++F,ob:=some (dG xs.length ei.bytes&&ob.getD true) } else some { r:=.sl ce xs (.own n),U:=[(n,.tail)],F:=[n]++F,ob:=some (dG xs.length ei.bytes&&ob.getD true) }
     |.sl _ [] .full=>bif mu then some { r:=.mS ce n xs.length,U:=[(n,.eD ce xs)],F:=[n]++F,ob:=some (dG xs.length ei.bytes&&ob.getD true) } else some { r:=.sl ce xs (.own n),U:=[(n,.tail)],F:=[n]++F,ob:=some (dG xs.length ei.bytes&&ob.getD true) }
     |.sl _ l .full=>(match Bh ce l with|some l=>some { r:=.sl ce (l++xs) (.own n),U:=[(n,.tail)],F:=[n]++F,ob:=some (dG (l.length+xs.length) ei.bytes&&ob.getD true) } | none=>none)
     |_=>none
    |none=>none
def QH (D:fA τ)(h:Nat→bD τ)(n:Nat)(mu:Bool)(ats:Array TypeId)(q:Nat)(s x:TV τ):Option (jG τ) :=
 match ats[0]?,ats[1]? with
 |some sT,some xT =>
  match D.E.ty sT,D.E.ty xT with
  |some ⟨.slice e,_,_,_⟩,some xi =>
   match D.E.ty e with
   |some ei =>
    J4 D h n mu (cT e q) ei xi s x
   |none=>none
  |_,_=>none
 |_,_=>none
theorem HK {D:fA τ}(hD:D.Ok){g:Gh}{H:Nat→dD}{w:World}(hW:eR g H w){h:Nat→bD τ}{n:Nat}{mu:Bool}{ats:Array TypeId}{q:Nat}{s x:TV τ}{vs vx:Value}(hs:aF g (s.den D.C) vs)(hx:aF g (x.den D.C) vx)
  {res:jG τ} (ha:QH D h n mu ats q s x=some res) (jM:res.ob=none∨res.ob=some true) (hH:∀ id∈res.F,H id=(h id).den D.C) (hn:n∈res.F→H n=.bX) (ty:TypeId) :
  ∃ v w' g',(Builtin.append_ ats ty #[vs,vx]).run D.E.P w=.ok v w'∧aF g' (res.r.den D.C) v∧fC g H w g' (app H (res.U.map fun p=>(p.1,p.2.den D.C))) w':=by
 unfold QH at ha
 split at ha
 ·rename_i sT xT h0 h1
  split at ha
  ·rename_i e s1 b1 z1 xi Gv Gw
   split at ha
   ·rename_i ei he
    generalize cT e q=ce at ha
    unfold J4 at ha
    cases hc:((ei.bytes==0) || Nat.blt 1048576 ei.bytes || !(D.C.sz ce==ei.size)) with
    |true=>rw[hc]at ha;cases ha
    |false =>
     rw[hc]at ha
     simp only[cond_false]at ha
     simp only[Bool.or_eq_false_iff,Bool.not_eq_false',beq_eq_false_iff_ne,beq_iff_eq]at hc
     obtain⟨⟨c1,c2⟩,c3⟩:=hc
     have Ql:¬ (ei.bytes=0∨2 ^ 20 < ei.bytes):=by
      rintro (h|h)
      ·exact c1 h
      ·have:Nat.blt 1048576 ei.bytes=true:=by simp only[Nat.blt,Nat.ble_eq];exact h
       rw[this]at c2;cases c2
     split at ha
     ·rename_i xs ob F AX
      have Kn:((xs.map (D.C.cel ce)).all fun c=>c.all AV.one)=true:=List.all_eq_true.2 fun y hy=>by
       obtain⟨a,_,rfl⟩:=List.mem_map.1 hy;exact hD.C.one ce a
      have hbl:∀ k,Nat.blt 0 k=decide (0 < k):=fun k=>by rw[Bool.eq_iff_iff];simp[Nat.blt,Nat.succ_le_iff]
      split at ha
      ·rename_i t id k
       cases ht:Nat.beq t ce with
       |false=>rw[ht]at ha;cases ha
       |true =>
        rw[ht]at ha
        simp only[cond_true]at ha
        have:=Nat.eq_of_beq_eq_true ht
        subst this
        split at ha
        ·rename_i t' l0 gY
         split at ha
         ·rename_i l hl
          obtain⟨jt,rfl⟩:=iT hl
          subst jt
          cases ha
          have hb:(dG (k+xs.length) ei.bytes=true∧Nat.ble k l0.length=true)∧ob.getD true=true:=by simpa using jM
          have UJ:(k+xs.length) * ei.bytes≤2 ^ 46:=by simpa[dG] using hb.1.1
          have hb2:k≤l0.length:=Nat.le_of_ble_eq_true hb.1.2
          obtain⟨hS,Wb⟩:=Zn hD hW c3 hx AX (obD hb.2) (fun j hj=>hH j (by simp[hj]))
          have FH:H id=.eD (l0.flatMap (D.C.cel t')):=by rw[hH id (by simp),gY];rfl
          obtain⟨v,w',g',k1,k2,k3⟩:=Rm hD.E hW (hn (by simp)) h0 h1 Gv Gw he Ql (K7 (show aF g (.Fk id 0 k ei.size) vs by rw[← c3];exact hs)) Wb hS FH
           (by rw[iZ hD.C,← c3];exact Nat.mul_le_mul_right _ hb2) Kn (by simpa using UJ) ty
          refine⟨v,w',g',k1,?_,?_⟩
          ·simp only[TV.den,c3];simpa using Vn k2
          ·simp only[app,List.map_cons,List.map_nil,bD.den]
           rw[← c3,IN hD.C _ _ hb2,oC]at k3
           rw[List.flatMap_append]
           exact k3
         ·cases ha
        ·cases ha
      ·rename_i t id o k c nn
       cases ht:(Nat.beq t ce&&Nat.beq o 0) with
       |false=>rw[ht]at ha;cases ha
       |true =>
        rw[ht]at ha
        simp only[cond_true]at ha
        simp only[Bool.and_eq_true]at ht
        have:=Nat.eq_of_beq_eq_true ht.1
        subst this
        have ho:=Nat.eq_of_beq_eq_true ht.2
        subst ho
        split at ha
        ·rename_i t' l0 gY
         split at ha
         ·rename_i l hl
          obtain⟨jt,rfl⟩:=iT hl
          subst jt
          cases ha
          have hb:(dG (k+xs.length) ei.bytes=true∧Nat.ble k l0.length=true)∧ob.getD true=true:=by simpa using jM
          have UJ:(k+xs.length) * ei.bytes≤2 ^ 46:=by simpa[dG] using hb.1.1
          have hb2:k≤l0.length:=Nat.le_of_ble_eq_true hb.1.2
          obtain⟨hS,Wb⟩:=Zn hD hW c3 hx AX (obD hb.2) (fun j hj=>hH j (by simp[hj]))
          have FH:H id=.eD (l0.flatMap (D.C.cel t')):=by rw[hH id (by simp),gY];rfl
          have UK:aF g (.nG id (0 * D.C.sz t') k c nn (D.C.sz t')) vs:=hs
          rw[Nat.zero_mul,c3]at UK
          obtain⟨v,w',g',k1,k2,k3⟩:=Rm hD.E hW (hn (by simp)) h0 h1 Gv Gw he Ql UK Wb hS FH
           (by rw[iZ hD.C,← c3];exact Nat.mul_le_mul_right _ hb2) Kn (by simpa using UJ) ty
          refine⟨v,w',g',k1,?_,?_⟩
          ·simp only[TV.den,c3,Nat.zero_mul,hbl];simpa using k2
          ·simp only[app,List.map_cons,List.map_nil,bD.den]
           rw[← c3,IN hD.C _ _ hb2,oC]at k3
           rw[List.flatMap_append]
           exact k3
         ·cases ha
        ·cases ha
      ·have hb:dG xs.length ei.bytes=true∧ob.getD true=true:=by cases mu<;>cases ha<;>simpa using jM
       have UJ:xs.length * ei.bytes≤2 ^ 46:=by simpa[dG] using hb.1
       obtain⟨hS,Wb⟩:=Zn hD hW c3 hx AX (obD hb.2) (fun j hj=>hH j (by cases mu<;>cases ha<;>simp[hj]))
       have UK:aF g (.v (.slice none 0 0)) vs:=hs
       cases UK
       cases mu with
       |false =>
        cases ha
        obtain⟨v,w',g',k1,k2,k3⟩:=Rl hD.E hW (hn (by simp)) (a:=none) (.inl rfl) h0 h1 Gv Gw he Ql Wb hS (by simpa using UJ) ty
        exact⟨v,w',g',k1,by simp only[TV.den,Gf,c3];exact k2,k3⟩
       |true =>
        cases ha
        obtain⟨v,w',g',k1,k2,k3⟩:=Rk hD.E hW (hn (by simp)) h0 h1 Gv Gw he Ql (a:=none) Wb hS (by simpa using UJ) ty
        refine⟨v,w',g',k1,by simp only[TV.den,c3];simpa using Vn k2,?_⟩
        simp only[app,List.map_cons,List.map_nil,bD.den]
        rw[oC]at k3;exact k3
      ·rename_i t
       have hb:dG xs.length ei.bytes=true∧ob.getD true=true:=by cases mu<;>cases ha<;>simpa using jM
       have UJ:xs.length * ei.bytes≤2 ^ 46:=by simpa[dG] using hb.1
       obtain⟨hS,Wb⟩:=Zn hD hW c3 hx AX (obD hb.2) (fun j hj=>hH j (by cases mu<;>cases ha<;>simp[hj]))
       have UK:aF g (.sl (D.C.sz t) [] .full) vs:=hs
       cases UK with
       |sl c e1 e2 e3 e4 e5 e6 =>
        rename_i b o len cap
        have Kl:cap=len:=e6
        have hl0:len=0:=by simpa using e1.symm
        subst Kl;subst hl0
        cases mu with
        |false =>
         cases ha
         obtain⟨v,w',g',k1,k2,k3⟩:=Rl hD.E hW (hn (by simp)) (a:=some ⟨b,o,none⟩) (.inr ⟨b,o,rfl⟩) h0 h1 Gv Gw he Ql Wb hS (by simpa using UJ) ty
         exact⟨v,w',g',k1,by simp only[TV.den,Gf,c3];exact k2,k3⟩
        |true =>
         cases ha
         obtain⟨v,w',g',k1,k2,k3⟩:=Rk hD.E hW (hn (by simp)) h0 h1 Gv Gw he Ql (a:=some ⟨b,o,none⟩) Wb hS (by simpa using UJ) ty
         refine⟨v,w',g',k1,by simp only[TV.den,c3];simpa using Vn k2,?_⟩
         simp only[app,List.map_cons,List.map_nil,bD.den]
         rw[oC]at k3;exact k3
      ·rename_i t' l0 _
       split at ha
       ·rename_i l hl
        obtain⟨ht,rfl⟩:=iT hl
        subst ht
        cases ha
        have hb:dG (l0.length+xs.length) ei.bytes=true∧ob.getD true=true:=by simpa using jM
        have UJ:(l0.length+xs.length) * ei.bytes≤2 ^ 46:=by simpa[dG] using hb.1
        obtain⟨hS,Wb⟩:=Zn hD hW c3 hx AX (obD hb.2) (fun j hj=>hH j (by simp[hj]))
        have UK:aF g (.sl ei.size (l0.map (D.C.cel t')) .full) vs:=by rw[← c3];exact hs
        obtain⟨v,w',g',k1,k2,k3⟩:=EW hD.E hW (hn (by simp)) h0 h1 Gv Gw he Ql Wb hS UK (by simpa using UJ) ty
        exact⟨v,w',g',k1,by simp only[TV.den,Gf,c3,List.map_append];exact k2,k3⟩
       ·cases ha
      ·cases ha
     ·cases ha
   ·cases ha
  ·cases ha
 ·cases ha
def Kh {α:Type}(l:List α)(o n:Nat)(d:α):List α:=l.take o++(List.replicate (min n (l.length - o)) d++l.drop (o+n))
def qw (D:fA τ)(h:Nat→bD τ)(ce:Nat)(ei:TI)(z:TV τ)(t' id o n:Nat):Option (jG τ) :=
   match h id with
   |.eD t2 l=>(match Bh ce l with
    |some l=>(match D.C.dec ce z with
     |some d=>bif Nat.beq t' ce&&(D.C.sz ce==ei.size) then some { r:=.jE [],U:=[(id,.eD ce (Kh l o n d))],F:=[id] } else none
     |none=>none)
    |none=>none)
   |_=>none
def T2 (D:fA τ)(h:Nat→bD τ)(ats:Array TypeId)(q:Nat)(x:TV τ):Option (jG τ) :=
 match ats.toList,asW x with
 |[t],some (t',id,o,n,c,nn) =>
  match D.E.ty t with
  |some ⟨.slice e,_,_,_⟩ =>
   match D.E.ty e,D.zero e with
   |some ei,some z=>qw D h (cT e q) ei z t' id o n
   |_,_=>none
  |_=>none
 |_,_=>none
theorem QI {D:fA τ}(hD:D.Ok){g:Gh}{H:Nat→dD}{w:World}(hW:eR g H w){h:Nat→bD τ}{ats:Array TypeId}{q:Nat}{x:TV τ}{vx:Value}(hx:aF g (x.den D.C) vx)
  {res:jG τ} (ha:T2 D h ats q x=some res) (hH:∀ id∈res.F,H id=(h id).den D.C) (ty:TypeId) :
  ∃ v w',(Builtin.clear_ ats ty #[vx]).run D.E.P w=.ok v w'∧aF g (res.r.den D.C) v∧fC g H w g (app H (res.U.map fun p=>(p.1,p.2.den D.C))) w':=by
 unfold T2 at ha
 split at ha
 ·rename_i t t' id o n c nn aAm hw
  have hat:ats=#[t]:=by apply Array.ext';simpa using aAm
  subst hat
  split at ha
  ·rename_i e s1 b1 z1 ht
   generalize hce:cT e q=ce at ha
   split at ha
   ·rename_i ei z he hz
    unfold qw at ha
    split at ha
    case h_2=>cases ha
    rename_i t2 l0 gY
    split at ha
    ·rename_i l1 hl
     obtain⟨ht2,rfl⟩:=iT hl
     subst ht2
     split at ha
     ·rename_i d hd
      cases hc:(Nat.beq t' t2&&(D.C.sz t2==ei.size)) with
      |false=>rw[hc]at ha;cases ha
      |true =>
       rw[hc]at ha
       simp only[cond_true,Option.some.injEq]at ha
       subst ha
       simp only[Bool.and_eq_true,beq_iff_eq]at hc
       obtain⟨c1,c3⟩:=hc
       have:=Nat.eq_of_beq_eq_true c1
       subst this
       obtain⟨i,hi,Hm,G0,Di⟩:=hD.zero e z hz
       rw[he]at hi;cases hi
       have hw0:CW ei.zero (D.C.cel t' d):=G0.trans (hD.C.dec t' z d hd)
       have Kn:∀ (g:Gh) (cs:List Value),cW g ei.zero cs→∀ c∈cs,c.oneCell'=true:=fun g cs hr=>Be (hw0.WD hr) (hD.C.one t' d)
       have FH:H id=.eD (l0.flatMap (D.C.cel t')):=by rw[hH id (by simp),gY];rfl
       have Lm:=NU hw hx
       rw[c3]at Lm
       have hF:=hD.E _ _ he
       have key:∀ (j:Nat) (x:AV),((Kh l0 o n d).flatMap (D.C.cel t'))[j]?=some x→((j < o * D.C.sz t'∨o * D.C.sz t'+n * ei.size≤j)∧(l0.flatMap (D.C.cel t'))[j]?=some x)∨(o * D.C.sz t'≤j∧j < o * D.C.sz t'+n * ei.size∧∀ a,(List.replicate n ei.zero).flatten[j - o * D.C.sz t']?=some a→∀ g v,aF g a v→aF g x v):=fun j x hj=>by
        have hA:((l0.take o).flatMap (D.C.cel t')).length=min o l0.length * ei.size:=by rw[iZ hD.C,List.length_take,c3]
        have hM:((List.replicate (min n (l0.length - o)) d).flatMap (D.C.cel t')).length=min n (l0.length - o) * ei.size:=by rw[iZ hD.C,List.length_replicate,c3]
        have e1:l0.flatMap (D.C.cel t')=(l0.take o).flatMap (D.C.cel t')++(l0.drop o).flatMap (D.C.cel t'):=by rw[← List.flatMap_append,List.take_append_drop]
        simp only[Kh,List.flatMap_append]at hj
        rw[List.getElem?_append]at hj
        split at hj
        ·rename_i nH
         left
         rw[hA]at nH
         have:min o l0.length * ei.size≤o * ei.size:=Nat.mul_le_mul_right _ (Nat.min_le_left _ _)
         refine⟨.inl (by rw[c3];omega),?_⟩
         rw[e1,List.getElem?_append_left (by rw[hA];exact nH)]
         exact hj
        ·rename_i w7
         rw[hA]at w7 hj
         rw[List.getElem?_append]at hj
         split at hj
         ·rename_i nH
          rw[hM]at nH
          have hm:0 < min n (l0.length - o):=by
           rcases Nat.eq_zero_or_pos (min n (l0.length - o)) with h0|h0
           ·rw[h0]at nH;omega
           ·exact h0
          have ho:min o l0.length=o:=by omega
          rw[ho]at w7 hj nH
          have hmn:min n (l0.length - o) * ei.size≤n * ei.size:=Nat.mul_le_mul_right _ (Nat.min_le_left _ _)
          refine .inr ⟨by rw[c3];omega,by rw[c3];omega,fun a ha g v hv=>?_⟩
          rw[c3]at ha
          have aAo:=CW.Ux hw0 n
          have hy:(List.replicate n (D.C.cel t' d)).flatten[j - o * ei.size]?=some x:=by
           have e2:List.replicate n (D.C.cel t' d)=List.replicate (min n (l0.length - o)) (D.C.cel t' d)++List.replicate (n - min n (l0.length - o)) (D.C.cel t' d):=by
            rw[List.replicate_append_replicate];congr 1;omega
           rw[e2,List.flatten_append,List.getElem?_append_left (by
            rw[← List.map_replicate,oC,hM];exact nH),← List.map_replicate,oC]
           exact hj
          exact aAo.2 _ _ _ ha hy g v hv
         ·rename_i aF5
          rw[hM]at aF5 hj
          left
          -- behind the window
          have dF:o+n < l0.length:=by
           rcases Nat.lt_or_ge (o+n) l0.length with h' | h'
           ·exact h'
           ·rw[List.drop_eq_nil_of_le h']at hj;simp at hj
          have ho:min o l0.length=o:=by omega
          have hm:min n (l0.length - o)=n:=by omega
          rw[ho]at w7 hj aF5
          rw[hm]at hj aF5
          refine⟨.inr (by rw[c3];omega),?_⟩
          have e3:l0.flatMap (D.C.cel t')=(l0.take (o+n)).flatMap (D.C.cel t')++(l0.drop (o+n)).flatMap (D.C.cel t'):=by rw[← List.flatMap_append,List.take_append_drop]
          have hL:((l0.take (o+n)).flatMap (D.C.cel t')).length=(o+n) * ei.size:=by rw[iZ hD.C,List.length_take,c3];congr 1;omega
          rw[e3,List.getElem?_append_right (by rw[hL,Nat.add_mul];omega),hL,Nat.add_mul,← Nat.sub_sub]
          exact hj
       obtain⟨w',k1,k2⟩:=aAf hD.E hW ht he Lm FH Kn (cells':=(Kh l0 o n d).flatMap (D.C.cel t'))
        (by
         rw[iZ hD.C,iZ hD.C]
         refine Nat.mul_le_mul_right _ ?_
         simp only[Kh,List.length_append,List.length_take,List.length_replicate,List.length_drop]
         omega) (by rw[c3]at key;exact key) ty
       exact⟨_,w',k1,.jE rfl (by simp),k2⟩
     ·cases ha
    ·cases ha
   ·cases ha
  ·cases ha
 ·cases ha
def db (D:fA τ)(h:Nat→bD τ)(n:Nat)(mu:Bool)(f:Callee)(ats:Array TypeId)(xs:List (TV τ)):Option (jG τ) :=
 match f,xs with
 |.builtin .len,[x]=>(match ats.toList with | [t]=>(match aGH D t x with|some k=>some { r:=.int .i64 (k:Int) } | none=>none) | _=>none)
 |.builtin .append,[s,x]=>(match n5 D h n mu ats s x with|some r=>some r|none=>match n7 D n mu ats s x with|some r=>some r|none=>match T0 D h n ats s x with|some r=>some r|none=>match m8 D h n ats s x with|some r=>some r|none=>match QH D h n mu ats 0 s x with|some r=>some r|none=>QH D h n mu ats 20000 s x)
 |.builtin .cap,[x]=>(match ats.toList with | [t]=>(match D.E.ty t,x with|some ⟨.slice _,_,_,_⟩,.nil .slice=>some { r:=.int .i64 0 } | _,_=>none) | _=>none)
 |.builtin .min,xs=>(match CQ false xs with|some v=>some { r:=v } | none=>none)
 |.builtin .max,xs=>(match CQ true xs with|some v=>some { r:=v } | none=>none)
 |.builtin .clear,[x]=>(match T2 D h ats 0 x with|some r=>some r|none=>T2 D h ats 20000 x)
 |_,_=>none
def isU8 (D:fA τ)(e:Nat):Bool:=match D.E.ty e with|some ⟨.int .u8,_,_,_⟩=>true|_=>false
def laid (D:fA τ)(n:Nat)(r:TV τ):jG τ :=
 match r with
 |.sl e (x :: l) .full=>bif isU8 D e then { r:=.sl e (x :: l) (.tl n),U:=[(n,.tail)],F:=[n] } else { r:=r }
 |r=>{ r:=r }
def aBG (D:fA τ)(h:Nat→bD τ)(s d:TypeId)(x:TV τ):Option (jG τ) :=
 match x with
 |.sl t l (.tl id)=>bif Nat.beq s d then (match D.E.ty s with
  |some ⟨.slice e,_,_,_⟩=>(match D.E.ty e,h id with
   |some ⟨.int .u8,_,_,_⟩,.tail=>some { r:=.sl t l .non,U:=[(id,.dead)],F:=[id] }
   |_,_=>none)
  |_=>none) else none
 |_=>none
theorem dj {D:fA τ}(hD:D.Ok){g:Gh}{H:Nat→dD}{w:World}(hW:eR g H w){h:Nat→bD τ}{s d:TypeId}{x:TV τ}{vx:Value}(hx:aF g (x.den D.C) vx){res:jG τ}
  (hr:aBG D h s d x=some res) (hH:∀ id∈res.F,H id=(h id).den D.C) :
  ∃ v w' g',(convert s d vx).run D.E.P w=.ok v w'∧aF g' (res.r.den D.C) v∧fC g H w g' (app H (res.U.map fun p=>(p.1,p.2.den D.C))) w':=by
 unfold aBG at hr
 split at hr
 ·rename_i t l id
  cases hsd:Nat.beq s d with
  |false=>rw[hsd]at hr;cases hr
  |true =>
   rw[hsd]at hr
   have:=Nat.eq_of_beq_eq_true hsd
   subst this
   simp only[cond_true]at hr
   split at hr
   ·rename_i e _ _ _ hs
    split at hr
    ·rename_i he gY
     cases hr
     have hid':H id=.tail:=by rw[hH id (by simp),gY];rfl
     obtain⟨w',h1,h2,h3⟩:=run_mark hD.E hW hs he hid' (show aF g (.sl _ _ (.tail id)) vx from hx)
     exact⟨vx,w',g,h1,h2,h3⟩
    ·cases hr
   ·cases hr
 ·cases hr
def aEw:SK→SK
 |.own id=>.q8 id
 |k=>k
def aAK:TV τ→TV τ
 |.sl t l k=>.sl t l (aEw k)
 |x=>x
mutual
def TV.DT:TV τ→TV τ
 |.agg l=>.agg (TV.pj l)
 |x=>x
def TV.pj:List (TV τ)→List (TV τ)
 |[]=>[]
 |x :: r=>aAK (TV.DT x) :: TV.pj r
end
theorem aAL (C:eY τ)(t:Nat)(l:List (τ t))(k:SK):Gf C t l (aEw k)=Gf C t l k:=by cases k<;>rfl
theorem au (C:eY τ)(x:TV τ):(aAK x).cells C=x.cells C:=by
 cases x with
 |sl t l k=>simp only[aAK,TV.cells,aAL]
 |_=>rfl
mutual
theorem kf (C:eY τ):∀ x:TV τ,x.DT.cells C=x.cells C
 |.agg l=>by simp only[TV.DT,TV.cells];exact FT C l
 |.int _ _ | .bool _ | .str _ | .nil _ | .arr _ _ _ | .sl _ _ _ | .ptr _ _ | .LY _ | .ls _ _ | .mS _ _ _ | .nG _ _ _ _ _ _ | .Bw _ _ _ _ _ _ | .qO _ _ _ | .kQ | .Ar _ | .fn _ _ | .jE _ | .yK _ _ _ _ | .aZ  => rfl
theorem FT (C:eY τ):∀ l:List (TV τ),TV.gL C (TV.pj l)=TV.gL C l
 |[]=>rfl
 |x :: r=>by
  simp only[TV.pj,TV.gL,FT C r,au,kf C x]
end
theorem aAM (C:eY τ)(x:TV τ):x.DT.den C=x.den C:=by
 cases x with
 |agg l=>simp only[TV.DT,TV.den,FT]
 |_=>rfl
def evT (D:fA τ)(h:Nat→bD τ)(n:Nat)(mu:Bool)(o:Op)(val:Operand→TV τ):Option (jG τ) :=
 match o with
 |.move x | .assign x=>some { r:=val x }
 |.alloc t=>(match D.zero t with|some z=>some { r:=.ptr n [],U:=[(n,.box z)],F:=[n] } | none=>none)
 |.box _ x=>bif (val x).ok then some { r:=.ptr n [],U:=[(n,.box (val x))],F:=[n] } else none
 |.build t ps=>(match ly D t (ps.toList.map fun p=>(p.1,val p.2)) with|some r=>some { r:=r } | none=>none)
 |.buildSlice t len ps=>(match (bif mu then qv D n t len (ps.toList.map fun p=>(p.1,val p.2)) else (match uX D t len 0 (ps.toList.map fun p=>(p.1,val p.2)) with|some r=>some (laid D n r) | none=>none)) with|some res=>some res|none=>(match uX D t len 20000 (ps.toList.map fun p=>(p.1,val p.2)) with|some r=>some { r:=r } | none=>match o0 D t len (ps.toList.map fun p=>(p.1,val p.2)) with|some r=>some { r:=r } | none=>none))
 |.load t a=>(match val a with
  |.ptr id (.el i s :: p)=>me D h t id i s p
  |a=>(match J5 D h t a with|some r=>some { r:=r.DT,F:=aHb a } | none=>none))
 |.store t a x=>(match val a with
  |.ptr id (.el i s :: p)=>T9 D h t id i s p (val x)
  |a=>(match mg D h t a (val x) with|some (id,e)=>some { r:=.aZ,U:=[(id,e)],F:=[id] } | none=>none))
 |.nilCheck x=>(match val x with | .ptr id p=>some { r:=.ptr id p } | .LY y=>some { r:=.LY y } | .fn f l=>some { r:=.fn f l } | _=>none)
 |.binOp op t x y _=>(match aBH D op t (val x) (val y) with|some r=>some r|none=>aGG D op t (val x) (val y))
 |.unOp op _ x=>(match tUn op (val x) with|some r=>some { r:=r } | none=>none)
 |.convert s d x=>(match aBG D h s d (val x) with|some r=>some r|none=>match lz D h s d (val x) with|some r=>some r|none=>aBC D n s d (val x))
 |.makeFunc (.func f) first captured=>bif first.isEmpty then some { r:=.fn f (captured.toList.map val) } else none
 |.slice t x lo hi mx=>(match T5 D h t (val x) (lo.map val) (hi.map val) (mx.map val) with|some r=>some r|none=>match aGI D mu t (val x) (lo.map val) (hi.map val) (mx.map val) with|some r=>some r|none=>mf D t (val x) (lo.map val) (hi.map val) (mx.map val))
 |.makeSlice t l c=>bif pq l c then aBF D n mu t (val l) else none
 |.fieldAddr t x k=>(match NG D t (val x) k with|some r=>some { r:=r } | none=>none)
 |.field t x k=>(match ma D t (val x) k with|some r=>some { r:=r } | none=>none)
 |.indexAddr t x ix=>NH D t (val x) (val ix)
 |.index t x ix=>mb D t (val x) (val ix)
 |.extract x k=>(match val x with | .jE l=>(match l[k]? with|some r=>some { r:=r } | none=>none) | _=>none)
 |.call c=>db D h n mu c.callee c.argTypes (c.args.toList.map val)
 |_=>none
theorem sy {D:fA τ}(hD:D.Ok){g:Gh}{H:Nat→dD}{w:World}(hW:eR g H w){h:Nat→bD τ}{n m:Nat}(hm:H m=.bX){mu:Bool}{o:Oper}{val:Operand→TV τ}{ρ:Operand→Value}
  (hv:∀ x∈eC o.op,aF g ((val x).den D.C) (ρ x)) {res:jG τ} (he:evT D h n mu o.op val=some res) (jM:res.ob=none∨res.ob=some true) (hH:∀ id∈res.F,H id=(h id).den D.C) (hn:n∈res.F→H n=.bX) :
  ∃ v w' g',aEU D.E ρ o w v w'∧aF g' (res.r.den D.C) v∧fC g H w g' (app H (res.U.map fun p=>(p.1,p.2.den D.C))) w':=by
 unfold evT at he
 split at he
 ·rename_i x ho
  cases he
  exact⟨_,w,g,.inl (by simp[execOp,ho]),hv x (by simp[ho,eC]),.refl hW⟩
 ·rename_i x ho
  cases he
  exact⟨_,w,g,.inl (by simp[execOp,ho]),hv x (by simp[ho,eC]),.refl hW⟩
 ·rename_i t ho
  split at he
  ·rename_i z hz
   cases he
   obtain⟨i,hi,Hm,G0,Di⟩:=hD.zero t z hz
   obtain⟨v,w',g',h1,h2,h3⟩:=u9 hD.E hW hi (hn (by simp))
   refine⟨v,w',g',.inl (by simp[execOp,ho,h1]),h2,h3.trans (fC.aDp h3.rel _ fun k=>?_)⟩
   simp only[app,List.map_cons,List.map_nil,bD.den]
   by_cases hk:k=n
   ·subst hk;right;exact⟨_,_,aP _ _ _,aP _ _ _,G0⟩
   ·left;rw[aM _ _ hk,aM _ _ hk]
  ·cases he
 ·rename_i t x ho
  cases hk:(val x).ok with
  |false=>rw[hk]at he;cases he
  |true =>
   rw[hk]at he
   simp only[cond_true,Option.some.injEq]at he
   subst he
   obtain⟨v,w',g',h1,h2,h3⟩:=Y9 (P:=D.E.P) hW t (hv x (by simp[ho,eC])) (Kg D.C hk) (hn (by simp))
   exact⟨v,w',g',.inl (by simp[execOp,ho,h1]),h2,h3⟩
 ·rename_i t ps ho
  split at he
  ·rename_i r hr
   cases he
   obtain⟨v,h1,h2⟩:=T1 hD (val:=val) (ρ:=ρ) (ps:=ps) (fun p hp=>hv p.2 (by simp[ho,eC];exact⟨p.1,hp⟩)) hr w
   exact⟨v,w,g,.inl (by simp only[execOp,ho,Sem.run_bind,h1,Result.andThen_ok,Sem.run_pure]),h2,.refl hW⟩
  ·cases he
 ·rename_i t len ps ho
  split at he
  ·rename_i HF fb
   cases he
   cases mu with
   |true =>
    simp only[cond_true]at fb
    unfold qv at fb
    split at fb
    ·rename_i e x l hr
     split at fb
     ·rename_i i hi
      cases ha:i.agg with
      |false=>rw[ha]at fb;cases fb
      |true =>
       rw[ha]at fb
       cases fb
       obtain⟨v,w',g',h1,h2,h3⟩:=ND hD hW (hn (by simp)) (val:=val) (ρ:=ρ) (ps:=ps) (fun p hp=>hv p.2 (by simp[ho,eC];exact⟨p.1,hp⟩)) hr
       exact⟨v,w',g',.inl (by simp only[execOp,ho,Sem.run_bind,h1,Result.andThen_ok,Sem.run_pure]),h2,h3⟩
     ·cases fb
    ·cases fb
   |false =>
   simp only[cond_false]at fb
   split at fb
   case h_2=>cases fb
   rename_i r hr
   cases fb
   have plain:∃ v w' g',aEU D.E ρ o w v w'∧aF g' (r.den D.C) v∧fC g H w g' H w':=by
    obtain⟨v,w',g',h1,h2,h3⟩:=Vm hD hW (val:=val) (ρ:=ρ) (ps:=ps) (fun p hp=>hv p.2 (by simp[ho,eC];exact⟨p.1,hp⟩)) hr
    exact⟨v,w',g',.inl (by simp only[execOp,ho,Sem.run_bind,h1,Result.andThen_ok,Sem.run_pure]),h2,h3⟩
   unfold laid at hn ⊢
   split at hn
   ·rename_i e x l
    cases hu:isU8 D e with
    |false=>exact plain
    |true =>
     rw[hu]at hn
     obtain⟨v,w',g',h1,h2,h3⟩:=NF hD hW (hn (by simp)) (val:=val) (ρ:=ρ) (ps:=ps) (fun p hp=>hv p.2 (by simp[ho,eC];exact⟨p.1,hp⟩)) hr
     exact⟨v,w',g',.inl (by simp only[execOp,ho,Sem.run_bind,h1,Result.andThen_ok,Sem.run_pure]),h2,h3⟩
   ·exact plain
  ·split at he
   ·rename_i r hr
    cases he
    obtain⟨v,w',g',h1,h2,h3⟩:=Vm hD hW (val:=val) (ρ:=ρ) (ps:=ps) (fun p hp=>hv p.2 (by simp[ho,eC];exact⟨p.1,hp⟩)) hr
    exact⟨v,w',g',.inl (by simp only[execOp,ho,Sem.run_bind,h1,Result.andThen_ok,Sem.run_pure]),h2,h3⟩
   split at he
   ·rename_i r hr
    cases he
    obtain⟨v,w',g',h1,h2,h3⟩:=o1 hD hW (val:=val) (ρ:=ρ) (ps:=ps) (fun p hp=>hv p.2 (by simp[ho,eC];exact⟨p.1,hp⟩)) hr
    exact⟨v,w',g',.inl (by simp only[execOp,ho,Sem.run_bind,h1,Result.andThen_ok,Sem.run_pure]),h2,h3⟩
   ·cases he
 ·rename_i t a ho
  have hva:=hv a (by simp[ho,eC])
  split at he
  ·rename_i id i s p haa
   rw[haa]at hva
   obtain⟨v,h1,h2,h3⟩:=T7 hD hW hH hva he jM
   exact⟨v,w,g,.inl (by simp[execOp,ho,h1]),h2,by rw[h3];exact .refl hW⟩
  ·split at he
   ·rename_i r hr
    cases he
    obtain⟨v,h1,h2⟩:=dg hD hW (fun id gY=>hH id gY) hva hr
    exact⟨v,w,g,.inl (by simp[execOp,ho,h1]),by rw[aAM];exact h2,.refl hW⟩
   ·cases he
 ·rename_i t a x ho
  have hva:=hv a (by simp[ho,eC])
  split at he
  ·rename_i id i s p haa
   rw[haa]at hva
   obtain⟨w',h1,h2,h3⟩:=C4 hD hW hH hva (hv x (by simp[ho,eC])) he jM
   exact⟨undef,w',g,.inr ⟨by simp[execOp,ho,h1],rfl⟩,by rw[h2];exact .aZ _,h3⟩
  ·split at he
   ·rename_i id e hr
    cases he
    obtain⟨w',h1,h2⟩:=U0 hD hW hr (hH id (by simp)) hva (hv x (by simp[ho,eC]))
    exact⟨undef,w',g,.inr ⟨by simp[execOp,ho,h1],rfl⟩,.aZ _,h2⟩
   ·cases he
 ·rename_i x ho
  have hx:=hv x (by simp[ho,eC])
  split at he
  ·rename_i id p hxx
   cases he
   rw[hxx]at hx
   obtain⟨hb,Lm⟩:=Fe (show aF g (yT id p) (ρ x) from hx)
   generalize gO:ρ x=vx at hx Lm
   cases Lm
   exact⟨_,w,g,.inl (by simp[execOp,ho,gO]),hx,.refl hW⟩
  ·rename_i y hxx
   cases he
   rw[hxx]at hx
   have fc:=hx
   simp only[TV.den]at hx
   generalize gO:ρ x=vx at hx fc
   cases hx
   exact⟨_,w,g,.inl (by simp[execOp,ho,gO]),fc,.refl hW⟩
  ·rename_i f l hxx
   cases he
   rw[hxx]at hx
   have fc:=hx
   simp only[TV.den]at hx
   generalize gO:ρ x=vx at hx fc
   cases hx
   exact⟨_,w,g,.inl (by simp[execOp,ho,gO]),fc,.refl hW⟩
  ·cases he
 ·rename_i op t x y yt ho
  split at he
  ·rename_i r hr
   cases he
   obtain⟨v,h1,h2,h3⟩:=dk hD (hv x (by simp[ho,eC])) (hv y (by simp[ho,eC])) hr jM x y w
   refine⟨v,w,g,.inl ?_,h2,by rw[h3];exact .refl hW⟩
   simp only[execOp,ho]
   rw[Sem.run_bind,h1]
   rfl
  obtain⟨v,h1,h2,h3⟩:=lx hD (hv x (by simp[ho,eC])) (hv y (by simp[ho,eC])) he jM x y w
  refine⟨v,w,g,.inl ?_,h2,by rw[h3];exact .refl hW⟩
  simp only[execOp,ho]
  rw[Sem.run_bind,h1]
  rfl
 ·rename_i op t x ho
  split at he
  ·rename_i r hr
   cases he
   obtain⟨v,h1,h2⟩:=vr (P:=D.E.P) (hv x (by simp[ho,eC])) hr w
   exact⟨v,w,g,.inl (by simp[execOp,ho,h1]),h2,.refl hW⟩
  ·cases he
 ·rename_i s d x ho
  split at he
  ·rename_i r hr
   cases he
   obtain⟨v,w',g',h1,h2,h3⟩:=dj hD hW (hv x (by simp[ho,eC])) hr hH
   exact⟨v,w',g',.inl (by simp[execOp,ho,h1]),h2,h3⟩
  ·split at he
   ·rename_i r hr
    cases he
    obtain⟨v,w',g',h1,h2,h3⟩:=T3 hD hW (hv x (by simp[ho,eC])) hr jM hH
    exact⟨v,w',g',.inl (by simp[execOp,ho,h1]),h2,h3⟩
   ·obtain⟨v,w',g',h1,h2,h3⟩:=de hD hW hm (hv x (by simp[ho,eC])) he hn
    exact⟨v,w',g',.inl (by simp[execOp,ho,h1]),h2,h3⟩
 ·rename_i f first captured ho
  cases aF2:first.isEmpty with
  |false=>rw[aF2]at he;cases he
  |true =>
   rw[aF2]at he
   simp only[cond_true,Option.some.injEq]at he
   subst he
   have hf:first=#[]:=by simpa using aF2
   subst hf
   refine⟨_,w,g,.inl (by simp only[execOp,ho,Instr.makeFunc,Sem.run_bind,Sem.run_pure,Result.andThen_ok,Array.map_empty];rfl),?_,.refl hW⟩
   simp only[TV.den,uT]
   refine .fn (by simp) fun k x c hx hc=>?_
   simp at hx hc
   obtain⟨y,hy,rfl⟩:=hx
   rw[hy]at hc
   simp at hc;subst hc
   exact hv y (by simp[ho,eC];exact Array.mem_of_getElem? hy)
 ·rename_i t x lo hi mx ho
  have aux:∀ (z:Option Operand),(∀ y,z=some y→y∈eC o.op)→∀ a,z.map val=some a→∃ v,z.map ρ=some v∧aF g (a.den D.C) v:=fun z hz a ha=>by
   cases z with
   |none=>simp at ha
   |some y=>simp at ha;subst ha;exact⟨_,rfl,hv y (hz y rfl)⟩
  have K6:∀ (z:Option Operand),z.map val=none→z.map ρ=none:=fun z hz=>by cases z<;>simp at hz ⊢
  split at he
  ·rename_i r hr
   cases he
   obtain⟨v,g',h1,h2,h3⟩:=C3 hD hW (hv x (by simp[ho,eC])) (K6 lo) (K6 hi) (K6 mx) hr hH
   exact⟨v,w,g',.inl (by simp[execOp,ho,h1]),h2,h3⟩
  split at he
  ·rename_i r hr
   cases he
   obtain⟨v,h1,h2,h3⟩:=mh hD (hv x (by simp[ho,eC])) (aux lo (fun y e=>by simp[ho,eC,e])) (K6 lo) (aux hi (fun y e=>by simp[ho,eC,e])) (K6 hi) (aux mx (fun y e=>by simp[ho,eC,e])) (K6 mx) hr jM w
   exact⟨v,w,g,.inl (by simp[execOp,ho,h1]),h2,by rw[h3];exact .refl hW⟩
  obtain⟨v,h1,⟨g',h2,h3⟩,h4⟩:=T8 hD hW (hv x (by simp[ho,eC])) (aux lo (fun y e=>by simp[ho,eC,e])) (K6 lo) (aux hi (fun y e=>by simp[ho,eC,e])) (K6 hi) (K6 mx) he jM
  exact⟨v,w,g',.inl (by simp[execOp,ho,h1]),h2,by rw[h4];exact h3⟩
 ·rename_i t l c ho
  cases hoe:pq l c with
  |false=>rw[hoe]at he;cases he
  |true =>
   rw[hoe]at he
   have:=aAY hoe
   subst this
   simp only[cond_true]at he
   obtain⟨v,w',g',h1,h2,h3⟩:=di hD hW (hv l (by simp[ho,eC])) he jM hn
   exact⟨v,w',g',.inl (by simp[execOp,ho,h1]),h2,h3⟩
 ·rename_i t x k ho
  split at he
  ·rename_i r hr
   cases he
   obtain⟨v,h1,h2⟩:=TF hD (hv x (by simp[ho,eC])) hr w
   exact⟨v,w,g,.inl (by simp[execOp,ho,h1]),h2,.refl hW⟩
  ·cases he
 ·rename_i t x k ho
  split at he
  ·rename_i r hr
   cases he
   obtain⟨v,h1,h2⟩:=T4 hD (hv x (by simp[ho,eC])) hr w
   exact⟨v,w,g,.inl (by simp[execOp,ho,h1]),h2,.refl hW⟩
  ·cases he
 ·rename_i t x ix ho
  obtain⟨v,h1,h2,h3⟩:=TH hD (hv x (by simp[ho,eC])) (hv ix (by simp[ho,eC])) he jM w
  exact⟨v,w,g,.inl (by simp[execOp,ho,h1]),h2,by rw[h3];exact .refl hW⟩
 ·rename_i t x ix ho
  obtain⟨v,h1,h2,h3⟩:=T6 hD (hv x (by simp[ho,eC])) (hv ix (by simp[ho,eC])) he jM w
  exact⟨v,w,g,.inl (by simp[execOp,ho,h1]),h2,by rw[h3];exact .refl hW⟩
 ·rename_i x k ho
  have hx:=hv x (by simp[ho,eC])
  split at he
  ·rename_i l hxx
   split at he
   ·rename_i r hr
    cases he
    rw[hxx]at hx
    simp only[TV.den,uT]at hx
    obtain⟨v,h1,h2⟩:=VX (P:=D.E.P) (k:=k) (r:=r.den D.C) hx (by simp[RF,hr]) w
    exact⟨v,w,g,.inl (by simp[execOp,ho,h1]),h2,.refl hW⟩
   ·cases he
  ·cases he
 ·rename_i c ho
  have iI:cW g (c.args.toList.map fun x=>(val x).den D.C) (c.args.toList.map ρ):=⟨by simp,fun k x v a b=>by
   simp at a b
   obtain⟨y,hy,rfl⟩:=a
   rw[hy]at b
   simp at b;subst b
   exact hv y (by simp only[ho,eC,List.mem_append];exact .inr (by simpa using Array.mem_of_getElem? hy))⟩
  have pR:c.args.map ρ=(c.args.toList.map ρ).toArray:=by apply Array.ext';simp
  have hmm:(c.args.toList.map fun x=>(val x).den D.C)=(c.args.toList.map val).map (TV.den D.C):=by simp
  rw[hmm]at iI
  generalize c.args.toList.map val=xs at he iI
  generalize pe:c.args.toList.map ρ=vs at iI
  rw[pe]at pR
  unfold db at he
  split at he
  ·rename_i x Rq
   obtain⟨vx,rfl⟩:∃ vx,vs=[vx]:=List.length_eq_one_iff.1 (by simpa using iI.1.symm)
   have hx:=iI.2 0 _ vx rfl rfl
   split at he
   ·rename_i t aAm
    split at he
    ·rename_i k hk
     cases he
     have h1:=mc hD hx hk o.type w
     have hat:c.argTypes=#[t]:=by apply Array.ext';simpa using aAm
     exact⟨_,w,g,.inl (by simp[execOp,ho,resolve,Rq,invoke,builtin,pR,hat,h1]),.v _,.refl hW⟩
    ·cases he
   ·cases he
  ·rename_i s x Rq
   obtain⟨vs',vx,rfl⟩:∃ a b,vs=[a,b]:=by
    have:=iI.1
    match vs,this with
    |[a,b],_=>exact⟨a,b,rfl⟩
   split at he
   ·rename_i r hr
    cases he
    obtain⟨v,w',g',h1,h2,h3⟩:=n6 hD hW (iI.2 0 _ vs' rfl rfl) (iI.2 1 _ vx rfl rfl) hr jM hH hn o.type
    exact⟨v,w',g',.inl (by simp[execOp,ho,resolve,Rq,invoke,builtin,pR,h1]),h2,h3⟩
   split at he
   ·rename_i r hr
    cases he
    obtain⟨v,w',g',h1,h2,h3⟩:=n8 hD hW (iI.2 0 _ vs' rfl rfl) (iI.2 1 _ vx rfl rfl) hr jM hn o.type
    exact⟨v,w',g',.inl (by simp[execOp,ho,resolve,Rq,invoke,builtin,pR,h1]),h2,h3⟩
   split at he
   ·rename_i r hr
    cases he
    obtain⟨v,w',g',h1,h2,h3⟩:=C2 hD hW (iI.2 0 _ vs' rfl rfl) (iI.2 1 _ vx rfl rfl) hr jM hH hn o.type
    exact⟨v,w',g',.inl (by simp[execOp,ho,resolve,Rq,invoke,builtin,pR,h1]),h2,h3⟩
   split at he
   ·rename_i r hr
    cases he
    obtain⟨v,w',g',h1,h2,h3⟩:=m9 hD hW (iI.2 0 _ vs' rfl rfl) (iI.2 1 _ vx rfl rfl) hr jM hH hn o.type
    exact⟨v,w',g',.inl (by simp[execOp,ho,resolve,Rq,invoke,builtin,pR,h1]),h2,h3⟩
   split at he
   ·rename_i r hr
    cases he
    obtain⟨v,w',g',h1,h2,h3⟩:=HK hD hW (iI.2 0 _ vs' rfl rfl) (iI.2 1 _ vx rfl rfl) hr jM hH hn o.type
    exact⟨v,w',g',.inl (by simp[execOp,ho,resolve,Rq,invoke,builtin,pR,h1]),h2,h3⟩
   obtain⟨v,w',g',h1,h2,h3⟩:=HK hD hW (iI.2 0 _ vs' rfl rfl) (iI.2 1 _ vx rfl rfl) he jM hH hn o.type
   exact⟨v,w',g',.inl (by simp[execOp,ho,resolve,Rq,invoke,builtin,pR,h1]),h2,h3⟩
  ·rename_i x Rq
   obtain⟨vx,rfl⟩:∃ vx,vs=[vx]:=List.length_eq_one_iff.1 (by simpa using iI.1.symm)
   have hx:=iI.2 0 _ vx rfl rfl
   split at he
   ·rename_i t aAm
    split at he
    ·rename_i e s1 b1 z1 ht
     cases he
     have Lm:aF g (.v (.slice none 0 0)) vx:=hx
     cases Lm
     have h1:=aFJ hD.E ht o.type w
     have hat:c.argTypes=#[t]:=by apply Array.ext';simpa using aAm
     exact⟨_,w,g,.inl (by simp[execOp,ho,resolve,Rq,invoke,builtin,pR,hat,h1]),.v _,.refl hW⟩
    ·cases he
   ·cases he
  ·rename_i xs' Rq
   split at he
   ·rename_i r hr
    cases he
    obtain⟨v,Yg,tx⟩:=o2 (C:=D.C) hr
    have h1:=EY (P:=D.E.P) iI Yg c.argTypes o.type w
    simp only[Bool.false_eq_true,if_false]at h1
    exact⟨v,w,g,.inl (by simp[execOp,ho,resolve,Rq,invoke,builtin,pR,h1]),by rw[tx];exact .v _,.refl hW⟩
   ·cases he
  ·rename_i xs' Rq
   split at he
   ·rename_i r hr
    cases he
    obtain⟨v,Yg,tx⟩:=o2 (C:=D.C) hr
    have h1:=EY (P:=D.E.P) iI Yg c.argTypes o.type w
    simp only[if_true]at h1
    exact⟨v,w,g,.inl (by simp[execOp,ho,resolve,Rq,invoke,builtin,pR,h1]),by rw[tx];exact .v _,.refl hW⟩
   ·cases he
  ·rename_i x Rq
   obtain⟨vx,rfl⟩:∃ vx,vs=[vx]:=List.length_eq_one_iff.1 (by simpa using iI.1.symm)
   split at he
   ·rename_i r hr
    cases he
    obtain⟨v,w',h1,h2,h3⟩:=QI hD hW (iI.2 0 _ vx rfl rfl) hr hH o.type
    exact⟨v,w',g,.inl (by simp[execOp,ho,resolve,Rq,invoke,builtin,pR,h1]),h2,h3⟩
   obtain⟨v,w',h1,h2,h3⟩:=QI hD hW (iI.2 0 _ vx rfl rfl) he hH o.type
   exact⟨v,w',g,.inl (by simp[execOp,ho,resolve,Rq,invoke,builtin,pR,h1]),h2,h3⟩
  ·cases he
 ·cases he
end
end Go.Ev
