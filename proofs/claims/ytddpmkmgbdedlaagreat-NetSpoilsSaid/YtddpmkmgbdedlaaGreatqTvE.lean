/-
The typed layer: conversions,cuts,the small builtins,and all operations together.
-/
import Derived.Test.YtddpmkmgbdedlaaGreatqTvD
set_option linter.unusedVariables false
set_option linter.unusedSimpArgs false
namespace Go.Ev
open Go
section
variable {τ:Nat→Type}
def eF {t:Nat} (e:Nat) (l:List (τ t)):Option (List (τ e)):=if h:t=e then some (h▸l) else none
theorem fZ {t e:Nat} {l:List (τ t)} {r:List (τ e)} (h:eF e l=some r):∃ h:t=e,r=h▸l:=by
 unfold eF at h
 split at h
 ·rename_i ht; exact ⟨ht,(Option.some.inj h).symm⟩
 ·cases h
def aJp (D:TEnv τ) (n:Nat) (src dst:TypeId) (x:TV τ):Option (bG τ) :=
 match D.E.ty src,D.E.ty dst,x with
 | some _,some ⟨.int k,_,_,_⟩,.int _ m=>some { r:=.int k (k.wrap m) }
 | some _,some ⟨.string,_,_,_⟩,.str s=>some { r:=.str s }
 | some _, some ⟨.slice e, _, _, _⟩, .str s =>
  match D.E.ty e,D.C.s2b e s with
  | some ⟨.int .u8,_,_,_⟩,some l=>some { r:=.sl e l (.own n),U:=[(n,.tail)],F:=[n] }
  | _,_=>none
 | some ⟨.slice e, _, _, _⟩, some ⟨.string, _, _, _⟩, .sl t l _ =>
  match D.E.ty e,D.C.b2s t l with
  | some ⟨.int .u8,_,_,_⟩,some s=>some { r:=.str s }
  | _,_=>none
 | _,_,_=>none
theorem aV6 {D:TEnv τ} (hD:D.Ok) {g:Gh} {H:Nat→Ent} {w:World} (hW:WRel g H w) {n m:Nat} (hm:H m=.unborn) {src dst:TypeId} {x:TV τ} {vx:Value} (hx:VRel g (x.den D.C) vx) {res:bG τ}
  (h:aJp D n src dst x=some res) (hn:n∈res.F→H n=.unborn) :
  ∃ v w' g',(convert src dst vx).run D.E.P w=.ok v w'∧VRel g' (res.r.den D.C) v∧Evo g H w g' (app H (res.U.map fun p=>(p.1,p.2.den D.C))) w':=by
 unfold aJp at h
 split at h
 ·rename_i i0 k s b z k0 m0 hs hd
  cases h
  obtain ⟨v,w',g',h1,h2,h3⟩:=aBd hD.E hW hm hx (src:=src) (dst:=dst) (res:={ r:=.v (.int k (k.wrap m0)) }) (by unfold tW; simp only [hs,hd,TV.den])
  exact ⟨v,w',g',h1,h2,h3⟩
 ·rename_i i0 s b z s0 hs hd
  cases h
  obtain ⟨v,w',g',h1,h2,h3⟩:=aBd hD.E hW hm hx (src:=src) (dst:=dst) (res:={ r:=.v (.string ⟨⟨s0⟩⟩) }) (by unfold tW; simp only [hs,hd,TV.den])
  exact ⟨v,w',g',h1,h2,h3⟩
 ·rename_i i0 e s b z s0 hs hd
  split at h
  ·rename_i s1 b1 z1 l he hl
   cases h
   obtain ⟨hz,hl'⟩:=hD.C.s2b e s0 l hl
   obtain ⟨v,w',g',h1,h2,h3⟩:=aBd hD.E hW (hn (by simp)) hx (src:=src) (dst:=dst) (res:={ r:=.sl 1 (iF ⟨⟨s0⟩⟩) (.tail n),U:=[(n,.tail)] }) (by unfold tW; simp only [hs,hd,he,TV.den])
   refine ⟨v,w',g',h1,?_,h3⟩
   simp only [TV.den,cW,hz,hl']
   exact .gslT h2
  ·cases h
 ·rename_i e s b z s2 b2 z2 t l kk hs hd
  split at h
  ·rename_i s1 b1 z1 s0 he hl
   cases h
   obtain ⟨hz,hl'⟩:=hD.C.b2s t l s0 hl
   have hx':=wA D.C t l kk g vx hx
   rw [hz] at hx'
   obtain ⟨v,w',g',h1,h2,h3⟩:=aBd hD.E hW hm hx' (src:=src) (dst:=dst) (res:={ r:=.v (.string ⟨s0.toArray⟩) }) (by unfold tW; simp only [hs,hd,he,hl'])
   exact ⟨v,w',g',h1,h2,h3⟩
  ·cases h
 ·cases h
def lQ (x:Option (TV τ)) (d:Int):Option Int :=
 match x with
 | none=>some d
 | some (.int _ i)=>some i
 | _=>none
def gA (l h n:Int):Bool:=decide (0≤l)&&(decide (l≤h)&&decide (h≤n))
theorem aJq {l h n:Int} (hb:gA l h n=true):0≤l∧l≤h∧h≤n:=by simpa [gA] using hb
def aJr (D:TEnv τ) (t:TypeId) (x:TV τ) (lo hi mx:Option (TV τ)):Option (bG τ) :=
 match D.E.ty t,x with
 | some ⟨.string, _, _, _⟩, .str s =>
  match lQ lo 0,lQ hi s.length,mx with
  | some l,some h,none=>some { r:=.str (cut s l h),ob:=some (gA l h s.length) }
  | _,_,_=>none
 | some ⟨.slice e, _, _, _⟩, .sl t' s k =>
  match D.E.ty e,lQ lo 0,lQ hi s.length,mx with
  | some ei,some l,some h,none=>bif D.C.sz t'==ei.size then some { r:=.sl t' (cut s l h) .any,ob:=some (gA l h s.length) } else none
  | _,_,_,_=>none
 | some ⟨.slice e, _, _, _⟩, .nil .slice =>
  match D.E.ty e,lQ lo 0,lQ hi 0,mx with
  | some _,some l,some h,none=>some { r:=.nil .slice,ob:=some (l==0&&h==0) }
  | _,_,_,_=>none
 | some ⟨.slice e, _, _, _⟩, .msl t' id n =>
  match D.E.ty e,lo,hi,mx with
  | some ei,none,some (.int _ h),none=>bif D.C.sz t'==ei.size then some { r:=.msl t' id h.toNat,ob:=some (gA 0 h n) } else none
  | _,_,_,_=>none
 | _,_=>none
theorem aV7 {α β:Type} (f:α→β) (l:List α) (i j:Int):(cut l i j).map f=cut (l.map f) i j:=by simp [cut,List.map_drop,List.map_take]
theorem nV {C:Cod τ} {x:Option (TV τ)} {d i:Int} (h:lQ x d=some i):bnd (x.map (TV.den C)) d=some i:=by
 unfold lQ at h
 split at h
 ·simpa [bnd] using h
 ·simpa [bnd,TV.den] using h
 ·cases h
theorem aV8 {D:TEnv τ} (hD:D.Ok) {g:Gh} {H:Nat→Ent} {w:World} (hW:WRel g H w) {t:TypeId} {x:TV τ} {lo hi mx:Option (TV τ)} {vx:Value} {vlo vhi vmx:Option Value} (hx:VRel g (x.den D.C) vx)
  (hlo:∀ a,lo=some a→∃ v,vlo=some v∧VRel g (a.den D.C) v) (hlo':lo=none→vlo=none) (hhi:∀ a,hi=some a→∃ v,vhi=some v∧VRel g (a.den D.C) v) (hhi':hi=none→vhi=none)
  (hmx':mx=none→vmx=none) {res:bG τ} (h:aJr D t x lo hi mx=some res) (hob:res.ob=none∨res.ob=some true) :
  ∃ v,(Instr.sliceAt t vx vlo vhi vmx).run D.E.P w=.ok v w∧(∃ g',VRel g' (res.r.den D.C) v∧Evo g H w g' H w)∧res.U=[]:=by
 have main:∀ {x':AV} {r:AV} {ob:Prop},VRel g x' vx→mx=none→mH D.E H t x' (lo.map (TV.den D.C)) (hi.map (TV.den D.C)) none=some { r:=r,ob:=ob }→ob→W r (res.r.den D.C)→res.U=[] →
   ∃ v,(Instr.sliceAt t vx vlo vhi vmx).run D.E.P w=.ok v w∧(∃ g',VRel g' (res.r.den D.C) v∧Evo g H w g' H w)∧res.U=[]:=fun {x' r ob} hx' hmn he hob hw hU=>by
  have fixm:∀ {z:Option (TV τ)} {vz:Option Value},(∀ a,z=some a→∃ v,vz=some v∧VRel g (a.den D.C) v)→∀ a,z.map (TV.den D.C)=some a→∃ v,vz=some v∧VRel g a v:=fun {z vz} hz a ha=>by
   cases z with
   | none=>simp at ha
   | some y=>simp at ha; subst ha; exact hz y rfl
  obtain ⟨v,g',h1,h2,h3⟩:=aLF hD.E hW hx' (fixm hlo) (fun e=>hlo' (by simpa using e)) (fixm hhi) (fun e=>hhi' (by simpa using e)) (mx:=none) (vmx:=vmx) (by simp) (fun _=>hmx' hmn) he hob
  exact ⟨v,h1,⟨g',hw g' v h2,h3⟩,hU⟩
 unfold aJr at h
 split at h
 ·rename_i sz b z s ht
  split at h
  ·rename_i l hh hl1 hl2
   cases h
   have hb:=aJq (show gA l hh s.length=true by simpa using hob)
   refine main hx rfl (r:=.v (.string ⟨(cut s l hh).toArray⟩)) (ob:=0≤l∧l≤hh∧hh≤s.length) ?_ hb (.refl _) rfl
   unfold mH
   simp only [ht,TV.den,nV hl1]
   have:=nV (C:=D.C) hl2
   simp only [this]
  ·cases h
 ·rename_i e sz b z t' s k ht
  split at h
  ·rename_i ei l hh he hl1 hl2
   cases hc:D.C.sz t'==ei.size with
   | false=>rw [hc] at h; cases h
   | true =>
    rw [hc] at h
    simp only [cond_true,Option.some.injEq] at h
    subst h
    have hc':D.C.sz t'=ei.size:=by simpa using hc
    have hb:=aJq (show gA l hh s.length=true by simpa using hob)
    refine main (wA D.C t' s k g vx hx) rfl (r:=.asl (D.C.sz t') (cut (s.map (D.C.cel t')) l hh)) (ob:=0≤l∧l≤hh∧hh≤(s.map (D.C.cel t')).length) ?_ (by simpa using hb) ?_ rfl
    ·unfold mH
     have h2:=nV (C:=D.C) hl2
     simp only [ht,nV hl1,List.length_map,h2,he,Option.map_some,hc',if_true]
    ·simp only [TV.den,cW,aV7]; exact .refl _
  ·cases h
 ·rename_i e sz b z ht
  split at h
  ·rename_i i0 l hh he hl1 hl2
   cases h
   have hb:l=0∧hh=0:=by simpa using hob
   refine main hx rfl (r:=.v (.slice none 0 0)) (ob:=l=0∧hh=0) ?_ hb (.refl _) rfl
   unfold mH
   simp only [ht,TV.den,NilK.val,he,nV hl1,nV hl2]
  ·cases h
 ·rename_i e sz b z t' id n ht
  split at h
  ·rename_i ei k hh he
   cases hc:D.C.sz t'==ei.size with
   | false=>rw [hc] at h; cases h
   | true =>
    rw [hc] at h
    simp only [cond_true,Option.some.injEq] at h
    subst h
    have hc':D.C.sz t'=ei.size:=by simpa using hc
    have hb:=aJq (show gA 0 hh n=true by simpa using hob)
    obtain ⟨vh,rfl,hvh⟩:=hhi _ rfl
    have e1:=hlo' rfl
    have e3:=hmx' rfl
    subst e1; subst e3
    obtain ⟨v,h1,h2⟩:=aQt hD.E ht he (show VRel g (.bsl id 0 n ei.size) vx by rw [← hc']; exact hx) (show VRel g (.v (.int k hh)) vh from hvh) hb.2.1 hb.2.2 w
    exact ⟨v,h1,⟨g,by rw [← hc'] at h2; exact h2,.refl hW⟩,rfl⟩
  ·cases h
 ·cases h
def aJs (D:TEnv τ) (h:Nat→TEnt τ) (t:TypeId) (x:TV τ) (lo hi mx:Option (TV τ)):Option (bG τ) :=
 match D.E.ty t,lo,hi,mx with
 | some ⟨.array n e, _, _, _⟩, none, none, none =>
  match D.E.ty e,x with
  | some ei, .ptr id p =>
   match h id with
   | .box X=>(match X.sub D.C p with | some (.arr t' n' v)=>(bif n==n'&&D.C.sz t'==ei.size then some { r:=.sl t' v.toList .full,U:=[(id,.ibox X)],F:=[id] } else none) | _=>none)
   | .ibox X=>(match X.sub D.C p with | some (.arr t' n' v)=>(bif n==n'&&D.C.sz t'==ei.size then some { r:=.sl t' v.toList .full,F:=[id] } else none) | _=>none)
   | _=>none
  | some ei,.ipt (.arr t' n' v)=>bif n==n'&&D.C.sz t'==ei.size then some { r:=.sl t' v.toList .full } else none
  | _,_=>none
 | _,_,_,_=>none
theorem aJt {C:Cod τ} (hC:C.Ok) {t n:Nat} (v:Vector (τ t) n) {cells:List AV} {off:Nat} (h:rd cells off (n * C.sz t)=v.toList.flatMap (C.cel t)):cN cells off n (C.sz t)=v.toList.map (C.cel t):=by
 apply List.ext_getElem?
 intro i
 rcases Nat.lt_or_ge i n with hi | hi
 ·rw [List.getElem?_map]
  simp only [cN,List.getElem?_map,List.getElem?_range hi,Option.map_some]
  have hv:v.toList[i]?=some v[i]:=by simp [hi]
  rw [hv]
  simp only [Option.map_some,Option.some.injEq]
  have hm:i * C.sz t+C.sz t≤n * C.sz t:=by rw [← Nat.succ_mul]; exact Nat.mul_le_mul_right _ hi
  rw [← aCT _ _ _ _ _ hm,h,vY hC v.toList i (by simpa using hi) v[i]]
  simp [List.getD,hv]
 ·rw [List.getElem?_eq_none (by simp [cN]; exact hi),List.getElem?_eq_none (by simp; exact hi)]
theorem aV9 {D:TEnv τ} (hD:D.Ok) {g:Gh} {H:Nat→Ent} {w:World} (hW:WRel g H w) {h:Nat→TEnt τ} {t:TypeId} {x:TV τ} {lo hi mx:Option (TV τ)} {vx:Value} {vlo vhi vmx:Option Value} (hx:VRel g (x.den D.C) vx)
  (hlo':lo=none→vlo=none) (hhi':hi=none→vhi=none) (hmx':mx=none→vmx=none) {res:bG τ} (hr:aJs D h t x lo hi mx=some res) (hH:∀ id∈res.F,H id=(h id).den D.C) :
  ∃ v g',(Instr.sliceAt t vx vlo vhi vmx).run D.E.P w=.ok v w∧VRel g' (res.r.den D.C) v∧Evo g H w g' (app H (res.U.map fun p=>(p.1,p.2.den D.C))) w:=by
 unfold aJs at hr
 split at hr
 ·rename_i n e s b z ht
  have e1:=hlo' rfl
  have e2:=hhi' rfl
  have e3:=hmx' rfl
  subst e1; subst e2; subst e3
  have fin:∀ {x':AV} {r:AV} {U:List (Nat×Ent)},VRel g x' vx→mH D.E H t x' none none none=some { r:=r,U:=U }→∃ v g',(Instr.sliceAt t vx none none none).run D.E.P w=.ok v w∧VRel g' r v∧Evo g H w g' (app H U) w:=fun {x' r U} hx' he=>by
   obtain ⟨v,g',h1,h2,h3⟩:=aLF hD.E hW hx' (lo:=none) (hi:=none) (mx:=none) (vlo:=none) (vhi:=none) (vmx:=none) (by simp) (fun _=>rfl) (by simp) (fun _=>rfl) (by simp) (fun _=>rfl) he trivial
   exact ⟨v,g',h1,h2,h3⟩
  split at hr
  ·rename_i ei id p he
   obtain ⟨hb,hx'⟩:=kO hx
   split at hr
   ·rename_i X hX
    split at hr
    ·rename_i t' n' v hv
     cases hc:(n==n'&&D.C.sz t'==ei.size) with
     | false=>rw [hc] at hr; cases hr
     | true =>
      rw [hc] at hr
      simp only [cond_true,Option.some.injEq] at hr
      subst hr
      simp only [Bool.and_eq_true,beq_iff_eq] at hc
      obtain ⟨c1,c2⟩:=hc
      subst c1
      obtain ⟨h1,h2⟩:=vZ hD.C p X _ hv hb
      simp only [TV.size,TV.cells] at h1 h2
      have hid:=hH id (by simp)
      rw [hX] at hid
      simp only [TEnt.den] at hid
      obtain ⟨v',g',k1,k2,k3⟩:=fin hx' (r:=.sl ei.size (cN (X.cells D.C) (bM p) n ei.size) .full) (U:=[(id,.ibox (X.cells D.C))]) (by
       unfold mH
       simp only [ht,he,hid]
       rw [if_pos (by rw [dO hD.C,← c2]; exact h2)])
      refine ⟨v',g',k1,?_,k3⟩
      rw [← c2,aJt hD.C v h1] at k2
      exact k2
    ·cases hr
   ·rename_i X hX
    split at hr
    ·rename_i t' n' v hv
     cases hc:(n==n'&&D.C.sz t'==ei.size) with
     | false=>rw [hc] at hr; cases hr
     | true =>
      rw [hc] at hr
      simp only [cond_true,Option.some.injEq] at hr
      subst hr
      simp only [Bool.and_eq_true,beq_iff_eq] at hc
      obtain ⟨c1,c2⟩:=hc
      subst c1
      obtain ⟨h1,h2⟩:=vZ hD.C p X _ hv hb
      simp only [TV.size,TV.cells] at h1 h2
      have hid:=hH id (by simp)
      rw [hX] at hid
      simp only [TEnt.den] at hid
      obtain ⟨v',g',k1,k2,k3⟩:=fin hx' (r:=.sl ei.size (cN (X.cells D.C) (bM p) n ei.size) .full) (U:=[]) (by
       unfold mH
       simp only [ht,he,hid]
       rw [if_pos (by rw [dO hD.C,← c2]; exact h2)])
      refine ⟨v',g',k1,?_,k3⟩
      rw [← c2,aJt hD.C v h1] at k2
      exact k2
    ·cases hr
   ·cases hr
  ·rename_i ei t' n' v he
   cases hc:(n==n'&&D.C.sz t'==ei.size) with
   | false=>rw [hc] at hr; cases hr
   | true =>
    rw [hc] at hr
    simp only [cond_true,Option.some.injEq] at hr
    subst hr
    simp only [Bool.and_eq_true,beq_iff_eq] at hc
    obtain ⟨c1,c2⟩:=hc
    subst c1
    obtain ⟨v',g',k1,k2,k3⟩:=fin (x':=.iptr (v.toList.flatMap (D.C.cel t')) 0) (by simpa [TV.den,TV.cells] using hx) (r:=.sl ei.size (cN (v.toList.flatMap (D.C.cel t')) 0 n ei.size) .full) (U:=[]) (by
     unfold mH
     simp only [ht,he]
     rw [if_pos (by rw [aI8 hD.C,← c2]; omega)])
    refine ⟨v',g',k1,?_,k3⟩
    have h1:rd (v.toList.flatMap (D.C.cel t')) 0 (n * D.C.sz t')=v.toList.flatMap (D.C.cel t'):=by
     rw [← aI8 hD.C v]; simp only [rd,List.drop_zero]; exact List.take_length
    rw [← c2,aJt hD.C v h1] at k2
    exact k2
  ·cases hr
 ·cases hr
def tLen (D:TEnv τ) (t:TypeId) (x:TV τ):Option Nat :=
 match D.E.ty t,x with
 | some ⟨.string,_,_,_⟩,.str s=>some s.length
 | some ⟨.slice _,_,_,_⟩,.sl _ l _=>some l.length
 | some ⟨.slice _,_,_,_⟩,.nil .slice=>some 0
 | some ⟨.slice _,_,_,_⟩,.ls _ l=>some l.length
 | some ⟨.slice _,_,_,_⟩,.msl _ _ n=>some n
 | some ⟨.slice _,_,_,_⟩,.wsl _ _ _ n _ _=>some n
 | some ⟨.array n _,_,_,_⟩,_=>some n
 | _,_=>none
theorem aWa {D:TEnv τ} (hD:D.Ok) {g:Gh} {t:TypeId} {x:TV τ} {vx:Value} (hx:VRel g (x.den D.C) vx) {n:Nat} (h:tLen D t x=some n) (ty:TypeId) (w:World) :
  (Builtin.len_ #[t] ty #[vx]).run D.E.P w=.ok (.int .i64 n) w:=by
 unfold tLen at h
 split at h
 ·rename_i ht; cases h; exact qZ hD.E hx (by unfold nK; simp only [ht,TV.den]) ty w
 ·rename_i t' l k ht
  cases h
  exact qZ hD.E (wA D.C t' l k g vx hx) (by unfold nK; simp only [ht]; simp) ty w
 ·rename_i ht; cases h; exact qZ hD.E hx (by unfold nK; simp only [ht,TV.den,NilK.val]) ty w
 ·rename_i ht; cases h; exact qZ hD.E hx (by unfold nK; simp only [ht,TV.den,aAe,List.length_map]) ty w
 ·rename_i ht; cases h; exact qZ hD.E hx (by unfold nK; simp only [ht,TV.den]) ty w
 ·rename_i ht; cases h; exact evLenW hD.E ht hx ty w
 ·rename_i ht; cases h; exact qZ hD.E hx (by unfold nK; simp only [ht]) ty w
 ·cases h
def tSrc (D:TEnv τ) (e:Nat) (xi:TI) (x:TV τ):Option (List (τ e)) :=
 match xi.d,x with
 | .slice _,.sl _ l _=>eF e l
 | .slice _,.nil .slice=>some []
 | .string,.str s=>D.C.s2b e s
 | _,_=>none
theorem aJu {D:TEnv τ} (hD:D.Ok) {g:Gh} {e:Nat} {ei xi:TI} (hei:D.C.sz e=ei.size) {x:TV τ} {vx:Value} (hx:VRel g (x.den D.C) vx) {l:List (τ e)} (h:tSrc D e xi x=some l) :
  ∃ x',VRel g x' vx∧iU ei xi x'=some (l.map (D.C.cel e)):=by
 unfold tSrc at h
 split at h
 ·rename_i t l0 k ht
  obtain ⟨he,hl⟩:=fZ h
  subst he; subst hl
  exact ⟨_,wA D.C _ l k g vx hx,by unfold iU; simp only [ht,if_pos hei]⟩
 ·rename_i t ht
  cases h
  exact ⟨_,hx,by unfold iU; simp only [ht,TV.den,NilK.val]; rfl⟩
 ·rename_i s ht
  obtain ⟨hz,hl⟩:=hD.C.s2b e s l h
  refine ⟨_,hx,?_⟩
  unfold iU
  simp only [ht,TV.den]
  rw [if_pos (by rw [← hei]; exact hz),hl]; rfl
 ·cases h
def aO (n k:Nat):Bool:=decide (n * k≤70368744177664)
def aJv (D:TEnv τ) (h:Nat→TEnt τ) (n:Nat) (ats:Array TypeId) (s x:TV τ):Option (bG τ) :=
 match ats[0]?,ats[1]? with
 | some sT, some xT =>
  match D.E.ty sT,D.E.ty xT with
  | some ⟨.slice e, _, _, _⟩, some xi =>
   match D.E.ty e with
   | some ei =>
    bif (ei.bytes==0) || Nat.blt 1048576 ei.bytes || !(D.C.sz e==ei.size) then none else
    match tSrc D e xi x with
    | some xs =>
     match s with
     | .nil .slice=>some { r:=.sl e xs (.own n),U:=[(n,.tail)],F:=[n],ob:=some (aO xs.length ei.bytes) }
     | .sl _ l .full=>(match eF e l with | some l=>some { r:=.sl e (l++xs) (.own n),U:=[(n,.tail)],F:=[n],ob:=some (aO (l.length+xs.length) ei.bytes) } | none=>none)
     | .sl _ l (.own id)=>(match eF e l,h id with | some l,.tail=>some { r:=.sl e (l++xs) (.own n),U:=[(id,.dead),(n,.tail)],F:=[id,n],ob:=some (aO (l.length+xs.length) ei.bytes) } | _,_=>none)
     | _=>none
    | none=>none
   | none=>none
  | _,_=>none
 | _,_=>none
theorem aWb {g:Gh} {sz n:Nat} {el xs:List (List AV)} {v:Value} (h:VRel g (bif xs.isEmpty then .sl sz el .full else .sl sz (el++xs) (.tail n)) v):VRel g (.gsl sz (el++xs) n) v:=by
 cases xs with
 | nil=>rw [List.append_nil]; exact .gslF h
 | cons y ys=>exact .gslT h
theorem aWc {g:Gh} {sz n:Nat} {xs:List (List AV)} {v:Value} (h:VRel g (bif xs.isEmpty then .v (.slice none 0 0) else .sl sz xs (.tail n)) v):VRel g (.gsl sz xs n) v:=by
 cases xs with
 | nil=>simp only [List.isEmpty_nil,cond_true] at h; cases h; exact .gslN
 | cons y ys=>exact .gslT h
theorem aWd {D:TEnv τ} (hD:D.Ok) {g:Gh} {H:Nat→Ent} {w:World} (hW:WRel g H w) {h:Nat→TEnt τ} {n:Nat} {ats:Array TypeId} {s x:TV τ} {vs vx:Value} (hs:VRel g (s.den D.C) vs) (hx:VRel g (x.den D.C) vx)
  {res:bG τ} (ha:aJv D h n ats s x=some res) (hob:res.ob=none∨res.ob=some true) (hH:∀ id∈res.F,H id=(h id).den D.C) (hn:n∈res.F→H n=.unborn) (ty:TypeId) :
  ∃ v w' g',(Builtin.append_ ats ty #[vs,vx]).run D.E.P w=.ok v w'∧VRel g' (res.r.den D.C) v∧Evo g H w g' (app H (res.U.map fun p=>(p.1,p.2.den D.C))) w':=by
 unfold aJv at ha
 split at ha
 ·rename_i sT xT h0 h1
  split at ha
  ·rename_i e s1 b1 z1 xi hsT hxT
   split at ha
   ·rename_i ei he
    cases hc:((ei.bytes==0) || Nat.blt 1048576 ei.bytes || !(D.C.sz e==ei.size)) with
    | true=>rw [hc] at ha; cases ha
    | false =>
     rw [hc] at ha
     simp only [cond_false] at ha
     simp only [Bool.or_eq_false_iff,Bool.not_eq_false',beq_eq_false_iff_ne,beq_iff_eq] at hc
     obtain ⟨⟨c1,c2⟩,c3⟩:=hc
     have hby:¬ (ei.bytes=0∨2 ^ 20 < ei.bytes):=by
      rintro (h | h)
      ·exact c1 h
      ·have:Nat.blt 1048576 ei.bytes=true:=by simp only [Nat.blt,Nat.ble_eq]; exact h
       rw [this] at c2; cases c2
     split at ha
     ·rename_i xs hxs
      obtain ⟨x',hx',hsrc⟩:=aJu hD c3 hx hxs
      have hone:((xs.map (D.C.cel e)).all fun c=>c.all AV.one)=true:=List.all_eq_true.2 fun y hy=>by
       obtain ⟨a,_,rfl⟩:=List.mem_map.1 hy; exact hD.C.one e a
      split at ha
      ·cases ha
       have hb:xs.length * ei.bytes≤2 ^ 46:=by simpa [aO] using hob
       obtain ⟨v,w',g',k1,k2,k3⟩:=aFb hD.E hW (hn (by simp)) hs hx' (ats:=ats) (res:={ r:=bif (xs.map (D.C.cel e)).isEmpty then .v (.slice none 0 0) else .sl ei.size (xs.map (D.C.cel e)) (.tail n),U:=[(n,.tail)],ob:=(xs.map (D.C.cel e)).length * ei.bytes≤2 ^ 46 })
        (by unfold xV; simp only [TV.den,NilK.val]; unfold lH; simp only [h0,h1,hsT,hxT,he,if_neg hby,hsrc]) (by simpa using hb) ty
       refine ⟨v,w',g',k1,?_,k3⟩
       simp only [TV.den,cW,c3]
       exact aWc k2
      ·rename_i t' l0
       split at ha
       ·rename_i l hl
        obtain ⟨ht,rfl⟩:=fZ hl
        subst ht
        cases ha
        have hb:(l0.length+xs.length) * ei.bytes≤2 ^ 46:=by simpa [aO] using hob
        obtain ⟨v,w',g',k1,k2,k3⟩:=aFb hD.E hW (hn (by simp)) hs hx' (ats:=ats) (res:={ r:=bif (xs.map (D.C.cel t')).isEmpty then .sl (D.C.sz t') (l0.map (D.C.cel t')) .full else .sl (D.C.sz t') (l0.map (D.C.cel t')++xs.map (D.C.cel t')) (.tail n),U:=[(n,.tail)],ob:=((l0.map (D.C.cel t')).length+(xs.map (D.C.cel t')).length) * ei.bytes≤2 ^ 46 })
         (by unfold xV; simp only [TV.den,cW]; unfold lH; simp only [h0,h1,hsT,hxT,he,if_neg hby,hsrc,c3,if_true]) (by simpa using hb) ty
        refine ⟨v,w',g',k1,?_,k3⟩
        simp only [TV.den,cW,List.map_append]
        exact aWb k2
       ·cases ha
      ·rename_i t' l0 id
       split at ha
       ·rename_i l hl hid
        obtain ⟨ht,rfl⟩:=fZ hl
        subst ht
        cases ha
        have hb:(l0.length+xs.length) * ei.bytes≤2 ^ 46:=by simpa [aO] using hob
        have hHid:H id=.tail:=by rw [hH id (by simp),hid]; rfl
        obtain ⟨v,w',g',k1,k2,k3⟩:=aFb hD.E hW (hn (by simp)) hs hx' (ats:=ats) (res:={ r:=.gsl (D.C.sz t') (l0.map (D.C.cel t')++xs.map (D.C.cel t')) n,U:=[(id,.dead),(n,.tail)],ob:=((l0.map (D.C.cel t')).length+(xs.map (D.C.cel t')).length) * ei.bytes≤2 ^ 46 })
         (by unfold xV; simp only [TV.den,cW,h0,h1,hsT,hxT,he,if_neg hby,hsrc,c3,hHid,hone,and_self,if_true]) (by simpa using hb) ty
        refine ⟨v,w',g',k1,?_,k3⟩
        simp only [TV.den,cW,List.map_append]
        exact k2
       ·cases ha
      ·cases ha
     ·cases ha
   ·cases ha
  ·cases ha
 ·cases ha
def aJw (D:TEnv τ) (h:Nat→TEnt τ) (n:Nat) (mu:Bool) (ats:Array TypeId) (s x:TV τ):Option (bG τ) :=
 match ats[0]?,ats[1]? with
 | some sT, some xT =>
  match D.E.ty sT,D.E.ty xT with
  | some ⟨.slice e, _, _, _⟩, some xi =>
   match D.E.ty e with
   | some ei =>
    bif (ei.bytes==0) || Nat.blt 1048576 ei.bytes || !(D.C.sz e==ei.size) then none else
    match tSrc D e xi x with
    | some xs =>
     match s with
     | .sl t l (.brw id)=>bif Nat.beq t e then (match h id with | .tail=>some { r:=.any1,F:=[id],ob:=some (aO (l.length+xs.length) ei.bytes) } | _=>none) else none
     | .msl t id k => bif Nat.beq t e then (match h id with
      | .gbx t' l=>(match eF e l with | some l=>some { r:=.msl e n (k+xs.length),U:=[(id,.dead),(n,.gbx e (l.take k++xs))],F:=[id,n],ob:=some (aO (k+xs.length) ei.bytes&&Nat.ble k l.length) } | none=>none)
      | _=>none) else none
     | .nil .slice=>bif mu then some { r:=.msl e n xs.length,U:=[(n,.gbx e xs)],F:=[n],ob:=some (aO xs.length ei.bytes) } else none
     | .sl _ [] .full=>bif mu then some { r:=.msl e n xs.length,U:=[(n,.gbx e xs)],F:=[n],ob:=some (aO xs.length ei.bytes) } else none
     | _=>none
    | none=>none
   | none=>none
  | _,_=>none
 | _,_=>none
theorem lR (C:Cod τ) (e:Nat) (l:List (τ e)):(l.map (C.cel e)).flatten=l.flatMap (C.cel e):=by rw [List.flatMap]
theorem aCZ {C:Cod τ} (hC:C.Ok) {e:Nat}:∀ (l:List (τ e)) (k:Nat),k≤l.length→(l.flatMap (C.cel e)).take (k * C.sz e)=(l.take k).flatMap (C.cel e)
 | l,0,_=>by simp
 | [],k+1,h=>by simp at h
 | x :: l, k + 1, h => by
  have ih:=aCZ hC l k (by simpa using h)
  rw [List.flatMap_cons,List.take_succ_cons,List.flatMap_cons,← ih,Nat.succ_mul,Nat.add_comm,List.take_add,← hC.len e x]
  simp
theorem aWe {D:TEnv τ} (hD:D.Ok) {g:Gh} {H:Nat→Ent} {w:World} (hW:WRel g H w) {h:Nat→TEnt τ} {n:Nat} {mu:Bool} {ats:Array TypeId} {s x:TV τ} {vs vx:Value} (hs:VRel g (s.den D.C) vs) (hx:VRel g (x.den D.C) vx)
  {res:bG τ} (ha:aJw D h n mu ats s x=some res) (hob:res.ob=none∨res.ob=some true) (hH:∀ id∈res.F,H id=(h id).den D.C) (hn:n∈res.F→H n=.unborn) (ty:TypeId) :
  ∃ v w' g',(Builtin.append_ ats ty #[vs,vx]).run D.E.P w=.ok v w'∧VRel g' (res.r.den D.C) v∧Evo g H w g' (app H (res.U.map fun p=>(p.1,p.2.den D.C))) w':=by
 unfold aJw at ha
 split at ha
 ·rename_i sT xT h0 h1
  split at ha
  ·rename_i e s1 b1 z1 xi hsT hxT
   split at ha
   ·rename_i ei he
    cases hc:((ei.bytes==0) || Nat.blt 1048576 ei.bytes || !(D.C.sz e==ei.size)) with
    | true=>rw [hc] at ha; cases ha
    | false =>
     rw [hc] at ha
     simp only [cond_false] at ha
     simp only [Bool.or_eq_false_iff,Bool.not_eq_false',beq_eq_false_iff_ne,beq_iff_eq] at hc
     obtain ⟨⟨c1,c2⟩,c3⟩:=hc
     have hby:¬ (ei.bytes=0∨2 ^ 20 < ei.bytes):=by
      rintro (h | h)
      ·exact c1 h
      ·have:Nat.blt 1048576 ei.bytes=true:=by simp only [Nat.blt,Nat.ble_eq]; exact h
       rw [this] at c2; cases c2
     split at ha
     ·rename_i xs hxs
      obtain ⟨x',hx',hsrc⟩:=aJu hD c3 hx hxs
      have hone:((xs.map (D.C.cel e)).all fun c=>c.all AV.one)=true:=List.all_eq_true.2 fun y hy=>by
       obtain ⟨a,_,rfl⟩:=List.mem_map.1 hy; exact hD.C.one e a
      split at ha
      ·rename_i t l id
       cases ht:Nat.beq t e with
       | false=>rw [ht] at ha; cases ha
       | true =>
        rw [ht] at ha
        simp only [cond_true] at ha
        have:=Nat.eq_of_beq_eq_true ht
        subst this
        split at ha
        ·rename_i hid
         cases ha
         have hb:(l.length+xs.length) * ei.bytes≤2 ^ 46:=by simpa [aO] using hob
         have hHid:H id=.tail:=by rw [hH id (by simp),hid]; rfl
         obtain ⟨v,w',g',k1,k2,k3⟩:=aQk hD.E hW h0 h1 hsT hxT he hby (show VRel g (.gsl ei.size (l.map (D.C.cel t)) id) vs by rw [← c3]; exact hs) hx' hsrc hHid hone (by simpa using hb) ty
         exact ⟨v,w',g',k1,k2,k3⟩
        ·cases ha
      ·rename_i t id k
       cases ht:Nat.beq t e with
       | false=>rw [ht] at ha; cases ha
       | true =>
        rw [ht] at ha
        simp only [cond_true] at ha
        have:=Nat.eq_of_beq_eq_true ht
        subst this
        split at ha
        ·rename_i t' l0 hid
         split at ha
         ·rename_i l hl
          obtain ⟨ht',rfl⟩:=fZ hl
          subst ht'
          cases ha
          have hb:aO (k+xs.length) ei.bytes=true∧Nat.ble k l0.length=true:=by simpa using hob
          have hb1:(k+xs.length) * ei.bytes≤2 ^ 46:=by simpa [aO] using hb.1
          have hb2:k≤l0.length:=Nat.le_of_ble_eq_true hb.2
          have hHid:H id=.gbx (l0.flatMap (D.C.cel t')):=by rw [hH id (by simp),hid]; rfl
          obtain ⟨v,w',g',k1,k2,k3⟩:=aQl hD.E hW (hn (by simp)) h0 h1 hsT hxT he hby (show VRel g (.bsl id 0 k ei.size) vs by rw [← c3]; exact hs) hx' hsrc hHid
           (by rw [jQ hD.C,← c3]; exact Nat.mul_le_mul_right _ hb2) hone (by simpa using hb1) ty
          refine ⟨v,w',g',k1,?_,?_⟩
          ·simp only [TV.den,c3]; simpa using k2
          ·simp only [app,List.map_cons,List.map_nil,TEnt.den]
           rw [← c3,aCZ hD.C _ _ hb2,lR] at k3
           rw [List.flatMap_append]
           exact k3
         ·cases ha
        ·cases ha
      ·cases mu with
       | false=>cases ha
       | true =>
        cases ha
        have hb:xs.length * ei.bytes≤2 ^ 46:=by simpa [aO] using hob
        have hs':VRel g (.v (.slice none 0 0)) vs:=hs
        cases hs'
        obtain ⟨v,w',g',k1,k2,k3⟩:=aLN hD.E hW (hn (by simp)) h0 h1 hsT hxT he hby hx' hsrc (by simpa using hb) ty
        refine ⟨v,w',g',k1,by simp only [TV.den,c3]; simpa using k2,?_⟩
        simp only [app,List.map_cons,List.map_nil,TEnt.den]
        rw [lR] at k3; exact k3
      ·rename_i t
       cases mu with
       | false=>cases ha
       | true =>
        cases ha
        have hb:xs.length * ei.bytes≤2 ^ 46:=by simpa [aO] using hob
        have hs':VRel g (.sl (D.C.sz t) [] .full) vs:=hs
        cases hs' with
        | sl c e1 e2 e3 e4 e5 e6 =>
         rename_i b o len cap
         have hcap:cap=len:=e6
         have hl0:len=0:=by simpa using e1.symm
         subst hcap; subst hl0
         obtain ⟨v,w',g',k1,k2,k3⟩:=aLN hD.E hW (hn (by simp)) h0 h1 hsT hxT he hby hx' hsrc (by simpa using hb) ty
         refine ⟨v,w',g',k1,by simp only [TV.den,c3]; simpa using k2,?_⟩
         simp only [app,List.map_cons,List.map_nil,TEnt.den]
         rw [lR] at k3; exact k3
      ·cases ha
     ·cases ha
   ·cases ha
  ·cases ha
 ·cases ha
def aC0:Operand→Operand→Bool
 | .tmp a,.tmp b=>Nat.beq a b
 | .const (.int .i64 a),.const (.int .i64 b)=>a==b
 | _,_=>false
theorem aWf {x y:Operand} (h:aC0 x y=true):x=y:=by
 unfold aC0 at h
 split at h
 ·rw [Nat.eq_of_beq_eq_true h]
 ·rw [eq_of_beq h]
 ·cases h
def mkB (a:Int) (b:Nat):Bool:=decide (0≤a)&&(decide (a * b≤70368744177664)&&decide (a≤9223372036854775807))
def aJx (D:TEnv τ) (n:Nat) (mu:Bool) (t:TypeId) (x:TV τ):Option (bG τ) :=
 match D.E.ty t,x with
 | some ⟨.slice e, _, _, _⟩, .int _ a =>
  match D.E.ty e,D.zero e with
  | some ei, some z => (match D.C.dec e z with
   | some d=>bif D.C.sz e==ei.size then (bif mu then some { r:=.msl e n a.toNat,U:=[(n,.gbx e (List.replicate a.toNat d))],F:=[n],ob:=some (mkB a ei.bytes) }
     else some { r:=.sl e (List.replicate a.toNat d) .full,ob:=some (mkB a ei.bytes) }) else none
   | none=>none)
  | _,_=>none
 | _,_=>none
theorem CW.flatten_rep {a b:List AV} (h:CW a b):∀ n:Nat,CW (List.replicate n a).flatten (List.replicate n b).flatten
 | 0=>.refl []
 | n+1=>by rw [List.replicate_succ,List.replicate_succ,List.flatten_cons,List.flatten_cons]; exact h.append (CW.flatten_rep h n)
theorem aWg {D:TEnv τ} (hD:D.Ok) {g:Gh} {H:Nat→Ent} {w:World} (hW:WRel g H w) {n:Nat} {mu:Bool} {t:TypeId} {x:TV τ} {vx:Value} (hx:VRel g (x.den D.C) vx) {res:bG τ} (hr:aJx D n mu t x=some res)
  (hob:res.ob=none∨res.ob=some true) (hn:n∈res.F→H n=.unborn) :
  ∃ v w' g',(Instr.makeSlice t vx vx).run D.E.P w=.ok v w'∧VRel g' (res.r.den D.C) v∧Evo g H w g' (app H (res.U.map fun p=>(p.1,p.2.den D.C))) w':=by
 unfold aJx at hr
 split at hr
 ·rename_i e s1 b1 z1 k a ht
  have hx':VRel g (.v (.int k a)) vx:=hx
  cases hx'
  split at hr
  ·rename_i ei z he hz
   split at hr
   ·rename_i d hd
    cases hc:D.C.sz e==ei.size with
    | false=>rw [hc] at hr; cases hr
    | true =>
     rw [hc] at hr
     simp only [cond_true] at hr
     have hc':D.C.sz e=ei.size:=by simpa using hc
     obtain ⟨i,hi,hok,hcw,hagg⟩:=hD.zero e z hz
     rw [he] at hi; cases hi
     have hw0:CW ei.zero (D.C.cel e d):=hcw.trans (hD.C.dec e z d hd)
     cases mu with
     | false =>
      cases hr
      have hb:mkB a ei.bytes=true:=by simpa using hob
      simp only [mkB,Bool.and_eq_true,decide_eq_true_eq] at hb
      obtain ⟨v,w',g',k1,k2,k3⟩:=aQq hD.E hW ht he (kl:=k) (kc:=k) hb.1 hb.2.2 hb.2.1
      refine ⟨v,w',g',k1,?_,k3⟩
      simp only [TV.den,cW,hc',List.map_replicate]
      refine W.sl (by simp) (fun i p q hp hq=>?_) g' v k2
      rw [List.getElem?_replicate] at hp hq
      split at hp
      ·rename_i hlt
       rw [if_pos hlt] at hq
       cases hp; cases hq; exact hw0
      ·cases hp
     | true =>
      cases hr
      have hb:mkB a ei.bytes=true:=by simpa using hob
      simp only [mkB,Bool.and_eq_true,decide_eq_true_eq] at hb
      obtain ⟨v,w',g',k1,k2,k3⟩:=aQr hD.E hW (hn (by simp)) ht he (kl:=k) (kc:=k) hb.1 hb.2.2 hb.2.1
      refine ⟨v,w',g',k1,by simp only [TV.den,hc']; exact k2,?_⟩
      simp only [app,List.map_cons,List.map_nil,TEnt.den]
      have hcw2:CW (List.replicate a.toNat ei.zero).flatten ((List.replicate a.toNat d).flatMap (D.C.cel e)):=by
       rw [← lR,List.map_replicate]; exact CW.flatten_rep hw0 _
      have:=Evo.weakG k3.rel (id:=n) (aR _ _ _) hcw2
      have e3:upd (upd H n (.gbx (List.replicate a.toNat ei.zero).flatten)) n (.gbx ((List.replicate a.toNat d).flatMap (D.C.cel e)))=upd H n (.gbx ((List.replicate a.toNat d).flatMap (D.C.cel e))):=by
       funext j
       by_cases hj:j=n
       ·subst hj; rw [aR,aR]
       ·rw [aJ _ _ hj,aJ _ _ hj,aJ _ _ hj]
      rw [e3] at this
      exact k3.trans this
   ·cases hr
  ·cases hr
 ·cases hr
def aJy (D:TEnv τ) (n:Nat) (mu:Bool) (ats:Array TypeId) (s x:TV τ):Option (bG τ) :=
 match mu,s,x,ats[0]?,ats[1]? with
 | true, .nil .slice, .int _ a, some sT, some xT =>
  match D.E.ty sT,D.E.ty xT with
  | some ⟨.slice e, _, _, _⟩, some ⟨.int _, _, _, _⟩ =>
   match D.E.ty e,D.zero e with
   | some ei, some z => (match D.C.dec e z with
    | some d=>bif (ei.bytes==0) || Nat.blt 1048576 ei.bytes || !(D.C.sz e==ei.size) then none else some { r:=.msl e n a.toNat,U:=[(n,.gbx e (List.replicate a.toNat d))],F:=[n],ob:=some (mkB a ei.bytes) }
    | none=>none)
   | _,_=>none
  | _,_=>none
 | _,_,_,_,_=>none
theorem aWh {D:TEnv τ} (hD:D.Ok) {g:Gh} {H:Nat→Ent} {w:World} (hW:WRel g H w) {n:Nat} {mu:Bool} {ats:Array TypeId} {s x:TV τ} {vs vx:Value} (hs:VRel g (s.den D.C) vs) (hx:VRel g (x.den D.C) vx) {res:bG τ} (hr:aJy D n mu ats s x=some res)
  (hob:res.ob=none∨res.ob=some true) (hn:n∈res.F→H n=.unborn) (ty:TypeId) :
  ∃ v w' g',(Builtin.append_ ats ty #[vs,vx]).run D.E.P w=.ok v w'∧VRel g' (res.r.den D.C) v∧Evo g H w g' (app H (res.U.map fun p=>(p.1,p.2.den D.C))) w':=by
 unfold aJy at hr
 split at hr
 ·rename_i k a sT xT h0 h1
  have hx':VRel g (.v (.int k a)) vx:=hx
  cases hx'
  have hs':VRel g (.v (.slice none 0 0)) vs:=hs
  cases hs'
  split at hr
  ·rename_i e s1 b1 z1 kx s2 b2 z2 hsT hxT
   split at hr
   ·rename_i ei z he hz
    split at hr
    ·rename_i d hd
     cases hc:((ei.bytes==0) || Nat.blt 1048576 ei.bytes || !(D.C.sz e==ei.size)) with
     | true=>rw [hc] at hr; cases hr
     | false =>
      rw [hc] at hr
      simp only [cond_false] at hr
      simp only [Bool.or_eq_false_iff,Bool.not_eq_false',beq_eq_false_iff_ne,beq_iff_eq] at hc
      obtain ⟨⟨c1,c2⟩,hc'⟩:=hc
      have hby:¬ (ei.bytes=0∨2 ^ 20 < ei.bytes):=by
       rintro (h | h)
       ·exact c1 h
       ·have:Nat.blt 1048576 ei.bytes=true:=by simp only [Nat.blt,Nat.ble_eq]; exact h
        rw [this] at c2; cases c2
      obtain ⟨i,hi,hok,hcw,hagg⟩:=hD.zero e z hz
      rw [he] at hi; cases hi
      have hw0:CW ei.zero (D.C.cel e d):=hcw.trans (hD.C.dec e z d hd)
      cases hr
      have hb:mkB a ei.bytes=true:=by simpa using hob
      simp only [mkB,Bool.and_eq_true,decide_eq_true_eq] at hb
      obtain ⟨v,w',g',k1,k2,k3⟩:=aQs hD.E hW (hn (by simp)) h0 h1 hsT hxT rfl he hby (kl:=k) hb.1 hb.2.2 hb.2.1 ty
      refine ⟨v,w',g',k1,by simp only [TV.den,hc']; exact k2,?_⟩
      simp only [app,List.map_cons,List.map_nil,TEnt.den]
      have hcw2:CW (List.replicate a.toNat ei.zero).flatten ((List.replicate a.toNat d).flatMap (D.C.cel e)):=by
       rw [← lR,List.map_replicate]; exact CW.flatten_rep hw0 _
      have:=Evo.weakG k3.rel (id:=n) (aR _ _ _) hcw2
      have e3:upd (upd H n (.gbx (List.replicate a.toNat ei.zero).flatten)) n (.gbx ((List.replicate a.toNat d).flatMap (D.C.cel e)))=upd H n (.gbx ((List.replicate a.toNat d).flatMap (D.C.cel e))):=by
       funext j
       by_cases hj:j=n
       ·subst hj; rw [aR,aR]
       ·rw [aJ _ _ hj,aJ _ _ hj,aJ _ _ hj]
      rw [e3] at this
      exact k3.trans this
    ·cases hr
   ·cases hr
  ·cases hr
 ·cases hr
def sM (mx:Bool):List (TV τ)→Option (TV τ)
 | .int k a :: r=>go k a r
 | _=>none
where
 go (k:IntKind) (a:Int):List (TV τ)→Option (TV τ)
  | []=>some (.int k a)
  | .int _ b :: r=>go k (bif mx then (bif decide (a < b) then b else a) else (bif decide (b < a) then b else a)) r
  | _=>none
theorem kP (C:Cod τ):∀ l:List (TV τ),TV.denL C l=l.map (TV.den C)
 | []=>rfl
 | x :: r=>by rw [TV.denL,List.map_cons,kP C r]
theorem aM9 {C:Cod τ} {mx:Bool}:∀ (l:List (TV τ)) (k:IntKind) (a:Int) (r:TV τ),sM.go mx k a l=some r→∃ v,lJ.go mx k a (l.map (TV.den C))=some v∧r.den C=.v v
 | [],k,a,r,h=>by simp only [sM.go,Option.some.injEq] at h; subst h; exact ⟨_,rfl,rfl⟩
 | x :: l, k, a, r, h => by
  cases x<;>simp only [sM.go,reduceCtorEq] at h
  obtain ⟨v,h1,h2⟩:=aM9 (C:=C) l k _ r h
  refine ⟨v,?_,h2⟩
  simp only [List.map_cons,TV.den,lJ.go]
  rw [← h1]
  congr 1
  cases mx<;>simp [cond_eq_ite]
theorem aNa {C:Cod τ} {mx:Bool} {l:List (TV τ)} {r:TV τ} (h:sM mx l=some r):∃ v,lJ mx (l.map (TV.den C))=some v∧r.den C=.v v:=by
 unfold sM at h
 split at h
 ·obtain ⟨v,h1,h2⟩:=aM9 (C:=C) _ _ _ _ h
  exact ⟨v,by simp only [List.map_cons,TV.den,lJ]; exact h1,h2⟩
 ·cases h
def asW:TV τ→Option (Nat×Nat×Nat×Nat×Nat×Bool)
 | .msl t id n=>some (t,id,0,n,n,false)
 | .wsl t id o n c nn=>some (t,id,o,n,c,nn)
 | _=>none
theorem aAh {C:Cod τ} {g:Gh} {x:TV τ} {t id o n c:Nat} {nn:Bool} (h:asW x=some (t,id,o,n,c,nn)) {v:Value} (hx:VRel g (x.den C) v):VRel g (.wsl id (o * C.sz t) n c nn (C.sz t)) v:=by
 unfold asW at h
 split at h
 ·cases h
  rw [Nat.zero_mul]
  exact aFc hx
 ·cases h; exact hx
 ·cases h
def gX (l h m c:Int):Bool:=decide (0≤l)&&(decide (l≤h)&&(decide (h≤m)&&decide (m≤c)))
theorem aWi {l h m c:Int} (hb:gX l h m c=true):0≤l∧l≤h∧h≤m∧m≤c:=by simpa [gX] using hb
def winB (win:Bool) (x:TV τ) (lo mx:Option (TV τ)):Bool :=
 match win,x,lo,mx with
 | true,_,_,_=>true
 | _,.wsl _ _ _ _ _ _,_,_=>true
 | _,_,some _,_=>true
 | _,_,_,some _=>true
 | _,_,_,_=>false
def tWin (D:TEnv τ) (win:Bool) (t:TypeId) (x:TV τ) (lo hi mx:Option (TV τ)):Option (bG τ) :=
 bif winB win x lo mx then (match D.E.ty t,asW x with
  | some ⟨.slice e, _, _, _⟩, some (t', id, o, n, c, nn) =>
   match D.E.ty e,lQ lo 0,lQ hi n,lQ mx c with
   | some ei,some l,some h,some m=>bif (D.C.sz t'==ei.size)&&(hi.isSome || !mx.isSome) then some { r:=.wsl t' id (o+l.toNat) (h.toNat - l.toNat) (m.toNat - l.toNat) (nn || Nat.blt 0 n),ob:=some (gX l h m c) } else none
   | _,_,_,_=>none
  | _,_=>none) else none
theorem aWj {D:TEnv τ} (hD:D.Ok) {g:Gh} {win:Bool} {t:TypeId} {x:TV τ} {lo hi mx:Option (TV τ)} {vx:Value} {vlo vhi vmx:Option Value} (hx:VRel g (x.den D.C) vx)
  (hlo:∀ a,lo=some a→∃ v,vlo=some v∧VRel g (a.den D.C) v) (hlo':lo=none→vlo=none) (hhi:∀ a,hi=some a→∃ v,vhi=some v∧VRel g (a.den D.C) v) (hhi':hi=none→vhi=none)
  (hmx:∀ a,mx=some a→∃ v,vmx=some v∧VRel g (a.den D.C) v) (hmx':mx=none→vmx=none) {res:bG τ} (h:tWin D win t x lo hi mx=some res) (hob:res.ob=none∨res.ob=some true) (w:World) :
  ∃ v,(Instr.sliceAt t vx vlo vhi vmx).run D.E.P w=.ok v w∧VRel g (res.r.den D.C) v∧res.U=[]:=by
 unfold tWin at h
 cases hwin:winB win x lo mx with
 | false=>rw [hwin] at h; cases h
 | true =>
  rw [hwin] at h
  simp only [cond_true] at h
  split at h
  ·rename_i e s1 b1 z1 t' id o n c nn ht hw
   split at h
   ·rename_i ei l hh m he hl hhh hm
    cases hc:((D.C.sz t'==ei.size)&&(hi.isSome || !mx.isSome)) with
    | false=>rw [hc] at h; cases h
    | true =>
     rw [hc] at h
     simp only [cond_true,Option.some.injEq] at h
     subst h
     simp only [Bool.and_eq_true,beq_iff_eq] at hc
     obtain ⟨c1,c2⟩:=hc
     obtain ⟨h0,h1,h2,h3⟩:=aWi (show gX l hh m c=true by simpa using hob)
     have fixm:∀ {z:Option (TV τ)} {vz:Option Value},(∀ a,z=some a→∃ v,vz=some v∧VRel g (a.den D.C) v)→∀ a,z.map (TV.den D.C)=some a→∃ v,vz=some v∧VRel g a v:=fun {z vz} hz a ha=>by
      cases z with
      | none=>simp at ha
      | some y=>simp at ha; subst ha; exact hz y rfl
     obtain ⟨v,k1,k2⟩:=aQB hD.E ht he c1 (aAh hw hx) (nV (C:=D.C) hl) (nV (C:=D.C) hhh) (nV (C:=D.C) hm)
      (fixm hlo) (fun e=>hlo' (by simpa using e)) (fixm hhi) (fun e=>hhi' (by simpa using e)) (fixm hmx) (fun e=>hmx' (by simpa using e))
      (fun e=>by
       rw [Option.isSome_map] at e ⊢
       rw [e] at c2; simpa using c2) h0 h1 h2 h3 w
     refine ⟨v,k1,?_,rfl⟩
     simp only [TV.den]
     rw [Nat.add_mul]
     rw [show Nat.blt 0 n=decide (0 < n) by rw [Bool.eq_iff_iff]; simp [Nat.blt,Nat.succ_le_iff]]
     exact k2
   ·cases h
  ·cases h
def aJz (D:TEnv τ) (op:BinOp) (t:TypeId) (x y:TV τ):Option (bG τ) :=
 match asW x,y,D.E.ty t,D.E.eqk t with
 | some (t', id, o, n, c, nn), .nil .slice, some ⟨.slice _, _, _, _⟩, none =>
  (match op with
  | .eql=>some { r:=.bool false,ob:=some (nn || Nat.blt 0 n) }
  | .neq=>some { r:=.bool true,ob:=some (nn || Nat.blt 0 n) }
  | _=>none)
 | _,_,_,_=>none
theorem aWk {D:TEnv τ} (hD:D.Ok) {g:Gh} {t:TypeId} {op:BinOp} {x y:TV τ} {vx vy:Value} (hx:VRel g (x.den D.C) vx) (hy:VRel g (y.den D.C) vy) {res:bG τ} (h:aJz D op t x y=some res)
  (hob:res.ob=none∨res.ob=some true) (ox oy:Operand) (w:World) :
  ∃ v,(do eqGuard op t ox oy vx vy; binOp op t vx vy:Sem Value).run D.E.P w=.ok v w∧VRel g (res.r.den D.C) v∧res.U=[]:=by
 unfold aJz at h
 split at h
 ·rename_i t' id o n c nn e s b z hw ht hks
  have hy':VRel g (.v (.slice none 0 0)) vy:=hy
  have key:∀ (hn:(nn || Nat.blt 0 n)=true),∃ x',VRel g x' vx∧iV D.E t x' (.v (.slice none 0 0))=some false∧(∀ k a,x'≠.v (.int k a))∧(∀ s,x'≠.v (.string s)):=fun hn =>
   ⟨_,aQE (aAh hw hx) hn,by unfold iV; simp only [hks,ht,rH]; simp,by simp,by simp⟩
  split at h
  ·cases h
   obtain ⟨x',e1,e3,e4,e5⟩:=key (by simpa using hob)
   obtain ⟨v,k1,k2,_⟩:=tZ hD.E hD.Q (t:=t) (op:=.eql) e1 hy' (res:={ r:=.v (.bool false) }) (by rw [aCY ⟨e4,e5⟩]; simp only [e3]; rfl) trivial ox oy w
   exact ⟨v,k1,k2,rfl⟩
  ·cases h
   obtain ⟨x',e1,e3,e4,e5⟩:=key (by simpa using hob)
   obtain ⟨v,k1,k2,_⟩:=tZ hD.E hD.Q (t:=t) (op:=.neq) e1 hy' (res:={ r:=.v (.bool true) }) (by rw [aCY ⟨e4,e5⟩]; simp only [e3]; rfl) trivial ox oy w
   exact ⟨v,k1,k2,rfl⟩
  ·cases h
 ·cases h
def aC1 (D:TEnv τ) (h:Nat→TEnt τ) (e:Nat) (xi:TI) (x:TV τ):Option (List (τ e)×Option Bool×List Nat) :=
 match tSrc D e xi x with
 | some xs=>some (xs,none,[])
 | none =>
  match xi.d,asW x with
  | .slice _, some (t, id, o, n, _, _) => (match h id with
   | .gbx t' l=>(match eF e l with | some l=>bif Nat.beq t e then some ((l.drop o).take n,some (Nat.ble (o+n) l.length),[id]) else none | none=>none)
   | _=>none)
  | _,_=>none
theorem aJA {C:Cod τ} (hC:C.Ok) {t:Nat}:∀ (n o:Nat) (l:List (τ t)),o+n≤l.length→cN (l.flatMap (C.cel t)) (o * C.sz t) n (C.sz t)=((l.drop o).take n).map (C.cel t)
 | 0,o,l,h=>by simp [cN]
 | n + 1, o, l, h => by
  have ih:=aJA hC n o l (by omega)
  have e1:cN (l.flatMap (C.cel t)) (o * C.sz t) (n+1) (C.sz t)=cN (l.flatMap (C.cel t)) (o * C.sz t) n (C.sz t)++[rd (l.flatMap (C.cel t)) (o * C.sz t+n * C.sz t) (C.sz t)]:=by simp [cN,List.range_succ]
  rw [e1,ih,List.take_add_one,List.map_append]
  congr 1
  rw [← Nat.add_mul,vY hC l (o+n) (by omega) l[o+n]]
  simp only [List.getElem?_drop,List.getD,List.getElem?_eq_getElem (show o+n < l.length by omega),Option.getD_some,Option.toList_some,List.map_cons,List.map_nil]
theorem wC {D:TEnv τ} (hD:D.Ok) {g:Gh} {H:Nat→Ent} {w:World} (hW:WRel g H w) {h:Nat→TEnt τ} {e:Nat} {ei xi:TI} (hei:D.C.sz e=ei.size) {x:TV τ} {vx:Value} (hx:VRel g (x.den D.C) vx) {l:List (τ e)} {ob:Option Bool} {F:List Nat}
  (hs:aC1 D h e xi x=some (l,ob,F)) (hob:ob=none∨ob=some true) (hH:∀ id∈F,H id=(h id).den D.C) :
  SrcIs D.E.P g w ei.size (l.map (D.C.cel e)) vx∧∀ k,xi.d≠.int k:=by
 unfold aC1 at hs
 split at hs
 ·rename_i xs hxs
  cases hs
  obtain ⟨x',hx',hsrc⟩:=aJu hD hei hx hxs
  exact ⟨.of hW hx' hsrc,xU hsrc⟩
 ·split at hs
  ·rename_i e' t id o n c nn hd hw
   split at hs
   ·rename_i t' l0 hid
    split at hs
    ·rename_i l1 hl
     obtain ⟨ht',rfl⟩:=fZ hl
     subst ht'
     cases ht:Nat.beq t t' with
     | false=>rw [ht] at hs; cases hs
     | true =>
      rw [ht] at hs
      simp only [cond_true,Option.some.injEq,Prod.mk.injEq] at hs
      obtain ⟨rfl,rfl,rfl⟩:=hs
      have:=Nat.eq_of_beq_eq_true ht
      subst this
      have hb:o+n≤l0.length:=Nat.le_of_ble_eq_true (by simpa using hob)
      have hHid:H id=.gbx (l0.flatMap (D.C.cel t)):=by rw [hH id (by simp),hid]; rfl
      have hx':=aAh hw hx
      rw [hei] at hx'
      have:=SrcIs.heap (P:=D.E.P) hW hx' hHid (by rw [jQ hD.C,← hei,← Nat.add_mul]; exact Nat.mul_le_mul_right _ hb)
      rw [← hei,aJA hD.C n o l0 hb] at this
      rw [← hei]
      exact ⟨this,fun k hk=>by rw [hd] at hk; cases hk⟩
    ·cases hs
   ·cases hs
  ·cases hs
def aJB (D:TEnv τ) (h:Nat→TEnt τ) (src dst:TypeId) (x:TV τ):Option (bG τ) :=
 match D.E.ty src,D.E.ty dst,asW x with
 | some ⟨.slice e, _, _, _⟩, some ⟨.string, _, _, _⟩, some (t, id, o, n, _, _) =>
  match D.E.ty e,h id with
  | some ⟨.int .u8,_,_,_⟩,.gbx t' l=>bif Nat.beq t t' then (match D.C.b2s t' ((l.drop o).take n) with | some s=>some { r:=.str s,F:=[id],ob:=some (Nat.ble (o+n) l.length) } | none=>none) else none
  | _,_=>none
 | _,_,_=>none
theorem aWl {D:TEnv τ} (hD:D.Ok) {g:Gh} {H:Nat→Ent} {w:World} (hW:WRel g H w) {h:Nat→TEnt τ} {src dst:TypeId} {x:TV τ} {vx:Value} (hx:VRel g (x.den D.C) vx) {res:bG τ}
  (hr:aJB D h src dst x=some res) (hob:res.ob=none∨res.ob=some true) (hH:∀ id∈res.F,H id=(h id).den D.C) :
  ∃ v w' g',(convert src dst vx).run D.E.P w=.ok v w'∧VRel g' (res.r.den D.C) v∧Evo g H w g' (app H (res.U.map fun p=>(p.1,p.2.den D.C))) w':=by
 unfold aJB at hr
 split at hr
 ·rename_i e s1 b1 z1 s2 b2 z2 t id o n c nn hs hd hw
  split at hr
  ·rename_i s3 b3 z3 t' l he hid
   cases ht:Nat.beq t t' with
   | false=>rw [ht] at hr; cases hr
   | true =>
    rw [ht] at hr
    simp only [cond_true] at hr
    have:=Nat.eq_of_beq_eq_true ht
    subst this
    split at hr
    ·rename_i s0 hl
     cases hr
     obtain ⟨hz,hl'⟩:=hD.C.b2s t _ s0 hl
     have hb:o+n≤l.length:=Nat.le_of_ble_eq_true (by simpa using hob)
     have hHid:H id=.gbx (l.flatMap (D.C.cel t)):=by rw [hH id (by simp),hid]; rfl
     have hx':=aAh hw hx
     have hS:=SrcIs.heap (P:=D.E.P) hW hx' hHid (by rw [jQ hD.C,← Nat.add_mul]; exact Nat.mul_le_mul_right _ hb)
     rw [aJA hD.C n o l hb,hz] at hS
     rw [hz] at hx'
     have hlen:(((l.drop o).take n).map (D.C.cel t)).length=n:=by simp; omega
     exact ⟨_,w,g,aQF hD.E hs hd he hx' hS hlen hl',.v _,.refl hW⟩
    ·cases hr
  ·cases hr
 ·cases hr
theorem obD {ob:Option Bool} (h:ob.getD true=true):ob=none∨ob=some true:=by
 cases ob with
 | none=>exact .inl rfl
 | some b=>exact .inr (by simpa using h)
def aJC (D:TEnv τ) (h:Nat→TEnt τ) (n:Nat) (ats:Array TypeId) (s x:TV τ):Option (bG τ) :=
 match ats[0]?,ats[1]? with
 | some sT, some xT =>
  match D.E.ty sT,D.E.ty xT with
  | some ⟨.slice e, _, _, _⟩, some xi =>
   match D.E.ty e with
   | some ei =>
    bif (ei.bytes==0) || Nat.blt 1048576 ei.bytes || !(D.C.sz e==ei.size) then none else
    match s with
    | .sl _ l (.own id) => (match aC1 D h e xi x with
     | some (xs,ob,F)=>(match eF e l,h id with | some l,.tail=>some { r:=.sl e (l++xs) (.own n),U:=[(id,.dead),(n,.tail)],F:=[id,n]++F,ob:=some (aO (l.length+xs.length) ei.bytes&&ob.getD true) } | _,_=>none)
     | none=>none)
    | _=>none
   | none=>none
  | _,_=>none
 | _,_=>none
theorem aWm {D:TEnv τ} (hD:D.Ok) {g:Gh} {H:Nat→Ent} {w:World} (hW:WRel g H w) {h:Nat→TEnt τ} {n:Nat} {ats:Array TypeId} {s x:TV τ} {vs vx:Value} (hs:VRel g (s.den D.C) vs) (hx:VRel g (x.den D.C) vx)
  {res:bG τ} (ha:aJC D h n ats s x=some res) (hob:res.ob=none∨res.ob=some true) (hH:∀ id∈res.F,H id=(h id).den D.C) (hn:n∈res.F→H n=.unborn) (ty:TypeId) :
  ∃ v w' g',(Builtin.append_ ats ty #[vs,vx]).run D.E.P w=.ok v w'∧VRel g' (res.r.den D.C) v∧Evo g H w g' (app H (res.U.map fun p=>(p.1,p.2.den D.C))) w':=by
 unfold aJC at ha
 split at ha
 ·rename_i sT xT h0 h1
  split at ha
  ·rename_i e s1 b1 z1 xi hsT hxT
   split at ha
   ·rename_i ei he
    cases hc:((ei.bytes==0) || Nat.blt 1048576 ei.bytes || !(D.C.sz e==ei.size)) with
    | true=>rw [hc] at ha; cases ha
    | false =>
     rw [hc] at ha
     simp only [cond_false] at ha
     simp only [Bool.or_eq_false_iff,Bool.not_eq_false',beq_eq_false_iff_ne,beq_iff_eq] at hc
     obtain ⟨⟨c1,c2⟩,c3⟩:=hc
     have hby:¬ (ei.bytes=0∨2 ^ 20 < ei.bytes):=by
      rintro (h | h)
      ·exact c1 h
      ·have:Nat.blt 1048576 ei.bytes=true:=by simp only [Nat.blt,Nat.ble_eq]; exact h
       rw [this] at c2; cases c2
     split at ha
     ·rename_i t' l0 id
      split at ha
      ·rename_i xs ob F hxs
       have hone:((xs.map (D.C.cel e)).all fun c=>c.all AV.one)=true:=List.all_eq_true.2 fun y hy=>by
        obtain ⟨a,_,rfl⟩:=List.mem_map.1 hy; exact hD.C.one e a
       split at ha
       ·rename_i l hl hid
        obtain ⟨ht,rfl⟩:=fZ hl
        subst ht
        cases ha
        have hb:aO (l0.length+xs.length) ei.bytes=true∧ob.getD true=true:=by simpa using hob
        have hb1:(l0.length+xs.length) * ei.bytes≤2 ^ 46:=by simpa [aO] using hb.1
        have hHid:H id=.tail:=by rw [hH id (by simp),hid]; rfl
        obtain ⟨hS,hni⟩:=wC hD hW c3 hx hxs (obD hb.2) (fun j hj=>hH j (by simp [hj]))
        have hs':VRel g (.gsl ei.size (l0.map (D.C.cel t')) id) vs:=by rw [← c3]; exact hs
        obtain ⟨v,w',g',k1,k2,k3⟩:=aQm hD.E hW (hn (by simp)) h0 h1 hsT hxT he hby hni hS hHid hone hs' (by simpa using hb1) ty
        exact ⟨v,w',g',k1,by simp only [TV.den,cW,c3,List.map_append]; exact k2,k3⟩
       ·cases ha
      ·cases ha
     ·cases ha
   ·cases ha
  ·cases ha
 ·cases ha
def aNb (D:TEnv τ) (h:Nat→TEnt τ) (n:Nat) (mu:Bool) (ce:Nat) (ei xi:TI) (s x:TV τ):Option (bG τ) :=
    bif (ei.bytes==0) || Nat.blt 1048576 ei.bytes || !(D.C.sz ce==ei.size) then none else
    match aC1 D h ce xi x with
    | some (xs, ob, F) =>
     match s with
     | .msl t id k => bif Nat.beq t ce then (match h id with
      | .gbx t' l=>(match eF ce l with | some l=>some { r:=.msl ce n (k+xs.length),U:=[(id,.dead),(n,.gbx ce (l.take k++xs))],F:=[id,n]++F,ob:=some ((aO (k+xs.length) ei.bytes&&Nat.ble k l.length)&&ob.getD true) } | none=>none)
      | _=>none) else none
     | .wsl t id o k c nn => bif Nat.beq t ce && Nat.beq o 0 then (match h id with
      | .gbx t' l=>(match eF ce l with | some l=>some { r:=.wsl ce n 0 (k+xs.length) (max c (k+xs.length)) (nn || Nat.blt 0 (k+xs.length)),U:=[(id,.dead),(n,.gbx ce (l.take k++xs))],F:=[id,n]++F,ob:=some ((aO (k+xs.length) ei.bytes&&Nat.ble k l.length)&&ob.getD true) } | none=>none)
      | _=>none) else none
     | .nil .slice=>bif mu then some { r:=.msl ce n xs.length,U:=[(n,.gbx ce xs)],F:=[n]++F,ob:=some (aO xs.length ei.bytes&&ob.getD true) } else some { r:=.sl ce xs (.own n),U:=[(n,.tail)],F:=[n]++F,ob:=some (aO xs.length ei.bytes&&ob.getD true) }
     | .sl _ [] .full=>bif mu then some { r:=.msl ce n xs.length,U:=[(n,.gbx ce xs)],F:=[n]++F,ob:=some (aO xs.length ei.bytes&&ob.getD true) } else some { r:=.sl ce xs (.own n),U:=[(n,.tail)],F:=[n]++F,ob:=some (aO xs.length ei.bytes&&ob.getD true) }
     | .sl _ l .full=>(match eF ce l with | some l=>some { r:=.sl ce (l++xs) (.own n),U:=[(n,.tail)],F:=[n]++F,ob:=some (aO (l.length+xs.length) ei.bytes&&ob.getD true) } | none=>none)
     | _=>none
    | none=>none
def aC2 (D:TEnv τ) (h:Nat→TEnt τ) (n:Nat) (mu:Bool) (ats:Array TypeId) (q:Nat) (s x:TV τ):Option (bG τ) :=
 match ats[0]?,ats[1]? with
 | some sT, some xT =>
  match D.E.ty sT,D.E.ty xT with
  | some ⟨.slice e, _, _, _⟩, some xi =>
   match D.E.ty e with
   | some ei =>
    aNb D h n mu (cT e q) ei xi s x
   | none=>none
  | _,_=>none
 | _,_=>none
theorem aNc {D:TEnv τ} (hD:D.Ok) {g:Gh} {H:Nat→Ent} {w:World} (hW:WRel g H w) {h:Nat→TEnt τ} {n:Nat} {mu:Bool} {ats:Array TypeId} {q:Nat} {s x:TV τ} {vs vx:Value} (hs:VRel g (s.den D.C) vs) (hx:VRel g (x.den D.C) vx)
  {res:bG τ} (ha:aC2 D h n mu ats q s x=some res) (hob:res.ob=none∨res.ob=some true) (hH:∀ id∈res.F,H id=(h id).den D.C) (hn:n∈res.F→H n=.unborn) (ty:TypeId) :
  ∃ v w' g',(Builtin.append_ ats ty #[vs,vx]).run D.E.P w=.ok v w'∧VRel g' (res.r.den D.C) v∧Evo g H w g' (app H (res.U.map fun p=>(p.1,p.2.den D.C))) w':=by
 unfold aC2 at ha
 split at ha
 ·rename_i sT xT h0 h1
  split at ha
  ·rename_i e s1 b1 z1 xi hsT hxT
   split at ha
   ·rename_i ei he
    generalize cT e q=ce at ha
    unfold aNb at ha
    cases hc:((ei.bytes==0) || Nat.blt 1048576 ei.bytes || !(D.C.sz ce==ei.size)) with
    | true=>rw [hc] at ha; cases ha
    | false =>
     rw [hc] at ha
     simp only [cond_false] at ha
     simp only [Bool.or_eq_false_iff,Bool.not_eq_false',beq_eq_false_iff_ne,beq_iff_eq] at hc
     obtain ⟨⟨c1,c2⟩,c3⟩:=hc
     have hby:¬ (ei.bytes=0∨2 ^ 20 < ei.bytes):=by
      rintro (h | h)
      ·exact c1 h
      ·have:Nat.blt 1048576 ei.bytes=true:=by simp only [Nat.blt,Nat.ble_eq]; exact h
       rw [this] at c2; cases c2
     split at ha
     ·rename_i xs ob F hxs
      have hone:((xs.map (D.C.cel ce)).all fun c=>c.all AV.one)=true:=List.all_eq_true.2 fun y hy=>by
       obtain ⟨a,_,rfl⟩:=List.mem_map.1 hy; exact hD.C.one ce a
      have hbl:∀ k,Nat.blt 0 k=decide (0 < k):=fun k=>by rw [Bool.eq_iff_iff]; simp [Nat.blt,Nat.succ_le_iff]
      split at ha
      ·rename_i t id k
       cases ht:Nat.beq t ce with
       | false=>rw [ht] at ha; cases ha
       | true =>
        rw [ht] at ha
        simp only [cond_true] at ha
        have:=Nat.eq_of_beq_eq_true ht
        subst this
        split at ha
        ·rename_i t' l0 hid
         split at ha
         ·rename_i l hl
          obtain ⟨ht',rfl⟩:=fZ hl
          subst ht'
          cases ha
          have hb:(aO (k+xs.length) ei.bytes=true∧Nat.ble k l0.length=true)∧ob.getD true=true:=by simpa using hob
          have hb1:(k+xs.length) * ei.bytes≤2 ^ 46:=by simpa [aO] using hb.1.1
          have hb2:k≤l0.length:=Nat.le_of_ble_eq_true hb.1.2
          obtain ⟨hS,hni⟩:=wC hD hW c3 hx hxs (obD hb.2) (fun j hj=>hH j (by simp [hj]))
          have hHid:H id=.gbx (l0.flatMap (D.C.cel t')):=by rw [hH id (by simp),hid]; rfl
          obtain ⟨v,w',g',k1,k2,k3⟩:=aFd hD.E hW (hn (by simp)) h0 h1 hsT hxT he hby (aFc (show VRel g (.bsl id 0 k ei.size) vs by rw [← c3]; exact hs)) hni hS hHid
           (by rw [jQ hD.C,← c3]; exact Nat.mul_le_mul_right _ hb2) hone (by simpa using hb1) ty
          refine ⟨v,w',g',k1,?_,?_⟩
          ·simp only [TV.den,c3]; simpa using pF k2
          ·simp only [app,List.map_cons,List.map_nil,TEnt.den]
           rw [← c3,aCZ hD.C _ _ hb2,lR] at k3
           rw [List.flatMap_append]
           exact k3
         ·cases ha
        ·cases ha
      ·rename_i t id o k c nn
       cases ht:(Nat.beq t ce&&Nat.beq o 0) with
       | false=>rw [ht] at ha; cases ha
       | true =>
        rw [ht] at ha
        simp only [cond_true] at ha
        simp only [Bool.and_eq_true] at ht
        have:=Nat.eq_of_beq_eq_true ht.1
        subst this
        have ho:=Nat.eq_of_beq_eq_true ht.2
        subst ho
        split at ha
        ·rename_i t' l0 hid
         split at ha
         ·rename_i l hl
          obtain ⟨ht',rfl⟩:=fZ hl
          subst ht'
          cases ha
          have hb:(aO (k+xs.length) ei.bytes=true∧Nat.ble k l0.length=true)∧ob.getD true=true:=by simpa using hob
          have hb1:(k+xs.length) * ei.bytes≤2 ^ 46:=by simpa [aO] using hb.1.1
          have hb2:k≤l0.length:=Nat.le_of_ble_eq_true hb.1.2
          obtain ⟨hS,hni⟩:=wC hD hW c3 hx hxs (obD hb.2) (fun j hj=>hH j (by simp [hj]))
          have hHid:H id=.gbx (l0.flatMap (D.C.cel t')):=by rw [hH id (by simp),hid]; rfl
          have hs':VRel g (.wsl id (0 * D.C.sz t') k c nn (D.C.sz t')) vs:=hs
          rw [Nat.zero_mul,c3] at hs'
          obtain ⟨v,w',g',k1,k2,k3⟩:=aFd hD.E hW (hn (by simp)) h0 h1 hsT hxT he hby hs' hni hS hHid
           (by rw [jQ hD.C,← c3]; exact Nat.mul_le_mul_right _ hb2) hone (by simpa using hb1) ty
          refine ⟨v,w',g',k1,?_,?_⟩
          ·simp only [TV.den,c3,Nat.zero_mul,hbl]; simpa using k2
          ·simp only [app,List.map_cons,List.map_nil,TEnt.den]
           rw [← c3,aCZ hD.C _ _ hb2,lR] at k3
           rw [List.flatMap_append]
           exact k3
         ·cases ha
        ·cases ha
      ·have hb:aO xs.length ei.bytes=true∧ob.getD true=true:=by cases mu<;>cases ha<;>simpa using hob
       have hb1:xs.length * ei.bytes≤2 ^ 46:=by simpa [aO] using hb.1
       obtain ⟨hS,hni⟩:=wC hD hW c3 hx hxs (obD hb.2) (fun j hj=>hH j (by cases mu<;>cases ha<;>simp [hj]))
       have hs':VRel g (.v (.slice none 0 0)) vs:=hs
       cases hs'
       cases mu with
       | false =>
        cases ha
        obtain ⟨v,w',g',k1,k2,k3⟩:=aFf hD.E hW (hn (by simp)) (a:=none) (.inl rfl) h0 h1 hsT hxT he hby hni hS (by simpa using hb1) ty
        exact ⟨v,w',g',k1,by simp only [TV.den,cW,c3]; exact k2,k3⟩
       | true =>
        cases ha
        obtain ⟨v,w',g',k1,k2,k3⟩:=aFe hD.E hW (hn (by simp)) h0 h1 hsT hxT he hby (a:=none) hni hS (by simpa using hb1) ty
        refine ⟨v,w',g',k1,by simp only [TV.den,c3]; simpa using pF k2,?_⟩
        simp only [app,List.map_cons,List.map_nil,TEnt.den]
        rw [lR] at k3; exact k3
      ·rename_i t
       have hb:aO xs.length ei.bytes=true∧ob.getD true=true:=by cases mu<;>cases ha<;>simpa using hob
       have hb1:xs.length * ei.bytes≤2 ^ 46:=by simpa [aO] using hb.1
       obtain ⟨hS,hni⟩:=wC hD hW c3 hx hxs (obD hb.2) (fun j hj=>hH j (by cases mu<;>cases ha<;>simp [hj]))
       have hs':VRel g (.sl (D.C.sz t) [] .full) vs:=hs
       cases hs' with
       | sl c e1 e2 e3 e4 e5 e6 =>
        rename_i b o len cap
        have hcap:cap=len:=e6
        have hl0:len=0:=by simpa using e1.symm
        subst hcap; subst hl0
        cases mu with
        | false =>
         cases ha
         obtain ⟨v,w',g',k1,k2,k3⟩:=aFf hD.E hW (hn (by simp)) (a:=some ⟨b,o,none⟩) (.inr ⟨b,o,rfl⟩) h0 h1 hsT hxT he hby hni hS (by simpa using hb1) ty
         exact ⟨v,w',g',k1,by simp only [TV.den,cW,c3]; exact k2,k3⟩
        | true =>
         cases ha
         obtain ⟨v,w',g',k1,k2,k3⟩:=aFe hD.E hW (hn (by simp)) h0 h1 hsT hxT he hby (a:=some ⟨b,o,none⟩) hni hS (by simpa using hb1) ty
         refine ⟨v,w',g',k1,by simp only [TV.den,c3]; simpa using pF k2,?_⟩
         simp only [app,List.map_cons,List.map_nil,TEnt.den]
         rw [lR] at k3; exact k3
      ·rename_i t' l0 _
       split at ha
       ·rename_i l hl
        obtain ⟨ht,rfl⟩:=fZ hl
        subst ht
        cases ha
        have hb:aO (l0.length+xs.length) ei.bytes=true∧ob.getD true=true:=by simpa using hob
        have hb1:(l0.length+xs.length) * ei.bytes≤2 ^ 46:=by simpa [aO] using hb.1
        obtain ⟨hS,hni⟩:=wC hD hW c3 hx hxs (obD hb.2) (fun j hj=>hH j (by simp [hj]))
        have hs':VRel g (.sl ei.size (l0.map (D.C.cel t')) .full) vs:=by rw [← c3]; exact hs
        obtain ⟨v,w',g',k1,k2,k3⟩:=aLO hD.E hW (hn (by simp)) h0 h1 hsT hxT he hby hni hS hs' (by simpa using hb1) ty
        exact ⟨v,w',g',k1,by simp only [TV.den,cW,c3,List.map_append]; exact k2,k3⟩
       ·cases ha
      ·cases ha
     ·cases ha
   ·cases ha
  ·cases ha
 ·cases ha
def qB {α:Type} (l:List α) (o n:Nat) (d:α):List α:=l.take o++(List.replicate (min n (l.length - o)) d++l.drop (o+n))
def aNd (D:TEnv τ) (h:Nat→TEnt τ) (ce:Nat) (ei:TI) (z:TV τ) (t' id o n:Nat):Option (bG τ) :=
   match h id with
   | .gbx t2 l => (match eF ce l with
    | some l => (match D.C.dec ce z with
     | some d=>bif Nat.beq t' ce&&(D.C.sz ce==ei.size) then some { r:=.tup [],U:=[(id,.gbx ce (qB l o n d))],F:=[id] } else none
     | none=>none)
    | none=>none)
   | _=>none
def aC3 (D:TEnv τ) (h:Nat→TEnt τ) (ats:Array TypeId) (q:Nat) (x:TV τ):Option (bG τ) :=
 match ats.toList,asW x with
 | [t], some (t', id, o, n, c, nn) =>
  match D.E.ty t with
  | some ⟨.slice e, _, _, _⟩ =>
   match D.E.ty e,D.zero e with
   | some ei,some z=>aNd D h (cT e q) ei z t' id o n
   | _,_=>none
  | _=>none
 | _,_=>none
theorem aNe {D:TEnv τ} (hD:D.Ok) {g:Gh} {H:Nat→Ent} {w:World} (hW:WRel g H w) {h:Nat→TEnt τ} {ats:Array TypeId} {q:Nat} {x:TV τ} {vx:Value} (hx:VRel g (x.den D.C) vx)
  {res:bG τ} (ha:aC3 D h ats q x=some res) (hH:∀ id∈res.F,H id=(h id).den D.C) (ty:TypeId) :
  ∃ v w',(Builtin.clear_ ats ty #[vx]).run D.E.P w=.ok v w'∧VRel g (res.r.den D.C) v∧Evo g H w g (app H (res.U.map fun p=>(p.1,p.2.den D.C))) w':=by
 unfold aC3 at ha
 split at ha
 ·rename_i t t' id o n c nn hats hw
  have hat:ats=#[t]:=by apply Array.ext'; simpa using hats
  subst hat
  split at ha
  ·rename_i e s1 b1 z1 ht
   generalize hce:cT e q=ce at ha
   split at ha
   ·rename_i ei z he hz
    unfold aNd at ha
    split at ha
    case h_2=>cases ha
    rename_i t2 l0 hid
    split at ha
    ·rename_i l1 hl
     obtain ⟨ht2,rfl⟩:=fZ hl
     subst ht2
     split at ha
     ·rename_i d hd
      cases hc:(Nat.beq t' t2&&(D.C.sz t2==ei.size)) with
      | false=>rw [hc] at ha; cases ha
      | true =>
       rw [hc] at ha
       simp only [cond_true,Option.some.injEq] at ha
       subst ha
       simp only [Bool.and_eq_true,beq_iff_eq] at hc
       obtain ⟨c1,c3⟩:=hc
       have:=Nat.eq_of_beq_eq_true c1
       subst this
       obtain ⟨i,hi,hok,hcw,hagg⟩:=hD.zero e z hz
       rw [he] at hi; cases hi
       have hw0:CW ei.zero (D.C.cel t' d):=hcw.trans (hD.C.dec t' z d hd)
       have hone:∀ (g:Gh) (cs:List Value),LRel g ei.zero cs→∀ c∈cs,c.oneCell'=true:=fun g cs hr=>qX (hw0.lrel hr) (hD.C.one t' d)
       have hHid:H id=.gbx (l0.flatMap (D.C.cel t')):=by rw [hH id (by simp),hid]; rfl
       have hx':=aAh hw hx
       rw [c3] at hx'
       have hF:=hD.E _ _ he
       have key:∀ (j:Nat) (x:AV),((qB l0 o n d).flatMap (D.C.cel t'))[j]?=some x→((j < o * D.C.sz t'∨o * D.C.sz t'+n * ei.size≤j)∧(l0.flatMap (D.C.cel t'))[j]?=some x)∨(o * D.C.sz t'≤j∧j < o * D.C.sz t'+n * ei.size∧∀ a,(List.replicate n ei.zero).flatten[j - o * D.C.sz t']?=some a→∀ g v,VRel g a v→VRel g x v):=fun j x hj=>by
        have hA:((l0.take o).flatMap (D.C.cel t')).length=min o l0.length * ei.size:=by rw [jQ hD.C,List.length_take,c3]
        have hM:((List.replicate (min n (l0.length - o)) d).flatMap (D.C.cel t')).length=min n (l0.length - o) * ei.size:=by rw [jQ hD.C,List.length_replicate,c3]
        have e1:l0.flatMap (D.C.cel t')=(l0.take o).flatMap (D.C.cel t')++(l0.drop o).flatMap (D.C.cel t'):=by rw [← List.flatMap_append,List.take_append_drop]
        simp only [qB,List.flatMap_append] at hj
        rw [List.getElem?_append] at hj
        split at hj
        ·rename_i hlt
         left
         rw [hA] at hlt
         have:min o l0.length * ei.size≤o * ei.size:=Nat.mul_le_mul_right _ (Nat.min_le_left _ _)
         refine ⟨.inl (by rw [c3]; omega),?_⟩
         rw [e1,List.getElem?_append_left (by rw [hA]; exact hlt)]
         exact hj
        ·rename_i hge
         rw [hA] at hge hj
         rw [List.getElem?_append] at hj
         split at hj
         ·rename_i hlt
          rw [hM] at hlt
          have hm:0 < min n (l0.length - o):=by
           rcases Nat.eq_zero_or_pos (min n (l0.length - o)) with h0 | h0
           ·rw [h0] at hlt; omega
           ·exact h0
          have ho:min o l0.length=o:=by omega
          rw [ho] at hge hj hlt
          have hmn:min n (l0.length - o) * ei.size≤n * ei.size:=Nat.mul_le_mul_right _ (Nat.min_le_left _ _)
          refine .inr ⟨by rw [c3]; omega,by rw [c3]; omega,fun a ha g v hv=>?_⟩
          rw [c3] at ha
          have hcw2:=CW.flatten_rep hw0 n
          have hy:(List.replicate n (D.C.cel t' d)).flatten[j - o * ei.size]?=some x:=by
           have e2:List.replicate n (D.C.cel t' d)=List.replicate (min n (l0.length - o)) (D.C.cel t' d)++List.replicate (n - min n (l0.length - o)) (D.C.cel t' d):=by
            rw [List.replicate_append_replicate]; congr 1; omega
           rw [e2,List.flatten_append,List.getElem?_append_left (by
            rw [← List.map_replicate,lR,hM]; exact hlt),← List.map_replicate,lR]
           exact hj
          exact hcw2.2 _ _ _ ha hy g v hv
         ·rename_i hge2
          rw [hM] at hge2 hj
          left
          -- behind the window
          have hne:o+n < l0.length:=by
           rcases Nat.lt_or_ge (o+n) l0.length with h' | h'
           ·exact h'
           ·rw [List.drop_eq_nil_of_le h'] at hj; simp at hj
          have ho:min o l0.length=o:=by omega
          have hm:min n (l0.length - o)=n:=by omega
          rw [ho] at hge hj hge2
          rw [hm] at hj hge2
          refine ⟨.inr (by rw [c3]; omega),?_⟩
          have e3:l0.flatMap (D.C.cel t')=(l0.take (o+n)).flatMap (D.C.cel t')++(l0.drop (o+n)).flatMap (D.C.cel t'):=by rw [← List.flatMap_append,List.take_append_drop]
          have hL:((l0.take (o+n)).flatMap (D.C.cel t')).length=(o+n) * ei.size:=by rw [jQ hD.C,List.length_take,c3]; congr 1; omega
          rw [e3,List.getElem?_append_right (by rw [hL,Nat.add_mul]; omega),hL,Nat.add_mul,← Nat.sub_sub]
          exact hj
       obtain ⟨w',k1,k2⟩:=aQD hD.E hW ht he hx' hHid hone (cells':=(qB l0 o n d).flatMap (D.C.cel t'))
        (by
         rw [jQ hD.C,jQ hD.C]
         refine Nat.mul_le_mul_right _ ?_
         simp only [qB,List.length_append,List.length_take,List.length_replicate,List.length_drop]
         omega) (by rw [c3] at key; exact key) ty
       exact ⟨_,w',k1,.tup rfl (by simp),k2⟩
     ·cases ha
    ·cases ha
   ·cases ha
  ·cases ha
 ·cases ha
def aNf (D:TEnv τ) (h:Nat→TEnt τ) (n:Nat) (mu:Bool) (f:Callee) (ats:Array TypeId) (xs:List (TV τ)):Option (bG τ) :=
 match f,xs with
 | .builtin .len,[x]=>(match ats.toList with | [t]=>(match tLen D t x with | some k=>some { r:=.int .i64 (k:Int) } | none=>none) | _=>none)
 | .builtin .append,[s,x]=>(match aJw D h n mu ats s x with | some r=>some r | none=>match aJy D n mu ats s x with | some r=>some r | none=>match aJv D h n ats s x with | some r=>some r | none=>match aJC D h n ats s x with | some r=>some r | none=>match aC2 D h n mu ats 0 s x with | some r=>some r | none=>aC2 D h n mu ats 20000 s x)
 | .builtin .cap,[x]=>(match ats.toList with | [t]=>(match D.E.ty t,x with | some ⟨.slice _,_,_,_⟩,.nil .slice=>some { r:=.int .i64 0 } | _,_=>none) | _=>none)
 | .builtin .min,xs=>(match sM false xs with | some v=>some { r:=v } | none=>none)
 | .builtin .max,xs=>(match sM true xs with | some v=>some { r:=v } | none=>none)
 | .builtin .clear,[x]=>(match aC3 D h ats 0 x with | some r=>some r | none=>aC3 D h ats 20000 x)
 | _,_=>none
def isU8 (D:TEnv τ) (e:Nat):Bool:=match D.E.ty e with | some ⟨.int .u8,_,_,_⟩=>true | _=>false
def laid (D:TEnv τ) (n:Nat) (r:TV τ):bG τ :=
 match r with
 | .sl e (x :: l) .full=>bif isU8 D e then { r:=.sl e (x :: l) (.tl n),U:=[(n,.tail)],F:=[n] } else { r:=r }
 | r=>{ r:=r }
def aJD (D:TEnv τ) (h:Nat→TEnt τ) (s d:TypeId) (x:TV τ):Option (bG τ) :=
 match x with
 | .sl t l (.tl id) => bif Nat.beq s d then (match D.E.ty s with
  | some ⟨.slice e, _, _, _⟩ => (match D.E.ty e, h id with
   | some ⟨.int .u8,_,_,_⟩,.tail=>some { r:=.sl t l .non,U:=[(id,.dead)],F:=[id] }
   | _,_=>none)
  | _=>none) else none
 | _=>none
theorem aWn {D:TEnv τ} (hD:D.Ok) {g:Gh} {H:Nat→Ent} {w:World} (hW:WRel g H w) {h:Nat→TEnt τ} {s d:TypeId} {x:TV τ} {vx:Value} (hx:VRel g (x.den D.C) vx) {res:bG τ}
  (hr:aJD D h s d x=some res) (hH:∀ id∈res.F,H id=(h id).den D.C) :
  ∃ v w' g',(convert s d vx).run D.E.P w=.ok v w'∧VRel g' (res.r.den D.C) v∧Evo g H w g' (app H (res.U.map fun p=>(p.1,p.2.den D.C))) w':=by
 unfold aJD at hr
 split at hr
 ·rename_i t l id
  cases hsd:Nat.beq s d with
  | false=>rw [hsd] at hr; cases hr
  | true =>
   rw [hsd] at hr
   have:=Nat.eq_of_beq_eq_true hsd
   subst this
   simp only [cond_true] at hr
   split at hr
   ·rename_i e _ _ _ hs
    split at hr
    ·rename_i he hid
     cases hr
     have hid':H id=.tail:=by rw [hH id (by simp),hid]; rfl
     obtain ⟨w',h1,h2,h3⟩:=aQp hD.E hW hs he hid' (show VRel g (.sl _ _ (.tail id)) vx from hx)
     exact ⟨vx,w',g,h1,h2,h3⟩
    ·cases hr
   ·cases hr
 ·cases hr
def lendK:SK→SK
 | .own id=>.brw id
 | k=>k
def aJE:TV τ→TV τ
 | .sl t l k=>.sl t l (lendK k)
 | x=>x
mutual
def TV.lend:TV τ→TV τ
 | .agg l=>.agg (TV.lends l)
 | x=>x
def TV.lends:List (TV τ)→List (TV τ)
 | []=>[]
 | x :: r=>aJE (TV.lend x) :: TV.lends r
end
theorem aWo (C:Cod τ) (t:Nat) (l:List (τ t)) (k:SK):cW C t l (lendK k)=cW C t l k:=by cases k<;>rfl
theorem aWp (C:Cod τ) (x:TV τ):(aJE x).cells C=x.cells C:=by
 cases x with
 | sl t l k=>simp only [aJE,TV.cells,aWo]
 | _=>rfl
mutual
theorem aWq (C:Cod τ):∀ x:TV τ,x.lend.cells C=x.cells C
 | .agg l=>by simp only [TV.lend,TV.cells]; exact aJF C l
 | .int _ _ | .bool _ | .str _ | .nil _ | .arr _ _ _ | .sl _ _ _ | .ptr _ _ | .ipt _ | .ls _ _ | .msl _ _ _ | .wsl _ _ _ _ _ _ | .hsl _ _ _ _ _ _ | .hptr _ _ _ | .any1 | .yld _ | .fn _ _ | .tup _ | .cnd _ _ _ _ | .junk  => rfl
theorem aJF (C:Cod τ):∀ l:List (TV τ),TV.cellsL C (TV.lends l)=TV.cellsL C l
 | []=>rfl
 | x :: r => by
  simp only [TV.lends,TV.cellsL,aJF C r,aWp,aWq C x]
end
theorem aWr (C:Cod τ) (x:TV τ):x.lend.den C=x.den C:=by
 cases x with
 | agg l=>simp only [TV.lend,TV.den,aJF]
 | _=>rfl
def evT (D:TEnv τ) (h:Nat→TEnt τ) (n:Nat) (mu:Bool) (o:Op) (val:Operand→TV τ):Option (bG τ) :=
 match o with
 | .move x | .assign x=>some { r:=val x }
 | .alloc t=>(match D.zero t with | some z=>some { r:=.ptr n [],U:=[(n,.box z)],F:=[n] } | none=>none)
 | .box _ x=>bif (val x).ok then some { r:=.ptr n [],U:=[(n,.box (val x))],F:=[n] } else none
 | .build t ps=>(match aJm D t (ps.toList.map fun p=>(p.1,val p.2)) with | some r=>some { r:=r } | none=>none)
 | .buildSlice t len ps=>(match (bif mu then aM6 D n t len (ps.toList.map fun p=>(p.1,val p.2)) else (match nU D t len 0 (ps.toList.map fun p=>(p.1,val p.2)) with | some r=>some (laid D n r) | none=>none)) with | some res=>some res | none=>(match nU D t len 20000 (ps.toList.map fun p=>(p.1,val p.2)) with | some r=>some { r:=r } | none=>match aJo D t len (ps.toList.map fun p=>(p.1,val p.2)) with | some r=>some { r:=r } | none=>none))
 | .load t a => (match val a with
  | .ptr id (.el i s :: p)=>aJd D h t id i s p
  | a=>(match wB D h t a with | some r=>some { r:=r.lend,F:=tids a } | none=>none))
 | .store t a x => (match val a with
  | .ptr id (.el i s :: p)=>aJe D h t id i s p (val x)
  | a=>(match aJc D h t a (val x) with | some (id,e)=>some { r:=.junk,U:=[(id,e)],F:=[id] } | none=>none))
 | .nilCheck x=>(match val x with | .ptr id p=>some { r:=.ptr id p } | .ipt y=>some { r:=.ipt y } | .fn f l=>some { r:=.fn f l } | _=>none)
 | .binOp op t x y _=>(match aJz D op t (val x) (val y) with | some r=>some r | none=>tBin D op t (val x) (val y))
 | .unOp op _ x=>(match tUn op (val x) with | some r=>some { r:=r } | none=>none)
 | .convert s d x=>(match aJD D h s d (val x) with | some r=>some r | none=>match aJB D h s d (val x) with | some r=>some r | none=>aJp D n s d (val x))
 | .makeFunc (.func f) first captured=>bif first.isEmpty then some { r:=.fn f (captured.toList.map val) } else none
 | .slice t x lo hi mx=>(match aJs D h t (val x) (lo.map val) (hi.map val) (mx.map val) with | some r=>some r | none=>match tWin D mu t (val x) (lo.map val) (hi.map val) (mx.map val) with | some r=>some r | none=>aJr D t (val x) (lo.map val) (hi.map val) (mx.map val))
 | .makeSlice t l c=>bif aC0 l c then aJx D n mu t (val l) else none
 | .fieldAddr t x k=>(match aJf D t (val x) k with | some r=>some { r:=r } | none=>none)
 | .field t x k=>(match aJi D t (val x) k with | some r=>some { r:=r } | none=>none)
 | .indexAddr t x ix=>aJj D t (val x) (val ix)
 | .index t x ix=>aJk D t (val x) (val ix)
 | .extract x k=>(match val x with | .tup l=>(match l[k]? with | some r=>some { r:=r } | none=>none) | _=>none)
 | .call c=>aNf D h n mu c.callee c.argTypes (c.args.toList.map val)
 | _=>none
theorem aWs {D:TEnv τ} (hD:D.Ok) {g:Gh} {H:Nat→Ent} {w:World} (hW:WRel g H w) {h:Nat→TEnt τ} {n m:Nat} (hm:H m=.unborn) {mu:Bool} {o:Oper} {val:Operand→TV τ} {ρ:Operand→Value}
  (hv:∀ x∈bB o.op,VRel g ((val x).den D.C) (ρ x)) {res:bG τ} (he:evT D h n mu o.op val=some res) (hob:res.ob=none∨res.ob=some true) (hH:∀ id∈res.F,H id=(h id).den D.C) (hn:n∈res.F→H n=.unborn) :
  ∃ v w' g',Does D.E ρ o w v w'∧VRel g' (res.r.den D.C) v∧Evo g H w g' (app H (res.U.map fun p=>(p.1,p.2.den D.C))) w':=by
 unfold evT at he
 split at he
 ·rename_i x ho
  cases he
  exact ⟨_,w,g,.inl (by simp [execOp,ho]),hv x (by simp [ho,bB]),.refl hW⟩
 ·rename_i x ho
  cases he
  exact ⟨_,w,g,.inl (by simp [execOp,ho]),hv x (by simp [ho,bB]),.refl hW⟩
 ·rename_i t ho
  split at he
  ·rename_i z hz
   cases he
   obtain ⟨i,hi,hok,hcw,hagg⟩:=hD.zero t z hz
   obtain ⟨v,w',g',h1,h2,h3⟩:=aQb hD.E hW hi (hn (by simp))
   refine ⟨v,w',g',.inl (by simp [execOp,ho,h1]),h2,h3.trans (Evo.weak h3.rel _ fun k=>?_)⟩
   simp only [app,List.map_cons,List.map_nil,TEnt.den]
   by_cases hk:k=n
   ·subst hk; right; exact ⟨_,_,aR _ _ _,aR _ _ _,hcw⟩
   ·left; rw [aJ _ _ hk,aJ _ _ hk]
  ·cases he
 ·rename_i t x ho
  cases hk:(val x).ok with
  | false=>rw [hk] at he; cases he
  | true =>
   rw [hk] at he
   simp only [cond_true,Option.some.injEq] at he
   subst he
   obtain ⟨v,w',g',h1,h2,h3⟩:=aQc (P:=D.E.P) hW t (hv x (by simp [ho,bB])) (vX D.C hk) (hn (by simp))
   exact ⟨v,w',g',.inl (by simp [execOp,ho,h1]),h2,h3⟩
 ·rename_i t ps ho
  split at he
  ·rename_i r hr
   cases he
   obtain ⟨v,h1,h2⟩:=aVZ hD (val:=val) (ρ:=ρ) (ps:=ps) (fun p hp=>hv p.2 (by simp [ho,bB]; exact ⟨p.1,hp⟩)) hr w
   exact ⟨v,w,g,.inl (by simp only [execOp,ho,Sem.run_bind,h1,Result.andThen_ok,Sem.run_pure]),h2,.refl hW⟩
  ·cases he
 ·rename_i t len ps ho
  split at he
  ·rename_i res' hr0
   cases he
   cases mu with
   | true =>
    simp only [cond_true] at hr0
    unfold aM6 at hr0
    split at hr0
    ·rename_i e x l hr
     split at hr0
     ·rename_i i hi
      cases ha:i.agg with
      | false=>rw [ha] at hr0; cases hr0
      | true =>
       rw [ha] at hr0
       cases hr0
       obtain ⟨v,w',g',h1,h2,h3⟩:=aV2 hD hW (hn (by simp)) (val:=val) (ρ:=ρ) (ps:=ps) (fun p hp=>hv p.2 (by simp [ho,bB]; exact ⟨p.1,hp⟩)) hr
       exact ⟨v,w',g',.inl (by simp only [execOp,ho,Sem.run_bind,h1,Result.andThen_ok,Sem.run_pure]),h2,h3⟩
     ·cases hr0
    ·cases hr0
   | false =>
   simp only [cond_false] at hr0
   split at hr0
   case h_2=>cases hr0
   rename_i r hr
   cases hr0
   have plain:∃ v w' g',Does D.E ρ o w v w'∧VRel g' (r.den D.C) v∧Evo g H w g' H w':=by
    obtain ⟨v,w',g',h1,h2,h3⟩:=aM5 hD hW (val:=val) (ρ:=ρ) (ps:=ps) (fun p hp=>hv p.2 (by simp [ho,bB]; exact ⟨p.1,hp⟩)) hr
    exact ⟨v,w',g',.inl (by simp only [execOp,ho,Sem.run_bind,h1,Result.andThen_ok,Sem.run_pure]),h2,h3⟩
   unfold laid at hn ⊢
   split at hn
   ·rename_i e x l
    cases hu:isU8 D e with
    | false=>exact plain
    | true =>
     rw [hu] at hn
     obtain ⟨v,w',g',h1,h2,h3⟩:=aV1 hD hW (hn (by simp)) (val:=val) (ρ:=ρ) (ps:=ps) (fun p hp=>hv p.2 (by simp [ho,bB]; exact ⟨p.1,hp⟩)) hr
     exact ⟨v,w',g',.inl (by simp only [execOp,ho,Sem.run_bind,h1,Result.andThen_ok,Sem.run_pure]),h2,h3⟩
   ·exact plain
  ·split at he
   ·rename_i r hr
    cases he
    obtain ⟨v,w',g',h1,h2,h3⟩:=aM5 hD hW (val:=val) (ρ:=ρ) (ps:=ps) (fun p hp=>hv p.2 (by simp [ho,bB]; exact ⟨p.1,hp⟩)) hr
    exact ⟨v,w',g',.inl (by simp only [execOp,ho,Sem.run_bind,h1,Result.andThen_ok,Sem.run_pure]),h2,h3⟩
   split at he
   ·rename_i r hr
    cases he
    obtain ⟨v,w',g',h1,h2,h3⟩:=aV0 hD hW (val:=val) (ρ:=ρ) (ps:=ps) (fun p hp=>hv p.2 (by simp [ho,bB]; exact ⟨p.1,hp⟩)) hr
    exact ⟨v,w',g',.inl (by simp only [execOp,ho,Sem.run_bind,h1,Result.andThen_ok,Sem.run_pure]),h2,h3⟩
   ·cases he
 ·rename_i t a ho
  have hva:=hv a (by simp [ho,bB])
  split at he
  ·rename_i id i s p haa
   rw [haa] at hva
   obtain ⟨v,h1,h2,h3⟩:=aVS hD hW hH hva he hob
   exact ⟨v,w,g,.inl (by simp [execOp,ho,h1]),h2,by rw [h3]; exact .refl hW⟩
  ·split at he
   ·rename_i r hr
    cases he
    obtain ⟨v,h1,h2⟩:=aVQ hD hW (fun id hid=>hH id hid) hva hr
    exact ⟨v,w,g,.inl (by simp [execOp,ho,h1]),by rw [aWr]; exact h2,.refl hW⟩
   ·cases he
 ·rename_i t a x ho
  have hva:=hv a (by simp [ho,bB])
  split at he
  ·rename_i id i s p haa
   rw [haa] at hva
   obtain ⟨w',h1,h2,h3⟩:=aVT hD hW hH hva (hv x (by simp [ho,bB])) he hob
   exact ⟨undef,w',g,.inr ⟨by simp [execOp,ho,h1],rfl⟩,by rw [h2]; exact .junk _,h3⟩
  ·split at he
   ·rename_i id e hr
    cases he
    obtain ⟨w',h1,h2⟩:=aVR hD hW hr (hH id (by simp)) hva (hv x (by simp [ho,bB]))
    exact ⟨undef,w',g,.inr ⟨by simp [execOp,ho,h1],rfl⟩,.junk _,h2⟩
   ·cases he
 ·rename_i x ho
  have hx:=hv x (by simp [ho,bB])
  split at he
  ·rename_i id p hxx
   cases he
   rw [hxx] at hx
   obtain ⟨hb,hx'⟩:=kO (show VRel g (dW id p) (ρ x) from hx)
   generalize hρ:ρ x=vx at hx hx'
   cases hx'
   exact ⟨_,w,g,.inl (by simp [execOp,ho,hρ]),hx,.refl hW⟩
  ·rename_i y hxx
   cases he
   rw [hxx] at hx
   have hx0:=hx
   simp only [TV.den] at hx
   generalize hρ:ρ x=vx at hx hx0
   cases hx
   exact ⟨_,w,g,.inl (by simp [execOp,ho,hρ]),hx0,.refl hW⟩
  ·rename_i f l hxx
   cases he
   rw [hxx] at hx
   have hx0:=hx
   simp only [TV.den] at hx
   generalize hρ:ρ x=vx at hx hx0
   cases hx
   exact ⟨_,w,g,.inl (by simp [execOp,ho,hρ]),hx0,.refl hW⟩
  ·cases he
 ·rename_i op t x y yt ho
  split at he
  ·rename_i r hr
   cases he
   obtain ⟨v,h1,h2,h3⟩:=aWk hD (hv x (by simp [ho,bB])) (hv y (by simp [ho,bB])) hr hob x y w
   refine ⟨v,w,g,.inl ?_,h2,by rw [h3]; exact .refl hW⟩
   simp only [execOp,ho]
   rw [Sem.run_bind,h1]
   rfl
  obtain ⟨v,h1,h2,h3⟩:=aV4 hD (hv x (by simp [ho,bB])) (hv y (by simp [ho,bB])) he hob x y w
  refine ⟨v,w,g,.inl ?_,h2,by rw [h3]; exact .refl hW⟩
  simp only [execOp,ho]
  rw [Sem.run_bind,h1]
  rfl
 ·rename_i op t x ho
  split at he
  ·rename_i r hr
   cases he
   obtain ⟨v,h1,h2⟩:=aV5 (P:=D.E.P) (hv x (by simp [ho,bB])) hr w
   exact ⟨v,w,g,.inl (by simp [execOp,ho,h1]),h2,.refl hW⟩
  ·cases he
 ·rename_i s d x ho
  split at he
  ·rename_i r hr
   cases he
   obtain ⟨v,w',g',h1,h2,h3⟩:=aWn hD hW (hv x (by simp [ho,bB])) hr hH
   exact ⟨v,w',g',.inl (by simp [execOp,ho,h1]),h2,h3⟩
  ·split at he
   ·rename_i r hr
    cases he
    obtain ⟨v,w',g',h1,h2,h3⟩:=aWl hD hW (hv x (by simp [ho,bB])) hr hob hH
    exact ⟨v,w',g',.inl (by simp [execOp,ho,h1]),h2,h3⟩
   ·obtain ⟨v,w',g',h1,h2,h3⟩:=aV6 hD hW hm (hv x (by simp [ho,bB])) he hn
    exact ⟨v,w',g',.inl (by simp [execOp,ho,h1]),h2,h3⟩
 ·rename_i f first captured ho
  cases hemp:first.isEmpty with
  | false=>rw [hemp] at he; cases he
  | true =>
   rw [hemp] at he
   simp only [cond_true,Option.some.injEq] at he
   subst he
   have hf:first=#[]:=by simpa using hemp
   subst hf
   refine ⟨_,w,g,.inl (by simp only [execOp,ho,Instr.makeFunc,Sem.run_bind,Sem.run_pure,Result.andThen_ok,Array.map_empty]; rfl),?_,.refl hW⟩
   simp only [TV.den,kP]
   refine .fn (by simp) fun k x c hx hc=>?_
   simp at hx hc
   obtain ⟨y,hy,rfl⟩:=hx
   rw [hy] at hc
   simp at hc; subst hc
   exact hv y (by simp [ho,bB]; exact Array.mem_of_getElem? hy)
 ·rename_i t x lo hi mx ho
  have aux:∀ (z:Option Operand),(∀ y,z=some y→y∈bB o.op)→∀ a,z.map val=some a→∃ v,z.map ρ=some v∧VRel g (a.den D.C) v:=fun z hz a ha=>by
   cases z with
   | none=>simp at ha
   | some y=>simp at ha; subst ha; exact ⟨_,rfl,hv y (hz y rfl)⟩
  have aux':∀ (z:Option Operand),z.map val=none→z.map ρ=none:=fun z hz=>by cases z<;>simp at hz ⊢
  split at he
  ·rename_i r hr
   cases he
   obtain ⟨v,g',h1,h2,h3⟩:=aV9 hD hW (hv x (by simp [ho,bB])) (aux' lo) (aux' hi) (aux' mx) hr hH
   exact ⟨v,w,g',.inl (by simp [execOp,ho,h1]),h2,h3⟩
  split at he
  ·rename_i r hr
   cases he
   obtain ⟨v,h1,h2,h3⟩:=aWj hD (hv x (by simp [ho,bB])) (aux lo (fun y e=>by simp [ho,bB,e])) (aux' lo) (aux hi (fun y e=>by simp [ho,bB,e])) (aux' hi) (aux mx (fun y e=>by simp [ho,bB,e])) (aux' mx) hr hob w
   exact ⟨v,w,g,.inl (by simp [execOp,ho,h1]),h2,by rw [h3]; exact .refl hW⟩
  obtain ⟨v,h1,⟨g',h2,h3⟩,h4⟩:=aV8 hD hW (hv x (by simp [ho,bB])) (aux lo (fun y e=>by simp [ho,bB,e])) (aux' lo) (aux hi (fun y e=>by simp [ho,bB,e])) (aux' hi) (aux' mx) he hob
  exact ⟨v,w,g',.inl (by simp [execOp,ho,h1]),h2,by rw [h4]; exact h3⟩
 ·rename_i t l c ho
  cases hoe:aC0 l c with
  | false=>rw [hoe] at he; cases he
  | true =>
   rw [hoe] at he
   have:=aWf hoe
   subst this
   simp only [cond_true] at he
   obtain ⟨v,w',g',h1,h2,h3⟩:=aWg hD hW (hv l (by simp [ho,bB])) he hob hn
   exact ⟨v,w',g',.inl (by simp [execOp,ho,h1]),h2,h3⟩
 ·rename_i t x k ho
  split at he
  ·rename_i r hr
   cases he
   obtain ⟨v,h1,h2⟩:=aVU hD (hv x (by simp [ho,bB])) hr w
   exact ⟨v,w,g,.inl (by simp [execOp,ho,h1]),h2,.refl hW⟩
  ·cases he
 ·rename_i t x k ho
  split at he
  ·rename_i r hr
   cases he
   obtain ⟨v,h1,h2⟩:=aVV hD (hv x (by simp [ho,bB])) hr w
   exact ⟨v,w,g,.inl (by simp [execOp,ho,h1]),h2,.refl hW⟩
  ·cases he
 ·rename_i t x ix ho
  obtain ⟨v,h1,h2,h3⟩:=aVW hD (hv x (by simp [ho,bB])) (hv ix (by simp [ho,bB])) he hob w
  exact ⟨v,w,g,.inl (by simp [execOp,ho,h1]),h2,by rw [h3]; exact .refl hW⟩
 ·rename_i t x ix ho
  obtain ⟨v,h1,h2,h3⟩:=aVX hD (hv x (by simp [ho,bB])) (hv ix (by simp [ho,bB])) he hob w
  exact ⟨v,w,g,.inl (by simp [execOp,ho,h1]),h2,by rw [h3]; exact .refl hW⟩
 ·rename_i x k ho
  have hx:=hv x (by simp [ho,bB])
  split at he
  ·rename_i l hxx
   split at he
   ·rename_i r hr
    cases he
    rw [hxx] at hx
    simp only [TV.den,kP] at hx
    obtain ⟨v,h1,h2⟩:=aQe (P:=D.E.P) (k:=k) (r:=r.den D.C) hx (by simp [aE1,hr]) w
    exact ⟨v,w,g,.inl (by simp [execOp,ho,h1]),h2,.refl hW⟩
   ·cases he
  ·cases he
 ·rename_i c ho
  have hall:LRel g (c.args.toList.map fun x=>(val x).den D.C) (c.args.toList.map ρ):=⟨by simp,fun k x v a b=>by
   simp at a b
   obtain ⟨y,hy,rfl⟩:=a
   rw [hy] at b
   simp at b; subst b
   exact hv y (by simp only [ho,bB,List.mem_append]; exact .inr (by simpa using Array.mem_of_getElem? hy))⟩
  have hargs:c.args.map ρ=(c.args.toList.map ρ).toArray:=by apply Array.ext'; simp
  have hmm:(c.args.toList.map fun x=>(val x).den D.C)=(c.args.toList.map val).map (TV.den D.C):=by simp
  rw [hmm] at hall
  generalize c.args.toList.map val=xs at he hall
  generalize hvs:c.args.toList.map ρ=vs at hall
  rw [hvs] at hargs
  unfold aNf at he
  split at he
  ·rename_i x hcal
   obtain ⟨vx,rfl⟩:∃ vx,vs=[vx]:=List.length_eq_one_iff.1 (by simpa using hall.1.symm)
   have hx:=hall.2 0 _ vx rfl rfl
   split at he
   ·rename_i t hats
    split at he
    ·rename_i k hk
     cases he
     have h1:=aWa hD hx hk o.type w
     have hat:c.argTypes=#[t]:=by apply Array.ext'; simpa using hats
     exact ⟨_,w,g,.inl (by simp [execOp,ho,resolve,hcal,invoke,builtin,hargs,hat,h1]),.v _,.refl hW⟩
    ·cases he
   ·cases he
  ·rename_i s x hcal
   obtain ⟨vs',vx,rfl⟩:∃ a b,vs=[a,b]:=by
    have:=hall.1
    match vs,this with
    | [a,b],_=>exact ⟨a,b,rfl⟩
   split at he
   ·rename_i r hr
    cases he
    obtain ⟨v,w',g',h1,h2,h3⟩:=aWe hD hW (hall.2 0 _ vs' rfl rfl) (hall.2 1 _ vx rfl rfl) hr hob hH hn o.type
    exact ⟨v,w',g',.inl (by simp [execOp,ho,resolve,hcal,invoke,builtin,hargs,h1]),h2,h3⟩
   split at he
   ·rename_i r hr
    cases he
    obtain ⟨v,w',g',h1,h2,h3⟩:=aWh hD hW (hall.2 0 _ vs' rfl rfl) (hall.2 1 _ vx rfl rfl) hr hob hn o.type
    exact ⟨v,w',g',.inl (by simp [execOp,ho,resolve,hcal,invoke,builtin,hargs,h1]),h2,h3⟩
   split at he
   ·rename_i r hr
    cases he
    obtain ⟨v,w',g',h1,h2,h3⟩:=aWd hD hW (hall.2 0 _ vs' rfl rfl) (hall.2 1 _ vx rfl rfl) hr hob hH hn o.type
    exact ⟨v,w',g',.inl (by simp [execOp,ho,resolve,hcal,invoke,builtin,hargs,h1]),h2,h3⟩
   split at he
   ·rename_i r hr
    cases he
    obtain ⟨v,w',g',h1,h2,h3⟩:=aWm hD hW (hall.2 0 _ vs' rfl rfl) (hall.2 1 _ vx rfl rfl) hr hob hH hn o.type
    exact ⟨v,w',g',.inl (by simp [execOp,ho,resolve,hcal,invoke,builtin,hargs,h1]),h2,h3⟩
   split at he
   ·rename_i r hr
    cases he
    obtain ⟨v,w',g',h1,h2,h3⟩:=aNc hD hW (hall.2 0 _ vs' rfl rfl) (hall.2 1 _ vx rfl rfl) hr hob hH hn o.type
    exact ⟨v,w',g',.inl (by simp [execOp,ho,resolve,hcal,invoke,builtin,hargs,h1]),h2,h3⟩
   obtain ⟨v,w',g',h1,h2,h3⟩:=aNc hD hW (hall.2 0 _ vs' rfl rfl) (hall.2 1 _ vx rfl rfl) he hob hH hn o.type
   exact ⟨v,w',g',.inl (by simp [execOp,ho,resolve,hcal,invoke,builtin,hargs,h1]),h2,h3⟩
  ·rename_i x hcal
   obtain ⟨vx,rfl⟩:∃ vx,vs=[vx]:=List.length_eq_one_iff.1 (by simpa using hall.1.symm)
   have hx:=hall.2 0 _ vx rfl rfl
   split at he
   ·rename_i t hats
    split at he
    ·rename_i e s1 b1 z1 ht
     cases he
     have hx':VRel g (.v (.slice none 0 0)) vx:=hx
     cases hx'
     have h1:=evCap0 hD.E ht o.type w
     have hat:c.argTypes=#[t]:=by apply Array.ext'; simpa using hats
     exact ⟨_,w,g,.inl (by simp [execOp,ho,resolve,hcal,invoke,builtin,hargs,hat,h1]),.v _,.refl hW⟩
    ·cases he
   ·cases he
  ·rename_i xs' hcal
   split at he
   ·rename_i r hr
    cases he
    obtain ⟨v,hv',hden⟩:=aNa (C:=D.C) hr
    have h1:=aLU (P:=D.E.P) hall hv' c.argTypes o.type w
    simp only [Bool.false_eq_true,if_false] at h1
    exact ⟨v,w,g,.inl (by simp [execOp,ho,resolve,hcal,invoke,builtin,hargs,h1]),by rw [hden]; exact .v _,.refl hW⟩
   ·cases he
  ·rename_i xs' hcal
   split at he
   ·rename_i r hr
    cases he
    obtain ⟨v,hv',hden⟩:=aNa (C:=D.C) hr
    have h1:=aLU (P:=D.E.P) hall hv' c.argTypes o.type w
    simp only [if_true] at h1
    exact ⟨v,w,g,.inl (by simp [execOp,ho,resolve,hcal,invoke,builtin,hargs,h1]),by rw [hden]; exact .v _,.refl hW⟩
   ·cases he
  ·rename_i x hcal
   obtain ⟨vx,rfl⟩:∃ vx,vs=[vx]:=List.length_eq_one_iff.1 (by simpa using hall.1.symm)
   split at he
   ·rename_i r hr
    cases he
    obtain ⟨v,w',h1,h2,h3⟩:=aNe hD hW (hall.2 0 _ vx rfl rfl) hr hH o.type
    exact ⟨v,w',g,.inl (by simp [execOp,ho,resolve,hcal,invoke,builtin,hargs,h1]),h2,h3⟩
   obtain ⟨v,w',h1,h2,h3⟩:=aNe hD hW (hall.2 0 _ vx rfl rfl) he hH o.type
   exact ⟨v,w',g,.inl (by simp [execOp,ho,resolve,hcal,invoke,builtin,hargs,h1]),h2,h3⟩
  ·cases he
 ·cases he
end
end Go.Ev
