/-
The typed layer: the machine,and that what it comes to is so.
-/
import Derived.Test.YtddpmkmgbdedlaaGreatqTvO
set_option linter.unusedVariables false
set_option linter.unusedSimpArgs false
namespace Go.Ev
open Go
inductive Ec where
 |we (id:Nat)
 |code (c:Code)
 |rep (c:Code) (m:Nat)
 |ops (ops:Array Oper) (draw:Bool) (i:Nat) (rest:List Oper) (tr:List (Nat×List Nat×List Nat))
def Mp (id:Nat):List Ec→Option (List Ec)
 |[]=>none
 |.we i :: t=>bif Nat.beq i id then some t else Mp id t
 |_ :: t=>Mp id t
section
variable {τ:Nat→Type}
structure Zr (τ:Nat→Type) where
 D:fA τ
 mi:FuncId→List (dL τ)
 lp:Nat→List (Lp τ)
 k0:Nat
 mu:List Nat:=[]
 un:List (Nat×Nat):=[]
 et:Nat:=0
 ex:List Nat:=[]
 inr:Bool:=false
 aX:Bool:=false
 ad:List Nat:=[]
 fz:List Nat:=[]
 ln:List Nat:=[]
def key:Code→Option Nat
 |.region id _ _=>some id
 |.seq a b=>(match key a with|some k=>some k|none=>key b)
 |.cond _ a b=>(match key a with|some k=>some k|none=>key b)
 |.block _ c=>key c
 |.loop c=>key c
 |.scope c=>key c
 |_=>none
def QA (asg body:Code):Nat:=match key body with|some k=>k|none=>match key asg with|some k=>k|none=>0
def Uq (D:Zr τ)(ps:Array Tmp)(asg body:Code):Prop:=D.D.C.site D.et (QA asg body)=(ps,asg,body)
def Zm (S:Array Tmp→Code→Code→Prop):Code→Prop
 |.seq a b=>Zm S a∧Zm S b
 |.cond _ a b=>Zm S a∧Zm S b
 |.block _ c=>Zm S c
 |.loop c=>Zm S c
 |.scope c=>Zm S c
 |.rangeFunc _ ps a b=>S ps a b
 |_=>True
def PE:Code→Bool
 |.seq a b=>PE a&&PE b
 |.cond _ a b=>PE a&&PE b
 |.block _ c=>PE c
 |.loop c=>PE c
 |.scope c=>PE c
 |.rangeFunc _ _ _ _=>false
 |_=>true
theorem fX {S:Array Tmp→Code→Code→Prop}:∀ {c:Code},PE c=true→Zm S c
 |.seq a b,h=>by simp only[PE,Bool.and_eq_true]at h;exact⟨fX h.1,fX h.2⟩
 |.cond _ a b,h=>by simp only[PE,Bool.and_eq_true]at h;exact⟨fX h.1,fX h.2⟩
 |.block _ c,h=>fX (c:=c) h
 |.loop c,h=>fX (c:=c) h
 |.scope c,h=>fX (c:=c) h
 |.rangeFunc _ _ _ _,h=>by cases h
 |.skip,_ | .exit _,_ | .ret,_ | .label _,_ | .region _ _ _,_ | .goto _,_ | .refuse _,_=>trivial
structure QX (S:Array Tmp→Code→Code→Prop) (c:Code):Prop where
 ok:codeOk c=true
 sub:Zm S c
theorem QX.seq {S:Array Tmp→Code→Code→Prop}{a b:Code}(h:QX S (.seq a b)):QX S a∧QX S b:=by
 have h1:=h.ok
 simp only[codeOk,Bool.and_eq_true]at h1
 exact⟨⟨h1.1,h.sub.1⟩,⟨h1.2,h.sub.2⟩⟩
theorem QX.cond {S:Array Tmp→Code→Code→Prop}{x:Operand}{a b:Code}(h:QX S (.cond x a b)):QX S a∧QX S b:=by
 have h1:=h.ok
 simp only[codeOk,Bool.and_eq_true]at h1
 exact⟨⟨h1.1,h.sub.1⟩,⟨h1.2,h.sub.2⟩⟩
theorem QX.block {S:Array Tmp→Code→Code→Prop}{i:Nat}{c:Code}(h:QX S (.block i c)):QX S c:=⟨by simpa[codeOk] using h.ok,h.sub⟩
theorem QX.scope {S:Array Tmp→Code→Code→Prop}{c:Code}(h:QX S (.scope c)):QX S c:=⟨by simpa[codeOk] using h.ok,h.sub⟩
theorem QX.loop {S:Array Tmp→Code→Code→Prop}{c:Code}(h:QX S (.loop c)):QX S c:=⟨by simpa[codeOk] using h.ok,h.sub⟩
def unOf:List (Nat×Nat)→Nat→Option Nat
 |[],_=>none
 |(k,m) :: r,j=>bif Nat.beq k j then some m else unOf r j
def iter {S X:Type}:Nat→(S→(S→Option X)→Option X)→S→Option X
 |0,_,_=>none
 |m+1,body,s=>body s (iter m body)
def H7 (st:mE τ)(k:Nat):Bool:=st.t.all (fun x=>match x with | .yK d _ _ _=>!(Nat.beq d k) | _=>true)&&st.off.all (fun g=>!(Nat.beq g.1 k))
def Sg (st:mE τ)(o:Oper):Bool:=match o.dst with|some k=>H7 st k|none=>true
def uB (st:mE τ)(o:Oper)(r:TV τ)(U:List (Nat×bD τ)):mE τ :=
 { t:=(match o.dst with|some k=>KH st.t k r|none=>st.t),h:=Me st.h U,dt:=(match o.dst with|some k=>k :: st.dt|none=>st.dt),dh:=U.map (·.1)++st.dh,off:=st.off }
def aGs (off:List (Nat×Bool))(G:Option (Nat×Bool)):Bool:=match G with|some g=>aCQ off g|none=>false
def obc {X:Type}(ob:Option Bool)(k:Option X):Option X:=match ob with|none=>k|some b=>bif b then k else none
def obg {X:Type}(g:Bool)(ob:Option Bool)(k:Option X):Option X:=match ob with|none=>k|some b=>bif (!g || b) then k else none
def aq (U:List (Nat×bD τ))(F:List Nat):Bool:=U.all fun p=>WE p.1 F
def fin {X:Type}(st:mE τ)(o:Oper)(G:Option (Nat×Bool))(res:jG τ)(next:mE τ→List Nat→List Nat→Option X):Option X :=
 bif aq res.U res.F then
  match G with
  |none=>obc res.ob (next (uB st o (nc res.r) res.U) res.F (res.U.map (·.1)))
  |some g=>match Ao st.t g,res.U with
   |some b,[]=>obg b res.ob (next (uB st o (.yK g.1 g.2 b (nc res.r)) []) res.F [])
   |some b,U=>bif b then obc res.ob (next (uB st o (nc res.r) U) res.F (U.map (·.1))) else next (uB { st with off:=g :: st.off } o .aZ []) [] []
   |none,_=>none
 else none
def aAS:Op→List Operand
 |.load _ a=>[a]
 |.store _ a _=>[a]
 |.nilCheck x=>[x]
 |.binOp _ _ x y _=>[x,y]
 |.convert _ _ x=>[x]
 |.slice _ x _ _ _=>[x]
 |.fieldAddr _ x _=>[x]
 |.indexAddr _ x _=>[x]
 |.index _ x _=>[x]
 |.call c=>(match c.callee with | .value _=>[] | _=>c.args.toList)
 |_=>[]
def TV.hNo:TV τ→Option (Nat×Nat)
 |.Bw t j _ _ _ _=>some (t,j)
 |.qO t j _=>some (t,j)
 |_=>none
def ZE (val:Operand→TV τ):List Operand→Option (Operand×Nat×Nat)
 |[]=>none
 |x :: r=>match (val x).hNo with
  |some (t,j)=>some (x,t,j)
  |none=>ZE val r
def XQ:Operand→Operand→Bool
 |.tmp a,.tmp b=>Nat.beq a b
 |_,_=>false
def YB:List Bool→Bool
 |[]=>true
 |[b]=>b
 |b :: r=>b&&YB r
def YY (val:Operand→TV τ)(k:Operand)(j:Nat):List Operand→List Bool
 |[]=>[]
 |x :: r=>bif XQ x k then YY val k j r else match val x with
  |.Bw _ j' _ _ _ _=>Nat.beq j' j :: YY val k j r
  |.qO _ j' _=>Nat.beq j' j :: YY val k j r
  |_=>YY val k j r
def ZF (val:Operand→TV τ)(len:Nat):List Operand→List Bool
 |[]=>[]
 |x :: r=>match val x with
  |.Bw _ _ o n _ _=>Nat.ble (o+n) len :: ZF val len r
  |.qO _ _ _=>false :: ZF val len r
  |_=>ZF val len r
inductive Pp (τ:Nat→Type) where
 |no
 |DT (t p j:Nat) (ms:List (Option (List (τ t)))) (k:Operand)
 |frz (t p j:Nat) (ms:List (Option (List (τ t)))) (k:Operand)
def isDst (o:Oper)(l:List Nat):Bool:=match o.dst with|some k=>WE k l|none=>false
def aJn (D:Zr τ)(o:Oper):List Operand:=bif isDst o D.ln then eC o.op else aAS o.op
def o7 (l:List Nat):List Operand→List Operand
 |[]=>[]
 |x :: r=>match x with
  |.tmp k=>bif WE k l then x :: o7 l r else o7 l r
  |_=>o7 l r
def aAi (l:List Nat):Op→List Operand
 |.store _ _ x=>o7 l [x]
 |.call c=>(match c.callee with | .value _=>o7 l c.args.toList|_=>[])
 |_=>[]
def qa (h:List (bD τ))(t:Nat):Option (Nat×List (Option (List (τ t)))) :=
 match ZD bD.LZ h 0 with
 |some p=>(match dA h p with
  |.aX t' ms=>(match YN (t:=t') t ms with|some ms=>some (p,ms) | none=>none)
  |_=>none)
 |none=>none
def aBb (D:Zr τ)(o:Oper)(h:List (bD τ))(val:Operand→TV τ):Pp τ :=
 bif D.aX then
  match ZE val (aAi D.fz o.op) with
  |some (k,t,j)=>(match qa h t with
   |some (p,ms)=>.frz t p j ms k
   |none=>.no)
  |none=>(match ZE val (aJn D o) with
   |some (k,t,j)=>(match qa h t with
    |some (p,ms)=>.DT t p j ms k
    |none=>.no)
   |none=>.no)
 else .no
def Pp.val (h:List (bD τ))(val:Operand→TV τ):Pp τ→Operand→TV τ
 |.no=>val
 |.DT _ _ _ _ _=>fun x=>OS h.length (val x)
 |.frz _ _ j ms _=>fun x=>aCz ((CE ms j).getD []) (val x)
def Pp.h (h:List (bD τ)):Pp τ→List (bD τ)
 |.no=>h
 |.DT t p j ms _=>OU h p h.length t (As ms j none) ((CE ms j).getD [])
 |.frz t p j ms _=>Qi (Qi h p (.aX t (As ms j none))) h.length .dead
def bk:Option Bool→Bool→Option Bool
 |none,b=>some b
 |some a,b=>some (a&&b)
def XK {α:Type}:Option α→Bool
 |none=>true
 |some _=>false
def Pp.post (o:Oper)(h:List (bD τ))(val:Operand→TV τ)(fl:Bool)(res:jG τ):Pp τ→Option (jG τ)
 |.no=>some res
 |.DT t p j ms k =>
  bif XK (gW res.U p) then
   match gW res.U h.length with
   |none=>bif fl then some { r:=YE t j h.length res.r,U:=res.U++[(h.length,.dead)],F:=p :: h.length :: res.F,ob:=bk res.ob (YB ((CE ms j).isSome :: YY val k j (eC o.op))) } else none
   |some (.eD t' l')=>(match Bh (t:=t') t l' with
    |some l'=>bif fl then some { r:=YE t j h.length res.r,U:=Ij h.length res.U++[(p,.aX t (As ms j (some l'))),(h.length,.dead)],F:=p :: h.length :: res.F,ob:=bk res.ob (YB ((CE ms j).isSome :: YY val k j (eC o.op))) } else none
    |none=>none)
   |some .dead=>some { r:=res.r,U:=Ij h.length res.U++[(p,.aX t (As ms j none)),(h.length,.dead)],F:=p :: h.length :: res.F,ob:=bk res.ob (YB ((Nat.beq j 0 || (CE ms j).isSome) :: YY val k j (eC o.op))) }
   |_=>none
  else none
 |.frz t p j ms k=>some { r:=res.r,U:=(p,.aX t (As ms j none)) :: (h.length,.dead) :: res.U,F:=p :: h.length :: res.F,ob:=bk res.ob (YB ((CE ms j).isSome :: (YY val k j (eC o.op)++ZF val ((CE ms j).getD []).length (eC o.op)))) }
def aEy:TV τ→Option Nat
 |.mS _ id _=>some id
 |.nG _ id _ _ _ _=>some id
 |_=>none
def aAV:List (TV τ)→Option Nat
 |[]=>none
 |x :: r=>match aEy x with|some i=>some i|none=>aAV r
def adId:TV τ→Option Nat
 |.jE l=>aAV l
 |x=>aEy x
def YA (h:List (bD τ))(res:jG τ):jG τ :=
 match adId res.r with
 |some n=>(match gW res.U n,ZD bD.LZ h 0 with
  |some (.eD t l),some p=>(match (match gW res.U p with|some e=>e|none=>dA h p) with
   |.aX t' ms=>(match YN (t:=t') t ms with
    |some ms=>{ r:=YE t (ms.length+1) n res.r,U:=Ij n res.U++[(p,.aX t (ms++[some l])),(n,.dead)],F:=p :: res.F,ob:=res.ob }
    |none=>res)
   |_=>res)
  |_,_=>res)
 |none=>res
def aBa (D:Zr τ)(o:Oper)(h:List (bD τ))(val:Operand→TV τ)(pp:Pp τ)(fl:Bool)(res:jG τ):Option (jG τ) :=
 match pp.post o h val fl res with
 |some res=>some (bif isDst o D.ad then YA h res else res)
 |none=>none
theorem lZ.aDp {E:Env}{C:eY τ}{fl:Bool}{o:Oper}{val:Operand→TV τ}{h:Nat→bD τ}{r:TV τ}{U:List (Nat×bD τ)}{F:List Nat}(hc:lZ E C fl o val h r U F):lZ E C false o val h r U F :=
 fun H g a w h1 h2 h3 h4 next Q hn=>hc H g a w h1 h2 h3 h4 next Q fun v g' w' a b _=>hn v g' w' a b (fun e=>by cases e)
theorem lZ.congr {E:Env}{C:eY τ}{fl:Bool}{o:Oper}{val:Operand→TV τ}{h:Nat→bD τ}{r:TV τ}{U U':List (Nat×bD τ)}{F:List Nat}(hc:lZ E C fl o val h r U F)
  (hU:∀ H:Nat→dD,(∀ id∈F,H id=(h id).den C)→app H (pQ C U)=app H (pQ C U')):lZ E C fl o val h r U' F :=
 fun H g a w h1 h2 h3 h4 next Q hn=>hc H g a w h1 h2 h3 h4 next Q fun v g' w' a b c=>hn v g' w' a (by rw[← hU H h3];exact b) c
theorem lg {x y:Operand}(h:XQ x y=true):x=y:=by
 unfold XQ at h
 split at h
 ·rw[Nat.eq_of_beq_eq_true h]
 ·cases h
theorem ES:∀ {l:List Bool},YB l=true→∀ b∈l,b=true
 |[],_,b,hb=>by cases hb
 |[x],h,b,hb=>by
  rcases List.mem_cons.1 hb with rfl|hb
  ·exact h
  ·cases hb
 |x :: y :: r,h,b,hb=>by
  simp only[YB,Bool.and_eq_true]at h
  rcases List.mem_cons.1 hb with rfl|hb
  ·exact h.1
  ·exact ES h.2 b hb
theorem IC {val:Operand→TV τ}{k:Operand}{j:Nat}(hk:(val k).tu j):∀ {l:List Operand},(∀ b∈YY val k j l,b=true)→∀ x∈l,(val x).tu j
 |[],_,x,hx=>by cases hx
 |y :: r,h,x,hx=>by
  simp only[YY]at h
  cases hs:XQ y k with
  |true =>
   rw[hs]at h
   rcases List.mem_cons.1 hx with rfl|hx
   ·rw[lg hs];exact hk
   ·exact IC hk h x hx
  |false =>
   rw[hs]at h
   simp only[cond_false]at h
   have hr:∀ b∈YY val k j r,b=true:=by
    cases hv:val y<;>rw[hv]at h<;>first|exact h|exact fun b hb=>h b (List.mem_cons_of_mem _ hb)
   have hy:(val y).tu j:=by
    cases hv:val y<;>rw[hv]at h<;>first|trivial|exact Nat.eq_of_beq_eq_true (h _ List.mem_cons_self)
   rcases List.mem_cons.1 hx with rfl|hx
   ·exact hy
   ·exact IC hk hr x hx
theorem aFZ {x:TV τ}{t j:Nat}(h:x.hNo=some (t,j)):x.tu j:=by
 cases x with
 |Bw t' j' o n c nn=>simp only[TV.hNo,Option.some.injEq,Prod.mk.injEq]at h;exact h.2
 |qO t' j' p=>simp only[TV.hNo,Option.some.injEq,Prod.mk.injEq]at h;exact h.2
 |_=>trivial
theorem RH {val:Operand→TV τ}{k:Operand}{t j:Nat}:∀ {l:List Operand},ZE val l=some (k,t,j)→(val k).tu j
 |[],h=>by cases h
 |x :: r,h=>by
  simp only[ZE]at h
  split at h
  ·rename_i t' j' hx
   cases h
   exact aFZ hx
  ·exact RH (l:=r) h
theorem Z1 {val:Operand→TV τ}{t j len:Nat}:∀ {l:List Operand},(∀ b∈ZF val len l,b=true)→(∀ x∈l,(val x).tu j)→∀ x∈l,(val x).fOk t j len
 |[],_,_,x,hx=>by cases hx
 |y :: r,h,hj,x,hx=>by
  simp only[ZF]at h
  have hr:∀ b∈ZF val len r,b=true:=by
   cases hv:val y<;>rw[hv]at h<;>first|exact h|exact fun b hb=>h b (List.mem_cons_of_mem _ hb)
  have hy:(val y).fOk t j len:=by
   have h0:=hj y List.mem_cons_self
   cases hv:val y<;>rw[hv]at h h0<;>first|trivial|exact⟨h0,Nat.le_of_ble_eq_true (h _ List.mem_cons_self)⟩|exact absurd (h false List.mem_cons_self) (by simp)
  rcases List.mem_cons.1 hx with rfl|hx
  ·exact hy
  ·exact Z1 hr (fun z hz=>hj z (List.mem_cons_of_mem _ hz)) x hx
theorem cb {h:List (bD τ)}{t p:Nat}{ms:List (Option (List (τ t)))}(hp:qa h t=some (p,ms)):dA h p=.aX t ms:=by
 unfold qa at hp
 split at hp
 ·rename_i p' _
  split at hp
  ·rename_i t' kS hx
   split at hp
   ·rename_i ms2 hm
    obtain⟨h1,h2⟩:=Zy hm
    subst h1;subst h2
    cases hp
    exact hx
   ·cases hp
  ·cases hp
 ·cases hp
theorem ka {α:Type}{x:Option α}(h:XK x=true):x=none:=by cases x<;>first|rfl|cases h
theorem Lw {a:Option Bool}{b:Bool}(h:∀ c,bk a b=some c→c=true):(a=none∨a=some true)∧b=true:=by
 cases a with
 |none=>exact⟨.inl rfl,h b rfl⟩
 |some a =>
  have:=h (a&&b) rfl
  simp only[Bool.and_eq_true]at this
  exact⟨.inr (by rw[this.1]),this.2⟩
def W2 (ob:Option Bool):Prop:=∀ b,ob=some b→b=true
theorem W2.or {ob:Option Bool}(h:W2 ob):ob=none∨ob=some true:=by
 cases hb:ob with
 |none=>exact .inl rfl
 |some b=>right;rw[h b hb]
def W3 (o:Oper)(h:List (bD τ))(val:Operand→TV τ):Pp τ→Prop
 |.no=>True
 |.DT t p j ms k=>dA h p=.aX t ms∧(val k).tu j
 |.frz t p j ms k=>dA h p=.aX t ms∧(val k).tu j
theorem aCV {D:Zr τ}{o:Oper}{h:List (bD τ)}{val:Operand→TV τ}:W3 o h val (aBb D o h val):=by
 unfold aBb
 cases D.aX with
 |false=>trivial
 |true =>
  simp only[cond_true]
  split
  ·rename_i k t j hk
   split
   ·rename_i p ms hp;exact⟨cb hp,RH hk⟩
   ·trivial
  ·split
   ·rename_i k t j hk
    split
    ·rename_i p ms hp;exact⟨cb hp,RH hk⟩
    ·trivial
   ·trivial
theorem aEA {o:Oper}{h:List (bD τ)}{val:Operand→TV τ}{fl:Bool}{res HF:jG τ}{pp:Pp τ}(hp:pp.post o h val fl res=some HF)(ho:W2 HF.ob):res.ob=none∨res.ob=some true:=by
 cases pp with
 |no=>cases hp;exact ho.or
 |DT t p j ms k =>
  simp only[Pp.post]at hp
  cases hn:XK (gW res.U p) with
  |false=>rw[hn]at hp;cases hp
  |true =>
   rw[hn]at hp
   simp only[cond_true]at hp
   split at hp
   ·cases fl with
    |false=>cases hp
    |true=>cases hp;exact (Lw ho).1
   ·split at hp
    ·cases fl with
     |false=>cases hp
     |true=>cases hp;exact (Lw ho).1
    ·cases hp
   ·cases hp;exact (Lw ho).1
   ·cases hp
 |frz t p j ms k=>cases hp;exact (Lw ho).1
theorem qb {D:fA τ}(hD:D.Ok){o:Oper}{h:List (bD τ)}{val:Operand→TV τ}{fl:Bool}{res HF:jG τ}{pp:Pp τ}(w9:W3 o h val pp)(hc:lZ D.E D.C fl o (pp.val h val) (dA (pp.h h)) res.r res.U res.F)
  (hp:pp.post o h val fl res=some HF) (ho:W2 HF.ob):lZ D.E D.C false o val (dA h) HF.r HF.U HF.F:=by
 have wq:dA h h.length=.bX:=Jk _ _ (Nat.le_refl _)
 cases pp with
 |no=>cases hp;exact hc.aDp
 |DT t p j ms k =>
  obtain⟨h1,h2⟩:=w9
  simp only[Pp.post]at hp
  cases hn:XK (gW res.U p) with
  |false=>rw[hn]at hp;cases hp
  |true =>
   rw[hn]at hp
   simp only[cond_true]at hp
   have hpU:=ka hn
   split at hp
   ·rename_i hm
    cases fl with
    |false=>cases hp
    |true =>
     cases hp
     obtain⟨_,hb⟩:=Lw ho
     have hb:=ES hb
     obtain⟨l,hl⟩:=Option.isSome_iff_exists.1 (hb _ List.mem_cons_self)
     obtain⟨i,rfl,hi⟩:=Qr hl
     have iI:=IC h2 fun b h=>hb b (List.mem_cons_of_mem _ h)
     simp only[Pp.val,Pp.h,hl,As,Option.getD_some]at hc
     refine (D9 h1 wq hi iI hc hpU (.inr ⟨hm,rfl⟩)).congr fun H hH=>?_
     funext k'
     have dF:=tne h1 wq
     have RO:ms.set i (some l)=ms:=by
      apply List.ext_getElem?
      intro q
      by_cases hq:q=i
      ·subst hq;rw[List.getElem?_set_self (List.getElem?_eq_some_iff.1 hi).1,hi]
      ·rw[List.getElem?_set_ne (Ne.symm hq)]
     rw[rT,rT,nD,nD,yC,yC,RO]
     by_cases e1:k'=p
     ·subst e1
      have:Nat.beq h.length k'=false:=by
       cases hb:Nat.beq h.length k' with
       |false=>rfl
       |true=>exact absurd (Nat.eq_of_beq_eq_true hb).symm dF
      simp only[gW,Nat.beq_refl,cond_true,this,cond_false,hpU]
      show _=H k'
      rw[hH k' (by simp),h1];rfl
     ·have b1:Nat.beq p k'=false:=by
       cases hb:Nat.beq p k' with
       |false=>rfl
       |true=>exact absurd (Nat.eq_of_beq_eq_true hb).symm e1
      by_cases e2:k'=h.length
      ·subst e2;simp only[gW,Nat.beq_refl,cond_true]
      ·have b2:Nat.beq h.length k'=false:=by
        cases hb:Nat.beq h.length k' with
        |false=>rfl
        |true=>exact absurd (Nat.eq_of_beq_eq_true hb).symm e2
       simp only[gW,b1,b2,cond_false,Fx e2]
   ·rename_i t' l' hm
    split at hp
    ·rename_i l2 V0
     obtain⟨e1,e2⟩:=iT V0
     subst e1;subst e2
     cases fl with
     |false=>cases hp
     |true =>
      cases hp
      obtain⟨_,hb⟩:=Lw ho
      have hb:=ES hb
      obtain⟨l,hl⟩:=Option.isSome_iff_exists.1 (hb _ List.mem_cons_self)
      obtain⟨i,rfl,hi⟩:=Qr hl
      have iI:=IC h2 fun b h=>hb b (List.mem_cons_of_mem _ h)
      simp only[Pp.val,Pp.h,hl,As,Option.getD_some]at hc
      exact D9 h1 wq hi iI hc hpU (.inl hm)
    ·cases hp
   ·rename_i hm
    cases hp
    obtain⟨_,hb⟩:=Lw ho
    have hb:=ES hb
    have iI:=IC h2 fun b h=>hb b (List.mem_cons_of_mem _ h)
    have UJ:=hb _ List.mem_cons_self
    simp only[Bool.or_eq_true]at UJ
    rcases UJ with hj|hj
    ·have:=Nat.eq_of_beq_eq_true hj
     subst this
     simp only[Pp.val,Pp.h,As,CE,Option.getD_none]at hc
     exact gl h1 wq iI hc hpU hm
    ·obtain⟨l,hl⟩:=Option.isSome_iff_exists.1 hj
     obtain⟨i,rfl,hi⟩:=Qr hl
     simp only[Pp.val,Pp.h,hl,As,Option.getD_some]at hc
     exact sj h1 wq hi iI hc hpU hm
   ·cases hp
 |frz t p j ms k =>
  obtain⟨h1,h2⟩:=w9
  cases hp
  obtain⟨_,hb⟩:=Lw ho
  have hb:=ES hb
  obtain⟨l,hl⟩:=Option.isSome_iff_exists.1 (hb _ List.mem_cons_self)
  obtain⟨i,rfl,hi⟩:=Qr hl
  have iI:=IC h2 fun b h=>hb b (List.mem_cons_of_mem _ (List.mem_append_left _ h))
  have N7:=Z1 (t:=t) (len:=l.length) (l:=eC o.op) (val:=val) (fun b h=>hb b (List.mem_cons_of_mem _ (List.mem_append_right _ (by simpa only[hl,Option.getD_some] using h)))) iI
  simp only[Pp.val,Pp.h,hl,As,Option.getD_some]at hc
  exact yz hD.C h1 wq hi N7 hc
theorem xk (h:List (bD τ))(res:jG τ):(YA h res).ob=res.ob:=by
 unfold YA
 split
 ·split
  ·split
   ·split<;>rfl
   ·rfl
  ·rfl
 ·rfl
theorem fx {E:Env}{C:eY τ}{o:Oper}{h:List (bD τ)}{val:Operand→TV τ}{res:jG τ}(hc:lZ E C false o val (dA h) res.r res.U res.F):lZ E C false o val (dA h) (YA h res).r (YA h res).U (YA h res).F:=by
 unfold YA
 split
 ·rename_i n hn
  split
  ·rename_i t l p hl hp
   split
   ·rename_i t' ms hm
    split
    ·rename_i kS hms
     obtain⟨e1,e2⟩:=Zy hms
     subst e1;subst e2
     refine gk hc ?_ hl
     split at hm
     ·rename_i e he;left;rw[he,hm]
     ·rename_i he;right;exact⟨he,hm⟩
    ·exact hc
   ·exact hc
  ·exact hc
 ·exact hc
theorem j6 {D:Zr τ}(hD:D.D.Ok){o:Oper}{h:List (bD τ)}{val:Operand→TV τ}{fl:Bool}{res HF:jG τ}{pp:Pp τ}(w9:W3 o h val pp)
  (hc:(res.ob=none∨res.ob=some true)→lZ D.D.E D.D.C fl o (pp.val h val) (dA (pp.h h)) res.r res.U res.F)
  (hp:aBa D o h val pp fl res=some HF) (ho:W2 HF.ob):lZ D.D.E D.D.C false o val (dA h) HF.r HF.U HF.F:=by
 unfold aBa at hp
 split at hp
 ·rename_i r1 h1
  have e:=Option.some.inj hp
  subst e
  cases hd:isDst o D.ad with
  |true =>
   rw[hd]at ho
   simp only[cond_true,xk]at ho ⊢
   exact fx (qb hD w9 (hc (aEA h1 ho)) h1 ho)
  |false =>
   rw[hd]at ho
   simp only[cond_false]at ho ⊢
   exact qb hD w9 (hc (aEA h1 ho)) h1 ho
 ·cases hp
def N0 {X:Type}(D:Zr τ)(st:mE τ)(o:Oper)(G:Option (Nat×Bool))(pp:Pp τ)(fl:Bool)(res:jG τ)(next:mE τ→List Nat→List Nat→Option X):Option X :=
 match aBa D o st.h (fun x=>(st.val x).strip) pp fl res with
 |some res=>fin st o G res next
 |none=>none
def nf {X:Type}(D:Zr τ)(st:mE τ)(o:Oper)(pp:Pp τ)(x:wc τ)(r:x.c.R)(next:mE τ→List Nat→List Nat→Option X):Option X :=
 match x.c.alt with
 |none=>N0 D st o none pp (Pj x.c.L) (xK x.σ (pp.h st.h).length (x.c.Ze D.D.C r)) next
 |some A=>bif x.c.JY r then N0 D st o none pp (Pj x.c.L) (xK x.σ (pp.h st.h).length (A.out D.D.C r)) next else N0 D st o none pp (Pj x.c.L) (xK x.σ (pp.h st.h).length (x.c.Ze D.D.C r)) next
def calls {X:Type}(D:Zr τ)(st:mE τ)(o:Oper)(G:Option (Nat×Bool))(pp:Pp τ)(N:Nat)(x:wc τ)(next:mE τ→List Nat→List Nat→Option X):Option X :=
 match G with
 |none=>(x.c.F N x.a x.b).bind fun r=>nf D st o pp x r next
 |some g=>match Ao st.t g,x.c.L',x.c.alt with
  |some b,[],none=>(bif b then x.c.F N x.a x.b else some x.c.IQ).bind fun r=>N0 D st o G pp (Pj x.c.L) (xK x.σ (pp.h st.h).length (x.c.Ze D.D.C r)) next
  |some b,_,_=>bif b then ((x.c.F N x.a x.b).bind fun r=>nf D st o pp x r next) else next (uB { st with off:=g :: st.off } o .aZ []) [] []
  |none,_,_=>none
def j0 {X:Type}(st:mE τ)(o:Oper)(G:Option (Nat×Bool))(next:mE τ→List Nat→List Nat→Option X):Option X :=
 match G with
 |none=>none
 |some g=>match Ao st.t g with
  |some b=>bif b then none else next (uB { st with off:=g :: st.off } o .aZ []) [] []
  |none=>none
def D3 {R:Type}(n:Nat):Option (Alt τ R)→Bool
 |none=>true
 |some A=>Nat.ble n A.L'.length
def aEC {X:Type}(D:Zr τ)(N:Nat)(o:Oper)(st:mE τ)(G:Option (Nat×Bool))(pp:Pp τ)(next:mE τ→List Nat→List Nat→Option X):Option X :=
 match W9 (pp.val st.h (fun x=>(st.val x).strip)) o.op with
 |some (f,args)=>(match ua D.D.C (D.mi f) (pp.h st.h) args with
  |some x=>bif Nat.ble x.c.L.length x.c.L'.length&&D3 x.c.L.length x.c.alt then calls D st o G pp N x next else none
  |none=>j0 st o G next)
 |none=>(match evT D.D (dA (pp.h st.h)) (pp.h st.h).length (match o.dst with|some k=>WE k D.mu|none=>false) o.op (pp.val st.h (fun x=>(st.val x).strip)) with
  |some res=>bif j5 (dA (pp.h st.h)) res.U res.F then N0 D st o G pp true res next else none
  |none=>j0 st o G next)
def step {X:Type}(D:Zr τ)(N:Nat)(ops:Array Oper)(o:Oper)(st:mE τ)(next:mE τ→List Nat→List Nat→Option X):Option X :=
 bif Sg st o then
  match AQ ops st.t o with
  |none=>none
  |some G =>
   bif aGs st.off G then next (uB st o .aZ []) [] [] else
   match o.op with
   |.pick c a b=>(match aA7 st G c a b with|some r=>fin st o G { r:=r } next|none=>j0 st o G next)
   |op =>
    bif (eC op).all (fun x=>PM st.t G (st.val x)) then aEC D N o st G (aBb D o st.h (fun x=>(st.val x).strip)) next
    else none
 else none
def Vb {α:Type}(p:α→Bool):List α→Nat→List Nat
 |[],_=>[]
 |x :: r,i=>bif p x then i :: Vb p r (i+1) else Vb p r (i+1)
def Sl.ZP:Sl→Bool
 |.iO=>true
 |_=>false
def bZ.ZP:bZ→Bool
 |.iO=>true
 |_=>false
def XP (a b:Nat):List Nat:=List.range' a (b - a)
def Lp.zq (lp:Lp τ)(st:mE τ):List Nat:=Vb (fun s=>!s.ZP) lp.ts 0++XP lp.ts.length st.t.length
def Lp.zp (lp:Lp τ)(st:mE τ):List Nat:=Vb (fun s=>!s.ZP) lp.hs 0++XP lp.hs.length st.h.length
def Lp.back (lp:Lp τ)(st fZ:mE τ):mE τ:={ fZ with dt:=fZ.dt++(lp.zq st++st.dt),dh:=fZ.dh++(lp.zp st++st.dh),off:=[] }
def TV.KQ:TV τ→Bool
 |.yK _ _ _ _=>true
 |_=>false
def Vr (st:mE τ):mE τ:={ st with t:=st.t.map (fun x=>bif x.KQ then .aZ else x),dt:=Vb TV.KQ st.t 0++st.dt,off:=[] }
def MA {X:Type}(e:Nat)(go:Code→Option X):List Nat→Option X
 |[]=>none
 |q :: l=>bif Nat.beq e q then go (Mq q) else MA e go l
def PW (st:mE τ)(h:List (bD τ))(ids:List Nat):mE τ:={ t:=st.t,h:=Qi h st.h.length .dead,dt:=st.dt,dh:=st.h.length :: (ids++st.dh),off:=[] }
def Gc (D:Zr τ)(st:mE τ)(asg body:Code):List (bD τ):=Qi st.h st.h.length (.yU D.et (QA asg body) (st.t.map nc))
def IL (st:mE τ)(h1:List (bD τ))(σ:List Nat)(out:TV τ×List (bD τ)):List (Nat×bD τ):=U4 (Ny σ h1.length) out.2 0
def run {X:Type}(D:Zr τ)(N:Nat):Nat→List Ec→mE τ→(Exit→mE τ→Option X)→Option X
 |0,_,_,_=>none
 |n+1,t,st,K =>
  match t with
  |[]=>K .normal st
  |.we _ :: t=>run D N n t st K
  |.code c :: t =>
   match c with
   |.skip=>run D N n t st K
   |.seq a b=>run D N n (.code a :: .code b :: t) st K
   |.block id c=>run D N n (.code c :: .we id :: t) st K
   |.exit id=>(match Mp id t with|some t'=>run D N n t' st K|none=>K (.exit id) st)
   |.ret=>K .ret st
   |.label _=>run D N n t st K
   |.scope c=>run D N n (.code c :: t) st K
   |.region _ ops draw=>run D N n (.ops ops draw 0 ops.toList [] :: t) st K
   |.cond c x y=>(match st.val c with | .bool b=>bif b then run D N n (.code x :: t) st K else run D N n (.code y :: t) st K|_=>none)
   |.loop c=>(match key c with
    |none=>none
    |some k=>match unOf D.un k with
     |some m=>run D N n (.rep c m :: t) st K
     |none=>match aA6 st.t st.h (D.lp k) with
     |none=>none
     |some lp=>match lp.dec D.D.C D.k0 { st with dt:=[],dh:=[] } with
      |none=>none
      |some s0=>iter N (fun s next=>run D N n [.code c] (lp.head D.D.C st s) fun e fZ=>match e with
       |.normal=>(match lp.dec D.D.C D.k0 fZ with|some s'=>next s' | none=>none)
       |.ret=>K .ret (lp.back st fZ)
       |.exit id=>(match Mp id t with|some t'=>run D N n t' (lp.back st fZ) K|none=>K (.exit id) (lp.back st fZ))
       |_=>none) s0)
   |.rangeFunc tn _ asg body =>
    bif D.inr then none else
    (match st.val tn with
    |.fn f Ht =>
     bif Nat.beq f Ae then none else
     (match ua D.D.C (D.mi f) (Gc D st asg body) (.Ar st.h.length :: Ht) with
     |some x =>
      bif x.c.ext then none else
      bif Nat.ble x.c.L.length x.c.L'.length&&D3 x.c.L.length x.c.alt then
       (x.c.F N x.a x.b).bind fun r =>
        match x.c.alt with
        |none =>
         (match dA (Me (Gc D st asg body) (IL st (Gc D st asg body) x.σ (x.c.Ze D.D.C r))) st.h.length with
         |.yU _ _ _=>run D N n t (PW st (Me (Gc D st asg body) (IL st (Gc D st asg body) x.σ (x.c.Ze D.D.C r))) ((IL st (Gc D st asg body) x.σ (x.c.Ze D.D.C r)).map (·.1))) K
         |.Qa e=>MA e (fun c=>run D N n (.code c :: t) (PW st (Me (Gc D st asg body) (IL st (Gc D st asg body) x.σ (x.c.Ze D.D.C r))) ((IL st (Gc D st asg body) x.σ (x.c.Ze D.D.C r)).map (·.1))) K) D.ex
         |_=>none)
        |some A =>
         bif x.c.JY r then
          (match dA (Me (Gc D st asg body) (IL st (Gc D st asg body) x.σ (A.out D.D.C r))) st.h.length with
          |.yU _ _ _=>run D N n t (PW st (Me (Gc D st asg body) (IL st (Gc D st asg body) x.σ (A.out D.D.C r))) ((IL st (Gc D st asg body) x.σ (A.out D.D.C r)).map (·.1))) K
          |.Qa e=>MA e (fun c=>run D N n (.code c :: t) (PW st (Me (Gc D st asg body) (IL st (Gc D st asg body) x.σ (A.out D.D.C r))) ((IL st (Gc D st asg body) x.σ (A.out D.D.C r)).map (·.1))) K) D.ex
          |_=>none)
         else
          (match dA (Me (Gc D st asg body) (IL st (Gc D st asg body) x.σ (x.c.Ze D.D.C r))) st.h.length with
          |.yU _ _ _=>run D N n t (PW st (Me (Gc D st asg body) (IL st (Gc D st asg body) x.σ (x.c.Ze D.D.C r))) ((IL st (Gc D st asg body) x.σ (x.c.Ze D.D.C r)).map (·.1))) K
          |.Qa e=>MA e (fun c=>run D N n (.code c :: t) (PW st (Me (Gc D st asg body) (IL st (Gc D st asg body) x.σ (x.c.Ze D.D.C r))) ((IL st (Gc D st asg body) x.σ (x.c.Ze D.D.C r)).map (·.1))) K) D.ex
          |_=>none)
      else none
     |none=>none)
    |_=>none)
   |_=>none
  |.rep c m :: t=>(match m with
   |0=>none
   |m+1=>run D N n (.code c :: .rep c m :: t) (Vr st) K)
  |.ops ops draw i rest tr :: t =>
   match rest with
   |[]=>bif !draw || indep (UU ops) tr then run D N n t { st with off:=[] } K else none
   |o :: rest=>step D N ops o st fun fZ F U=>run D N n (.ops ops draw (i+1) rest ((i,F,U) :: tr) :: t) fZ K
def lQ (E:Env)(k0:Nat):List Ec→(Exit→St→Prop)→Exit→St→Prop
 |[],Q,e,st=>Q e st
 |.we id :: t,Q,e,st=>match e with
  |.exit i=>if i=id then lQ E k0 t Q .normal st else lQ E k0 t Q (.exit i) st
  |e=>lQ E k0 t Q e st
 |.code c :: t,Q,e,st=>match e with
  |.normal=>Er E k0 c st (lQ E k0 t Q)
  |e=>lQ E k0 t Q e st
 |.rep c m :: t,Q,e,st=>match e with
  |.normal=>RU E k0 c (lQ E k0 t Q) m st
  |e=>lQ E k0 t Q e st
 |.ops ops draw i rest tr :: t,Q,e,st=>match e with
  |.normal=>∃ xs fZ,fw E ops rest st xs fZ∧(draw=true→indep (UU ops) (dr i xs tr)=true)∧lQ E k0 t Q .normal fZ
  |e=>lQ E k0 t Q e st
theorem Qs {E:Env}{k0:Nat}{Q:Exit→St→Prop}{id:Nat}{st:St}:∀ {t:List Ec},(match Mp id t with|some t'=>lQ E k0 t' Q .normal st|none=>Q (.exit id) st)→lQ E k0 t Q (.exit id) st
 |[],h=>h
 |.we i :: t,h=>by
  simp only[Mp]at h
  simp only[lQ]
  cases hb:Nat.beq i id with
  |true =>
   rw[hb]at h
   rw[if_pos (Nat.eq_of_beq_eq_true hb).symm]
   exact h
  |false =>
   rw[hb]at h
   rw[if_neg fun e=>by subst e;simp at hb]
   exact Qs h
 |.code c :: t,h=>by simp only[Mp]at h;simp only[lQ];exact Qs h
 |.rep c m :: t,h=>by simp only[Mp]at h;simp only[lQ];exact Qs h
 |.ops _ _ _ _ _ :: t,h=>by simp only[Mp]at h;simp only[lQ];exact Qs h
theorem Qt {E:Env}{k0:Nat}{Q:Exit→St→Prop}{l:Nat}{st:St}:∀ {t:List Ec},lQ E k0 t Q (.goto l) st→Q (.goto l) st
 |[],h=>h
 |.we i :: t,h=>by simp only[lQ]at h;exact Qt h
 |.code c :: t,h=>by simp only[lQ]at h;exact Qt h
 |.rep c m :: t,h=>by simp only[lQ]at h;exact Qt h
 |.ops _ _ _ _ _ :: t,h=>by simp only[lQ]at h;exact Qt h
theorem RU.mono {E:Env}{k0:Nat}{c:Code}{Q Q':Exit→St→Prop}(hq:∀ e s,Q e s→Q' e s):∀ {m:Nat} {st:St},RU E k0 c Q m st→RU E k0 c Q' m st
 |0,_,h=>h
 |m+1,st,h=>Er.mono (fun e s hs=>by cases e<;>first|exact RU.mono hq hs|exact hq _ _ hs) h
theorem zI {E:Env}{k0:Nat}{Q Q':Exit→St→Prop}(hq:∀ e s,Q e s→Q' e s):∀ {t:List Ec} {e:Exit} {st:St},lQ E k0 t Q e st→lQ E k0 t Q' e st
 |[],_,_,h=>hq _ _ h
 |.we i :: t,e,st,h=>by
  cases e with
  |exit j =>
   simp only[lQ]at h ⊢
   split
   ·rename_i hj;rw[if_pos hj]at h;exact zI hq h
   ·rename_i hj;rw[if_neg hj]at h;exact zI hq h
  |_=>simp only[lQ]at h ⊢;exact zI hq h
 |.code c :: t,e,st,h=>by
  cases e with
  |normal=>simp only[lQ]at h ⊢;exact Er.mono (fun e s hs=>zI hq hs) h
  |_=>simp only[lQ]at h ⊢;exact zI hq h
 |.rep c m :: t,e,st,h=>by
  cases e with
  |normal=>simp only[lQ]at h ⊢;exact RU.mono (fun e s hs=>zI hq hs) h
  |_=>simp only[lQ]at h ⊢;exact zI hq h
 |.ops _ _ _ _ _ :: t,e,st,h=>by
  cases e with
  |normal=>simp only[lQ]at h ⊢;obtain⟨xs,fZ,h1,h2,h3⟩:=h;exact⟨xs,fZ,h1,h2,zI hq h3⟩
  |_=>simp only[lQ]at h ⊢;exact zI hq h
theorem Tg {E:Env}{k0:Nat}{Q:Exit→St→Prop}{st:St}:∀ {t:List Ec},Q .ret st→lQ E k0 t Q .ret st
 |[],h=>h
 |.we i :: t,h=>by simp only[lQ];exact Tg h
 |.code c :: t,h=>by simp only[lQ];exact Tg h
 |.rep c m :: t,h=>by simp only[lQ];exact Tg h
 |.ops _ _ _ _ _ :: t,h=>by simp only[lQ];exact Tg h
def Fj (S:Array Tmp→Code→Code→Prop):List Ec→Prop
 |[]=>True
 |.we _ :: t=>Fj S t
 |.code c :: t=>QX S c∧Fj S t
 |.rep c _ :: t=>QX S c∧Fj S t
 |.ops _ _ _ _ _ :: t=>Fj S t
theorem Fj.exit {S:Array Tmp→Code→Code→Prop}{id:Nat}:∀ {t t':List Ec},Fj S t→Mp id t=some t'→Fj S t'
 |[],_,_,h=>by cases h
 |.we i :: t,t',ht,h=>by
  simp only[Mp]at h
  cases hb:Nat.beq i id with
  |true=>rw[hb]at h;cases h;exact ht
  |false=>rw[hb]at h;exact Fj.exit (t:=t) ht h
 |.code c :: t,t',ht,h=>Fj.exit ht.2 h
 |.rep c _ :: t,t',ht,h=>Fj.exit (t:=t) ht.2 h
 |.ops _ _ _ _ _ :: t,t',ht,h=>Fj.exit (t:=t) ht h
structure Gd (st:mE τ):Prop where
 inv:Inv st.t
 off:aDt st
structure mw (st fZ:mE τ):Prop where
 len:fZ.t.length=st.t.length
 dt:∀ k,k ∉ fZ.dt→k ∉ st.dt∧sG fZ.t k=sG st.t k
 dh:∀ i,i ∉ fZ.dh→i ∉ st.dh∧dA fZ.h i=dA st.h i
theorem mw.refl (st:mE τ):mw st st:=⟨rfl,fun _ h=>⟨h,rfl⟩,fun _ h=>⟨h,rfl⟩⟩
theorem mw.trans {a b c:mE τ}(h:mw a b)(h':mw b c):mw a c :=
 ⟨h'.len.trans h.len,fun k hk=>⟨(h.dt k (h'.dt k hk).1).1,(h'.dt k hk).2.trans (h.dt k (h'.dt k hk).1).2⟩,fun i hi=>⟨(h.dh i (h'.dh i hi).1).1,(h'.dh i hi).2.trans (h.dh i (h'.dh i hi).1).2⟩⟩
theorem OF (st:mE τ)(o:Oper)(r:TV τ)(U:List (Nat×bD τ)):mw st (uB st o r U):=by
 refine⟨?_,fun k hk=>?_,fun i hi=>?_⟩
 ·simp only[uB];cases o.dst<;>simp[US]
 ·simp only[uB]at hk ⊢
  cases hd:o.dst with
  |none=>rw[hd]at hk;exact⟨hk,rfl⟩
  |some d =>
   rw[hd]at hk
   simp only[List.mem_cons,not_or]at hk
   exact⟨hk.2,IP _ _ _ _ hk.1⟩
 ·simp only[uB,List.mem_append,not_or]at hi ⊢
  exact⟨hi.2,CR U _ i hi.1⟩
theorem Zo:∀ {t:List (TV τ)} {k:Nat},sG t k∈t∨sG t k=.aZ
 |[],k=>.inr rfl
 |x :: r,0=>.inl List.mem_cons_self
 |x :: r,k+1=>(Zo (t:=r) (k:=k)).imp (List.mem_cons_of_mem _) id
theorem aCP {st:mE τ}{k:Nat}(h:H7 st k=true){j d:Nat}{w b:Bool}{x:TV τ}(hj:sG st.t j=.yK d w b x):d≠k:=by
 simp only[H7,Bool.and_eq_true]at h
 rcases Zo (t:=st.t) (k:=j) with hm|hm
 ·have:=List.all_eq_true.1 h.1 _ hm
  rw[hj]at this
  intro e;subst e;simp at this
 ·rw[hj]at hm;cases hm
theorem uk {st:mE τ}{k:Nat}(h:H7 st k=true){g:Nat×Bool}(hg:g∈st.off):g.1≠k:=by
 simp only[H7,Bool.and_eq_true]at h
 have:=List.all_eq_true.1 h.2 _ hg
 intro e;subst e;simp at this
theorem LO {t:List (TV τ)}{k:Nat}{v:TV τ}{g:Nat×Bool}(h:g.1≠k):Ao (KH t k v) g=Ao t g:=by
 unfold Ao
 rw[IP _ _ _ _ h]
theorem XF {st:mE τ}(hg:Gd st){o:Oper}(hd:Sg st o=true){r:TV τ}(U:List (Nat×bD τ))(hr:∀ d w b x,r=.yK d w b x→Ao st.t (d,w)=some b∧∀ k,o.dst=some k→d≠k):Gd (uB st o r U):=by
 unfold Sg at hd
 cases ho:o.dst with
 |none =>
  refine⟨fun k d w b x h=>?_,fun g h=>?_⟩
  ·simp only[uB,ho]at h ⊢;exact hg.inv k d w b x h
  ·simp only[uB,ho]at h ⊢;exact hg.off g h
 |some k =>
  rw[ho]at hd
  simp only[]at hd
  refine⟨fun j d w b x h=>?_,fun g h=>?_⟩
  ·simp only[uB,ho]at h ⊢
   by_cases hj:j=k
   ·subst hj
    rcases HN st.t j r with e|e
    ·rw[e]at h
     obtain⟨h1,h2⟩:=hr d w b x h
     rw[LO (h2 j ho)];exact h1
    ·rw[e]at h;cases h
   ·rw[IP _ _ _ _ hj]at h
    rw[LO (aCP hd h)];exact hg.inv j d w b x h
  ·simp only[uB,ho]at h ⊢
   have h':g∈st.off:=h
   have:=hg.off g h'
   rw[LO (uk hd h')]
   exact this
theorem aAT {r:TV τ}:∀ d w b x,nc r≠.yK d w b x:=fun d w b x e=>by cases r<;>cases e
theorem HV {C:eY τ}(st:mE τ)(o:Oper)(r:TV τ)(U:List (Nat×bD τ))(F:List Nat):(fG C st).after o ⟨Dh C r,pQ C U,F⟩=fG C (uB st o r U):=by
 simp only[St.after,fG,uB,NT,St.put]
 cases o.dst with
 |none=>rfl
 |some k=>simp only[cw]
theorem Y1 (C:eY τ)(U:List (Nat×bD τ)):(pQ C U).map (·.1)=U.map (·.1):=by simp[pQ]
def XZ (E:Env)(C:eY τ)(ops:Array Oper)(o:Oper)(st fZ:mE τ)(F U:List Nat):Prop :=
 ∃ x:Rec,Local E ops o (fG C st) x∧(∀ id∈x.U.map (·.1),id∈x.F)∧x.F=F∧x.U.map (·.1)=U∧(fG C st).after o x=fG C fZ∧Gd fZ∧mw st fZ
theorem bm {X:Type}{ob:Option Bool}{k:Option X}{x:X}(hk:obc ob k=some x):(∀ b,ob=some b→b=true)∧k=some x:=by
 unfold obc at hk
 split at hk
 ·exact⟨fun b hb=>(nomatch hb),hk⟩
 ·rename_i b
  cases b with
  |true=>exact⟨fun b' RK=>(by cases RK;rfl),hk⟩
  |false=>cases hk
theorem aCI {C:eY τ}{U:List (Nat×bD τ)}{F:List Nat}(hi:aq U F=true):∀ id∈(pQ C U).map (·.1),id∈F:=fun id gY=>by
 rw[Y1]at gY
 obtain⟨p,hp,rfl⟩:=List.mem_map.1 gY
 exact Yn.1 (List.all_eq_true.1 hi p hp)
theorem dq {E:Env}{C:eY τ}{ops:Array Oper}{o:Oper}{st:mE τ}(hg:Gd st)(hd:Sg st o=true){res:jG τ}(hi:aq res.U res.F=true)(hs:QZ E C o st res.r res.U res.F)
  (XG:guardOf ops (fG C st) o=some none∨guardOf ops (fG C st) o=some (some true)):XZ E C ops o st (uB st o (nc res.r) res.U) res.F (res.U.map (·.1)):=by
 refine⟨⟨Dh C (nc res.r),pQ C res.U,res.F⟩,aAO XG fun s' g a w hr hv hH nx Q hn=>?_,aCI hi,rfl,Y1 C res.U,HV _ _ _ _ _,XF hg hd _ (fun d w b y e=>absurd e (aAT d w b y)),OF _ _ _ _⟩
 exact hs s' g a w hr hv (fun id gY=>by rw[hH id gY];simp only[fG,pS]) nx Q fun v g' w' h1 h2=>hn v g' w' (aAU h1) h2
theorem aB4 {E:Env}{C:eY τ}{ops:Array Oper}{o:Oper}{st:mE τ}(hg:Gd st)(hd:Sg st o=true){g:Nat×Bool}{b:Bool}(hb:Ao st.t g=some b)(XG:guardOf ops (fG C st) o=some (some b))(ji:∀ k,o.dst=some k→g.1≠k)
  {r:TV τ} {F:List Nat} (hs:b=true→QZ E C o st r [] F):XZ E C ops o st (uB st o (.yK g.1 g.2 b (nc r)) []) F []:=by
 refine⟨⟨.yK b ((nc r).den C),[],F⟩,ui XG fun hbt s' g1 a w hr hv hH nx Q hn=>?_,by simp,rfl,rfl,HV st o (.yK g.1 g.2 b (nc r)) [] F,XF hg hd _ fun d w b' y e=>?_,OF _ _ _ _⟩
 ·refine hs hbt s' g1 a w hr hv (fun id gY=>by rw[hH id gY];simp only[fG,pS]) nx Q fun v g' w' h1 h2=>hn v g' w' ?_ h2
  have:=aAU h1
  cases r<;>exact this
 ·cases e
  exact⟨hb,ji⟩
theorem TL {E:Env}{C:eY τ}{ops:Array Oper}{o:Oper}{st:mE τ}(hg:Gd st)(hd:Sg st o=true){g:Nat×Bool}(hb:Ao st.t g=some false)(XG:guardOf ops (fG C st) o=some (some false))(ji:∀ k,o.dst=some k→g.1≠k) :
  XZ E C ops o st (uB { st with off:=g :: st.off } o .aZ []) [] []:=by
 refine⟨⟨Dh C .aZ,pQ C [],[]⟩,G8 XG,by simp[pQ],rfl,rfl,?_,?_,?_⟩
 ·have:=HV (C:=C) { st with off:=g :: st.off } o .aZ [] []
  exact this
 ·have w6:Gd { st with off:=g :: st.off }:=⟨hg.inv,fun g' w6=>by
   rcases List.mem_cons.1 w6 with e|e
   ·subst e;exact hb
   ·exact hg.off g' e⟩
  refine XF w6 ?_ [] (fun d w b y e=>by cases e)
  unfold Sg at hd ⊢
  split
  ·rename_i k hk
   rw[hk]at hd
   simp only[H7,Bool.and_eq_true,List.all_cons]at hd ⊢
   refine⟨hd.1,?_,hd.2⟩
   have:=ji k hk
   cases hbk:Nat.beq g.1 k with
   |false=>rfl
   |true=>exact absurd (Nat.eq_of_beq_eq_true hbk) this
  ·rfl
 ·have:=OF { st with off:=g :: st.off } o .aZ []
  exact⟨this.len,this.dt,this.dh⟩
theorem Z0 {E:Env}{C:eY τ}{X:Type}{ops:Array Oper}{o:Oper}{st:mE τ}(hg:Gd st)(hd:Sg st o=true)(XG:guardOf ops (fG C st) o=some none∨guardOf ops (fG C st) o=some (some true)){res:jG τ}
  {next:mE τ→List Nat→List Nat→Option X} {x:X} (Yf:(∀ b,res.ob=some b→b=true)→QZ E C o st res.r res.U res.F) (h:fin st o none res next=some x):∃ fZ F U,XZ E C ops o st fZ F U∧next fZ F U=some x:=by
 unfold fin at h
 cases hi:aq res.U res.F with
 |false=>rw[hi]at h;cases h
 |true =>
  rw[hi]at h
  simp only[cond_true]at h
  obtain⟨h1,h2⟩:=bm h
  exact⟨_,_,_,dq hg hd hi (Yf h1) XG,h2⟩
theorem F6 {E:Env}{C:eY τ}{X:Type}{ops:Array Oper}{o:Oper}{st:mE τ}(hg:Gd st)(hd:Sg st o=true){G:Option (Nat×Bool)}(hG:AQ ops st.t o=some G){res:jG τ}{next:mE τ→List Nat→List Nat→Option X}{x:X}
  (Yf:(∀ b,res.ob=some b→b=true)→OH st.t G→QZ E C o st res.r res.U res.F) (h:fin st o G res next=some x):∃ fZ F U,XZ E C ops o st fZ F U∧next fZ F U=some x:=by
 cases G with
 |none=>exact Z0 hg hd (.inl (UI hG)) (fun hb=>Yf hb trivial) h
 |some g =>
  unfold fin at h
  cases hi:aq res.U res.F with
  |false=>rw[hi]at h;cases h
  |true =>
   rw[hi]at h
   simp only[cond_true]at h
   obtain⟨b,hb,XG,ji⟩:=Uy (C:=C) hG
   simp only[hb]at h
   split at h
   ·rename_i b' RK hU
    simp only[Option.some.injEq]at RK
    subst RK
    have jM:(b=true→∀ c,res.ob=some c→c=true)∧next (uB st o (.yK g.1 g.2 b (nc res.r)) []) res.F []=some x:=by
     unfold obg at h
     split at h
     ·rename_i hn;exact⟨fun _ c hc=>(by rw[hn]at hc;cases hc),h⟩
     ·rename_i c hc
      cases hbc:(!b || c) with
      |false=>rw[hbc]at h;cases h
      |true =>
       rw[hbc]at h
       refine⟨fun hbt c' ew=>?_,h⟩
       rw[hc]at ew;cases ew
       subst hbt;simpa using hbc
    exact⟨_,_,_,aB4 hg hd hb XG ji fun hbt=>(by have:=Yf (jM.1 hbt) (show Ao st.t g=some true by rw[hb,hbt]);rw[hU]at this;exact this),jM.2⟩
   ·rename_i b' U' RK dF
    simp only[Option.some.injEq]at RK
    subst RK
    cases b with
    |true =>
     simp only[cond_true]at h
     obtain⟨h1,h2⟩:=bm h
     exact⟨_,_,_,dq hg hd hi (Yf h1 hb) (.inr XG),h2⟩
    |false =>
     simp only[cond_false]at h
     exact⟨_,_,_,TL hg hd hb XG ji,h⟩
   ·cases h
theorem BY {E:Env}{C:eY τ}{X:Type}{ops:Array Oper}{o:Oper}{st:mE τ}(hg:Gd st)(hd:Sg st o=true){G:Option (Nat×Bool)}(hG:AQ ops st.t o=some G)
  {next:mE τ→List Nat→List Nat→Option X} {y:X} (h:j0 st o G next=some y):∃ fZ F U,XZ E C ops o st fZ F U∧next fZ F U=some y:=by
 unfold j0 at h
 cases G with
 |none=>cases h
 |some g =>
  obtain⟨b,hb,XG,ji⟩:=Uy (C:=C) hG
  simp only[hb]at h
  cases b with
  |true=>cases h
  |false =>
   simp only[cond_false]at h
   exact⟨_,_,_,TL hg hd hb XG ji,h⟩
theorem RG {D:Zr τ}(hD:D.D.Ok){X:Type}{ops:Array Oper}{o:Oper}{st:mE τ}(hg:Gd st)(hd:Sg st o=true)(XG:guardOf ops (fG D.D.C st) o=some none∨guardOf ops (fG D.D.C st) o=some (some true))
  {G:Option (Nat×Bool)} (wh:OH st.t G) (Hm:(eC o.op).all (fun x=>PM st.t G (st.val x))=true) {pp:Pp τ} (w9:W3 o st.h (fun x=>(st.val x).strip) pp) {fl:Bool} {res:jG τ}
  (hc:(res.ob=none∨res.ob=some true)→lZ D.D.E D.D.C fl o (pp.val st.h (fun x=>(st.val x).strip)) (dA (pp.h st.h)) res.r res.U res.F)
  {next:mE τ→List Nat→List Nat→Option X} {y:X} (h:N0 D st o none pp fl res next=some y):∃ fZ F U,XZ D.D.E D.D.C ops o st fZ F U∧next fZ F U=some y:=by
 unfold N0 at h
 split at h
 ·rename_i HF hr
  exact Z0 hg hd XG (fun ho=>(j6 hD w9 hc hr ho).step hg.inv wh Hm) h
 ·cases h
theorem ZC {D:Zr τ}(hD:D.D.Ok){X:Type}{ops:Array Oper}{o:Oper}{st:mE τ}(hg:Gd st)(hd:Sg st o=true){G:Option (Nat×Bool)}(hG:AQ ops st.t o=some G)(Hm:(eC o.op).all (fun x=>PM st.t G (st.val x))=true)
  {pp:Pp τ} (w9:W3 o st.h (fun x=>(st.val x).strip) pp) {fl:Bool} {res:jG τ} (hc:OH st.t G→(res.ob=none∨res.ob=some true)→lZ D.D.E D.D.C fl o (pp.val st.h (fun x=>(st.val x).strip)) (dA (pp.h st.h)) res.r res.U res.F)
  {next:mE τ→List Nat→List Nat→Option X} {y:X} (h:N0 D st o G pp fl res next=some y):∃ fZ F U,XZ D.D.E D.D.C ops o st fZ F U∧next fZ F U=some y:=by
 unfold N0 at h
 split at h
 ·rename_i HF hr
  exact F6 hg hd hG (fun ho wh=>(j6 hD w9 (hc wh) hr ho).step hg.inv wh Hm) h
 ·cases h
theorem TU {D:Zr τ}(hD:D.D.Ok){X:Type}{ops:Array Oper}{o:Oper}{st:mE τ}(hg:Gd st)(hd:Sg st o=true)(XG:guardOf ops (fG D.D.C st) o=some none∨guardOf ops (fG D.D.C st) o=some (some true))
  {G:Option (Nat×Bool)} (wh:OH st.t G) (Hm:(eC o.op).all (fun x=>PM st.t G (st.val x))=true) {pp:Pp τ} (w9:W3 o st.h (fun x=>(st.val x).strip) pp)
  {f:FuncId} {args:List (TV τ)} (hc:W9 (pp.val st.h (fun x=>(st.val x).strip)) o.op=some (f,args)) {x:wc τ} (hx:XX D.D.C (pp.h st.h) args x) {N:Nat} (aAn:aR D.D.E D.D.C f x.c) (hq:x.c.L.length≤x.c.L'.length) (hq2:D3 x.c.L.length x.c.alt=true)
  {r:x.c.R} (hr:x.c.F N x.a x.b=some r) {next:mE τ→List Nat→List Nat→Option X} {y:X} (h:nf D st o pp x r next=some y):∃ fZ F U,XZ D.D.E D.D.C ops o st fZ F U∧next fZ F U=some y:=by
 have hs:=aAn N x.a x.b r hr
 unfold nf at h
 unfold dL.out at hs
 split at h
 ·rename_i ha
  rw[ha]at hs
  exact RG hD hg hd XG wh Hm w9 (fun _=>HY hD hc hx hs (by simp only[dL.Ze,iU];exact hq)) h
 ·rename_i A ha
  rw[ha]at hs hq2
  simp only[]at hs
  cases aCF:x.c.JY r with
  |true =>
   rw[aCF]at h hs
   simp only[cond_true]at hs
   exact RG hD hg hd XG wh Hm w9 (fun _=>HY hD hc hx hs (by simp only[Alt.out,iU];exact Nat.le_of_ble_eq_true hq2)) h
  |false =>
   rw[aCF]at h hs
   simp only[cond_false]at hs
   exact RG hD hg hd XG wh Hm w9 (fun _=>HY hD hc hx hs (by simp only[dL.Ze,iU];exact hq)) h
theorem X0 {D:Zr τ}(hD:D.D.Ok){X:Type}{ops:Array Oper}{o:Oper}{st:mE τ}(hg:Gd st)(hd:Sg st o=true){G:Option (Nat×Bool)}(hG:AQ ops st.t o=some G)(Hm:(eC o.op).all (fun x=>PM st.t G (st.val x))=true)
  {pp:Pp τ} (w9:W3 o st.h (fun x=>(st.val x).strip) pp)
  {f:FuncId} {args:List (TV τ)} (hc:W9 (pp.val st.h (fun x=>(st.val x).strip)) o.op=some (f,args)) {x:wc τ} (hx:XX D.D.C (pp.h st.h) args x) {N:Nat} (aAn:aR D.D.E D.D.C f x.c) (hq:x.c.L.length≤x.c.L'.length) (hq2:D3 x.c.L.length x.c.alt=true)
  {next:mE τ→List Nat→List Nat→Option X} {y:X} (h:calls D st o G pp N x next=some y):∃ fZ F U,XZ D.D.E D.D.C ops o st fZ F U∧next fZ F U=some y:=by
 unfold calls at h
 cases G with
 |none =>
  obtain⟨r,h1,h2⟩:=Option.bind_eq_some_iff.1 h
  exact TU hD hg hd (.inl (UI hG)) (G:=none) trivial Hm w9 hc hx aAn hq hq2 h1 h2
 |some g =>
  obtain⟨b,hb,XG,ji⟩:=Uy (C:=D.D.C) hG
  simp only[hb]at h
  split at h
  ·rename_i b' RK IG ha
   simp only[Option.some.injEq]at RK
   subst RK
   obtain⟨r,h1,h2⟩:=Option.bind_eq_some_iff.1 h
   refine ZC hD hg hd hG Hm w9 (fun wh _=>?_) h2
   have hbt:b=true:=by
    have:Ao st.t g=some true:=wh
    rw[hb]at this;exact Option.some.inj this
   rw[hbt]at h1
   have hs:=aAn N x.a x.b r h1
   unfold dL.out at hs
   rw[ha]at hs
   exact HY hD hc hx hs (by simp only[dL.Ze,iU];exact hq)
  ·rename_i b' RK dF
   simp only[Option.some.injEq]at RK
   subst RK
   cases b with
   |true =>
    simp only[cond_true]at h
    obtain⟨r,h1,h2⟩:=Option.bind_eq_some_iff.1 h
    exact TU hD hg hd (.inr XG) (G:=some g) hb Hm w9 hc hx aAn hq hq2 h1 h2
   |false =>
    simp only[cond_false]at h
    exact⟨_,_,_,TL hg hd hb XG ji,h⟩
  ·cases h
structure Zr.Ok (D:Zr τ):Prop where
 ok:D.D.Ok
 iw:Good D.D.E
 mi:∀ f c,c∈D.mi f→aR D.D.E D.D.C f c
 ro:D.inr=false→D.D.E.ro=none
theorem lu {D:Zr τ}(hD:D.Ok){N:Nat}{X:Type}{ops:Array Oper}{o:Oper}{st:mE τ}(hg:Gd st){next:mE τ→List Nat→List Nat→Option X}{y:X}(h:step D N ops o st next=some y) :
  ∃ fZ F U,XZ D.D.E D.D.C ops o st fZ F U∧next fZ F U=some y:=by
 unfold step at h
 cases hd:Sg st o with
 |false=>rw[hd]at h;cases h
 |true =>
  rw[hd]at h
  simp only[cond_true]at h
  split at h
  ·cases h
  ·rename_i G hG
   cases DS:aGs st.off G with
   |true =>
    rw[DS]at h
    simp only[cond_true]at h
    cases G with
    |none=>cases DS
    |some g =>
     obtain⟨b,hb,XG,ji⟩:=Uy (C:=D.D.C) hG
     have RK:Ao st.t g=some false:=by
      unfold aGs aCQ at DS
      rw[List.any_eq_true]at DS
      obtain⟨g',h1,h2⟩:=DS
      have:=N2 h2
      subst this
      exact hg.off g h1
     rw[RK]at hb;cases hb
     refine⟨_,_,_,⟨⟨Dh D.D.C .aZ,pQ D.D.C [],[]⟩,G8 XG,by simp[pQ],rfl,rfl,HV _ _ _ _ _,XF hg hd [] (fun d w b y e=>by cases e),OF _ _ _ _⟩,h⟩
   |false =>
    rw[DS]at h
    simp only[cond_false]at h
    split at h
    ·rename_i c a b ho
     split at h
     ·rename_i r hr
      exact F6 hg hd hG (fun _ wh=>da ho hg.inv hg.off wh hr) h
     ·exact BY hg hd hG h
    ·cases Hm:(eC o.op).all (fun x=>PM st.t G (st.val x)) with
     |false=>rw[Hm]at h;cases h
     |true =>
      rw[Hm]at h
      simp only[cond_true]at h
      unfold aEC at h
      have w9:W3 o st.h (fun x=>(st.val x).strip) (aBb D o st.h (fun x=>(st.val x).strip)):=aCV
      generalize aBb D o st.h (fun x=>(st.val x).strip)=pp at h w9
      split at h
      ·rename_i f args hc
       split at h
       ·rename_i x hx
        cases hq:(Nat.ble x.c.L.length x.c.L'.length&&D3 x.c.L.length x.c.alt) with
        |false=>rw[hq]at h;cases h
        |true =>
         rw[hq]at h
         simp only[cond_true]at h
         simp only[Bool.and_eq_true]at hq
         obtain⟨h1,h2⟩:=O0 hD.ok.C hx
         exact X0 hD.ok hg hd hG Hm w9 hc h2 (hD.mi f _ h1) (Nat.le_of_ble_eq_true hq.1) hq.2 h
       ·exact BY hg hd hG h
      ·split at h
       ·rename_i res ZM
        cases js:j5 (dA (pp.h st.h)) res.U res.F with
        |false=>rw[js]at h;cases h
        |true =>
         rw[js]at h
         exact ZC hD.ok hg hd hG Hm w9 (fun _ jM=>aCh hD.ok (Jk _ _ (Nat.le_refl _)) ZM jM js) h
       ·exact BY hg hd hG h
end
end Go.Ev
