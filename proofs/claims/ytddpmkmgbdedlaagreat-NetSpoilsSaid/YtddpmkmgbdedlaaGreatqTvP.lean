/-
The typed layer: the machine,and that what it comes to is so.
-/
import Derived.Test.YtddpmkmgbdedlaaGreatqTvO
set_option linter.unusedVariables false
set_option linter.unusedSimpArgs false
namespace Go.Ev
open Go
inductive cU where
 | blk (id:Nat)
 | code (c:Code)
 | rep (c:Code) (m:Nat)
 | ops (ops:Array Oper) (draw:Bool) (i:Nat) (rest:List Oper) (tr:List (Nat×List Nat×List Nat))
def kT (id:Nat):List cU→Option (List cU)
 | []=>none
 | .blk i :: t=>bif Nat.beq i id then some t else kT id t
 | _ :: t=>kT id t
section
variable {τ:Nat→Type}
structure Dat (τ:Nat→Type) where
 D:TEnv τ
 tbl:FuncId→List (Con τ)
 lp:Nat→List (Lp τ)
 k0:Nat
 mu:List Nat:=[]
 un:List (Nat×Nat):=[]
 fid:Nat:=0
 ex:List Nat:=[]
 inr:Bool:=false
 pool:Bool:=false
 ad:List Nat:=[]
 fz:List Nat:=[]
 ln:List Nat:=[]
def key:Code→Option Nat
 | .region id _ _=>some id
 | .seq a b=>(match key a with | some k=>some k | none=>key b)
 | .cond _ a b=>(match key a with | some k=>some k | none=>key b)
 | .block _ c=>key c
 | .loop c=>key c
 | .scope c=>key c
 | _=>none
def aAs (asg body:Code):Nat:=match key body with | some k=>k | none=>match key asg with | some k=>k | none=>0
def kU (D:Dat τ) (ps:Array Tmp) (asg body:Code):Prop:=D.D.C.site D.fid (aAs asg body)=(ps,asg,body)
def jT (S:Array Tmp→Code→Code→Prop):Code→Prop
 | .seq a b=>jT S a∧jT S b
 | .cond _ a b=>jT S a∧jT S b
 | .block _ c=>jT S c
 | .loop c=>jT S c
 | .scope c=>jT S c
 | .rangeFunc _ ps a b=>S ps a b
 | _=>True
def mW:Code→Bool
 | .seq a b=>mW a&&mW b
 | .cond _ a b=>mW a&&mW b
 | .block _ c=>mW c
 | .loop c=>mW c
 | .scope c=>mW c
 | .rangeFunc _ _ _ _=>false
 | _=>true
theorem lW {S:Array Tmp→Code→Code→Prop}:∀ {c:Code},mW c=true→jT S c
 | .seq a b,h=>by simp only [mW,Bool.and_eq_true] at h; exact ⟨lW h.1,lW h.2⟩
 | .cond _ a b,h=>by simp only [mW,Bool.and_eq_true] at h; exact ⟨lW h.1,lW h.2⟩
 | .block _ c,h=>lW (c:=c) h
 | .loop c,h=>lW (c:=c) h
 | .scope c,h=>lW (c:=c) h
 | .rangeFunc _ _ _ _,h=>by cases h
 | .skip,_ | .exit _,_ | .ret,_ | .label _,_ | .region _ _ _,_ | .goto _,_ | .refuse _,_=>trivial
structure COk (S:Array Tmp→Code→Code→Prop) (c:Code):Prop where
 ok:eQ c=true
 sub:jT S c
theorem COk.seq {S:Array Tmp→Code→Code→Prop} {a b:Code} (h:COk S (.seq a b)):COk S a∧COk S b:=by
 have h1:=h.ok
 simp only [eQ,Bool.and_eq_true] at h1
 exact ⟨⟨h1.1,h.sub.1⟩,⟨h1.2,h.sub.2⟩⟩
theorem COk.cond {S:Array Tmp→Code→Code→Prop} {x:Operand} {a b:Code} (h:COk S (.cond x a b)):COk S a∧COk S b:=by
 have h1:=h.ok
 simp only [eQ,Bool.and_eq_true] at h1
 exact ⟨⟨h1.1,h.sub.1⟩,⟨h1.2,h.sub.2⟩⟩
theorem COk.block {S:Array Tmp→Code→Code→Prop} {i:Nat} {c:Code} (h:COk S (.block i c)):COk S c:=⟨by simpa [eQ] using h.ok,h.sub⟩
theorem COk.scope {S:Array Tmp→Code→Code→Prop} {c:Code} (h:COk S (.scope c)):COk S c:=⟨by simpa [eQ] using h.ok,h.sub⟩
theorem COk.loop {S:Array Tmp→Code→Code→Prop} {c:Code} (h:COk S (.loop c)):COk S c:=⟨by simpa [eQ] using h.ok,h.sub⟩
def unOf:List (Nat×Nat)→Nat→Option Nat
 | [],_=>none
 | (k,m) :: r,j=>bif Nat.beq k j then some m else unOf r j
def bE {S X:Type}:Nat→(S→(S→Option X)→Option X)→S→Option X
 | 0,_,_=>none
 | m+1,body,s=>body s (bE m body)
def wP (st:TSt τ) (k:Nat):Bool:=st.t.all (fun x=>match x with | .cnd d _ _ _=>!(Nat.beq d k) | _=>true)&&st.off.all (fun g=>!(Nat.beq g.1 k))
def iJ (st:TSt τ) (o:Oper):Bool:=match o.dst with | some k=>wP st k | none=>true
def eK (st:TSt τ) (o:Oper) (r:TV τ) (U:List (Nat×TEnt τ)):TSt τ :=
 { t:=(match o.dst with | some k=>mR st.t k r | none=>st.t),h:=dP st.h U,dt:=(match o.dst with | some k=>k :: st.dt | none=>st.dt),dh:=U.map (·.1)++st.dh,off:=st.off }
def offG (off:List (Nat×Bool)) (G:Option (Nat×Bool)):Bool:=match G with | some g=>offB off g | none=>false
def obc {X:Type} (ob:Option Bool) (k:Option X):Option X:=match ob with | none=>k | some b=>bif b then k else none
def obg {X:Type} (g:Bool) (ob:Option Bool) (k:Option X):Option X:=match ob with | none=>k | some b=>bif (!g || b) then k else none
def aAt (U:List (Nat×TEnt τ)) (F:List Nat):Bool:=U.all fun p=>kQ p.1 F
def fin {X:Type} (st:TSt τ) (o:Oper) (G:Option (Nat×Bool)) (res:bG τ) (next:TSt τ→List Nat→List Nat→Option X):Option X :=
 bif aAt res.U res.F then
  match G with
  | none=>obc res.ob (next (eK st o (nc res.r) res.U) res.F (res.U.map (·.1)))
  | some g => match dZ st.t g, res.U with
   | some b,[]=>obg b res.ob (next (eK st o (.cnd g.1 g.2 b (nc res.r)) []) res.F [])
   | some b,U=>bif b then obc res.ob (next (eK st o (nc res.r) U) res.F (U.map (·.1))) else next (eK { st with off:=g :: st.off } o .junk []) [] []
   | none,_=>none
 else none
def aXb:Op→List Operand
 | .load _ a=>[a]
 | .store _ a _=>[a]
 | .nilCheck x=>[x]
 | .binOp _ _ x y _=>[x,y]
 | .convert _ _ x=>[x]
 | .slice _ x _ _ _=>[x]
 | .fieldAddr _ x _=>[x]
 | .indexAddr _ x _=>[x]
 | .index _ x _=>[x]
 | .call c=>(match c.callee with | .value _=>[] | _=>c.args.toList)
 | _=>[]
def TV.hNo:TV τ→Option (Nat×Nat)
 | .hsl t j _ _ _ _=>some (t,j)
 | .hptr t j _=>some (t,j)
 | _=>none
def aAu (val:Operand→TV τ):List Operand→Option (Operand×Nat×Nat)
 | []=>none
 | x :: r => match (val x).hNo with
  | some (t,j)=>some (x,t,j)
  | none=>aAu val r
def aDo:Operand→Operand→Bool
 | .tmp a,.tmp b=>Nat.beq a b
 | _,_=>false
def tA:List Bool→Bool
 | []=>true
 | [b]=>b
 | b :: r=>b&&tA r
def lX (val:Operand→TV τ) (k:Operand) (j:Nat):List Operand→List Bool
 | []=>[]
 | x :: r => bif aDo x k then lX val k j r else match val x with
  | .hsl _ j' _ _ _ _=>Nat.beq j' j :: lX val k j r
  | .hptr _ j' _=>Nat.beq j' j :: lX val k j r
  | _=>lX val k j r
def tB (val:Operand→TV τ) (len:Nat):List Operand→List Bool
 | []=>[]
 | x :: r => match val x with
  | .hsl _ _ o n _ _=>Nat.ble (o+n) len :: tB val len r
  | .hptr _ _ _=>false :: tB val len r
  | _=>tB val len r
inductive Pp (τ:Nat→Type) where
 | no
 | lend (t p j:Nat) (ms:List (Option (List (τ t)))) (k:Operand)
 | frz (t p j:Nat) (ms:List (Option (List (τ t)))) (k:Operand)
def aJZ (o:Oper) (l:List Nat):Bool:=match o.dst with | some k=>kQ k l | none=>false
def memOf (D:Dat τ) (o:Oper):List Operand:=bif aJZ o D.ln then bB o.op else aXb o.op
def aAv (l:List Nat):List Operand→List Operand
 | []=>[]
 | x :: r => match x with
  | .tmp k=>bif kQ k l then x :: aAv l r else aAv l r
  | _=>aAv l r
def aXc (l:List Nat):Op→List Operand
 | .store _ _ x=>aAv l [x]
 | .call c=>(match c.callee with | .value _=>aAv l c.args.toList | _=>[])
 | _=>[]
def aDp (h:List (TEnt τ)) (t:Nat):Option (Nat×List (Option (List (τ t)))) :=
 match aAp TEnt.isPool h 0 with
 | some p => (match aM h p with
  | .pool t' ms=>(match sV (t:=t') t ms with | some ms=>some (p,ms) | none=>none)
  | _=>none)
 | none=>none
def prep (D:Dat τ) (o:Oper) (h:List (TEnt τ)) (val:Operand→TV τ):Pp τ :=
 bif D.pool then
  match aAu val (aXc D.fz o.op) with
  | some (k, t, j) => (match aDp h t with
   | some (p,ms)=>.frz t p j ms k
   | none=>.no)
  | none => (match aAu val (memOf D o) with
   | some (k, t, j) => (match aDp h t with
    | some (p,ms)=>.lend t p j ms k
    | none=>.no)
   | none=>.no)
 else .no
def Pp.val (h:List (TEnt τ)) (val:Operand→TV τ):Pp τ→Operand→TV τ
 | .no=>val
 | .lend _ _ _ _ _=>fun x=>oH h.length (val x)
 | .frz _ _ j ms _=>fun x=>frzV ((fL ms j).getD []) (val x)
def Pp.h (h:List (TEnt τ)):Pp τ→List (TEnt τ)
 | .no=>h
 | .lend t p j ms _=>oI h p h.length t (dC ms j none) ((fL ms j).getD [])
 | .frz t p j ms _=>eX (eX h p (.pool t (dC ms j none))) h.length .dead
def aAw:Option Bool→Bool→Option Bool
 | none,b=>some b
 | some a,b=>some (a&&b)
def aDq {α:Type}:Option α→Bool
 | none=>true
 | some _=>false
def Pp.post (o:Oper) (h:List (TEnt τ)) (val:Operand→TV τ) (fl:Bool) (res:bG τ):Pp τ→Option (bG τ)
 | .no=>some res
 | .lend t p j ms k =>
  bif aDq (bO res.U p) then
   match bO res.U h.length with
   | none=>bif fl then some { r:=tJ t j h.length res.r,U:=res.U++[(h.length,.dead)],F:=p :: h.length :: res.F,ob:=aAw res.ob (tA ((fL ms j).isSome :: lX val k j (bB o.op))) } else none
   | some (.gbx t' l') => (match eF (t := t') t l' with
    | some l'=>bif fl then some { r:=tJ t j h.length res.r,U:=fK h.length res.U++[(p,.pool t (dC ms j (some l'))),(h.length,.dead)],F:=p :: h.length :: res.F,ob:=aAw res.ob (tA ((fL ms j).isSome :: lX val k j (bB o.op))) } else none
    | none=>none)
   | some .dead=>some { r:=res.r,U:=fK h.length res.U++[(p,.pool t (dC ms j none)),(h.length,.dead)],F:=p :: h.length :: res.F,ob:=aAw res.ob (tA ((Nat.beq j 0 || (fL ms j).isSome) :: lX val k j (bB o.op))) }
   | _=>none
  else none
 | .frz t p j ms k=>some { r:=res.r,U:=(p,.pool t (dC ms j none)) :: (h.length,.dead) :: res.U,F:=p :: h.length :: res.F,ob:=aAw res.ob (tA ((fL ms j).isSome :: (lX val k j (bB o.op)++tB val ((fL ms j).getD []).length (bB o.op)))) }
def newId:TV τ→Option Nat
 | .msl _ id _=>some id
 | .wsl _ id _ _ _ _=>some id
 | _=>none
def aNY:List (TV τ)→Option Nat
 | []=>none
 | x :: r=>match newId x with | some i=>some i | none=>aNY r
def adId:TV τ→Option Nat
 | .tup l=>aNY l
 | x=>newId x
def tC (h : List (TEnt τ)) (res : bG τ) : bG τ :=
 match adId res.r with
 | some n => (match bO res.U n, aAp TEnt.isPool h 0 with
  | some (.gbx t l), some p => (match (match bO res.U p with | some e => e | none => aM h p) with
   | .pool t' ms => (match sV (t := t') t ms with
    | some ms=>{ r:=tJ t (ms.length+1) n res.r,U:=fK n res.U++[(p,.pool t (ms++[some l])),(n,.dead)],F:=p :: res.F,ob:=res.ob }
    | none=>res)
   | _=>res)
  | _,_=>res)
 | none=>res
def aJ0 (D:Dat τ) (o:Oper) (h:List (TEnt τ)) (val:Operand→TV τ) (pp:Pp τ) (fl:Bool) (res:bG τ):Option (bG τ) :=
 match pp.post o h val fl res with
 | some res=>some (bif aJZ o D.ad then tC h res else res)
 | none=>none
theorem CoreOk.weak {E:Env} {C:Cod τ} {fl:Bool} {o:Oper} {val:Operand→TV τ} {h:Nat→TEnt τ} {r:TV τ} {U:List (Nat×TEnt τ)} {F:List Nat} (hc:CoreOk E C fl o val h r U F):CoreOk E C false o val h r U F :=
 fun H g a w h1 h2 h3 h4 next Q hn=>hc H g a w h1 h2 h3 h4 next Q fun v g' w' a b _=>hn v g' w' a b (fun e=>by cases e)
theorem CoreOk.congr {E:Env} {C:Cod τ} {fl:Bool} {o:Oper} {val:Operand→TV τ} {h:Nat→TEnt τ} {r:TV τ} {U U':List (Nat×TEnt τ)} {F:List Nat} (hc:CoreOk E C fl o val h r U F)
  (hU:∀ H:Nat→Ent,(∀ id∈F,H id=(h id).den C)→app H (bP C U)=app H (bP C U')):CoreOk E C fl o val h r U' F :=
 fun H g a w h1 h2 h3 h4 next Q hn=>hc H g a w h1 h2 h3 h4 next Q fun v g' w' a b c=>hn v g' w' a (by rw [← hU H h3]; exact b) c
theorem aXd {x y:Operand} (h:aDo x y=true):x=y:=by
 unfold aDo at h
 split at h
 ·rw [Nat.eq_of_beq_eq_true h]
 ·cases h
theorem aAx:∀ {l:List Bool},tA l=true→∀ b∈l,b=true
 | [],_,b,hb=>by cases hb
 | [x], h, b, hb => by
  rcases List.mem_cons.1 hb with rfl | hb
  ·exact h
  ·cases hb
 | x :: y :: r, h, b, hb => by
  simp only [tA,Bool.and_eq_true] at h
  rcases List.mem_cons.1 hb with rfl | hb
  ·exact h.1
  ·exact aAx h.2 b hb
theorem wQ {val:Operand→TV τ} {k:Operand} {j:Nat} (hk:(val k).hOk j):∀ {l:List Operand},(∀ b∈lX val k j l,b=true)→∀ x∈l,(val x).hOk j
 | [],_,x,hx=>by cases hx
 | y :: r, h, x, hx => by
  simp only [lX] at h
  cases hs:aDo y k with
  | true =>
   rw [hs] at h
   rcases List.mem_cons.1 hx with rfl | hx
   ·rw [aXd hs]; exact hk
   ·exact wQ hk h x hx
  | false =>
   rw [hs] at h
   simp only [cond_false] at h
   have hr:∀ b∈lX val k j r,b=true:=by
    cases hv:val y<;>rw [hv] at h<;>first | exact h | exact fun b hb=>h b (List.mem_cons_of_mem _ hb)
   have hy:(val y).hOk j:=by
    cases hv:val y<;>rw [hv] at h<;>first | trivial | exact Nat.eq_of_beq_eq_true (h _ List.mem_cons_self)
   rcases List.mem_cons.1 hx with rfl | hx
   ·exact hy
   ·exact wQ hk hr x hx
theorem hNo_ok {x:TV τ} {t j:Nat} (h:x.hNo=some (t,j)):x.hOk j:=by
 cases x with
 | hsl t' j' o n c nn=>simp only [TV.hNo,Option.some.injEq,Prod.mk.injEq] at h; exact h.2
 | hptr t' j' p=>simp only [TV.hNo,Option.some.injEq,Prod.mk.injEq] at h; exact h.2
 | _=>trivial
theorem aJ1 {val:Operand→TV τ} {k:Operand} {t j:Nat}:∀ {l:List Operand},aAu val l=some (k,t,j)→(val k).hOk j
 | [],h=>by cases h
 | x :: r, h => by
  simp only [aAu] at h
  split at h
  ·rename_i t' j' hx
   cases h
   exact hNo_ok hx
  ·exact aJ1 (l:=r) h
theorem aNZ {val:Operand→TV τ} {t j len:Nat}:∀ {l:List Operand},(∀ b∈tB val len l,b=true)→(∀ x∈l,(val x).hOk j)→∀ x∈l,(val x).fOk t j len
 | [],_,_,x,hx=>by cases hx
 | y :: r, h, hj, x, hx => by
  simp only [tB] at h
  have hr:∀ b∈tB val len r,b=true:=by
   cases hv:val y<;>rw [hv] at h<;>first | exact h | exact fun b hb=>h b (List.mem_cons_of_mem _ hb)
  have hy:(val y).fOk t j len:=by
   have h0:=hj y List.mem_cons_self
   cases hv:val y<;>rw [hv] at h h0<;>first | trivial | exact ⟨h0,Nat.le_of_ble_eq_true (h _ List.mem_cons_self)⟩ | exact absurd (h false List.mem_cons_self) (by simp)
  rcases List.mem_cons.1 hx with rfl | hx
  ·exact hy
  ·exact aNZ hr (fun z hz=>hj z (List.mem_cons_of_mem _ hz)) x hx
theorem aN0 {h:List (TEnt τ)} {t p:Nat} {ms:List (Option (List (τ t)))} (hp:aDp h t=some (p,ms)):aM h p=.pool t ms:=by
 unfold aDp at hp
 split at hp
 ·rename_i p' _
  split at hp
  ·rename_i t' ms' hx
   split at hp
   ·rename_i ms2 hm
    obtain ⟨h1,h2⟩:=aDe hm
    subst h1; subst h2
    cases hp
    exact hx
   ·cases hp
  ·cases hp
 ·cases hp
theorem aXe {α:Type} {x:Option α} (h:aDq x=true):x=none:=by cases x<;>first | rfl | cases h
theorem qI {a:Option Bool} {b:Bool} (h:∀ c,aAw a b=some c→c=true):(a=none∨a=some true)∧b=true:=by
 cases a with
 | none=>exact ⟨.inl rfl,h b rfl⟩
 | some a =>
  have:=h (a&&b) rfl
  simp only [Bool.and_eq_true] at this
  exact ⟨.inr (by rw [this.1]),this.2⟩
def Asked (ob:Option Bool):Prop:=∀ b,ob=some b→b=true
theorem Asked.or {ob:Option Bool} (h:Asked ob):ob=none∨ob=some true:=by
 cases hb:ob with
 | none=>exact .inl rfl
 | some b=>right; rw [h b hb]
def qJ (o:Oper) (h:List (TEnt τ)) (val:Operand→TV τ):Pp τ→Prop
 | .no=>True
 | .lend t p j ms k=>aM h p=.pool t ms∧(val k).hOk j
 | .frz t p j ms k=>aM h p=.pool t ms∧(val k).hOk j
theorem aXf {D:Dat τ} {o:Oper} {h:List (TEnt τ)} {val:Operand→TV τ}:qJ o h val (prep D o h val):=by
 unfold prep
 cases D.pool with
 | false=>trivial
 | true =>
  simp only [cond_true]
  split
  ·rename_i k t j hk
   split
   ·rename_i p ms hp; exact ⟨aN0 hp,aJ1 hk⟩
   ·trivial
  ·split
   ·rename_i k t j hk
    split
    ·rename_i p ms hp; exact ⟨aN0 hp,aJ1 hk⟩
    ·trivial
   ·trivial
theorem pp_ob {o:Oper} {h:List (TEnt τ)} {val:Operand→TV τ} {fl:Bool} {res res':bG τ} {pp:Pp τ} (hp:pp.post o h val fl res=some res') (ho:Asked res'.ob):res.ob=none∨res.ob=some true:=by
 cases pp with
 | no=>cases hp; exact ho.or
 | lend t p j ms k =>
  simp only [Pp.post] at hp
  cases hn:aDq (bO res.U p) with
  | false=>rw [hn] at hp; cases hp
  | true =>
   rw [hn] at hp
   simp only [cond_true] at hp
   split at hp
   ·cases fl with
    | false=>cases hp
    | true=>cases hp; exact (qI ho).1
   ·split at hp
    ·cases fl with
     | false=>cases hp
     | true=>cases hp; exact (qI ho).1
    ·cases hp
   ·cases hp; exact (qI ho).1
   ·cases hp
 | frz t p j ms k=>cases hp; exact (qI ho).1
theorem aN1 {D:TEnv τ} (hD:D.Ok) {o:Oper} {h:List (TEnt τ)} {val:Operand→TV τ} {fl:Bool} {res res':bG τ} {pp:Pp τ} (hpp:qJ o h val pp) (hc:CoreOk D.E D.C fl o (pp.val h val) (aM (pp.h h)) res.r res.U res.F)
  (hp:pp.post o h val fl res=some res') (ho:Asked res'.ob):CoreOk D.E D.C false o val (aM h) res'.r res'.U res'.F:=by
 have hun:aM h h.length=.unborn:=lU _ _ (Nat.le_refl _)
 cases pp with
 | no=>cases hp; exact hc.weak
 | lend t p j ms k =>
  obtain ⟨h1,h2⟩:=hpp
  simp only [Pp.post] at hp
  cases hn:aDq (bO res.U p) with
  | false=>rw [hn] at hp; cases hp
  | true =>
   rw [hn] at hp
   simp only [cond_true] at hp
   have hpU:=aXe hn
   split at hp
   ·rename_i hm
    cases fl with
    | false=>cases hp
    | true =>
     cases hp
     obtain ⟨_,hb⟩:=qI ho
     have hb:=aAx hb
     obtain ⟨l,hl⟩:=Option.isSome_iff_exists.1 (hb _ List.mem_cons_self)
     obtain ⟨i,rfl,hi⟩:=aAE hl
     have hall:=wQ h2 fun b h=>hb b (List.mem_cons_of_mem _ h)
     simp only [Pp.val,Pp.h,hl,dC,Option.getD_some] at hc
     refine (aOu h1 hun hi hall hc hpU (.inr ⟨hm,rfl⟩)).congr fun H hH=>?_
     funext k'
     have hne:=tne h1 hun
     have hset:ms.set i (some l)=ms:=by
      apply List.ext_getElem?
      intro q
      by_cases hq:q=i
      ·subst hq; rw [List.getElem?_set_self (List.getElem?_eq_some_iff.1 hi).1,hi]
      ·rw [List.getElem?_set_ne (Ne.symm hq)]
     rw [iL,iL,iM,iM,tH,tH,hset]
     by_cases e1:k'=p
     ·subst e1
      have:Nat.beq h.length k'=false:=by
       cases hb:Nat.beq h.length k' with
       | false=>rfl
       | true=>exact absurd (Nat.eq_of_beq_eq_true hb).symm hne
      simp only [bO,Nat.beq_refl,cond_true,this,cond_false,hpU]
      show _=H k'
      rw [hH k' (by simp),h1]; rfl
     ·have b1:Nat.beq p k'=false:=by
       cases hb:Nat.beq p k' with
       | false=>rfl
       | true=>exact absurd (Nat.eq_of_beq_eq_true hb).symm e1
      by_cases e2:k'=h.length
      ·subst e2; simp only [bO,Nat.beq_refl,cond_true]
      ·have b2:Nat.beq h.length k'=false:=by
        cases hb:Nat.beq h.length k' with
        | false=>rfl
        | true=>exact absurd (Nat.eq_of_beq_eq_true hb).symm e2
       simp only [bO,b1,b2,cond_false,tI e2]
   ·rename_i t' l' hm
    split at hp
    ·rename_i l2 hl2
     obtain ⟨e1,e2⟩:=fZ hl2
     subst e1; subst e2
     cases fl with
     | false=>cases hp
     | true =>
      cases hp
      obtain ⟨_,hb⟩:=qI ho
      have hb:=aAx hb
      obtain ⟨l,hl⟩:=Option.isSome_iff_exists.1 (hb _ List.mem_cons_self)
      obtain ⟨i,rfl,hi⟩:=aAE hl
      have hall:=wQ h2 fun b h=>hb b (List.mem_cons_of_mem _ h)
      simp only [Pp.val,Pp.h,hl,dC,Option.getD_some] at hc
      exact aOu h1 hun hi hall hc hpU (.inl hm)
    ·cases hp
   ·rename_i hm
    cases hp
    obtain ⟨_,hb⟩:=qI ho
    have hb:=aAx hb
    have hall:=wQ h2 fun b h=>hb b (List.mem_cons_of_mem _ h)
    have hb1:=hb _ List.mem_cons_self
    simp only [Bool.or_eq_true] at hb1
    rcases hb1 with hj | hj
    ·have:=Nat.eq_of_beq_eq_true hj
     subst this
     simp only [Pp.val,Pp.h,dC,fL,Option.getD_none] at hc
     exact aXG h1 hun hall hc hpU hm
    ·obtain ⟨l,hl⟩:=Option.isSome_iff_exists.1 hj
     obtain ⟨i,rfl,hi⟩:=aAE hl
     simp only [Pp.val,Pp.h,hl,dC,Option.getD_some] at hc
     exact aXF h1 hun hi hall hc hpU hm
   ·cases hp
 | frz t p j ms k =>
  obtain ⟨h1,h2⟩:=hpp
  cases hp
  obtain ⟨_,hb⟩:=qI ho
  have hb:=aAx hb
  obtain ⟨l,hl⟩:=Option.isSome_iff_exists.1 (hb _ List.mem_cons_self)
  obtain ⟨i,rfl,hi⟩:=aAE hl
  have hall:=wQ h2 fun b h=>hb b (List.mem_cons_of_mem _ (List.mem_append_left _ h))
  have hfit:=aNZ (t:=t) (len:=l.length) (l:=bB o.op) (val:=val) (fun b h=>hb b (List.mem_cons_of_mem _ (List.mem_append_right _ (by simpa only [hl,Option.getD_some] using h)))) hall
  simp only [Pp.val,Pp.h,hl,dC,Option.getD_some] at hc
  exact aXI hD.C h1 hun hi hfit hc
theorem aXg (h:List (TEnt τ)) (res:bG τ):(tC h res).ob=res.ob:=by
 unfold tC
 split
 ·split
  ·split
   ·split<;>rfl
   ·rfl
  ·rfl
 ·rfl
theorem aXh {E:Env} {C:Cod τ} {o:Oper} {h:List (TEnt τ)} {val:Operand→TV τ} {res:bG τ} (hc:CoreOk E C false o val (aM h) res.r res.U res.F):CoreOk E C false o val (aM h) (tC h res).r (tC h res).U (tC h res).F:=by
 unfold tC
 split
 ·rename_i n hn
  split
  ·rename_i t l p hl hp
   split
   ·rename_i t' ms hm
    split
    ·rename_i ms' hms
     obtain ⟨e1,e2⟩:=aDe hms
     subst e1; subst e2
     refine aXH hc ?_ hl
     split at hm
     ·rename_i e he; left; rw [he,hm]
     ·rename_i he; right; exact ⟨he,hm⟩
    ·exact hc
   ·exact hc
  ·exact hc
 ·exact hc
theorem aN2 {D:Dat τ} (hD:D.D.Ok) {o:Oper} {h:List (TEnt τ)} {val:Operand→TV τ} {fl:Bool} {res res':bG τ} {pp:Pp τ} (hpp:qJ o h val pp)
  (hc:(res.ob=none∨res.ob=some true)→CoreOk D.D.E D.D.C fl o (pp.val h val) (aM (pp.h h)) res.r res.U res.F)
  (hp:aJ0 D o h val pp fl res=some res') (ho:Asked res'.ob):CoreOk D.D.E D.D.C false o val (aM h) res'.r res'.U res'.F:=by
 unfold aJ0 at hp
 split at hp
 ·rename_i r1 h1
  have e:=Option.some.inj hp
  subst e
  cases hd:aJZ o D.ad with
  | true =>
   rw [hd] at ho
   simp only [cond_true,aXg] at ho ⊢
   exact aXh (aN1 hD hpp (hc (pp_ob h1 ho)) h1 ho)
  | false =>
   rw [hd] at ho
   simp only [cond_false] at ho ⊢
   exact aN1 hD hpp (hc (pp_ob h1 ho)) h1 ho
 ·cases hp
def oD {X:Type} (D:Dat τ) (st:TSt τ) (o:Oper) (G:Option (Nat×Bool)) (pp:Pp τ) (fl:Bool) (res:bG τ) (next:TSt τ→List Nat→List Nat→Option X):Option X :=
 match aJ0 D o st.h (fun x=>(st.val x).strip) pp fl res with
 | some res=>fin st o G res next
 | none=>none
def aDr {X:Type} (D:Dat τ) (st:TSt τ) (o:Oper) (pp:Pp τ) (x:Hit τ) (r:x.c.R) (next:TSt τ→List Nat→List Nat→Option X):Option X :=
 match x.c.alt with
 | none=>oD D st o none pp (oC x.c.L) (iI x.σ (pp.h st.h).length (x.c.out1 D.D.C r)) next
 | some A=>bif x.c.sel r then oD D st o none pp (oC x.c.L) (iI x.σ (pp.h st.h).length (A.out D.D.C r)) next else oD D st o none pp (oC x.c.L) (iI x.σ (pp.h st.h).length (x.c.out1 D.D.C r)) next
def tD {X:Type} (D:Dat τ) (st:TSt τ) (o:Oper) (G:Option (Nat×Bool)) (pp:Pp τ) (N:Nat) (x:Hit τ) (next:TSt τ→List Nat→List Nat→Option X):Option X :=
 match G with
 | none=>(x.c.F N x.a x.b).bind fun r=>aDr D st o pp x r next
 | some g => match dZ st.t g, x.c.L', x.c.alt with
  | some b,[],none=>(bif b then x.c.F N x.a x.b else some x.c.dflt).bind fun r=>oD D st o G pp (oC x.c.L) (iI x.σ (pp.h st.h).length (x.c.out1 D.D.C r)) next
  | some b,_,_=>bif b then ((x.c.F N x.a x.b).bind fun r=>aDr D st o pp x r next) else next (eK { st with off:=g :: st.off } o .junk []) [] []
  | none,_,_=>none
def aAy {X:Type} (st:TSt τ) (o:Oper) (G:Option (Nat×Bool)) (next:TSt τ→List Nat→List Nat→Option X):Option X :=
 match G with
 | none=>none
 | some g => match dZ st.t g with
  | some b=>bif b then none else next (eK { st with off:=g :: st.off } o .junk []) [] []
  | none=>none
def wR {R:Type} (n:Nat):Option (Alt τ R)→Bool
 | none=>true
 | some A=>Nat.ble n A.L'.length
def stepP {X:Type} (D:Dat τ) (N:Nat) (o:Oper) (st:TSt τ) (G:Option (Nat×Bool)) (pp:Pp τ) (next:TSt τ→List Nat→List Nat→Option X):Option X :=
 match aAq (pp.val st.h (fun x=>(st.val x).strip)) o.op with
 | some (f, args) => (match hits D.D.C (D.tbl f) (pp.h st.h) args with
  | some x=>bif Nat.ble x.c.L.length x.c.L'.length&&wR x.c.L.length x.c.alt then tD D st o G pp N x next else none
  | none=>aAy st o G next)
 | none => (match evT D.D (aM (pp.h st.h)) (pp.h st.h).length (match o.dst with | some k => kQ k D.mu | none => false) o.op (pp.val st.h (fun x => (st.val x).strip)) with
  | some res=>bif aJN (aM (pp.h st.h)) res.U res.F then oD D st o G pp true res next else none
  | none=>aAy st o G next)
def step {X:Type} (D:Dat τ) (N:Nat) (ops:Array Oper) (o:Oper) (st:TSt τ) (next:TSt τ→List Nat→List Nat→Option X):Option X :=
 bif iJ st o then
  match nY ops st.t o with
  | none=>none
  | some G =>
   bif offG st.off G then next (eK st o .junk []) [] [] else
   match o.op with
   | .pick c a b=>(match aJO st G c a b with | some r=>fin st o G { r:=r } next | none=>aAy st o G next)
   | op =>
    bif (bB op).all (fun x=>iY st.t G (st.val x)) then stepP D N o st G (prep D o st.h (fun x=>(st.val x).strip)) next
    else none
 else none
def qK {α:Type} (p:α→Bool):List α→Nat→List Nat
 | [],_=>[]
 | x :: r,i=>bif p x then i :: qK p r (i+1) else qK p r (i+1)
def Sl.isKeep:Sl→Bool
 | .keep=>true
 | _=>false
def ESh.isKeep:ESh→Bool
 | .keep=>true
 | _=>false
def aDs (a b:Nat):List Nat:=List.range' a (b - a)
def Lp.dirtyT (lp:Lp τ) (st:TSt τ):List Nat:=qK (fun s=>!s.isKeep) lp.ts 0++aDs lp.ts.length st.t.length
def Lp.dirtyH (lp:Lp τ) (st:TSt τ):List Nat:=qK (fun s=>!s.isKeep) lp.hs 0++aDs lp.hs.length st.h.length
def Lp.back (lp:Lp τ) (st st':TSt τ):TSt τ:={ st' with dt:=st'.dt++(lp.dirtyT st++st.dt),dh:=st'.dh++(lp.dirtyH st++st.dh),off:=[] }
def TV.isCnd:TV τ→Bool
 | .cnd _ _ _ _=>true
 | _=>false
def mX (st:TSt τ):TSt τ:={ st with t:=st.t.map (fun x=>bif x.isCnd then .junk else x),dt:=qK TV.isCnd st.t 0++st.dt,off:=[] }
def tE {X:Type} (e:Nat) (go:Code→Option X):List Nat→Option X
 | []=>none
 | q :: l=>bif Nat.beq e q then go (vW q) else tE e go l
def jB (st:TSt τ) (h:List (TEnt τ)) (ids:List Nat):TSt τ:={ t:=st.t,h:=eX h st.h.length .dead,dt:=st.dt,dh:=st.h.length :: (ids++st.dh),off:=[] }
def rfH (D:Dat τ) (st:TSt τ) (asg body:Code):List (TEnt τ):=eX st.h st.h.length (.rcd D.fid (aAs asg body) (st.t.map nc))
def rfU (st:TSt τ) (h1:List (TEnt τ)) (σ:List Nat) (out:TV τ×List (TEnt τ)):List (Nat×TEnt τ):=oB (σup σ h1.length) out.2 0
def run {X:Type} (D:Dat τ) (N:Nat):Nat→List cU→TSt τ→(Exit→TSt τ→Option X)→Option X
 | 0,_,_,_=>none
 | n + 1, t, st, K =>
  match t with
  | []=>K .normal st
  | .blk _ :: t=>run D N n t st K
  | .code c :: t =>
   match c with
   | .skip=>run D N n t st K
   | .seq a b=>run D N n (.code a :: .code b :: t) st K
   | .block id c=>run D N n (.code c :: .blk id :: t) st K
   | .exit id=>(match kT id t with | some t'=>run D N n t' st K | none=>K (.exit id) st)
   | .ret=>K .ret st
   | .label _=>run D N n t st K
   | .scope c=>run D N n (.code c :: t) st K
   | .region _ ops draw=>run D N n (.ops ops draw 0 ops.toList [] :: t) st K
   | .cond c x y=>(match st.val c with | .bool b=>bif b then run D N n (.code x :: t) st K else run D N n (.code y :: t) st K | _=>none)
   | .loop c => (match key c with
    | none=>none
    | some k => match unOf D.un k with
     | some m=>run D N n (.rep c m :: t) st K
     | none=>match aNT st.t st.h (D.lp k) with
     | none=>none
     | some lp => match lp.dec D.D.C D.k0 { st with dt := [], dh := [] } with
      | none=>none
      | some s0 => bE N (fun s next => run D N n [.code c] (lp.head D.D.C st s) fun e st' => match e with
       | .normal=>(match lp.dec D.D.C D.k0 st' with | some s'=>next s' | none=>none)
       | .ret=>K .ret (lp.back st st')
       | .exit id=>(match kT id t with | some t'=>run D N n t' (lp.back st st') K | none=>K (.exit id) (lp.back st st'))
       | _=>none) s0)
   | .rangeFunc gop _ asg body =>
    bif D.inr then none else
    (match st.val gop with
    | .fn f caps =>
     bif Nat.beq f kR then none else
     (match hits D.D.C (D.tbl f) (rfH D st asg body) (.yld st.h.length :: caps) with
     | some x =>
      bif x.c.ext then none else
      bif Nat.ble x.c.L.length x.c.L'.length&&wR x.c.L.length x.c.alt then
       (x.c.F N x.a x.b).bind fun r =>
        match x.c.alt with
        | none =>
         (match aM (dP (rfH D st asg body) (rfU st (rfH D st asg body) x.σ (x.c.out1 D.D.C r))) st.h.length with
         | .rcd _ _ _=>run D N n t (jB st (dP (rfH D st asg body) (rfU st (rfH D st asg body) x.σ (x.c.out1 D.D.C r))) ((rfU st (rfH D st asg body) x.σ (x.c.out1 D.D.C r)).map (·.1))) K
         | .rdn e=>tE e (fun c=>run D N n (.code c :: t) (jB st (dP (rfH D st asg body) (rfU st (rfH D st asg body) x.σ (x.c.out1 D.D.C r))) ((rfU st (rfH D st asg body) x.σ (x.c.out1 D.D.C r)).map (·.1))) K) D.ex
         | _=>none)
        | some A =>
         bif x.c.sel r then
          (match aM (dP (rfH D st asg body) (rfU st (rfH D st asg body) x.σ (A.out D.D.C r))) st.h.length with
          | .rcd _ _ _=>run D N n t (jB st (dP (rfH D st asg body) (rfU st (rfH D st asg body) x.σ (A.out D.D.C r))) ((rfU st (rfH D st asg body) x.σ (A.out D.D.C r)).map (·.1))) K
          | .rdn e=>tE e (fun c=>run D N n (.code c :: t) (jB st (dP (rfH D st asg body) (rfU st (rfH D st asg body) x.σ (A.out D.D.C r))) ((rfU st (rfH D st asg body) x.σ (A.out D.D.C r)).map (·.1))) K) D.ex
          | _=>none)
         else
          (match aM (dP (rfH D st asg body) (rfU st (rfH D st asg body) x.σ (x.c.out1 D.D.C r))) st.h.length with
          | .rcd _ _ _=>run D N n t (jB st (dP (rfH D st asg body) (rfU st (rfH D st asg body) x.σ (x.c.out1 D.D.C r))) ((rfU st (rfH D st asg body) x.σ (x.c.out1 D.D.C r)).map (·.1))) K
          | .rdn e=>tE e (fun c=>run D N n (.code c :: t) (jB st (dP (rfH D st asg body) (rfU st (rfH D st asg body) x.σ (x.c.out1 D.D.C r))) ((rfU st (rfH D st asg body) x.σ (x.c.out1 D.D.C r)).map (·.1))) K) D.ex
          | _=>none)
      else none
     | none=>none)
    | _=>none)
   | _=>none
  | .rep c m :: t => (match m with
   | 0=>none
   | m+1=>run D N n (.code c :: .rep c m :: t) (mX st) K)
  | .ops ops draw i rest tr :: t =>
   match rest with
   | []=>bif !draw || jR (qD ops) tr then run D N n t { st with off:=[] } K else none
   | o :: rest=>step D N ops o st fun st' F U=>run D N n (.ops ops draw (i+1) rest ((i,F,U) :: tr) :: t) st' K
def bK (E:Env) (k0:Nat):List cU→(Exit→St→Prop)→Exit→St→Prop
 | [],Q,e,st=>Q e st
 | .blk id :: t, Q, e, st => match e with
  | .exit i=>if i=id then bK E k0 t Q .normal st else bK E k0 t Q (.exit i) st
  | e=>bK E k0 t Q e st
 | .code c :: t, Q, e, st => match e with
  | .normal=>AWp E k0 c st (bK E k0 t Q)
  | e=>bK E k0 t Q e st
 | .rep c m :: t, Q, e, st => match e with
  | .normal=>RU E k0 c (bK E k0 t Q) m st
  | e=>bK E k0 t Q e st
 | .ops ops draw i rest tr :: t, Q, e, st => match e with
  | .normal=>∃ xs st',sP E ops rest st xs st'∧(draw=true→jR (qD ops) (qF i xs tr)=true)∧bK E k0 t Q .normal st'
  | e=>bK E k0 t Q e st
theorem wS {E:Env} {k0:Nat} {Q:Exit→St→Prop} {id:Nat} {st:St}:∀ {t:List cU},(match kT id t with | some t'=>bK E k0 t' Q .normal st | none=>Q (.exit id) st)→bK E k0 t Q (.exit id) st
 | [],h=>h
 | .blk i :: t, h => by
  simp only [kT] at h
  simp only [bK]
  cases hb:Nat.beq i id with
  | true =>
   rw [hb] at h
   rw [if_pos (Nat.eq_of_beq_eq_true hb).symm]
   exact h
  | false =>
   rw [hb] at h
   rw [if_neg fun e=>by subst e; simp at hb]
   exact wS h
 | .code c :: t,h=>by simp only [kT] at h; simp only [bK]; exact wS h
 | .rep c m :: t,h=>by simp only [kT] at h; simp only [bK]; exact wS h
 | .ops _ _ _ _ _ :: t,h=>by simp only [kT] at h; simp only [bK]; exact wS h
theorem wT {E:Env} {k0:Nat} {Q:Exit→St→Prop} {l:Nat} {st:St}:∀ {t:List cU},bK E k0 t Q (.goto l) st→Q (.goto l) st
 | [],h=>h
 | .blk i :: t,h=>by simp only [bK] at h; exact wT h
 | .code c :: t,h=>by simp only [bK] at h; exact wT h
 | .rep c m :: t,h=>by simp only [bK] at h; exact wT h
 | .ops _ _ _ _ _ :: t,h=>by simp only [bK] at h; exact wT h
theorem RU.mono {E:Env} {k0:Nat} {c:Code} {Q Q':Exit→St→Prop} (hq:∀ e s,Q e s→Q' e s):∀ {m:Nat} {st:St},RU E k0 c Q m st→RU E k0 c Q' m st
 | 0,_,h=>h
 | m+1,st,h=>AWp.mono (fun e s hs=>by cases e<;>first | exact RU.mono hq hs | exact hq _ _ hs) h
theorem mY {E:Env} {k0:Nat} {Q Q':Exit→St→Prop} (hq:∀ e s,Q e s→Q' e s):∀ {t:List cU} {e:Exit} {st:St},bK E k0 t Q e st→bK E k0 t Q' e st
 | [],_,_,h=>hq _ _ h
 | .blk i :: t, e, st, h => by
  cases e with
  | exit j =>
   simp only [bK] at h ⊢
   split
   ·rename_i hj; rw [if_pos hj] at h; exact mY hq h
   ·rename_i hj; rw [if_neg hj] at h; exact mY hq h
  | _=>simp only [bK] at h ⊢; exact mY hq h
 | .code c :: t, e, st, h => by
  cases e with
  | normal=>simp only [bK] at h ⊢; exact AWp.mono (fun e s hs=>mY hq hs) h
  | _=>simp only [bK] at h ⊢; exact mY hq h
 | .rep c m :: t, e, st, h => by
  cases e with
  | normal=>simp only [bK] at h ⊢; exact RU.mono (fun e s hs=>mY hq hs) h
  | _=>simp only [bK] at h ⊢; exact mY hq h
 | .ops _ _ _ _ _ :: t, e, st, h => by
  cases e with
  | normal=>simp only [bK] at h ⊢; obtain ⟨xs,st',h1,h2,h3⟩:=h; exact ⟨xs,st',h1,h2,mY hq h3⟩
  | _=>simp only [bK] at h ⊢; exact mY hq h
theorem tF {E:Env} {k0:Nat} {Q:Exit→St→Prop} {st:St}:∀ {t:List cU},Q .ret st→bK E k0 t Q .ret st
 | [],h=>h
 | .blk i :: t,h=>by simp only [bK]; exact tF h
 | .code c :: t,h=>by simp only [bK]; exact tF h
 | .rep c m :: t,h=>by simp only [bK]; exact tF h
 | .ops _ _ _ _ _ :: t,h=>by simp only [bK]; exact tF h
def TodoOk (S:Array Tmp→Code→Code→Prop):List cU→Prop
 | []=>True
 | .blk _ :: t=>TodoOk S t
 | .code c :: t=>COk S c∧TodoOk S t
 | .rep c _ :: t=>COk S c∧TodoOk S t
 | .ops _ _ _ _ _ :: t=>TodoOk S t
theorem TodoOk.exit {S:Array Tmp→Code→Code→Prop} {id:Nat}:∀ {t t':List cU},TodoOk S t→kT id t=some t'→TodoOk S t'
 | [],_,_,h=>by cases h
 | .blk i :: t, t', ht, h => by
  simp only [kT] at h
  cases hb:Nat.beq i id with
  | true=>rw [hb] at h; cases h; exact ht
  | false=>rw [hb] at h; exact TodoOk.exit (t:=t) ht h
 | .code c :: t,t',ht,h=>TodoOk.exit ht.2 h
 | .rep c _ :: t,t',ht,h=>TodoOk.exit (t:=t) ht.2 h
 | .ops _ _ _ _ _ :: t,t',ht,h=>TodoOk.exit (t:=t) ht h
structure Gd (st:TSt τ):Prop where
 inv:Inv st.t
 off:OffOk st
structure Frm (st st':TSt τ):Prop where
 len:st'.t.length=st.t.length
 dt:∀ k,k ∉ st'.dt→k ∉ st.dt∧bT st'.t k=bT st.t k
 dh:∀ i,i ∉ st'.dh→i ∉ st.dh∧aM st'.h i=aM st.h i
theorem Frm.refl (st:TSt τ):Frm st st:=⟨rfl,fun _ h=>⟨h,rfl⟩,fun _ h=>⟨h,rfl⟩⟩
theorem Frm.trans {a b c:TSt τ} (h:Frm a b) (h':Frm b c):Frm a c :=
 ⟨h'.len.trans h.len,fun k hk=>⟨(h.dt k (h'.dt k hk).1).1,(h'.dt k hk).2.trans (h.dt k (h'.dt k hk).1).2⟩,fun i hi=>⟨(h.dh i (h'.dh i hi).1).1,(h'.dh i hi).2.trans (h.dh i (h'.dh i hi).1).2⟩⟩
theorem aDt (st:TSt τ) (o:Oper) (r:TV τ) (U:List (Nat×TEnt τ)):Frm st (eK st o r U):=by
 refine ⟨?_,fun k hk=>?_,fun i hi=>?_⟩
 ·simp only [eK]; cases o.dst<;>simp [aNH]
 ·simp only [eK] at hk ⊢
  cases hd:o.dst with
  | none=>rw [hd] at hk; exact ⟨hk,rfl⟩
  | some d =>
   rw [hd] at hk
   simp only [List.mem_cons,not_or] at hk
   exact ⟨hk.2,aC9 _ _ _ _ hk.1⟩
 ·simp only [eK,List.mem_append,not_or] at hi ⊢
  exact ⟨hi.2,aJK U _ i hi.1⟩
theorem aAz:∀ {t:List (TV τ)} {k:Nat},bT t k∈t∨bT t k=.junk
 | [],k=>.inr rfl
 | x :: r,0=>.inl List.mem_cons_self
 | x :: r,k+1=>(aAz (t:=r) (k:=k)).imp (List.mem_cons_of_mem _) id
theorem aXi {st:TSt τ} {k:Nat} (h:wP st k=true) {j d:Nat} {w b:Bool} {x:TV τ} (hj:bT st.t j=.cnd d w b x):d≠k:=by
 simp only [wP,Bool.and_eq_true] at h
 rcases aAz (t:=st.t) (k:=j) with hm | hm
 ·have:=List.all_eq_true.1 h.1 _ hm
  rw [hj] at this
  intro e; subst e; simp at this
 ·rw [hj] at hm; cases hm
theorem aXj {st:TSt τ} {k:Nat} (h:wP st k=true) {g:Nat×Bool} (hg:g∈st.off):g.1≠k:=by
 simp only [wP,Bool.and_eq_true] at h
 have:=List.all_eq_true.1 h.2 _ hg
 intro e; subst e; simp at this
theorem aJ2 {t:List (TV τ)} {k:Nat} {v:TV τ} {g:Nat×Bool} (h:g.1≠k):dZ (mR t k v) g=dZ t g:=by
 unfold dZ
 rw [aC9 _ _ _ _ h]
theorem aDu {st:TSt τ} (hg:Gd st) {o:Oper} (hd:iJ st o=true) {r:TV τ} (U:List (Nat×TEnt τ)) (hr:∀ d w b x,r=.cnd d w b x→dZ st.t (d,w)=some b∧∀ k,o.dst=some k→d≠k):Gd (eK st o r U):=by
 unfold iJ at hd
 cases ho:o.dst with
 | none =>
  refine ⟨fun k d w b x h=>?_,fun g h=>?_⟩
  ·simp only [eK,ho] at h ⊢; exact hg.inv k d w b x h
  ·simp only [eK,ho] at h ⊢; exact hg.off g h
 | some k =>
  rw [ho] at hd
  simp only [] at hd
  refine ⟨fun j d w b x h=>?_,fun g h=>?_⟩
  ·simp only [eK,ho] at h ⊢
   by_cases hj:j=k
   ·subst hj
    rcases aNG st.t j r with e | e
    ·rw [e] at h
     obtain ⟨h1,h2⟩:=hr d w b x h
     rw [aJ2 (h2 j ho)]; exact h1
    ·rw [e] at h; cases h
   ·rw [aC9 _ _ _ _ hj] at h
    rw [aJ2 (aXi hd h)]; exact hg.inv j d w b x h
  ·simp only [eK,ho] at h ⊢
   have h':g∈st.off:=h
   have:=hg.off g h'
   rw [aJ2 (aXj hd h')]
   exact this
theorem aXk {r:TV τ}:∀ d w b x,nc r≠.cnd d w b x:=fun d w b x e=>by cases r<;>cases e
theorem aDv {C:Cod τ} (st:TSt τ) (o:Oper) (r:TV τ) (U:List (Nat×TEnt τ)) (F:List Nat):(aV C st).after o ⟨cO C r,bP C U,F⟩=aV C (eK st o r U):=by
 simp only [St.after,aV,eK,aC8,St.put]
 cases o.dst with
 | none=>rfl
 | some k=>simp only [aNF]
theorem aN3 (C:Cod τ) (U:List (Nat×TEnt τ)):(bP C U).map (·.1)=U.map (·.1):=by simp [bP]
def lY (E:Env) (C:Cod τ) (ops:Array Oper) (o:Oper) (st st':TSt τ) (F U:List Nat):Prop :=
 ∃ x:Rec,sN E ops o (aV C st) x∧(∀ id∈x.U.map (·.1),id∈x.F)∧x.F=F∧x.U.map (·.1)=U∧(aV C st).after o x=aV C st'∧Gd st'∧Frm st st'
theorem aN4 {X:Type} {ob:Option Bool} {k:Option X} {x:X} (hk:obc ob k=some x):(∀ b,ob=some b→b=true)∧k=some x:=by
 unfold obc at hk
 split at hk
 ·exact ⟨fun b hb=>(nomatch hb),hk⟩
 ·rename_i b
  cases b with
  | true=>exact ⟨fun b' hb'=>(by cases hb'; rfl),hk⟩
  | false=>cases hk
theorem aXl {C:Cod τ} {U:List (Nat×TEnt τ)} {F:List Nat} (hi:aAt U F=true):∀ id∈(bP C U).map (·.1),id∈F:=fun id hid=>by
 rw [aN3] at hid
 obtain ⟨p,hp,rfl⟩:=List.mem_map.1 hid
 exact wJ.1 (List.all_eq_true.1 hi p hp)
theorem aN5 {E:Env} {C:Cod τ} {ops:Array Oper} {o:Oper} {st:TSt τ} (hg:Gd st) (hd:iJ st o=true) {res:bG τ} (hi:aAt res.U res.F=true) (hs:wK E C o st res.r res.U res.F)
  (hgo:dS ops (aV C st) o=some none∨dS ops (aV C st) o=some (some true)):lY E C ops o st (eK st o (nc res.r) res.U) res.F (res.U.map (·.1)):=by
 refine ⟨⟨cO C (nc res.r),bP C res.U,res.F⟩,aWZ hgo fun s' g a w hr hv hH nx Q hn=>?_,aXl hi,rfl,aN3 C res.U,aDv _ _ _ _ _,aDu hg hd _ (fun d w b y e=>absurd e (aXk d w b y)),aDt _ _ _ _⟩
 exact hs s' g a w hr hv (fun id hid=>by rw [hH id hid]; simp only [aV,gY]) nx Q fun v g' w' h1 h2=>hn v g' w' (aNI h1) h2
theorem aXm {E:Env} {C:Cod τ} {ops:Array Oper} {o:Oper} {st:TSt τ} (hg:Gd st) (hd:iJ st o=true) {g:Nat×Bool} {b:Bool} (hb:dZ st.t g=some b) (hgo:dS ops (aV C st) o=some (some b)) (hgd:∀ k,o.dst=some k→g.1≠k)
  {r:TV τ} {F:List Nat} (hs:b=true→wK E C o st r [] F):lY E C ops o st (eK st o (.cnd g.1 g.2 b (nc r)) []) F []:=by
 refine ⟨⟨.cnd b ((nc r).den C),[],F⟩,aW0 hgo fun hbt s' g1 a w hr hv hH nx Q hn=>?_,by simp,rfl,rfl,aDv st o (.cnd g.1 g.2 b (nc r)) [] F,aDu hg hd _ fun d w b' y e=>?_,aDt _ _ _ _⟩
 ·refine hs hbt s' g1 a w hr hv (fun id hid=>by rw [hH id hid]; simp only [aV,gY]) nx Q fun v g' w' h1 h2=>hn v g' w' ?_ h2
  have:=aNI h1
  cases r<;>exact this
 ·cases e
  exact ⟨hb,hgd⟩
theorem aJ3 {E:Env} {C:Cod τ} {ops:Array Oper} {o:Oper} {st:TSt τ} (hg:Gd st) (hd:iJ st o=true) {g:Nat×Bool} (hb:dZ st.t g=some false) (hgo:dS ops (aV C st) o=some (some false)) (hgd:∀ k,o.dst=some k→g.1≠k) :
  lY E C ops o st (eK { st with off:=g :: st.off } o .junk []) [] []:=by
 refine ⟨⟨cO C .junk,bP C [],[]⟩,aNK hgo,by simp [bP],rfl,rfl,?_,?_,?_⟩
 ·have:=aDv (C:=C) { st with off:=g :: st.off } o .junk [] []
  exact this
 ·have hg':Gd { st with off:=g :: st.off }:=⟨hg.inv,fun g' hg'=>by
   rcases List.mem_cons.1 hg' with e | e
   ·subst e; exact hb
   ·exact hg.off g' e⟩
  refine aDu hg' ?_ [] (fun d w b y e=>by cases e)
  unfold iJ at hd ⊢
  split
  ·rename_i k hk
   rw [hk] at hd
   simp only [wP,Bool.and_eq_true,List.all_cons] at hd ⊢
   refine ⟨hd.1,?_,hd.2⟩
   have:=hgd k hk
   cases hbk:Nat.beq g.1 k with
   | false=>rfl
   | true=>exact absurd (Nat.eq_of_beq_eq_true hbk) this
  ·rfl
 ·have:=aDt { st with off:=g :: st.off } o .junk []
  exact ⟨this.len,this.dt,this.dh⟩
theorem aN6 {E:Env} {C:Cod τ} {X:Type} {ops:Array Oper} {o:Oper} {st:TSt τ} (hg:Gd st) (hd:iJ st o=true) (hgo:dS ops (aV C st) o=some none∨dS ops (aV C st) o=some (some true)) {res:bG τ}
  {next:TSt τ→List Nat→List Nat→Option X} {x:X} (hstep:(∀ b,res.ob=some b→b=true)→wK E C o st res.r res.U res.F) (h:fin st o none res next=some x):∃ st' F U,lY E C ops o st st' F U∧next st' F U=some x:=by
 unfold fin at h
 cases hi:aAt res.U res.F with
 | false=>rw [hi] at h; cases h
 | true =>
  rw [hi] at h
  simp only [cond_true] at h
  obtain ⟨h1,h2⟩:=aN4 h
  exact ⟨_,_,_,aN5 hg hd hi (hstep h1) hgo,h2⟩
theorem aN7 {E:Env} {C:Cod τ} {X:Type} {ops:Array Oper} {o:Oper} {st:TSt τ} (hg:Gd st) (hd:iJ st o=true) {G:Option (Nat×Bool)} (hG:nY ops st.t o=some G) {res:bG τ} {next:TSt τ→List Nat→List Nat→Option X} {x:X}
  (hstep:(∀ b,res.ob=some b→b=true)→nZ st.t G→wK E C o st res.r res.U res.F) (h:fin st o G res next=some x):∃ st' F U,lY E C ops o st st' F U∧next st' F U=some x:=by
 cases G with
 | none=>exact aN6 hg hd (.inl (aNJ hG)) (fun hb=>hstep hb trivial) h
 | some g =>
  unfold fin at h
  cases hi:aAt res.U res.F with
  | false=>rw [hi] at h; cases h
  | true =>
   rw [hi] at h
   simp only [cond_true] at h
   obtain ⟨b,hb,hgo,hgd⟩:=aDa (C:=C) hG
   simp only [hb] at h
   split at h
   ·rename_i b' hb' hU
    simp only [Option.some.injEq] at hb'
    subst hb'
    have hob:(b=true→∀ c,res.ob=some c→c=true)∧next (eK st o (.cnd g.1 g.2 b (nc res.r)) []) res.F []=some x:=by
     unfold obg at h
     split at h
     ·rename_i hn; exact ⟨fun _ c hc=>(by rw [hn] at hc; cases hc),h⟩
     ·rename_i c hc
      cases hbc:(!b || c) with
      | false=>rw [hbc] at h; cases h
      | true =>
       rw [hbc] at h
       refine ⟨fun hbt c' hc'=>?_,h⟩
       rw [hc] at hc'; cases hc'
       subst hbt; simpa using hbc
    exact ⟨_,_,_,aXm hg hd hb hgo hgd fun hbt=>(by have:=hstep (hob.1 hbt) (show dZ st.t g=some true by rw [hb,hbt]); rw [hU] at this; exact this),hob.2⟩
   ·rename_i b' U' hb' hne
    simp only [Option.some.injEq] at hb'
    subst hb'
    cases b with
    | true =>
     simp only [cond_true] at h
     obtain ⟨h1,h2⟩:=aN4 h
     exact ⟨_,_,_,aN5 hg hd hi (hstep h1 hb) (.inr hgo),h2⟩
    | false =>
     simp only [cond_false] at h
     exact ⟨_,_,_,aJ3 hg hd hb hgo hgd,h⟩
   ·cases h
theorem aJ4 {E:Env} {C:Cod τ} {X:Type} {ops:Array Oper} {o:Oper} {st:TSt τ} (hg:Gd st) (hd:iJ st o=true) {G:Option (Nat×Bool)} (hG:nY ops st.t o=some G)
  {next:TSt τ→List Nat→List Nat→Option X} {y:X} (h:aAy st o G next=some y):∃ st' F U,lY E C ops o st st' F U∧next st' F U=some y:=by
 unfold aAy at h
 cases G with
 | none=>cases h
 | some g =>
  obtain ⟨b,hb,hgo,hgd⟩:=aDa (C:=C) hG
  simp only [hb] at h
  cases b with
  | true=>cases h
  | false =>
   simp only [cond_false] at h
   exact ⟨_,_,_,aJ3 hg hd hb hgo hgd,h⟩
theorem aJ5 {D:Dat τ} (hD:D.D.Ok) {X:Type} {ops:Array Oper} {o:Oper} {st:TSt τ} (hg:Gd st) (hd:iJ st o=true) (hgo:dS ops (aV D.D.C st) o=some none∨dS ops (aV D.D.C st) o=some (some true))
  {G:Option (Nat×Bool)} (hgt:nZ st.t G) (hok:(bB o.op).all (fun x=>iY st.t G (st.val x))=true) {pp:Pp τ} (hpp:qJ o st.h (fun x=>(st.val x).strip) pp) {fl:Bool} {res:bG τ}
  (hc:(res.ob=none∨res.ob=some true)→CoreOk D.D.E D.D.C fl o (pp.val st.h (fun x=>(st.val x).strip)) (aM (pp.h st.h)) res.r res.U res.F)
  {next:TSt τ→List Nat→List Nat→Option X} {y:X} (h:oD D st o none pp fl res next=some y):∃ st' F U,lY D.D.E D.D.C ops o st st' F U∧next st' F U=some y:=by
 unfold oD at h
 split at h
 ·rename_i res' hr
  exact aN6 hg hd hgo (fun ho=>(aN2 hD hpp hc hr ho).step hg.inv hgt hok) h
 ·cases h
theorem aN8 {D:Dat τ} (hD:D.D.Ok) {X:Type} {ops:Array Oper} {o:Oper} {st:TSt τ} (hg:Gd st) (hd:iJ st o=true) {G:Option (Nat×Bool)} (hG:nY ops st.t o=some G) (hok:(bB o.op).all (fun x=>iY st.t G (st.val x))=true)
  {pp:Pp τ} (hpp:qJ o st.h (fun x=>(st.val x).strip) pp) {fl:Bool} {res:bG τ} (hc:nZ st.t G→(res.ob=none∨res.ob=some true)→CoreOk D.D.E D.D.C fl o (pp.val st.h (fun x=>(st.val x).strip)) (aM (pp.h st.h)) res.r res.U res.F)
  {next:TSt τ→List Nat→List Nat→Option X} {y:X} (h:oD D st o G pp fl res next=some y):∃ st' F U,lY D.D.E D.D.C ops o st st' F U∧next st' F U=some y:=by
 unfold oD at h
 split at h
 ·rename_i res' hr
  exact aN7 hg hd hG (fun ho hgt=>(aN2 hD hpp (hc hgt) hr ho).step hg.inv hgt hok) h
 ·cases h
theorem aN9 {D:Dat τ} (hD:D.D.Ok) {X:Type} {ops:Array Oper} {o:Oper} {st:TSt τ} (hg:Gd st) (hd:iJ st o=true) (hgo:dS ops (aV D.D.C st) o=some none∨dS ops (aV D.D.C st) o=some (some true))
  {G:Option (Nat×Bool)} (hgt:nZ st.t G) (hok:(bB o.op).all (fun x=>iY st.t G (st.val x))=true) {pp:Pp τ} (hpp:qJ o st.h (fun x=>(st.val x).strip) pp)
  {f:FuncId} {args:List (TV τ)} (hc:aAq (pp.val st.h (fun x=>(st.val x).strip)) o.op=some (f,args)) {x:Hit τ} (hx:sW D.D.C (pp.h st.h) args x) {N:Nat} (hcon:aF D.D.E D.D.C f x.c) (hq:x.c.L.length≤x.c.L'.length) (hq2:wR x.c.L.length x.c.alt=true)
  {r:x.c.R} (hr:x.c.F N x.a x.b=some r) {next:TSt τ→List Nat→List Nat→Option X} {y:X} (h:aDr D st o pp x r next=some y):∃ st' F U,lY D.D.E D.D.C ops o st st' F U∧next st' F U=some y:=by
 have hs:=hcon N x.a x.b r hr
 unfold aDr at h
 unfold Con.out at hs
 split at h
 ·rename_i ha
  rw [ha] at hs
  exact aJ5 hD hg hd hgo hgt hok hpp (fun _=>aDk hD hc hx hs (by simp only [Con.out1,iZ]; exact hq)) h
 ·rename_i A ha
  rw [ha] at hs hq2
  simp only [] at hs
  cases hsel:x.c.sel r with
  | true =>
   rw [hsel] at h hs
   simp only [cond_true] at hs
   exact aJ5 hD hg hd hgo hgt hok hpp (fun _=>aDk hD hc hx hs (by simp only [Alt.out,iZ]; exact Nat.le_of_ble_eq_true hq2)) h
  | false =>
   rw [hsel] at h hs
   simp only [cond_false] at hs
   exact aJ5 hD hg hd hgo hgt hok hpp (fun _=>aDk hD hc hx hs (by simp only [Con.out1,iZ]; exact hq)) h
theorem aXn {D:Dat τ} (hD:D.D.Ok) {X:Type} {ops:Array Oper} {o:Oper} {st:TSt τ} (hg:Gd st) (hd:iJ st o=true) {G:Option (Nat×Bool)} (hG:nY ops st.t o=some G) (hok:(bB o.op).all (fun x=>iY st.t G (st.val x))=true)
  {pp:Pp τ} (hpp:qJ o st.h (fun x=>(st.val x).strip) pp)
  {f:FuncId} {args:List (TV τ)} (hc:aAq (pp.val st.h (fun x=>(st.val x).strip)) o.op=some (f,args)) {x:Hit τ} (hx:sW D.D.C (pp.h st.h) args x) {N:Nat} (hcon:aF D.D.E D.D.C f x.c) (hq:x.c.L.length≤x.c.L'.length) (hq2:wR x.c.L.length x.c.alt=true)
  {next:TSt τ→List Nat→List Nat→Option X} {y:X} (h:tD D st o G pp N x next=some y):∃ st' F U,lY D.D.E D.D.C ops o st st' F U∧next st' F U=some y:=by
 unfold tD at h
 cases G with
 | none =>
  obtain ⟨r,h1,h2⟩:=Option.bind_eq_some_iff.1 h
  exact aN9 hD hg hd (.inl (aNJ hG)) (G:=none) trivial hok hpp hc hx hcon hq hq2 h1 h2
 | some g =>
  obtain ⟨b,hb,hgo,hgd⟩:=aDa (C:=D.D.C) hG
  simp only [hb] at h
  split at h
  ·rename_i b' hb' hL' ha
   simp only [Option.some.injEq] at hb'
   subst hb'
   obtain ⟨r,h1,h2⟩:=Option.bind_eq_some_iff.1 h
   refine aN8 hD hg hd hG hok hpp (fun hgt _=>?_) h2
   have hbt:b=true:=by
    have:dZ st.t g=some true:=hgt
    rw [hb] at this; exact Option.some.inj this
   rw [hbt] at h1
   have hs:=hcon N x.a x.b r h1
   unfold Con.out at hs
   rw [ha] at hs
   exact aDk hD hc hx hs (by simp only [Con.out1,iZ]; exact hq)
  ·rename_i b' hb' hne
   simp only [Option.some.injEq] at hb'
   subst hb'
   cases b with
   | true =>
    simp only [cond_true] at h
    obtain ⟨r,h1,h2⟩:=Option.bind_eq_some_iff.1 h
    exact aN9 hD hg hd (.inr hgo) (G:=some g) hb hok hpp hc hx hcon hq hq2 h1 h2
   | false =>
    simp only [cond_false] at h
    exact ⟨_,_,_,aJ3 hg hd hb hgo hgd,h⟩
  ·cases h
structure Dat.Ok (D:Dat τ):Prop where
 ok:D.D.Ok
 good:Good D.D.E
 tbl:∀ f c,c∈D.tbl f→aF D.D.E D.D.C f c
 ro:D.inr=false→D.D.E.ro=none
theorem aXo {D:Dat τ} (hD:D.Ok) {N:Nat} {X:Type} {ops:Array Oper} {o:Oper} {st:TSt τ} (hg:Gd st) {next:TSt τ→List Nat→List Nat→Option X} {y:X} (h:step D N ops o st next=some y) :
  ∃ st' F U,lY D.D.E D.D.C ops o st st' F U∧next st' F U=some y:=by
 unfold step at h
 cases hd:iJ st o with
 | false=>rw [hd] at h; cases h
 | true =>
  rw [hd] at h
  simp only [cond_true] at h
  split at h
  ·cases h
  ·rename_i G hG
   cases hoff:offG st.off G with
   | true =>
    rw [hoff] at h
    simp only [cond_true] at h
    cases G with
    | none=>cases hoff
    | some g =>
     obtain ⟨b,hb,hgo,hgd⟩:=aDa (C:=D.D.C) hG
     have hb':dZ st.t g=some false:=by
      unfold offG offB at hoff
      rw [List.any_eq_true] at hoff
      obtain ⟨g',h1,h2⟩:=hoff
      have:=aDb h2
      subst this
      exact hg.off g h1
     rw [hb'] at hb; cases hb
     refine ⟨_,_,_,⟨⟨cO D.D.C .junk,bP D.D.C [],[]⟩,aNK hgo,by simp [bP],rfl,rfl,aDv _ _ _ _ _,aDu hg hd [] (fun d w b y e=>by cases e),aDt _ _ _ _⟩,h⟩
   | false =>
    rw [hoff] at h
    simp only [cond_false] at h
    split at h
    ·rename_i c a b ho
     split at h
     ·rename_i r hr
      exact aN7 hg hd hG (fun _ hgt=>aW4 ho hg.inv hg.off hgt hr) h
     ·exact aJ4 hg hd hG h
    ·cases hok:(bB o.op).all (fun x=>iY st.t G (st.val x)) with
     | false=>rw [hok] at h; cases h
     | true =>
      rw [hok] at h
      simp only [cond_true] at h
      unfold stepP at h
      have hpp:qJ o st.h (fun x=>(st.val x).strip) (prep D o st.h (fun x=>(st.val x).strip)):=aXf
      generalize prep D o st.h (fun x=>(st.val x).strip)=pp at h hpp
      split at h
      ·rename_i f args hc
       split at h
       ·rename_i x hx
        cases hq:(Nat.ble x.c.L.length x.c.L'.length&&wR x.c.L.length x.c.alt) with
        | false=>rw [hq] at h; cases h
        | true =>
         rw [hq] at h
         simp only [cond_true] at h
         simp only [Bool.and_eq_true] at hq
         obtain ⟨h1,h2⟩:=aJR hD.ok.C hx
         exact aXn hD.ok hg hd hG hok hpp hc h2 (hD.tbl f _ h1) (Nat.le_of_ble_eq_true hq.1) hq.2 h
       ·exact aJ4 hg hd hG h
      ·split at h
       ·rename_i res hres
        cases hpf:aJN (aM (pp.h st.h)) res.U res.F with
        | false=>rw [hpf] at h; cases h
        | true =>
         rw [hpf] at h
         exact aN8 hD.ok hg hd hG hok hpp (fun _ hob=>aW2 hD.ok (lU _ _ (Nat.le_refl _)) hres hob hpf) h
       ·exact aJ4 hg hd hG h
end
end Go.Ev
