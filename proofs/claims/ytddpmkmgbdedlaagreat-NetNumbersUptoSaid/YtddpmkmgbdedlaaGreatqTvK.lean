/-
Pieces of code at an abstract state;loops;functions.
-/
import Derived.LoopNIn
import Derived.Scope
import Derived.RangeFuncRecord
import Derived.Below
import Derived.Test.YtddpmkmgbdedlaaGreatqTvJ
set_option linter.unusedVariables false
set_option linter.unusedSimpArgs false
set_option linter.unnecessarySimpa false
namespace Go.Ev
open Go
def Er (E:Env)(k0:Nat)(c:Code)(st:St)(Q:Exit→St→Prop):Prop :=
 ∀ g a w,pN g st a w→∀ g0 H0 w0,(∀ id x,g0.ρ id=some x→id < k0)→iH g0 H0 w0 g (bU st.h) w→Nz w0 a w→c.wpIn (fe E) 0 E.P (u4 g0 H0 w0 Q) a w
theorem u4.mono {g:Gh}{H:Nat→dD}{w:World}{Q Q':Exit→St→Prop}(h:∀ e s,Q e s→Q' e s){e:Exit}{a:Act}{w':World}(hp:u4 g H w Q e a w'):u4 g H w Q' e a w' :=
 let ⟨fZ,g',h1,h2,h3,h4⟩:=hp;⟨fZ,g',h e fZ h1,h2,h3,h4⟩
def codeOk:Code→Bool
 |.region _ ops draw=>!draw || HI ops
 |.seq a b=>codeOk a&&codeOk b
 |.cond _ a b=>codeOk a&&codeOk b
 |.block _ c=>codeOk c
 |.loop c=>codeOk c
 |.scope c=>codeOk c
 |.rangeFunc _ _ a b=>codeOk a&&codeOk b
 |_=>true
structure Good (E:Env):Prop where
 ty:E.Ok
 eq:E.fp
 mixed:E.P.follows .mixedOrders=true
theorem Er.region {E:Env}(hG:Good E){k0:Nat}{id:Nat}{ops:Array Oper}{draw:Bool}{st fZ:St}{xs:List Rec}{Q:Exit→St→Prop}(Hm:codeOk (.region id ops draw)=true)
  (h1:fw E ops ops.toList st xs fZ) (h2:Q .normal fZ) (h3:draw=true→indep (UU ops) (dr 0 xs [])=true):Er E k0 (.region id ops draw) st Q:=by
 intro g a w sQ g0 H0 w0 _ iP Xw
 have Oz:∀ k o,ops.toList[k]?=some o→ops[0+k]?=some o:=fun k o hk=>by rw[Nat.zero_add];simpa using hk
 cases draw with
 |false =>
  refine wpIn_region ?_
  have:=o6 ops.toList 0 xs st fZ Oz h1 g0 H0 w0 g a w Q sQ iP Xw h2
  rw[Array.length_toList,← List.range_eq_range']at this
  exact this
 |true =>
  have hs:HI ops=true:=by simpa[codeOk] using Hm
  obtain⟨g1,g2,g3⟩:=l7 ops.toList 0 xs st st fZ xs Oz (fun k x hk=>by rw[Nat.zero_add];exact hk) rfl h1
  rw[Array.length_toList,Nat.zero_add]at g2
  have g1:xs.length=ops.size:=by simpa using g1
  refine wpIn_region_any hG.mixed ?_
  refine ik (xs:=xs) (st0:=st) hs (aA3 g1 hs (h3 rfl)) (fun i hi=>?_) g2 h2 ops.size (Array.replicate ops.size false) g a { w with drawn:=w.drawn+1 } (by simp) ?_ ?_ ?_ ?_ (by exact Xw)
  ·have:=g3 i (ops.getD i default) (xs.getD i default) (by simp[Array.getD,hi]) (by simp[List.getD,List.getElem?_eq_getElem (show i < xs.length by omega)])
   rwa [Nat.zero_add]at this
  ·intro j o e hj
   simp[yR,Array.getD]at hj
  ·refine Nat.le_trans (List.length_filter_le _ _) (by simp)
  ·have:AD ops xs (yR (Array.replicate ops.size false)) st ops.size=st:=by
    have key:∀ n,AD ops xs (yR (Array.replicate ops.size false)) st n=st:=by
     intro n
     induction n with
     |zero=>rfl
     |succ n ih =>
      have:yR (Array.replicate ops.size false) n=false:=by simp[yR,Array.getD]
      simp only[AD,this,Bool.false_eq_true,if_false,ih]
    exact key _
   rw[this]
   exact⟨sQ.len,sQ.t,sQ.rel.drew _⟩
  ·have:AD ops xs (yR (Array.replicate ops.size false)) st ops.size=st:=by
    have key:∀ n,AD ops xs (yR (Array.replicate ops.size false)) st n=st:=by
     intro n
     induction n with
     |zero=>rfl
     |succ n ih =>
      have:yR (Array.replicate ops.size false) n=false:=by simp[yR,Array.getD]
      simp only[AD,this,Bool.false_eq_true,if_false,ih]
    exact key _
   rw[this]
   exact iP.trans (iH.drew sQ.rel _)
section
variable {E:Env} {k0:Nat} {st:St} {Q:Exit→St→Prop}
theorem Er.mono {c:Code}{Q':Exit→St→Prop}(hq:∀ e s,Q e s→Q' e s)(h:Er E k0 c st Q):Er E k0 c st Q':=fun g a w sQ g0 H0 w0 hk iP Xw =>
 wpIn_mono (h g a w sQ g0 H0 w0 hk iP Xw) fun e a' w' hp=>hp.mono hq
theorem Er.skip (h:Q .normal st):Er E k0 .skip st Q:=fun g a w sQ g0 H0 w0 _ iP Xw=>wpIn_skip ⟨st,g,h,sQ,iP,Xw⟩
theorem Er.exit {id:Nat}(h:Q (.exit id) st):Er E k0 (.exit id) st Q:=fun g a w sQ g0 H0 w0 _ iP Xw=>wpIn_exit ⟨st,g,h,sQ,iP,Xw⟩
theorem Er.ret (h:Q .ret st):Er E k0 .ret st Q:=fun g a w sQ g0 H0 w0 _ iP Xw=>wpIn_ret ⟨st,g,h,sQ,iP,Xw⟩
theorem Er.label {l:Nat}(h:Q .normal st):Er E k0 (.label l) st Q:=fun g a w sQ g0 H0 w0 _ iP Xw=>wpIn_label ⟨st,g,h,sQ,iP,Xw⟩
theorem Er.seq {x y:Code}(h:Er E k0 x st fun e s=>match e with | .normal=>Er E k0 y s Q|e=>Q e s):Er E k0 (.seq x y) st Q:=fun g a w sQ g0 H0 w0 hk iP Xw=>by
 refine wpIn_seq (wpIn_mono (h g a w sQ g0 H0 w0 hk iP Xw) fun e a' w' hp=>?_)
 obtain⟨fZ,g',h1,h2,h3,h4⟩:=hp
 cases e with
 |normal=>exact h1 g' a' w' h2 g0 H0 w0 hk h3 h4
 |_=>exact⟨fZ,g',h1,h2,h3,h4⟩
theorem Er.block {id:Nat}{c:Code}(h:Er E k0 c st fun e s=>match e with | .exit i=>if i=id then Q .normal s else Q (.exit i) s|e=>Q e s):Er E k0 (.block id c) st Q:=fun g a w sQ g0 H0 w0 hk iP Xw=>by
 refine wpIn_block (wpIn_mono (h g a w sQ g0 H0 w0 hk iP Xw) fun e a' w' hp=>?_)
 obtain⟨fZ,g',h1,h2,h3,h4⟩:=hp
 cases e with
 |exit i =>
  simp only[Exit.inBlock]
  simp only[]at h1
  split
  ·rename_i hi;rw[if_pos hi]at h1;exact⟨fZ,g',h1,h2,h3,h4⟩
  ·rename_i hi;rw[if_neg hi]at h1;exact⟨fZ,g',h1,h2,h3,h4⟩
 |_=>exact⟨fZ,g',h1,h2,h3,h4⟩
theorem Er.cond {c:Operand}{x y:Code}{b:Bool}(hv:st.val c=.v (.bool b))(h1:b=true→Er E k0 x st Q)(h2:b=false→Er E k0 y st Q):Er E k0 (.cond c x y) st Q:=fun g a w sQ g0 H0 w0 hk iP Xw=>by
 have:=sQ.val c
 rw[hv]at this
 generalize hcv:a.eval c=vc at this
 cases this
 exact wpIn_cond_split hcv (fun e=>h1 e g a w sQ g0 H0 w0 hk iP Xw) (fun e=>h2 e g a w sQ g0 H0 w0 hk iP Xw)
theorem Hi {P:Program}{b:Frame}{a:Act}{k:List Item}{cs:List Frame}{w:World}{c:Code}:step P (lone (b.atR a (.code (.scope c) :: k)) cs w)=.next (lone (b.atR a (.code c :: .inScope c :: k)) cs w) :=
 step_lone_go (by simp[stepG,stepG.exec,Frame.atR])
theorem C1 {P:Program}{b:Frame}{a:Act}{k:List Item}{cs:List Frame}{w:World}{c:Code}:step P (lone (b.atR a (.inScope c :: k)) cs w)=.next (lone (b.atR a k) cs w) :=
 step_lone_go (by simp[stepG,stepG.exec,Frame.atR])
theorem mn {F:Fence}{n:Nat}{P:Program}{Q:Exit→Act→World→Prop}{a:Act}{w:World}{c:Code}(h:c.wpIn F n P (Exit.noGoto Q) a w):(Code.scope c).wpIn F n P Q a w:=by
 intro b k cs V1 hb hr
 have h0:(lone (b.atR a (.code (.scope c) :: k)) cs w).fenced P F:=fenced_calm hb hr rfl
 obtain⟨e,xr,aB5,hq,tw⟩:=h b (.inScope c :: k) cs V1 hb hr
 cases e with
 |normal=>exact⟨.normal,xr,aB5,hq,.head h0 Hi (StepsIn.trans tw (.one (fenced_calm hb hr rfl) C1))⟩
 |exit id =>
  have hx:exitTo id (.inScope c :: k)=exitTo id k:=by simp[exitTo]
  exact⟨.exit id,xr,aB5,hq,fun k' hk=>.head h0 Hi (tw.1 k' (by rw[hx];exact hk)),
   fun hr' hk=>let ⟨k₁,h1,h2⟩:=tw.2 hr' (by rw[hx];exact hk);⟨k₁,h1,.head h0 Hi h2⟩⟩
 |goto l=>exact hq.elim
 |ret=>exact⟨_,xr,aB5,hq,.of_steps (.one h0 Hi) tw⟩
 |panic ch=>exact⟨_,xr,aB5,hq,.of_steps (.one h0 Hi) tw⟩
 |outgrown=>exact⟨_,xr,aB5,hq,.of_steps (.one h0 Hi) tw⟩
theorem Er.scope {c:Code}(h:Er E k0 c st fun e s=>match e with | .goto _=>False|e=>Q e s):Er E k0 (.scope c) st Q:=fun g a w sQ g0 H0 w0 hk iP Xw=>by
 refine mn (wpIn_mono (h g a w sQ g0 H0 w0 hk iP Xw) fun e a' w' hp=>?_)
 obtain⟨fZ,g',h1,h2,h3,h4⟩:=hp
 cases e with
 |goto l=>exact h1.elim
 |_=>exact⟨fZ,g',h1,h2,h3,h4⟩
def RU (E:Env)(k0:Nat)(c:Code)(Q:Exit→St→Prop):Nat→St→Prop
 |0,_=>False
 |m+1,st=>Er E k0 c st fun e s=>match e with | .normal=>RU E k0 c Q m s|e=>Q e s
theorem Er.rounds {c:Code}{m:Nat}(h:RU E k0 c Q m st):Er E k0 (.loop c) st Q:=by
 intro g a w sQ g0 H0 w0 hk iP Xw
 refine wpIn_loop_rounds m ?_
 have key:∀ m st g a w,RU E k0 c Q m st→pN g st a w→iH g0 H0 w0 g (bU st.h) w→Nz w0 a w→Code.roundsIn (fe E) 0 E.P c (u4 g0 H0 w0 Q) m a w:=by
  intro m
  induction m with
  |zero=>intro st g a w h;exact h.elim
  |succ m ih =>
   intro st g a w h sQ iP Xw
   rw[roundsIn_succ]
   refine wpIn_mono (h g a w sQ g0 H0 w0 hk iP Xw) fun e a' w' hp=>?_
   obtain⟨fZ,g2,h1,h2,h3,h4⟩:=hp
   cases e with
   |normal=>exact ih fZ g2 a' w' h1 h2 h3 h4
   |_=>exact⟨fZ,g2,h1,h2,h3,h4⟩
 exact key m st g a w h sQ iP Xw
end
theorem Er.Au {E:Env}{k0:Nat}{c:Code}{θ:Nat→Option Nat}{s s':St}{Q:Exit→St→Prop}(hle:XY k0 θ s s')(h:Er E k0 c s' Q):Er E k0 c s Q:=by
 intro g a w sQ g0 H0 w0 hk iP Xw
 obtain⟨aAx,jh⟩:=hle.sound sQ hk iP
 exact h _ a w aAx g0 H0 w0 hk jh Xw
def TB (E:Env)(st:St):ResultVar→Option AV
 |.tmp t=>some (nth st.t t)
 |.cell a t=>Wa E (bU st.h) t (nth st.t a)
def CK (E:Env)(st:St):List ResultVar→Option (List AV)
 |[]=>some []
 |x :: r=>match TB E st x,CK E st r with
  |some v,some vs=>some (v :: vs)
  |_,_=>none
def VH (E:Env)(rs:List ResultVar)(st:St):Option AV :=
 match CK E st rs with
 |some [v]=>some v
 |some vs=>some (.jE vs)
 |none=>none
theorem S6 {E:Env}(hE:E.Ok){g:Gh}{st:St}{a:Act}{w:World}(sQ:pN g st a w){x:ResultVar}{v:AV}(h:TB E st x=some v) :
  ∃ c,((match x with | .tmp t=>pure (a.tmps.getD t undef) | .cell b t=>do loadVar t (← asAddr (a.tmps.getD b undef)):Sem Value)).run E.P w=.ok c w∧aF g v c:=by
 cases x with
 |tmp t =>
  simp only[TB,Option.some.injEq]at h
  subst h
  exact⟨_,rfl,by have:=sQ.val (.tmp t);simpa[St.val,Act.eval] using this⟩
 |cell b t =>
  simp only[TB]at h
  have hb:=sQ.val (.tmp b)
  simp only[St.val,Act.eval]at hb
  obtain⟨c,h1,h2⟩:=Ow hE sQ.rel.base hb h
  refine⟨c,?_,h2⟩
  simp only[Instr.loadAt,Sem.run_bind]at h1 ⊢
  cases hv:a.tmps.getD b undef with
  |pointer p =>
   rw[hv]at h1
   cases p with
   |some ad=>exact h1
   |none=>simp[Instr.sureAddr]at h1
  |_=>rw[hv]at h1;simp[Instr.sureAddr]at h1
theorem PV {E:Env}(hE:E.Ok){g:Gh}{st:St}{a:Act}{w:World}(sQ:pN g st a w):∀ {rs:List ResultVar} {vs:List AV},CK E st rs=some vs →
  ∃ cs,(rs.mapM fun x=>(match x with | .tmp t=>pure (a.tmps.getD t undef) | .cell b t=>do loadVar t (← asAddr (a.tmps.getD b undef)):Sem Value)).run E.P w=.ok cs w∧cW g vs cs
 |[],vs,h=>by simp[CK]at h;subst h;exact⟨[],rfl,.nil⟩
 |x :: rs,vs,h=>by
  simp only[CK]at h
  split at h
  ·rename_i v vs' h1 h2
   cases h
   obtain⟨c,g1,g2⟩:=S6 hE sQ h1
   obtain⟨cs,g3,g4⟩:=PV hE sQ h2
   refine⟨c :: cs,?_,g4.cons g2⟩
   rw[List.mapM_cons,Sem.run_bind,g1,Result.andThen_ok,Sem.run_bind,g3,Result.andThen_ok,Sem.run_pure]
  ·cases h
theorem cr {E:Env}(hE:E.Ok){g:Gh}{st:St}{a:Act}{w:World}(sQ:pN g st a w){fn:Func}{v:AV}(h:VH E fn.results.toList st=some v) :
  ∃ c,(results fn a.tmps).run E.P w=.ok c w∧aF g v c:=by
 unfold VH at h
 have run:∀ {vs:List AV},CK E st fn.results.toList=some vs→∃ cs:Array Value,cW g vs cs.toList∧(results fn a.tmps).run E.P w=.ok (if h:cs.size=1 then cs[0] else .tuple cs) w:=fun pe=>by
  obtain⟨cs,h1,h2⟩:=PV hE sQ pe
  refine⟨cs.toArray,by simpa using h2,?_⟩
  unfold results
  rw[Sem.run_bind,Array.mapM_eq_mapM_toList,Sem.run_map]
  exact (congrArg (fun r:Result (List Value)=>((r.andThen fun a w'=>.ok a.toArray w').andThen fun a w'=>Sem.run E.P (pure (if h:a.size=1 then a[0] else .tuple a)) w')) (show _=Result.ok cs w from h1)).trans rfl
 split at h
 ·rename_i v' pe
  cases h
  obtain⟨cs,h1,h2⟩:=run pe
  have Ch:cs.size=1:=by have:=h1.1;simpa using this.symm
  rw[dif_pos Ch]at h2
  refine⟨_,h2,h1.2 0 v _ rfl (by simp[Ch])⟩
 ·rename_i vs dF pe
  cases h
  obtain⟨cs,h1,h2⟩:=run pe
  have Ch:cs.size≠1:=fun e=>by
   have:=h1.1
   rw[show cs.toList.length=1 by simpa using e]at this
   obtain⟨y,hy⟩:=List.length_eq_one_iff.1 this
   exact dF y hy
  rw[dif_neg Ch]at h2
  exact⟨_,h2,.jE (by simpa using h1.1) fun k x c e e'=>h1.2 k x c e (by simpa using e')⟩
 ·cases h
def Ends (E:Env)(k0:Nat)(rs:List ResultVar)(r:AV)(L':List dD)(e:Exit)(st:St):Prop :=
 match e with
 |.normal | .ret=>∃ v θ,VH E rs st=some v∧(∀ j,j < k0→θ j=some j)∧RW θ v r∧DO θ (bU st.h) (bU L')
 |_=>False
theorem eR.aBe {g:Gh}{H:Nat→dD}{w:World}(h:eR g H w){D:Nat}{ds:Option (List Deferred)}(hD:w.heap[D]?=some (.deferred ds))(o:Obj):eR g H (w.putObj D o):=by
 refine⟨fun b k v e=>?_,fun id=>(h.zD id).iO g.le_refl (fun _=>rfl) fun b lo n hl e=>⟨?_,fun _ _=>rfl⟩,h.fresh,h.inj⟩
 ·obtain⟨cs,T,fr,h1,h2⟩:=fB (h.AY b k v e)
  have dF:b≠D:=fun e=>by subst e;rw[hD]at h1;cases h1
  rw[bL (by rw[World.putObj_heap_other dF];exact h1)]
  exact h2
 ·have dF:b≠D:=fun e'=>by subst e';exact ax h ⟨id,lo,n,hl,e,Nat.le_refl _⟩ hD
  exact World.putObj_heap_other dF
theorem kT.aBe {g:Gh}{H:Nat→dD}{w:World}(h:kT g H w){D:Nat}{ds:Option (List Deferred)}(hD:w.heap[D]?=some (.deferred ds))(o:Obj):kT g H (w.putObj D o) :=
 ⟨h.base.aBe hD o,h.aX.stay fun b cs T fr e=>by
  have dF:b≠D:=fun e'=>by subst e';rw[hD]at e;cases e
  rw[World.putObj_heap_other dF];exact e⟩
theorem iH.aBe {g0 g:Gh}{H0 H:Nat→dD}{w0 w:World}(h:iH g0 H0 w0 g H w){D:Nat}{ds:Option (List Deferred)}(hD:w.heap[D]?=some (.deferred ds))(nH:w0.heap.size≤D)(o:Obj):iH g0 H0 w0 g H (w.putObj D o):=by
 refine⟨h.al,h.le,h.rel.aBe hD o,⟨?_,h.fr.os,h.fr.out,fun b cs T fr e=>?_,fun b o' e dF hM=>?_⟩,h.grow,h.own⟩
 ·rw[World.putObj_size];exact h.fr.size
 ·obtain⟨Ju,UH,e1,e2,e3,e4⟩:=h.fr.cells b cs T fr e
  have:=cU e
  exact⟨Ju,UH,by rw[World.putObj_heap_other (by omega)];exact e1,e2,e3,e4⟩
 ·have:=cU e
  rw[World.putObj_heap_other (by omega)];exact h.fr.A2 b o' e dF hM
theorem OR {E:Env}{g0:Gh}{H0 H:Nat→dD}{w0:World}{fn:Func}{tmps:Array Value}{R:Ending→World→Prop}{g:Gh}:∀ (Ds:List Nat) (w:World),Ds.Nodup→(∀ D∈Ds,w0.heap.size≤D∧w.heap[D]?=some (.deferred (some [])))→iH g0 H0 w0 g H w →
  (∀ w',iH g0 H0 w0 g H w'→∃ v,(results fn tmps).run E.P w'=.ok v w'∧R (.returned v) w') →
  LeavesInM Fence.wide 0 E.P fn tmps R (Ds.map fun D=>({ target:=.collected D,args:=#[] }:Deferred)) .returning w
 |[],w,_,_,iP,hR=>hR w iP
 |D :: Ds,w,hn,hd,iP,hR=>by
  obtain⟨h1,h2⟩:=hd D (by simp)
  rw[List.nodup_cons]at hn
  refine⟨by simp,.inl ⟨D,_,rfl,run_takeDeferred h2,?_⟩⟩
  refine OR Ds _ hn.2 (fun D' hD'=>⟨(hd D' (by simp[hD'])).1,?_⟩) (iP.aBe h2 h1 _) hR
  rw[World.putObj_heap_other (fun (e:D'=D)=>hn.1 (by rw[← e];exact hD'))]
  exact (hd D' (by simp[hD'])).2
theorem mT.intro {E : Env} (hG : Good E) (V1 : E.ro = none) {f : FuncId} {fn : Func} {c : Code} (hf : E.P.funcs[f]? = some fn) (hb : fn.body = some c) (FL : (fn.name == "runtime.NumGoroutine") = false)
  {args:List AV} {L L':List dD} {r:AV} (h:Er E L.length c ⟨args++List.replicate (fn.ntmps - args.length) .aZ,L⟩ (Ends E L.length fn.results.toList r L')):mT E f args L r L':=by
 refine⟨⟨fn,hf,by rw[hb];rfl,FL⟩,fun g w cargs hW ha=>callsIn_wide.1 (callsIn_of_wp_marks (n:=0) hf hb trivial ?_)⟩
 have hfe:fe E=Fence.wide:=by unfold fe;rw[V1];rfl
 have sQ:pN g ⟨args++List.replicate (fn.ntmps - args.length) .aZ,L⟩ { tmps:=cargs++Array.replicate (fn.ntmps - cargs.size) undef,defers:=[] } w:=by
  have hlen:args.length=cargs.size:=by simpa using ha.1
  refine⟨by simp[hlen],fun k x c e e'=>?_,hW⟩
  have key:cW g (args++List.replicate (fn.ntmps - args.length) .aZ) (cargs.toList++List.replicate (fn.ntmps - args.length) undef) :=
   ha.append ⟨by simp,fun k x c e e'=>by
    rw[List.getElem?_replicate]at e
    split at e
    ·cases e;exact .aZ _
    ·cases e⟩
  refine key.2 k x c e ?_
  rw[hlen]
  have:(cargs++Array.replicate (fn.ntmps - cargs.size) undef).toList=cargs.toList++List.replicate (fn.ntmps - cargs.size) undef:=by simp
  rw[← this,Array.getElem?_toList]
  exact e'
 have hk:∀ id x,g.ρ id=some x→id < L.length:=fun id x e=>by
  rcases Nat.lt_or_ge id L.length with h' | h'
  ·exact h'
  ·rw[hW.base.fresh id (AT _ _ h')]at e;cases e
 rw[← hfe]
 refine wpIn_mono (h g _ w sQ g (bU L) w hk (.refl hW) Nz.none) fun e a' w' hp=>?_
 obtain⟨fZ,g',h1,h2,h3,h4⟩:=hp
 have fin:(∃ v θ,VH E fn.results.toList fZ=some v∧(∀ j,j < L.length→θ j=some j)∧RW θ v r∧DO θ (bU fZ.h) (bU L')) →
   LeavesInM (fe E) 0 E.P fn a'.tmps (fun e w'=>∃ v g',e=.returned v∧aF g' r v∧iH g (bU L) w g' (bU L') w') a'.defers .returning w':=by
  rintro⟨v,θ,hv,tZ,hvr,hre⟩
  obtain⟨Ds,d1,d2,d3⟩:=h4
  rw[d1,hfe]
  refine OR Ds w' d2 d3 h3 fun w2 Z9=>?_
  have QR:pN g' fZ a' w2:=⟨h2.len,h2.t,Z9.rel⟩
  obtain⟨cv,hc1,ow⟩:=cr hG.ty QR hv
  refine⟨cv,hc1,cv,?_⟩
  have aGe:pN g' ⟨[],fZ.h⟩ { tmps:=#[],defers:=[] } w2:=⟨rfl,by simp,Z9.rel⟩
  obtain⟨k1,k2⟩:=(XY.mk (k0:=L.length) (θ:=θ) (s:=⟨[],fZ.h⟩) (s':=⟨[],L'⟩) tZ ⟨rfl,by simp⟩ hre).sound aGe hk Z9
  exact⟨g'.Au θ,rfl,hvr _ _ ow,k2⟩
 cases e with
 |normal=>exact fin h1
 |ret=>exact fin h1
 |_=>exact h1.elim
theorem Fr.kq {M:Nat→Nat→Prop}{w:World}{l:Nat}{r:Loop}(hl:w.heap[l]?=some (.loop r))(hM:M l 0)(o:Obj):Fr M w (w.putObj l o):=by
 refine⟨by rw[World.putObj_size];exact Nat.le_refl _,rfl,rfl,fun b cs T fr e=>?_,fun b o' e dF hM'=>?_⟩
 ·have dF:b≠l:=fun h=>by subst h;rw[hl]at e;cases e
  exact⟨cs,fr,by rw[World.putObj_heap_other dF];exact e,rfl,fun _ _=>rfl,.inl rfl⟩
 ·have aF9:b≠l:=fun h=>by subst h;exact hM' 0 hM
  rw[World.putObj_heap_other aF9];exact e
theorem fC.kq {g:Gh}{H:Nat→dD}{w:World}(h:eR g H w){id l:Nat}{r r':Loop}(hl:w.heap[l]?=some (.loop r))(eE:(H id).live)(gO:g.ρ id=some (l,0,0))(e:dD)(hnu:e≠.bX)
  (he:e.live→Hn g (w.putObj l (.loop r')) id e) (hd:¬ e.live→e=.dead):fC g H w g (eQ H id e) (w.putObj l (.loop r')):=by
 have hM:Jx g H l 0:=⟨id,0,0,eE,gO,Nat.le_refl _⟩
 have jo:∀ k,(eQ H id e k).live→(H k).live:=fun k hk=>by
  by_cases DF:k=id
  ·subst DF;exact eE
  ·rw[aM _ _ DF]at hk;exact hk
 refine⟨g.le_refl,⟨fun b k v ev=>?_,fun k=>?_,fun k hk=>?_,fun k k' x x' dF a b c d=>h.inj k k' x x' dF (jo k a) (jo k' b) c d⟩,.kq hl hM _,fun b o v ev=>.inl ev,fun k b lo n a c=>.inr ⟨k,lo,n,jo k a,c,Nat.le_refl _⟩⟩
 ·obtain⟨cs,T,fr,h1,h2⟩:=fB (h.AY b k v ev)
  have dF:b≠l:=fun hb=>by subst hb;rw[hl]at h1;cases h1
  rw[bL (by rw[World.putObj_heap_other dF];exact h1)]
  exact h2
 ·by_cases DF:k=id
  ·subst DF
   rw[aP]
   by_cases hel:e.live
   ·exact he hel
   ·rw[hd hel];trivial
  ·rw[aM _ _ DF]
   refine (h.zD k).iO g.le_refl (fun _=>rfl) fun b lo n a c=>⟨?_,fun _ _=>rfl⟩
   have dF:b≠l:=fun hb=>by subst hb;exact h.inj k id _ _ DF a eE c gO rfl
   exact World.putObj_heap_other dF
 ·by_cases DF:k=id
  ·subst DF;rw[aP]at hk;exact absurd hk hnu
  ·rw[aM _ _ DF]at hk;exact h.fresh k hk
theorem vF (w:World)(o:Obj){k:Nat}(h:k < w.heap.size):(w.alloc o).heap[k]?=w.heap[k]?:=RowKit.Below.heap_alloc w o k h
theorem fC.alloc {g:Gh}{H:Nat→dD}{w:World}(h:eR g H w)(o:Obj):fC g H w g H (w.alloc o):=by
 refine⟨g.le_refl,⟨fun b k v ev=>?_,fun k=>?_,h.fresh,h.inj⟩,⟨by simp,rfl,rfl,fun b cs T fr e=>⟨cs,fr,?_,rfl,fun _ _=>rfl,.inl rfl⟩,fun b o' e _ _=>?_⟩,fun b k v ev=>.inl ev,fun k b lo n a c=>.inr ⟨k,lo,n,a,c,Nat.le_refl _⟩⟩
 ·obtain⟨cs,T,fr,h1,h2⟩:=fB (h.AY b k v ev)
  rw[bL (by rw[vF w o (cU h1)];exact h1)]
  exact h2
 ·refine (h.zD k).iO g.le_refl (fun _=>rfl) fun b lo n a c=>⟨?_,fun _ _=>rfl⟩
  obtain⟨_,h1,_⟩:=h.Cu a c
  exact vF w o (cU h1)
 ·rw[vF w o (cU e)];exact e
 ·rw[vF w o (cU e)];exact e
theorem fC.yU {g:Gh}{H:Nat→dD}{w:World}(h:eR g H w){id:Nat}(gY:H id=.bX){fn:FuncId}{tm:Array Value}{ps:Array Tmp}{asg body:Code}{df:Nat}{ts:List AV}(hts:cW g ts tm.toList) :
  (g.jX id (w.heap.size,0,0)).ρ id=some (w.heap.size,0,0) ∧
  fC g H w (g.jX id (w.heap.size,0,0)) (eQ H id (.yU ps asg body ts)) (w.alloc (.loop { state:=.ready,pending:=none,fn:=fn,tmps:=tm,params:=ps,assign:=asg,body:=body,defers:=df })):=by
 have hle:g.le (g.jX id (w.heap.size,0,0)):=Gh.Yj (h.fresh id gY)
 have gO:(g.jX id (w.heap.size,0,0)).ρ id=some (w.heap.size,0,0):=by simp[Gh.jX]
 have lM:∀ k,k≠id→(g.jX id (w.heap.size,0,0)).ρ k=g.ρ k:=fun k hk=>by simp[Gh.jX,hk]
 generalize N8:g.jX id (w.heap.size,0,0)=g2 at hle gO lM ⊢
 have hI:g2.I=g.I:=by rw[← N8];rfl
 generalize hr:(Obj.loop { state:=.ready,pending:=none,fn:=fn,tmps:=tm,params:=ps,assign:=asg,body:=body,defers:=df })=o
 have h0:=fC.alloc h o
 have nH:∀ k b lo n,k≠id→(eQ H id (.yU ps asg body ts) k).live→g2.ρ k=some (b,lo,n)→b < w.heap.size∧(H k).live∧g.ρ k=some (b,lo,n):=fun k b lo n hk hl e=>by
  rw[aM _ _ hk]at hl
  rw[lM k hk]at e
  obtain⟨_,h1,_⟩:=h.Cu hl e
  exact⟨cU h1,hl,e⟩
 refine⟨gO,hle,⟨fun b k v ev=>h0.rel.AY b k v (by rw[← hI];exact ev),fun k=>?_,fun k hk=>?_,fun k k' x x' dF hl oI e e'=>?_⟩,h0.fr,fun b k v ev=>.inl (by rw[← hI];exact ev),fun k b lo n hl e=>?_⟩
 ·by_cases hk:k=id
  ·subst hk
   rw[aP]
   refine⟨w.heap.size,fn,tm,df,gO,?_,hts.mono hle⟩
   rw[hr]
   exact World.alloc_heap_new w o
  ·rw[aM _ _ hk]
   refine (h0.rel.zD k).iO hle (fun _=>lM k hk) fun b lo n _ _=>⟨rfl,fun _ _=>by rw[hI]⟩
 ·by_cases jR:k=id
  ·subst jR;simp at hk
  ·rw[aM _ _ jR]at hk
   rw[lM k jR];exact h.fresh k hk
 ·obtain⟨b,lo,n⟩:=x
  obtain⟨b',IW,n'⟩:=x'
  by_cases hk:k=id
  ·subst hk
   rw[gO]at e;cases e
   obtain⟨q,_,_⟩:=nH k' b' IW n' (Ne.symm dF) oI e'
   simp;omega
  ·obtain⟨q,q2,q3⟩:=nH k b lo n hk hl e
   by_cases jR:k'=id
   ·subst jR
    rw[gO]at e';cases e'
    simp;omega
   ·obtain⟨_,p2,p3⟩:=nH k' b' IW n' jR oI e'
    exact h.inj k k' _ _ dF q2 p2 q3 p3
 ·by_cases hk:k=id
  ·subst hk
   rw[gO]at e;cases e
   exact .inl (Nat.le_refl _)
  ·obtain⟨_,q2,q3⟩:=nH k b lo n hk hl e
   exact .inr ⟨k,lo,n,q2,q3,Nat.le_refl _⟩
theorem Er.rangeFunc {E:Env}(V1:E.ro=none){k0:Nat}{tn:Operand}{ps:Array Tmp}{asg body:Code}{st:St}{f:FuncId}{Ht:List AV}{Q:Exit→St→Prop}(hv:st.val tn=.fn f Ht)(Fs:mv E f)
  {ts:List AV} (hts:CW st.t ts) {H2:Nat→dD}
  (aAw:∀ g w (cargs:Array Value),kT g (eQ (bU st.h) st.h.length (.yU ps asg body ts)) w→cW g (.Ar st.h.length :: Ht) cargs.toList →
   Calls E.P f cargs w fun e w'=>∃ v g',e=.returned v∧iH g (eQ (bU st.h) st.h.length (.yU ps asg body ts)) w g' H2 w')
  {h':List dD} (hh:bU h'=eQ H2 st.h.length .dead)
  (aCB:((∃ p q r s,H2 st.h.length=.yU p q r s)∧Q .normal ⟨st.t,h'⟩)∨∃ c,H2 st.h.length=.Qa c∧Er E k0 c ⟨st.t,h'⟩ Q):Er E k0 (.rangeFunc tn ps asg body) st Q:=by
 intro g a w sQ g0 H0 w0 hk iP Xw
 have hfe:fe E=Fence.wide:=by unfold fe;rw[V1];rfl
 have hvv:=sQ.val tn
 rw[hv]at hvv
 generalize hvf:a.eval tn=vf at hvv
 cases hvv with
 |@fn _ _ lb e1 e2 =>
 obtain⟨fnr,f1,f2,f3⟩:=Fs
 have hb:fnr.body≠none:=fun e=>by rw[e]at f2;cases f2
 have f3' : ¬ fnr.name = "runtime.NumGoroutine" := by simpa using f3
 refine wpIn_rangeFunc ?_
 intro fn hfn
 rw[show (fe E).round=none from V1]
 have htm:cW g ts a.tmps.toList:=by
  refine⟨by rw[← hts.1,sQ.len];simp,fun k y c hy hc=>?_⟩
  have jR:k < st.t.length:=by
   rw[hts.1]
   rcases Nat.lt_or_ge k ts.length with h|h
   ·exact h
   ·rw[List.getElem?_eq_none h]at hy;cases hy
  exact hts.2 k _ y (List.getElem?_eq_getElem jR) hy g c (sQ.t k _ c (List.getElem?_eq_getElem jR) (by simpa using hc))
 have hE0:=(fC.alloc sQ.rel.base (.deferred (some []))).xa sQ.rel.aX fun _ _=>Iff.rfl
 have wq:bU st.h st.h.length=.bX:=AT _ _ (Nat.le_refl _)
 obtain⟨uf,hE1b⟩:=fC.yU hE0.rel.base (id:=st.h.length) (AT _ _ (Nat.le_refl _)) (fn:=fn) (ps:=ps) (asg:=asg) (body:=body) (df:=w.heap.size) htm
 have hE1:=hE1b.xa hE0.rel.aX (Jg (fun ms e=>by rw[wq]at e;cases e) (fun ms e=>by cases e))
 clear hE1b
 rw[World.size_alloc]at uf hE1
 generalize hg1:g.jX st.h.length (w.heap.size+1,0,0)=g1 at uf hE1
 generalize hW1:(w.alloc (.deferred (some []))).alloc (.loop { state:=.ready,pending:=none,fn:=fn,tmps:=a.tmps,params:=ps,assign:=asg,body:=body,defers:=w.heap.size })=W1 at hE1
 have hD1:W1.heap[w.heap.size]?=some (.deferred (some [])):=by
  rw[← hW1,vF _ _ (by simp)];exact World.alloc_heap_new w _
 refine⟨w.heap.size+1,[{ target:=.collected w.heap.size,args:=#[] }],W1,{ target:=.fn (.func f) lb,args:=#[.func (.yield (w.heap.size+1)) #[] #[]] },W1,f,#[.func (.yield (w.heap.size+1)) #[] #[]]++lb,W1,?_,?_,fun _ _=>trivial,?_,fun h=>(by cases h),?_⟩
 ·rw[← hW1];exact run_enterLoop_outer _ _ _ _ _
 ·simp only[resolve,hvf]
  simp[Deferred.ofValue,Act.eval]
 ·simp[invoke,callFunc,f1,f3',hb]
 ·rw[hfe]
  refine callsIn_wide.2 ?_
  have pR:cW g1 (.Ar st.h.length :: Ht) (#[.func (.yield (w.heap.size+1)) #[] #[]]++lb:Array Value).toList:=by
   rw[Array.toList_append]
   refine cW.cons (.Ar uf) ⟨by simpa using e1,fun k x c hx hc=>?_⟩
   exact (e2 k x c hx (by simpa using hc)).rD (hE0.le.trans hE1.le)
  refine (aAw g1 W1 _ hE1.rel pR).mono ?_
  rintro e w2 ⟨v,g2,rfl,hE2⟩
  have Yh:g2.ρ st.h.length=some (w.heap.size+1,0,0):=hE2.le.ρ _ _ uf
  -- the mark
  have aF1:Nz w0 { a with defers:=[{ target:=.collected w.heap.size,args:=#[] }]++a.defers } W1:=by
   obtain⟨Ds,d1,d2,d3⟩:=Xw
   have dlt:∀ D∈Ds,D < w.heap.size:=fun D hD=>cU (d3 D hD).2
   refine⟨w.heap.size :: Ds,by rw[d1];rfl,List.nodup_cons.2 ⟨fun hm=>by have:=dlt _ hm;omega,d2⟩,fun D hD=>?_⟩
   rcases List.mem_cons.1 hD with rfl|hD
   ·exact⟨iP.fr.size,hD1⟩
   ·refine⟨(d3 D hD).1,?_⟩
    have:=dlt D hD
    rw[← hW1,vF _ _ (by simp;omega),vF _ _ this]
    exact (d3 D hD).2
  have hdf2:=aF1.step (a':={ a with defers:=[{ target:=.collected w.heap.size,args:=#[] }]++a.defers }) hE1.rel hE2.fr rfl
  have pb:=hE2.rel.base.zD st.h.length
  have fin:∀ r:Loop,w2.heap[w.heap.size+1]?=some (.loop r)→(H2 st.h.length).live→(∀ ms,H2 st.h.length≠.aX ms) →
    let w4:=w2.putObj (w.heap.size+1) (.loop { r with state:=.exhausted })
    pN g2 ⟨st.t,h'⟩ { a with defers:=[{ target:=.collected w.heap.size,args:=#[] }]++a.defers } w4∧iH g0 H0 w0 g2 (bU h') w4∧Nz w0 { a with defers:=[{ target:=.collected w.heap.size,args:=#[] }]++a.defers } w4:=by
   intro r hr Oc hnp w4
   have hE3:=(fC.kq hE2.rel.base (r':={ r with state:=.exhausted }) hr Oc Yh .dead (by simp) (fun h=>h.elim) (fun _=>rfl)).xa hE2.rel.aX (Jg hnp (fun ms e=>by cases e))
   rw[← hh]at hE3
   have iI:=((hE0.trans hE1).trans hE2).trans hE3
   refine⟨⟨sQ.len,fun k x c hx hc=>(sQ.t k x c hx hc).rD iI.le,hE3.rel⟩,iP.trans iI,hdf2.step hE2.rel hE3.fr rfl⟩
  rcases aCB with⟨⟨p,q,r0,s0,hH⟩,hQ⟩|⟨c,hH,hQ⟩
  ·rw[hH]at pb
   obtain⟨l,fn',tm,df,k1,k2,_⟩:=pb
   rw[Yh]at k1;cases k1
   obtain⟨b1,b2,b3⟩:=fin _ k2 (by rw[hH];trivial) (fun ms e=>by rw[hH]at e;cases e)
   exact⟨none,_,run_endLoop k2 (by simp),_,g2,hQ,b1,b2,b3⟩
  ·rw[hH]at pb
   obtain⟨l,r,k1,k2,k3,k4⟩:=pb
   rw[Yh]at k1;cases k1
   obtain⟨b1,b2,b3⟩:=fin _ k2 (by rw[hH];trivial) (fun ms e=>by rw[hH]at e;cases e)
   refine⟨some c,_,?_,hfe▸hQ g2 _ _ b1 g0 H0 w0 hk b2 b3⟩
   rw[run_endLoop k2 (by rw[k3];simp),k4]
end Go.Ev
