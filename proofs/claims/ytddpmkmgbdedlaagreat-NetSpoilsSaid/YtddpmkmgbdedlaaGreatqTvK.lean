/-
Pieces of code at an abstract state; loops; functions.
-/
import Derived.LoopNIn
import Derived.Scope
import Derived.RangeFuncRecord
import Derived.Below
import Derived.Test.YtddpmkmgbdedlaaGreatqTvJ
set_option linter.unusedVariables false
set_option linter.unusedSimpArgs false
set_option linter.unnecessarySimpa false
namespace Go.Ev
open Go
def AWp (E:Env) (k0:Nat) (c:Code) (st:St) (Q:Exit→St→Prop):Prop :=
 ∀ g a w,StRel g st a w→∀ g0 H0 w0,(∀ id x,g0.ρ id=some x→id < k0)→EvoP g0 H0 w0 g (aH st.h) w→DefOk w0 a w→c.wpIn (fe E) 0 E.P (Post g0 H0 w0 Q) a w
theorem Post.mono {g:Gh} {H:Nat→Ent} {w:World} {Q Q':Exit→St→Prop} (h:∀ e s,Q e s→Q' e s) {e:Exit} {a:Act} {w':World} (hp:Post g H w Q e a w'):Post g H w Q' e a w' :=
 let ⟨st',g',h1,h2,h3,h4⟩:=hp; ⟨st',g',h e st' h1,h2,h3,h4⟩
def eQ:Code→Bool
 | .region _ ops draw=>!draw || qE ops
 | .seq a b=>eQ a&&eQ b
 | .cond _ a b=>eQ a&&eQ b
 | .block _ c=>eQ c
 | .loop c=>eQ c
 | .scope c=>eQ c
 | .rangeFunc _ _ a b=>eQ a&&eQ b
 | _=>true
structure Good (E:Env):Prop where
 ty:E.Ok
 eq:E.EqOk
 mixed:E.P.follows .mixedOrders=true
theorem AWp.region {E:Env} (hG:Good E) {k0:Nat} {id:Nat} {ops:Array Oper} {draw:Bool} {st st':St} {xs:List Rec} {Q:Exit→St→Prop} (hok:eQ (.region id ops draw)=true)
  (h1:sP E ops ops.toList st xs st') (h2:Q .normal st') (h3:draw=true→jR (qD ops) (qF 0 xs [])=true):AWp E k0 (.region id ops draw) st Q:=by
 intro g a w hst g0 H0 w0 _ hev hdf
 have hops:∀ k o,ops.toList[k]?=some o→ops[0+k]?=some o:=fun k o hk=>by rw [Nat.zero_add]; simpa using hk
 cases draw with
 | false =>
  refine wpIn_region ?_
  have:=aNj ops.toList 0 xs st st' hops h1 g0 H0 w0 g a w Q hst hev hdf h2
  rw [Array.length_toList,← List.range_eq_range'] at this
  exact this
 | true =>
  have hs:qE ops=true:=by simpa [eQ] using hok
  obtain ⟨g1,g2,g3⟩:=aNu ops.toList 0 xs st st st' xs hops (fun k x hk=>by rw [Nat.zero_add]; exact hk) rfl h1
  rw [Array.length_toList,Nat.zero_add] at g2
  have g1:xs.length=ops.size:=by simpa using g1
  refine wpIn_region_any hG.mixed ?_
  refine aWD (xs:=xs) (st0:=st) hs (aWz g1 hs (h3 rfl)) (fun i hi=>?_) g2 h2 ops.size (Array.replicate ops.size false) g a { w with drawn:=w.drawn+1 } (by simp) ?_ ?_ ?_ ?_ (by exact hdf)
  ·have:=g3 i (ops.getD i default) (xs.getD i default) (by simp [Array.getD,hi]) (by simp [List.getD,List.getElem?_eq_getElem (show i < xs.length by omega)])
   rwa [Nat.zero_add] at this
  ·intro j o e hj
   simp [cF,Array.getD] at hj
  ·refine Nat.le_trans (List.length_filter_le _ _) (by simp)
  ·have:AD ops xs (cF (Array.replicate ops.size false)) st ops.size=st:=by
    have key:∀ n,AD ops xs (cF (Array.replicate ops.size false)) st n=st:=by
     intro n
     induction n with
     | zero=>rfl
     | succ n ih =>
      have:cF (Array.replicate ops.size false) n=false:=by simp [cF,Array.getD]
      simp only [AD,this,Bool.false_eq_true,if_false,ih]
    exact key _
   rw [this]
   exact ⟨hst.len,hst.t,hst.rel.drew _⟩
  ·have:AD ops xs (cF (Array.replicate ops.size false)) st ops.size=st:=by
    have key:∀ n,AD ops xs (cF (Array.replicate ops.size false)) st n=st:=by
     intro n
     induction n with
     | zero=>rfl
     | succ n ih =>
      have:cF (Array.replicate ops.size false) n=false:=by simp [cF,Array.getD]
      simp only [AD,this,Bool.false_eq_true,if_false,ih]
    exact key _
   rw [this]
   exact hev.trans (EvoP.drew hst.rel _)
section
variable {E:Env} {k0:Nat} {st:St} {Q:Exit→St→Prop}
theorem AWp.mono {c:Code} {Q':Exit→St→Prop} (hq:∀ e s,Q e s→Q' e s) (h:AWp E k0 c st Q):AWp E k0 c st Q':=fun g a w hst g0 H0 w0 hk hev hdf =>
 wpIn_mono (h g a w hst g0 H0 w0 hk hev hdf) fun e a' w' hp=>hp.mono hq
theorem AWp.skip (h:Q .normal st):AWp E k0 .skip st Q:=fun g a w hst g0 H0 w0 _ hev hdf=>wpIn_skip ⟨st,g,h,hst,hev,hdf⟩
theorem AWp.exit {id:Nat} (h:Q (.exit id) st):AWp E k0 (.exit id) st Q:=fun g a w hst g0 H0 w0 _ hev hdf=>wpIn_exit ⟨st,g,h,hst,hev,hdf⟩
theorem AWp.ret (h:Q .ret st):AWp E k0 .ret st Q:=fun g a w hst g0 H0 w0 _ hev hdf=>wpIn_ret ⟨st,g,h,hst,hev,hdf⟩
theorem AWp.label {l:Nat} (h:Q .normal st):AWp E k0 (.label l) st Q:=fun g a w hst g0 H0 w0 _ hev hdf=>wpIn_label ⟨st,g,h,hst,hev,hdf⟩
theorem AWp.seq {x y:Code} (h:AWp E k0 x st fun e s=>match e with | .normal=>AWp E k0 y s Q | e=>Q e s):AWp E k0 (.seq x y) st Q:=fun g a w hst g0 H0 w0 hk hev hdf=>by
 refine wpIn_seq (wpIn_mono (h g a w hst g0 H0 w0 hk hev hdf) fun e a' w' hp=>?_)
 obtain ⟨st',g',h1,h2,h3,h4⟩:=hp
 cases e with
 | normal=>exact h1 g' a' w' h2 g0 H0 w0 hk h3 h4
 | _=>exact ⟨st',g',h1,h2,h3,h4⟩
theorem AWp.block {id:Nat} {c:Code} (h:AWp E k0 c st fun e s=>match e with | .exit i=>if i=id then Q .normal s else Q (.exit i) s | e=>Q e s):AWp E k0 (.block id c) st Q:=fun g a w hst g0 H0 w0 hk hev hdf=>by
 refine wpIn_block (wpIn_mono (h g a w hst g0 H0 w0 hk hev hdf) fun e a' w' hp=>?_)
 obtain ⟨st',g',h1,h2,h3,h4⟩:=hp
 cases e with
 | exit i =>
  simp only [Exit.inBlock]
  simp only [] at h1
  split
  ·rename_i hi; rw [if_pos hi] at h1; exact ⟨st',g',h1,h2,h3,h4⟩
  ·rename_i hi; rw [if_neg hi] at h1; exact ⟨st',g',h1,h2,h3,h4⟩
 | _=>exact ⟨st',g',h1,h2,h3,h4⟩
theorem AWp.cond {c:Operand} {x y:Code} {b:Bool} (hv:st.val c=.v (.bool b)) (h1:b=true→AWp E k0 x st Q) (h2:b=false→AWp E k0 y st Q):AWp E k0 (.cond c x y) st Q:=fun g a w hst g0 H0 w0 hk hev hdf=>by
 have:=hst.val c
 rw [hv] at this
 generalize hcv:a.eval c=vc at this
 cases this
 exact wpIn_cond_split hcv (fun e=>h1 e g a w hst g0 H0 w0 hk hev hdf) (fun e=>h2 e g a w hst g0 H0 w0 hk hev hdf)
theorem wF {P:Program} {b:Frame} {a:Act} {k:List Item} {cs:List Frame} {w:World} {c:Code}:step P (lone (b.atR a (.code (.scope c) :: k)) cs w)=.next (lone (b.atR a (.code c :: .inScope c :: k)) cs w) :=
 step_lone_go (by simp [stepG,stepG.exec,Frame.atR])
theorem aWE {P:Program} {b:Frame} {a:Act} {k:List Item} {cs:List Frame} {w:World} {c:Code}:step P (lone (b.atR a (.inScope c :: k)) cs w)=.next (lone (b.atR a k) cs w) :=
 step_lone_go (by simp [stepG,stepG.exec,Frame.atR])
theorem aWF {F:Fence} {n:Nat} {P:Program} {Q:Exit→Act→World→Prop} {a:Act} {w:World} {c:Code} (h:c.wpIn F n P (Exit.noGoto Q) a w):(Code.scope c).wpIn F n P Q a w:=by
 intro b k cs hro hb hr
 have h0:(lone (b.atR a (.code (.scope c) :: k)) cs w).fenced P F:=fenced_calm hb hr rfl
 obtain ⟨e,a₁,w₁,hq,harr⟩:=h b (.inScope c :: k) cs hro hb hr
 cases e with
 | normal=>exact ⟨.normal,a₁,w₁,hq,.head h0 wF (StepsIn.trans harr (.one (fenced_calm hb hr rfl) aWE))⟩
 | exit id =>
  have hx:exitTo id (.inScope c :: k)=exitTo id k:=by simp [exitTo]
  exact ⟨.exit id,a₁,w₁,hq,fun k' hk=>.head h0 wF (harr.1 k' (by rw [hx]; exact hk)),
   fun hr' hk=>let ⟨k₁,h1,h2⟩:=harr.2 hr' (by rw [hx]; exact hk); ⟨k₁,h1,.head h0 wF h2⟩⟩
 | goto l=>exact hq.elim
 | ret=>exact ⟨_,a₁,w₁,hq,.of_steps (.one h0 wF) harr⟩
 | panic ch=>exact ⟨_,a₁,w₁,hq,.of_steps (.one h0 wF) harr⟩
 | outgrown=>exact ⟨_,a₁,w₁,hq,.of_steps (.one h0 wF) harr⟩
theorem AWp.scope {c:Code} (h:AWp E k0 c st fun e s=>match e with | .goto _=>False | e=>Q e s):AWp E k0 (.scope c) st Q:=fun g a w hst g0 H0 w0 hk hev hdf=>by
 refine aWF (wpIn_mono (h g a w hst g0 H0 w0 hk hev hdf) fun e a' w' hp=>?_)
 obtain ⟨st',g',h1,h2,h3,h4⟩:=hp
 cases e with
 | goto l=>exact h1.elim
 | _=>exact ⟨st',g',h1,h2,h3,h4⟩
def RU (E:Env) (k0:Nat) (c:Code) (Q:Exit→St→Prop):Nat→St→Prop
 | 0,_=>False
 | m+1,st=>AWp E k0 c st fun e s=>match e with | .normal=>RU E k0 c Q m s | e=>Q e s
theorem AWp.rounds {c:Code} {m:Nat} (h:RU E k0 c Q m st):AWp E k0 (.loop c) st Q:=by
 intro g a w hst g0 H0 w0 hk hev hdf
 refine wpIn_loop_rounds m ?_
 have key:∀ m st g a w,RU E k0 c Q m st→StRel g st a w→EvoP g0 H0 w0 g (aH st.h) w→DefOk w0 a w→Code.roundsIn (fe E) 0 E.P c (Post g0 H0 w0 Q) m a w:=by
  intro m
  induction m with
  | zero=>intro st g a w h; exact h.elim
  | succ m ih =>
   intro st g a w h hst hev hdf
   rw [roundsIn_succ]
   refine wpIn_mono (h g a w hst g0 H0 w0 hk hev hdf) fun e a' w' hp=>?_
   obtain ⟨st',g2,h1,h2,h3,h4⟩:=hp
   cases e with
   | normal=>exact ih st' g2 a' w' h1 h2 h3 h4
   | _=>exact ⟨st',g2,h1,h2,h3,h4⟩
 exact key m st g a w h hst hev hdf
end
theorem AWp.ren {E:Env} {k0:Nat} {c:Code} {θ:Nat→Option Nat} {s s':St} {Q:Exit→St→Prop} (hle:StRen k0 θ s s') (h:AWp E k0 c s' Q):AWp E k0 c s Q:=by
 intro g a w hst g0 H0 w0 hk hev hdf
 obtain ⟨hst',hev'⟩:=hle.sound hst hk hev
 exact h _ a w hst' g0 H0 w0 hk hev' hdf
def wG (E:Env) (st:St):ResultVar→Option AV
 | .tmp t=>some (nth st.t t)
 | .cell a t=>mF E (aH st.h) t (nth st.t a)
def nW (E:Env) (st:St):List ResultVar→Option (List AV)
 | []=>some []
 | x :: r => match wG E st x, nW E st r with
  | some v,some vs=>some (v :: vs)
  | _,_=>none
def qG (E:Env) (rs:List ResultVar) (st:St):Option AV :=
 match nW E st rs with
 | some [v]=>some v
 | some vs=>some (.tup vs)
 | none=>none
theorem aWG {E:Env} (hE:E.Ok) {g:Gh} {st:St} {a:Act} {w:World} (hst:StRel g st a w) {x:ResultVar} {v:AV} (h:wG E st x=some v) :
  ∃ c,((match x with | .tmp t=>pure (a.tmps.getD t undef) | .cell b t=>do loadVar t (← asAddr (a.tmps.getD b undef)):Sem Value)).run E.P w=.ok c w∧VRel g v c:=by
 cases x with
 | tmp t =>
  simp only [wG,Option.some.injEq] at h
  subst h
  exact ⟨_,rfl,by have:=hst.val (.tmp t); simpa [St.val,Act.eval] using this⟩
 | cell b t =>
  simp only [wG] at h
  have hb:=hst.val (.tmp b)
  simp only [St.val,Act.eval] at hb
  obtain ⟨c,h1,h2⟩:=aA9 hE hst.rel.base hb h
  refine ⟨c,?_,h2⟩
  simp only [Instr.loadAt,Sem.run_bind] at h1 ⊢
  cases hv:a.tmps.getD b undef with
  | pointer p =>
   rw [hv] at h1
   cases p with
   | some ad=>exact h1
   | none=>simp [Instr.sureAddr] at h1
  | _=>rw [hv] at h1; simp [Instr.sureAddr] at h1
theorem aNy {E:Env} (hE:E.Ok) {g:Gh} {st:St} {a:Act} {w:World} (hst:StRel g st a w):∀ {rs:List ResultVar} {vs:List AV},nW E st rs=some vs →
  ∃ cs,(rs.mapM fun x=>(match x with | .tmp t=>pure (a.tmps.getD t undef) | .cell b t=>do loadVar t (← asAddr (a.tmps.getD b undef)):Sem Value)).run E.P w=.ok cs w∧LRel g vs cs
 | [],vs,h=>by simp [nW] at h; subst h; exact ⟨[],rfl,.nil⟩
 | x :: rs, vs, h => by
  simp only [nW] at h
  split at h
  ·rename_i v vs' h1 h2
   cases h
   obtain ⟨c,g1,g2⟩:=aWG hE hst h1
   obtain ⟨cs,g3,g4⟩:=aNy hE hst h2
   refine ⟨c :: cs,?_,g4.cons g2⟩
   rw [List.mapM_cons,Sem.run_bind,g1,Result.andThen_ok,Sem.run_bind,g3,Result.andThen_ok,Sem.run_pure]
  ·cases h
theorem aWH {E:Env} (hE:E.Ok) {g:Gh} {st:St} {a:Act} {w:World} (hst:StRel g st a w) {fn:Func} {v:AV} (h:qG E fn.results.toList st=some v) :
  ∃ c,(results fn a.tmps).run E.P w=.ok c w∧VRel g v c:=by
 unfold qG at h
 have run:∀ {vs:List AV},nW E st fn.results.toList=some vs→∃ cs:Array Value,LRel g vs cs.toList∧(results fn a.tmps).run E.P w=.ok (if h:cs.size=1 then cs[0] else .tuple cs) w:=fun hvs=>by
  obtain ⟨cs,h1,h2⟩:=aNy hE hst hvs
  refine ⟨cs.toArray,by simpa using h2,?_⟩
  unfold results
  rw [Sem.run_bind,Array.mapM_eq_mapM_toList,Sem.run_map]
  exact (congrArg (fun r:Result (List Value)=>((r.andThen fun a w'=>.ok a.toArray w').andThen fun a w'=>Sem.run E.P (pure (if h:a.size=1 then a[0] else .tuple a)) w')) (show _=Result.ok cs w from h1)).trans rfl
 split at h
 ·rename_i v' hvs
  cases h
  obtain ⟨cs,h1,h2⟩:=run hvs
  have hsz:cs.size=1:=by have:=h1.1; simpa using this.symm
  rw [dif_pos hsz] at h2
  refine ⟨_,h2,h1.2 0 v _ rfl (by simp [hsz])⟩
 ·rename_i vs hne hvs
  cases h
  obtain ⟨cs,h1,h2⟩:=run hvs
  have hsz:cs.size≠1:=fun e=>by
   have:=h1.1
   rw [show cs.toList.length=1 by simpa using e] at this
   obtain ⟨y,hy⟩:=List.length_eq_one_iff.1 this
   exact hne y hy
  rw [dif_neg hsz] at h2
  exact ⟨_,h2,.tup (by simpa using h1.1) fun k x c e e'=>h1.2 k x c e (by simpa using e')⟩
 ·cases h
def Ends (E:Env) (k0:Nat) (rs:List ResultVar) (r:AV) (L':List Ent) (e:Exit) (st:St):Prop :=
 match e with
 | .normal | .ret=>∃ v θ,qG E rs st=some v∧(∀ j,j < k0→θ j=some j)∧RW θ v r∧Rens θ (aH st.h) (aH L')
 | _=>False
theorem WRel.putD {g:Gh} {H:Nat→Ent} {w:World} (h:WRel g H w) {D:Nat} {ds:Option (List Deferred)} (hD:w.heap[D]?=some (.deferred ds)) (o:Obj):WRel g H (w.putObj D o):=by
 refine ⟨fun b k v e=>?_,fun id=>(h.ent id).keep g.le_refl (fun _=>rfl) fun b lo n hl e=>⟨?_,fun _ _=>rfl⟩,h.fresh,h.inj⟩
 ·obtain ⟨cs,T,fr,h1,h2⟩:=gM (h.imm b k v e)
  have hne:b≠D:=fun e=>by subst e; rw [hD] at h1; cases h1
  rw [cI (by rw [World.putObj_heap_other hne]; exact h1)]
  exact h2
 ·have hne:b≠D:=fun e'=>by subst e'; exact aNi h ⟨id,lo,n,hl,e,Nat.le_refl _⟩ hD
  exact World.putObj_heap_other hne
theorem WRelP.putD {g:Gh} {H:Nat→Ent} {w:World} (h:WRelP g H w) {D:Nat} {ds:Option (List Deferred)} (hD:w.heap[D]?=some (.deferred ds)) (o:Obj):WRelP g H (w.putObj D o) :=
 ⟨h.base.putD hD o,h.pool.stay fun b cs T fr e=>by
  have hne:b≠D:=fun e'=>by subst e'; rw [hD] at e; cases e
  rw [World.putObj_heap_other hne]; exact e⟩
theorem EvoP.putD {g0 g:Gh} {H0 H:Nat→Ent} {w0 w:World} (h:EvoP g0 H0 w0 g H w) {D:Nat} {ds:Option (List Deferred)} (hD:w.heap[D]?=some (.deferred ds)) (hlt:w0.heap.size≤D) (o:Obj):EvoP g0 H0 w0 g H (w.putObj D o):=by
 refine ⟨h.al,h.le,h.rel.putD hD o,⟨?_,h.fr.os,h.fr.out,fun b cs T fr e=>?_,fun b o' e hne hM=>?_⟩,h.grow,h.own⟩
 ·rw [World.putObj_size]; exact h.fr.size
 ·obtain ⟨cs',fr',e1,e2,e3,e4⟩:=h.fr.cells b cs T fr e
  have:=cZ e
  exact ⟨cs',fr',by rw [World.putObj_heap_other (by omega)]; exact e1,e2,e3,e4⟩
 ·have:=cZ e
  rw [World.putObj_heap_other (by omega)]; exact h.fr.objs b o' e hne hM
theorem aNz {E:Env} {g0:Gh} {H0 H:Nat→Ent} {w0:World} {fn:Func} {tmps:Array Value} {R:Ending→World→Prop} {g:Gh}:∀ (Ds:List Nat) (w:World),Ds.Nodup→(∀ D∈Ds,w0.heap.size≤D∧w.heap[D]?=some (.deferred (some [])))→EvoP g0 H0 w0 g H w →
  (∀ w',EvoP g0 H0 w0 g H w'→∃ v,(results fn tmps).run E.P w'=.ok v w'∧R (.returned v) w') →
  LeavesInM Fence.wide 0 E.P fn tmps R (Ds.map fun D=>({ target:=.collected D,args:=#[] }:Deferred)) .returning w
 | [],w,_,_,hev,hR=>hR w hev
 | D :: Ds, w, hn, hd, hev, hR => by
  obtain ⟨h1,h2⟩:=hd D (by simp)
  rw [List.nodup_cons] at hn
  refine ⟨by simp,.inl ⟨D,_,rfl,run_takeDeferred h2,?_⟩⟩
  refine aNz Ds _ hn.2 (fun D' hD'=>⟨(hd D' (by simp [hD'])).1,?_⟩) (hev.putD h2 h1 _) hR
  rw [World.putObj_heap_other (fun (e:D'=D)=>hn.1 (by rw [← e]; exact hD'))]
  exact (hd D' (by simp [hD'])).2
theorem FnSpec.intro {E : Env} (hG : Good E) (hro : E.ro = none) {f : FuncId} {fn : Func} {c : Code} (hf : E.P.funcs[f]? = some fn) (hb : fn.body = some c) (hname : (fn.name == "runtime.NumGoroutine") = false)
  {args:List AV} {L L':List Ent} {r:AV} (h:AWp E L.length c ⟨args++List.replicate (fn.ntmps - args.length) .junk,L⟩ (Ends E L.length fn.results.toList r L')):FnSpec E f args L r L':=by
 refine ⟨⟨fn,hf,by rw [hb]; rfl,hname⟩,fun g w cargs hW ha=>callsIn_wide.1 (callsIn_of_wp_marks (n:=0) hf hb trivial ?_)⟩
 have hfe:fe E=Fence.wide:=by unfold fe; rw [hro]; rfl
 have hst:StRel g ⟨args++List.replicate (fn.ntmps - args.length) .junk,L⟩ { tmps:=cargs++Array.replicate (fn.ntmps - cargs.size) undef,defers:=[] } w:=by
  have hlen:args.length=cargs.size:=by simpa using ha.1
  refine ⟨by simp [hlen],fun k x c e e'=>?_,hW⟩
  have key:LRel g (args++List.replicate (fn.ntmps - args.length) .junk) (cargs.toList++List.replicate (fn.ntmps - args.length) undef) :=
   ha.append ⟨by simp,fun k x c e e'=>by
    rw [List.getElem?_replicate] at e
    split at e
    ·cases e; exact .junk _
    ·cases e⟩
  refine key.2 k x c e ?_
  rw [hlen]
  have:(cargs++Array.replicate (fn.ntmps - cargs.size) undef).toList=cargs.toList++List.replicate (fn.ntmps - cargs.size) undef:=by simp
  rw [← this,Array.getElem?_toList]
  exact e'
 have hk:∀ id x,g.ρ id=some x→id < L.length:=fun id x e=>by
  rcases Nat.lt_or_ge id L.length with h' | h'
  ·exact h'
  ·rw [hW.base.fresh id (uB _ _ h')] at e; cases e
 rw [← hfe]
 refine wpIn_mono (h g _ w hst g (aH L) w hk (.refl hW) DefOk.none) fun e a' w' hp=>?_
 obtain ⟨st',g',h1,h2,h3,h4⟩:=hp
 have fin:(∃ v θ,qG E fn.results.toList st'=some v∧(∀ j,j < L.length→θ j=some j)∧RW θ v r∧Rens θ (aH st'.h) (aH L')) →
   LeavesInM (fe E) 0 E.P fn a'.tmps (fun e w'=>∃ v g',e=.returned v∧VRel g' r v∧EvoP g (aH L) w g' (aH L') w') a'.defers .returning w':=by
  rintro ⟨v,θ,hv,hθ,hvr,hre⟩
  obtain ⟨Ds,d1,d2,d3⟩:=h4
  rw [d1,hfe]
  refine aNz Ds w' d2 d3 h3 fun w2 hev2=>?_
  have h2':StRel g' st' a' w2:=⟨h2.len,h2.t,hev2.rel⟩
  obtain ⟨cv,hc1,hc2⟩:=aWH hG.ty h2' hv
  refine ⟨cv,hc1,cv,?_⟩
  have hst0:StRel g' ⟨[],st'.h⟩ { tmps:=#[],defers:=[] } w2:=⟨rfl,by simp,hev2.rel⟩
  obtain ⟨k1,k2⟩:=(StRen.mk (k0:=L.length) (θ:=θ) (s:=⟨[],st'.h⟩) (s':=⟨[],L'⟩) hθ ⟨rfl,by simp⟩ hre).sound hst0 hk hev2
  exact ⟨g'.ren θ,rfl,hvr _ _ hc2,k2⟩
 cases e with
 | normal=>exact fin h1
 | ret=>exact fin h1
 | _=>exact h1.elim
theorem Fr.putRec {M:Nat→Nat→Prop} {w:World} {l:Nat} {r:Loop} (hl:w.heap[l]?=some (.loop r)) (hM:M l 0) (o:Obj):Fr M w (w.putObj l o):=by
 refine ⟨by rw [World.putObj_size]; exact Nat.le_refl _,rfl,rfl,fun b cs T fr e=>?_,fun b o' e hne hM'=>?_⟩
 ·have hne:b≠l:=fun h=>by subst h; rw [hl] at e; cases e
  exact ⟨cs,fr,by rw [World.putObj_heap_other hne]; exact e,rfl,fun _ _=>rfl,.inl rfl⟩
 ·have hne':b≠l:=fun h=>by subst h; exact hM' 0 hM
  rw [World.putObj_heap_other hne']; exact e
theorem Evo.putRec {g:Gh} {H:Nat→Ent} {w:World} (h:WRel g H w) {id l:Nat} {r r':Loop} (hl:w.heap[l]?=some (.loop r)) (hlive:(H id).live) (hρ:g.ρ id=some (l,0,0)) (e:Ent) (hnu:e≠.unborn)
  (he:e.live→EntRel g (w.putObj l (.loop r')) id e) (hd:¬ e.live→e=.dead):Evo g H w g (upd H id e) (w.putObj l (.loop r')):=by
 have hM:MutOf g H l 0:=⟨id,0,0,hlive,hρ,Nat.le_refl _⟩
 have hlive':∀ k,(upd H id e k).live→(H k).live:=fun k hk=>by
  by_cases hki:k=id
  ·subst hki; exact hlive
  ·rw [aJ _ _ hki] at hk; exact hk
 refine ⟨g.le_refl,⟨fun b k v ev=>?_,fun k=>?_,fun k hk=>?_,fun k k' x x' hne a b c d=>h.inj k k' x x' hne (hlive' k a) (hlive' k' b) c d⟩,.putRec hl hM _,fun b o v ev=>.inl ev,fun k b lo n a c=>.inr ⟨k,lo,n,hlive' k a,c,Nat.le_refl _⟩⟩
 ·obtain ⟨cs,T,fr,h1,h2⟩:=gM (h.imm b k v ev)
  have hne:b≠l:=fun hb=>by subst hb; rw [hl] at h1; cases h1
  rw [cI (by rw [World.putObj_heap_other hne]; exact h1)]
  exact h2
 ·by_cases hki:k=id
  ·subst hki
   rw [aR]
   by_cases hel:e.live
   ·exact he hel
   ·rw [hd hel]; trivial
  ·rw [aJ _ _ hki]
   refine (h.ent k).keep g.le_refl (fun _=>rfl) fun b lo n a c=>⟨?_,fun _ _=>rfl⟩
   have hne:b≠l:=fun hb=>by subst hb; exact h.inj k id _ _ hki a hlive c hρ rfl
   exact World.putObj_heap_other hne
 ·by_cases hki:k=id
  ·subst hki; rw [aR] at hk; exact absurd hk hnu
  ·rw [aJ _ _ hki] at hk; exact h.fresh k hk
theorem sQ (w:World) (o:Obj) {k:Nat} (h:k < w.heap.size):(w.alloc o).heap[k]?=w.heap[k]?:=RowKit.Below.heap_alloc w o k h
theorem Evo.alloc {g:Gh} {H:Nat→Ent} {w:World} (h:WRel g H w) (o:Obj):Evo g H w g H (w.alloc o):=by
 refine ⟨g.le_refl,⟨fun b k v ev=>?_,fun k=>?_,h.fresh,h.inj⟩,⟨by simp,rfl,rfl,fun b cs T fr e=>⟨cs,fr,?_,rfl,fun _ _=>rfl,.inl rfl⟩,fun b o' e _ _=>?_⟩,fun b k v ev=>.inl ev,fun k b lo n a c=>.inr ⟨k,lo,n,a,c,Nat.le_refl _⟩⟩
 ·obtain ⟨cs,T,fr,h1,h2⟩:=gM (h.imm b k v ev)
  rw [cI (by rw [sQ w o (cZ h1)]; exact h1)]
  exact h2
 ·refine (h.ent k).keep g.le_refl (fun _=>rfl) fun b lo n a c=>⟨?_,fun _ _=>rfl⟩
  obtain ⟨_,h1,_⟩:=h.live_lt a c
  exact sQ w o (cZ h1)
 ·rw [sQ w o (cZ e)]; exact e
 ·rw [sQ w o (cZ e)]; exact e
theorem Evo.rcd {g:Gh} {H:Nat→Ent} {w:World} (h:WRel g H w) {id:Nat} (hid:H id=.unborn) {fn:FuncId} {tm:Array Value} {ps:Array Tmp} {asg body:Code} {df:Nat} {ts:List AV} (hts:LRel g ts tm.toList) :
  (g.setρ id (w.heap.size,0,0)).ρ id=some (w.heap.size,0,0) ∧
  Evo g H w (g.setρ id (w.heap.size,0,0)) (upd H id (.rcd ps asg body ts)) (w.alloc (.loop { state:=.ready,pending:=none,fn:=fn,tmps:=tm,params:=ps,assign:=asg,body:=body,defers:=df })):=by
 have hle:g.le (g.setρ id (w.heap.size,0,0)):=Gh.le_setρ (h.fresh id hid)
 have hρ:(g.setρ id (w.heap.size,0,0)).ρ id=some (w.heap.size,0,0):=by simp [Gh.setρ]
 have hρne:∀ k,k≠id→(g.setρ id (w.heap.size,0,0)).ρ k=g.ρ k:=fun k hk=>by simp [Gh.setρ,hk]
 generalize hg2:g.setρ id (w.heap.size,0,0)=g2 at hle hρ hρne ⊢
 have hI:g2.I=g.I:=by rw [← hg2]; rfl
 generalize hr:(Obj.loop { state:=.ready,pending:=none,fn:=fn,tmps:=tm,params:=ps,assign:=asg,body:=body,defers:=df })=o
 have h0:=Evo.alloc h o
 have hlt:∀ k b lo n,k≠id→(upd H id (.rcd ps asg body ts) k).live→g2.ρ k=some (b,lo,n)→b < w.heap.size∧(H k).live∧g.ρ k=some (b,lo,n):=fun k b lo n hk hl e=>by
  rw [aJ _ _ hk] at hl
  rw [hρne k hk] at e
  obtain ⟨_,h1,_⟩:=h.live_lt hl e
  exact ⟨cZ h1,hl,e⟩
 refine ⟨hρ,hle,⟨fun b k v ev=>h0.rel.imm b k v (by rw [← hI]; exact ev),fun k=>?_,fun k hk=>?_,fun k k' x x' hne hl hl' e e'=>?_⟩,h0.fr,fun b k v ev=>.inl (by rw [← hI]; exact ev),fun k b lo n hl e=>?_⟩
 ·by_cases hk:k=id
  ·subst hk
   rw [aR]
   refine ⟨w.heap.size,fn,tm,df,hρ,?_,hts.mono hle⟩
   rw [hr]
   exact World.alloc_heap_new w o
  ·rw [aJ _ _ hk]
   refine (h0.rel.ent k).keep hle (fun _=>hρne k hk) fun b lo n _ _=>⟨rfl,fun _ _=>by rw [hI]⟩
 ·by_cases hk':k=id
  ·subst hk'; simp at hk
  ·rw [aJ _ _ hk'] at hk
   rw [hρne k hk']; exact h.fresh k hk
 ·obtain ⟨b,lo,n⟩:=x
  obtain ⟨b',lo',n'⟩:=x'
  by_cases hk:k=id
  ·subst hk
   rw [hρ] at e; cases e
   obtain ⟨q,_,_⟩:=hlt k' b' lo' n' (Ne.symm hne) hl' e'
   simp; omega
  ·obtain ⟨q,q2,q3⟩:=hlt k b lo n hk hl e
   by_cases hk':k'=id
   ·subst hk'
    rw [hρ] at e'; cases e'
    simp; omega
   ·obtain ⟨_,p2,p3⟩:=hlt k' b' lo' n' hk' hl' e'
    exact h.inj k k' _ _ hne q2 p2 q3 p3
 ·by_cases hk:k=id
  ·subst hk
   rw [hρ] at e; cases e
   exact .inl (Nat.le_refl _)
  ·obtain ⟨_,q2,q3⟩:=hlt k b lo n hk hl e
   exact .inr ⟨k,lo,n,q2,q3,Nat.le_refl _⟩
theorem AWp.rangeFunc {E:Env} (hro:E.ro=none) {k0:Nat} {gop:Operand} {ps:Array Tmp} {asg body:Code} {st:St} {f:FuncId} {caps:List AV} {Q:Exit→St→Prop} (hv:st.val gop=.fn f caps) (hent:aLV E f)
  {ts:List AV} (hts:CW st.t ts) {H2:Nat→Ent}
  (hspec:∀ g w (cargs:Array Value),WRelP g (upd (aH st.h) st.h.length (.rcd ps asg body ts)) w→LRel g (.yld st.h.length :: caps) cargs.toList →
   Calls E.P f cargs w fun e w'=>∃ v g',e=.returned v∧EvoP g (upd (aH st.h) st.h.length (.rcd ps asg body ts)) w g' H2 w')
  {h':List Ent} (hh:aH h'=upd H2 st.h.length .dead)
  (hend:((∃ p q r s,H2 st.h.length=.rcd p q r s)∧Q .normal ⟨st.t,h'⟩)∨∃ c,H2 st.h.length=.rdn c∧AWp E k0 c ⟨st.t,h'⟩ Q):AWp E k0 (.rangeFunc gop ps asg body) st Q:=by
 intro g a w hst g0 H0 w0 hk hev hdf
 have hfe:fe E=Fence.wide:=by unfold fe; rw [hro]; rfl
 have hvv:=hst.val gop
 rw [hv] at hvv
 generalize hvf:a.eval gop=vf at hvv
 cases hvv with
 | @fn _ _ lb e1 e2 =>
 obtain ⟨fnr,f1,f2,f3⟩:=hent
 have hb:fnr.body≠none:=fun e=>by rw [e] at f2; cases f2
 have f3' : ¬ fnr.name = "runtime.NumGoroutine" := by simpa using f3
 refine wpIn_rangeFunc ?_
 intro fn hfn
 rw [show (fe E).round=none from hro]
 have htm:LRel g ts a.tmps.toList:=by
  refine ⟨by rw [← hts.1,hst.len]; simp,fun k y c hy hc=>?_⟩
  have hk':k < st.t.length:=by
   rw [hts.1]
   rcases Nat.lt_or_ge k ts.length with h | h
   ·exact h
   ·rw [List.getElem?_eq_none h] at hy; cases hy
  exact hts.2 k _ y (List.getElem?_eq_getElem hk') hy g c (hst.t k _ c (List.getElem?_eq_getElem hk') (by simpa using hc))
 have hE0:=(Evo.alloc hst.rel.base (.deferred (some []))).toP hst.rel.pool fun _ _=>Iff.rfl
 have hun:aH st.h st.h.length=.unborn:=uB _ _ (Nat.le_refl _)
 obtain ⟨hρ1,hE1b⟩:=Evo.rcd hE0.rel.base (id:=st.h.length) (uB _ _ (Nat.le_refl _)) (fn:=fn) (ps:=ps) (asg:=asg) (body:=body) (df:=w.heap.size) htm
 have hE1:=hE1b.toP hE0.rel.pool (pG (fun ms e=>by rw [hun] at e; cases e) (fun ms e=>by cases e))
 clear hE1b
 rw [World.size_alloc] at hρ1 hE1
 generalize hg1:g.setρ st.h.length (w.heap.size+1,0,0)=g1 at hρ1 hE1
 generalize hW1:(w.alloc (.deferred (some []))).alloc (.loop { state:=.ready,pending:=none,fn:=fn,tmps:=a.tmps,params:=ps,assign:=asg,body:=body,defers:=w.heap.size })=W1 at hE1
 have hD1:W1.heap[w.heap.size]?=some (.deferred (some [])):=by
  rw [← hW1,sQ _ _ (by simp)]; exact World.alloc_heap_new w _
 refine ⟨w.heap.size+1,[{ target:=.collected w.heap.size,args:=#[] }],W1,{ target:=.fn (.func f) lb,args:=#[.func (.yield (w.heap.size+1)) #[] #[]] },W1,f,#[.func (.yield (w.heap.size+1)) #[] #[]]++lb,W1,?_,?_,fun _ _=>trivial,?_,fun h=>(by cases h),?_⟩
 ·rw [← hW1]; exact run_enterLoop_outer _ _ _ _ _
 ·simp only [resolve,hvf]
  simp [Deferred.ofValue,Act.eval]
 ·simp [invoke,callFunc,f1,f3',hb]
 ·rw [hfe]
  refine callsIn_wide.2 ?_
  have hargs:LRel g1 (.yld st.h.length :: caps) (#[.func (.yield (w.heap.size+1)) #[] #[]]++lb:Array Value).toList:=by
   rw [Array.toList_append]
   refine LRel.cons (.yld hρ1) ⟨by simpa using e1,fun k x c hx hc=>?_⟩
   exact (e2 k x c hx (by simpa using hc)).monoU (hE0.le.trans hE1.le)
  refine (hspec g1 W1 _ hE1.rel hargs).mono ?_
  rintro e w2 ⟨v,g2,rfl,hE2⟩
  have hρ2:g2.ρ st.h.length=some (w.heap.size+1,0,0):=hE2.le.ρ _ _ hρ1
  -- the mark
  have hdf1:DefOk w0 { a with defers:=[{ target:=.collected w.heap.size,args:=#[] }]++a.defers } W1:=by
   obtain ⟨Ds,d1,d2,d3⟩:=hdf
   have dlt:∀ D∈Ds,D < w.heap.size:=fun D hD=>cZ (d3 D hD).2
   refine ⟨w.heap.size :: Ds,by rw [d1]; rfl,List.nodup_cons.2 ⟨fun hm=>by have:=dlt _ hm; omega,d2⟩,fun D hD=>?_⟩
   rcases List.mem_cons.1 hD with rfl | hD
   ·exact ⟨hev.fr.size,hD1⟩
   ·refine ⟨(d3 D hD).1,?_⟩
    have:=dlt D hD
    rw [← hW1,sQ _ _ (by simp; omega),sQ _ _ this]
    exact (d3 D hD).2
  have hdf2:=hdf1.step (a':={ a with defers:=[{ target:=.collected w.heap.size,args:=#[] }]++a.defers }) hE1.rel hE2.fr rfl
  have hent2:=hE2.rel.base.ent st.h.length
  have fin:∀ r:Loop,w2.heap[w.heap.size+1]?=some (.loop r)→(H2 st.h.length).live→(∀ ms,H2 st.h.length≠.pool ms) →
    let w4:=w2.putObj (w.heap.size+1) (.loop { r with state:=.exhausted })
    StRel g2 ⟨st.t,h'⟩ { a with defers:=[{ target:=.collected w.heap.size,args:=#[] }]++a.defers } w4∧EvoP g0 H0 w0 g2 (aH h') w4∧DefOk w0 { a with defers:=[{ target:=.collected w.heap.size,args:=#[] }]++a.defers } w4:=by
   intro r hr hlv hnp w4
   have hE3:=(Evo.putRec hE2.rel.base (r':={ r with state:=.exhausted }) hr hlv hρ2 .dead (by simp) (fun h=>h.elim) (fun _=>rfl)).toP hE2.rel.pool (pG hnp (fun ms e=>by cases e))
   rw [← hh] at hE3
   have hall:=((hE0.trans hE1).trans hE2).trans hE3
   refine ⟨⟨hst.len,fun k x c hx hc=>(hst.t k x c hx hc).monoU hall.le,hE3.rel⟩,hev.trans hall,hdf2.step hE2.rel hE3.fr rfl⟩
  rcases hend with ⟨⟨p,q,r0,s0,hH⟩,hQ⟩ | ⟨c,hH,hQ⟩
  ·rw [hH] at hent2
   obtain ⟨l,fn',tm,df,k1,k2,_⟩:=hent2
   rw [hρ2] at k1; cases k1
   obtain ⟨b1,b2,b3⟩:=fin _ k2 (by rw [hH]; trivial) (fun ms e=>by rw [hH] at e; cases e)
   exact ⟨none,_,run_endLoop k2 (by simp),_,g2,hQ,b1,b2,b3⟩
  ·rw [hH] at hent2
   obtain ⟨l,r,k1,k2,k3,k4⟩:=hent2
   rw [hρ2] at k1; cases k1
   obtain ⟨b1,b2,b3⟩:=fin _ k2 (by rw [hH]; trivial) (fun ms e=>by rw [hH] at e; cases e)
   refine ⟨some c,_,?_,hfe▸hQ g2 _ _ b1 g0 H0 w0 hk b2 b3⟩
   rw [run_endLoop k2 (by rw [k3]; simp),k4]
end Go.Ev
