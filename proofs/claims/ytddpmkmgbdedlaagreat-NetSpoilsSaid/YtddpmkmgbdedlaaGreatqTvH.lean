/-
Regions: their operations one behind the other,and in any order that their edges allow.
-/
import Derived.Test.YtddpmkmgbdedlaaGreatqTvG
set_option linter.unusedVariables false
set_option linter.unusedSimpArgs false
set_option linter.unnecessarySimpa false
namespace Go.Ev
open Go
def disj (l m:List Nat):Bool:=l.all fun x=>!m.contains x
def sO (acc:Array Nat) (o:Oper):Nat :=
 o.after.toList.foldl (fun s e=>if Region.binds .any e then s ||| 2 ^ e.on ||| acc.getD e.on 0 else s) 0
def aAk (acc:Array Nat):List Oper→Array Nat
 | []=>acc
 | o :: r=>aAk (acc.push (sO acc o)) r
def qD (ops:Array Oper):Array Nat:=aAk #[] ops.toList
def jR (m:Array Nat):List (Nat×List Nat×List Nat)→Bool
 | []=>true
 | (j,f,u) :: r=>(r.all fun (i,f',u')=>(m.getD j 0).testBit i || (disj u f'&&disj u' f))&&jR m r
def qE (ops:Array Oper):Bool :=
 (List.range ops.size).all fun j =>
  (match ops[j]? with | some o=>o.after.toList.all fun e=>!Region.binds .any e || decide (e.on < j) | none=>false) &&
  (List.range j).all fun i=>((qD ops).getD j 0).testBit i || (match ops[i]?,ops[j]? with | some x,some y=>x.apart ops y | _,_=>false)
def sP (E:Env) (ops:Array Oper):List Oper→St→List Rec→St→Prop
 | [],st,[],st'=>st'=st
 | o :: rest,st,x :: xs,st'=>sN E ops o st x∧(∀ id∈x.U.map (·.1),id∈x.F)∧sP E ops rest (st.after o x) xs st'
 | _,_,_,_=>False
def qF:Nat→List Rec→List (Nat×List Nat×List Nat)→List (Nat×List Nat×List Nat)
 | _,[],tr=>tr
 | i,x :: xs,tr=>qF (i+1) xs ((i,x.F,x.U.map (·.1)) :: tr)
def DefOk (w0:World) (a:Act) (w:World):Prop :=
 ∃ Ds:List Nat,a.defers=Ds.map (fun D=>({ target:=.collected D,args:=#[] }:Deferred))∧Ds.Nodup∧∀ D∈Ds,w0.heap.size≤D∧w.heap[D]?=some (.deferred (some []))
theorem DefOk.none {w0:World} {t:Array Value} {w:World}:DefOk w0 { tmps:=t,defers:=[] } w:=⟨[],rfl,List.nodup_nil,fun _ h=>by cases h⟩
theorem aNi {g:Gh} {H:Nat→Ent} {w:World} (h:WRel g H w) {b o:Nat} (hm:MutOf g H b o) {ds:Option (List Deferred)} (hb:w.heap[b]?=some (.deferred ds)):False:=by
 obtain ⟨id,lo,n,hl,e,_⟩:=hm
 have he:=h.ent id
 cases hH:H id with
 | box cells=>rw [hH] at he; obtain ⟨b',n',cs,T,fr,e1,e2,_⟩:=he; rw [e] at e1; cases e1; rw [hb] at e2; cases e2
 | tail=>rw [hH] at he; obtain ⟨cs,T,fr,e2,_⟩:=he b lo n e; rw [hb] at e2; cases e2
 | gbx cells =>
  rw [hH] at he
  rcases he with ⟨e0,_⟩ | ⟨b',n',cs,T,fr,e1,e2,_⟩
  ·rw [e] at e0; cases e0
  ·rw [e] at e1; cases e1; rw [hb] at e2; cases e2
 | rcd ps asg body ts=>rw [hH] at he; obtain ⟨l,fn,tm,df,e1,e2,_⟩:=he; rw [e] at e1; cases e1; rw [hb] at e2; cases e2
 | rdn c=>rw [hH] at he; obtain ⟨l,r,e1,e2,_⟩:=he; rw [e] at e1; cases e1; rw [hb] at e2; cases e2
 | pool ms=>rw [h.pool_ρ hH] at e; cases e
 | _=>rw [hH] at hl; exact hl.elim
theorem aWu {g:Gh} {H:Nat→Ent} {w:World} (h:WRelP g H w) {b o:Nat} (hm:jM g H b o) {ds:Option (List Deferred)} (hb:w.heap[b]?=some (.deferred ds)):False:=by
 obtain ⟨lo,ho,hlo⟩:=hm
 rcases ho with ⟨id,n,hl,e⟩ | ⟨_,j,n,hm,e⟩
 ·exact aNi h.base ⟨id,lo,n,hl,e,hlo⟩ hb
 ·obtain ⟨cs,T,fr,e2,_⟩:=h.pool.at hm e
  rw [hb] at e2; cases e2
theorem DefOk.step {w0 w w':World} {a a':Act} {g:Gh} {H:Nat→Ent} (h:DefOk w0 a w) (hW:WRelP g H w) (hf:Fr (jM g H) w w') (ha:a'.defers=a.defers):DefOk w0 a' w':=by
 obtain ⟨Ds,h1,h2,h3⟩:=h
 refine ⟨Ds,ha.trans h1,h2,fun D hD=>⟨(h3 D hD).1,hf.objs D _ (h3 D hD).2 (by intros; simp) fun k hk=>aWu hW hk (h3 D hD).2⟩⟩
def Post (g:Gh) (H:Nat→Ent) (w:World) (Q:Exit→St→Prop):Exit→Act→World→Prop :=
 fun e a' w'=>∃ st' g',Q e st'∧StRel g' st' a' w'∧EvoP g H w g' (aH st'.h) w'∧DefOk w a' w'
theorem aWv {E:Env} {ops:Array Oper} {i:Nat} {rest:List Nat} {o:Oper} {a:Act} {w:World} {Q:Exit→Act→World→Prop} (ho:ops[i]?=some o) (h:qC E ops o a w (wpOpsIn (fe E) 0 E.P ops Q rest) Q) :
  wpOpsIn (fe E) 0 E.P ops Q (i :: rest) a w:=by
 simp only [wpOpsIn,ho]
 unfold qC at h
 split
 ·rename_i hw; rw [if_pos hw] at h; exact h
 ·rename_i hw; rw [if_neg hw] at h; exact ⟨fun _ _=>trivial,h⟩
theorem aNj {E:Env} {ops:Array Oper}:∀ (rest:List Oper) (i:Nat) (xs:List Rec) (st st':St),(∀ k o,rest[k]?=some o→ops[i+k]?=some o)→sP E ops rest st xs st'→∀ (g0:Gh) (H0:Nat→Ent) (w0:World) (g:Gh) (a:Act) (w:World) (Q:Exit→St→Prop),
  StRel g st a w→EvoP g0 H0 w0 g (aH st.h) w→DefOk w0 a w→Q .normal st'→wpOpsIn (fe E) 0 E.P ops (Post g0 H0 w0 Q) (List.range' i rest.length) a w
 | [], i, xs, st, st', hops, hr, g0, H0, w0, g, a, w, Q, hst, hev, hdf, hQ => by
  cases xs with
  | nil=>simp only [sP] at hr; subst hr; exact ⟨st',g,hQ,hst,hev,hdf⟩
  | cons x xs=>exact hr.elim
 | o :: rest, i, xs, st, st', hops, hr, g0, H0, w0, g, a, w, Q, hst, hev, hdf, hQ => by
  cases xs with
  | nil=>exact hr.elim
  | cons x xs =>
   obtain ⟨h1,_,h2⟩:=hr
   rw [List.length_cons,List.range'_succ]
   refine aWv (hops 0 o rfl) (h1 st g a w hst (fun _ _=>rfl) (fun _ _=>rfl) _ _ fun g' a' w' hdf' hst' hev'=>?_)
   refine aNj rest (i+1) xs _ st' (fun k o' hk=>by rw [Nat.add_assoc,Nat.add_comm 1 k]; exact hops (k+1) o' (by simpa using hk)) h2 g0 H0 w0 g' a' w' Q hst' ?_ (hdf.step hst.rel hev'.fr hdf') hQ
   have:aH (st.after o x).h=aH (lI st.h x.U):=by simp only [St.after,St.put]; cases o.dst<;>rfl
   rw [this]
   exact hev.trans hev'
end Go.Ev
