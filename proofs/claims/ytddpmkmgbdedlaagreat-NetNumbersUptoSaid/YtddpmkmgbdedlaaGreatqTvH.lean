/-
Regions: their operations one behind the other,and in any order that their edges allow.
-/
import Derived.Test.YtddpmkmgbdedlaaGreatqTvG
set_option linter.unusedVariables false
set_option linter.unusedSimpArgs false
set_option linter.unnecessarySimpa false
namespace Go.Ev
open Go
def ss (l m:List Nat):Bool:=l.all fun x=>!m.contains x
def MG (acc:Array Nat)(o:Oper):Nat :=
 o.after.toList.foldl (fun s e=>if Region.binds .any e then s ||| 2 ^ e.on ||| acc.getD e.on 0 else s) 0
def Ym (acc:Array Nat):List Oper→Array Nat
 |[]=>acc
 |o :: r=>Ym (acc.push (MG acc o)) r
def UU (ops:Array Oper):Array Nat:=Ym #[] ops.toList
def indep (m:Array Nat):List (Nat×List Nat×List Nat)→Bool
 |[]=>true
 |(j,f,u) :: r=>(r.all fun (i,f',u')=>(m.getD j 0).testBit i || (ss u f'&&ss u' f))&&indep m r
def HI (ops:Array Oper):Bool :=
 (List.range ops.size).all fun j =>
  (match ops[j]? with|some o=>o.after.toList.all fun e=>!Region.binds .any e || decide (e.on < j) | none=>false) &&
  (List.range j).all fun i=>((UU ops).getD j 0).testBit i || (match ops[i]?,ops[j]? with|some x,some y=>x.apart ops y|_,_=>false)
def fw (E:Env)(ops:Array Oper):List Oper→St→List Rec→St→Prop
 |[],st,[],fZ=>fZ=st
 |o :: rest,st,x :: xs,fZ=>Local E ops o st x∧(∀ id∈x.U.map (·.1),id∈x.F)∧fw E ops rest (st.after o x) xs fZ
 |_,_,_,_=>False
def dr:Nat→List Rec→List (Nat×List Nat×List Nat)→List (Nat×List Nat×List Nat)
 |_,[],tr=>tr
 |i,x :: xs,tr=>dr (i+1) xs ((i,x.F,x.U.map (·.1)) :: tr)
def Nz (w0:World)(a:Act)(w:World):Prop :=
 ∃ Ds:List Nat,a.defers=Ds.map (fun D=>({ target:=.collected D,args:=#[] }:Deferred))∧Ds.Nodup∧∀ D∈Ds,w0.heap.size≤D∧w.heap[D]?=some (.deferred (some []))
theorem Nz.none {w0:World}{t:Array Value}{w:World}:Nz w0 { tmps:=t,defers:=[] } w:=⟨[],rfl,List.nodup_nil,fun _ h=>by cases h⟩
theorem ax {g:Gh}{H:Nat→dD}{w:World}(h:eR g H w){b o:Nat}(hm:Jx g H b o){ds:Option (List Deferred)}(hb:w.heap[b]?=some (.deferred ds)):False:=by
 obtain⟨id,lo,n,hl,e,_⟩:=hm
 have he:=h.zD id
 cases hH:H id with
 |box cells=>rw[hH]at he;obtain⟨b',n',cs,T,fr,e1,e2,_⟩:=he;rw[e]at e1;cases e1;rw[hb]at e2;cases e2
 |tail=>rw[hH]at he;obtain⟨cs,T,fr,e2,_⟩:=he b lo n e;rw[hb]at e2;cases e2
 |eD cells =>
  rw[hH]at he
  rcases he with⟨e0,_⟩|⟨b',n',cs,T,fr,e1,e2,_⟩
  ·rw[e]at e0;cases e0
  ·rw[e]at e1;cases e1;rw[hb]at e2;cases e2
 |yU ps asg body ts=>rw[hH]at he;obtain⟨l,fn,tm,df,e1,e2,_⟩:=he;rw[e]at e1;cases e1;rw[hb]at e2;cases e2
 |Qa c=>rw[hH]at he;obtain⟨l,r,e1,e2,_⟩:=he;rw[e]at e1;cases e1;rw[hb]at e2;cases e2
 |aX ms=>rw[h.CH hH]at e;cases e
 |_=>rw[hH]at hl;exact hl.elim
theorem aCK {g:Gh}{H:Nat→dD}{w:World}(h:kT g H w){b o:Nat}(hm:QY g H b o){ds:Option (List Deferred)}(hb:w.heap[b]?=some (.deferred ds)):False:=by
 obtain⟨lo,ho,IV⟩:=hm
 rcases ho with⟨id,n,hl,e⟩|⟨_,j,n,hm,e⟩
 ·exact ax h.base ⟨id,lo,n,hl,e,IV⟩ hb
 ·obtain⟨cs,T,fr,e2,_⟩:=h.aX.at hm e
  rw[hb]at e2;cases e2
theorem Nz.step {w0 w w':World}{a a':Act}{g:Gh}{H:Nat→dD}(h:Nz w0 a w)(hW:kT g H w)(hf:Fr (QY g H) w w')(ha:a'.defers=a.defers):Nz w0 a' w':=by
 obtain⟨Ds,h1,h2,h3⟩:=h
 refine⟨Ds,ha.trans h1,h2,fun D hD=>⟨(h3 D hD).1,hf.A2 D _ (h3 D hD).2 (by intros;simp) fun k hk=>aCK hW hk (h3 D hD).2⟩⟩
def u4 (g:Gh)(H:Nat→dD)(w:World)(Q:Exit→St→Prop):Exit→Act→World→Prop :=
 fun e a' w'=>∃ fZ g',Q e fZ∧pN g' fZ a' w'∧iH g H w g' (bU fZ.h) w'∧Nz w a' w'
theorem vw {E:Env}{ops:Array Oper}{i:Nat}{rest:List Nat}{o:Oper}{a:Act}{w:World}{Q:Exit→Act→World→Prop}(ho:ops[i]?=some o)(h:br E ops o a w (wpOpsIn (fe E) 0 E.P ops Q rest) Q) :
  wpOpsIn (fe E) 0 E.P ops Q (i :: rest) a w:=by
 simp only[wpOpsIn,ho]
 unfold br at h
 split
 ·rename_i hw;rw[if_pos hw]at h;exact h
 ·rename_i hw;rw[if_neg hw]at h;exact⟨fun _ _=>trivial,h⟩
theorem o6 {E:Env}{ops:Array Oper}:∀ (rest:List Oper) (i:Nat) (xs:List Rec) (st fZ:St),(∀ k o,rest[k]?=some o→ops[i+k]?=some o)→fw E ops rest st xs fZ→∀ (g0:Gh) (H0:Nat→dD) (w0:World) (g:Gh) (a:Act) (w:World) (Q:Exit→St→Prop),
  pN g st a w→iH g0 H0 w0 g (bU st.h) w→Nz w0 a w→Q .normal fZ→wpOpsIn (fe E) 0 E.P ops (u4 g0 H0 w0 Q) (List.range' i rest.length) a w
 |[],i,xs,st,fZ,Oz,hr,g0,H0,w0,g,a,w,Q,sQ,iP,Xw,hQ=>by
  cases xs with
  |nil=>simp only[fw]at hr;subst hr;exact⟨fZ,g,hQ,sQ,iP,Xw⟩
  |cons x xs=>exact hr.elim
 |o :: rest,i,xs,st,fZ,Oz,hr,g0,H0,w0,g,a,w,Q,sQ,iP,Xw,hQ=>by
  cases xs with
  |nil=>exact hr.elim
  |cons x xs =>
   obtain⟨h1,_,h2⟩:=hr
   rw[List.length_cons,List.range'_succ]
   refine vw (Oz 0 o rfl) (h1 st g a w sQ (fun _ _=>rfl) (fun _ _=>rfl) _ _ fun g' a' w' aF0 aAx jh=>?_)
   refine o6 rest (i+1) xs _ fZ (fun k o' hk=>by rw[Nat.add_assoc,Nat.add_comm 1 k];exact Oz (k+1) o' (by simpa using hk)) h2 g0 H0 w0 g' a' w' Q aAx ?_ (Xw.step sQ.rel jh.fr aF0) hQ
   have:bU (st.after o x).h=bU (YC st.h x.U):=by simp only[St.after,St.put];cases o.dst<;>rfl
   rw[this]
   exact iP.trans jh
end Go.Ev
