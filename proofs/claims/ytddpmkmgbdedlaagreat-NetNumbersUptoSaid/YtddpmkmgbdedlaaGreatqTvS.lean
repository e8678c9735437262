/-
aS a contract to a row: the ghost of the whole memory,what is kept,what the arguments are as typed data.
-/
import Derived.Test.YtddpmkmgbdedlaaGreatqTvR
import Derived.ProofKit
import Derived.WideKeyArgs
import Derived.Carry
import Derived.Deep.Slices
import Derived.OpenShut
set_option linter.unusedVariables false
set_option linter.unusedSimpArgs false
namespace Go.Ev
open Go Go.Deep
def tj (W:World):Gh:=⟨fun b o=>W.cell? ⟨b,o,none⟩,fun _=>none,fun _=>none⟩
def Bare (L:List dD):Prop:=∀ k,bU L k=.bX∨bU L k=.aX []
theorem rv:Bare [.aX []]:=fun k=>by
 cases k with
 |zero=>exact .inr rfl
 |succ k=>exact .inl (by cases k<;>rfl)
theorem aAl {L:List dD}(hL:Bare L)(h1:∀ p p' ms kS,bU L p=.aX ms→bU L p'=.aX kS→p=p')(W:World):kT (tj W) (bU L) W:=by
 have hms:∀ p ms,bU L p=.aX ms→ms=[]:=fun p ms e=>by
  rcases hL p with h|h
  ·rw[h]at e;cases e
  ·rw[h]at e;cases e;rfl
 refine⟨⟨fun b o v h=>h,fun id=>?_,fun _ _=>rfl,fun id id' x x' _ _ _ h _=>by cases h⟩,h1,fun p ms j cells e h=>?_,fun _ _ _ _ _=>rfl,fun _ _ _ _ _ _ h _ _=>(by cases h),fun _ _ _ _ _ _ _ _ _ h _=>(by cases h)⟩
 ·rcases hL id with h|h
  ·rw[h];trivial
  ·rw[h];rfl
 ·rw[hms p ms e]at h;cases h
theorem aAk (W:World):kT (tj W) (bU [.aX []]) W:=aAl rv (fun p p' ms kS h h'=>by
 cases p with
 |zero=>cases p' with
  |zero=>rfl
  |succ k=>cases k<;>cases h'
 |succ k=>cases k<;>cases h) W
structure Kept (w w':World):Prop where
 os:w'.os=w.os
 output:w'.output=w.output
 block:∀ k,k < w.heap.size→w'.heap[k]?=w.heap[k]?
theorem iH.kept {W W':World}{g':Gh}{H H':Nat→dD}(h:iH (tj W) H W g' H' W'):Kept W W':=by
 refine⟨h.fr.os,h.fr.out,fun k hk=>?_⟩
 have hM:∀ b o,¬ QY (tj W) H b o:=fun b o ⟨lo,hl,_⟩=>by
  rcases hl with⟨id,n,_,e⟩|⟨_,j,n,_,e⟩<;>cases e
 have bU:W.heap[k]?=some W.heap[k]:=Array.getElem?_eq_getElem hk
 cases ho:W.heap[k] with
 |cells cs T fr =>
  rw[ho]at bU
  obtain⟨Ju,UH,e,hs,hc,hf⟩:=h.fr.cells k cs T fr bU
  have:UH=fr:=hf.elim id fun ⟨o,h⟩=>absurd h (hM k o)
  subst this
  have:Ju=cs:=by
   apply Array.ext hs
   intro i h1 h2
   have:=hc i (hM k i)
   rw[Array.getElem?_eq_getElem h1,Array.getElem?_eq_getElem h2]at this
   exact Option.some.inj this
  rw[bU,e,this]
 |_ =>
  rw[ho]at bU
  rw[bU]
  exact h.fr.A2 k _ bU (by intros;simp) (fun o=>hM k o)
theorem Kept.same {W W':World}(h:Kept W W'){p:MemPlace}(hp:p.block < W.heap.size):W.sameAt W' p:=by
 cases p with
 |cell b o=>exact World.cell?_of_block (w:=W) (h.block b hp)
 |map b=>exact h.block b hp
theorem Kept.frame {W W':World}(h:Kept W W')(may:MemPlace→Prop):W.keptBut W' may:=by
 refine⟨h.os,h.output,fun i hi=>?_⟩
 rw[h.block i hi]
 split<;>simp_all
section
variable {H:Type} {enc:TypeId×Value→H} {P:Program}
theorem Kept.trodAll (hl:laidOutB P=true){W W':World}(hk:Kept W W'){sp:Nat→Bool}:∀ {ts:List TypeId} {vs:List Value} {ds:List (DataW H)} {ps:List MemPlace},
  (ts.all fun t=>P.readableRec t&&decide (t < P.types.size))=true→DataW.TrodAll enc P W 0 (fun _=>true) true ts vs ds ps→(∀ p∈ps,p.block < W.heap.size)→(∀ p∈ps,sp p.block=true) →
  DataW.TrodAll enc P W' 0 sp true ts vs ds ps
 |[],[],[],_,_,h,_,_=>h
 |[],_ :: _,_,_,_,h,_,_=>h.elim
 |[],[],_ :: _,_,_,h,_,_=>h.elim
 |_ :: _,[],_,_,_,h,_,_=>h.elim
 |_ :: _,_ :: _,[],_,_,h,_,_=>h.elim
 |t :: ts,v :: vs,d :: ds,ps,hr,h,nH,hs=>by
  obtain⟨p,q,h1,h2,rfl⟩:=h
  simp only[List.all_cons,Bool.and_eq_true,decide_eq_true_eq]at hr
  refine⟨p,q,?_,Kept.trodAll hl hk hr.2 h2 (fun x hx=>nH x (by simp[hx])) (fun x hx=>hs x (by simp[hx])),rfl⟩
  exact WideElems.Trod_stays hl hr.1.1 hr.1.2 h1 (fun x hx=>hk.same (nH x (by simp[hx]))) (fun x hx=>hs x (by simp[hx]))
theorem aA9 {f:Func}{s:ChangeSpec}{apart fresh handsOn:Bool}{W W':World}{args:Array Value}{ds gs:List (DataW H)}{before:List MemPlace}{tb:TypeId}
  (hW:DataW.Whole enc P f.params.toList s.vars apart W args.toList ds gs before) (hl:laidOutB P=true) (hv:s.vars=[]) (hs:s.fn H ds={ results:=[.lit (.bool true)],args:=ds })
  (ZM:f.resultTypes=#[tb]) (hb:P.underlying tb=some .bool) (hr:(f.params.toList.all fun t=>P.readableRec t&&decide (t < P.types.size))=true) (hk:Kept W W') :
  s.post enc P f apart fresh handsOn false W args (.bool true) W':=by
 have hW0:=hW
 obtain⟨p,q,hA,hV,rfl,_,_⟩:=hW
 rw[hv]at hV
 have hg:gs=[]∧q=[]:=by
  cases gs with
  |nil=>exact⟨rfl,hV⟩
  |cons=>exact hV.elim
 obtain⟨rfl,rfl⟩:=hg
 have nH:∀ x∈p,x.block < W.heap.size:=fun x hx=>hW0.lt x (by simp[hx])
 have hA':∀ sp:Nat→Bool,(∀ x∈p,sp x.block=true)→DataW.TrodAll enc P W' 0 sp true f.params.toList args.toList ds p:=fun sp h=>Kept.trodAll hl hk hr hA nH h
 refine⟨ds,[],p++[],[],p,[],hW0,?_,?_,?_,?_,fun h=>by cases h⟩
 ·rw[List.append_nil,hs,ZM]
  refine⟨[],[],⟨1,?_⟩,rfl,rfl⟩
  simp[DataW.trod,hb,Value.cells]
 ·rw[List.append_nil,hs];exact hA' _ fun x hx=>by simpa using nH x hx
 ·rw[hv,List.append_nil,hs];rfl
 ·exact hk.frame _
theorem ke {E:Env}{k:FuncId}{f:Func}{s:ChangeSpec}{apart fresh handsOn:Bool}{W:World}{args:Array Value}{ds gs:List (DataW H)}{before:List MemPlace}{tb:TypeId}{avs:List AV}
  {L':List dD} (aAw:mT E k avs [.aX []] (.v (.bool true)) L') (wU:cW (tj W) avs args.toList)
  (hW:DataW.Whole enc E.P f.params.toList s.vars apart W args.toList ds gs before) (hl:laidOutB E.P=true) (hv:s.vars=[]) (hs:s.fn H ds={ results:=[.lit (.bool true)],args:=ds })
  (ZM:f.resultTypes=#[tb]) (hb:E.P.underlying tb=some .bool) (hr:(f.params.toList.all fun t=>E.P.readableRec t&&decide (t < E.P.types.size))=true) :
  Calls E.P k args W fun e W'=>∃ v,e=.returned v∧s.post enc E.P f apart fresh handsOn false W args v W':=by
 refine (aAw.2 (tj W) W args (aAk W) wU).mono fun e W' ⟨v,g',he,Yg,iP⟩=>⟨v,he,?_⟩
 cases Yg
 exact aA9 hW hl hv hs ZM hb hr iP.kept
end
structure Vp {H:Type} (bd:DataW H→Nat) (ba:List (DataW H)→Nat):Prop where
 str:∀ s:List UInt8,bd (.lit (.string s))=s.length+1
 int:∀ k n,bd (.lit (.int k n))=1
 bool:∀ b,bd (.lit (.bool b))=1
 null:bd .nil=1
 slice:∀ l r,bd (.slice l r)=ba l+ba r+1
 agg:∀ l,bd (.agg l)=ba l+1
 none:ba []=0
 some:∀ d r,ba (d :: r)=bd d+ba r
section
variable {H:Type} {enc:TypeId×Value→H} {P:Program} {bd:DataW H→Nat} {ba:List (DataW H)→Nat}
def Rd (enc:TypeId×Value→H)(P:Program)(bd:DataW H→Nat)(t:TypeId){α:Type}(cel:α→List AV)(wf:α→Prop)(bulk:α→Nat):Prop :=
 ∀ (W:World) (fuel:Nat) (cs:List Value) (x:DataW H×List MemPlace),DataW.trod enc P W 0 (fun _=>true) true fuel t cs=some x →
  ∃ y,cW (tj W) (cel y) cs∧wf y∧bulk y≤bd x.1
theorem kv {t:TypeId}{k:IntKind}(hB:Vp bd ba)(ht:P.underlying t=some (.int k)) :
  Rd enc P bd t (fun n:Int=>[.v (.int k n)]) (fun n=>k.has n) (fun _=>1):=by
 intro W fuel cs x h
 obtain⟨n,rfl,rfl,hw⟩:=DataW.trod_int ht h
 refine⟨n,.cons (.v _) .nil,?_,by rw[hB.int];exact Nat.le_refl _⟩
 simp only[Lit.wf,Bool.and_eq_true,decide_eq_true_eq]at hw
 exact hw
theorem aGA {t:TypeId}(hB:Vp bd ba)(ht:P.underlying t=some .string) :
  Rd enc P bd t (fun s:List UInt8=>[.v (.string ⟨⟨s⟩⟩)]) (fun s=>s.length≤maxLen) (fun s=>s.length+1):=by
 intro W fuel cs x h
 obtain⟨⟨⟨s⟩⟩,rfl,rfl,hs⟩:=DataW.trod_string ht h
 exact⟨s,.cons (.v _) .nil,hs,by rw[hB.str];exact Nat.le_refl _⟩
theorem qm {W:World}{α:Type}{cel:α→List AV}{wf:α→Prop}{bulk:α→Nat}(hB:Vp bd ba):∀ (l:List (List Value×DataW H)),
  (∀ p∈l,∃ y,cW (tj W) (cel y) p.1∧wf y∧bulk y≤bd p.2) →
  ∃ ys:List α,ys.length=l.length∧(∀ (i:Nat) (y:α) (p:List Value×DataW H),ys[i]?=some y→l[i]?=some p→cW (tj W) (cel y) p.1)∧(∀ y∈ys,wf y)∧(ys.map bulk).sum≤ba (l.map (·.2))
 |[],_=>⟨[],rfl,by simp,by simp,by simp[hB.none]⟩
 |p :: l,h=>by
  obtain⟨y,h1,h2,h3⟩:=h p (by simp)
  obtain⟨ys,g1,g2,g3,g4⟩:=qm hB l fun q hq=>h q (by simp[hq])
  refine⟨y :: ys,by simp[g1],?_,?_,?_⟩
  ·intro i a q ha hq
   cases i with
   |zero=>cases ha;cases hq;exact h1
   |succ i=>exact g2 i a q (by simpa using ha) (by simpa using hq)
  ·intro a ha
   rcases List.mem_cons.1 ha with rfl|ha
   ·exact h2
   ·exact g3 a ha
  ·simp only[List.map_cons,List.sum_cons,hB.some];omega
theorem Zf {t e:TypeId}{α:Type}{cel:α→List AV}{wf:α→Prop}{bulk:α→Nat}{sz:Nat}(hB:Vp bd ba)(ht:P.underlying t=some (.slice e))(hR:Rd enc P bd e cel wf bulk)
  (hs:P.cellsOf e=sz) (hpos:0 < sz) (hlen:∀ y,(cel y).length=sz) :
  Rd enc P bd t (fun l:List α=>[.xA sz (l.map cel)]) (fun l=>l.length≤maxLen∧∀ y∈l,wf y) (fun l=>(l.map bulk).sum+1):=by
 intro W fuel cs x h
 rcases open_slice ht h with⟨rfl,rfl⟩|⟨a,len,cap,m,n,D,Pl,rfl,_,hl,hm,hmm,rfl,hx⟩
 ·exact⟨[],.cons .Jt .nil,⟨by simp,by simp⟩,by rw[hB.null];simp⟩
 ·simp only[if_true]at hmm
  subst hmm
  subst hs
  obtain⟨V,hV⟩:=choose_lt hx
  obtain⟨ys,y1,y2,y3,y4⟩:=qm (W:=W) (cel:=cel) (wf:=wf) (bulk:=bulk) hB ((List.range len).map fun i=>(V i,D i)) fun p hp=>by
   obtain⟨i,hi,rfl⟩:=List.mem_map.1 hp
   have hi:i < len:=by simpa using hi
   exact hR W n _ _ (hV i (by omega)).2
  have hyl:ys.length=len:=by simpa using y1
  have hbk:(ys.map bulk).sum+1≤bd (.slice ((List.range len).map D) ((List.range (m - len)).map fun j=>D (len+j))):=by
   rw[hB.slice]
   simp only[List.map_map]at y4
   have:((fun p:List Value×DataW H=>p.2) ∘ fun i=>(V i,D i))=D:=rfl
   rw[this]at y4
   omega
  rcases Nat.eq_zero_or_pos m with rfl|hmp
  ·have:len=0:=by omega
   subst this
   have:ys=[]:=List.length_eq_zero_iff.1 hyl
   subst this
   exact⟨[],.cons .Jt .nil,⟨by simp,by simp⟩,hbk⟩
  ·obtain⟨_,hl0,Z6⟩:=World.cells?_some (hV 0 hmp).1
   have aI4:a.spot=none:=by
    have h0:=Z6 0 hpos
    have:(V 0)[0]?=some ((V 0)[0]'(by omega)):=List.getElem?_eq_getElem (by omega)
    rw[this]at h0
    have:=World.cell?_spot h0
    simpa[Addr.add] using this
   obtain⟨b,o,spot⟩:=a
   cases aI4
   refine⟨ys,.cons (.xA (.sl (fun i k=>((V i)[k]?).getD undef) (by simpa using hyl) hl ?_ ?_ ?_ trivial)) .nil,⟨by omega,y3⟩,hbk⟩
   ·intro i cs hi
    obtain⟨y,hy⟩:∃ y,cel y=cs:=by
     simp only[List.getElem?_map,Option.map_eq_some_iff]at hi
     obtain⟨y,_,h2⟩:=hi
     exact⟨y,h2⟩
    rw[← hy];exact hlen y
   ·intro i cs k x hi hk
    simp only[List.getElem?_map,Option.map_eq_some_iff]at hi
    obtain⟨y,hy,rfl⟩:=hi
    have hil:i < len:=by
     have:=(List.getElem?_eq_some_iff.1 hy).1
     omega
    have hkl:k < P.cellsOf e:=by
     have:=(List.getElem?_eq_some_iff.1 hk).1
     rw[hlen]at this;exact this
    obtain⟨_,hli,hci⟩:=World.cells?_some (hV i (by omega)).1
    have:=hci k hkl
    have hv:(V i)[k]?=some ((V i)[k]'(by omega)):=List.getElem?_eq_getElem (by omega)
    rw[hv]at this
    simp only[mR]at this
    show W.cell? ⟨b,_,none⟩=_
    rw[hv]
    exact this
   ·intro i cs k x hi hk
    simp only[List.getElem?_map,Option.map_eq_some_iff]at hi
    obtain⟨y,hy,rfl⟩:=hi
    have hil:i < len:=by
     have:=(List.getElem?_eq_some_iff.1 hy).1
     omega
    have:=y2 i y (V i,D i) hy (by simp[hil])
    obtain⟨c,hc,hr⟩:=this.get hk
    rw[hc];exact hr
theorem aBj {W:World}{e:TypeId}{α:Type}{cel:α→List AV}{wf:α→Prop}{bulk:α→Nat}{sz m:Nat}(hB:Vp bd ba)(hR:Rd enc P bd e cel wf bulk):∀ (n:Nat) (cs:List Value) (xs:List (DataW H×List MemPlace)),
  cs.length=n * sz→xs.length=n→(∀ i,i < n→DataW.trod enc P W 0 (fun _=>true) true m e ((cs.drop (i * sz)).take sz)=xs[i]?) →
  ∃ ys:List α,ys.length=n∧cW (tj W) (ys.flatMap cel) cs∧(∀ y∈ys,wf y)∧(ys.map bulk).sum≤ba (xs.map (·.1))
 |0,cs,[],hl,_,_=>⟨[],rfl,by
  have:cs=[]:=List.length_eq_zero_iff.1 (by simpa using hl)
  subst this;exact .nil,by simp,by simp[hB.none]⟩
 |0,cs,x :: xs,hl,h,_=>by simp at h
 |n+1,cs,[],hl,h,_=>by simp at h
 |n+1,cs,x :: xs,hl,h,hx=>by
  have h0:=hx 0 (by omega)
  simp only[Nat.zero_mul,List.drop_zero,List.getElem?_cons_zero]at h0
  obtain⟨y,a1,a2,a3⟩:=hR W m _ _ h0
  obtain⟨ys,b1,b2,b3,b4⟩:=aBj (W:=W) (m:=m) (sz:=sz) hB hR n (cs.drop sz) xs (by simp[hl,Nat.add_mul]) (by simpa using h) fun i hi=>by
   have:=hx (i+1) (by omega)
   simp only[List.getElem?_cons_succ]at this
   rw[← this,List.drop_drop,Nat.add_mul,Nat.one_mul,Nat.add_comm]
  refine⟨y :: ys,by simp[b1],?_,?_,?_⟩
  ·have:=a1.append b2
   rw[List.take_append_drop]at this
   simpa using this
  ·intro a ha
   rcases List.mem_cons.1 ha with rfl|ha
   ·exact a2
   ·exact b3 a ha
  ·simp only[List.map_cons,List.sum_cons,hB.some];omega
theorem aBi {t e:TypeId}{n:Nat}{α:Type}{cel:α→List AV}{wf:α→Prop}{bulk:α→Nat}(hB:Vp bd ba)(ht:P.underlying t=some (.array n e))(hc:P.cellsOf t=n * P.cellsOf e)(hR:Rd enc P bd e cel wf bulk) :
  Rd enc P bd t (fun v:Vector α n=>v.toList.flatMap cel) (fun v=>∀ y∈v.toList,wf y) (fun v=>(v.toList.map bulk).sum+1):=by
 intro W fuel cs x h
 obtain⟨xs,m,_,rfl,hl,V3,hx⟩:=DataW.trod_array ht h
 obtain⟨ys,h1,h2,h3,h4⟩:=aBj (W:=W) (m:=m) hB hR n cs xs (by rw[hl,hc]) V3 hx
 have e1:(⟨ys.toArray,by simpa using h1⟩:Vector α n).toList=ys:=by simp[Vector.toList]
 refine⟨⟨ys.toArray,by simpa using h1⟩,(?_:cW (tj W) (List.flatMap cel _) cs),(?_:∀ y∈_,wf y),(?_:(List.map bulk _).sum+1≤bd (.agg _))⟩
 ·rw[e1];exact h2
 ·rw[e1];exact h3
 ·rw[e1,hB.agg];omega
def zA (enc:TypeId×Value→H)(P:Program)(bd:DataW H→Nat)(ba:List (DataW H)→Nat)(fs:List Field)(o n:Nat){α:Type}(cel:α→List AV)(wf:α→Prop)(bulk:α→Nat):Prop :=
 ∀ (W:World) (m:Nat) (cs:List Value) (xs:List (DataW H×List MemPlace)),cs.length=n→xs.length=fs.length →
  (∀ (i:Nat) (f:Field),fs[i]?=some f→DataW.trod enc P W 0 (fun _=>true) true m f.type ((cs.drop f.offset).take (P.cellsOf f.type))=xs[i]?) →
  ∃ y,cW (tj W) (cel y) (cs.drop o)∧wf y∧bulk y≤ba (xs.map (·.1))
theorem zA.nil {n:Nat}(hB:Vp bd ba):zA enc P bd ba [] n n (fun _:Unit=>[]) (fun _=>True) (fun _=>0):=by
 intro W m cs xs hl hx _
 refine⟨(),?_,trivial,Nat.zero_le _⟩
 rw[List.drop_eq_nil_of_le (by omega)]
 exact .nil
theorem zA.cons {f:Field}{fs:List Field}{o o' n:Nat}{α β:Type}{cel:α→List AV}{wf:α→Prop}{bulk:α→Nat}{yk:β→List AV}{wf':β→Prop}{W8:β→Nat}(hB:Vp bd ba)
  (hR:Rd enc P bd f.type cel wf bulk) (ho:f.offset=o) (jr:o+P.cellsOf f.type=o') (hF:zA enc P bd ba fs o' n yk wf' W8) :
  zA enc P bd ba (f :: fs) o n (fun y:α×β=>cel y.1++yk y.2) (fun y=>wf y.1∧wf' y.2) (fun y=>bulk y.1+W8 y.2):=by
 intro W m cs xs hl hx h
 cases xs with
 |nil=>simp at hx
 |cons x xs =>
  have h0:=h 0 f rfl
  obtain⟨y,a1,a2,a3⟩:=hR W m _ x h0
  obtain⟨z,b1,b2,b3⟩:=hF W m cs xs hl (by simpa using hx) fun i f' hf'=>by
   have:=h (i+1) f' (by simpa using hf')
   simpa using this
  refine⟨(y,z),?_,⟨a2,b2⟩,?_⟩
  ·subst ho;subst jr
   have:=a1.append b1
   rw[← List.drop_drop,List.take_append_drop]at this
   exact this
  ·simp only[List.map_cons,hB.some];omega
theorem zH {t:TypeId}{fs:Array Field}{α σ:Type}{cel:α→List AV}{wf:α→Prop}{bulk:α→Nat}{celS:σ→List AV}{wfS:σ→Prop}{aDH:σ→Nat}(hB:Vp bd ba)(ht:P.underlying t=some (.struct fs))
  (hF:zA enc P bd ba fs.toList 0 (P.cellsOf t) cel wf bulk) (f:α→σ) (hc:∀ y,celS (f y)=cel y) (hw:∀ y,wf y→wfS (f y)) (hb:∀ y,aDH (f y)≤bulk y+1) :
  Rd enc P bd t celS wfS aDH:=by
 intro W fuel cs x h
 obtain⟨xs,m,_,rfl,hl,V3,hx⟩:=DataW.trod_struct ht h
 obtain⟨y,h1,h2,h3⟩:=hF W m cs xs hl (by simpa using V3) fun i f' hf'=>hx i f' (by simpa using hf')
 refine⟨f y,by rw[hc];exact h1,hw y h2,?_⟩
 have:=hb y
 rw[hB.agg];omega
theorem Rd.to {t:TypeId}{α:Type}{cel yk:α→List AV}{wf wf':α→Prop}{bulk W8:α→Nat}(h:Rd enc P bd t cel wf bulk)(hc:∀ y,yk y=cel y)(hw:∀ y,wf y→wf' y)(hb:∀ y,W8 y≤bulk y):Rd enc P bd t yk wf' W8:=by
 intro W fuel cs x h'
 obtain⟨y,h1,h2,h3⟩:=h W fuel cs x h'
 exact⟨y,by rw[hc];exact h1,hw y h2,Nat.le_trans (hb y) h3⟩
variable {w:World} {r:_root_.Go.Reach} {b:Nat}
theorem aCb {τ:Nat→Type}{C:eY τ}{t:TypeId}{i:TI}{wf:τ t→Prop}{bulk:τ t→Nat}{v:Value}{d:DataW H}{ps:List MemPlace}(hC:eH C t)(ht:P.underlying t=some i.d)(ha:(match i.d with | .int _ | .bool | .string | .slice _=>true|_=>false)=true)(hR:Rd enc P bd t (C.cel t) wf bulk)(hE:∀ x,(C.enc t x).cells C=[(C.enc t x).den C])
  (Hm:Value.okWide P w r b t v) (hT:DataW.Trod enc P w 0 (fun _=>true) true t v d ps):∃ y,aF (tj w) ((C.enc t y).den C) v∧wf y∧bulk y≤bd d:=by
 obtain⟨dd,s,p,z⟩:=i
 have key:v.cells.toList=[v]:=by
  cases dd<;>simp only[Bool.false_eq_true]at ha
  all_goals
   simp only[Value.okWide,ht,Cell.okWide]at Hm
   cases v<;>simp only[Cell.ok,ht]at Hm<;>rfl
 obtain⟨fuel,hT⟩:=hT
 rw[key]at hT
 obtain⟨y,h1,h2,h3⟩:=hR w fuel _ _ hT
 have e2:=hE y
 rw[hC.cel]at e2
 rw[e2]at h1
 obtain⟨c,hc,hr⟩:=h1.get (k:=0) rfl
 cases hc
 exact⟨y,hr,h2,h3⟩
end
end Go.Ev
