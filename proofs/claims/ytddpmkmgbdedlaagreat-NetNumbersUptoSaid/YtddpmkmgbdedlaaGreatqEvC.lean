/-
The abstract evaluator's operations that touch memory or what values hold,and that each of them is what the model does.
-/
import Derived.Test.YtddpmkmgbdedlaaGreatqEvB
import Derived.Laws.Entries
set_option linter.unusedVariables false
set_option linter.unusedSimpArgs false
namespace Go.Ev
open Go
structure TI where
 d:TypeDesc
 size:Nat
 bytes:Nat
 zero:List AV
inductive Kd where
 |i|b|s
 deriving DecidableEq
structure Env where
 P:Program
 ty:TypeId→Option TI
 eqk:TypeId→Option (List Kd)
 ro:Option Nat:=none
def TI.agg (i:TI):Bool:=match i.d with | .struct _ | .array _ _=>true|_=>false
structure gP (P:Program) (t:TypeId) (i:TI):Prop where
 d:P.underlying t=some i.d
 zl:i.zero.length=i.size
 info:∃ info,P.info? t=some info∧info.size=i.size∧info.bytes=i.bytes∧∃ z,info.zero=some z∧∀ g,cW g i.zero z.cells.toList
def wb:List AV→List Value→Prop
 |[],[]=>True
 |.v x :: l,y :: l'=>x=y∧wb l l'
 |.xA _ [] :: l,y :: l'=>y=.slice none 0 0∧wb l l'
 |_,_=>False
theorem p9 {g:Gh}:∀ {l:List AV} {cs:List Value},wb l cs→cW g l cs
 |l,cs,h=>by
  unfold wb at h
  split at h
  ·exact .nil
  ·obtain⟨rfl,h⟩:=h;exact .cons (.v _) (p9 h)
  ·obtain⟨rfl,h⟩:=h;exact .cons .Jt (p9 h)
  ·exact h.elim
theorem gP.mk' {P:Program}{t:TypeId}{i:TI}{z:Value}(hd:P.underlying t=some i.d)(hl:i.zero.length=i.size)(hi:(P.info? t).map (fun x=>(x.size,x.bytes,x.zero))=some (i.size,i.bytes,some z))
  (hz:wb i.zero z.cells.toList):gP P t i:=by
 obtain⟨info,h1,h2⟩:=Option.map_eq_some_iff.1 hi
 simp only[Prod.mk.injEq]at h2
 exact⟨hd,hl,info,h1,h2.1,h2.2.1,z,h2.2.2,fun g=>p9 hz⟩
def Env.Ok (E:Env):Prop:=∀ t i,E.ty t=some i→gP E.P t i
section
variable {P:Program} {t:TypeId} {i:TI} (h:gP P t i) (w:World)
include h
theorem gP.underlying:(Go.underlying t).run P w=.ok i.d w:=run_underlying h.d w
theorem gP.sizeOf:(Go.sizeOf t).run P w=.ok i.size w:=by
 obtain⟨info,h1,h2,_⟩:=h.info
 simp[Go.sizeOf,typeInfo,h1,h2]
theorem gP.isAgg:(Go.isAgg t).run P w=.ok i.agg w:=by
 simp only[Go.isAgg,Sem.run_bind,h.underlying,Result.andThen_ok,TI.agg]
 cases i.d<;>rfl
theorem gP.zeroValue:∃ z,(Go.zeroValue t).run P w=.ok z w∧∀ g,cW g i.zero z.cells.toList:=by
 obtain⟨info,h1,_,_,z,hz,hr⟩:=h.info
 exact⟨z,by simp[Go.zeroValue,typeInfo,h1,hz],hr⟩
end
theorem mR (b o n:Nat):(⟨b,o,none⟩:Addr).add n=⟨b,o+n,none⟩:=by
 unfold Addr.add;split<;>simp_all
def AV.one:AV→Bool
 |.v (.agg _) | .v (.tuple _) | .agg _ | .jE _ | .yK _ _ | .aZ=>false
 |_=>true
theorem VD {g:Gh}{x:AV}{c:Value}(h:aF g x c)(h1:x.one=true):c.oneCell'=true:=by
 cases h with
 |v=>cases c<;>first|rfl | (simp[AV.one]at h1)
 |xA h'=>cases h';rfl
 |VA h' e =>
  cases h' with
  |Jt=>rfl
  |xA h''=>cases h'';rfl
 |FF h'=>cases h';rfl
 |Tw h'=>cases h';rfl
 |agg=>simp[AV.one]at h1
 |jE=>simp[AV.one]at h1
 |yK=>simp[AV.one]at h1
 |aZ=>simp[AV.one]at h1
 |kQ h'=>exact h'
 |_=>rfl
theorem Be {g:Gh}{l:List AV}{cs:List Value}(h:cW g l cs)(h1:l.all AV.one=true):∀ c∈cs,c.oneCell'=true:=by
 intro c hc
 obtain⟨k,hk,rfl⟩:=List.getElem_of_mem hc
 have jR:k < l.length:=by rw[h.1];exact hk
 have:=h.2 k l[k] cs[k] (List.getElem?_eq_getElem jR) (List.getElem?_eq_getElem hk)
 exact VD this (List.all_eq_true.1 h1 _ (List.getElem_mem jR))
def Ur (H:Nat→dD):AV→Option (List AV×Nat)
 |.ptr id off=>match H id with
  |.box cells | .Aa cells | .eD cells=>some (cells,off)
  |_=>none
 |.rL cells off=>some (cells,off)
 |_=>none
theorem X3 {g:Gh}{H:Nat→dD}{w:World}(h:eR g H w){a:AV}{va:Value}(ha:aF g a va){cells:List AV}{off:Nat}(hc:Ur H a=some (cells,off)) :
  ∃ b o,va=.pointer (some ⟨b,o+off,none⟩)∧∀ k x,cells[k]?=some x→∃ c,w.cell? ⟨b,o+k,none⟩=some c∧aF g x c:=by
 cases ha with
 |ptr e =>
  rename_i id off' b lo n
  have he:=h.zD id
  simp only[Ur]at hc
  split at hc
  ·rename_i cells' hH
   cases hc
   rw[hH]at he
   obtain⟨b',n',cs,T,fr,e1,e2,e3,e4,e5,e6,e7⟩:=he
   rw[e]at e1;cases e1
   refine⟨b,0,by simp,fun k x hx=>?_⟩
   obtain⟨c,h1,h2⟩:=e6 k x hx
   exact⟨c,by rw[bL e2];simpa using h1,h2⟩
  ·rename_i cells' hH
   cases hc
   rw[hH]at he
   obtain⟨b',n',e1,e2⟩:=he
   rw[e]at e1;cases e1
   refine⟨b,0,by simp,fun k x hx=>?_⟩
   obtain⟨c,h1,h2⟩:=e2 k x hx
   exact⟨c,by simpa using h.AY _ _ _ h1,h2⟩
  ·rename_i cells' hH
   cases hc
   rw[hH]at he
   rcases he with⟨e0,_⟩|⟨b',n',cs,T,fr,e1,e2,e3,e4,e5,e6,e7⟩
   ·rw[e]at e0;cases e0
   rw[e]at e1;cases e1
   refine⟨b,0,by simp,fun k x hx=>?_⟩
   obtain⟨c,h1,h2⟩:=e6 k x hx
   exact⟨c,by rw[bL e2];simpa using h1,h2⟩
  ·cases hc
 |rL c e1 e2 =>
  rename_i cells' off' b o
  cases hc
  exact⟨b,o,rfl,fun k x hx=>⟨c k,h.AY _ _ _ (e1 k x hx),e2 k x hx⟩⟩
 |_=>simp[Ur]at hc
def Wa (E:Env)(H:Nat→dD)(t:TypeId)(a:AV):Option AV :=
 match E.ty t,Ur H a with
 |some i,some (cells,off) =>
  if i.agg then (if off+i.size≤cells.length then some (.agg (rd cells off i.size)) else none)
  else cells[off]?
 |_,_=>none
theorem uU (l:List AV)(off n k:Nat):(rd l off n)[k]?=if k < n then l[off+k]? else none:=by
 simp only[rd,List.getElem?_take,List.getElem?_drop]
theorem Ow {E:Env}(hE:E.Ok){g:Gh}{H:Nat→dD}{w:World}(h:eR g H w){t:TypeId}{a r:AV}{va:Value}(ha:aF g a va)(hl:Wa E H t a=some r) :
  ∃ v,(Instr.loadAt t va).run E.P w=.ok v w∧aF g r v:=by
 unfold Wa at hl
 split at hl
 ·rename_i i cells off hi hc
  have hT:=hE t i hi
  obtain⟨b,o,rfl,DC⟩:=X3 h ha hc
  split at hl
  ·rename_i Di
   split at hl
   ·rename_i hlen
    cases hl
    have hk:∀ k,k < i.size→∃ c,w.cell? ⟨b,o+off+k,none⟩=some c∧∀ x,cells[off+k]?=some x→aF g x c:=fun k hk=>by
     obtain⟨c,h1,h2⟩:=DC (off+k) _ (List.getElem?_eq_getElem (show off+k < cells.length by omega))
     exact⟨c,by rw[Nat.add_assoc];exact h1,fun x hx=>by rw[List.getElem?_eq_getElem (show off+k < cells.length by omega)]at hx;cases hx;exact h2⟩
    have Ms:(loadCells ⟨b,o+off,none⟩ i.size).run E.P w=.ok ((List.range i.size).map fun k=>(w.cell? ⟨b,o+off+k,none⟩).getD undef).toArray w:=by
     refine run_loadCells w _ _ _ fun j hj=>?_
     rw[mR]
     obtain⟨c,h1,_⟩:=hk j hj
     rw[h1];rfl
    refine⟨_,by simp only[Instr.loadAt,Instr.sureAddr,pure_bind,loadVar,Sem.run_bind,hT.isAgg,Result.andThen_ok,Di,if_true,hT.sizeOf,Ms,Sem.run_pure];rfl,?_⟩
    refine .agg (by simp[rd];omega) fun k x c hx hc=>?_
    rw[uU]at hx
    split at hx
    ·rename_i nH
     obtain⟨c',h1,h2⟩:=hk k nH
     simp[nH,h1]at hc
     subst hc
     exact h2 x hx
    ·cases hx
   ·cases hl
  ·rename_i Di
   obtain⟨c,h1,h2⟩:=DC off r hl
   refine⟨c,by simp only[Instr.loadAt,Instr.sureAddr,pure_bind,loadVar,Sem.run_bind,hT.isAgg,Result.andThen_ok,Di,Bool.false_eq_true,if_false,run_load,h1],h2⟩
 ·cases hl
def IE (E:Env)(H:Nat→dD)(t:TypeId)(a x:AV):Option (List (Nat×dD)) :=
 match E.ty t,a,x.cells? with
 |some i,.ptr id off,some xs =>
  match H id with
  |.box cells=>if xs.length=i.size∧off+xs.length≤cells.length∧xs.all AV.one=true then some [(id,.box (wr cells off xs))] else none
  |.eD cells=>if xs.length=i.size∧off+xs.length≤cells.length∧xs.all AV.one=true then some [(id,.eD (wr cells off xs))] else none
  |_=>none
 |_,_,_=>none
def app (H:Nat→dD):List (Nat×dD)→(Nat→dD)
 |[]=>H
 |(k,e) :: r=>app (eQ H k e) r
theorem KN {E:Env}(hE:E.Ok){g:Gh}{H:Nat→dD}{w:World}(h:eR g H w){t:TypeId}{a x:AV}{va vx:Value}(ha:aF g a va)(hx:aF g x vx)
  {U:List (Nat×dD)} (hs:IE E H t a x=some U) :
  ∃ w',(Instr.storeAt t va vx).run E.P w=.ok () w'∧fC g H w g (app H U) w':=by
 unfold IE at hs
 split at hs
 ·rename_i i id off xs hi AX
  have hT:=hE t i hi
  split at hs
  ·rename_i cells hH
   split at hs
   ·rename_i hc
    obtain⟨hc1,ow,hc3⟩:=hc
    cases hs
    cases ha with
    |ptr e =>
     rename_i b lo n
     have wU:=Bi hx AX
     have he:=h.zD id
     rw[hH]at he
     obtain⟨b',n',cs,T,fr,e1,e2,e3,e4,e5,e6,e7⟩:=he
     rw[e]at e1;cases e1
     have Ch:vx.cells.size=i.size:=by have:=wU.1;simp at this;omega
     have sQ:=run_storeCells_cells (P:=E.P) b off vx.cells.toList 0 w (fun j hj=>by
       simp at hj
       rw[bL e2]
       simp[show off+j < cs.size by omega])
      (fun j hj=>by
       simp at hj
       simp only[World.frozen?,e2]
       have:=e4 (off+j) (Nat.zero_le _) (by omega)
       simpa using this)
      (Be wU hc3)
     refine⟨_,by simp only[Instr.storeAt,Instr.sureAddr,pure_bind,storeVar,Sem.run_bind,hT.sizeOf,Result.andThen_ok,Ch,ne_eq,not_true_eq_false,if_false,sQ];rfl,?_⟩
     simp only[app,Nat.add_zero]
     exact fC.write h hH e wU ow
   ·cases hs
  ·rename_i cells hH
   split at hs
   ·rename_i hc
    obtain⟨hc1,ow,hc3⟩:=hc
    cases hs
    cases ha with
    |ptr e =>
     rename_i b lo n
     have wU:=Bi hx AX
     have he:=h.zD id
     rw[hH]at he
     rcases he with⟨e0,_⟩|⟨b',n',cs,T,fr,e1,e2,e3,e4,e5,e6,e7⟩
     ·rw[e]at e0;cases e0
     rw[e]at e1;cases e1
     have Ch:vx.cells.size=i.size:=by have:=wU.1;simp at this;omega
     have sQ:=run_storeCells_cells (P:=E.P) b off vx.cells.toList 0 w (fun j hj=>by
       simp at hj
       rw[bL e2]
       simp[show off+j < cs.size by omega])
      (fun j hj=>by
       simp at hj
       simp only[World.frozen?,e2]
       have:=e4 (off+j) (Nat.zero_le _) (by omega)
       simpa using this)
      (Be wU hc3)
     refine⟨_,by simp only[Instr.storeAt,Instr.sureAddr,pure_bind,storeVar,Sem.run_bind,hT.sizeOf,Result.andThen_ok,Ch,ne_eq,not_true_eq_false,if_false,sQ];rfl,?_⟩
     simp only[app,Nat.add_zero]
     exact fC.aHI h hH e wU ow
   ·cases hs
  ·cases hs
 ·cases hs
theorem u9 {E:Env}(hE:E.Ok){g:Gh}{H:Nat→dD}{w:World}(h:eR g H w){t:TypeId}{i:TI}(hi:E.ty t=some i){n:Nat}(hn:H n=.bX) :
  ∃ v w' g',(Instr.alloc t true (.tuple #[])).run E.P w=.ok v w'∧aF g' (.ptr n 0) v∧fC g H w g' (app H [(n,.box i.zero)]) w':=by
 have hT:=hE t i hi
 obtain⟨z,hz,hr⟩:=hT.zeroValue w
 obtain⟨h1,h2⟩:=fC.box h hn i.zero z.cells t (hr g)
 exact⟨_,_,_,by simp only[Instr.alloc,Sem.run_bind,hz,Result.andThen_ok,newVar,newRow,run_newObj,Sem.run_pure],h1,h2⟩
theorem Y9 {P:Program}{g:Gh}{H:Nat→dD}{w:World}(h:eR g H w)(t:TypeId){x:AV}{vx:Value}(hx:aF g x vx){xs:List AV}(AX:x.cells?=some xs){n:Nat}(hn:H n=.bX) :
  ∃ v w' g',(Instr.box t vx).run P w=.ok v w'∧aF g' (.ptr n 0) v∧fC g H w g' (app H [(n,.box xs)]) w':=by
 obtain⟨h1,h2⟩:=fC.box h hn xs vx.cells t (Bi hx AX)
 exact⟨_,_,_,by simp only[Instr.box,newVar,newRow,Sem.run_bind,run_newObj,Result.andThen_ok,Sem.run_pure],h1,h2⟩
def LM (E:Env)(t:TypeId)(cells:List AV)(off:Nat):Option AV :=
 match E.ty t with
 |some i=>if i.agg then (if off+i.size≤cells.length then some (.agg (rd cells off i.size)) else none) else cells[off]?
 |none=>none
theorem AP {E:Env}(hE:E.Ok){g:Gh}{t:TypeId}{cells:List AV}{cs:Array Value}(hc:cW g cells cs.toList){off:Nat}{r:AV}(h:LM E t cells off=some r)(w:World) :
  ∃ v,(part t cs off).run E.P w=.ok v w∧aF g r v:=by
 unfold LM at h
 split at h
 ·rename_i i hi
  have hT:=hE t i hi
  split at h
  ·rename_i Di
   split at h
   ·rename_i hlen
    cases h
    refine⟨_,by simp only[part,Sem.run_bind,hT.isAgg,Result.andThen_ok,Di,if_true,hT.sizeOf,Sem.run_pure];rfl,?_⟩
    have hl:cells.length=cs.size:=by simpa using hc.1
    refine .agg (by simp[rd];omega) fun k x c hx hcc=>?_
    rw[uU]at hx
    split at hx
    ·refine hc.2 (off+k) x c hx ?_
     rw[Array.getElem?_extract]at hcc
     split at hcc
     ·simpa using hcc
     ·cases hcc
    ·cases hx
   ·cases h
  ·rename_i Di
   obtain⟨c,h1,h2⟩:=hc.get h
   have FG:cs[off]?=some c:=by simpa using h1
   refine⟨c,by simp only[part,Sem.run_bind,hT.isAgg,Result.andThen_ok,Di,Bool.false_eq_true,if_false,FG,Sem.run_pure],h2⟩
 ·cases h
end Go.Ev
