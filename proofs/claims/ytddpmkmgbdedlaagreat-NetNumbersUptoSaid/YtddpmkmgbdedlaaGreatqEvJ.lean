/-
The abstract evaluator: all operations but calls of functions,at an abstract state.
-/
import Derived.Test.YtddpmkmgbdedlaaGreatqEvP
set_option linter.unusedVariables false
set_option linter.unusedSimpArgs false
namespace Go.Ev
open Go
structure St where
 t:List AV
 h:List dD
def nth (l:List AV)(k:Nat):AV :=
 match l,k with
 |[],_=>.aZ
 |x :: _,0=>x
 |_ :: r,k+1=>nth r k
def NB (l:List AV)(k:Nat)(v:AV):List AV :=
 match l,k with
 |[],_=>[]
 |_ :: r,0=>v :: r
 |x :: r,k+1=>x :: NB r k v
def bU (h:List dD)(k:Nat):dD :=
 match h,k with
 |[],_=>.bX
 |x :: _,0=>x
 |_ :: r,k+1=>bU r k
def JZ (h:List dD)(k:Nat)(e:dD):List dD :=
 match h,k with
 |[],0=>[e]
 |[],k+1=>.bX :: JZ [] k e
 |_ :: r,0=>e :: r
 |x :: r,k+1=>x :: JZ r k e
theorem SA:∀ (l:List AV) (k:Nat),nth l k=(l[k]?).getD .aZ
 |[],k=>by simp[nth]
 |x :: r,0=>by simp[nth]
 |x :: r,k+1=>by simp[nth,SA r k]
theorem zG:∀ (l:List AV) (k:Nat) (v:AV) (j:Nat),(NB l k v)[j]?=if j=k∧k < l.length then some v else l[j]?
 |[],k,v,j=>by simp[NB]
 |x :: r,0,v,j=>by cases j<;>simp[NB]
 |x :: r,k+1,v,j=>by
  cases j with
  |zero=>simp[NB]
  |succ j=>simp[NB,zG r k v j]
theorem Ve:∀ (l:List AV) (k:Nat) (v:AV),(NB l k v).length=l.length
 |[],_,_=>rfl
 |_ :: _,0,_=>rfl
 |_ :: r,k+1,v=>by simp[NB,Ve r k v]
theorem Km:∀ (h:List dD) (k:Nat) (e:dD),bU (JZ h k e)=eQ (bU h) k e
 |[],0,e=>by funext j;cases j<;>simp[JZ,bU,eQ]
 |[],k+1,e=>by
  funext j
  cases j with
  |zero=>simp[JZ,bU,eQ]
  |succ j=>have:=congrFun (Km [] k e) j;simp[JZ,bU,eQ]at this ⊢;exact this
 |x :: r,0,e=>by funext j;cases j<;>simp[JZ,bU,eQ]
 |x :: r,k+1,e=>by
  funext j
  cases j with
  |zero=>simp[JZ,bU,eQ]
  |succ j=>have:=congrFun (Km r k e) j;simp[JZ,bU,eQ]at this ⊢;exact this
theorem AT:∀ (h:List dD) (k:Nat),h.length≤k→bU h k=.bX
 |[],k,_=>by simp[bU]
 |x :: r,0,h=>by simp at h
 |x :: r,k+1,h=>by simp[bU];exact AT r k (by simpa using h)
def YC (h:List dD):List (Nat×dD)→List dD
 |[]=>h
 |(k,e) :: r=>YC (JZ h k e) r
theorem Qm:∀ (U:List (Nat×dD)) (h:List dD),bU (YC h U)=app (bU h) U
 |[],_=>rfl
 |(k,e) :: r,h=>by rw[YC,app,Qm r,Km]
def St.val (s:St):Operand→AV
 |.tmp k=>nth s.t k
 |.const v=>.v v
 |.func f=>.fn f []
 |.global _=>.aZ
def St.put (s:St)(d:Option Tmp)(v:AV):St :=
 match d with
 |none=>s
 |some k=>{ s with t:=NB s.t k v }
def AV.strip:AV→AV
 |.yK _ x=>x
 |x=>x
def AV.cond:AV→Prop
 |.yK b _=>b=true
 |_=>True
def Bu (mx:Bool):List AV→Option Value
 |[]=>none
 |.v (.int k a) :: r=>go k a r
 |_=>none
where
 go (k:IntKind) (a:Int):List AV→Option Value
  |[]=>some (.int k a)
  |.v (.int _ b) :: r=>go k (if mx then (if b > a then b else a) else (if b < a then b else a)) r
  |_=>none
def eC:Op→List Operand
 |.move x | .assign x | .box _ x | .load _ x | .nilCheck x | .unOp _ _ x | .convert _ _ x | .makeInterface _ x | .fieldAddr _ x _ | .field _ x _ | .extract x _=>[x]
 |.pick c _ _=>[c]
 |.build _ ps | .buildSlice _ _ ps=>ps.toList.map (·.2)
 |.store _ a v | .binOp _ _ a v _ | .indexAddr _ a v | .index _ a v | .makeSlice _ a v=>[a,v]
 |.slice _ x l h m=>x :: (l.toList++h.toList++m.toList)
 |.makeFunc _ _ captured=>captured.toList
 |.call c=>(match c.callee with | .value f=>[f] | _=>[])++c.args.toList
 |_=>[]
theorem cu {P:Program}(mx:Bool)(w:World){g:Gh}:∀ (r:List AV) (vs:List Value) (k:IntKind) (a:Int) (v:Value),cW g r vs→Bu.go mx k a r=some v →
  (vs.foldlM (if mx then Builtin.max2 else Builtin.min2) (.int k a)).run P w=.ok v w
 |[],vs,k,a,v,hr,h=>by
  have:vs=[]:=List.length_eq_zero_iff.1 (by simpa using hr.1.symm)
  subst this
  simp[Bu.go]at h;subst h;rfl
 |x :: r,[],k,a,v,hr,h=>by have:=hr.1;simp at this
 |x :: r,c :: vs,k,a,v,hr,h=>by
  have hc:=hr.2 0 x c rfl rfl
  have hr':cW g r vs:=⟨by simpa using hr.1,fun k x c a b=>hr.2 (k+1) x c (by simpa using a) (by simpa using b)⟩
  cases x with
  |v z =>
   cases z with
   |int k' b =>
    cases hc
    simp only[Bu.go]at h
    have ih:=cu (P:=P) mx w r vs _ _ v hr' h
    cases mx<;>simp[Builtin.max2,Builtin.min2]at ih ⊢<;>exact ih
   |_=>simp[Bu.go]at h
  |_=>simp[Bu.go]at h
theorem EY {P:Program}{g:Gh}{mx:Bool}{l:List AV}{vs:List Value}{v:Value}(hr:cW g l vs)(h:Bu mx l=some v)(ats:Array TypeId)(ty:TypeId)(w:World) :
  ((if mx then Builtin.max_ else Builtin.min_) ats ty vs.toArray).run P w=.ok v w:=by
 unfold Bu at h
 split at h
 ·cases h
 ·rename_i k a r
  cases vs with
  |nil=>have:=hr.1;simp at this
  |cons c vs =>
   have hc:=hr.2 0 _ c rfl rfl
   cases hc
   have:=cu (P:=P) mx w r vs k a v ⟨by simpa using hr.1,fun k x c a b=>hr.2 (k+1) x c (by simpa using a) (by simpa using b)⟩ h
   cases mx<;>simpa[Builtin.max_,Builtin.min_] using this
 ·cases h
def aEU (E:Env)(ρ:Operand→Value)(o:Oper)(w:World)(v:Value)(w':World):Prop :=
 (execOp ρ o).run E.P w=.ok (.value v) w'∨((execOp ρ o).run E.P w=.ok .skip w'∧v=undef)
end Go.Ev
