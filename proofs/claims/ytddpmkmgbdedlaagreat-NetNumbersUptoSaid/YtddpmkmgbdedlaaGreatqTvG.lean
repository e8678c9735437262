/-
The operations of a region at an abstract state,one behind the other;and that any order that the region's edges allow comes to the same.
-/
import Derived.Test.YtddpmkmgbdedlaaGreatqTvF
import Derived.OrdersIn
import Derived.RangeFuncSeq
set_option linter.unusedVariables false
set_option linter.unusedSimpArgs false
set_option linter.unnecessarySimpa false
namespace Go.Ev
open Go
theorem Act.put_defers (a:Act)(d:Option Tmp)(v:Value):(a.put d v).defers=a.defers:=by cases d<;>rfl
structure Rec where
 r:AV
 U:List (Nat×dD)
 F:List Nat
 deriving Inhabited
def St.after (s:St)(o:Oper)(x:Rec):St:=(⟨s.t,YC s.h x.U⟩:St).put o.dst x.r
def fe (E:Env):Fence:={ Fence.wide with round:=E.ro }
def owp (E:Env)(o:Oper)(a:Act)(w:World)(next:Act→World→Prop)(Q:Exit→Act→World→Prop):Prop:=Oper.wpIn (fe E) 0 E.P o a w next Q
theorem j3 {E:Env}{o:Oper}{a:Act}{w w':World}{v:Next}{next:Act→World→Prop}{Q:Exit→Act→World→Prop}(h:(execOp a.eval o).run E.P w=.ok v w')(hv:∀ d,v≠.defer d)(hn:o.uponIn (fe E) 0 E.P a next Q (.ok v w')):owp E o a w next Q:=by
 refine⟨fun _ _=>trivial,?_⟩
 have hd:∀ c,o.op≠.defer c:=fun c hc=>by
  simp only[execOp,hc,Sem.run_bind]at h
  cases hr:(resolve a.eval c o.type).run E.P w with
  |ok d w1=>rw[hr]at h;simp[Result.andThen]at h;exact hv d h.1.symm
  |halt x w1=>rw[hr]at h;simp[Result.andThen]at h
 rw[Oper.semAt_eq _ _ _ hd,h]
 exact hn
def br (E:Env)(ops:Array Oper)(o:Oper)(a:Act)(w:World)(next:Act→World→Prop)(Q:Exit→Act→World→Prop):Prop :=
 if Region.wanted o (yielded ops a.tmps) then owp E o a w next Q else next (a.put o.dst undef) w
def Local (E:Env)(ops:Array Oper)(o:Oper)(s:St)(x:Rec):Prop :=
 ∀ (s':St) g a w,pN g s' a w→(∀ d∈o.looksAt ops,nth s'.t d=nth s.t d)→(∀ id∈x.F,bU s'.h id=bU s.h id) →
  ∀ (next:Act→World→Prop) (Q:Exit→Act→World→Prop),
   (∀ g' a' w',a'.defers=a.defers→pN g' (s'.after o x) a' w'→iH g (bU s'.h) w g' (bU (YC s'.h x.U)) w'→next a' w')→br E ops o a w next Q
theorem J7 {ops:Array Oper}{o:Oper}{s s':St}(h:∀ d∈o.looksAt ops,nth s'.t d=nth s.t d):∀ x∈o.op.operands,s'.val x=s.val x:=by
 intro x hx
 cases x with
 |tmp t=>exact h t (List.mem_append_left _ (List.mem_filterMap.2 ⟨.tmp t,by simpa using hx,rfl⟩))
 |_=>rfl
theorem Ll {ops:Array Oper}{o:Oper}{s s':St}(h:∀ d∈o.looksAt ops,nth s'.t d=nth s.t d):guardOf ops s' o=guardOf ops s o:=by
 unfold guardOf
 split
 ·rfl
 ·rename_i j want hg
  split
  ·rename_i d hd
   rw[h d (List.mem_append_right _ (by rw[hg];simp[hd]))]
  ·rfl
theorem dy {E:Env}{o:Oper}{a:Act}{w w':World}{v:Value}{next:Act→World→Prop}{Q:Exit→Act→World→Prop}(h:aEU E a.eval o w v w')(hn:next (a.put o.dst v) w'):owp E o a w next Q:=by
 rcases h with h|⟨h,rfl⟩
 ·exact j3 h (fun d=>by simp) hn
 ·exact j3 h (fun d=>by simp) hn
end Go.Ev
