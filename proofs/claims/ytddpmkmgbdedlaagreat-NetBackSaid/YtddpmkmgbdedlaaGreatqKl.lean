/-
The law NetBack: from what the printed function answers to the given row. Printed by wip/tools/lawt.py.
-/
import Derived.Test.YtddpmkmgbdedlaaGreatqRd
import Derived.Test.YtddpmkmgbdedlaaGreatqKc
set_option linter.unusedVariables false
namespace Go.Proofs.YtddpmkmgbdedlaaGreat
open Go Go.Ev Go.ChangeShapes Go.WideShapes Go.ChangeAt Go.RowKit
set_option maxRecDepth 100000 in
theorem zut (H:Type) (enc:TypeId×Value→H) (W:World) (base:Nat) (args:Array Value) (ds gs:List (DataW H)) (before:List MemPlace)
    (hval:∀ (j:Nat) t v,Tryz.f4.params[j]?=some t→args[j]?=some v→Value.okWide Tryz.prog W .any base t v)
    (hW:DataW.Whole enc Tryz.prog Tryz.f4.params.toList Rows.netBackSpec.vars false W args.toList ds gs before) :
    Calls Tryz.prog 4 args W fun e W'=>∃ v,e=.returned v∧Rows.netBackSpec.post enc Tryz.prog Tryz.f4 false true false false W args v W':=by
  obtain ⟨p,q,hA0,hV,_,_,_⟩:=id hW
  have hA:DataW.TrodAll enc Tryz.prog W 0 (fun _=>true) true Tryz.f4.params.toList args.toList ds p:=hA0
  rw [Tryz.params4] at hA hval
  obtain ⟨v0,v1,d0,d1,p0,p1,rfl,rfl,rfl,h0,h1⟩:=trodAll_two hA
  obtain ⟨y0,r0,w0,b0⟩:=arg_one (C:=C) (i:=ti59) law59 tok59.d rfl rd59 (fun _=>rfl) (hval 0 59 v0 rfl rfl) h0
  obtain ⟨y1,r1,w1,b1⟩:=arg_one (C:=C) (i:=ti37) law37 tok37.d rfl rd37 (fun _=>rfl) (hval 1 37 v1 rfl rfl) h1
  obtain ⟨N,hF⟩:∃ N,ze7 N y0 y1=some true:=⟨1048760+y0.length+y1.length+(y0.map sizeM).sum,netBack_F (by omega) (by omega) (fun m hm=>roomM_of (w0.2 m hm) (by have:=z13h hm; omega)) w0.1 w1.1 (fun x hx=>w1.2 x hx)⟩
  exact law_calls (E:=E) (f:=Tryz.f4) (s:=Rows.netBackSpec) (tb:=4) (zvt N (y0,y1,()) () true hF) (.cons r0 (.cons r1 .nil)) hW nLaid rfl rfl rfl tok4.d (by kernel_rfl)
set_option maxRecDepth 100000 in
theorem zxy (os:Os) (started:os.Started) (H:Type) (enc:TypeId×Value→H) :
    ReturnsInHanded {} Tryz.checked os 4 .any (Rows.netBackSpec.pre6 enc Tryz.prog Tryz.f4 Rows.netBackRow.domain false) (Rows.netBackSpec.post enc Tryz.prog Tryz.f4 false true false false):=by
  refine returnsInHanded_of_change (C:=Tryz.checked) nOwn started (by kernel_rfl) Tryz.func4
    (ChangeSpec.witness6 (enc:=enc) (C:=Tryz.checked) false ⟨#[],#[(.slice none 0 0),(.slice none 0 0)],[]⟩ 40 (by kernel_rfl) (by kernel_rfl) (by kernel_rfl) (by kernel_rfl)) ?_
  intro W base args ds gs before hval hW _ _
  exact zut H enc W base args ds gs before hval hW
theorem netBack_holds:Rows.NetBackSaid :=
  OpenClaim.holds_of_wide 4 Tryz.f4 rfl rfl rfl rfl rfl rfl rfl ⟨rfl,rfl,rfl,rfl,rfl⟩ rfl rfl rfl rfl rfl (by kernel_rfl) Tryz.func4 (by kernel_rfl)
    (of_decide_eq_true (by kernel_rfl)) (by unfold Func.isWrapper; first | (rw [if_pos (by decide +kernel)]; kernel_rfl) | (rw [if_neg (by decide +kernel)]; exact ⟨rfl,rfl⟩))
    (fun os started H enc _=>zxy os started H enc)
end Go.Proofs.YtddpmkmgbdedlaaGreat
