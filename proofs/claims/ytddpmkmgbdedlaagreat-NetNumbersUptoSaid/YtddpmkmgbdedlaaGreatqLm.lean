/-
The law NetNumbers: from what the printed function answers to the given row. Printed by wip/tools/lawt.py.
-/
import Derived.Test.YtddpmkmgbdedlaaGreatqRd
import Derived.Test.YtddpmkmgbdedlaaGreatqPg
set_option linter.unusedVariables false
namespace Go.Proofs.YtddpmkmgbdedlaaGreat
open Go Go.Ev Go.ChangeShapes Go.WideShapes Go.ChangeAt Go.RowKit
set_option maxRecDepth 100000 in
theorem JD (H:Type)(enc:TypeId×Value→H)(W:World)(base:Nat)(args:Array Value)(ds gs:List (DataW H))(before:List MemPlace)
  (OO:∀ (j:Nat) t v,Tryz.f5.params[j]?=some t→args[j]?=some v→Value.okWide Tryz.prog W .any base t v)
  (hW:DataW.Whole enc Tryz.prog Tryz.f5.params.toList Rows.netNumbersSpec.vars false W args.toList ds gs before) (hk0:Rows.uptoSmall H (ds++gs)=true) :
  Calls Tryz.prog 5 args W fun e W'=>∃ v,e=.returned v∧Rows.netNumbersSpec.post enc Tryz.prog Tryz.f5 false true false false W args v W':=by
 obtain⟨p,q,hA0,hV,_,_,_⟩:=id hW
 have hA:DataW.TrodAll enc Tryz.prog W 0 (fun _=>true) true Tryz.f5.params.toList args.toList ds p:=hA0
 rw[Tryz.params5]at hA OO
 obtain⟨v0,d0,rfl,rfl,h0⟩:=trodAll_one hA
 obtain⟨y0,r0,w0,b0⟩:=aCb (C:=C) (i:=aDg) aEr aB3.d rfl rd69 (fun _=>rfl) (OO 0 69 v0 rfl rfl) h0
 obtain⟨rfl,rfl⟩:gs=[]∧q=[]:=by
  rw[show Rows.netNumbersSpec.vars=[] from rfl]at hV
  cases gs with
  |nil=>exact⟨rfl,hV⟩
  |cons=>exact hV.elim
 have hk:RC y0≤1048576:=by
  have h:=of_decide_eq_true hk0
  simp only[List.append_nil,Rows.uptoBulkAll]at h
  omega
 obtain⟨N,ms,hF⟩:∃ N ms,mJ N y0 []=some (true,ms):=⟨aBw y0+1048700,P8 (by omega) (lh (by omega)) (vj w0 (by omega) (by omega))⟩
 exact ke (E:=E) (f:=Tryz.f5) (s:=Rows.netNumbersSpec) (tb:=4) (BO N (y0,()) ([],()) (true,ms) hF) (.cons r0 .nil) hW aJq rfl rfl rfl tok4.d (by kernel_rfl)
set_option maxRecDepth 100000 in
theorem PD (os:Os)(started:os.Started)(H:Type)(enc:TypeId×Value→H)(F:Stop.Interp) :
  ReturnsInHanded {} Tryz.checked os 5 .any ((Rows.OpenSpec.upto Rows.netNumbersSpec).pre6 enc Tryz.prog Tryz.f5 Rows.netNumbersUptoRow.domain false) (((Rows.OpenSpec.upto Rows.netNumbersSpec).at F).post enc Tryz.prog Tryz.f5 false true false false):=by
 refine returnsInHanded_of_cond (C:=Tryz.checked) (s:=Rows.OpenSpec.upto Rows.netNumbersSpec) (k:=Rows.uptoSmall) rfl nOwn started (by kernel_rfl) Tryz.func5
  (OpenSpec.witness (enc:=enc) (C:=Tryz.checked) (s:=Rows.OpenSpec.upto Rows.netNumbersSpec) (k:=Rows.uptoSmall) rfl false ⟨#[],#[(.slice none 0 0)],[]⟩ 40 (by kernel_rfl) (by kernel_rfl) (by kernel_rfl)
   (x:=([.nil],[],[])) (by kernel_rfl) rfl (by kernel_rfl)) ?_
 intro W base args ds gs before OO hW _ hk _
 exact JD H enc W base args ds gs before OO hW hk
theorem netNumbersUpto_holds:Rows.NetNumbersUptoSaid :=
 OpenClaim.holds_of_cond 5 Tryz.f5 rfl rfl rfl rfl rfl rfl rfl ⟨rfl,rfl,rfl,rfl,rfl⟩ rfl rfl rfl rfl rfl (by kernel_rfl) Tryz.func5 (by kernel_rfl)
  (of_decide_eq_true (by kernel_rfl)) (by unfold Func.isWrapper;first | (rw[if_pos (by decide +kernel)];kernel_rfl) | (rw[if_neg (by decide +kernel)];exact⟨rfl,rfl⟩))
  (fun os started H enc _ F=>PD os started H enc F)
end Go.Proofs.YtddpmkmgbdedlaaGreat
