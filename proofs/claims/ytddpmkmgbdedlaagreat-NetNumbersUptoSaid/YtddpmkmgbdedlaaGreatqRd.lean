/-
What the data of this seat's types are in range and in bulk,and that what reads so stands for typed data. Written by wip/tools/gen_rd.py.
-/
import Derived.Test.YtddpmkmgbdedlaaGreatRows
import Derived.Test.YtddpmkmgbdedlaaGreatqCod
import Derived.Test.YtddpmkmgbdedlaaGreatqTvS
import Derived.JoinedCond
set_option linter.unusedVariables false
namespace Go.Proofs.YtddpmkmgbdedlaaGreat
open Go Go.Ev
theorem nOwn:ownKnob Tryz.prog.godebug=none:=by kernel_rfl
theorem aJq:laidOutB Tryz.prog=true:=by kernel_rfl
section
variable {H:Type} {enc:TypeId×Value→H}
theorem sR:Vp (H:=H) Rows.uptoBulk Rows.uptoBulkAll :=
 ⟨fun _=>by simp[Rows.uptoBulk],fun _ _=>by simp[Rows.uptoBulk],fun _=>by simp[Rows.uptoBulk],by simp[Rows.uptoBulk],fun _ _=>by simp[Rows.uptoBulk],fun _=>by simp[Rows.uptoBulk],by simp[Rows.uptoBulkAll],fun _ _=>by simp[Rows.uptoBulkAll]⟩
def V9 (n:Int):Prop:=(-9223372036854775808)≤n∧n≤9223372036854775807
def Jy (_:Int):Nat:=1
theorem cm:Rd enc E.P Rows.uptoBulk 2 (C.cel 2) V9 Jy:=(kv sR tok2.d).to (fun _=>rfl) (fun _ h=>h) (fun _=>Nat.le_refl _)
def U7 (n:Int):Prop:=(-9223372036854775808)≤n∧n≤9223372036854775807
def Hs (_:Int):Nat:=1
theorem V7:Rd enc E.P Rows.uptoBulk 3 (C.cel 3) U7 Hs:=(kv sR tok3.d).to (fun _=>rfl) (fun _ h=>h) (fun _=>Nat.le_refl _)
def wf5 (n:Int):Prop:=0≤n∧n≤255
def yi (_:Int):Nat:=1
theorem rd5:Rd enc E.P Rows.uptoBulk 5 (C.cel 5) wf5 yi:=(kv sR tok5.d).to (fun _=>rfl) (fun _ h=>h) (fun _=>Nat.le_refl _)
def wf9 (s:List UInt8):Prop:=s.length≤9223372036854775807
def na (s:List UInt8):Nat:=s.length+1
theorem rd9:Rd enc E.P Rows.uptoBulk 9 (C.cel 9) wf9 na:=(aGA sR tok9.d).to (fun _=>rfl) (fun _ h=>h) (fun _=>Nat.le_refl _)
def aDq (x:bV):Prop:=U7 x.cR∧U7 x.aJ∧True
def LD (x:bV):Nat:=Hs x.cR+Hs x.aJ+1
theorem aGx:Rd enc E.P Rows.uptoBulk 23 (C.cel 23) aDq LD:=zH sR aED.d
 (zA.cons sR V7 rfl (by kernel_rfl) (zA.cons sR V7 rfl (by kernel_rfl) (zA.nil sR)))
 (fun y=>⟨y.1,y.2.1⟩) (fun _=>rfl) (fun _ h=>h) (fun _=>by simp only[LD];omega)
def aHA (x:aT):Prop:=V9 x.Round∧U7 x.aJ∧True
def K9 (x:aT):Nat:=Jy x.Round+Hs x.aJ+1
theorem rd25:Rd enc E.P Rows.uptoBulk 25 (C.cel 25) aHA K9:=zH sR aEE.d
 (zA.cons sR cm rfl (by kernel_rfl) (zA.cons sR V7 rfl (by kernel_rfl) (zA.nil sR)))
 (fun y=>⟨y.1,y.2.1⟩) (fun _=>rfl) (fun _ h=>h) (fun _=>by simp only[K9];omega)
def wf28 (x:bB):Prop:=V9 x.Time∧U7 x.Site∧True
def fy (x:bB):Nat:=Jy x.Time+Hs x.Site+1
theorem rd28:Rd enc E.P Rows.uptoBulk 28 (C.cel 28) wf28 fy:=zH sR aEG.d
 (zA.cons sR cm rfl (by kernel_rfl) (zA.cons sR V7 rfl (by kernel_rfl) (zA.nil sR)))
 (fun y=>⟨y.1,y.2.1⟩) (fun _=>rfl) (fun _ h=>h) (fun _=>by simp only[fy];omega)
def aHB (x:dP):Prop:=wf28 x.cG∧U7 x.Kind∧V9 x.Node∧V9 x.cY∧wf9 x.Name∧wf9 x.Key∧wf9 x.Value∧True
def L3 (x:dP):Nat:=fy x.cG+Hs x.Kind+Jy x.Node+Jy x.cY+na x.Name+na x.Key+na x.Value+1
theorem rd30:Rd enc E.P Rows.uptoBulk 30 (C.cel 30) aHB L3:=zH sR aEH.d
 (zA.cons sR rd28 rfl (by kernel_rfl) (zA.cons sR V7 rfl (by kernel_rfl) (zA.cons sR cm rfl (by kernel_rfl) (zA.cons sR cm rfl (by kernel_rfl) (zA.cons sR rd9 rfl (by kernel_rfl) (zA.cons sR rd9 rfl (by kernel_rfl) (zA.cons sR rd9 rfl (by kernel_rfl) (zA.nil sR))))))))
 (fun y=>⟨y.1,y.2.1,y.2.2.1,y.2.2.2.1,y.2.2.2.2.1,y.2.2.2.2.2.1,y.2.2.2.2.2.2.1⟩) (fun _=>rfl) (fun _ h=>h) (fun _=>by simp only[L3];omega)
def aHC (l:List (dP)):Prop:=l.length≤9223372036854775807∧∀ y∈l,aHB y
def ga (l:List (dP)):Nat:=(l.map L3).sum+1
theorem rd31:Rd enc E.P Rows.uptoBulk 31 (C.cel 31) aHC ga:=(Zf sR aEI.d rd30 (by kernel_rfl) (by decide) (FR.len)).to (fun _=>rfl) (fun _ h=>h) (fun _=>Nat.le_refl _)
def aHD (v:Vector (Int) 8):Prop:=∀ y∈v.toList,U7 y
def gb (v:Vector (Int) 8):Nat:=(v.toList.map Hs).sum+1
theorem rd32:Rd enc E.P Rows.uptoBulk 32 (C.cel 32) aHD gb:=(aBi sR aEJ.d (by kernel_rfl) V7).to (fun _=>rfl) (fun _ h=>h) (fun _=>Nat.le_refl _)
def aDr (v:Vector (Int) 8):Prop:=∀ y∈v.toList,V9 y
def L4 (v:Vector (Int) 8):Nat:=(v.toList.map Jy).sum+1
theorem aGy:Rd enc E.P Rows.uptoBulk 34 (C.cel 34) aDr L4:=(aBi sR aEK.d (by kernel_rfl) cm).to (fun _=>rfl) (fun _ h=>h) (fun _=>Nat.le_refl _)
def aHE (x:aD):Prop:=V9 x.Number∧aHD x.cB∧aDr x.iD∧aHD x.aV∧True
def L5 (x:aD):Nat:=Jy x.Number+gb x.cB+L4 x.iD+gb x.aV+1
theorem rd36:Rd enc E.P Rows.uptoBulk 36 (C.cel 36) aHE L5:=zH sR aEL.d
 (zA.cons sR cm rfl (by kernel_rfl) (zA.cons sR rd32 rfl (by kernel_rfl) (zA.cons sR aGy rfl (by kernel_rfl) (zA.cons sR rd32 rfl (by kernel_rfl) (zA.nil sR)))))
 (fun y=>⟨y.1,y.2.1,y.2.2.1,y.2.2.2.1⟩) (fun _=>rfl) (fun _ h=>h) (fun _=>by simp only[L5];omega)
def wf37 (l:List (Int)):Prop:=l.length≤9223372036854775807∧∀ y∈l,wf5 y
def yh (l:List (Int)):Nat:=(l.map yi).sum+1
theorem rd37:Rd enc E.P Rows.uptoBulk 37 (C.cel 37) wf37 yh:=(Zf sR aEM.d rd5 (by kernel_rfl) (by decide) (y9.len)).to (fun _=>rfl) (fun _ h=>h) (fun _=>Nat.le_refl _)
def aHF (x:aK):Prop:=V9 x.Qz∧U7 x.Index∧U7 x.Hq∧wf37 x.Data∧True
def L6 (x:aK):Nat:=Jy x.Qz+Hs x.Index+Hs x.Hq+yh x.Data+1
theorem rd39:Rd enc E.P Rows.uptoBulk 39 (C.cel 39) aHF L6:=zH sR aEN.d
 (zA.cons sR cm rfl (by kernel_rfl) (zA.cons sR V7 rfl (by kernel_rfl) (zA.cons sR V7 rfl (by kernel_rfl) (zA.cons sR rd37 rfl (by kernel_rfl) (zA.nil sR)))))
 (fun y=>⟨y.1,y.2.1,y.2.2.1,y.2.2.2.1⟩) (fun _=>rfl) (fun _ h=>h) (fun _=>by simp only[L6];omega)
def aDs (x:aB):Prop:=U7 x.Kind∧V9 x.cE∧V9 x.Request∧aHB x.Op∧U7 x.Origin∧V9 x.Seq∧aHC x.fP∧aHE x.aY∧U7 x.aS∧aDr x.aH∧V9 x.bH∧aHF x.Part∧U7 x.Site∧U7 x.aV∧V9 x.Length∧True
def L7 (x:aB):Nat:=Hs x.Kind+Jy x.cE+Jy x.Request+L3 x.Op+Hs x.Origin+Jy x.Seq+ga x.fP+L5 x.aY+Hs x.aS+L4 x.aH+Jy x.bH+L6 x.Part+Hs x.Site+Hs x.aV+Jy x.Length+1
theorem rd41:Rd enc E.P Rows.uptoBulk 41 (C.cel 41) aDs L7:=zH sR aEO.d
 (zA.cons sR V7 rfl (by kernel_rfl) (zA.cons sR cm rfl (by kernel_rfl) (zA.cons sR cm rfl (by kernel_rfl) (zA.cons sR rd30 rfl (by kernel_rfl) (zA.cons sR V7 rfl (by kernel_rfl) (zA.cons sR cm rfl (by kernel_rfl) (zA.cons sR rd31 rfl (by kernel_rfl) (zA.cons sR rd36 rfl (by kernel_rfl) (zA.cons sR V7 rfl (by kernel_rfl) (zA.cons sR aGy rfl (by kernel_rfl) (zA.cons sR cm rfl (by kernel_rfl) (zA.cons sR rd39 rfl (by kernel_rfl) (zA.cons sR V7 rfl (by kernel_rfl) (zA.cons sR V7 rfl (by kernel_rfl) (zA.cons sR cm rfl (by kernel_rfl) (zA.nil sR))))))))))))))))
 (fun y=>⟨y.1,y.2.1,y.2.2.1,y.2.2.2.1,y.2.2.2.2.1,y.2.2.2.2.2.1,y.2.2.2.2.2.2.1,y.2.2.2.2.2.2.2.1,y.2.2.2.2.2.2.2.2.1,y.2.2.2.2.2.2.2.2.2.1,y.2.2.2.2.2.2.2.2.2.2.1,y.2.2.2.2.2.2.2.2.2.2.2.1,y.2.2.2.2.2.2.2.2.2.2.2.2.1,y.2.2.2.2.2.2.2.2.2.2.2.2.2.1,y.2.2.2.2.2.2.2.2.2.2.2.2.2.2.1⟩) (fun _=>rfl) (fun _ h=>h) (fun _=>by simp only[L7];omega)
def aET (x:aL):Prop:=V9 x.Slot∧aHA x.aG∧aDs x.Entry∧True
def K8 (x:aL):Nat:=Jy x.Slot+K9 x.aG+L7 x.Entry+1
theorem aJt:Rd enc E.P Rows.uptoBulk 155 (C.cel 155) aET K8:=zH sR aB2.d
 (zA.cons sR cm rfl (by kernel_rfl) (zA.cons sR rd25 rfl (by kernel_rfl) (zA.cons sR rd41 rfl (by kernel_rfl) (zA.nil sR))))
 (fun y=>⟨y.1,y.2.1,y.2.2.1⟩) (fun _=>rfl) (fun _ h=>h) (fun _=>by simp only[K8];omega)
def wf26 (l:List (aL)):Prop:=l.length≤9223372036854775807∧∀ y∈l,aET y
def yg (l:List (aL)):Nat:=(l.map K8).sum+1
theorem rd26:Rd enc E.P Rows.uptoBulk 26 (C.cel 26) wf26 yg:=(Zf sR aEF.d aJt (by kernel_rfl) (by decide) (O6.len)).to (fun _=>rfl) (fun _ h=>h) (fun _=>Nat.le_refl _)
def aHG (x:aN):Prop:=U7 x.Kind∧aDq x.aS∧aDq x.To∧aHA x.aG∧V9 x.Slot∧wf26 x.bR∧aDs x.Entry∧V9 x.Number∧aDr x.aH∧V9 x.bH∧U7 x.Origin∧aHC x.fP∧aHE x.aY∧aHF x.Part∧True
def YI (x:aN):Nat:=Hs x.Kind+LD x.aS+LD x.To+K9 x.aG+Jy x.Slot+yg x.bR+L7 x.Entry+Jy x.Number+L4 x.aH+Jy x.bH+Hs x.Origin+ga x.fP+L5 x.aY+L6 x.Part+1
theorem rd43:Rd enc E.P Rows.uptoBulk 43 (C.cel 43) aHG YI:=zH sR aEP.d
 (zA.cons sR V7 rfl (by kernel_rfl) (zA.cons sR aGx rfl (by kernel_rfl) (zA.cons sR aGx rfl (by kernel_rfl) (zA.cons sR rd25 rfl (by kernel_rfl) (zA.cons sR cm rfl (by kernel_rfl) (zA.cons sR rd26 rfl (by kernel_rfl) (zA.cons sR rd41 rfl (by kernel_rfl) (zA.cons sR cm rfl (by kernel_rfl) (zA.cons sR aGy rfl (by kernel_rfl) (zA.cons sR cm rfl (by kernel_rfl) (zA.cons sR V7 rfl (by kernel_rfl) (zA.cons sR rd31 rfl (by kernel_rfl) (zA.cons sR rd36 rfl (by kernel_rfl) (zA.cons sR rd39 rfl (by kernel_rfl) (zA.nil sR)))))))))))))))
 (fun y=>⟨y.1,y.2.1,y.2.2.1,y.2.2.2.1,y.2.2.2.2.1,y.2.2.2.2.2.1,y.2.2.2.2.2.2.1,y.2.2.2.2.2.2.2.1,y.2.2.2.2.2.2.2.2.1,y.2.2.2.2.2.2.2.2.2.1,y.2.2.2.2.2.2.2.2.2.2.1,y.2.2.2.2.2.2.2.2.2.2.2.1,y.2.2.2.2.2.2.2.2.2.2.2.2.1,y.2.2.2.2.2.2.2.2.2.2.2.2.2.1⟩) (fun _=>rfl) (fun _ h=>h) (fun _=>by simp only[YI];omega)
def wf59 (l:List (aN)):Prop:=l.length≤9223372036854775807∧∀ y∈l,aHG y
def YJ (l:List (aN)):Nat:=(l.map YI).sum+1
theorem rd59:Rd enc E.P Rows.uptoBulk 59 (C.cel 59) wf59 YJ:=(Zf sR aEQ.d rd43 (by kernel_rfl) (by decide) (aAI.len)).to (fun _=>rfl) (fun _ h=>h) (fun _=>Nat.le_refl _)
def wf70 (l:List (bV)):Prop:=l.length≤9223372036854775807∧∀ y∈l,aDq y
def YK (l:List (bV)):Nat:=(l.map LD).sum+1
theorem rd70:Rd enc E.P Rows.uptoBulk 70 (C.cel 70) wf70 YK:=(Zf sR aER.d aGx (by kernel_rfl) (by decide) (jD.len)).to (fun _=>rfl) (fun _ h=>h) (fun _=>Nat.le_refl _)
def wf72 (x:aQ):Prop:=U7 x.Kind∧wf59 x.DN∧V9 x.Number∧U7 x.Place∧wf5 x.u6∧wf70 x.EN∧U7 x.Stop∧True
def Zx (x:aQ):Nat:=Hs x.Kind+YJ x.DN+Jy x.Number+Hs x.Place+yi x.u6+YK x.EN+Hs x.Stop+1
theorem rd72:Rd enc E.P Rows.uptoBulk 72 (C.cel 72) wf72 Zx:=zH sR aES.d
 (zA.cons sR V7 rfl (by kernel_rfl) (zA.cons sR rd59 rfl (by kernel_rfl) (zA.cons sR cm rfl (by kernel_rfl) (zA.cons sR V7 rfl (by kernel_rfl) (zA.cons sR rd5 rfl (by kernel_rfl) (zA.cons sR rd70 rfl (by kernel_rfl) (zA.cons sR V7 rfl (by kernel_rfl) (zA.nil sR))))))))
 (fun y=>⟨y.1,y.2.1,y.2.2.1,y.2.2.2.1,y.2.2.2.2.1,y.2.2.2.2.2.1,y.2.2.2.2.2.2.1⟩) (fun _=>rfl) (fun _ h=>h) (fun _=>by simp only[Zx];omega)
def wf69 (l:List (aQ)):Prop:=l.length≤9223372036854775807∧∀ y∈l,wf72 y
def RC (l:List (aQ)):Nat:=(l.map Zx).sum+1
theorem rd69:Rd enc E.P Rows.uptoBulk 69 (C.cel 69) wf69 RC:=(Zf sR aB3.d rd72 (by kernel_rfl) (by decide) (pg.len)).to (fun _=>rfl) (fun _ h=>h) (fun _=>Nat.le_refl _)
end
end Go.Proofs.YtddpmkmgbdedlaaGreat
