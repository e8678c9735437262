/-
The functions of this seat,as plain functions over typed data,each with its contract. Printed by wip/tools/fngen.py.
-/
import Derived.Test.YtddpmkmgbdedlaaGreatqFda
import Derived.Test.YtddpmkmgbdedlaaGreatqTvX
import Derived.KernelRfl
set_option linter.unusedVariables false
set_option maxRecDepth 100000
namespace Go.Proofs.YtddpmkmgbdedlaaGreat
open Go Go.Ev
structure pL where
 t5:Int
 b0:Int
 b1:aD
 b2:aN
def aHu:List Sl:=[.k,.k,.k,.k,.j,.sh (.ty 2),.j,.j,.j,.j,.j,.j,.j,.j,.j]
def aHv:List ESh:=[.box (.agg [.ptr 2 [],.ty 2]),.box (.ty 35),.box (.ty 165)]
def aTv (a:Sl.Ts τ aHu) (b:ESh.Ts τ aHv):pL:=⟨a.2.2.2.2.2.1,b.1.2.1,b.2.1,b.2.2.1⟩
def aTw (s:pL):Sl.Ts τ aHu:=((),(),(),(),(),s.t5,(),(),(),(),(),(),(),(),(),())
def aTx (s:pL):ESh.Ts τ aHv:=(((),s.b0,()),s.b1,s.b2,())
def aTy:Lp τ:={ ts:=aHu,hs:=aHv,S:=pL,to:=aTv,ot:=aTw,oh:=aTx,hk:=[2,2,2],tk:=[2,3],ot_to:=fun _ _=>rfl,oh_to:=fun _ _=>rfl }
def aCc (N:Nat) (b0:Int) (b1:aD) (b2:aN):Option (Int×aD×aN) :=
 (bE N (fun (s1:pL) next2 =>
 (bif (decide (s1.t5 < 8)) then
 ((dV N s1.b0 s1.b2).bind fun r3 =>
 (bif (ibB s1.t5 8) then
 (next2 ⟨(IntKind.i64.wrap (s1.t5+1)),r3.2.1,(⟨s1.b1.Number,s1.b1.States,(iG s1.b1.Seals ((s1.t5).toNat) r3.1),s1.b1.Sponsor⟩:aD),r3.2.2⟩)
 else none))
 else
 (some (s1.b0,s1.b1,s1.b2)))) ⟨0,b0,b1,b2⟩)
def aHw:Con τ:=cn [.ptr 0 [],.ptr 1 [.fld 2 9]] [.box (.agg [.ptr 2 [],.ty 48]),.box (.ty 36),.box (.ty 186)] (.tup []) [.box (.agg [.ptr 2 [],.ty 48]),.box (.ty 36),.box (.ty 186)] (fun N a b=>aCc N b.1.2.1 b.2.1 b.2.2.1) fun r=>((),(((),r.1,()),r.2.1,r.2.2,()))
theorem aTz:aF E C 151 aHw:=ok0 aHw [(172,eV)] [(1,aTy)] 3 [] [] ⟨fP,trivial⟩ (fun a b=>(b.1.2.1,b.2.1,b.2.2.1)) Tryz.func151 rfl (by intro N a b; kernel_rfl)
structure pM where
 t10:Int
 b0:Int
 b1:aN
 b3:aD
def aHx:List Sl:=[.k,.k,.k,.k,.j,.k,.k,.k,.k,.k,.sh (.ty 2),.j,.j,.j,.j,.j,.j,.j,.j,.k,.k,.k,.k,.k,.k,.k,.k,.k,.k,.k,.k,.k]
def aHy:List ESh:=[.box (.agg [.ptr 1 [],.ty 2]),.box (.ty 165),.keep,.box (.ty 35)]
def aTA (a:Sl.Ts τ aHx) (b:ESh.Ts τ aHy):pM:=⟨a.2.2.2.2.2.2.2.2.2.2.1,b.1.2.1,b.2.1,b.2.2.2.1⟩
def aTB (s:pM):Sl.Ts τ aHx:=((),(),(),(),(),(),(),(),(),(),s.t10,(),(),(),(),(),(),(),(),(),(),(),(),(),(),(),(),(),(),(),(),(),())
def aTC (s:pM):ESh.Ts τ aHy:=(((),s.b0,()),s.b1,(),s.b3,())
def aTD:Lp τ:={ ts:=aHx,hs:=aHy,S:=pM,to:=aTA,ot:=aTB,oh:=aTC,hk:=[2,2,2,2],tk:=[2,0,4,5,0,0,2,5],ot_to:=fun _ _=>rfl,oh_to:=fun _ _=>rfl }
structure pN where
 t22:Int
 b0:Int
 b1:aN
 b3:aD
def aHz:List Sl:=[.k,.k,.k,.k,.k,.j,.k,.k,.k,.k,.k,.k,.k,.k,.k,.k,.k,.k,.k,.k,.k,.k,.sh (.ty 2),.j,.j,.j,.j,.j,.j,.j,.j,.k]
def aHA:List ESh:=[.box (.agg [.ptr 1 [],.ty 2]),.box (.ty 165),.keep,.box (.ty 35)]
def aTE (a:Sl.Ts τ aHz) (b:ESh.Ts τ aHA):pN:=⟨a.2.2.2.2.2.2.2.2.2.2.2.2.2.2.2.2.2.2.2.2.2.2.1,b.1.2.1,b.2.1,b.2.2.2.1⟩
def aTF (s:pN):Sl.Ts τ aHz:=((),(),(),(),(),(),(),(),(),(),(),(),(),(),(),(),(),(),(),(),(),(),s.t22,(),(),(),(),(),(),(),(),(),())
def aTG (s:pN):ESh.Ts τ aHA:=(((),s.b0,()),s.b1,(),s.b3,())
def aTH:Lp τ:={ ts:=aHz,hs:=aHA,S:=pN,to:=aTE,ot:=aTF,oh:=aTG,hk:=[2,2,2,2],tk:=[2,0,4,5,0,0,2,5,0,0,0,0,0,0,0,0,0,0,0,2,5],ot_to:=fun _ _=>rfl,oh_to:=fun _ _=>rfl }
def rY (N:Nat) (b0:Int) (b1:aN):Option (aD×Int×aN) :=
 ((aHs N b0 (⟨0,(Vector.replicate 8 (default:Int)),(Vector.replicate 8 (default:Int)),(Vector.replicate 8 (default:Int))⟩:aD) b1).bind fun r1 =>
 (bE N (fun (s2:pM) next3 =>
 (bif (decide (s2.t10 < 8)) then
 ((eJ N s2.b0 s2.b1).bind fun r4 =>
 (bif (ibB s2.t10 8) then
 (next3 ⟨(IntKind.i64.wrap (s2.t10+1)),r4.2.1,r4.2.2,(⟨s2.b3.Number,(iG s2.b3.States ((s2.t10).toNat) r4.1),s2.b3.Seals,s2.b3.Sponsor⟩:aD)⟩)
 else none))
 else
 ((aCc N s2.b0 s2.b3 s2.b1).bind fun r5 =>
 (bE N (fun (s6:pN) next7 =>
 (bif (decide (s6.t22 < 8)) then
 ((eJ N s6.b0 s6.b1).bind fun r8 =>
 (bif (ibB s6.t22 8) then
 (next7 ⟨(IntKind.i64.wrap (s6.t22+1)),r8.2.1,r8.2.2,(⟨s6.b3.Number,s6.b3.States,s6.b3.Seals,(iG s6.b3.Sponsor ((s6.t22).toNat) r8.1)⟩:aD)⟩)
 else none))
 else
 (some (s6.b3,s6.b0,s6.b1)))) ⟨0,r5.1,r5.2.2,r5.2.1⟩)))) ⟨0,r1.1,r1.2.2,r1.2.1⟩))
def aCd:Con τ:=cn [.ptr 0 []] [.box (.agg [.ptr 1 [],.ty 48]),.box (.ty 186)] (.ty 36) [.box (.agg [.ptr 1 [],.ty 48]),.box (.ty 186)] (fun N a b=>rY N b.1.2.1 b.2.1) fun r=>(r.1,(((),r.2.1,()),r.2.2,()))
theorem aMx:aF E C 153 aCd:=ok0 aCd [(148,aHt),(146,iW),(151,aHw)] [(4,aTD),(10,aTH)] 2 [] [] ⟨aTu,⟨kK,⟨aTz,trivial⟩⟩⟩ (fun a b=>(a,b.1.2.1,b.2.1)) Tryz.func153 rfl (by intro N a b; kernel_rfl)
def aHB (N:Nat) (b0:Int) (b1:aC) (b2:aN):Option (Int×aC×aN) :=
 ((eJ N b0 b2).bind fun r1 =>
 (some (r1.2.1,(⟨b1.Kind,b1.Session,b1.Request,b1.Op,b1.Origin,b1.Seq,b1.Ops,b1.Epoch,r1.1,b1.Vector_,b1.Clock,b1.Part,b1.Site,b1.Sponsor,b1.Length⟩:aC),r1.2.2)))
def aHC:Con τ:=cn [.ptr 0 [],.ls 1 [.ptr 1 [.fld 8 39]]] [.box (.agg [.ptr 2 [],.ty 48]),.box (.ty 41),.box (.ty 186)] (.tup []) [.box (.agg [.ptr 2 [],.ty 48]),.box (.ty 41),.box (.ty 186)] (fun N a b=>aHB N b.1.2.1 b.2.1 b.2.2.1) fun r=>((),(((),r.1,()),r.2.1,r.2.2,()))
theorem aTI:aF E C 121 aHC:=ok0 aHC [(146,iW)] [] 3 [] [(1,3)] ⟨kK,trivial⟩ (fun a b=>(b.1.2.1,b.2.1,b.2.2.1)) Tryz.func121 rfl (by intro N a b; kernel_rfl)
structure pO where
 t5:Int
 b0:Int
 b1:aC
 b2:aN
def aHD:List Sl:=[.k,.k,.k,.k,.j,.sh (.ty 2),.j,.j,.j,.j,.j,.j,.j,.j,.j]
def aHE:List ESh:=[.box (.agg [.ptr 2 [],.ty 2]),.box (.ty 40),.box (.ty 165)]
def aTJ (a:Sl.Ts τ aHD) (b:ESh.Ts τ aHE):pO:=⟨a.2.2.2.2.2.1,b.1.2.1,b.2.1,b.2.2.1⟩
def aTK (s:pO):Sl.Ts τ aHD:=((),(),(),(),(),s.t5,(),(),(),(),(),(),(),(),(),())
def aTL (s:pO):ESh.Ts τ aHE:=(((),s.b0,()),s.b1,s.b2,())
def aTM:Lp τ:={ ts:=aHD,hs:=aHE,S:=pO,to:=aTJ,ot:=aTK,oh:=aTL,hk:=[2,2,2],tk:=[2,3],ot_to:=fun _ _=>rfl,oh_to:=fun _ _=>rfl }
def aCe (N:Nat) (b0:Int) (b1:aC) (b2:aN):Option (Int×aC×aN) :=
 (bE N (fun (s1:pO) next2 =>
 (bif (decide (s1.t5 < 8)) then
 ((dV N s1.b0 s1.b2).bind fun r3 =>
 (bif (ibB s1.t5 8) then
 (next2 ⟨(IntKind.i64.wrap (s1.t5+1)),r3.2.1,(⟨s1.b1.Kind,s1.b1.Session,s1.b1.Request,s1.b1.Op,s1.b1.Origin,s1.b1.Seq,s1.b1.Ops,s1.b1.Epoch,s1.b1.From,(iG s1.b1.Vector_ ((s1.t5).toNat) r3.1),s1.b1.Clock,s1.b1.Part,s1.b1.Site,s1.b1.Sponsor,s1.b1.Length⟩:aC),r3.2.2⟩)
 else none))
 else
 (some (s1.b0,s1.b1,s1.b2)))) ⟨0,b0,b1,b2⟩)
def aHF:Con τ:=cn [.ptr 0 [],.ptr 1 [.fld 9 40]] [.box (.agg [.ptr 2 [],.ty 48]),.box (.ty 41),.box (.ty 186)] (.tup []) [.box (.agg [.ptr 2 [],.ty 48]),.box (.ty 41),.box (.ty 186)] (fun N a b=>aCe N b.1.2.1 b.2.1 b.2.2.1) fun r=>((),(((),r.1,()),r.2.1,r.2.2,()))
theorem aTN:aF E C 151 aHF:=ok0 aHF [(172,eV)] [(1,aTM)] 3 [] [] ⟨fP,trivial⟩ (fun a b=>(b.1.2.1,b.2.1,b.2.2.1)) Tryz.func151 rfl (by intro N a b; kernel_rfl)
def aHG (N:Nat) (b0:Int) (b1:aC) (b2:aN):Option (Int×aC×aN) :=
 ((dV N b0 b2).bind fun r1 =>
 (some (r1.2.1,(⟨b1.Kind,b1.Session,b1.Request,b1.Op,b1.Origin,b1.Seq,b1.Ops,b1.Epoch,b1.From,b1.Vector_,r1.1,b1.Part,b1.Site,b1.Sponsor,b1.Length⟩:aC),r1.2.2)))
def aHH:Con τ:=cn [.ptr 0 [],.ls 1 [.ptr 1 [.fld 10 48]]] [.box (.agg [.ptr 2 [],.ty 48]),.box (.ty 41),.box (.ty 186)] (.tup []) [.box (.agg [.ptr 2 [],.ty 48]),.box (.ty 41),.box (.ty 186)] (fun N a b=>aHG N b.1.2.1 b.2.1 b.2.2.1) fun r=>((),(((),r.1,()),r.2.1,r.2.2,()))
theorem aTO:aF E C 148 aHH:=ok0 aHH [(172,eV)] [] 3 [] [(1,3)] ⟨fP,trivial⟩ (fun a b=>(b.1.2.1,b.2.1,b.2.2.1)) Tryz.func148 rfl (by intro N a b; kernel_rfl)
def aHI (N:Nat) (b0:Int) (b1:aE) (b2:aN):Option (Int×aE×aN) :=
 ((dV N b0 b2).bind fun r1 =>
 (some (r1.2.1,(⟨r1.1,b1.Index,b1.Many,b1.Data⟩:aE),r1.2.2)))
def aHJ:Con τ:=cn [.ptr 0 [],.ls 1 [.ptr 1 [.fld 0 0]]] [.box (.agg [.ptr 2 [],.ty 48]),.box (.ty 39),.box (.ty 186)] (.tup []) [.box (.agg [.ptr 2 [],.ty 48]),.box (.ty 39),.box (.ty 186)] (fun N a b=>aHI N b.1.2.1 b.2.1 b.2.2.1) fun r=>((),(((),r.1,()),r.2.1,r.2.2,()))
theorem aTP:aF E C 148 aHJ:=ok0 aHJ [(172,eV)] [] 3 [] [(1,3)] ⟨fP,trivial⟩ (fun a b=>(b.1.2.1,b.2.1,b.2.2.1)) Tryz.func148 rfl (by intro N a b; kernel_rfl)
def aHK (N:Nat) (b0:Int) (b1:aE) (b2:aN):Option (Int×aE×aN) :=
 ((eJ N b0 b2).bind fun r1 =>
 ((eJ N r1.2.1 r1.2.2).bind fun r2 =>
 (some (r2.2.1,(⟨b1.Snap,r1.1,r2.1,b1.Data⟩:aE),r2.2.2))))
def aHL:Con τ:=cn [.ptr 0 [],.ls 1 [.ptr 1 [.fld 1 1],.ptr 1 [.fld 2 2]]] [.box (.agg [.ptr 2 [],.ty 48]),.box (.ty 39),.box (.ty 186)] (.tup []) [.box (.agg [.ptr 2 [],.ty 48]),.box (.ty 39),.box (.ty 186)] (fun N a b=>aHK N b.1.2.1 b.2.1 b.2.2.1) fun r=>((),(((),r.1,()),r.2.1,r.2.2,()))
theorem aTQ:aF E C 121 aHL:=ok0 aHL [(146,iW)] [] 3 [] [(1,4)] ⟨kK,trivial⟩ (fun a b=>(b.1.2.1,b.2.1,b.2.2.1)) Tryz.func121 rfl (by intro N a b; kernel_rfl)
def aCf (N:Nat) (b0:Int) (b1:aN):Option ((List (Int))×Int×aN) :=
 (bif (!(b0==0)) then
 (some ([],b0,b1))
 else
 ((zB N b1).bind fun r1 =>
 ((mL N r1.2.1 b0 r1.2.2).bind fun r2 =>
 (some (r1.1,r2.1,r2.2)))))
def aHM:Con τ:=cn [.ptr 0 []] [.box (.agg [.ptr 1 [],.ty 48]),.box (.ty 186)] (.ty 37) [.box (.agg [.ptr 1 [],.ty 48]),.box (.ty 186)] (fun N a b=>aCf N b.1.2.1 b.2.1) fun r=>(r.1,(((),r.2.1,()),r.2.2,()))
theorem aTR:aF E C 175 aHM:=ok0 aHM [(182,aB9),(80,vF)] [] 2 [] [] ⟨aMu,⟨aB6,trivial⟩⟩ (fun a b=>(a,b.1.2.1,b.2.1)) Tryz.func175 rfl (by intro N a b; kernel_rfl)
def mM (N:Nat) (b0:Int) (b1:aN):Option (aE×Int×aN) :=
 ((aHI N b0 (⟨0,0,0,[]⟩:aE) b1).bind fun r1 =>
 ((aHK N r1.1 r1.2.1 r1.2.2).bind fun r2 =>
 ((aCf N r2.1 r2.2.2).bind fun r3 =>
 (some ((⟨r2.2.1.Snap,r2.2.1.Index,r2.2.1.Many,r3.1⟩:aE),r3.2.1,r3.2.2)))))
def aCg:Con τ:=cn [.ptr 0 []] [.box (.agg [.ptr 1 [],.ty 48]),.box (.ty 186)] (.ty 39) [.box (.agg [.ptr 1 [],.ty 48]),.box (.ty 186)] (fun N a b=>mM N b.1.2.1 b.2.1) fun r=>(r.1,(((),r.2.1,()),r.2.2,()))
theorem aMy:aF E C 154 aCg:=ok0 aCg [(148,aHJ),(121,aHL),(175,aHM)] [] 2 [] [] ⟨aTP,⟨aTQ,⟨aTR,trivial⟩⟩⟩ (fun a b=>(a,b.1.2.1,b.2.1)) Tryz.func154 rfl (by intro N a b; kernel_rfl)
def aHN (N:Nat) (b0:Int) (b1:aC) (b2:aN):Option (Int×aC×aN) :=
 ((eJ N b0 b2).bind fun r1 =>
 ((eJ N r1.2.1 r1.2.2).bind fun r2 =>
 (some (r2.2.1,(⟨b1.Kind,b1.Session,b1.Request,b1.Op,b1.Origin,b1.Seq,b1.Ops,b1.Epoch,b1.From,b1.Vector_,b1.Clock,b1.Part,r1.1,r2.1,b1.Length⟩:aC),r2.2.2))))
def aHO:Con τ:=cn [.ptr 0 [],.ls 1 [.ptr 1 [.fld 12 53],.ptr 1 [.fld 13 54]]] [.box (.agg [.ptr 2 [],.ty 48]),.box (.ty 41),.box (.ty 186)] (.tup []) [.box (.agg [.ptr 2 [],.ty 48]),.box (.ty 41),.box (.ty 186)] (fun N a b=>aHN N b.1.2.1 b.2.1 b.2.2.1) fun r=>((),(((),r.1,()),r.2.1,r.2.2,()))
theorem aTS:aF E C 121 aHO:=ok0 aHO [(146,iW)] [] 3 [] [(1,4)] ⟨kK,trivial⟩ (fun a b=>(b.1.2.1,b.2.1,b.2.2.1)) Tryz.func121 rfl (by intro N a b; kernel_rfl)
def zF (N:Nat) (b0:Int) (b1:aC) (b2:aN):Option (Int×aC×aN) :=
 ((eJ N b0 b2).bind fun r1 =>
 (some (r1.2.1,(⟨b1.Kind,b1.Session,b1.Request,b1.Op,b1.Origin,b1.Seq,b1.Ops,b1.Epoch,b1.From,b1.Vector_,b1.Clock,b1.Part,r1.1,b1.Sponsor,b1.Length⟩:aC),r1.2.2)))
def aHP:Con τ:=cn [.ptr 0 [],.ls 1 [.ptr 1 [.fld 12 53]]] [.box (.agg [.ptr 2 [],.ty 48]),.box (.ty 41),.box (.ty 186)] (.tup []) [.box (.agg [.ptr 2 [],.ty 48]),.box (.ty 41),.box (.ty 186)] (fun N a b=>zF N b.1.2.1 b.2.1 b.2.2.1) fun r=>((),(((),r.1,()),r.2.1,r.2.2,()))
theorem aTT:aF E C 121 aHP:=ok0 aHP [(146,iW)] [] 3 [] [(1,3)] ⟨kK,trivial⟩ (fun a b=>(b.1.2.1,b.2.1,b.2.2.1)) Tryz.func121 rfl (by intro N a b; kernel_rfl)
def aHQ (N:Nat) (b0:Int) (b1:aC) (b2:aN):Option (Int×aC×aN) :=
 ((dV N b0 b2).bind fun r1 =>
 (some (r1.2.1,(⟨b1.Kind,b1.Session,b1.Request,b1.Op,b1.Origin,b1.Seq,b1.Ops,b1.Epoch,b1.From,b1.Vector_,b1.Clock,b1.Part,b1.Site,b1.Sponsor,r1.1⟩:aC),r1.2.2)))
def aHR:Con τ:=cn [.ptr 0 [],.ls 1 [.ptr 1 [.fld 14 55]]] [.box (.agg [.ptr 2 [],.ty 48]),.box (.ty 41),.box (.ty 186)] (.tup []) [.box (.agg [.ptr 2 [],.ty 48]),.box (.ty 41),.box (.ty 186)] (fun N a b=>aHQ N b.1.2.1 b.2.1 b.2.2.1) fun r=>((),(((),r.1,()),r.2.1,r.2.2,()))
theorem aTU:aF E C 148 aHR:=ok0 aHR [(172,eV)] [] 3 [] [(1,3)] ⟨fP,trivial⟩ (fun a b=>(b.1.2.1,b.2.1,b.2.2.1)) Tryz.func148 rfl (by intro N a b; kernel_rfl)
def rZ (N:Nat) (b0:Int) (b1:aN):Option (aC×Int×aN) :=
 ((aHa N b0 (⟨0,0,0,(⟨(⟨0,0⟩:aL),0,0,0,[],[],[]⟩:GOp),0,0,[],(⟨0,(Vector.replicate 8 (default:Int)),(Vector.replicate 8 (default:Int)),(Vector.replicate 8 (default:Int))⟩:aD),0,(Vector.replicate 8 (default:Int)),0,(⟨0,0,0,[]⟩:aE),0,0,0⟩:aC) b1).bind fun r1 =>
 (bif (!(r1.1==0)) then
 (some (r1.2.1,r1.1,r1.2.2))
 else
 (bif (r1.2.1.Kind==0) then
 (some (r1.2.1,r1.1,r1.2.2))
 else
 (bif (r1.2.1.Kind==1) then
 ((aHc N r1.1 r1.2.1 r1.2.2).bind fun r2 =>
 ((zC N r2.1 r2.2.2).bind fun r3 =>
 (some ((⟨r2.2.1.Kind,r2.2.1.Session,r2.2.1.Request,r3.1,r2.2.1.Origin,r2.2.1.Seq,r2.2.1.Ops,r2.2.1.Epoch,r2.2.1.From,r2.2.1.Vector_,r2.2.1.Clock,r2.2.1.Part,r2.2.1.Site,r2.2.1.Sponsor,r2.2.1.Length⟩:aC),r3.2.1,r3.2.2))))
 else
 (bif (r1.2.1.Kind==2) then
 ((aHn N r1.1 r1.2.1 r1.2.2).bind fun r4 =>
 ((zD N r4.1 r4.2.1 r4.2.2).bind fun r5 =>
 ((rX N r5.1 r5.2.2).bind fun r6 =>
 (some ((⟨r5.2.1.Kind,r5.2.1.Session,r5.2.1.Request,r5.2.1.Op,r5.2.1.Origin,r5.2.1.Seq,r6.1,r5.2.1.Epoch,r5.2.1.From,r5.2.1.Vector_,r5.2.1.Clock,r5.2.1.Part,r5.2.1.Site,r5.2.1.Sponsor,r5.2.1.Length⟩:aC),r6.2.1,r6.2.2)))))
 else
 (bif (r1.2.1.Kind==3) then
 ((rY N r1.1 r1.2.2).bind fun r7 =>
 (some ((⟨r1.2.1.Kind,r1.2.1.Session,r1.2.1.Request,r1.2.1.Op,r1.2.1.Origin,r1.2.1.Seq,r1.2.1.Ops,r7.1,r1.2.1.From,r1.2.1.Vector_,r1.2.1.Clock,r1.2.1.Part,r1.2.1.Site,r1.2.1.Sponsor,r1.2.1.Length⟩:aC),r7.2.1,r7.2.2)))
 else
 (bif (r1.2.1.Kind==4) then
 ((zD N r1.1 r1.2.1 r1.2.2).bind fun r8 =>
 ((aHB N r8.1 r8.2.1 r8.2.2).bind fun r9 =>
 ((aCe N r9.1 r9.2.1 r9.2.2).bind fun r10 =>
 ((aHG N r10.1 r10.2.1 r10.2.2).bind fun r11 =>
 (some (r11.2.1,r11.1,r11.2.2))))))
 else
 (bif (r1.2.1.Kind==5) then
 ((mM N r1.1 r1.2.2).bind fun r12 =>
 (some ((⟨r1.2.1.Kind,r1.2.1.Session,r1.2.1.Request,r1.2.1.Op,r1.2.1.Origin,r1.2.1.Seq,r1.2.1.Ops,r1.2.1.Epoch,r1.2.1.From,r1.2.1.Vector_,r1.2.1.Clock,r12.1,r1.2.1.Site,r1.2.1.Sponsor,r1.2.1.Length⟩:aC),r12.2.1,r12.2.2)))
 else
 (bif (r1.2.1.Kind==6) then
 ((aHN N r1.1 r1.2.1 r1.2.2).bind fun r13 =>
 (some (r13.2.1,r13.1,r13.2.2)))
 else
 (bif (r1.2.1.Kind==7) then
 ((zF N r1.1 r1.2.1 r1.2.2).bind fun r14 =>
 (some (r14.2.1,r14.1,r14.2.2)))
 else
 (bif (r1.2.1.Kind==8) then
 ((zF N r1.1 r1.2.1 r1.2.2).bind fun r15 =>
 ((aHQ N r15.1 r15.2.1 r15.2.2).bind fun r16 =>
 (some (r16.2.1,r16.1,r16.2.2))))
 else
 (some (r1.2.1,40,r1.2.2)))))))))))))
def aCh:Con τ:=cn [.ptr 0 []] [.box (.agg [.ptr 1 [],.ty 48]),.box (.ty 186)] (.ty 41) [.box (.agg [.ptr 1 [],.ty 48]),.box (.ty 186)] (fun N a b=>rZ N b.1.2.1 b.2.1) fun r=>(r.1,(((),r.2.1,()),r.2.2,()))
theorem aMz:aF E C 150 aCh:=ok0 aCh [(121,aHb),(148,aHd),(174,aCa),(121,aHo),(148,aHp),(152,aCb),(153,aCd),(121,aHC),(151,aHF),(148,aHH),(154,aCg),(121,aHO),(121,aHP),(148,aHR)] [] 2 [] [] ⟨aTh,⟨aTi,⟨aMv,⟨aTo,⟨aTp,⟨aMw,⟨aMx,⟨aTI,⟨aTN,⟨aTO,⟨aMy,⟨aTS,⟨aTT,⟨aTU,trivial⟩⟩⟩⟩⟩⟩⟩⟩⟩⟩⟩⟩⟩⟩ (fun a b=>(a,b.1.2.1,b.2.1)) Tryz.func150 rfl (by intro N a b; kernel_rfl)
structure vI where
 l:List (aQ)
 t7:Int
 b0:Int
 b1:aN
def aHS:List Sl:=[.k,.k,.j,.sh (.own 155 2),.j,.k,.k,.sh (.ty 2),.j,.j,.j,.j,.j,.j,.j,.j,.j,.j,.j,.j,.j,.j,.j,.j,.j,.j,.j,.j,.j,.k]
def aHT:List ESh:=[.box (.agg [.ptr 1 [],.ty 2]),.box (.ty 165),.tail]
def aTV (a:Sl.Ts τ aHS) (b:ESh.Ts τ aHT):vI:=⟨a.2.2.2.1,a.2.2.2.2.2.2.2.1,b.1.2.1,b.2.1⟩
def aTW (s:vI):Sl.Ts τ aHS:=((),(),(),s.l,(),(),(),s.t7,(),(),(),(),(),(),(),(),(),(),(),(),(),(),(),(),(),(),(),(),(),(),())
def aTX (s:vI):ESh.Ts τ aHT:=(((),s.b0,()),s.b1,(),())
def aTY:Lp τ:={ ts:=aHS,hs:=aHT,S:=vI,to:=aTV,ot:=aTW,oh:=aTX,hk:=[2,2],tk:=[2,0,0,0,0,2],ot_to:=fun _ _=>rfl,oh_to:=fun _ _=>rfl }
def kL (N:Nat) (b0:Int) (b1:aN):Option ((List (aQ))×Int×aN) :=
 ((zA N b0 b1).bind fun r1 =>
 (bE N (fun (s2:vI) next3 =>
 (bif (decide (s2.t7 < r1.1)) then
 (bif (!(s2.b0==0)) then
 (some ([],s2.b0,s2.b1))
 else
 ((aG8 N s2.b0 (⟨0,(⟨0,0⟩:aP),(⟨0,0,0,(⟨(⟨0,0⟩:aL),0,0,0,[],[],[]⟩:GOp),0,0,[],(⟨0,(Vector.replicate 8 (default:Int)),(Vector.replicate 8 (default:Int)),(Vector.replicate 8 (default:Int))⟩:aD),0,(Vector.replicate 8 (default:Int)),0,(⟨0,0,0,[]⟩:aE),0,0,0⟩:aC)⟩:aQ) s2.b1).bind fun r4 =>
 ((gR N r4.1 r4.2.2).bind fun r5 =>
 ((rZ N r5.2.1 r5.2.2).bind fun r6 =>
 (bif (aO ((s2.l).length+([(⟨r4.2.1.Slot,r5.1,r6.1⟩:aQ)]).length) 528) then
 (next3 ⟨(s2.l++[(⟨r4.2.1.Slot,r5.1,r6.1⟩:aQ)]),(IntKind.i64.wrap (s2.t7+1)),r6.2.1,r6.2.2⟩)
 else none)))))
 else
 (some (s2.l,s2.b0,s2.b1)))) ⟨[],0,r1.2.1,r1.2.2⟩))
def aHU:Con τ:=cn [.ptr 0 []] [.box (.agg [.ptr 1 [],.ty 48]),.box (.ty 186)] (.ty 26) [.box (.agg [.ptr 1 [],.ty 48]),.box (.ty 186)] (fun N a b=>kL N b.1.2.1 b.2.1) fun r=>(r.1,(((),r.2.1,()),r.2.2,()))
theorem aTZ:aF E C 149 aHU:=ok0 aHU [(173,aB8),(148,aG9),(147,aB7),(150,aCh)] [(3,aTY)] 2 [] [] ⟨aMt,⟨aTg,⟨aMs,⟨aMz,trivial⟩⟩⟩⟩ (fun a b=>(a,b.1.2.1,b.2.1)) Tryz.func149 rfl (by intro N a b; kernel_rfl)
def jO (N:Nat) (b0:Int) (b1:aB) (b2:aN):Option (Int×aB×aN) :=
 ((dV N b0 b2).bind fun r1 =>
 (some (r1.2.1,(⟨b1.Kind,b1.From,b1.To,b1.Ballot,b1.Slot,b1.List_,b1.Entry,r1.1,b1.Vector_,b1.Clock,b1.Origin,b1.Ops,b1.Epoch,b1.Part⟩:aB),r1.2.2)))
def aHV:Con τ:=cn [.ptr 0 [],.ls 1 [.ptr 1 [.fld 7 65]]] [.box (.agg [.ptr 2 [],.ty 48]),.box (.ty 43),.box (.ty 186)] (.tup []) [.box (.agg [.ptr 2 [],.ty 48]),.box (.ty 43),.box (.ty 186)] (fun N a b=>jO N b.1.2.1 b.2.1 b.2.2.1) fun r=>((),(((),r.1,()),r.2.1,r.2.2,()))
theorem aT0:aF E C 148 aHV:=ok0 aHV [(172,eV)] [] 3 [] [(1,3)] ⟨fP,trivial⟩ (fun a b=>(b.1.2.1,b.2.1,b.2.2.1)) Tryz.func148 rfl (by intro N a b; kernel_rfl)
structure pP where
 t5:Int
 b0:Int
 b1:aB
 b2:aN
def aHW:List Sl:=[.k,.k,.k,.k,.j,.sh (.ty 2),.j,.j,.j,.j,.j,.j,.j,.j,.j]
def aHX:List ESh:=[.box (.agg [.ptr 2 [],.ty 2]),.box (.ty 42),.box (.ty 165)]
def aT1 (a:Sl.Ts τ aHW) (b:ESh.Ts τ aHX):pP:=⟨a.2.2.2.2.2.1,b.1.2.1,b.2.1,b.2.2.1⟩
def aT2 (s:pP):Sl.Ts τ aHW:=((),(),(),(),(),s.t5,(),(),(),(),(),(),(),(),(),())
def aT3 (s:pP):ESh.Ts τ aHX:=(((),s.b0,()),s.b1,s.b2,())
def aT4:Lp τ:={ ts:=aHW,hs:=aHX,S:=pP,to:=aT1,ot:=aT2,oh:=aT3,hk:=[2,2,2],tk:=[2,3],ot_to:=fun _ _=>rfl,oh_to:=fun _ _=>rfl }
def nR (N:Nat) (b0:Int) (b1:aB) (b2:aN):Option (Int×aB×aN) :=
 (bE N (fun (s1:pP) next2 =>
 (bif (decide (s1.t5 < 8)) then
 ((dV N s1.b0 s1.b2).bind fun r3 =>
 (bif (ibB s1.t5 8) then
 (next2 ⟨(IntKind.i64.wrap (s1.t5+1)),r3.2.1,(⟨s1.b1.Kind,s1.b1.From,s1.b1.To,s1.b1.Ballot,s1.b1.Slot,s1.b1.List_,s1.b1.Entry,s1.b1.Number,(iG s1.b1.Vector_ ((s1.t5).toNat) r3.1),s1.b1.Clock,s1.b1.Origin,s1.b1.Ops,s1.b1.Epoch,s1.b1.Part⟩:aB),r3.2.2⟩)
 else none))
 else
 (some (s1.b0,s1.b1,s1.b2)))) ⟨0,b0,b1,b2⟩)
def aHY:Con τ:=cn [.ptr 0 [],.ptr 1 [.fld 8 66]] [.box (.agg [.ptr 2 [],.ty 48]),.box (.ty 43),.box (.ty 186)] (.tup []) [.box (.agg [.ptr 2 [],.ty 48]),.box (.ty 43),.box (.ty 186)] (fun N a b=>nR N b.1.2.1 b.2.1 b.2.2.1) fun r=>((),(((),r.1,()),r.2.1,r.2.2,()))
theorem aT5:aF E C 151 aHY:=ok0 aHY [(172,eV)] [(1,aT4)] 3 [] [] ⟨fP,trivial⟩ (fun a b=>(b.1.2.1,b.2.1,b.2.2.1)) Tryz.func151 rfl (by intro N a b; kernel_rfl)
def zG (N:Nat) (b0:Int) (b1:aB) (b2:aN):Option (Int×aB×aN) :=
 ((dV N b0 b2).bind fun r1 =>
 (some (r1.2.1,(⟨b1.Kind,b1.From,b1.To,b1.Ballot,b1.Slot,b1.List_,b1.Entry,b1.Number,b1.Vector_,r1.1,b1.Origin,b1.Ops,b1.Epoch,b1.Part⟩:aB),r1.2.2)))
def aHZ:Con τ:=cn [.ptr 0 [],.ls 1 [.ptr 1 [.fld 9 74]]] [.box (.agg [.ptr 2 [],.ty 48]),.box (.ty 43),.box (.ty 186)] (.tup []) [.box (.agg [.ptr 2 [],.ty 48]),.box (.ty 43),.box (.ty 186)] (fun N a b=>zG N b.1.2.1 b.2.1 b.2.2.1) fun r=>((),(((),r.1,()),r.2.1,r.2.2,()))
theorem aT6:aF E C 148 aHZ:=ok0 aHZ [(172,eV)] [] 3 [] [(1,3)] ⟨fP,trivial⟩ (fun a b=>(b.1.2.1,b.2.1,b.2.2.1)) Tryz.func148 rfl (by intro N a b; kernel_rfl)
def zH (N:Nat) (b0:Int) (b1:aB) (b2:aN):Option (Int×aB×aN) :=
 ((eJ N b0 b2).bind fun r1 =>
 (some (r1.2.1,(⟨b1.Kind,b1.From,b1.To,b1.Ballot,b1.Slot,b1.List_,b1.Entry,b1.Number,b1.Vector_,b1.Clock,r1.1,b1.Ops,b1.Epoch,b1.Part⟩:aB),r1.2.2)))
def aH0:Con τ:=cn [.ptr 0 [],.ls 1 [.ptr 1 [.fld 10 75]]] [.box (.agg [.ptr 2 [],.ty 48]),.box (.ty 43),.box (.ty 186)] (.tup []) [.box (.agg [.ptr 2 [],.ty 48]),.box (.ty 43),.box (.ty 186)] (fun N a b=>zH N b.1.2.1 b.2.1 b.2.2.1) fun r=>((),(((),r.1,()),r.2.1,r.2.2,()))
theorem aT7:aF E C 121 aH0:=ok0 aH0 [(146,iW)] [] 3 [] [(1,3)] ⟨kK,trivial⟩ (fun a b=>(b.1.2.1,b.2.1,b.2.2.1)) Tryz.func121 rfl (by intro N a b; kernel_rfl)
def zI (N:Nat) (b0:Int) (b1:aB) (b2:aN):Option (Int×aB×aN) :=
 (bif (b1.Kind==1) then
 (bif (b1.Kind==1) then
 ((gR N b0 b2).bind fun r1 =>
 ((eE N r1.2.1 (⟨b1.Kind,b1.From,b1.To,r1.1,b1.Slot,b1.List_,b1.Entry,b1.Number,b1.Vector_,b1.Clock,b1.Origin,b1.Ops,b1.Epoch,b1.Part⟩:aB) r1.2.2).bind fun r2 =>
 (some (r2.1,r2.2.1,r2.2.2))))
 else
 (bif (b1.Kind==2) then
 ((gR N b0 b2).bind fun r3 =>
 ((eE N r3.2.1 (⟨b1.Kind,b1.From,b1.To,r3.1,b1.Slot,b1.List_,b1.Entry,b1.Number,b1.Vector_,b1.Clock,b1.Origin,b1.Ops,b1.Epoch,b1.Part⟩:aB) r3.2.2).bind fun r4 =>
 ((kL N r4.1 r4.2.2).bind fun r5 =>
 (some (r5.2.1,(⟨r4.2.1.Kind,r4.2.1.From,r4.2.1.To,r4.2.1.Ballot,r4.2.1.Slot,r5.1,r4.2.1.Entry,r4.2.1.Number,r4.2.1.Vector_,r4.2.1.Clock,r4.2.1.Origin,r4.2.1.Ops,r4.2.1.Epoch,r4.2.1.Part⟩:aB),r5.2.2)))))
 else
 (bif (b1.Kind==3) then
 ((gR N b0 b2).bind fun r6 =>
 ((kL N r6.2.1 r6.2.2).bind fun r7 =>
 (some (r7.2.1,(⟨b1.Kind,b1.From,b1.To,r6.1,b1.Slot,r7.1,b1.Entry,b1.Number,b1.Vector_,b1.Clock,b1.Origin,b1.Ops,b1.Epoch,b1.Part⟩:aB),r7.2.2))))
 else
 (bif (b1.Kind==5) then
 ((gR N b0 b2).bind fun r8 =>
 (some (r8.2.1,(⟨b1.Kind,b1.From,b1.To,r8.1,b1.Slot,b1.List_,b1.Entry,b1.Number,b1.Vector_,b1.Clock,b1.Origin,b1.Ops,b1.Epoch,b1.Part⟩:aB),r8.2.2)))
 else
 (bif (b1.Kind==6) then
 ((kL N b0 b2).bind fun r9 =>
 (some (r9.2.1,(⟨b1.Kind,b1.From,b1.To,b1.Ballot,b1.Slot,r9.1,b1.Entry,b1.Number,b1.Vector_,b1.Clock,b1.Origin,b1.Ops,b1.Epoch,b1.Part⟩:aB),r9.2.2)))
 else
 (bif (b1.Kind==8) then
 ((eE N b0 b1 b2).bind fun r10 =>
 (some (r10.1,r10.2.1,r10.2.2)))
 else
 (bif (b1.Kind==9) then
 ((rZ N b0 b2).bind fun r11 =>
 (some (r11.2.1,(⟨b1.Kind,b1.From,b1.To,b1.Ballot,b1.Slot,b1.List_,r11.1,b1.Number,b1.Vector_,b1.Clock,b1.Origin,b1.Ops,b1.Epoch,b1.Part⟩:aB),r11.2.2)))
 else
 (bif (b1.Kind==10) then
 ((jO N b0 b1 b2).bind fun r12 =>
 ((nR N r12.1 r12.2.1 r12.2.2).bind fun r13 =>
 ((zG N r13.1 r13.2.1 r13.2.2).bind fun r14 =>
 (some (r14.1,r14.2.1,r14.2.2)))))
 else
 (bif (b1.Kind==11) then
 ((jO N b0 b1 b2).bind fun r15 =>
 ((zH N r15.1 r15.2.1 r15.2.2).bind fun r16 =>
 ((eE N r16.1 r16.2.1 r16.2.2).bind fun r17 =>
 ((rX N r17.1 r17.2.2).bind fun r18 =>
 (some (r18.2.1,(⟨r17.2.1.Kind,r17.2.1.From,r17.2.1.To,r17.2.1.Ballot,r17.2.1.Slot,r17.2.1.List_,r17.2.1.Entry,r17.2.1.Number,r17.2.1.Vector_,r17.2.1.Clock,r17.2.1.Origin,r18.1,r17.2.1.Epoch,r17.2.1.Part⟩:aB),r18.2.2))))))
 else
 (bif (b1.Kind==12) then
 ((rY N b0 b2).bind fun r19 =>
 (some (r19.2.1,(⟨b1.Kind,b1.From,b1.To,b1.Ballot,b1.Slot,b1.List_,b1.Entry,b1.Number,b1.Vector_,b1.Clock,b1.Origin,b1.Ops,r19.1,b1.Part⟩:aB),r19.2.2)))
 else
 (bif (b1.Kind==13) then
 ((mM N b0 b2).bind fun r20 =>
 (some (r20.2.1,(⟨b1.Kind,b1.From,b1.To,b1.Ballot,b1.Slot,b1.List_,b1.Entry,b1.Number,b1.Vector_,b1.Clock,b1.Origin,b1.Ops,b1.Epoch,r20.1⟩:aB),r20.2.2)))
 else
 (bif (b1.Kind==14) then
 ((jO N b0 b1 b2).bind fun r21 =>
 ((nR N r21.1 r21.2.1 r21.2.2).bind fun r22 =>
 (some (r22.1,r22.2.1,r22.2.2))))
 else
 (bif (b1.Kind==15) then
 ((eE N b0 b1 b2).bind fun r23 =>
 ((mM N r23.1 r23.2.2).bind fun r24 =>
 (some (r24.2.1,(⟨r23.2.1.Kind,r23.2.1.From,r23.2.1.To,r23.2.1.Ballot,r23.2.1.Slot,r23.2.1.List_,r23.2.1.Entry,r23.2.1.Number,r23.2.1.Vector_,r23.2.1.Clock,r23.2.1.Origin,r23.2.1.Ops,r23.2.1.Epoch,r24.1⟩:aB),r24.2.2))))
 else
 (some (b0,b1,b2)))))))))))))))
 else
 (bif (b1.Kind==4) then
 (bif (b1.Kind==4) then
 ((gR N b0 b2).bind fun r25 =>
 ((eE N r25.2.1 (⟨b1.Kind,b1.From,b1.To,r25.1,b1.Slot,b1.List_,b1.Entry,b1.Number,b1.Vector_,b1.Clock,b1.Origin,b1.Ops,b1.Epoch,b1.Part⟩:aB) r25.2.2).bind fun r26 =>
 (some (r26.1,r26.2.1,r26.2.2))))
 else
 (bif (b1.Kind==2) then
 ((gR N b0 b2).bind fun r27 =>
 ((eE N r27.2.1 (⟨b1.Kind,b1.From,b1.To,r27.1,b1.Slot,b1.List_,b1.Entry,b1.Number,b1.Vector_,b1.Clock,b1.Origin,b1.Ops,b1.Epoch,b1.Part⟩:aB) r27.2.2).bind fun r28 =>
 ((kL N r28.1 r28.2.2).bind fun r29 =>
 (some (r29.2.1,(⟨r28.2.1.Kind,r28.2.1.From,r28.2.1.To,r28.2.1.Ballot,r28.2.1.Slot,r29.1,r28.2.1.Entry,r28.2.1.Number,r28.2.1.Vector_,r28.2.1.Clock,r28.2.1.Origin,r28.2.1.Ops,r28.2.1.Epoch,r28.2.1.Part⟩:aB),r29.2.2)))))
 else
 (bif (b1.Kind==3) then
 ((gR N b0 b2).bind fun r30 =>
 ((kL N r30.2.1 r30.2.2).bind fun r31 =>
 (some (r31.2.1,(⟨b1.Kind,b1.From,b1.To,r30.1,b1.Slot,r31.1,b1.Entry,b1.Number,b1.Vector_,b1.Clock,b1.Origin,b1.Ops,b1.Epoch,b1.Part⟩:aB),r31.2.2))))
 else
 (bif (b1.Kind==5) then
 ((gR N b0 b2).bind fun r32 =>
 (some (r32.2.1,(⟨b1.Kind,b1.From,b1.To,r32.1,b1.Slot,b1.List_,b1.Entry,b1.Number,b1.Vector_,b1.Clock,b1.Origin,b1.Ops,b1.Epoch,b1.Part⟩:aB),r32.2.2)))
 else
 (bif (b1.Kind==6) then
 ((kL N b0 b2).bind fun r33 =>
 (some (r33.2.1,(⟨b1.Kind,b1.From,b1.To,b1.Ballot,b1.Slot,r33.1,b1.Entry,b1.Number,b1.Vector_,b1.Clock,b1.Origin,b1.Ops,b1.Epoch,b1.Part⟩:aB),r33.2.2)))
 else
 (bif (b1.Kind==8) then
 ((eE N b0 b1 b2).bind fun r34 =>
 (some (r34.1,r34.2.1,r34.2.2)))
 else
 (bif (b1.Kind==9) then
 ((rZ N b0 b2).bind fun r35 =>
 (some (r35.2.1,(⟨b1.Kind,b1.From,b1.To,b1.Ballot,b1.Slot,b1.List_,r35.1,b1.Number,b1.Vector_,b1.Clock,b1.Origin,b1.Ops,b1.Epoch,b1.Part⟩:aB),r35.2.2)))
 else
 (bif (b1.Kind==10) then
 ((jO N b0 b1 b2).bind fun r36 =>
 ((nR N r36.1 r36.2.1 r36.2.2).bind fun r37 =>
 ((zG N r37.1 r37.2.1 r37.2.2).bind fun r38 =>
 (some (r38.1,r38.2.1,r38.2.2)))))
 else
 (bif (b1.Kind==11) then
 ((jO N b0 b1 b2).bind fun r39 =>
 ((zH N r39.1 r39.2.1 r39.2.2).bind fun r40 =>
 ((eE N r40.1 r40.2.1 r40.2.2).bind fun r41 =>
 ((rX N r41.1 r41.2.2).bind fun r42 =>
 (some (r42.2.1,(⟨r41.2.1.Kind,r41.2.1.From,r41.2.1.To,r41.2.1.Ballot,r41.2.1.Slot,r41.2.1.List_,r41.2.1.Entry,r41.2.1.Number,r41.2.1.Vector_,r41.2.1.Clock,r41.2.1.Origin,r42.1,r41.2.1.Epoch,r41.2.1.Part⟩:aB),r42.2.2))))))
 else
 (bif (b1.Kind==12) then
 ((rY N b0 b2).bind fun r43 =>
 (some (r43.2.1,(⟨b1.Kind,b1.From,b1.To,b1.Ballot,b1.Slot,b1.List_,b1.Entry,b1.Number,b1.Vector_,b1.Clock,b1.Origin,b1.Ops,r43.1,b1.Part⟩:aB),r43.2.2)))
 else
 (bif (b1.Kind==13) then
 ((mM N b0 b2).bind fun r44 =>
 (some (r44.2.1,(⟨b1.Kind,b1.From,b1.To,b1.Ballot,b1.Slot,b1.List_,b1.Entry,b1.Number,b1.Vector_,b1.Clock,b1.Origin,b1.Ops,b1.Epoch,r44.1⟩:aB),r44.2.2)))
 else
 (bif (b1.Kind==14) then
 ((jO N b0 b1 b2).bind fun r45 =>
 ((nR N r45.1 r45.2.1 r45.2.2).bind fun r46 =>
 (some (r46.1,r46.2.1,r46.2.2))))
 else
 (bif (b1.Kind==15) then
 ((eE N b0 b1 b2).bind fun r47 =>
 ((mM N r47.1 r47.2.2).bind fun r48 =>
 (some (r48.2.1,(⟨r47.2.1.Kind,r47.2.1.From,r47.2.1.To,r47.2.1.Ballot,r47.2.1.Slot,r47.2.1.List_,r47.2.1.Entry,r47.2.1.Number,r47.2.1.Vector_,r47.2.1.Clock,r47.2.1.Origin,r47.2.1.Ops,r47.2.1.Epoch,r48.1⟩:aB),r48.2.2))))
 else
 (some (b0,b1,b2)))))))))))))))
 else
 (bif (b1.Kind==7) then
 ((gR N b0 b2).bind fun r49 =>
 ((eE N r49.2.1 (⟨b1.Kind,b1.From,b1.To,r49.1,b1.Slot,b1.List_,b1.Entry,b1.Number,b1.Vector_,b1.Clock,b1.Origin,b1.Ops,b1.Epoch,b1.Part⟩:aB) r49.2.2).bind fun r50 =>
 (some (r50.1,r50.2.1,r50.2.2))))
 else
 (bif (b1.Kind==2) then
 ((gR N b0 b2).bind fun r51 =>
 ((eE N r51.2.1 (⟨b1.Kind,b1.From,b1.To,r51.1,b1.Slot,b1.List_,b1.Entry,b1.Number,b1.Vector_,b1.Clock,b1.Origin,b1.Ops,b1.Epoch,b1.Part⟩:aB) r51.2.2).bind fun r52 =>
 ((kL N r52.1 r52.2.2).bind fun r53 =>
 (some (r53.2.1,(⟨r52.2.1.Kind,r52.2.1.From,r52.2.1.To,r52.2.1.Ballot,r52.2.1.Slot,r53.1,r52.2.1.Entry,r52.2.1.Number,r52.2.1.Vector_,r52.2.1.Clock,r52.2.1.Origin,r52.2.1.Ops,r52.2.1.Epoch,r52.2.1.Part⟩:aB),r53.2.2)))))
 else
 (bif (b1.Kind==3) then
 ((gR N b0 b2).bind fun r54 =>
 ((kL N r54.2.1 r54.2.2).bind fun r55 =>
 (some (r55.2.1,(⟨b1.Kind,b1.From,b1.To,r54.1,b1.Slot,r55.1,b1.Entry,b1.Number,b1.Vector_,b1.Clock,b1.Origin,b1.Ops,b1.Epoch,b1.Part⟩:aB),r55.2.2))))
 else
 (bif (b1.Kind==5) then
 ((gR N b0 b2).bind fun r56 =>
 (some (r56.2.1,(⟨b1.Kind,b1.From,b1.To,r56.1,b1.Slot,b1.List_,b1.Entry,b1.Number,b1.Vector_,b1.Clock,b1.Origin,b1.Ops,b1.Epoch,b1.Part⟩:aB),r56.2.2)))
 else
 (bif (b1.Kind==6) then
 ((kL N b0 b2).bind fun r57 =>
 (some (r57.2.1,(⟨b1.Kind,b1.From,b1.To,b1.Ballot,b1.Slot,r57.1,b1.Entry,b1.Number,b1.Vector_,b1.Clock,b1.Origin,b1.Ops,b1.Epoch,b1.Part⟩:aB),r57.2.2)))
 else
 (bif (b1.Kind==8) then
 ((eE N b0 b1 b2).bind fun r58 =>
 (some (r58.1,r58.2.1,r58.2.2)))
 else
 (bif (b1.Kind==9) then
 ((rZ N b0 b2).bind fun r59 =>
 (some (r59.2.1,(⟨b1.Kind,b1.From,b1.To,b1.Ballot,b1.Slot,b1.List_,r59.1,b1.Number,b1.Vector_,b1.Clock,b1.Origin,b1.Ops,b1.Epoch,b1.Part⟩:aB),r59.2.2)))
 else
 (bif (b1.Kind==10) then
 ((jO N b0 b1 b2).bind fun r60 =>
 ((nR N r60.1 r60.2.1 r60.2.2).bind fun r61 =>
 ((zG N r61.1 r61.2.1 r61.2.2).bind fun r62 =>
 (some (r62.1,r62.2.1,r62.2.2)))))
 else
 (bif (b1.Kind==11) then
 ((jO N b0 b1 b2).bind fun r63 =>
 ((zH N r63.1 r63.2.1 r63.2.2).bind fun r64 =>
 ((eE N r64.1 r64.2.1 r64.2.2).bind fun r65 =>
 ((rX N r65.1 r65.2.2).bind fun r66 =>
 (some (r66.2.1,(⟨r65.2.1.Kind,r65.2.1.From,r65.2.1.To,r65.2.1.Ballot,r65.2.1.Slot,r65.2.1.List_,r65.2.1.Entry,r65.2.1.Number,r65.2.1.Vector_,r65.2.1.Clock,r65.2.1.Origin,r66.1,r65.2.1.Epoch,r65.2.1.Part⟩:aB),r66.2.2))))))
 else
 (bif (b1.Kind==12) then
 ((rY N b0 b2).bind fun r67 =>
 (some (r67.2.1,(⟨b1.Kind,b1.From,b1.To,b1.Ballot,b1.Slot,b1.List_,b1.Entry,b1.Number,b1.Vector_,b1.Clock,b1.Origin,b1.Ops,r67.1,b1.Part⟩:aB),r67.2.2)))
 else
 (bif (b1.Kind==13) then
 ((mM N b0 b2).bind fun r68 =>
 (some (r68.2.1,(⟨b1.Kind,b1.From,b1.To,b1.Ballot,b1.Slot,b1.List_,b1.Entry,b1.Number,b1.Vector_,b1.Clock,b1.Origin,b1.Ops,b1.Epoch,r68.1⟩:aB),r68.2.2)))
 else
 (bif (b1.Kind==14) then
 ((jO N b0 b1 b2).bind fun r69 =>
 ((nR N r69.1 r69.2.1 r69.2.2).bind fun r70 =>
 (some (r70.1,r70.2.1,r70.2.2))))
 else
 (bif (b1.Kind==15) then
 ((eE N b0 b1 b2).bind fun r71 =>
 ((mM N r71.1 r71.2.2).bind fun r72 =>
 (some (r72.2.1,(⟨r71.2.1.Kind,r71.2.1.From,r71.2.1.To,r71.2.1.Ballot,r71.2.1.Slot,r71.2.1.List_,r71.2.1.Entry,r71.2.1.Number,r71.2.1.Vector_,r71.2.1.Clock,r71.2.1.Origin,r71.2.1.Ops,r71.2.1.Epoch,r72.1⟩:aB),r72.2.2))))
 else
 (some (b0,b1,b2)))))))))))))))))
def aH1:Con τ:=cn [.ptr 0 [],.ptr 1 []] [.box (.agg [.ptr 2 [],.ty 48]),.box (.ty 43),.box (.ty 186)] (.tup []) [.box (.agg [.ptr 2 [],.ty 48]),.box (.ty 43),.box (.ty 186)] (fun N a b=>zI N b.1.2.1 b.2.1 b.2.2.1) fun r=>((),(((),r.1,()),r.2.1,r.2.2,()))
theorem aT8:aF E C 122 aH1:=ok0 aH1 [(147,aB7),(148,aG7),(149,aHU),(150,aCh),(148,aHV),(151,aHY),(148,aHZ),(121,aH0),(152,aCb),(153,aCd),(154,aCg)] [] 3 [] [] ⟨aMs,⟨aTf,⟨aTZ,⟨aMz,⟨aT0,⟨aT5,⟨aT6,⟨aT7,⟨aMw,⟨aMx,⟨aMy,trivial⟩⟩⟩⟩⟩⟩⟩⟩⟩⟩⟩ (fun a b=>(b.1.2.1,b.2.1,b.2.2.1)) Tryz.func122 rfl (by intro N a b; kernel_rfl)
def aCi (N:Nat) (b0:Int) (b1:aN):Option (aB×Int×aN) :=
 ((aG0 N b0 (⟨0,(⟨0,0⟩:aS),(⟨0,0⟩:aS),(⟨0,0⟩:aP),0,[],(⟨0,0,0,(⟨(⟨0,0⟩:aL),0,0,0,[],[],[]⟩:GOp),0,0,[],(⟨0,(Vector.replicate 8 (default:Int)),(Vector.replicate 8 (default:Int)),(Vector.replicate 8 (default:Int))⟩:aD),0,(Vector.replicate 8 (default:Int)),0,(⟨0,0,0,[]⟩:aE),0,0,0⟩:aC),0,(Vector.replicate 8 (default:Int)),0,0,[],(⟨0,(Vector.replicate 8 (default:Int)),(Vector.replicate 8 (default:Int)),(Vector.replicate 8 (default:Int))⟩:aD),(⟨0,0,0,[]⟩:aE)⟩:aB) b1).bind fun r1 =>
 (bif ((r1.1==0)&&((decide (r1.2.1.Kind < 1)) || (decide (15 < r1.2.1.Kind)))) then
 ((rW N 40 r1.2.1 r1.2.2).bind fun r2 =>
 ((zI N r2.1 r2.2.1 r2.2.2).bind fun r3 =>
 (some (r3.2.1,r3.1,r3.2.2))))
 else
 ((rW N r1.1 r1.2.1 r1.2.2).bind fun r4 =>
 ((zI N r4.1 r4.2.1 r4.2.2).bind fun r5 =>
 (some (r5.2.1,r5.1,r5.2.2))))))
def aH2:Con τ:=cn [.ptr 0 []] [.box (.agg [.ptr 1 [],.ty 48]),.box (.ty 186)] (.ty 43) [.box (.agg [.ptr 1 [],.ty 48]),.box (.ty 186)] (fun N a b=>aCi N b.1.2.1 b.2.1) fun r=>(r.1,(((),r.2.1,()),r.2.2,()))
theorem aT9:aF E C 79 aH2:=ok0 aH2 [(121,aG1),(121,aG2),(122,aH1)] [] 2 [] [] ⟨aTb,⟨aTc,⟨aT8,trivial⟩⟩⟩ (fun a b=>(a,b.1.2.1,b.2.1)) Tryz.func79 rfl (by intro N a b; kernel_rfl)
def aCj (N:Nat) (b0:aN):Option (Int×aN) :=
 ((rV N b0).bind fun r1 =>
 (bif r1.1 then
 (some (2,r1.2))
 else
 (bif (decide (0 < ((r1.2.b).length:Int))) then
 (some (13,r1.2))
 else
 (some (0,r1.2)))))
def aH3:Con τ:=cn [.ptr 0 []] [.box (.ty 186)] (.ty 48) [.box (.ty 186)] (fun N a b=>aCj N b.1) fun r=>(r.1,(r.2,()))
theorem aUa:aF E C 81 aH3:=ok0 aH3 [(123,yZ)] [] 1 [] [] ⟨aGY,trivial⟩ (fun a b=>(a,b.1)) Tryz.func81 rfl (by intro N a b; kernel_rfl)
def aCk (N:Nat) (b:List (Int)):Option (aB×Int) :=
 ((aB3 N b).bind fun r1 =>
 (bif (!(r1.2.2==0)) then
 (some ((⟨0,(⟨0,0⟩:aS),(⟨0,0⟩:aS),(⟨0,0⟩:aP),0,[],(⟨0,0,0,(⟨(⟨0,0⟩:aL),0,0,0,[],[],[]⟩:GOp),0,0,[],(⟨0,(Vector.replicate 8 (default:Int)),(Vector.replicate 8 (default:Int)),(Vector.replicate 8 (default:Int))⟩:aD),0,(Vector.replicate 8 (default:Int)),0,(⟨0,0,0,[]⟩:aE),0,0,0⟩:aC),0,(Vector.replicate 8 (default:Int)),0,0,[],(⟨0,(Vector.replicate 8 (default:Int)),(Vector.replicate 8 (default:Int)),(Vector.replicate 8 (default:Int))⟩:aD),(⟨0,0,0,[]⟩:aE)⟩:aB),r1.2.2))
 else
 (bif (decide (r1.2.1 < ((b).length:Int))) then
 (some ((⟨0,(⟨0,0⟩:aS),(⟨0,0⟩:aS),(⟨0,0⟩:aP),0,[],(⟨0,0,0,(⟨(⟨0,0⟩:aL),0,0,0,[],[],[]⟩:GOp),0,0,[],(⟨0,(Vector.replicate 8 (default:Int)),(Vector.replicate 8 (default:Int)),(Vector.replicate 8 (default:Int))⟩:aD),0,(Vector.replicate 8 (default:Int)),0,(⟨0,0,0,[]⟩:aE),0,0,0⟩:aC),0,(Vector.replicate 8 (default:Int)),0,0,[],(⟨0,(Vector.replicate 8 (default:Int)),(Vector.replicate 8 (default:Int)),(Vector.replicate 8 (default:Int))⟩:aD),(⟨0,0,0,[]⟩:aE)⟩:aB),13))
 else
 ((aB4 N r1.1).bind fun r2 =>
 ((aCi N 0 r2).bind fun r3 =>
 ((aCj N r3.2.2).bind fun r4 =>
 ((mL N r4.1 r3.2.1 r4.2).bind fun r5 =>
 (bif (r5.1==0) then
 ((yM N r3.1).bind fun r6 =>
 (bif (!(r6==0)) then
 (some ((⟨0,(⟨0,0⟩:aS),(⟨0,0⟩:aS),(⟨0,0⟩:aP),0,[],(⟨0,0,0,(⟨(⟨0,0⟩:aL),0,0,0,[],[],[]⟩:GOp),0,0,[],(⟨0,(Vector.replicate 8 (default:Int)),(Vector.replicate 8 (default:Int)),(Vector.replicate 8 (default:Int))⟩:aD),0,(Vector.replicate 8 (default:Int)),0,(⟨0,0,0,[]⟩:aE),0,0,0⟩:aC),0,(Vector.replicate 8 (default:Int)),0,0,[],(⟨0,(Vector.replicate 8 (default:Int)),(Vector.replicate 8 (default:Int)),(Vector.replicate 8 (default:Int))⟩:aD),(⟨0,0,0,[]⟩:aE)⟩:aB),r6))
 else
 (some (r3.1,0))))
 else
 (bif (!(r5.1==0)) then
 (some ((⟨0,(⟨0,0⟩:aS),(⟨0,0⟩:aS),(⟨0,0⟩:aP),0,[],(⟨0,0,0,(⟨(⟨0,0⟩:aL),0,0,0,[],[],[]⟩:GOp),0,0,[],(⟨0,(Vector.replicate 8 (default:Int)),(Vector.replicate 8 (default:Int)),(Vector.replicate 8 (default:Int))⟩:aD),0,(Vector.replicate 8 (default:Int)),0,(⟨0,0,0,[]⟩:aE),0,0,0⟩:aC),0,(Vector.replicate 8 (default:Int)),0,0,[],(⟨0,(Vector.replicate 8 (default:Int)),(Vector.replicate 8 (default:Int)),(Vector.replicate 8 (default:Int))⟩:aD),(⟨0,0,0,[]⟩:aE)⟩:aB),r5.1))
 else
 (some (r3.1,0)))))))))))
def aH4:Con τ:=cn [.ty 37] [] (.tup [.ty 43,.ty 48]) [] (fun N a b=>aCk N a.1) fun r=>((r.1,r.2,()),())
theorem aUb:aF E C 33 aH4:=ok0 aH4 [(77,aGW),(78,aGX),(79,aH2),(81,aH3),(80,vF),(51,aBC)] [] 0 [] [] ⟨aS8,⟨aS9,⟨aT9,⟨aUa,⟨aB6,⟨aMc,trivial⟩⟩⟩⟩⟩⟩ (fun a b=>(a.1,a.2.1)) Tryz.func33 rfl (by intro N a b; kernel_rfl)
def zJ (N:Nat) (number:Int) (b0:Nat) (b02:Int) (b03:Bool) (g1:List (bU)) (ms:List (Option (List (Int)))):Option (aB×Int×Nat×Int×Bool×(List (Option (List (Int))))×(List (bU))) :=
 ((yX N number b0 b02 b03 g1 ms).bind fun r1 =>
 (bif (!(r1.2.1==0)) then
 (some ((⟨0,(⟨0,0⟩:aS),(⟨0,0⟩:aS),(⟨0,0⟩:aP),0,[],(⟨0,0,0,(⟨(⟨0,0⟩:aL),0,0,0,[],[],[]⟩:GOp),0,0,[],(⟨0,(Vector.replicate 8 (default:Int)),(Vector.replicate 8 (default:Int)),(Vector.replicate 8 (default:Int))⟩:aD),0,(Vector.replicate 8 (default:Int)),0,(⟨0,0,0,[]⟩:aE),0,0,0⟩:aC),0,(Vector.replicate 8 (default:Int)),0,0,[],(⟨0,(Vector.replicate 8 (default:Int)),(Vector.replicate 8 (default:Int)),(Vector.replicate 8 (default:Int))⟩:aD),(⟨0,0,0,[]⟩:aE)⟩:aB),r1.2.1,r1.2.2.1,r1.2.2.2.1,r1.2.2.2.2.1,r1.2.2.2.2.2.2,r1.2.2.2.2.2.1))
 else
 (bif (ibB r1.1 ((r1.2.2.1:Nat):Int)) then
 (bif (decide ((r1.1).toNat < (r1.2.2.2.2.2.1).length)) then
 ((aB1 N r1.2.2.1 r1.1 (IntKind.i64.wrap (r1.1+1)) r1.2.2.2.2.2.1 r1.2.2.2.2.2.2).bind fun r2 =>
 ((aCk N (((fM r2.2.1 (((r1.2.2.2.2.2.1.getD ((r1.1).toNat) default).Data).j)).drop (((r1.2.2.2.2.2.1.getD ((r1.1).toNat) default).Data).o)).take (((r1.2.2.2.2.2.1.getD ((r1.1).toNat) default).Data).n))).bind fun r3 =>
 (bif ((jE r2.2.1 (((r1.2.2.2.2.2.1.getD ((r1.1).toNat) default).Data).j))&&(Nat.ble (((r1.2.2.2.2.2.1.getD ((r1.1).toNat) default).Data).o+((r1.2.2.2.2.2.1.getD ((r1.1).toNat) default).Data).n) (fM r2.2.1 (((r1.2.2.2.2.2.1.getD ((r1.1).toNat) default).Data).j)).length)) then
 (some (r3.1,r3.2,r2.1,r1.2.2.2.1,r1.2.2.2.2.1,(dC r2.2.1 (((r1.2.2.2.2.2.1.getD ((r1.1).toNat) default).Data).j) none),r2.2.2))
 else none)))
 else none)
 else none)))
def aCl:Con τ:=cn [.ptr 0 [],.ty 2] [.box (.agg [.agg [.msl 20065 1,.ty 2],.ty 4]),.gbx 20065,.pool 5] (.tup [.ty 43,.ty 48]) [.box (.agg [.agg [.msl 20065 3,.ty 2],.ty 4]),.dead,.pool 5,.gbx 20065] (fun N a b=>zJ N a.2.1 b.1.1.1 b.1.1.2.1 b.1.2.1 b.2.1 b.2.2.1) fun r=>((r.1,r.2.1,()),(((r.2.2.1,r.2.2.2.1,()),r.2.2.2.2.1,()),(),r.2.2.2.2.2.1,r.2.2.2.2.2.2,()))
theorem aMA:aF E C 13 aCl:=okp aCl [(31,aB0),(32,aGP),(33,aH4)] [] 3 [] [] [] [41] [] ⟨aMr,⟨aSY,⟨aUb,trivial⟩⟩⟩ (fun a b=>(a.1,a.2.1,b.1.1.1,b.1.1.2.1,b.1.2.1,b.2.2.1,b.2.2.2.1)) Tryz.func13 rfl (by intro N a b; kernel_rfl)
def aMB (N:Nat) (b0:Nat) (b02:Int) (b03:Bool) (g1:List (bU)) (ms:List (Option (List (Int)))):Option (Int×Bool×Nat×Int×Bool×(List (bU))×(List (Option (List (Int))))) :=
 ((rL N b0 b02 b03 g1 ms).bind fun r1 =>
 (bif (r1.1 || (((r1.2.1:Nat):Int)==0)) then
 (some (0,false,r1.2.1,r1.2.2.1,r1.2.2.2.1,r1.2.2.2.2.1,r1.2.2.2.2.2))
 else
 (bif (ibB 0 ((r1.2.1:Nat):Int)) then
 (bif (decide (0 < (r1.2.2.2.2.1).length)) then
 (some ((r1.2.2.2.2.1.getD 0 default).Number,true,r1.2.1,r1.2.2.1,r1.2.2.2.1,r1.2.2.2.2.1,r1.2.2.2.2.2))
 else none)
 else none)))
def aH5:Con τ:=cn [.ptr 0 []] [.box (.agg [.agg [.msl 20065 1,.ty 2],.ty 4]),.gbx 20065,.pool 5] (.tup [.ty 2,.ty 4]) [.box (.agg [.agg [.msl 20065 1,.ty 2],.ty 4]),.gbx 20065,.pool 5] (fun N a b=>aMB N b.1.1.1 b.1.1.2.1 b.1.2.1 b.2.1 b.2.2.1) fun r=>((r.1,r.2.1,()),(((r.2.2.1,r.2.2.2.1,()),r.2.2.2.2.1,()),r.2.2.2.2.2.1,r.2.2.2.2.2.2,()))
theorem aUc:aF E C 19 aH5:=okp aH5 [(25,uD)] [] 3 [] [] [] [] [] ⟨aBk,trivial⟩ (fun a b=>(a.1,a.2.1,b.1.1.1,b.1.1.2.1,b.1.2.1,b.2.1,b.2.2.1)) Tryz.func19 rfl (by intro N a b; kernel_rfl)
def aH6 (N:Nat) (b0:Nat) (b02:Int) (b03:Bool) (g1:List (bU)) (ms:List (Option (List (Int)))):Option (Int×Nat×Int×Bool×(List (bU))×(List (Option (List (Int))))) :=
 ((rL N b0 b02 b03 g1 ms).bind fun r1 =>
 (bif r1.1 then
 (some (0,r1.2.1,r1.2.2.1,r1.2.2.2.1,r1.2.2.2.2.1,r1.2.2.2.2.2))
 else
 (some (((r1.2.1:Nat):Int),r1.2.1,r1.2.2.1,r1.2.2.2.1,r1.2.2.2.2.1,r1.2.2.2.2.2))))
def aCm:Con τ:=cn [.ptr 0 []] [.box (.agg [.agg [.msl 20065 1,.ty 2],.ty 4]),.gbx 20065,.pool 5] (.ty 3) [.box (.agg [.agg [.msl 20065 1,.ty 2],.ty 4]),.gbx 20065,.pool 5] (fun N a b=>aH6 N b.1.1.1 b.1.1.2.1 b.1.2.1 b.2.1 b.2.2.1) fun r=>(r.1,(((r.2.1,r.2.2.1,()),r.2.2.2.1,()),r.2.2.2.2.1,r.2.2.2.2.2,()))
theorem aMC:aF E C 15 aCm:=okp aCm [(25,uD)] [] 3 [] [] [] [] [] ⟨aBk,trivial⟩ (fun a b=>(a,b.1.1.1,b.1.1.2.1,b.1.2.1,b.2.1,b.2.2.1)) Tryz.func15 rfl (by intro N a b; kernel_rfl)
def zK (N:Nat) (ms:List (Option (List (Int)))):Option (Bool×(List (Option (List (Int))))) :=
 ((aBi N).bind fun r1 =>
 ((aFl N 5).bind fun r2 =>
 ((aFl N 6).bind fun r3 =>
 ((vB N [r2,r3] r1.1 r1.2.1 r1.2.2.1 r1.2.2.2 ms).bind fun r4 =>
 ((zJ N 2 r4.2.2.1 r4.2.2.2.1 r4.2.2.2.2.1 r4.2.2.2.2.2.2 r4.2.2.2.2.2.1).bind fun r5 =>
 ((aMB N r5.2.2.1 r5.2.2.2.1 r5.2.2.2.2.1 r5.2.2.2.2.2.2 r5.2.2.2.2.2.1).bind fun r6 =>
 (bif ((((r4.1==2)&&(r4.2.1==0))&&(r5.2.1==0))&&(r5.1.Slot==6)) then
 ((aH6 N r6.2.2.1 r6.2.2.2.1 r6.2.2.2.2.1 r6.2.2.2.2.2.1 r6.2.2.2.2.2.2).bind fun r7 =>
 (some ((((((((r4.1==2)&&(r4.2.1==0))&&(r5.2.1==0))&&(r5.1.Slot==6))&&(r7.1==1))&&r6.2.1)&&(r6.1==1)),r7.2.2.2.2.2)))
 else
 (some (false,r6.2.2.2.2.2.2)))))))))
def aH7:Con τ:=cn [] [.pool 5] (.ty 4) [.pool 5] (fun N a b=>zK N b.1) fun r=>(r.1,(r.2,()))
theorem aUd:aF E C 9 aH7:=okp aH7 [(8,aBj),(24,aFm),(10,aBY),(13,aCl),(19,aH5),(15,aCm)] [] 1 [] [] [] [] [] ⟨aL2,⟨aQH,⟨aMq,⟨aMA,⟨aUc,⟨aMC,trivial⟩⟩⟩⟩⟩⟩ (fun a b=>(a,b.1)) Tryz.func9 rfl (by intro N a b; kernel_rfl)
def zL (N:Nat) (m:aB):Option (aB×Bool) :=
 (bif (m.Kind==1) then
 (bif (m.Kind==1) then
 (some ((⟨m.Kind,m.From,m.To,m.Ballot,m.Slot,[],(⟨0,0,0,(⟨(⟨0,0⟩:aL),0,0,0,[],[],[]⟩:GOp),0,0,[],(⟨0,(Vector.replicate 8 (default:Int)),(Vector.replicate 8 (default:Int)),(Vector.replicate 8 (default:Int))⟩:aD),0,(Vector.replicate 8 (default:Int)),0,(⟨0,0,0,[]⟩:aE),0,0,0⟩:aC),0,(Vector.replicate 8 (default:Int)),0,0,[],(⟨0,(Vector.replicate 8 (default:Int)),(Vector.replicate 8 (default:Int)),(Vector.replicate 8 (default:Int))⟩:aD),(⟨0,0,0,[]⟩:aE)⟩:aB),true))
 else
 (bif (m.Kind==2) then
 (some ((⟨m.Kind,m.From,m.To,m.Ballot,m.Slot,m.List_,(⟨0,0,0,(⟨(⟨0,0⟩:aL),0,0,0,[],[],[]⟩:GOp),0,0,[],(⟨0,(Vector.replicate 8 (default:Int)),(Vector.replicate 8 (default:Int)),(Vector.replicate 8 (default:Int))⟩:aD),0,(Vector.replicate 8 (default:Int)),0,(⟨0,0,0,[]⟩:aE),0,0,0⟩:aC),0,(Vector.replicate 8 (default:Int)),0,0,[],(⟨0,(Vector.replicate 8 (default:Int)),(Vector.replicate 8 (default:Int)),(Vector.replicate 8 (default:Int))⟩:aD),(⟨0,0,0,[]⟩:aE)⟩:aB),true))
 else
 (bif (m.Kind==3) then
 (some ((⟨m.Kind,m.From,m.To,m.Ballot,0,m.List_,(⟨0,0,0,(⟨(⟨0,0⟩:aL),0,0,0,[],[],[]⟩:GOp),0,0,[],(⟨0,(Vector.replicate 8 (default:Int)),(Vector.replicate 8 (default:Int)),(Vector.replicate 8 (default:Int))⟩:aD),0,(Vector.replicate 8 (default:Int)),0,(⟨0,0,0,[]⟩:aE),0,0,0⟩:aC),0,(Vector.replicate 8 (default:Int)),0,0,[],(⟨0,(Vector.replicate 8 (default:Int)),(Vector.replicate 8 (default:Int)),(Vector.replicate 8 (default:Int))⟩:aD),(⟨0,0,0,[]⟩:aE)⟩:aB),true))
 else
 (bif (m.Kind==5) then
 (some ((⟨m.Kind,m.From,m.To,m.Ballot,0,[],(⟨0,0,0,(⟨(⟨0,0⟩:aL),0,0,0,[],[],[]⟩:GOp),0,0,[],(⟨0,(Vector.replicate 8 (default:Int)),(Vector.replicate 8 (default:Int)),(Vector.replicate 8 (default:Int))⟩:aD),0,(Vector.replicate 8 (default:Int)),0,(⟨0,0,0,[]⟩:aE),0,0,0⟩:aC),0,(Vector.replicate 8 (default:Int)),0,0,[],(⟨0,(Vector.replicate 8 (default:Int)),(Vector.replicate 8 (default:Int)),(Vector.replicate 8 (default:Int))⟩:aD),(⟨0,0,0,[]⟩:aE)⟩:aB),true))
 else
 (bif (m.Kind==6) then
 (some ((⟨m.Kind,m.From,m.To,(⟨0,0⟩:aP),0,m.List_,(⟨0,0,0,(⟨(⟨0,0⟩:aL),0,0,0,[],[],[]⟩:GOp),0,0,[],(⟨0,(Vector.replicate 8 (default:Int)),(Vector.replicate 8 (default:Int)),(Vector.replicate 8 (default:Int))⟩:aD),0,(Vector.replicate 8 (default:Int)),0,(⟨0,0,0,[]⟩:aE),0,0,0⟩:aC),0,(Vector.replicate 8 (default:Int)),0,0,[],(⟨0,(Vector.replicate 8 (default:Int)),(Vector.replicate 8 (default:Int)),(Vector.replicate 8 (default:Int))⟩:aD),(⟨0,0,0,[]⟩:aE)⟩:aB),true))
 else
 (bif (m.Kind==8) then
 (some ((⟨m.Kind,m.From,m.To,(⟨0,0⟩:aP),m.Slot,[],(⟨0,0,0,(⟨(⟨0,0⟩:aL),0,0,0,[],[],[]⟩:GOp),0,0,[],(⟨0,(Vector.replicate 8 (default:Int)),(Vector.replicate 8 (default:Int)),(Vector.replicate 8 (default:Int))⟩:aD),0,(Vector.replicate 8 (default:Int)),0,(⟨0,0,0,[]⟩:aE),0,0,0⟩:aC),0,(Vector.replicate 8 (default:Int)),0,0,[],(⟨0,(Vector.replicate 8 (default:Int)),(Vector.replicate 8 (default:Int)),(Vector.replicate 8 (default:Int))⟩:aD),(⟨0,0,0,[]⟩:aE)⟩:aB),true))
 else
 (bif (m.Kind==9) then
 (some ((⟨m.Kind,m.From,m.To,(⟨0,0⟩:aP),0,[],m.Entry,0,(Vector.replicate 8 (default:Int)),0,0,[],(⟨0,(Vector.replicate 8 (default:Int)),(Vector.replicate 8 (default:Int)),(Vector.replicate 8 (default:Int))⟩:aD),(⟨0,0,0,[]⟩:aE)⟩:aB),true))
 else
 (bif (m.Kind==10) then
 (some ((⟨m.Kind,m.From,m.To,(⟨0,0⟩:aP),0,[],(⟨0,0,0,(⟨(⟨0,0⟩:aL),0,0,0,[],[],[]⟩:GOp),0,0,[],(⟨0,(Vector.replicate 8 (default:Int)),(Vector.replicate 8 (default:Int)),(Vector.replicate 8 (default:Int))⟩:aD),0,(Vector.replicate 8 (default:Int)),0,(⟨0,0,0,[]⟩:aE),0,0,0⟩:aC),m.Number,m.Vector_,m.Clock,0,[],(⟨0,(Vector.replicate 8 (default:Int)),(Vector.replicate 8 (default:Int)),(Vector.replicate 8 (default:Int))⟩:aD),(⟨0,0,0,[]⟩:aE)⟩:aB),true))
 else
 (bif (m.Kind==11) then
 (some ((⟨m.Kind,m.From,m.To,(⟨0,0⟩:aP),m.Slot,[],(⟨0,0,0,(⟨(⟨0,0⟩:aL),0,0,0,[],[],[]⟩:GOp),0,0,[],(⟨0,(Vector.replicate 8 (default:Int)),(Vector.replicate 8 (default:Int)),(Vector.replicate 8 (default:Int))⟩:aD),0,(Vector.replicate 8 (default:Int)),0,(⟨0,0,0,[]⟩:aE),0,0,0⟩:aC),m.Number,(Vector.replicate 8 (default:Int)),0,m.Origin,m.Ops,(⟨0,(Vector.replicate 8 (default:Int)),(Vector.replicate 8 (default:Int)),(Vector.replicate 8 (default:Int))⟩:aD),(⟨0,0,0,[]⟩:aE)⟩:aB),true))
 else
 (bif (m.Kind==12) then
 (some ((⟨m.Kind,m.From,m.To,(⟨0,0⟩:aP),0,[],(⟨0,0,0,(⟨(⟨0,0⟩:aL),0,0,0,[],[],[]⟩:GOp),0,0,[],(⟨0,(Vector.replicate 8 (default:Int)),(Vector.replicate 8 (default:Int)),(Vector.replicate 8 (default:Int))⟩:aD),0,(Vector.replicate 8 (default:Int)),0,(⟨0,0,0,[]⟩:aE),0,0,0⟩:aC),0,(Vector.replicate 8 (default:Int)),0,0,[],m.Epoch,(⟨0,0,0,[]⟩:aE)⟩:aB),true))
 else
 (bif (m.Kind==13) then
 (some ((⟨m.Kind,m.From,m.To,(⟨0,0⟩:aP),0,[],(⟨0,0,0,(⟨(⟨0,0⟩:aL),0,0,0,[],[],[]⟩:GOp),0,0,[],(⟨0,(Vector.replicate 8 (default:Int)),(Vector.replicate 8 (default:Int)),(Vector.replicate 8 (default:Int))⟩:aD),0,(Vector.replicate 8 (default:Int)),0,(⟨0,0,0,[]⟩:aE),0,0,0⟩:aC),0,(Vector.replicate 8 (default:Int)),0,0,[],(⟨0,(Vector.replicate 8 (default:Int)),(Vector.replicate 8 (default:Int)),(Vector.replicate 8 (default:Int))⟩:aD),m.Part⟩:aB),true))
 else
 (bif (m.Kind==14) then
 (some ((⟨m.Kind,m.From,m.To,(⟨0,0⟩:aP),0,[],(⟨0,0,0,(⟨(⟨0,0⟩:aL),0,0,0,[],[],[]⟩:GOp),0,0,[],(⟨0,(Vector.replicate 8 (default:Int)),(Vector.replicate 8 (default:Int)),(Vector.replicate 8 (default:Int))⟩:aD),0,(Vector.replicate 8 (default:Int)),0,(⟨0,0,0,[]⟩:aE),0,0,0⟩:aC),m.Number,m.Vector_,0,0,[],(⟨0,(Vector.replicate 8 (default:Int)),(Vector.replicate 8 (default:Int)),(Vector.replicate 8 (default:Int))⟩:aD),(⟨0,0,0,[]⟩:aE)⟩:aB),true))
 else
 (bif (m.Kind==15) then
 (some ((⟨m.Kind,m.From,m.To,(⟨0,0⟩:aP),m.Slot,[],(⟨0,0,0,(⟨(⟨0,0⟩:aL),0,0,0,[],[],[]⟩:GOp),0,0,[],(⟨0,(Vector.replicate 8 (default:Int)),(Vector.replicate 8 (default:Int)),(Vector.replicate 8 (default:Int))⟩:aD),0,(Vector.replicate 8 (default:Int)),0,(⟨0,0,0,[]⟩:aE),0,0,0⟩:aC),0,(Vector.replicate 8 (default:Int)),0,0,[],(⟨0,(Vector.replicate 8 (default:Int)),(Vector.replicate 8 (default:Int)),(Vector.replicate 8 (default:Int))⟩:aD),m.Part⟩:aB),true))
 else
 (some ((⟨m.Kind,m.From,m.To,(⟨0,0⟩:aP),0,[],(⟨0,0,0,(⟨(⟨0,0⟩:aL),0,0,0,[],[],[]⟩:GOp),0,0,[],(⟨0,(Vector.replicate 8 (default:Int)),(Vector.replicate 8 (default:Int)),(Vector.replicate 8 (default:Int))⟩:aD),0,(Vector.replicate 8 (default:Int)),0,(⟨0,0,0,[]⟩:aE),0,0,0⟩:aC),0,(Vector.replicate 8 (default:Int)),0,0,[],(⟨0,(Vector.replicate 8 (default:Int)),(Vector.replicate 8 (default:Int)),(Vector.replicate 8 (default:Int))⟩:aD),(⟨0,0,0,[]⟩:aE)⟩:aB),false)))))))))))))))
 else
 (bif (m.Kind==4) then
 (bif (m.Kind==4) then
 (some ((⟨m.Kind,m.From,m.To,m.Ballot,m.Slot,[],(⟨0,0,0,(⟨(⟨0,0⟩:aL),0,0,0,[],[],[]⟩:GOp),0,0,[],(⟨0,(Vector.replicate 8 (default:Int)),(Vector.replicate 8 (default:Int)),(Vector.replicate 8 (default:Int))⟩:aD),0,(Vector.replicate 8 (default:Int)),0,(⟨0,0,0,[]⟩:aE),0,0,0⟩:aC),0,(Vector.replicate 8 (default:Int)),0,0,[],(⟨0,(Vector.replicate 8 (default:Int)),(Vector.replicate 8 (default:Int)),(Vector.replicate 8 (default:Int))⟩:aD),(⟨0,0,0,[]⟩:aE)⟩:aB),true))
 else
 (bif (m.Kind==2) then
 (some ((⟨m.Kind,m.From,m.To,m.Ballot,m.Slot,m.List_,(⟨0,0,0,(⟨(⟨0,0⟩:aL),0,0,0,[],[],[]⟩:GOp),0,0,[],(⟨0,(Vector.replicate 8 (default:Int)),(Vector.replicate 8 (default:Int)),(Vector.replicate 8 (default:Int))⟩:aD),0,(Vector.replicate 8 (default:Int)),0,(⟨0,0,0,[]⟩:aE),0,0,0⟩:aC),0,(Vector.replicate 8 (default:Int)),0,0,[],(⟨0,(Vector.replicate 8 (default:Int)),(Vector.replicate 8 (default:Int)),(Vector.replicate 8 (default:Int))⟩:aD),(⟨0,0,0,[]⟩:aE)⟩:aB),true))
 else
 (bif (m.Kind==3) then
 (some ((⟨m.Kind,m.From,m.To,m.Ballot,0,m.List_,(⟨0,0,0,(⟨(⟨0,0⟩:aL),0,0,0,[],[],[]⟩:GOp),0,0,[],(⟨0,(Vector.replicate 8 (default:Int)),(Vector.replicate 8 (default:Int)),(Vector.replicate 8 (default:Int))⟩:aD),0,(Vector.replicate 8 (default:Int)),0,(⟨0,0,0,[]⟩:aE),0,0,0⟩:aC),0,(Vector.replicate 8 (default:Int)),0,0,[],(⟨0,(Vector.replicate 8 (default:Int)),(Vector.replicate 8 (default:Int)),(Vector.replicate 8 (default:Int))⟩:aD),(⟨0,0,0,[]⟩:aE)⟩:aB),true))
 else
 (bif (m.Kind==5) then
 (some ((⟨m.Kind,m.From,m.To,m.Ballot,0,[],(⟨0,0,0,(⟨(⟨0,0⟩:aL),0,0,0,[],[],[]⟩:GOp),0,0,[],(⟨0,(Vector.replicate 8 (default:Int)),(Vector.replicate 8 (default:Int)),(Vector.replicate 8 (default:Int))⟩:aD),0,(Vector.replicate 8 (default:Int)),0,(⟨0,0,0,[]⟩:aE),0,0,0⟩:aC),0,(Vector.replicate 8 (default:Int)),0,0,[],(⟨0,(Vector.replicate 8 (default:Int)),(Vector.replicate 8 (default:Int)),(Vector.replicate 8 (default:Int))⟩:aD),(⟨0,0,0,[]⟩:aE)⟩:aB),true))
 else
 (bif (m.Kind==6) then
 (some ((⟨m.Kind,m.From,m.To,(⟨0,0⟩:aP),0,m.List_,(⟨0,0,0,(⟨(⟨0,0⟩:aL),0,0,0,[],[],[]⟩:GOp),0,0,[],(⟨0,(Vector.replicate 8 (default:Int)),(Vector.replicate 8 (default:Int)),(Vector.replicate 8 (default:Int))⟩:aD),0,(Vector.replicate 8 (default:Int)),0,(⟨0,0,0,[]⟩:aE),0,0,0⟩:aC),0,(Vector.replicate 8 (default:Int)),0,0,[],(⟨0,(Vector.replicate 8 (default:Int)),(Vector.replicate 8 (default:Int)),(Vector.replicate 8 (default:Int))⟩:aD),(⟨0,0,0,[]⟩:aE)⟩:aB),true))
 else
 (bif (m.Kind==8) then
 (some ((⟨m.Kind,m.From,m.To,(⟨0,0⟩:aP),m.Slot,[],(⟨0,0,0,(⟨(⟨0,0⟩:aL),0,0,0,[],[],[]⟩:GOp),0,0,[],(⟨0,(Vector.replicate 8 (default:Int)),(Vector.replicate 8 (default:Int)),(Vector.replicate 8 (default:Int))⟩:aD),0,(Vector.replicate 8 (default:Int)),0,(⟨0,0,0,[]⟩:aE),0,0,0⟩:aC),0,(Vector.replicate 8 (default:Int)),0,0,[],(⟨0,(Vector.replicate 8 (default:Int)),(Vector.replicate 8 (default:Int)),(Vector.replicate 8 (default:Int))⟩:aD),(⟨0,0,0,[]⟩:aE)⟩:aB),true))
 else
 (bif (m.Kind==9) then
 (some ((⟨m.Kind,m.From,m.To,(⟨0,0⟩:aP),0,[],m.Entry,0,(Vector.replicate 8 (default:Int)),0,0,[],(⟨0,(Vector.replicate 8 (default:Int)),(Vector.replicate 8 (default:Int)),(Vector.replicate 8 (default:Int))⟩:aD),(⟨0,0,0,[]⟩:aE)⟩:aB),true))
 else
 (bif (m.Kind==10) then
 (some ((⟨m.Kind,m.From,m.To,(⟨0,0⟩:aP),0,[],(⟨0,0,0,(⟨(⟨0,0⟩:aL),0,0,0,[],[],[]⟩:GOp),0,0,[],(⟨0,(Vector.replicate 8 (default:Int)),(Vector.replicate 8 (default:Int)),(Vector.replicate 8 (default:Int))⟩:aD),0,(Vector.replicate 8 (default:Int)),0,(⟨0,0,0,[]⟩:aE),0,0,0⟩:aC),m.Number,m.Vector_,m.Clock,0,[],(⟨0,(Vector.replicate 8 (default:Int)),(Vector.replicate 8 (default:Int)),(Vector.replicate 8 (default:Int))⟩:aD),(⟨0,0,0,[]⟩:aE)⟩:aB),true))
 else
 (bif (m.Kind==11) then
 (some ((⟨m.Kind,m.From,m.To,(⟨0,0⟩:aP),m.Slot,[],(⟨0,0,0,(⟨(⟨0,0⟩:aL),0,0,0,[],[],[]⟩:GOp),0,0,[],(⟨0,(Vector.replicate 8 (default:Int)),(Vector.replicate 8 (default:Int)),(Vector.replicate 8 (default:Int))⟩:aD),0,(Vector.replicate 8 (default:Int)),0,(⟨0,0,0,[]⟩:aE),0,0,0⟩:aC),m.Number,(Vector.replicate 8 (default:Int)),0,m.Origin,m.Ops,(⟨0,(Vector.replicate 8 (default:Int)),(Vector.replicate 8 (default:Int)),(Vector.replicate 8 (default:Int))⟩:aD),(⟨0,0,0,[]⟩:aE)⟩:aB),true))
 else
 (bif (m.Kind==12) then
 (some ((⟨m.Kind,m.From,m.To,(⟨0,0⟩:aP),0,[],(⟨0,0,0,(⟨(⟨0,0⟩:aL),0,0,0,[],[],[]⟩:GOp),0,0,[],(⟨0,(Vector.replicate 8 (default:Int)),(Vector.replicate 8 (default:Int)),(Vector.replicate 8 (default:Int))⟩:aD),0,(Vector.replicate 8 (default:Int)),0,(⟨0,0,0,[]⟩:aE),0,0,0⟩:aC),0,(Vector.replicate 8 (default:Int)),0,0,[],m.Epoch,(⟨0,0,0,[]⟩:aE)⟩:aB),true))
 else
 (bif (m.Kind==13) then
 (some ((⟨m.Kind,m.From,m.To,(⟨0,0⟩:aP),0,[],(⟨0,0,0,(⟨(⟨0,0⟩:aL),0,0,0,[],[],[]⟩:GOp),0,0,[],(⟨0,(Vector.replicate 8 (default:Int)),(Vector.replicate 8 (default:Int)),(Vector.replicate 8 (default:Int))⟩:aD),0,(Vector.replicate 8 (default:Int)),0,(⟨0,0,0,[]⟩:aE),0,0,0⟩:aC),0,(Vector.replicate 8 (default:Int)),0,0,[],(⟨0,(Vector.replicate 8 (default:Int)),(Vector.replicate 8 (default:Int)),(Vector.replicate 8 (default:Int))⟩:aD),m.Part⟩:aB),true))
 else
 (bif (m.Kind==14) then
 (some ((⟨m.Kind,m.From,m.To,(⟨0,0⟩:aP),0,[],(⟨0,0,0,(⟨(⟨0,0⟩:aL),0,0,0,[],[],[]⟩:GOp),0,0,[],(⟨0,(Vector.replicate 8 (default:Int)),(Vector.replicate 8 (default:Int)),(Vector.replicate 8 (default:Int))⟩:aD),0,(Vector.replicate 8 (default:Int)),0,(⟨0,0,0,[]⟩:aE),0,0,0⟩:aC),m.Number,m.Vector_,0,0,[],(⟨0,(Vector.replicate 8 (default:Int)),(Vector.replicate 8 (default:Int)),(Vector.replicate 8 (default:Int))⟩:aD),(⟨0,0,0,[]⟩:aE)⟩:aB),true))
 else
 (bif (m.Kind==15) then
 (some ((⟨m.Kind,m.From,m.To,(⟨0,0⟩:aP),m.Slot,[],(⟨0,0,0,(⟨(⟨0,0⟩:aL),0,0,0,[],[],[]⟩:GOp),0,0,[],(⟨0,(Vector.replicate 8 (default:Int)),(Vector.replicate 8 (default:Int)),(Vector.replicate 8 (default:Int))⟩:aD),0,(Vector.replicate 8 (default:Int)),0,(⟨0,0,0,[]⟩:aE),0,0,0⟩:aC),0,(Vector.replicate 8 (default:Int)),0,0,[],(⟨0,(Vector.replicate 8 (default:Int)),(Vector.replicate 8 (default:Int)),(Vector.replicate 8 (default:Int))⟩:aD),m.Part⟩:aB),true))
 else
 (some ((⟨m.Kind,m.From,m.To,(⟨0,0⟩:aP),0,[],(⟨0,0,0,(⟨(⟨0,0⟩:aL),0,0,0,[],[],[]⟩:GOp),0,0,[],(⟨0,(Vector.replicate 8 (default:Int)),(Vector.replicate 8 (default:Int)),(Vector.replicate 8 (default:Int))⟩:aD),0,(Vector.replicate 8 (default:Int)),0,(⟨0,0,0,[]⟩:aE),0,0,0⟩:aC),0,(Vector.replicate 8 (default:Int)),0,0,[],(⟨0,(Vector.replicate 8 (default:Int)),(Vector.replicate 8 (default:Int)),(Vector.replicate 8 (default:Int))⟩:aD),(⟨0,0,0,[]⟩:aE)⟩:aB),false)))))))))))))))
 else
 (bif (m.Kind==7) then
 (some ((⟨m.Kind,m.From,m.To,m.Ballot,m.Slot,[],(⟨0,0,0,(⟨(⟨0,0⟩:aL),0,0,0,[],[],[]⟩:GOp),0,0,[],(⟨0,(Vector.replicate 8 (default:Int)),(Vector.replicate 8 (default:Int)),(Vector.replicate 8 (default:Int))⟩:aD),0,(Vector.replicate 8 (default:Int)),0,(⟨0,0,0,[]⟩:aE),0,0,0⟩:aC),0,(Vector.replicate 8 (default:Int)),0,0,[],(⟨0,(Vector.replicate 8 (default:Int)),(Vector.replicate 8 (default:Int)),(Vector.replicate 8 (default:Int))⟩:aD),(⟨0,0,0,[]⟩:aE)⟩:aB),true))
 else
 (bif (m.Kind==2) then
 (some ((⟨m.Kind,m.From,m.To,m.Ballot,m.Slot,m.List_,(⟨0,0,0,(⟨(⟨0,0⟩:aL),0,0,0,[],[],[]⟩:GOp),0,0,[],(⟨0,(Vector.replicate 8 (default:Int)),(Vector.replicate 8 (default:Int)),(Vector.replicate 8 (default:Int))⟩:aD),0,(Vector.replicate 8 (default:Int)),0,(⟨0,0,0,[]⟩:aE),0,0,0⟩:aC),0,(Vector.replicate 8 (default:Int)),0,0,[],(⟨0,(Vector.replicate 8 (default:Int)),(Vector.replicate 8 (default:Int)),(Vector.replicate 8 (default:Int))⟩:aD),(⟨0,0,0,[]⟩:aE)⟩:aB),true))
 else
 (bif (m.Kind==3) then
 (some ((⟨m.Kind,m.From,m.To,m.Ballot,0,m.List_,(⟨0,0,0,(⟨(⟨0,0⟩:aL),0,0,0,[],[],[]⟩:GOp),0,0,[],(⟨0,(Vector.replicate 8 (default:Int)),(Vector.replicate 8 (default:Int)),(Vector.replicate 8 (default:Int))⟩:aD),0,(Vector.replicate 8 (default:Int)),0,(⟨0,0,0,[]⟩:aE),0,0,0⟩:aC),0,(Vector.replicate 8 (default:Int)),0,0,[],(⟨0,(Vector.replicate 8 (default:Int)),(Vector.replicate 8 (default:Int)),(Vector.replicate 8 (default:Int))⟩:aD),(⟨0,0,0,[]⟩:aE)⟩:aB),true))
 else
 (bif (m.Kind==5) then
 (some ((⟨m.Kind,m.From,m.To,m.Ballot,0,[],(⟨0,0,0,(⟨(⟨0,0⟩:aL),0,0,0,[],[],[]⟩:GOp),0,0,[],(⟨0,(Vector.replicate 8 (default:Int)),(Vector.replicate 8 (default:Int)),(Vector.replicate 8 (default:Int))⟩:aD),0,(Vector.replicate 8 (default:Int)),0,(⟨0,0,0,[]⟩:aE),0,0,0⟩:aC),0,(Vector.replicate 8 (default:Int)),0,0,[],(⟨0,(Vector.replicate 8 (default:Int)),(Vector.replicate 8 (default:Int)),(Vector.replicate 8 (default:Int))⟩:aD),(⟨0,0,0,[]⟩:aE)⟩:aB),true))
 else
 (bif (m.Kind==6) then
 (some ((⟨m.Kind,m.From,m.To,(⟨0,0⟩:aP),0,m.List_,(⟨0,0,0,(⟨(⟨0,0⟩:aL),0,0,0,[],[],[]⟩:GOp),0,0,[],(⟨0,(Vector.replicate 8 (default:Int)),(Vector.replicate 8 (default:Int)),(Vector.replicate 8 (default:Int))⟩:aD),0,(Vector.replicate 8 (default:Int)),0,(⟨0,0,0,[]⟩:aE),0,0,0⟩:aC),0,(Vector.replicate 8 (default:Int)),0,0,[],(⟨0,(Vector.replicate 8 (default:Int)),(Vector.replicate 8 (default:Int)),(Vector.replicate 8 (default:Int))⟩:aD),(⟨0,0,0,[]⟩:aE)⟩:aB),true))
 else
 (bif (m.Kind==8) then
 (some ((⟨m.Kind,m.From,m.To,(⟨0,0⟩:aP),m.Slot,[],(⟨0,0,0,(⟨(⟨0,0⟩:aL),0,0,0,[],[],[]⟩:GOp),0,0,[],(⟨0,(Vector.replicate 8 (default:Int)),(Vector.replicate 8 (default:Int)),(Vector.replicate 8 (default:Int))⟩:aD),0,(Vector.replicate 8 (default:Int)),0,(⟨0,0,0,[]⟩:aE),0,0,0⟩:aC),0,(Vector.replicate 8 (default:Int)),0,0,[],(⟨0,(Vector.replicate 8 (default:Int)),(Vector.replicate 8 (default:Int)),(Vector.replicate 8 (default:Int))⟩:aD),(⟨0,0,0,[]⟩:aE)⟩:aB),true))
 else
 (bif (m.Kind==9) then
 (some ((⟨m.Kind,m.From,m.To,(⟨0,0⟩:aP),0,[],m.Entry,0,(Vector.replicate 8 (default:Int)),0,0,[],(⟨0,(Vector.replicate 8 (default:Int)),(Vector.replicate 8 (default:Int)),(Vector.replicate 8 (default:Int))⟩:aD),(⟨0,0,0,[]⟩:aE)⟩:aB),true))
 else
 (bif (m.Kind==10) then
 (some ((⟨m.Kind,m.From,m.To,(⟨0,0⟩:aP),0,[],(⟨0,0,0,(⟨(⟨0,0⟩:aL),0,0,0,[],[],[]⟩:GOp),0,0,[],(⟨0,(Vector.replicate 8 (default:Int)),(Vector.replicate 8 (default:Int)),(Vector.replicate 8 (default:Int))⟩:aD),0,(Vector.replicate 8 (default:Int)),0,(⟨0,0,0,[]⟩:aE),0,0,0⟩:aC),m.Number,m.Vector_,m.Clock,0,[],(⟨0,(Vector.replicate 8 (default:Int)),(Vector.replicate 8 (default:Int)),(Vector.replicate 8 (default:Int))⟩:aD),(⟨0,0,0,[]⟩:aE)⟩:aB),true))
 else
 (bif (m.Kind==11) then
 (some ((⟨m.Kind,m.From,m.To,(⟨0,0⟩:aP),m.Slot,[],(⟨0,0,0,(⟨(⟨0,0⟩:aL),0,0,0,[],[],[]⟩:GOp),0,0,[],(⟨0,(Vector.replicate 8 (default:Int)),(Vector.replicate 8 (default:Int)),(Vector.replicate 8 (default:Int))⟩:aD),0,(Vector.replicate 8 (default:Int)),0,(⟨0,0,0,[]⟩:aE),0,0,0⟩:aC),m.Number,(Vector.replicate 8 (default:Int)),0,m.Origin,m.Ops,(⟨0,(Vector.replicate 8 (default:Int)),(Vector.replicate 8 (default:Int)),(Vector.replicate 8 (default:Int))⟩:aD),(⟨0,0,0,[]⟩:aE)⟩:aB),true))
 else
 (bif (m.Kind==12) then
 (some ((⟨m.Kind,m.From,m.To,(⟨0,0⟩:aP),0,[],(⟨0,0,0,(⟨(⟨0,0⟩:aL),0,0,0,[],[],[]⟩:GOp),0,0,[],(⟨0,(Vector.replicate 8 (default:Int)),(Vector.replicate 8 (default:Int)),(Vector.replicate 8 (default:Int))⟩:aD),0,(Vector.replicate 8 (default:Int)),0,(⟨0,0,0,[]⟩:aE),0,0,0⟩:aC),0,(Vector.replicate 8 (default:Int)),0,0,[],m.Epoch,(⟨0,0,0,[]⟩:aE)⟩:aB),true))
 else
 (bif (m.Kind==13) then
 (some ((⟨m.Kind,m.From,m.To,(⟨0,0⟩:aP),0,[],(⟨0,0,0,(⟨(⟨0,0⟩:aL),0,0,0,[],[],[]⟩:GOp),0,0,[],(⟨0,(Vector.replicate 8 (default:Int)),(Vector.replicate 8 (default:Int)),(Vector.replicate 8 (default:Int))⟩:aD),0,(Vector.replicate 8 (default:Int)),0,(⟨0,0,0,[]⟩:aE),0,0,0⟩:aC),0,(Vector.replicate 8 (default:Int)),0,0,[],(⟨0,(Vector.replicate 8 (default:Int)),(Vector.replicate 8 (default:Int)),(Vector.replicate 8 (default:Int))⟩:aD),m.Part⟩:aB),true))
 else
 (bif (m.Kind==14) then
 (some ((⟨m.Kind,m.From,m.To,(⟨0,0⟩:aP),0,[],(⟨0,0,0,(⟨(⟨0,0⟩:aL),0,0,0,[],[],[]⟩:GOp),0,0,[],(⟨0,(Vector.replicate 8 (default:Int)),(Vector.replicate 8 (default:Int)),(Vector.replicate 8 (default:Int))⟩:aD),0,(Vector.replicate 8 (default:Int)),0,(⟨0,0,0,[]⟩:aE),0,0,0⟩:aC),m.Number,m.Vector_,0,0,[],(⟨0,(Vector.replicate 8 (default:Int)),(Vector.replicate 8 (default:Int)),(Vector.replicate 8 (default:Int))⟩:aD),(⟨0,0,0,[]⟩:aE)⟩:aB),true))
 else
 (bif (m.Kind==15) then
 (some ((⟨m.Kind,m.From,m.To,(⟨0,0⟩:aP),m.Slot,[],(⟨0,0,0,(⟨(⟨0,0⟩:aL),0,0,0,[],[],[]⟩:GOp),0,0,[],(⟨0,(Vector.replicate 8 (default:Int)),(Vector.replicate 8 (default:Int)),(Vector.replicate 8 (default:Int))⟩:aD),0,(Vector.replicate 8 (default:Int)),0,(⟨0,0,0,[]⟩:aE),0,0,0⟩:aC),0,(Vector.replicate 8 (default:Int)),0,0,[],(⟨0,(Vector.replicate 8 (default:Int)),(Vector.replicate 8 (default:Int)),(Vector.replicate 8 (default:Int))⟩:aD),m.Part⟩:aB),true))
 else
 (some ((⟨m.Kind,m.From,m.To,(⟨0,0⟩:aP),0,[],(⟨0,0,0,(⟨(⟨0,0⟩:aL),0,0,0,[],[],[]⟩:GOp),0,0,[],(⟨0,(Vector.replicate 8 (default:Int)),(Vector.replicate 8 (default:Int)),(Vector.replicate 8 (default:Int))⟩:aD),0,(Vector.replicate 8 (default:Int)),0,(⟨0,0,0,[]⟩:aE),0,0,0⟩:aC),0,(Vector.replicate 8 (default:Int)),0,0,[],(⟨0,(Vector.replicate 8 (default:Int)),(Vector.replicate 8 (default:Int)),(Vector.replicate 8 (default:Int))⟩:aD),(⟨0,0,0,[]⟩:aE)⟩:aB),false)))))))))))))))))
def aH8:Con τ:=cn [.ty 43] [] (.tup [.ty 43,.ty 4]) [] (fun N a b=>zL N a.1) fun r=>((r.1,r.2,()),())
theorem aUe:aF E C 56 aH8:=ok0 aH8 [] [] 0 [] [] trivial (fun a b=>(a.1,a.2.1)) Tryz.func56 rfl (by intro N a b; kernel_rfl)
structure vJ where
 i:Int
def aH9:List Sl:=[.k,.k,.k,.k,.j,.sh (.ty 2),.k,.k,.k,.k,.k,.j,.j,.j,.j,.j,.j,.j,.j,.j,.j,.j,.j,.j,.j,.j]
def aIa:List ESh:=[]
def aUf (a:Sl.Ts τ aH9) (b:ESh.Ts τ aIa):vJ:=⟨a.2.2.2.2.2.1⟩
def aUg (s:vJ):Sl.Ts τ aH9:=((),(),(),(),(),s.i,(),(),(),(),(),(),(),(),(),(),(),(),(),(),(),(),(),(),(),(),())
def aUh (s:vJ):ESh.Ts τ aIa:=()
def aUi:Lp τ:={ ts:=aH9,hs:=aIa,S:=vJ,to:=aUf,ot:=aUg,oh:=aUh,hk:=[],tk:=[],ot_to:=fun _ _=>rfl,oh_to:=fun _ _=>rfl }
def zN (N:Nat) (a:List (GOp)) (b:List (GOp)):Option (Bool) :=
 (bif (!(((a).length:Int)==((b).length:Int))) then
 (some false)
 else
 (bE N (fun (s1:vJ) next2 =>
 (bif (decide (s1.i < ((a).length:Int))) then
 (bif (ibB s1.i ((a).length:Int)) then
 (bif (ibB s1.i ((b).length:Int)) then
 (bif (!((((((aA a s1.i default).Stamp).Time)==(((aA b s1.i default).Stamp).Time))&&((((aA a s1.i default).Stamp).Site)==(((aA b s1.i default).Stamp).Site)))&&((((aA a s1.i default).Kind)==((aA b s1.i default).Kind))&&((((aA a s1.i default).Node)==((aA b s1.i default).Node))&&((((aA a s1.i default).Parent)==((aA b s1.i default).Parent))&&((((aA a s1.i default).Name)==((aA b s1.i default).Name))&&((((aA a s1.i default).Key)==((aA b s1.i default).Key))&&(((aA a s1.i default).Value)==((aA b s1.i default).Value))))))))) then
 (some false)
 else
 (next2 ⟨(IntKind.i64.wrap (s1.i+1))⟩))
 else none)
 else none)
 else
 (some true))) ⟨0⟩))
def aCn:Con τ:=cn [.ty 31,.ty 31] [] (.ty 4) [] (fun N a b=>zN N a.1 a.2.1) fun r=>(r,())
theorem aMD:aF E C 36 aCn:=ok0 aCn [] [(4,aUi)] 0 [] [] trivial (fun a b=>a) Tryz.func36 rfl (by intro N a b; kernel_rfl)
def zO (N:Nat) (a:aE) (b:aE):Option (Bool) :=
 (some ((((a.Snap==b.Snap)&&(a.Index==b.Index))&&(a.Many==b.Many))&&((jD a.Data)==(jD b.Data))))
def aCo:Con τ:=cn [.ty 39,.ty 39] [] (.ty 4) [] (fun N a b=>zO N a.1 a.2.1) fun r=>(r,())
theorem aME:aF E C 37 aCo:=ok0 aCo [] [] 0 [] [] trivial (fun a b=>a) Tryz.func37 rfl (by intro N a b; kernel_rfl)
def gT (N:Nat) (a:aC) (b:aC):Option (Bool) :=
 ((bif ((((((a.Kind==b.Kind)&&(a.Session==b.Session))&&(a.Request==b.Request))&&(((a.Op.Stamp.Time==b.Op.Stamp.Time)&&(a.Op.Stamp.Site==b.Op.Stamp.Site))&&((a.Op.Kind==b.Op.Kind)&&((a.Op.Node==b.Op.Node)&&((a.Op.Parent==b.Op.Parent)&&((a.Op.Name==b.Op.Name)&&((a.Op.Key==b.Op.Key)&&(a.Op.Value==b.Op.Value))))))))&&(a.Origin==b.Origin))&&(a.Seq==b.Seq)) then zN N a.Ops b.Ops else some default).bind fun r1 =>
 ((bif (((((((((((a.Kind==b.Kind)&&(a.Session==b.Session))&&(a.Request==b.Request))&&(((a.Op.Stamp.Time==b.Op.Stamp.Time)&&(a.Op.Stamp.Site==b.Op.Stamp.Site))&&((a.Op.Kind==b.Op.Kind)&&((a.Op.Node==b.Op.Node)&&((a.Op.Parent==b.Op.Parent)&&((a.Op.Name==b.Op.Name)&&((a.Op.Key==b.Op.Key)&&(a.Op.Value==b.Op.Value))))))))&&(a.Origin==b.Origin))&&(a.Seq==b.Seq))&&r1)&&((a.Epoch.Number==b.Epoch.Number)&&((bR cX a.Epoch.States b.Epoch.States)&&((bR cM a.Epoch.Seals b.Epoch.Seals)&&(bR cX a.Epoch.Sponsor b.Epoch.Sponsor)))))&&(a.From==b.From))&&(bR cM a.Vector_ b.Vector_))&&(a.Clock==b.Clock)) then zO N a.Part b.Part else some default).bind fun r2 =>
 (some (((((((((((((((a.Kind==b.Kind)&&(a.Session==b.Session))&&(a.Request==b.Request))&&(((a.Op.Stamp.Time==b.Op.Stamp.Time)&&(a.Op.Stamp.Site==b.Op.Stamp.Site))&&((a.Op.Kind==b.Op.Kind)&&((a.Op.Node==b.Op.Node)&&((a.Op.Parent==b.Op.Parent)&&((a.Op.Name==b.Op.Name)&&((a.Op.Key==b.Op.Key)&&(a.Op.Value==b.Op.Value))))))))&&(a.Origin==b.Origin))&&(a.Seq==b.Seq))&&r1)&&((a.Epoch.Number==b.Epoch.Number)&&((bR cX a.Epoch.States b.Epoch.States)&&((bR cM a.Epoch.Seals b.Epoch.Seals)&&(bR cX a.Epoch.Sponsor b.Epoch.Sponsor)))))&&(a.From==b.From))&&(bR cM a.Vector_ b.Vector_))&&(a.Clock==b.Clock))&&r2)&&(a.Site==b.Site))&&(a.Sponsor==b.Sponsor))&&(a.Length==b.Length)))))
def zP:Con τ:=cn [.ty 41,.ty 41] [] (.ty 4) [] (fun N a b=>gT N a.1 a.2.1) fun r=>(r,())
theorem aIb:aF E C 35 zP:=ok0 zP [(36,aCn),(37,aCo)] [] 0 [] [] ⟨aMD,⟨aME,trivial⟩⟩ (fun a b=>a) Tryz.func35 rfl (by intro N a b; kernel_rfl)
def zQ (N:Nat) (a:aQ) (b:aQ):Option (Bool) :=
 ((bif ((a.Slot==b.Slot)&&((a.Ballot.Round==b.Ballot.Round)&&(a.Ballot.Replica==b.Ballot.Replica))) then gT N a.Entry b.Entry else some default).bind fun r1 =>
 (some (((a.Slot==b.Slot)&&((a.Ballot.Round==b.Ballot.Round)&&(a.Ballot.Replica==b.Ballot.Replica)))&&r1)))
def aIc:Con τ:=cn [.ty 155,.ty 155] [] (.ty 4) [] (fun N a b=>zQ N a.1 a.2.1) fun r=>(r,())
theorem aUj:aF E C 82 aIc:=ok0 aIc [(35,zP)] [] 0 [] [] ⟨aIb,trivial⟩ (fun a b=>a) Tryz.func82 rfl (by intro N a b; kernel_rfl)
structure vK where
 i:Int
def aId:List Sl:=[.k,.k,.k,.k,.j,.sh (.ty 2),.k,.k,.k,.k,.k,.j,.j,.j,.j,.j,.j,.j,.j,.j,.j,.j,.j,.j,.j,.j,.j]
def aIe:List ESh:=[]
def aUk (a:Sl.Ts τ aId) (b:ESh.Ts τ aIe):vK:=⟨a.2.2.2.2.2.1⟩
def aUl (s:vK):Sl.Ts τ aId:=((),(),(),(),(),s.i,(),(),(),(),(),(),(),(),(),(),(),(),(),(),(),(),(),(),(),(),(),())
def aUm (s:vK):ESh.Ts τ aIe:=()
def aUn:Lp τ:={ ts:=aId,hs:=aIe,S:=vK,to:=aUk,ot:=aUl,oh:=aUm,hk:=[],tk:=[],ot_to:=fun _ _=>rfl,oh_to:=fun _ _=>rfl }
def aCp (N:Nat) (a:List (aQ)) (b:List (aQ)):Option (Bool) :=
 (bif (!(((a).length:Int)==((b).length:Int))) then
 (some false)
 else
 (bE N (fun (s1:vK) next2 =>
 (bif (decide (s1.i < ((a).length:Int))) then
 (bif (ibB s1.i ((a).length:Int)) then
 (bif (ibB s1.i ((b).length:Int)) then
 ((zQ N (⟨(aA a s1.i default).Slot,((aA a s1.i default).Ballot),(⟨((aA a s1.i default).Entry).Kind,((aA a s1.i default).Entry).Session,((aA a s1.i default).Entry).Request,(⟨((((aA a s1.i default).Entry).Op).Stamp),(((aA a s1.i default).Entry).Op).Kind,(((aA a s1.i default).Entry).Op).Node,(((aA a s1.i default).Entry).Op).Parent,(((aA a s1.i default).Entry).Op).Name,(((aA a s1.i default).Entry).Op).Key,(((aA a s1.i default).Entry).Op).Value⟩:GOp),((aA a s1.i default).Entry).Origin,((aA a s1.i default).Entry).Seq,((aA a s1.i default).Entry).Ops,(((aA a s1.i default).Entry).Epoch),((aA a s1.i default).Entry).From,((aA a s1.i default).Entry).Vector_,((aA a s1.i default).Entry).Clock,(((aA a s1.i default).Entry).Part),((aA a s1.i default).Entry).Site,((aA a s1.i default).Entry).Sponsor,((aA a s1.i default).Entry).Length⟩:aC)⟩:aQ) (⟨(aA b s1.i default).Slot,((aA b s1.i default).Ballot),(⟨((aA b s1.i default).Entry).Kind,((aA b s1.i default).Entry).Session,((aA b s1.i default).Entry).Request,(⟨((((aA b s1.i default).Entry).Op).Stamp),(((aA b s1.i default).Entry).Op).Kind,(((aA b s1.i default).Entry).Op).Node,(((aA b s1.i default).Entry).Op).Parent,(((aA b s1.i default).Entry).Op).Name,(((aA b s1.i default).Entry).Op).Key,(((aA b s1.i default).Entry).Op).Value⟩:GOp),((aA b s1.i default).Entry).Origin,((aA b s1.i default).Entry).Seq,((aA b s1.i default).Entry).Ops,(((aA b s1.i default).Entry).Epoch),((aA b s1.i default).Entry).From,((aA b s1.i default).Entry).Vector_,((aA b s1.i default).Entry).Clock,(((aA b s1.i default).Entry).Part),((aA b s1.i default).Entry).Site,((aA b s1.i default).Entry).Sponsor,((aA b s1.i default).Entry).Length⟩:aC)⟩:aQ)).bind fun r3 =>
 (bif (!r3) then
 (some false)
 else
 (next2 ⟨(IntKind.i64.wrap (s1.i+1))⟩)))
 else none)
 else none)
 else
 (some true))) ⟨0⟩))
def aIf:Con τ:=cn [.ty 26,.ty 26] [] (.ty 4) [] (fun N a b=>aCp N a.1 a.2.1) fun r=>(r,())
theorem aUo:aF E C 34 aIf:=ok0 aIf [(82,aIc)] [(4,aUn)] 0 [] [] ⟨aUj,trivial⟩ (fun a b=>a) Tryz.func34 rfl (by intro N a b; kernel_rfl)
def sA (N:Nat) (a:aB) (b:aB):Option (Bool) :=
 ((bif (((((a.Kind==b.Kind)&&((a.From.Group==b.From.Group)&&(a.From.Replica==b.From.Replica)))&&((a.To.Group==b.To.Group)&&(a.To.Replica==b.To.Replica)))&&((a.Ballot.Round==b.Ballot.Round)&&(a.Ballot.Replica==b.Ballot.Replica)))&&(a.Slot==b.Slot)) then aCp N a.List_ b.List_ else some default).bind fun r1 =>
 ((bif ((((((a.Kind==b.Kind)&&((a.From.Group==b.From.Group)&&(a.From.Replica==b.From.Replica)))&&((a.To.Group==b.To.Group)&&(a.To.Replica==b.To.Replica)))&&((a.Ballot.Round==b.Ballot.Round)&&(a.Ballot.Replica==b.Ballot.Replica)))&&(a.Slot==b.Slot))&&r1) then gT N a.Entry b.Entry else some default).bind fun r2 =>
 ((bif (((((((((((a.Kind==b.Kind)&&((a.From.Group==b.From.Group)&&(a.From.Replica==b.From.Replica)))&&((a.To.Group==b.To.Group)&&(a.To.Replica==b.To.Replica)))&&((a.Ballot.Round==b.Ballot.Round)&&(a.Ballot.Replica==b.Ballot.Replica)))&&(a.Slot==b.Slot))&&r1)&&r2)&&(a.Number==b.Number))&&(bR cM a.Vector_ b.Vector_))&&(a.Clock==b.Clock))&&(a.Origin==b.Origin)) then zN N a.Ops b.Ops else some default).bind fun r3 =>
 ((bif (((((((((((((a.Kind==b.Kind)&&((a.From.Group==b.From.Group)&&(a.From.Replica==b.From.Replica)))&&((a.To.Group==b.To.Group)&&(a.To.Replica==b.To.Replica)))&&((a.Ballot.Round==b.Ballot.Round)&&(a.Ballot.Replica==b.Ballot.Replica)))&&(a.Slot==b.Slot))&&r1)&&r2)&&(a.Number==b.Number))&&(bR cM a.Vector_ b.Vector_))&&(a.Clock==b.Clock))&&(a.Origin==b.Origin))&&r3)&&((a.Epoch.Number==b.Epoch.Number)&&((bR cX a.Epoch.States b.Epoch.States)&&((bR cM a.Epoch.Seals b.Epoch.Seals)&&(bR cX a.Epoch.Sponsor b.Epoch.Sponsor))))) then zO N a.Part b.Part else some default).bind fun r4 =>
 (some ((((((((((((((a.Kind==b.Kind)&&((a.From.Group==b.From.Group)&&(a.From.Replica==b.From.Replica)))&&((a.To.Group==b.To.Group)&&(a.To.Replica==b.To.Replica)))&&((a.Ballot.Round==b.Ballot.Round)&&(a.Ballot.Replica==b.Ballot.Replica)))&&(a.Slot==b.Slot))&&r1)&&r2)&&(a.Number==b.Number))&&(bR cM a.Vector_ b.Vector_))&&(a.Clock==b.Clock))&&(a.Origin==b.Origin))&&r3)&&((a.Epoch.Number==b.Epoch.Number)&&((bR cX a.Epoch.States b.Epoch.States)&&((bR cM a.Epoch.Seals b.Epoch.Seals)&&(bR cX a.Epoch.Sponsor b.Epoch.Sponsor)))))&&r4))))))
def aCq:Con τ:=cn [.ty 43,.ty 43] [] (.ty 4) [] (fun N a b=>sA N a.1 a.2.1) fun r=>(r,())
theorem aMF:aF E C 14 aCq:=ok0 aCq [(34,aIf),(35,zP),(36,aCn),(37,aCo)] [] 0 [] [] ⟨aUo,⟨aIb,⟨aMD,⟨aME,trivial⟩⟩⟩⟩ (fun a b=>a) Tryz.func14 rfl (by intro N a b; kernel_rfl)
def zR (N:Nat) (a:aS):Option (Bool) :=
 (some ((((decide (0≤a.Group))&&(decide (a.Group < 9)))&&(decide (0≤a.Replica)))&&(decide (a.Replica < 5))))
def aIg:Con τ:=cn [.ty 23] [] (.ty 4) [] (fun N a b=>zR N a.1) fun r=>(r,())
theorem aUp:aF E C 57 aIg:=ok0 aIg [] [] 0 [] [] trivial (fun a b=>a) Tryz.func57 rfl (by intro N a b; kernel_rfl)
def cE (N:Nat) (n:Int):Option (Bool) :=
 (some ((decide (0≤n))&&(decide (n≤1099511627776))))
def mN:Con τ:=cn [.ty 2] [] (.ty 4) [] (fun N a b=>cE N a.1) fun r=>(r,())
theorem pQ:aF E C 59 mN:=ok0 mN [] [] 0 [] [] trivial (fun a b=>a) Tryz.func59 rfl (by intro N a b; kernel_rfl)
def zS (N:Nat) (b:aP):Option (Bool) :=
 ((cE N b.Round).bind fun r1 =>
 (some ((r1&&(decide (0≤b.Replica)))&&(decide (b.Replica < 5)))))
def aCr:Con τ:=cn [.ty 25] [] (.ty 4) [] (fun N a b=>zS N a.1) fun r=>(r,())
theorem aMG:aF E C 58 aCr:=ok0 aCr [(59,mN)] [] 0 [] [] ⟨pQ,trivial⟩ (fun a b=>a) Tryz.func58 rfl (by intro N a b; kernel_rfl)
structure vL where
 i:Int
def aIh:List Sl:=[.k,.k,.j,.sh (.ty 2),.j,.j,.j,.j,.j,.j,.j,.j,.j]
def aIi:List ESh:=[.keep]
def aUq (a:Sl.Ts τ aIh) (b:ESh.Ts τ aIi):vL:=⟨a.2.2.2.1⟩
def aUr (s:vL):Sl.Ts τ aIh:=((),(),(),s.i,(),(),(),(),(),(),(),(),(),())
def aUs (s:vL):ESh.Ts τ aIi:=((),())
def aUt:Lp τ:={ ts:=aIh,hs:=aIi,S:=vL,to:=aUq,ot:=aUr,oh:=aUs,hk:=[2],tk:=[0,2],ot_to:=fun _ _=>rfl,oh_to:=fun _ _=>rfl }
def pR (N:Nat) (v:Vector (Int) 8):Option (Bool) :=
 (bE N (fun (s1:vL) next2 =>
 (bif (decide (s1.i < 8)) then
 (bif (ibB s1.i 8) then
 ((cE N (bC v ((s1.i).toNat) default)).bind fun r3 =>
 (bif (!r3) then
 (some false)
 else
 (next2 ⟨(IntKind.i64.wrap (s1.i+1))⟩)))
 else none)
 else
 (some true))) ⟨0⟩)
def zT:Con τ:=cn [.ty 34] [] (.ty 4) [] (fun N a b=>pR N a.1) fun r=>(r,())
theorem aIj:aF E C 60 zT:=ok0 zT [(59,mN)] [(2,aUt)] 0 [] [] ⟨pQ,trivial⟩ (fun a b=>a) Tryz.func60 rfl (by intro N a b; kernel_rfl)
def aIk (N:Nat) (e:aC):Option (aC×Bool) :=
 (bif (e.Kind==0) then
 (some ((⟨e.Kind,0,0,(⟨(⟨0,0⟩:aL),0,0,0,[],[],[]⟩:GOp),0,0,[],(⟨0,(Vector.replicate 8 (default:Int)),(Vector.replicate 8 (default:Int)),(Vector.replicate 8 (default:Int))⟩:aD),0,(Vector.replicate 8 (default:Int)),0,(⟨0,0,0,[]⟩:aE),0,0,0⟩:aC),true))
 else
 (bif (e.Kind==1) then
 (some ((⟨e.Kind,e.Session,e.Request,e.Op,0,0,[],(⟨0,(Vector.replicate 8 (default:Int)),(Vector.replicate 8 (default:Int)),(Vector.replicate 8 (default:Int))⟩:aD),0,(Vector.replicate 8 (default:Int)),0,(⟨0,0,0,[]⟩:aE),0,0,0⟩:aC),true))
 else
 (bif (e.Kind==2) then
 (some ((⟨e.Kind,0,0,(⟨(⟨0,0⟩:aL),0,0,0,[],[],[]⟩:GOp),e.Origin,e.Seq,e.Ops,(⟨0,(Vector.replicate 8 (default:Int)),(Vector.replicate 8 (default:Int)),(Vector.replicate 8 (default:Int))⟩:aD),0,(Vector.replicate 8 (default:Int)),0,(⟨0,0,0,[]⟩:aE),0,0,0⟩:aC),true))
 else
 (bif (e.Kind==3) then
 (some ((⟨e.Kind,0,0,(⟨(⟨0,0⟩:aL),0,0,0,[],[],[]⟩:GOp),0,0,[],e.Epoch,0,(Vector.replicate 8 (default:Int)),0,(⟨0,0,0,[]⟩:aE),0,0,0⟩:aC),true))
 else
 (bif (e.Kind==4) then
 (some ((⟨e.Kind,0,0,(⟨(⟨0,0⟩:aL),0,0,0,[],[],[]⟩:GOp),0,e.Seq,[],(⟨0,(Vector.replicate 8 (default:Int)),(Vector.replicate 8 (default:Int)),(Vector.replicate 8 (default:Int))⟩:aD),e.From,e.Vector_,e.Clock,(⟨0,0,0,[]⟩:aE),0,0,0⟩:aC),true))
 else
 (bif (e.Kind==5) then
 (some ((⟨e.Kind,0,0,(⟨(⟨0,0⟩:aL),0,0,0,[],[],[]⟩:GOp),0,0,[],(⟨0,(Vector.replicate 8 (default:Int)),(Vector.replicate 8 (default:Int)),(Vector.replicate 8 (default:Int))⟩:aD),0,(Vector.replicate 8 (default:Int)),0,e.Part,0,0,0⟩:aC),true))
 else
 (bif (e.Kind==6) then
 (some ((⟨e.Kind,0,0,(⟨(⟨0,0⟩:aL),0,0,0,[],[],[]⟩:GOp),0,0,[],(⟨0,(Vector.replicate 8 (default:Int)),(Vector.replicate 8 (default:Int)),(Vector.replicate 8 (default:Int))⟩:aD),0,(Vector.replicate 8 (default:Int)),0,(⟨0,0,0,[]⟩:aE),e.Site,e.Sponsor,0⟩:aC),true))
 else
 (bif (e.Kind==7) then
 (some ((⟨e.Kind,0,0,(⟨(⟨0,0⟩:aL),0,0,0,[],[],[]⟩:GOp),0,0,[],(⟨0,(Vector.replicate 8 (default:Int)),(Vector.replicate 8 (default:Int)),(Vector.replicate 8 (default:Int))⟩:aD),0,(Vector.replicate 8 (default:Int)),0,(⟨0,0,0,[]⟩:aE),e.Site,0,0⟩:aC),true))
 else
 (bif (e.Kind==8) then
 (some ((⟨e.Kind,0,0,(⟨(⟨0,0⟩:aL),0,0,0,[],[],[]⟩:GOp),0,0,[],(⟨0,(Vector.replicate 8 (default:Int)),(Vector.replicate 8 (default:Int)),(Vector.replicate 8 (default:Int))⟩:aD),0,(Vector.replicate 8 (default:Int)),0,(⟨0,0,0,[]⟩:aE),e.Site,0,e.Length⟩:aC),true))
 else
 (some ((⟨e.Kind,0,0,(⟨(⟨0,0⟩:aL),0,0,0,[],[],[]⟩:GOp),0,0,[],(⟨0,(Vector.replicate 8 (default:Int)),(Vector.replicate 8 (default:Int)),(Vector.replicate 8 (default:Int))⟩:aD),0,(Vector.replicate 8 (default:Int)),0,(⟨0,0,0,[]⟩:aE),0,0,0⟩:aC),false)))))))))))
def aIl:Con τ:=cn [.ty 41] [] (.tup [.ty 41,.ty 4]) [] (fun N a b=>aIk N a.1) fun r=>((r.1,r.2,()),())
theorem aUu:aF E C 114 aIl:=ok0 aIl [] [] 0 [] [] trivial (fun a b=>(a.1,a.2.1)) Tryz.func114 rfl (by intro N a b; kernel_rfl)
def dA (N:Nat) (n:Int):Option (Bool) :=
 (some ((decide (0≤n))&&(decide (n < 8))))
def zU:Con τ:=cn [.ty 3] [] (.ty 4) [] (fun N a b=>dA N a.1) fun r=>(r,())
theorem aIm:aF E C 63 zU:=ok0 zU [] [] 0 [] [] trivial (fun a b=>a) Tryz.func63 rfl (by intro N a b; kernel_rfl)
def aIn (N:Nat) (s:aL):Option (Bool) :=
 ((cE N s.Time).bind fun r1 =>
 ((bif r1 then dA N s.Site else some default).bind fun r2 =>
 (some (r1&&r2))))
def aIo:Con τ:=cn [.ty 28] [] (.ty 4) [] (fun N a b=>aIn N a.1) fun r=>(r,())
theorem aUv:aF E C 143 aIo:=ok0 aIo [(59,mN),(63,zU)] [] 0 [] [] ⟨pQ,⟨aIm,trivial⟩⟩ (fun a b=>a) Tryz.func143 rfl (by intro N a b; kernel_rfl)
def aCs (N:Nat) (n:Int):Option (Bool) :=
 (some ((decide (0≤n))&&(decide (n≤1125899906842624))))
def aIp:Con τ:=cn [.ty 2] [] (.ty 4) [] (fun N a b=>aCs N a.1) fun r=>(r,())
theorem aUw:aF E C 144 aIp:=ok0 aIp [] [] 0 [] [] trivial (fun a b=>a) Tryz.func144 rfl (by intro N a b; kernel_rfl)
def sB (N:Nat) (op:GOp):Option (Bool) :=
 ((aIn N op.Stamp).bind fun r1 =>
 ((bif ((r1&&(decide (1≤op.Kind)))&&(decide (op.Kind≤3))) then aCs N op.Node else some default).bind fun r2 =>
 ((bif (((r1&&(decide (1≤op.Kind)))&&(decide (op.Kind≤3)))&&r2) then aCs N op.Parent else some default).bind fun r3 =>
 (some (((((((r1&&(decide (1≤op.Kind)))&&(decide (op.Kind≤3)))&&r2)&&r3)&&(decide (((op.Name).length:Int)≤255)))&&(decide (((op.Key).length:Int)≤255)))&&(decide (((op.Value).length:Int)≤255)))))))
def aCt:Con τ:=cn [.ty 30] [] (.ty 4) [] (fun N a b=>sB N a.1) fun r=>(r,())
theorem aMH:aF E C 115 aCt:=ok0 aCt [(143,aIo),(144,aIp)] [] 0 [] [] ⟨aUv,⟨aUw,trivial⟩⟩ (fun a b=>a) Tryz.func115 rfl (by intro N a b; kernel_rfl)
structure vM where
 i:Int
def aIq:List Sl:=[.k,.k,.j,.sh (.ty 2),.j,.j,.j,.j,.j,.j,.j,.j,.j,.j,.j,.j,.k,.k,.k,.k,.k,.k,.k,.k]
def aIr:List ESh:=[]
def aUx (a:Sl.Ts τ aIq) (b:ESh.Ts τ aIr):vM:=⟨a.2.2.2.1⟩
def aUy (s:vM):Sl.Ts τ aIq:=((),(),(),s.i,(),(),(),(),(),(),(),(),(),(),(),(),(),(),(),(),(),(),(),(),())
def aUz (s:vM):ESh.Ts τ aIr:=()
def aUA:Lp τ:={ ts:=aIq,hs:=aIr,S:=vM,to:=aUx,ot:=aUy,oh:=aUz,hk:=[],tk:=[],ot_to:=fun _ _=>rfl,oh_to:=fun _ _=>rfl }
def sC (N:Nat) (l:List (GOp)):Option (Bool) :=
 (bE N (fun (s1:vM) next2 =>
 (bif (decide (s1.i < ((l).length:Int))) then
 (bif (ibB s1.i ((l).length:Int)) then
 ((sB N (⟨((aA l s1.i default).Stamp),(aA l s1.i default).Kind,(aA l s1.i default).Node,(aA l s1.i default).Parent,(aA l s1.i default).Name,(aA l s1.i default).Key,(aA l s1.i default).Value⟩:GOp)).bind fun r3 =>
 (bif (!r3) then
 (some false)
 else
 (next2 ⟨(IntKind.i64.wrap (s1.i+1))⟩)))
 else none)
 else
 (some ((decide (0 < ((l).length:Int)))&&(decide (((l).length:Int)≤4096)))))) ⟨0⟩)
def aCu:Con τ:=cn [.ty 31] [] (.ty 4) [] (fun N a b=>sC N a.1) fun r=>(r,())
theorem aMI:aF E C 64 aCu:=ok0 aCu [(115,aCt)] [(2,aUA)] 0 [] [] ⟨aMH,trivial⟩ (fun a b=>a) Tryz.func64 rfl (by intro N a b; kernel_rfl)
structure vN where
 i:Int
def aIs:List Sl:=[.k,.k,.j,.sh (.ty 2),.j,.j,.j,.j,.j,.j,.j,.j,.j,.j,.j,.j,.j,.j,.j,.j,.j,.j,.j,.j,.j,.j,.j,.j,.j,.j,.j,.j,.j,.j,.k,.k,.k,.k,.k,.k,.k,.k]
def aIt:List ESh:=[.keep]
def aUB (a:Sl.Ts τ aIs) (b:ESh.Ts τ aIt):vN:=⟨a.2.2.2.1⟩
def aUC (s:vN):Sl.Ts τ aIs:=((),(),(),s.i,(),(),(),(),(),(),(),(),(),(),(),(),(),(),(),(),(),(),(),(),(),(),(),(),(),(),(),(),(),(),(),(),(),(),(),(),(),(),())
def aUD (s:vN):ESh.Ts τ aIt:=((),())
def aUE:Lp τ:={ ts:=aIs,hs:=aIt,S:=vN,to:=aUB,ot:=aUC,oh:=aUD,hk:=[2],tk:=[0,2],ot_to:=fun _ _=>rfl,oh_to:=fun _ _=>rfl }
def sD (N:Nat) (e:aD):Option (Bool) :=
 (bE N (fun (s1:vN) next2 =>
 (bif (decide (s1.i < 8)) then
 (bif (ibB s1.i 8) then
 (bif (!(!(decide ((bC e.States ((s1.i).toNat) default) < 0))) || (ibB s1.i 8)) then
 (bif (!(!((decide ((bC e.States ((s1.i).toNat) default) < 0)) || (decide (3 < (bC e.States ((s1.i).toNat) default))))) || (ibB s1.i 8)) then
 (bif (!(!(((decide ((bC e.States ((s1.i).toNat) default) < 0)) || (decide (3 < (bC e.States ((s1.i).toNat) default)))) || (decide ((bC e.Sponsor ((s1.i).toNat) default) < (-1))))) || (ibB s1.i 8)) then
 (bif ((((decide ((bC e.States ((s1.i).toNat) default) < 0)) || (decide (3 < (bC e.States ((s1.i).toNat) default)))) || (decide ((bC e.Sponsor ((s1.i).toNat) default) < (-1)))) || (decide (8≤(bC e.Sponsor ((s1.i).toNat) default)))) then
 (some false)
 else
 (next2 ⟨(IntKind.i64.wrap (s1.i+1))⟩))
 else none)
 else none)
 else none)
 else none)
 else
 ((cE N e.Number).bind fun r3 =>
 ((bif r3 then pR N e.Seals else some default).bind fun r4 =>
 (some (r3&&r4)))))) ⟨0⟩)
def aCv:Con τ:=cn [.ty 36] [] (.ty 4) [] (fun N a b=>sD N a.1) fun r=>(r,())
theorem aMJ:aF E C 65 aCv:=ok0 aCv [(59,mN),(60,zT)] [(2,aUE)] 0 [] [] ⟨pQ,⟨aIj,trivial⟩⟩ (fun a b=>a) Tryz.func65 rfl (by intro N a b; kernel_rfl)
def pS (N:Nat) (p:aE):Option (Bool) :=
 ((cE N p.Snap).bind fun r1 =>
 (some (((((r1&&(decide (1≤p.Many)))&&(decide (p.Many≤4096)))&&(decide (0≤p.Index)))&&(decide (p.Index < p.Many)))&&(decide (((p.Data).length:Int)≤16384)))))
def aCw:Con τ:=cn [.ty 39] [] (.ty 4) [] (fun N a b=>pS N a.1) fun r=>(r,())
theorem aMK:aF E C 66 aCw:=ok0 aCw [(59,mN)] [] 0 [] [] ⟨pQ,trivial⟩ (fun a b=>a) Tryz.func66 rfl (by intro N a b; kernel_rfl)
def gU (N:Nat) (e:aC):Option (Bool) :=
 ((aIk N e).bind fun r1 =>
 ((bif (!(!r1.2)) then gT N e r1.1 else some default).bind fun r2 =>
 (bif ((!r1.2) || (!r2)) then
 (some false)
 else
 (bif (e.Kind==1) then
 ((cE N e.Session).bind fun r3 =>
 ((bif (r3&&(decide (0 < e.Session))) then cE N e.Request else some default).bind fun r4 =>
 ((bif (((r3&&(decide (0 < e.Session)))&&r4)&&(decide (0 < e.Request))) then sB N e.Op else some default).bind fun r5 =>
 (some ((((r3&&(decide (0 < e.Session)))&&r4)&&(decide (0 < e.Request)))&&r5)))))
 else
 (bif (e.Kind==2) then
 ((dA N e.Origin).bind fun r6 =>
 ((bif r6 then cE N e.Seq else some default).bind fun r7 =>
 ((bif (r6&&r7) then sC N e.Ops else some default).bind fun r8 =>
 (some ((r6&&r7)&&r8)))))
 else
 (bif (e.Kind==3) then
 ((sD N e.Epoch).bind fun r9 =>
 (some r9))
 else
 (bif (e.Kind==4) then
 ((cE N e.Seq).bind fun r10 =>
 ((bif r10 then dA N e.From else some default).bind fun r11 =>
 ((bif (r10&&r11) then pR N e.Vector_ else some default).bind fun r12 =>
 ((bif ((r10&&r11)&&r12) then cE N e.Clock else some default).bind fun r13 =>
 (some (((r10&&r11)&&r12)&&r13))))))
 else
 (bif (e.Kind==5) then
 ((pS N e.Part).bind fun r14 =>
 (some r14))
 else
 ((dA N e.Site).bind fun r15 =>
 ((bif r15 then dA N e.Sponsor else some default).bind fun r16 =>
 ((bif (r15&&r16) then cE N e.Length else some default).bind fun r17 =>
 (some ((r15&&r16)&&r17)))))))))))))
def aCx:Con τ:=cn [.ty 41] [] (.ty 4) [] (fun N a b=>gU N a.1) fun r=>(r,())
theorem aML:aF E C 62 aCx:=ok0 aCx [(114,aIl),(35,zP),(59,mN),(115,aCt),(63,zU),(64,aCu),(65,aCv),(60,zT),(66,aCw)] [] 0 [] [] ⟨aUu,⟨aIb,⟨pQ,⟨aMH,⟨aIm,⟨aMI,⟨aMJ,⟨aIj,⟨aMK,trivial⟩⟩⟩⟩⟩⟩⟩⟩⟩ (fun a b=>a) Tryz.func62 rfl (by intro N a b; kernel_rfl)
structure vO where
 i:Int
def aIu:List Sl:=[.k,.k,.k,.k,.k,.k,.j,.sh (.ty 2),.j,.j,.j,.j,.j,.j,.j,.j,.j,.j,.j,.j,.j,.j,.j,.j,.j,.j,.j,.j,.j,.j,.j,.j,.j,.j,.j,.j,.j,.j,.j,.k,.k,.k,.k,.k,.k,.k,.k,.k,.k]
def aIv:List ESh:=[]
def aUF (a:Sl.Ts τ aIu) (b:ESh.Ts τ aIv):vO:=⟨a.2.2.2.2.2.2.2.1⟩
def aUG (s:vO):Sl.Ts τ aIu:=((),(),(),(),(),(),(),s.i,(),(),(),(),(),(),(),(),(),(),(),(),(),(),(),(),(),(),(),(),(),(),(),(),(),(),(),(),(),(),(),(),(),(),(),(),(),(),(),(),(),())
def aUH (s:vO):ESh.Ts τ aIv:=()
def aUI:Lp τ:={ ts:=aIu,hs:=aIv,S:=vO,to:=aUF,ot:=aUG,oh:=aUH,hk:=[],tk:=[],ot_to:=fun _ _=>rfl,oh_to:=fun _ _=>rfl }
def vP (N:Nat) (l:List (aQ)) (least:Int) (most:Int):Option (Bool) :=
 (bE N (fun (s1:vO) next2 =>
 (bif (decide (s1.i < ((l).length:Int))) then
 (bif (ibB s1.i ((l).length:Int)) then
 ((cE N ((aA l s1.i default).Slot)).bind fun r3 =>
 (bif (!(!(!r3)) || (ibB s1.i ((l).length:Int))) then
 ((bif (!(!r3)) then zS N ((aA l s1.i default).Ballot) else some default).bind fun r4 =>
 (bif (!(!((!r3) || (!r4))) || (ibB s1.i ((l).length:Int))) then
 ((bif (!((!r3) || (!r4))) then gU N (⟨((aA l s1.i default).Entry).Kind,((aA l s1.i default).Entry).Session,((aA l s1.i default).Entry).Request,(⟨((((aA l s1.i default).Entry).Op).Stamp),(((aA l s1.i default).Entry).Op).Kind,(((aA l s1.i default).Entry).Op).Node,(((aA l s1.i default).Entry).Op).Parent,(((aA l s1.i default).Entry).Op).Name,(((aA l s1.i default).Entry).Op).Key,(((aA l s1.i default).Entry).Op).Value⟩:GOp),((aA l s1.i default).Entry).Origin,((aA l s1.i default).Entry).Seq,((aA l s1.i default).Entry).Ops,(((aA l s1.i default).Entry).Epoch),((aA l s1.i default).Entry).From,((aA l s1.i default).Entry).Vector_,((aA l s1.i default).Entry).Clock,(((aA l s1.i default).Entry).Part),((aA l s1.i default).Entry).Site,((aA l s1.i default).Entry).Sponsor,((aA l s1.i default).Entry).Length⟩:aC) else some default).bind fun r5 =>
 (bif (((!r3) || (!r4)) || (!r5)) then
 (some false)
 else
 (next2 ⟨(IntKind.i64.wrap (s1.i+1))⟩)))
 else none))
 else none))
 else none)
 else
 (some ((decide (least≤((l).length:Int)))&&(decide (((l).length:Int)≤most)))))) ⟨0⟩)
def aIw:Con τ:=cn [.ty 26,.ty 3,.ty 3] [] (.ty 4) [] (fun N a b=>vP N a.1 a.2.1 a.2.2.1) fun r=>(r,())
theorem aUJ:aF E C 61 aIw:=ok0 aIw [(59,mN),(58,aCr),(62,aCx)] [(2,aUI)] 0 [] [] ⟨pQ,⟨aMG,⟨aML,trivial⟩⟩⟩ (fun a b=>a) Tryz.func61 rfl (by intro N a b; kernel_rfl)
def zW (N:Nat) (m:aB):Option (Bool) :=
 ((zL N m).bind fun r1 =>
 ((bif (!(!r1.2)) then sA N m r1.1 else some default).bind fun r2 =>
 ((bif (!((!r1.2) || (!r2))) then zR N m.From else some default).bind fun r3 =>
 ((bif (!(((!r1.2) || (!r2)) || (!r3))) then zR N m.To else some default).bind fun r4 =>
 (bif ((((!r1.2) || (!r2)) || (!r3)) || (!r4)) then
 (some false)
 else
 ((zS N m.Ballot).bind fun r5 =>
 ((bif (!(!r5)) then cE N m.Slot else some default).bind fun r6 =>
 ((bif (!((!r5) || (!r6))) then cE N m.Number else some default).bind fun r7 =>
 ((bif (!(((!r5) || (!r6)) || (!r7))) then pR N m.Vector_ else some default).bind fun r8 =>
 ((bif (!((((!r5) || (!r6)) || (!r7)) || (!r8))) then cE N m.Clock else some default).bind fun r9 =>
 (bif (((((!r5) || (!r6)) || (!r7)) || (!r8)) || (!r9)) then
 (some false)
 else
 (bif (m.Kind==2) then
 ((vP N m.List_ 0 4096).bind fun r10 =>
 (some r10))
 else
 (bif (m.Kind==3) then
 ((vP N m.List_ 1 1).bind fun r11 =>
 (some r11))
 else
 (bif (m.Kind==6) then
 ((vP N m.List_ 1 4096).bind fun r12 =>
 (some r12))
 else
 (bif (m.Kind==9) then
 ((gU N m.Entry).bind fun r13 =>
 (some r13))
 else
 (bif (m.Kind==11) then
 ((dA N m.Origin).bind fun r14 =>
 ((bif r14 then sC N m.Ops else some default).bind fun r15 =>
 (some (r14&&r15))))
 else
 (bif (m.Kind==12) then
 ((sD N m.Epoch).bind fun r16 =>
 (some r16))
 else
 (bif (m.Kind==13) then
 (bif (m.Kind==13) then
 ((pS N m.Part).bind fun r17 =>
 (some r17))
 else
 (some true))
 else
 (bif (m.Kind==15) then
 ((pS N m.Part).bind fun r18 =>
 (some r18))
 else
 (some true))))))))))))))))))))
def aIx:Con τ:=cn [.ty 43] [] (.ty 4) [] (fun N a b=>zW N a.1) fun r=>(r,())
theorem aUK:aF E C 28 aIx:=ok0 aIx [(56,aH8),(14,aCq),(57,aIg),(58,aCr),(59,mN),(60,zT),(61,aIw),(62,aCx),(63,zU),(64,aCu),(65,aCv),(66,aCw)] [] 0 [] [] ⟨aUe,⟨aMF,⟨aUp,⟨aMG,⟨pQ,⟨aIj,⟨aUJ,⟨aML,⟨aIm,⟨aMI,⟨aMJ,⟨aMK,trivial⟩⟩⟩⟩⟩⟩⟩⟩⟩⟩⟩⟩ (fun a b=>a) Tryz.func28 rfl (by intro N a b; kernel_rfl)
structure pU where
 u:Int
 b:List (Int)
def aIy:List Sl:=[.k,.k,.k,.sh (.ty 12),.sh (.own 5 0),.k,.k,.k,.k,.k,.k,.k,.k,.k,.k,.k,.j,.j,.j,.j,.j,.j,.j,.j,.j,.j,.j,.k,.k,.k,.k,.k]
def aIz:List ESh:=[.tail]
def aUL (a:Sl.Ts τ aIy) (b:ESh.Ts τ aIz):pU:=⟨a.2.2.2.1,a.2.2.2.2.1⟩
def aUM (s:pU):Sl.Ts τ aIy:=((),(),(),s.u,s.b,(),(),(),(),(),(),(),(),(),(),(),(),(),(),(),(),(),(),(),(),(),(),(),(),(),(),(),())
def aUN (s:pU):ESh.Ts τ aIz:=((),())
def aUO:Lp τ:={ ts:=aIy,hs:=aIz,S:=pU,to:=aUL,ot:=aUM,oh:=aUN,hk:=[],tk:=[],ot_to:=fun _ _=>rfl,oh_to:=fun _ _=>rfl }
def sE (N:Nat) (n:Int):Option ((List (Int))) :=
 (bif (decide (n < 0)) then
 (bE N (fun (s1:pU) next2 =>
 (bif (decide (128≤s1.u)) then
 (bif (aO ((s1.b).length+([(IntKind.u8.wrap ((IntKind.u8.wrap (Int.tmod s1.u 128))+128))]).length) 1) then
 (next2 ⟨(IntKind.u64.wrap (Int.tdiv s1.u 128)),(s1.b++[(IntKind.u8.wrap ((IntKind.u8.wrap (Int.tmod s1.u 128))+128))])⟩)
 else none)
 else
 (bif (aO ((s1.b).length+([(IntKind.u8.wrap s1.u)]).length) 1) then
 (some (s1.b++[(IntKind.u8.wrap s1.u)]))
 else none))) ⟨(IntKind.u64.wrap ((IntKind.u64.wrap ((IntKind.u64.wrap (IntKind.i64.wrap (0 - (IntKind.i64.wrap (n+1))))) * 2))+1)),[]⟩)
 else
 (bE N (fun (s3:pU) next4 =>
 (bif (decide (128≤s3.u)) then
 (bif (aO ((s3.b).length+([(IntKind.u8.wrap ((IntKind.u8.wrap (Int.tmod s3.u 128))+128))]).length) 1) then
 (next4 ⟨(IntKind.u64.wrap (Int.tdiv s3.u 128)),(s3.b++[(IntKind.u8.wrap ((IntKind.u8.wrap (Int.tmod s3.u 128))+128))])⟩)
 else none)
 else
 (bif (aO ((s3.b).length+([(IntKind.u8.wrap s3.u)]).length) 1) then
 (some (s3.b++[(IntKind.u8.wrap s3.u)]))
 else none))) ⟨(IntKind.u64.wrap ((IntKind.u64.wrap n) * 2)),[]⟩))
def zX:Con τ:=cn [.ty 2] [] (.own 5 0) [.tail] (fun N a b=>sE N a.1) fun r=>(r,((),()))
theorem aIA:aF E C 116 zX:=ok0 zX [] [(5,aUO)] 0 [] [] trivial (fun a b=>a) Tryz.func116 rfl (by intro N a b; kernel_rfl)
structure vQ where
 b:List (Int)
 i:Int
def aIB:List Sl:=[.sh (.own 5 0),.k,.k,.k,.k,.sh (.ty 2),.j,.j,.j,.j,.j,.j,.j,.j,.j,.j,.j,.j,.j,.k]
def aIC:List ESh:=[.tail]
def aUP (a:Sl.Ts τ aIB) (b:ESh.Ts τ aIC):vQ:=⟨a.1,a.2.2.2.2.2.1⟩
def aUQ (s:vQ):Sl.Ts τ aIB:=(s.b,(),(),(),(),s.i,(),(),(),(),(),(),(),(),(),(),(),(),(),(),())
def aUR (s:vQ):ESh.Ts τ aIC:=((),())
def aUS:Lp τ:={ ts:=aIB,hs:=aIC,S:=vQ,to:=aUP,ot:=aUQ,oh:=aUR,hk:=[],tk:=[],ot_to:=fun _ _=>rfl,oh_to:=fun _ _=>rfl }
def iX (N:Nat) (l:List (Int)):Option ((List (Int))) :=
 (bE N (fun (s1:vQ) next2 =>
 (bif (decide (s1.i < ((l).length:Int))) then
 (bif (ibB s1.i ((l).length:Int)) then
 ((sE N (aA l s1.i default)).bind fun r3 =>
 (bif (aO ((s1.b).length+(r3).length) 1) then
 (next2 ⟨(s1.b++r3),(IntKind.i64.wrap (s1.i+1))⟩)
 else none))
 else none)
 else
 (some s1.b))) ⟨[],0⟩)
def nS:Con τ:=cn [.nil .slice,.ty 60] [] (.own 5 0) [.tail] (fun N a b=>iX N a.2.1) fun r=>(r,((),()))
theorem sF:aF E C 67 nS:=ok0 nS [(116,zX)] [(2,aUS)] 0 [] [] ⟨aIA,trivial⟩ (fun a b=>a) Tryz.func67 rfl (by intro N a b; kernel_rfl)
structure sG where
 b:List (Int)
 i:Int
def aID:List Sl:=[.sh (.own 5 1),.k,.k,.k,.k,.sh (.ty 2),.j,.j,.j,.j,.j,.j,.j,.j,.j,.j,.j,.j,.j,.k]
def aIE:List ESh:=[.dead,.tail]
def aUT (a:Sl.Ts τ aID) (b:ESh.Ts τ aIE):sG:=⟨a.1,a.2.2.2.2.2.1⟩
def aUU (s:sG):Sl.Ts τ aID:=(s.b,(),(),(),(),s.i,(),(),(),(),(),(),(),(),(),(),(),(),(),(),())
def aUV (s:sG):ESh.Ts τ aIE:=((),(),())
def aUW:Lp τ:={ ts:=aID,hs:=aIE,S:=sG,to:=aUT,ot:=aUU,oh:=aUV,hk:=[5],tk:=[],ot_to:=fun _ _=>rfl,oh_to:=fun _ _=>rfl }
def bX (N:Nat) (b:List (Int)) (l:List (Int)):Option ((List (Int))) :=
 (bE N (fun (s1:sG) next2 =>
 (bif (decide (s1.i < ((l).length:Int))) then
 (bif (ibB s1.i ((l).length:Int)) then
 ((sE N (aA l s1.i default)).bind fun r3 =>
 (bif (aO ((s1.b).length+(r3).length) 1) then
 (next2 ⟨(s1.b++r3),(IntKind.i64.wrap (s1.i+1))⟩)
 else none))
 else none)
 else
 (some s1.b))) ⟨b,0⟩)
def sH:Con τ:=cn [.own 5 0,.ty 60] [.tail] (.own 5 1) [.dead,.tail] (fun N a b=>bX N a.1 a.2.1) fun r=>(r,((),(),()))
theorem zY:aF E C 67 sH:=ok0 sH [(116,zX)] [(2,aUW)] 1 [] [] ⟨aIA,trivial⟩ (fun a b=>a) Tryz.func67 rfl (by intro N a b; kernel_rfl)
def pV (N:Nat) (l:List (Int)):Option ((List (Int))) :=
 ((sE N ((l).length:Int)).bind fun r1 =>
 (bif (aO ((r1).length+(l).length) 1) then
 (some (r1++l))
 else none))
def zZ:Con τ:=cn [.ty 37] [] (.own 5 0) [.tail] (fun N a b=>pV N a.1) fun r=>(r,((),()))
theorem aIF:aF E C 75 zZ:=ok0 zZ [(116,zX)] [] 0 [] [] ⟨aIA,trivial⟩ (fun a b=>a) Tryz.func75 rfl (by intro N a b; kernel_rfl)
def vR (N:Nat) (b:List (Int)) (s:List UInt8):Option ((List (Int))) :=
 ((pV N (jU s)).bind fun r1 =>
 (bif (aO ((b).length+(r1).length) 1) then
 (some (b++r1))
 else none))
def aIG:Con τ:=cn [.own 5 0,.ty 9] [.tail] (.own 5 1) [.dead,.tail] (fun N a b=>vR N a.1 a.2.1) fun r=>(r,((),(),()))
theorem aUX:aF E C 145 aIG:=ok0 aIG [(75,zZ)] [] 1 [] [] ⟨aIF,trivial⟩ (fun a b=>a) Tryz.func145 rfl (by intro N a b; kernel_rfl)
def vS (N:Nat) (op:GOp):Option ((List (Int))) :=
 ((iX N [op.Stamp.Time,op.Stamp.Site,op.Kind,op.Node,op.Parent]).bind fun r1 =>
 ((vR N r1 op.Name).bind fun r2 =>
 ((vR N r2 op.Key).bind fun r3 =>
 ((vR N r3 op.Value).bind fun r4 =>
 (some r4)))))
def aCy:Con τ:=cn [.ty 30] [] (.own 5 0) [.tail] (fun N a b=>vS N a.1) fun r=>(r,((),()))
theorem aMM:aF E C 117 aCy:=ok0 aCy [(67,nS),(145,aIG)] [] 0 [] [] ⟨sF,⟨aUX,trivial⟩⟩ (fun a b=>a) Tryz.func117 rfl (by intro N a b; kernel_rfl)
structure vT where
 b:List (Int)
 i:Int
def aIH:List Sl:=[.k,.k,.k,.sh (.own 5 1),.sh (.ty 2),.k,.k,.k,.k,.j,.j,.j,.j,.j,.j,.j,.j,.j,.j,.j,.j,.j,.k]
def aII:List ESh:=[.dead,.tail]
def aUY (a:Sl.Ts τ aIH) (b:ESh.Ts τ aII):vT:=⟨a.2.2.2.1,a.2.2.2.2.1⟩
def aUZ (s:vT):Sl.Ts τ aIH:=((),(),(),s.b,s.i,(),(),(),(),(),(),(),(),(),(),(),(),(),(),(),(),(),(),())
def aU0 (s:vT):ESh.Ts τ aII:=((),(),())
def aU1:Lp τ:={ ts:=aIH,hs:=aII,S:=vT,to:=aUY,ot:=aUZ,oh:=aU0,hk:=[5],tk:=[],ot_to:=fun _ _=>rfl,oh_to:=fun _ _=>rfl }
def sI (N:Nat) (l:List (GOp)):Option ((List (Int))) :=
 ((iX N [((l).length:Int)]).bind fun r1 =>
 (bE N (fun (s2:vT) next3 =>
 (bif (decide (s2.i < ((l).length:Int))) then
 (bif (ibB s2.i ((l).length:Int)) then
 ((vS N (⟨((aA l s2.i default).Stamp),(aA l s2.i default).Kind,(aA l s2.i default).Node,(aA l s2.i default).Parent,(aA l s2.i default).Name,(aA l s2.i default).Key,(aA l s2.i default).Value⟩:GOp)).bind fun r4 =>
 (bif (aO ((s2.b).length+(r4).length) 1) then
 (next3 ⟨(s2.b++r4),(IntKind.i64.wrap (s2.i+1))⟩)
 else none))
 else none)
 else
 (some s2.b))) ⟨r1,0⟩))
def aCz:Con τ:=cn [.ty 31] [] (.ty 37) [] (fun N a b=>sI N a.1) fun r=>(r,())
theorem aMN:aF E C 71 aCz:=ok0 aCz [(67,nS),(117,aCy)] [(3,aU1)] 0 [] [] ⟨sF,⟨aMM,trivial⟩⟩ (fun a b=>a) Tryz.func71 rfl (by intro N a b; kernel_rfl)
structure pW where
 b:List (Int)
 i:Int
def aIJ:List Sl:=[.k,.k,.k,.sh (.own 5 1),.sh (.ty 2),.j,.j,.j,.j,.j,.j,.j,.j,.j,.j,.k]
def aIK:List ESh:=[.keep,.tail]
def aU2 (a:Sl.Ts τ aIJ) (b:ESh.Ts τ aIK):pW:=⟨a.2.2.2.1,a.2.2.2.2.1⟩
def aU3 (s:pW):Sl.Ts τ aIJ:=((),(),(),s.b,s.i,(),(),(),(),(),(),(),(),(),(),(),())
def aU4 (s:pW):ESh.Ts τ aIK:=((),(),())
def aU5:Lp τ:={ ts:=aIJ,hs:=aIK,S:=pW,to:=aU2,ot:=aU3,oh:=aU4,hk:=[2],tk:=[0,2],ot_to:=fun _ _=>rfl,oh_to:=fun _ _=>rfl }
def kM (N:Nat) (v:Vector (Int) 8):Option ((List (Int))) :=
 (bE N (fun (s1:pW) next2 =>
 (bif (decide (s1.i < 8)) then
 (bif (ibB s1.i 8) then
 ((bX N s1.b [(bC v ((s1.i).toNat) default)]).bind fun r3 =>
 (next2 ⟨r3,(IntKind.i64.wrap (s1.i+1))⟩))
 else none)
 else
 (some s1.b))) ⟨[],0⟩)
def aAa:Con τ:=cn [.ty 34] [] (.own 5 0) [.tail] (fun N a b=>kM N a.1) fun r=>(r,((),()))
theorem aIL:aF E C 70 aAa:=ok0 aAa [(67,sH)] [(3,aU5)] 0 [] [] ⟨zY,trivial⟩ (fun a b=>a) Tryz.func70 rfl (by intro N a b; kernel_rfl)
structure pX where
 b:List (Int)
 i:Int
def aIM:List Sl:=[.k,.k,.k,.sh (.own 5 2),.sh (.ty 2),.k,.k,.k,.k,.k,.j,.j,.j,.j,.j,.j,.j,.j,.j,.j,.j,.k,.k,.k,.k,.k,.k,.k,.k,.k,.k,.k,.k,.k,.k,.k,.k,.k]
def aIN:List ESh:=[.keep,.dead,.tail]
def aU6 (a:Sl.Ts τ aIM) (b:ESh.Ts τ aIN):pX:=⟨a.2.2.2.1,a.2.2.2.2.1⟩
def aU7 (s:pX):Sl.Ts τ aIM:=((),(),(),s.b,s.i,(),(),(),(),(),(),(),(),(),(),(),(),(),(),(),(),(),(),(),(),(),(),(),(),(),(),(),(),(),(),(),(),(),())
def aU8 (s:pX):ESh.Ts τ aIN:=((),(),(),())
def aU9:Lp τ:={ ts:=aIM,hs:=aIN,S:=pX,to:=aU6,ot:=aU7,oh:=aU8,hk:=[2,5],tk:=[0,2,0,0,0,0,2],ot_to:=fun _ _=>rfl,oh_to:=fun _ _=>rfl }
structure pY where
 b:List (Int)
 i:Int
def aIO:List Sl:=[.k,.k,.k,.sh (.own 5 5),.k,.sh (.ty 2),.k,.k,.k,.k,.k,.k,.k,.k,.k,.k,.k,.k,.k,.k,.k,.k,.k,.k,.k,.k,.j,.j,.j,.j,.j,.j,.j,.j,.j,.j,.j,.k]
def aIP:List ESh:=[.keep,.keep,.keep,.keep,.dead,.tail]
def aVa (a:Sl.Ts τ aIO) (b:ESh.Ts τ aIP):pY:=⟨a.2.2.2.1,a.2.2.2.2.2.1⟩
def aVb (s:pY):Sl.Ts τ aIO:=((),(),(),s.b,(),s.i,(),(),(),(),(),(),(),(),(),(),(),(),(),(),(),(),(),(),(),(),(),(),(),(),(),(),(),(),(),(),(),(),())
def aVc (s:pY):ESh.Ts τ aIP:=((),(),(),(),(),(),())
def aVd:Lp τ:={ ts:=aIO,hs:=aIP,S:=pY,to:=aVa,ot:=aVb,oh:=aVc,hk:=[2,1,1,5,5],tk:=[0,2,0,0,0,0,2,0,0,0,0,0,0,0,0,0,0,0,0,0,0,0,2],ot_to:=fun _ _=>rfl,oh_to:=fun _ _=>rfl }
def sJ (N:Nat) (e:aD):Option ((List (Int))) :=
 ((iX N [e.Number]).bind fun r1 =>
 (bE N (fun (s2:pX) next3 =>
 (bif (decide (s2.i < 8)) then
 (bif (ibB s2.i 8) then
 ((bX N s2.b [(bC e.States ((s2.i).toNat) default)]).bind fun r4 =>
 (next3 ⟨r4,(IntKind.i64.wrap (s2.i+1))⟩))
 else none)
 else
 ((kM N e.Seals).bind fun r5 =>
 (bif (aO ((s2.b).length+(r5).length) 1) then
 (bE N (fun (s6:pY) next7 =>
 (bif (decide (s6.i < 8)) then
 (bif (ibB s6.i 8) then
 ((bX N s6.b [(bC e.Sponsor ((s6.i).toNat) default)]).bind fun r8 =>
 (next7 ⟨r8,(IntKind.i64.wrap (s6.i+1))⟩))
 else none)
 else
 (some s6.b))) ⟨(s2.b++r5),0⟩)
 else none)))) ⟨r1,0⟩))
def aCA:Con τ:=cn [.ty 36] [] (.own 5 0) [.tail] (fun N a b=>sJ N a.1) fun r=>(r,((),()))
theorem aMO:aF E C 72 aCA:=ok0 aCA [(67,nS),(67,sH),(70,aAa)] [(3,aU9),(8,aVd)] 0 [] [] ⟨sF,⟨zY,⟨aIL,trivial⟩⟩⟩ (fun a b=>a) Tryz.func72 rfl (by intro N a b; kernel_rfl)
def mO (N:Nat) (p:aE):Option ((List (Int))) :=
 ((iX N [p.Snap,p.Index,p.Many]).bind fun r1 =>
 ((pV N p.Data).bind fun r2 =>
 (bif (aO ((r1).length+(r2).length) 1) then
 (some (r1++r2))
 else none)))
def aCB:Con τ:=cn [.ty 39] [] (.ty 37) [] (fun N a b=>mO N a.1) fun r=>(r,())
theorem aMP:aF E C 73 aCB:=ok0 aCB [(67,nS),(75,zZ)] [] 0 [] [] ⟨sF,⟨aIF,trivial⟩⟩ (fun a b=>a) Tryz.func73 rfl (by intro N a b; kernel_rfl)
def pZ (N:Nat) (e:aC):Option ((List (Int))) :=
 ((iX N [e.Kind]).bind fun r1 =>
 (bif (e.Kind==1) then
 ((bX N r1 [e.Session,e.Request]).bind fun r2 =>
 ((vS N e.Op).bind fun r3 =>
 (bif (aO ((r2).length+(r3).length) 1) then
 (some (r2++r3))
 else none)))
 else
 (bif (e.Kind==2) then
 ((bX N r1 [e.Origin,e.Seq]).bind fun r4 =>
 ((sI N e.Ops).bind fun r5 =>
 (bif (aO ((r4).length+(r5).length) 1) then
 (some (r4++r5))
 else none)))
 else
 (bif (e.Kind==3) then
 ((sJ N e.Epoch).bind fun r6 =>
 (bif (aO ((r1).length+(r6).length) 1) then
 (some (r1++r6))
 else none))
 else
 (bif (e.Kind==4) then
 ((bX N r1 [e.Seq,e.From]).bind fun r7 =>
 ((kM N e.Vector_).bind fun r8 =>
 (bif (aO ((r7).length+(r8).length) 1) then
 ((bX N (r7++r8) [e.Clock]).bind fun r9 =>
 (some r9))
 else none)))
 else
 (bif (e.Kind==5) then
 ((mO N e.Part).bind fun r10 =>
 (bif (aO ((r1).length+(r10).length) 1) then
 (some (r1++r10))
 else none))
 else
 (bif (e.Kind==6) then
 ((bX N r1 [e.Site,e.Sponsor]).bind fun r11 =>
 (some r11))
 else
 (bif (e.Kind==7) then
 ((bX N r1 [e.Site]).bind fun r12 =>
 (some r12))
 else
 (bif (e.Kind==8) then
 ((bX N r1 [e.Site,e.Length]).bind fun r13 =>
 (some r13))
 else
 (some r1))))))))))
def aCC:Con τ:=cn [.ty 41] [] (.ty 37) [] (fun N a b=>pZ N a.1) fun r=>(r,())
theorem aMQ:aF E C 69 aCC:=ok0 aCC [(67,nS),(67,sH),(117,aCy),(71,aCz),(72,aCA),(70,aAa),(73,aCB)] [] 0 [] [] ⟨sF,⟨zY,⟨aMM,⟨aMN,⟨aMO,⟨aIL,⟨aMP,trivial⟩⟩⟩⟩⟩⟩⟩ (fun a b=>a) Tryz.func69 rfl (by intro N a b; kernel_rfl)
structure vU where
 b:List (Int)
 i:Int
def aIQ:List Sl:=[.k,.k,.k,.sh (.own 5 1),.sh (.ty 2),.k,.k,.k,.k,.j,.j,.j,.j,.j,.j,.j,.j,.j,.j,.j,.j,.j,.j,.j,.j,.j,.j,.j,.j,.j,.j,.j,.j,.j,.j,.j,.j,.j,.j,.j,.j,.j,.j,.k]
def aIR:List ESh:=[.dead,.tail]
def aVe (a:Sl.Ts τ aIQ) (b:ESh.Ts τ aIR):vU:=⟨a.2.2.2.1,a.2.2.2.2.1⟩
def aVf (s:vU):Sl.Ts τ aIQ:=((),(),(),s.b,s.i,(),(),(),(),(),(),(),(),(),(),(),(),(),(),(),(),(),(),(),(),(),(),(),(),(),(),(),(),(),(),(),(),(),(),(),(),(),(),(),())
def aVg (s:vU):ESh.Ts τ aIR:=((),(),())
def aVh:Lp τ:={ ts:=aIQ,hs:=aIR,S:=vU,to:=aVe,ot:=aVf,oh:=aVg,hk:=[5],tk:=[],ot_to:=fun _ _=>rfl,oh_to:=fun _ _=>rfl }
def kN (N:Nat) (l:List (aQ)):Option ((List (Int))) :=
 ((iX N [((l).length:Int)]).bind fun r1 =>
 (bE N (fun (s2:vU) next3 =>
 (bif (decide (s2.i < ((l).length:Int))) then
 (bif (ibB s2.i ((l).length:Int)) then
 (bif (ibB s2.i ((l).length:Int)) then
 (bif (ibB s2.i ((l).length:Int)) then
 ((bX N s2.b [(aA l s2.i default).Slot,((aA l s2.i default).Ballot).Round,((aA l s2.i default).Ballot).Replica]).bind fun r4 =>
 (bif (ibB s2.i ((l).length:Int)) then
 ((pZ N (⟨((aA l s2.i default).Entry).Kind,((aA l s2.i default).Entry).Session,((aA l s2.i default).Entry).Request,(⟨((((aA l s2.i default).Entry).Op).Stamp),(((aA l s2.i default).Entry).Op).Kind,(((aA l s2.i default).Entry).Op).Node,(((aA l s2.i default).Entry).Op).Parent,(((aA l s2.i default).Entry).Op).Name,(((aA l s2.i default).Entry).Op).Key,(((aA l s2.i default).Entry).Op).Value⟩:GOp),((aA l s2.i default).Entry).Origin,((aA l s2.i default).Entry).Seq,((aA l s2.i default).Entry).Ops,(((aA l s2.i default).Entry).Epoch),((aA l s2.i default).Entry).From,((aA l s2.i default).Entry).Vector_,((aA l s2.i default).Entry).Clock,(((aA l s2.i default).Entry).Part),((aA l s2.i default).Entry).Site,((aA l s2.i default).Entry).Sponsor,((aA l s2.i default).Entry).Length⟩:aC)).bind fun r5 =>
 (bif (aO ((r4).length+(r5).length) 1) then
 (next3 ⟨(r4++r5),(IntKind.i64.wrap (s2.i+1))⟩)
 else none))
 else none))
 else none)
 else none)
 else none)
 else
 (some s2.b))) ⟨r1,0⟩))
def aIS:Con τ:=cn [.ty 26] [] (.ty 37) [] (fun N a b=>kN N a.1) fun r=>(r,())
theorem aVi:aF E C 68 aIS:=ok0 aIS [(67,nS),(67,sH),(69,aCC)] [(3,aVh)] 0 [] [] ⟨sF,⟨zY,⟨aMQ,trivial⟩⟩⟩ (fun a b=>a) Tryz.func68 rfl (by intro N a b; kernel_rfl)
def aCD (N:Nat) (m:aB):Option ((List (Int))) :=
 ((iX N [m.Kind,m.From.Group,m.From.Replica,m.To.Group,m.To.Replica]).bind fun r1 =>
 ((iX N [m.Ballot.Round,m.Ballot.Replica]).bind fun r2 =>
 (bif (m.Kind==1) then
 (bif (m.Kind==1) then
 (bif (aO ((r1).length+(r2).length) 1) then
 ((bX N (r1++r2) [m.Slot]).bind fun r3 =>
 (some r3))
 else none)
 else
 (bif (m.Kind==2) then
 (bif (aO ((r1).length+(r2).length) 1) then
 ((bX N (r1++r2) [m.Slot]).bind fun r4 =>
 ((kN N m.List_).bind fun r5 =>
 (bif (aO ((r4).length+(r5).length) 1) then
 (some (r4++r5))
 else none)))
 else none)
 else
 (bif (m.Kind==3) then
 (bif (aO ((r1).length+(r2).length) 1) then
 ((kN N m.List_).bind fun r6 =>
 (bif (aO (((r1++r2)).length+(r6).length) 1) then
 (some ((r1++r2)++r6))
 else none))
 else none)
 else
 (bif (m.Kind==5) then
 (bif (aO ((r1).length+(r2).length) 1) then
 (some (r1++r2))
 else none)
 else
 (bif (m.Kind==6) then
 ((kN N m.List_).bind fun r7 =>
 (bif (aO ((r1).length+(r7).length) 1) then
 (some (r1++r7))
 else none))
 else
 (bif (m.Kind==8) then
 ((bX N r1 [m.Slot]).bind fun r8 =>
 (some r8))
 else
 (bif (m.Kind==9) then
 ((pZ N m.Entry).bind fun r9 =>
 (bif (aO ((r1).length+(r9).length) 1) then
 (some (r1++r9))
 else none))
 else
 (bif (m.Kind==10) then
 ((bX N r1 [m.Number]).bind fun r10 =>
 ((kM N m.Vector_).bind fun r11 =>
 (bif (aO ((r10).length+(r11).length) 1) then
 ((bX N (r10++r11) [m.Clock]).bind fun r12 =>
 (some r12))
 else none)))
 else
 (bif (m.Kind==11) then
 ((bX N r1 [m.Number,m.Origin,m.Slot]).bind fun r13 =>
 ((sI N m.Ops).bind fun r14 =>
 (bif (aO ((r13).length+(r14).length) 1) then
 (some (r13++r14))
 else none)))
 else
 (bif (m.Kind==12) then
 ((sJ N m.Epoch).bind fun r15 =>
 (bif (aO ((r1).length+(r15).length) 1) then
 (some (r1++r15))
 else none))
 else
 (bif (m.Kind==13) then
 ((mO N m.Part).bind fun r16 =>
 (bif (aO ((r1).length+(r16).length) 1) then
 (some (r1++r16))
 else none))
 else
 (bif (m.Kind==14) then
 ((bX N r1 [m.Number]).bind fun r17 =>
 ((kM N m.Vector_).bind fun r18 =>
 (bif (aO ((r17).length+(r18).length) 1) then
 (some (r17++r18))
 else none)))
 else
 ((bX N r1 [m.Slot]).bind fun r19 =>
 ((mO N m.Part).bind fun r20 =>
 (bif (aO ((r19).length+(r20).length) 1) then
 (some (r19++r20))
 else none)))))))))))))))
 else
 (bif (m.Kind==4) then
 (bif (m.Kind==4) then
 (bif (aO ((r1).length+(r2).length) 1) then
 ((bX N (r1++r2) [m.Slot]).bind fun r21 =>
 (some r21))
 else none)
 else
 (bif (m.Kind==2) then
 (bif (aO ((r1).length+(r2).length) 1) then
 ((bX N (r1++r2) [m.Slot]).bind fun r22 =>
 ((kN N m.List_).bind fun r23 =>
 (bif (aO ((r22).length+(r23).length) 1) then
 (some (r22++r23))
 else none)))
 else none)
 else
 (bif (m.Kind==3) then
 (bif (aO ((r1).length+(r2).length) 1) then
 ((kN N m.List_).bind fun r24 =>
 (bif (aO (((r1++r2)).length+(r24).length) 1) then
 (some ((r1++r2)++r24))
 else none))
 else none)
 else
 (bif (m.Kind==5) then
 (bif (aO ((r1).length+(r2).length) 1) then
 (some (r1++r2))
 else none)
 else
 (bif (m.Kind==6) then
 ((kN N m.List_).bind fun r25 =>
 (bif (aO ((r1).length+(r25).length) 1) then
 (some (r1++r25))
 else none))
 else
 (bif (m.Kind==8) then
 ((bX N r1 [m.Slot]).bind fun r26 =>
 (some r26))
 else
 (bif (m.Kind==9) then
 ((pZ N m.Entry).bind fun r27 =>
 (bif (aO ((r1).length+(r27).length) 1) then
 (some (r1++r27))
 else none))
 else
 (bif (m.Kind==10) then
 ((bX N r1 [m.Number]).bind fun r28 =>
 ((kM N m.Vector_).bind fun r29 =>
 (bif (aO ((r28).length+(r29).length) 1) then
 ((bX N (r28++r29) [m.Clock]).bind fun r30 =>
 (some r30))
 else none)))
 else
 (bif (m.Kind==11) then
 ((bX N r1 [m.Number,m.Origin,m.Slot]).bind fun r31 =>
 ((sI N m.Ops).bind fun r32 =>
 (bif (aO ((r31).length+(r32).length) 1) then
 (some (r31++r32))
 else none)))
 else
 (bif (m.Kind==12) then
 ((sJ N m.Epoch).bind fun r33 =>
 (bif (aO ((r1).length+(r33).length) 1) then
 (some (r1++r33))
 else none))
 else
 (bif (m.Kind==13) then
 ((mO N m.Part).bind fun r34 =>
 (bif (aO ((r1).length+(r34).length) 1) then
 (some (r1++r34))
 else none))
 else
 (bif (m.Kind==14) then
 ((bX N r1 [m.Number]).bind fun r35 =>
 ((kM N m.Vector_).bind fun r36 =>
 (bif (aO ((r35).length+(r36).length) 1) then
 (some (r35++r36))
 else none)))
 else
 ((bX N r1 [m.Slot]).bind fun r37 =>
 ((mO N m.Part).bind fun r38 =>
 (bif (aO ((r37).length+(r38).length) 1) then
 (some (r37++r38))
 else none)))))))))))))))
 else
 (bif (m.Kind==7) then
 (bif (aO ((r1).length+(r2).length) 1) then
 ((bX N (r1++r2) [m.Slot]).bind fun r39 =>
 (some r39))
 else none)
 else
 (bif (m.Kind==2) then
 (bif (aO ((r1).length+(r2).length) 1) then
 ((bX N (r1++r2) [m.Slot]).bind fun r40 =>
 ((kN N m.List_).bind fun r41 =>
 (bif (aO ((r40).length+(r41).length) 1) then
 (some (r40++r41))
 else none)))
 else none)
 else
 (bif (m.Kind==3) then
 (bif (aO ((r1).length+(r2).length) 1) then
 ((kN N m.List_).bind fun r42 =>
 (bif (aO (((r1++r2)).length+(r42).length) 1) then
 (some ((r1++r2)++r42))
 else none))
 else none)
 else
 (bif (m.Kind==5) then
 (bif (aO ((r1).length+(r2).length) 1) then
 (some (r1++r2))
 else none)
 else
 (bif (m.Kind==6) then
 ((kN N m.List_).bind fun r43 =>
 (bif (aO ((r1).length+(r43).length) 1) then
 (some (r1++r43))
 else none))
 else
 (bif (m.Kind==8) then
 ((bX N r1 [m.Slot]).bind fun r44 =>
 (some r44))
 else
 (bif (m.Kind==9) then
 ((pZ N m.Entry).bind fun r45 =>
 (bif (aO ((r1).length+(r45).length) 1) then
 (some (r1++r45))
 else none))
 else
 (bif (m.Kind==10) then
 ((bX N r1 [m.Number]).bind fun r46 =>
 ((kM N m.Vector_).bind fun r47 =>
 (bif (aO ((r46).length+(r47).length) 1) then
 ((bX N (r46++r47) [m.Clock]).bind fun r48 =>
 (some r48))
 else none)))
 else
 (bif (m.Kind==11) then
 ((bX N r1 [m.Number,m.Origin,m.Slot]).bind fun r49 =>
 ((sI N m.Ops).bind fun r50 =>
 (bif (aO ((r49).length+(r50).length) 1) then
 (some (r49++r50))
 else none)))
 else
 (bif (m.Kind==12) then
 ((sJ N m.Epoch).bind fun r51 =>
 (bif (aO ((r1).length+(r51).length) 1) then
 (some (r1++r51))
 else none))
 else
 (bif (m.Kind==13) then
 ((mO N m.Part).bind fun r52 =>
 (bif (aO ((r1).length+(r52).length) 1) then
 (some (r1++r52))
 else none))
 else
 (bif (m.Kind==14) then
 ((bX N r1 [m.Number]).bind fun r53 =>
 ((kM N m.Vector_).bind fun r54 =>
 (bif (aO ((r53).length+(r54).length) 1) then
 (some (r53++r54))
 else none)))
 else
 ((bX N r1 [m.Slot]).bind fun r55 =>
 ((mO N m.Part).bind fun r56 =>
 (bif (aO ((r55).length+(r56).length) 1) then
 (some (r55++r56))
 else none)))))))))))))))))))
def aIT:Con τ:=cn [.ty 43] [] (.ty 37) [] (fun N a b=>aCD N a.1) fun r=>(r,())
theorem aVj:aF E C 29 aIT:=ok0 aIT [(67,nS),(67,sH),(68,aIS),(69,aCC),(70,aAa),(71,aCz),(72,aCA),(73,aCB)] [] 0 [] [] ⟨sF,⟨zY,⟨aVi,⟨aMQ,⟨aIL,⟨aMN,⟨aMO,⟨aMP,trivial⟩⟩⟩⟩⟩⟩⟩⟩ (fun a b=>a) Tryz.func29 rfl (by intro N a b; kernel_rfl)
structure vV where
 sum:Int
 i:Int
def aIU:List Sl:=[.k,.k,.k,.sh (.ty 138),.sh (.ty 2),.j,.j,.j,.j,.j,.j,.j,.j,.j,.j,.j,.j,.j,.j,.j,.j,.j,.j,.j,.j,.j,.j,.j,.j,.j,.j,.k,.k]
def aIV:List ESh:=[]
def aVk (a:Sl.Ts τ aIU) (b:ESh.Ts τ aIV):vV:=⟨a.2.2.2.1,a.2.2.2.2.1⟩
def aVl (s:vV):Sl.Ts τ aIU:=((),(),(),s.sum,s.i,(),(),(),(),(),(),(),(),(),(),(),(),(),(),(),(),(),(),(),(),(),(),(),(),(),(),(),(),())
def aVm (s:vV):ESh.Ts τ aIV:=()
def aVn:Lp τ:={ ts:=aIU,hs:=aIV,S:=vV,to:=aVk,ot:=aVl,oh:=aVm,hk:=[],tk:=[],ot_to:=fun _ _=>rfl,oh_to:=fun _ _=>rfl }
structure sK where
 sum:Int
 k:Int
def aIW:List Sl:=[.k,.k,.k,.sh (.ty 138),.k,.sh (.ty 2),.k,.k,.k,.k,.k,.k,.k,.k,.k,.k,.k,.k,.k,.j,.j,.j,.j,.j,.j,.j,.j,.j,.j,.j,.j,.k,.k]
def aIX:List ESh:=[]
def aVo (a:Sl.Ts τ aIW) (b:ESh.Ts τ aIX):sK:=⟨a.2.2.2.1,a.2.2.2.2.2.1⟩
def aVp (s:sK):Sl.Ts τ aIW:=((),(),(),s.sum,(),s.k,(),(),(),(),(),(),(),(),(),(),(),(),(),(),(),(),(),(),(),(),(),(),(),(),(),(),(),())
def aVq (s:sK):ESh.Ts τ aIX:=()
def aVr:Lp τ:={ ts:=aIW,hs:=aIX,S:=sK,to:=aVo,ot:=aVp,oh:=aVq,hk:=[],tk:=[],ot_to:=fun _ _=>rfl,oh_to:=fun _ _=>rfl }
def aCE (N:Nat) (b:List (Int)):Option (Int) :=
 (bE N (fun (s1:vV) next2 =>
 (bif (decide (s1.i < ((b).length:Int))) then
 (bif (ibB s1.i ((b).length:Int)) then
 (bE N (fun (s3:sK) next4 =>
 (bif (decide (s3.k < 8)) then
 (bif ((Int.tmod s3.sum 2)==1) then
 (next4 ⟨(bits .xor .u32 (IntKind.u32.wrap (Int.tdiv s3.sum 2)) 3988292384),(IntKind.i64.wrap (s3.k+1))⟩)
 else
 (next4 ⟨(IntKind.u32.wrap (Int.tdiv s3.sum 2)),(IntKind.i64.wrap (s3.k+1))⟩))
 else
 (next2 ⟨s3.sum,(IntKind.i64.wrap (s1.i+1))⟩))) ⟨(bits .xor .u32 s1.sum (IntKind.u32.wrap (aA b s1.i default))),0⟩)
 else none)
 else
 (some (bits .xor .u32 IntKind.u32.max s1.sum)))) ⟨4294967295,0⟩)
def aIY:Con τ:=cn [.ty 37] [] (.ty 138) [] (fun N a b=>aCE N a.1) fun r=>(r,())
theorem aVs:aF E C 74 aIY:=ok0 aIY [] [(3,aVn),(7,aVr)] 0 [] [] trivial (fun a b=>a) Tryz.func74 rfl (by intro N a b; kernel_rfl)
def aCF (N:Nat) (b:List (Int)):Option ((List (Int))×Int) :=
 (bif (decide (1048576 < ((b).length:Int))) then
 (some ([],3))
 else
 ((aCE N b).bind fun r1 =>
 ((pV N b).bind fun r2 =>
 (bif (aO ((r2).length+([(IntKind.u8.wrap r1),(IntKind.u8.wrap (shr .u32 r1 8)),(IntKind.u8.wrap (shr .u32 r1 16)),(IntKind.u8.wrap (shr .u32 r1 24))]).length) 1) then
 (some ((r2++[(IntKind.u8.wrap r1),(IntKind.u8.wrap (shr .u32 r1 8)),(IntKind.u8.wrap (shr .u32 r1 16)),(IntKind.u8.wrap (shr .u32 r1 24))]),0))
 else none))))
def aIZ:Con τ:=cn [.ty 37] [] (.tup [.ty 37,.ty 48]) [] (fun N a b=>aCF N a.1) fun r=>((r.1,r.2,()),())
theorem aVt:aF E C 30 aIZ:=ok0 aIZ [(74,aIY),(75,zZ)] [] 0 [] [] ⟨aVs,⟨aIF,trivial⟩⟩ (fun a b=>(a.1,a.2.1)) Tryz.func30 rfl (by intro N a b; kernel_rfl)
def aAb (N:Nat) (m:aB):Option ((List (Int))×Int) :=
 ((zW N m).bind fun r1 =>
 (bif (!r1) then
 (some ([],40))
 else
 ((aCD N m).bind fun r2 =>
 (bif (decide (1048576 < ((r2).length:Int))) then
 (some ([],3))
 else
 ((aCF N r2).bind fun r3 =>
 (some (r3.1,r3.2)))))))
def aI0:Con τ:=cn [.ty 43] [] (.tup [.ty 37,.ty 48]) [] (fun N a b=>aAb N a.1) fun r=>((r.1,r.2,()),())
theorem aVu:aF E C 11 aI0:=ok0 aI0 [(28,aIx),(29,aIT),(30,aIZ)] [] 0 [] [] ⟨aUK,⟨aVj,⟨aVt,trivial⟩⟩⟩ (fun a b=>(a.1,a.2.1)) Tryz.func11 rfl (by intro N a b; kernel_rfl)
def aCG (N:Nat) (number:Int) (at_:Int) (with_:Int) (b0:Nat) (b02:Int) (b03:Bool) (g1:List (bU)) (ms:List (Option (List (Int)))):Option (Int×Nat×Int×Bool×(List (bU))×(List (Option (List (Int))))) :=
 ((yX N number b0 b02 b03 g1 ms).bind fun r1 =>
 (bif (!(r1.2.1==0)) then
 (some (r1.2.1,r1.2.2.1,r1.2.2.2.1,r1.2.2.2.2.1,r1.2.2.2.2.2.1,r1.2.2.2.2.2.2))
 else
 (bif (!(!(decide (at_ < 0))) || (ibB r1.1 ((r1.2.2.1:Nat):Int))) then
 (bif (!(!(decide (at_ < 0))) || (decide ((r1.1).toNat < (r1.2.2.2.2.2.1).length))) then
 (bif (!(decide (at_ < 0))) then
 (bif (jE r1.2.2.2.2.2.2 (((r1.2.2.2.2.2.1.getD ((r1.1).toNat) default).Data).j)) then
 (bif ((decide (at_ < 0)) || (decide (((((r1.2.2.2.2.2.1.getD ((r1.1).toNat) default).Data).n:Nat):Int)≤at_))) then
 (some (1,r1.2.2.1,r1.2.2.2.1,r1.2.2.2.2.1,r1.2.2.2.2.2.1,r1.2.2.2.2.2.2))
 else
 (bif (ibB r1.1 ((r1.2.2.1:Nat):Int)) then
 (bif (decide ((r1.1).toNat < (r1.2.2.2.2.2.1).length)) then
 (bif ((ibB at_ ((((r1.2.2.2.2.2.1.getD ((r1.1).toNat) default).Data).n:Nat):Int))&&(jE r1.2.2.2.2.2.2 (((r1.2.2.2.2.2.1.getD ((r1.1).toNat) default).Data).j))) then
 (bif ((decide ((((r1.2.2.2.2.2.1.getD ((r1.1).toNat) default).Data).o+(at_).toNat) < ((fM r1.2.2.2.2.2.2 (((r1.2.2.2.2.2.1.getD ((r1.1).toNat) default).Data).j))).length))&&(jE r1.2.2.2.2.2.2 (((r1.2.2.2.2.2.1.getD ((r1.1).toNat) default).Data).j))) then
 (bif ((ibB at_ ((((r1.2.2.2.2.2.1.getD ((r1.1).toNat) default).Data).n:Nat):Int))&&(jE r1.2.2.2.2.2.2 (((r1.2.2.2.2.2.1.getD ((r1.1).toNat) default).Data).j))) then
 (bif ((decide ((((r1.2.2.2.2.2.1.getD ((r1.1).toNat) default).Data).o+(at_).toNat) < ((fM r1.2.2.2.2.2.2 (((r1.2.2.2.2.2.1.getD ((r1.1).toNat) default).Data).j))).length))&&(jE r1.2.2.2.2.2.2 (((r1.2.2.2.2.2.1.getD ((r1.1).toNat) default).Data).j))) then
 (some (0,r1.2.2.1,r1.2.2.2.1,r1.2.2.2.2.1,r1.2.2.2.2.2.1,(dC r1.2.2.2.2.2.2 (((r1.2.2.2.2.2.1.getD ((r1.1).toNat) default).Data).j) (some ((fM r1.2.2.2.2.2.2 (((r1.2.2.2.2.2.1.getD ((r1.1).toNat) default).Data).j)).set (((r1.2.2.2.2.2.1.getD ((r1.1).toNat) default).Data).o+(at_).toNat) (bits .xor .u8 ((fM r1.2.2.2.2.2.2 (((r1.2.2.2.2.2.1.getD ((r1.1).toNat) default).Data).j)).getD (((r1.2.2.2.2.2.1.getD ((r1.1).toNat) default).Data).o+(at_).toNat) default) with_))))))
 else none)
 else none)
 else none)
 else none)
 else none)
 else none))
 else none)
 else
 (some (1,r1.2.2.1,r1.2.2.2.1,r1.2.2.2.2.1,r1.2.2.2.2.2.1,r1.2.2.2.2.2.2)))
 else none)
 else none)))
def aI1:Con τ:=cn [.ptr 0 [],.ty 2,.ty 3,.ty 5] [.box (.agg [.agg [.msl 20065 1,.ty 2],.ty 4]),.gbx 20065,.pool 5] (.ty 48) [.box (.agg [.agg [.msl 20065 1,.ty 2],.ty 4]),.gbx 20065,.pool 5] (fun N a b=>aCG N a.2.1 a.2.2.1 a.2.2.2.1 b.1.1.1 b.1.1.2.1 b.1.2.1 b.2.1 b.2.2.1) fun r=>(r.1,(((r.2.1,r.2.2.1,()),r.2.2.2.1,()),r.2.2.2.2.1,r.2.2.2.2.2,()))
theorem aVv:aF E C 12 aI1:=okp aI1 [(31,aB0)] [] 3 [] [] [] [] [] ⟨aMr,trivial⟩ (fun a b=>(a,b.1.1.1,b.1.1.2.1,b.1.2.1,b.2.1,b.2.2.1)) Tryz.func12 rfl (by intro N a b; kernel_rfl)
end Go.Proofs.YtddpmkmgbdedlaaGreat
