/-
The functions of this seat,as plain functions over typed data,each with its contract. Printed by wip/tools/fngen.py.
-/
import Derived.Test.YtddpmkmgbdedlaaGreatqFda
import Derived.Test.YtddpmkmgbdedlaaGreatqTvX
import Derived.KernelRfl
set_option linter.unusedVariables false
set_option maxRecDepth 100000
namespace Go.Proofs.YtddpmkmgbdedlaaGreat
open Go Go.Ev
structure dX where
 t5:Int
 b0:Int
 b1:aD
 b2:aA
def pG:List Sl:=[.k,.k,.k,.k,.j,.sh (.ty 2),.j,.j,.j,.j,.j,.j,.j,.j,.j]
def pA:List bZ:=[.box (.agg [.ptr 2 [],.ty 2]),.box (.ty 35),.box (.ty 165)]
def Nr (a:Sl.Ts τ pG)(b:bZ.Ts τ pA):dX:=⟨a.2.2.2.2.2.1,b.1.2.1,b.2.1,b.2.2.1⟩
def Nj (s:dX):Sl.Ts τ pG:=((),(),(),(),(),s.t5,(),(),(),(),(),(),(),(),(),())
def Nc (s:dX):bZ.Ts τ pA:=(((),s.b0,()),s.b1,s.b2,())
def My:Lp τ:={ ts:=pG,hs:=pA,S:=dX,to:=Nr,ot:=Nj,oh:=Nc,hk:=[2,2,2],tk:=[2,3],eZ:=fun _ _=>rfl,eX:=fun _ _=>rfl }
def mC (N:Nat)(b0:Int)(b1:aD)(b2:aA):Option (Int×aD×aA) :=
 (iter N (fun (s1:dX) dK =>
 (bif (decide (s1.t5 < 8)) then
 ((bC N s1.b0 s1.b2).bind fun r3 =>
 (bif (nI s1.t5 8) then
 (dK ⟨(IntKind.i64.wrap (s1.t5+1)),r3.2.1,(⟨s1.b1.Number,s1.b1.cB,(NO s1.b1.iD ((s1.t5).toNat) r3.1),s1.b1.aV⟩:aD),r3.2.2⟩)
 else none))
 else
 (some (s1.b0,s1.b1,s1.b2)))) ⟨0,b0,b1,b2⟩)
def qI:dL τ:=cn [.ptr 0 [],.ptr 1 [.sS 2 9]] [.box (.agg [.ptr 2 [],.ty 48]),.box (.ty 36),.box (.ty 186)] (.jE []) [.box (.agg [.ptr 2 [],.ty 48]),.box (.ty 36),.box (.ty 186)] (fun N a b=>mC N b.1.2.1 b.2.1 b.2.2.1) fun r=>((),(((),r.1,()),r.2.1,r.2.2,()))
theorem Sy:aR E C 151 qI:=gQ qI [(172,bG)] [(1,My)] 3 [] [] ⟨bO,trivial⟩ (fun a b=>(b.1.2.1,b.2.1,b.2.2.1)) Tryz.func151 rfl (by intro N a b;kernel_rfl)
structure eG where
 t10:Int
 b0:Int
 b1:aA
 b3:aD
def qV:List Sl:=[.k,.k,.k,.k,.j,.k,.k,.k,.k,.k,.sh (.ty 2),.j,.j,.j,.j,.j,.j,.j,.j,.k,.k,.k,.k,.k,.k,.k,.k,.k,.k,.k,.k,.k]
def qP:List bZ:=[.box (.agg [.ptr 1 [],.ty 2]),.box (.ty 165),.iO,.box (.ty 35)]
def Qd (a:Sl.Ts τ qV)(b:bZ.Ts τ qP):eG:=⟨a.2.2.2.2.2.2.2.2.2.2.1,b.1.2.1,b.2.1,b.2.2.2.1⟩
def Pv (s:eG):Sl.Ts τ qV:=((),(),(),(),(),(),(),(),(),(),s.t10,(),(),(),(),(),(),(),(),(),(),(),(),(),(),(),(),(),(),(),(),(),())
def Pm (s:eG):bZ.Ts τ qP:=(((),s.b0,()),s.b1,(),s.b3,())
def Pd:Lp τ:={ ts:=qV,hs:=qP,S:=eG,to:=Qd,ot:=Pv,oh:=Pm,hk:=[2,2,2,2],tk:=[2,0,4,5,0,0,2,5],eZ:=fun _ _=>rfl,eX:=fun _ _=>rfl }
structure dW where
 t22:Int
 b0:Int
 b1:aA
 b3:aD
def pF:List Sl:=[.k,.k,.k,.k,.k,.j,.k,.k,.k,.k,.k,.k,.k,.k,.k,.k,.k,.k,.k,.k,.k,.k,.sh (.ty 2),.j,.j,.j,.j,.j,.j,.j,.j,.k]
def oZ:List bZ:=[.box (.agg [.ptr 1 [],.ty 2]),.box (.ty 165),.iO,.box (.ty 35)]
def Nq (a:Sl.Ts τ pF)(b:bZ.Ts τ oZ):dW:=⟨a.2.2.2.2.2.2.2.2.2.2.2.2.2.2.2.2.2.2.2.2.2.2.1,b.1.2.1,b.2.1,b.2.2.2.1⟩
def Ni (s:dW):Sl.Ts τ pF:=((),(),(),(),(),(),(),(),(),(),(),(),(),(),(),(),(),(),(),(),(),(),s.t22,(),(),(),(),(),(),(),(),(),())
def Nb (s:dW):bZ.Ts τ oZ:=(((),s.b0,()),s.b1,(),s.b3,())
def Mx:Lp τ:={ ts:=pF,hs:=oZ,S:=dW,to:=Nq,ot:=Ni,oh:=Nb,hk:=[2,2,2,2],tk:=[2,0,4,5,0,0,2,5,0,0,0,0,0,0,0,0,0,0,0,2,5],eZ:=fun _ _=>rfl,eX:=fun _ _=>rfl }
def fJ (N:Nat)(b0:Int)(b1:aA):Option (aD×Int×aA) :=
 ((wB N b0 (⟨0,(Vector.replicate 8 (default:Int)),(Vector.replicate 8 (default:Int)),(Vector.replicate 8 (default:Int))⟩:aD) b1).bind fun r1 =>
 (iter N (fun (s2:eG) wW =>
 (bif (decide (s2.t10 < 8)) then
 ((bE N s2.b0 s2.b1).bind fun r4 =>
 (bif (nI s2.t10 8) then
 (wW ⟨(IntKind.i64.wrap (s2.t10+1)),r4.2.1,r4.2.2,(⟨s2.b3.Number,(NO s2.b3.cB ((s2.t10).toNat) r4.1),s2.b3.iD,s2.b3.aV⟩:aD)⟩)
 else none))
 else
 ((mC N s2.b0 s2.b3 s2.b1).bind fun r5 =>
 (iter N (fun (s6:dW) aAW =>
 (bif (decide (s6.t22 < 8)) then
 ((bE N s6.b0 s6.b1).bind fun r8 =>
 (bif (nI s6.t22 8) then
 (aAW ⟨(IntKind.i64.wrap (s6.t22+1)),r8.2.1,r8.2.2,(⟨s6.b3.Number,s6.b3.cB,s6.b3.iD,(NO s6.b3.aV ((s6.t22).toNat) r8.1)⟩:aD)⟩)
 else none))
 else
 (some (s6.b3,s6.b0,s6.b1)))) ⟨0,r5.1,r5.2.2,r5.2.1⟩)))) ⟨0,r1.1,r1.2.2,r1.2.1⟩))
def lG:dL τ:=cn [.ptr 0 []] [.box (.agg [.ptr 1 [],.ty 48]),.box (.ty 186)] (.ty 36) [.box (.agg [.ptr 1 [],.ty 48]),.box (.ty 186)] (fun N a b=>fJ N b.1.2.1 b.2.1) fun r=>(r.1,(((),r.2.1,()),r.2.2,()))
theorem Cy:aR E C 153 lG:=gQ lG [(148,tM),(146,bT),(151,qI)] [(4,Pd),(10,Mx)] 2 [] [] ⟨Wv,⟨cF,⟨Sy,trivial⟩⟩⟩ (fun a b=>(a,b.1.2.1,b.2.1)) Tryz.func153 rfl (by intro N a b;kernel_rfl)
def tA (N:Nat)(b0:Int)(b1:aB)(b2:aA):Option (Int×aB×aA) :=
 ((bE N b0 b2).bind fun r1 =>
 (some (r1.2.1,(⟨b1.Kind,b1.cE,b1.Request,b1.Op,b1.Origin,b1.Seq,b1.fP,b1.aY,r1.1,b1.aH,b1.bH,b1.Part,b1.Site,b1.aV,b1.Length⟩:aB),r1.2.2)))
def qF:dL τ:=cn [.ptr 0 [],.ls 1 [.ptr 1 [.sS 8 39]]] [.box (.agg [.ptr 2 [],.ty 48]),.box (.ty 41),.box (.ty 186)] (.jE []) [.box (.agg [.ptr 2 [],.ty 48]),.box (.ty 41),.box (.ty 186)] (fun N a b=>tA N b.1.2.1 b.2.1 b.2.2.1) fun r=>((),(((),r.1,()),r.2.1,r.2.2,()))
theorem Sv:aR E C 121 qF:=gQ qF [(146,bT)] [] 3 [] [(1,3)] ⟨cF,trivial⟩ (fun a b=>(b.1.2.1,b.2.1,b.2.2.1)) Tryz.func121 rfl (by intro N a b;kernel_rfl)
structure dY where
 t5:Int
 b0:Int
 b1:aB
 b2:aA
def pH:List Sl:=[.k,.k,.k,.k,.j,.sh (.ty 2),.j,.j,.j,.j,.j,.j,.j,.j,.j]
def pC:List bZ:=[.box (.agg [.ptr 2 [],.ty 2]),.box (.ty 40),.box (.ty 165)]
def Ns (a:Sl.Ts τ pH)(b:bZ.Ts τ pC):dY:=⟨a.2.2.2.2.2.1,b.1.2.1,b.2.1,b.2.2.1⟩
def Nk (s:dY):Sl.Ts τ pH:=((),(),(),(),(),s.t5,(),(),(),(),(),(),(),(),(),())
def Nd (s:dY):bZ.Ts τ pC:=(((),s.b0,()),s.b1,s.b2,())
def Mz:Lp τ:={ ts:=pH,hs:=pC,S:=dY,to:=Ns,ot:=Nk,oh:=Nd,hk:=[2,2,2],tk:=[2,3],eZ:=fun _ _=>rfl,eX:=fun _ _=>rfl }
def mD (N:Nat)(b0:Int)(b1:aB)(b2:aA):Option (Int×aB×aA) :=
 (iter N (fun (s1:dY) dK =>
 (bif (decide (s1.t5 < 8)) then
 ((bC N s1.b0 s1.b2).bind fun r3 =>
 (bif (nI s1.t5 8) then
 (dK ⟨(IntKind.i64.wrap (s1.t5+1)),r3.2.1,(⟨s1.b1.Kind,s1.b1.cE,s1.b1.Request,s1.b1.Op,s1.b1.Origin,s1.b1.Seq,s1.b1.fP,s1.b1.aY,s1.b1.aS,(NO s1.b1.aH ((s1.t5).toNat) r3.1),s1.b1.bH,s1.b1.Part,s1.b1.Site,s1.b1.aV,s1.b1.Length⟩:aB),r3.2.2⟩)
 else none))
 else
 (some (s1.b0,s1.b1,s1.b2)))) ⟨0,b0,b1,b2⟩)
def qJ:dL τ:=cn [.ptr 0 [],.ptr 1 [.sS 9 40]] [.box (.agg [.ptr 2 [],.ty 48]),.box (.ty 41),.box (.ty 186)] (.jE []) [.box (.agg [.ptr 2 [],.ty 48]),.box (.ty 41),.box (.ty 186)] (fun N a b=>mD N b.1.2.1 b.2.1 b.2.2.1) fun r=>((),(((),r.1,()),r.2.1,r.2.2,()))
theorem Sz:aR E C 151 qJ:=gQ qJ [(172,bG)] [(1,Mz)] 3 [] [] ⟨bO,trivial⟩ (fun a b=>(b.1.2.1,b.2.1,b.2.2.1)) Tryz.func151 rfl (by intro N a b;kernel_rfl)
def vY (N:Nat)(b0:Int)(b1:aB)(b2:aA):Option (Int×aB×aA) :=
 ((bC N b0 b2).bind fun r1 =>
 (some (r1.2.1,(⟨b1.Kind,b1.cE,b1.Request,b1.Op,b1.Origin,b1.Seq,b1.fP,b1.aY,b1.aS,b1.aH,r1.1,b1.Part,b1.Site,b1.aV,b1.Length⟩:aB),r1.2.2)))
def tI:dL τ:=cn [.ptr 0 [],.ls 1 [.ptr 1 [.sS 10 48]]] [.box (.agg [.ptr 2 [],.ty 48]),.box (.ty 41),.box (.ty 186)] (.jE []) [.box (.agg [.ptr 2 [],.ty 48]),.box (.ty 41),.box (.ty 186)] (fun N a b=>vY N b.1.2.1 b.2.1 b.2.2.1) fun r=>((),(((),r.1,()),r.2.1,r.2.2,()))
theorem Wr:aR E C 148 tI:=gQ tI [(172,bG)] [] 3 [] [(1,3)] ⟨bO,trivial⟩ (fun a b=>(b.1.2.1,b.2.1,b.2.2.1)) Tryz.func148 rfl (by intro N a b;kernel_rfl)
def wE (N:Nat)(b0:Int)(b1:aK)(b2:aA):Option (Int×aK×aA) :=
 ((bC N b0 b2).bind fun r1 =>
 (some (r1.2.1,(⟨r1.1,b1.Index,b1.Hq,b1.Data⟩:aK),r1.2.2)))
def tP:dL τ:=cn [.ptr 0 [],.ls 1 [.ptr 1 [.sS 0 0]]] [.box (.agg [.ptr 2 [],.ty 48]),.box (.ty 39),.box (.ty 186)] (.jE []) [.box (.agg [.ptr 2 [],.ty 48]),.box (.ty 39),.box (.ty 186)] (fun N a b=>wE N b.1.2.1 b.2.1 b.2.2.1) fun r=>((),(((),r.1,()),r.2.1,r.2.2,()))
theorem Wy:aR E C 148 tP:=gQ tP [(172,bG)] [] 3 [] [(1,3)] ⟨bO,trivial⟩ (fun a b=>(b.1.2.1,b.2.1,b.2.2.1)) Tryz.func148 rfl (by intro N a b;kernel_rfl)
def sW (N:Nat)(b0:Int)(b1:aK)(b2:aA):Option (Int×aK×aA) :=
 ((bE N b0 b2).bind fun r1 =>
 ((bE N r1.2.1 r1.2.2).bind fun r2 =>
 (some (r2.2.1,(⟨b1.Qz,r1.1,r2.1,b1.Data⟩:aK),r2.2.2))))
def pZ:dL τ:=cn [.ptr 0 [],.ls 1 [.ptr 1 [.sS 1 1],.ptr 1 [.sS 2 2]]] [.box (.agg [.ptr 2 [],.ty 48]),.box (.ty 39),.box (.ty 186)] (.jE []) [.box (.agg [.ptr 2 [],.ty 48]),.box (.ty 39),.box (.ty 186)] (fun N a b=>sW N b.1.2.1 b.2.1 b.2.2.1) fun r=>((),(((),r.1,()),r.2.1,r.2.2,()))
theorem So:aR E C 121 pZ:=gQ pZ [(146,bT)] [] 3 [] [(1,4)] ⟨cF,trivial⟩ (fun a b=>(b.1.2.1,b.2.1,b.2.2.1)) Tryz.func121 rfl (by intro N a b;kernel_rfl)
def nJ (N:Nat)(b0:Int)(b1:aA):Option ((List (Int))×Int×aA) :=
 (bif (!(b0==0)) then
 (some ([],b0,b1))
 else
 ((lB N b1).bind fun r1 =>
 ((dM N r1.2.1 b0 r1.2.2).bind fun r2 =>
 (some (r1.1,r2.1,r2.2)))))
def rU:dL τ:=cn [.ptr 0 []] [.box (.agg [.ptr 1 [],.ty 48]),.box (.ty 186)] (.ty 37) [.box (.agg [.ptr 1 [],.ty 48]),.box (.ty 186)] (fun N a b=>nJ N b.1.2.1 b.2.1) fun r=>(r.1,(((),r.2.1,()),r.2.2,()))
theorem Ue:aR E C 175 rU:=gQ rU [(182,nP),(80,gH)] [] 2 [] [] ⟨Hc,⟨nR,trivial⟩⟩ (fun a b=>(a,b.1.2.1,b.2.1)) Tryz.func175 rfl (by intro N a b;kernel_rfl)
def dN (N:Nat)(b0:Int)(b1:aA):Option (aK×Int×aA) :=
 ((wE N b0 (⟨0,0,0,[]⟩:aK) b1).bind fun r1 =>
 ((sW N r1.1 r1.2.1 r1.2.2).bind fun r2 =>
 ((nJ N r2.1 r2.2.2).bind fun r3 =>
 (some ((⟨r2.2.1.Qz,r2.2.1.Index,r2.2.1.Hq,r3.1⟩:aK),r3.2.1,r3.2.2)))))
def mG:dL τ:=cn [.ptr 0 []] [.box (.agg [.ptr 1 [],.ty 48]),.box (.ty 186)] (.ty 39) [.box (.agg [.ptr 1 [],.ty 48]),.box (.ty 186)] (fun N a b=>dN N b.1.2.1 b.2.1) fun r=>(r.1,(((),r.2.1,()),r.2.2,()))
theorem Em:aR E C 154 mG:=gQ mG [(148,tP),(121,pZ),(175,rU)] [] 2 [] [] ⟨Wy,⟨So,⟨Ue,trivial⟩⟩⟩ (fun a b=>(a,b.1.2.1,b.2.1)) Tryz.func154 rfl (by intro N a b;kernel_rfl)
def sX (N:Nat)(b0:Int)(b1:aB)(b2:aA):Option (Int×aB×aA) :=
 ((bE N b0 b2).bind fun r1 =>
 ((bE N r1.2.1 r1.2.2).bind fun r2 =>
 (some (r2.2.1,(⟨b1.Kind,b1.cE,b1.Request,b1.Op,b1.Origin,b1.Seq,b1.fP,b1.aY,b1.aS,b1.aH,b1.bH,b1.Part,r1.1,r2.1,b1.Length⟩:aB),r2.2.2))))
def qC:dL τ:=cn [.ptr 0 [],.ls 1 [.ptr 1 [.sS 12 53],.ptr 1 [.sS 13 54]]] [.box (.agg [.ptr 2 [],.ty 48]),.box (.ty 41),.box (.ty 186)] (.jE []) [.box (.agg [.ptr 2 [],.ty 48]),.box (.ty 41),.box (.ty 186)] (fun N a b=>sX N b.1.2.1 b.2.1 b.2.2.1) fun r=>((),(((),r.1,()),r.2.1,r.2.2,()))
theorem Sr:aR E C 121 qC:=gQ qC [(146,bT)] [] 3 [] [(1,4)] ⟨cF,trivial⟩ (fun a b=>(b.1.2.1,b.2.1,b.2.2.1)) Tryz.func121 rfl (by intro N a b;kernel_rfl)
def jB (N:Nat)(b0:Int)(b1:aB)(b2:aA):Option (Int×aB×aA) :=
 ((bE N b0 b2).bind fun r1 =>
 (some (r1.2.1,(⟨b1.Kind,b1.cE,b1.Request,b1.Op,b1.Origin,b1.Seq,b1.fP,b1.aY,b1.aS,b1.aH,b1.bH,b1.Part,r1.1,b1.aV,b1.Length⟩:aB),r1.2.2)))
def pX:dL τ:=cn [.ptr 0 [],.ls 1 [.ptr 1 [.sS 12 53]]] [.box (.agg [.ptr 2 [],.ty 48]),.box (.ty 41),.box (.ty 186)] (.jE []) [.box (.agg [.ptr 2 [],.ty 48]),.box (.ty 41),.box (.ty 186)] (fun N a b=>jB N b.1.2.1 b.2.1 b.2.2.1) fun r=>((),(((),r.1,()),r.2.1,r.2.2,()))
theorem Sm:aR E C 121 pX:=gQ pX [(146,bT)] [] 3 [] [(1,3)] ⟨cF,trivial⟩ (fun a b=>(b.1.2.1,b.2.1,b.2.2.1)) Tryz.func121 rfl (by intro N a b;kernel_rfl)
def wF (N:Nat)(b0:Int)(b1:aB)(b2:aA):Option (Int×aB×aA) :=
 ((bC N b0 b2).bind fun r1 =>
 (some (r1.2.1,(⟨b1.Kind,b1.cE,b1.Request,b1.Op,b1.Origin,b1.Seq,b1.fP,b1.aY,b1.aS,b1.aH,b1.bH,b1.Part,b1.Site,b1.aV,r1.1⟩:aB),r1.2.2)))
def tQ:dL τ:=cn [.ptr 0 [],.ls 1 [.ptr 1 [.sS 14 55]]] [.box (.agg [.ptr 2 [],.ty 48]),.box (.ty 41),.box (.ty 186)] (.jE []) [.box (.agg [.ptr 2 [],.ty 48]),.box (.ty 41),.box (.ty 186)] (fun N a b=>wF N b.1.2.1 b.2.1 b.2.2.1) fun r=>((),(((),r.1,()),r.2.1,r.2.2,()))
theorem Wz:aR E C 148 tQ:=gQ tQ [(172,bG)] [] 3 [] [(1,3)] ⟨bO,trivial⟩ (fun a b=>(b.1.2.1,b.2.1,b.2.2.1)) Tryz.func148 rfl (by intro N a b;kernel_rfl)
def fI (N:Nat)(b0:Int)(b1:aA):Option (aB×Int×aA) :=
 ((sZ N b0 (⟨0,0,0,(⟨(⟨0,0⟩:bB),0,0,0,[],[],[]⟩:dP),0,0,[],(⟨0,(Vector.replicate 8 (default:Int)),(Vector.replicate 8 (default:Int)),(Vector.replicate 8 (default:Int))⟩:aD),0,(Vector.replicate 8 (default:Int)),0,(⟨0,0,0,[]⟩:aK),0,0,0⟩:aB) b1).bind fun r1 =>
 (bif (!(r1.1==0)) then
 (some (r1.2.1,r1.1,r1.2.2))
 else
 (bif (r1.2.1.Kind==0) then
 (some (r1.2.1,r1.1,r1.2.2))
 else
 (bif (r1.2.1.Kind==1) then
 ((wA N r1.1 r1.2.1 r1.2.2).bind fun r2 =>
 ((mK N r2.1 r2.2.2).bind fun r3 =>
 (some ((⟨r2.2.1.Kind,r2.2.1.cE,r2.2.1.Request,r3.1,r2.2.1.Origin,r2.2.1.Seq,r2.2.1.fP,r2.2.1.aY,r2.2.1.aS,r2.2.1.aH,r2.2.1.bH,r2.2.1.Part,r2.2.1.Site,r2.2.1.aV,r2.2.1.Length⟩:aB),r3.2.1,r3.2.2))))
 else
 (bif (r1.2.1.Kind==2) then
 ((sV N r1.1 r1.2.1 r1.2.2).bind fun r4 =>
 ((kC N r4.1 r4.2.1 r4.2.2).bind fun r5 =>
 ((gJ N r5.1 r5.2.2).bind fun r6 =>
 (some ((⟨r5.2.1.Kind,r5.2.1.cE,r5.2.1.Request,r5.2.1.Op,r5.2.1.Origin,r5.2.1.Seq,r6.1,r5.2.1.aY,r5.2.1.aS,r5.2.1.aH,r5.2.1.bH,r5.2.1.Part,r5.2.1.Site,r5.2.1.aV,r5.2.1.Length⟩:aB),r6.2.1,r6.2.2)))))
 else
 (bif (r1.2.1.Kind==3) then
 ((fJ N r1.1 r1.2.2).bind fun r7 =>
 (some ((⟨r1.2.1.Kind,r1.2.1.cE,r1.2.1.Request,r1.2.1.Op,r1.2.1.Origin,r1.2.1.Seq,r1.2.1.fP,r7.1,r1.2.1.aS,r1.2.1.aH,r1.2.1.bH,r1.2.1.Part,r1.2.1.Site,r1.2.1.aV,r1.2.1.Length⟩:aB),r7.2.1,r7.2.2)))
 else
 (bif (r1.2.1.Kind==4) then
 ((kC N r1.1 r1.2.1 r1.2.2).bind fun r8 =>
 ((tA N r8.1 r8.2.1 r8.2.2).bind fun r9 =>
 ((mD N r9.1 r9.2.1 r9.2.2).bind fun Nn =>
 ((vY N Nn.1 Nn.2.1 Nn.2.2).bind fun Vl =>
 (some (Vl.2.1,Vl.1,Vl.2.2))))))
 else
 (bif (r1.2.1.Kind==5) then
 ((dN N r1.1 r1.2.2).bind fun Tt =>
 (some ((⟨r1.2.1.Kind,r1.2.1.cE,r1.2.1.Request,r1.2.1.Op,r1.2.1.Origin,r1.2.1.Seq,r1.2.1.fP,r1.2.1.aY,r1.2.1.aS,r1.2.1.aH,r1.2.1.bH,Tt.1,r1.2.1.Site,r1.2.1.aV,r1.2.1.Length⟩:aB),Tt.2.1,Tt.2.2)))
 else
 (bif (r1.2.1.Kind==6) then
 ((sX N r1.1 r1.2.1 r1.2.2).bind fun EJ =>
 (some (EJ.2.1,EJ.1,EJ.2.2)))
 else
 (bif (r1.2.1.Kind==7) then
 ((jB N r1.1 r1.2.1 r1.2.2).bind fun JX =>
 (some (JX.2.1,JX.1,JX.2.2)))
 else
 (bif (r1.2.1.Kind==8) then
 ((jB N r1.1 r1.2.1 r1.2.2).bind fun Ci =>
 ((wF N Ci.1 Ci.2.1 Ci.2.2).bind fun Jh =>
 (some (Jh.2.1,Jh.1,Jh.2.2))))
 else
 (some (r1.2.1,40,r1.2.2)))))))))))))
def lF:dL τ:=cn [.ptr 0 []] [.box (.agg [.ptr 1 [],.ty 48]),.box (.ty 186)] (.ty 41) [.box (.agg [.ptr 1 [],.ty 48]),.box (.ty 186)] (fun N a b=>fI N b.1.2.1 b.2.1) fun r=>(r.1,(((),r.2.1,()),r.2.2,()))
theorem Cx:aR E C 150 lF:=gQ lF [(121,qE),(148,tL),(174,oQ),(121,pY),(148,tJ),(152,nM),(153,lG),(121,qF),(151,qJ),(148,tI),(154,mG),(121,qC),(121,pX),(148,tQ)] [] 2 [] [] ⟨Su,⟨Wu,⟨Iz,⟨Sn,⟨Ws,⟨Gz,⟨Cy,⟨Sv,⟨Sz,⟨Wr,⟨Em,⟨Sr,⟨Sm,⟨Wz,trivial⟩⟩⟩⟩⟩⟩⟩⟩⟩⟩⟩⟩⟩⟩ (fun a b=>(a,b.1.2.1,b.2.1)) Tryz.func150 rfl (by intro N a b;kernel_rfl)
structure gD where
 l:List (aL)
 t7:Int
 b0:Int
 b1:aA
def sH:List Sl:=[.k,.k,.j,.sh (.own 155 2),.j,.k,.k,.sh (.ty 2),.j,.j,.j,.j,.j,.j,.j,.j,.j,.j,.j,.j,.j,.j,.j,.j,.j,.j,.j,.j,.j,.k]
def sA:List bZ:=[.box (.agg [.ptr 1 [],.ty 2]),.box (.ty 165),.tail]
def Th (a:Sl.Ts τ sH)(b:bZ.Ts τ sA):gD:=⟨a.2.2.2.1,a.2.2.2.2.2.2.2.1,b.1.2.1,b.2.1⟩
def Tb (s:gD):Sl.Ts τ sH:=((),(),(),s.l,(),(),(),s.t7,(),(),(),(),(),(),(),(),(),(),(),(),(),(),(),(),(),(),(),(),(),(),())
def Sc (s:gD):bZ.Ts τ sA:=(((),s.b0,()),s.b1,(),())
def Ry:Lp τ:={ ts:=sH,hs:=sA,S:=gD,to:=Th,ot:=Tb,oh:=Sc,hk:=[2,2],tk:=[2,0,0,0,0,2],eZ:=fun _ _=>rfl,eX:=fun _ _=>rfl }
def cN (N:Nat)(b0:Int)(b1:aA):Option ((List (aL))×Int×aA) :=
 ((kD N b0 b1).bind fun r1 =>
 (iter N (fun (s2:gD) wW =>
 (bif (decide (s2.t7 < r1.1)) then
 (bif (!(s2.b0==0)) then
 (some ([],s2.b0,s2.b1))
 else
 ((vZ N s2.b0 (⟨0,(⟨0,0⟩:aT),(⟨0,0,0,(⟨(⟨0,0⟩:bB),0,0,0,[],[],[]⟩:dP),0,0,[],(⟨0,(Vector.replicate 8 (default:Int)),(Vector.replicate 8 (default:Int)),(Vector.replicate 8 (default:Int))⟩:aD),0,(Vector.replicate 8 (default:Int)),0,(⟨0,0,0,[]⟩:aK),0,0,0⟩:aB)⟩:aL) s2.b1).bind fun r4 =>
 ((bP N r4.1 r4.2.2).bind fun r5 =>
 ((fI N r5.2.1 r5.2.2).bind fun r6 =>
 (bif (dG ((s2.l).length+([(⟨r4.2.1.Slot,r5.1,r6.1⟩:aL)]).length) 528) then
 (wW ⟨(s2.l++[(⟨r4.2.1.Slot,r5.1,r6.1⟩:aL)]),(IntKind.i64.wrap (s2.t7+1)),r6.2.1,r6.2.2⟩)
 else none)))))
 else
 (some (s2.l,s2.b0,s2.b1)))) ⟨[],0,r1.2.1,r1.2.2⟩))
def tR:dL τ:=cn [.ptr 0 []] [.box (.agg [.ptr 1 [],.ty 48]),.box (.ty 186)] (.ty 26) [.box (.agg [.ptr 1 [],.ty 48]),.box (.ty 186)] (fun N a b=>cN N b.1.2.1 b.2.1) fun r=>(r.1,(((),r.2.1,()),r.2.2,()))
theorem Xa:aR E C 149 tR:=gQ tR [(173,mF),(148,tK),(147,kO),(150,lF)] [(3,Ry)] 2 [] [] ⟨El,⟨Wt,⟨Cb,⟨Cx,trivial⟩⟩⟩⟩ (fun a b=>(a,b.1.2.1,b.2.1)) Tryz.func149 rfl (by intro N a b;kernel_rfl)
def cH (N:Nat)(b0:Int)(b1:aN)(b2:aA):Option (Int×aN×aA) :=
 ((bC N b0 b2).bind fun r1 =>
 (some (r1.2.1,(⟨b1.Kind,b1.aS,b1.To,b1.aG,b1.Slot,b1.bR,b1.Entry,r1.1,b1.aH,b1.bH,b1.Origin,b1.fP,b1.aY,b1.Part⟩:aN),r1.2.2)))
def tF:dL τ:=cn [.ptr 0 [],.ls 1 [.ptr 1 [.sS 7 65]]] [.box (.agg [.ptr 2 [],.ty 48]),.box (.ty 43),.box (.ty 186)] (.jE []) [.box (.agg [.ptr 2 [],.ty 48]),.box (.ty 43),.box (.ty 186)] (fun N a b=>cH N b.1.2.1 b.2.1 b.2.2.1) fun r=>((),(((),r.1,()),r.2.1,r.2.2,()))
theorem Wo:aR E C 148 tF:=gQ tF [(172,bG)] [] 3 [] [(1,3)] ⟨bO,trivial⟩ (fun a b=>(b.1.2.1,b.2.1,b.2.2.1)) Tryz.func148 rfl (by intro N a b;kernel_rfl)
structure dZ where
 t5:Int
 b0:Int
 b1:aN
 b2:aA
def pJ:List Sl:=[.k,.k,.k,.k,.j,.sh (.ty 2),.j,.j,.j,.j,.j,.j,.j,.j,.j]
def pD:List bZ:=[.box (.agg [.ptr 2 [],.ty 2]),.box (.ty 42),.box (.ty 165)]
def Nt (a:Sl.Ts τ pJ)(b:bZ.Ts τ pD):dZ:=⟨a.2.2.2.2.2.1,b.1.2.1,b.2.1,b.2.2.1⟩
def Nl (s:dZ):Sl.Ts τ pJ:=((),(),(),(),(),s.t5,(),(),(),(),(),(),(),(),(),())
def Nf (s:dZ):bZ.Ts τ pD:=(((),s.b0,()),s.b1,s.b2,())
def Na:Lp τ:={ ts:=pJ,hs:=pD,S:=dZ,to:=Nt,ot:=Nl,oh:=Nf,hk:=[2,2,2],tk:=[2,3],eZ:=fun _ _=>rfl,eX:=fun _ _=>rfl }
def dQ (N:Nat)(b0:Int)(b1:aN)(b2:aA):Option (Int×aN×aA) :=
 (iter N (fun (s1:dZ) dK =>
 (bif (decide (s1.t5 < 8)) then
 ((bC N s1.b0 s1.b2).bind fun r3 =>
 (bif (nI s1.t5 8) then
 (dK ⟨(IntKind.i64.wrap (s1.t5+1)),r3.2.1,(⟨s1.b1.Kind,s1.b1.aS,s1.b1.To,s1.b1.aG,s1.b1.Slot,s1.b1.bR,s1.b1.Entry,s1.b1.Number,(NO s1.b1.aH ((s1.t5).toNat) r3.1),s1.b1.bH,s1.b1.Origin,s1.b1.fP,s1.b1.aY,s1.b1.Part⟩:aN),r3.2.2⟩)
 else none))
 else
 (some (s1.b0,s1.b1,s1.b2)))) ⟨0,b0,b1,b2⟩)
def qK:dL τ:=cn [.ptr 0 [],.ptr 1 [.sS 8 66]] [.box (.agg [.ptr 2 [],.ty 48]),.box (.ty 43),.box (.ty 186)] (.jE []) [.box (.agg [.ptr 2 [],.ty 48]),.box (.ty 43),.box (.ty 186)] (fun N a b=>dQ N b.1.2.1 b.2.1 b.2.2.1) fun r=>((),(((),r.1,()),r.2.1,r.2.2,()))
theorem Ta:aR E C 151 qK:=gQ qK [(172,bG)] [(1,Na)] 3 [] [] ⟨bO,trivial⟩ (fun a b=>(b.1.2.1,b.2.1,b.2.2.1)) Tryz.func151 rfl (by intro N a b;kernel_rfl)
def kB (N:Nat)(b0:Int)(b1:aN)(b2:aA):Option (Int×aN×aA) :=
 ((bC N b0 b2).bind fun r1 =>
 (some (r1.2.1,(⟨b1.Kind,b1.aS,b1.To,b1.aG,b1.Slot,b1.bR,b1.Entry,b1.Number,b1.aH,r1.1,b1.Origin,b1.fP,b1.aY,b1.Part⟩:aN),r1.2.2)))
def tG:dL τ:=cn [.ptr 0 [],.ls 1 [.ptr 1 [.sS 9 74]]] [.box (.agg [.ptr 2 [],.ty 48]),.box (.ty 43),.box (.ty 186)] (.jE []) [.box (.agg [.ptr 2 [],.ty 48]),.box (.ty 43),.box (.ty 186)] (fun N a b=>kB N b.1.2.1 b.2.1 b.2.2.1) fun r=>((),(((),r.1,()),r.2.1,r.2.2,()))
theorem Wp:aR E C 148 tG:=gQ tG [(172,bG)] [] 3 [] [(1,3)] ⟨bO,trivial⟩ (fun a b=>(b.1.2.1,b.2.1,b.2.2.1)) Tryz.func148 rfl (by intro N a b;kernel_rfl)
def jC (N:Nat)(b0:Int)(b1:aN)(b2:aA):Option (Int×aN×aA) :=
 ((bE N b0 b2).bind fun r1 =>
 (some (r1.2.1,(⟨b1.Kind,b1.aS,b1.To,b1.aG,b1.Slot,b1.bR,b1.Entry,b1.Number,b1.aH,b1.bH,r1.1,b1.fP,b1.aY,b1.Part⟩:aN),r1.2.2)))
def qB:dL τ:=cn [.ptr 0 [],.ls 1 [.ptr 1 [.sS 10 75]]] [.box (.agg [.ptr 2 [],.ty 48]),.box (.ty 43),.box (.ty 186)] (.jE []) [.box (.agg [.ptr 2 [],.ty 48]),.box (.ty 43),.box (.ty 186)] (fun N a b=>jC N b.1.2.1 b.2.1 b.2.2.1) fun r=>((),(((),r.1,()),r.2.1,r.2.2,()))
theorem Sq:aR E C 121 qB:=gQ qB [(146,bT)] [] 3 [] [(1,3)] ⟨cF,trivial⟩ (fun a b=>(b.1.2.1,b.2.1,b.2.2.1)) Tryz.func121 rfl (by intro N a b;kernel_rfl)
def kA (N:Nat)(b0:Int)(b1:aN)(b2:aA):Option (Int×aN×aA) :=
 (bif (b1.Kind==1) then
 (bif (b1.Kind==1) then
 ((bP N b0 b2).bind fun r1 =>
 ((bF N r1.2.1 (⟨b1.Kind,b1.aS,b1.To,r1.1,b1.Slot,b1.bR,b1.Entry,b1.Number,b1.aH,b1.bH,b1.Origin,b1.fP,b1.aY,b1.Part⟩:aN) r1.2.2).bind fun r2 =>
 (some (r2.1,r2.2.1,r2.2.2))))
 else
 (bif (b1.Kind==2) then
 ((bP N b0 b2).bind fun r3 =>
 ((bF N r3.2.1 (⟨b1.Kind,b1.aS,b1.To,r3.1,b1.Slot,b1.bR,b1.Entry,b1.Number,b1.aH,b1.bH,b1.Origin,b1.fP,b1.aY,b1.Part⟩:aN) r3.2.2).bind fun r4 =>
 ((cN N r4.1 r4.2.2).bind fun r5 =>
 (some (r5.2.1,(⟨r4.2.1.Kind,r4.2.1.aS,r4.2.1.To,r4.2.1.aG,r4.2.1.Slot,r5.1,r4.2.1.Entry,r4.2.1.Number,r4.2.1.aH,r4.2.1.bH,r4.2.1.Origin,r4.2.1.fP,r4.2.1.aY,r4.2.1.Part⟩:aN),r5.2.2)))))
 else
 (bif (b1.Kind==3) then
 ((bP N b0 b2).bind fun r6 =>
 ((cN N r6.2.1 r6.2.2).bind fun r7 =>
 (some (r7.2.1,(⟨b1.Kind,b1.aS,b1.To,r6.1,b1.Slot,r7.1,b1.Entry,b1.Number,b1.aH,b1.bH,b1.Origin,b1.fP,b1.aY,b1.Part⟩:aN),r7.2.2))))
 else
 (bif (b1.Kind==5) then
 ((bP N b0 b2).bind fun r8 =>
 (some (r8.2.1,(⟨b1.Kind,b1.aS,b1.To,r8.1,b1.Slot,b1.bR,b1.Entry,b1.Number,b1.aH,b1.bH,b1.Origin,b1.fP,b1.aY,b1.Part⟩:aN),r8.2.2)))
 else
 (bif (b1.Kind==6) then
 ((cN N b0 b2).bind fun r9 =>
 (some (r9.2.1,(⟨b1.Kind,b1.aS,b1.To,b1.aG,b1.Slot,r9.1,b1.Entry,b1.Number,b1.aH,b1.bH,b1.Origin,b1.fP,b1.aY,b1.Part⟩:aN),r9.2.2)))
 else
 (bif (b1.Kind==8) then
 ((bF N b0 b1 b2).bind fun Nn =>
 (some (Nn.1,Nn.2.1,Nn.2.2)))
 else
 (bif (b1.Kind==9) then
 ((fI N b0 b2).bind fun Vl =>
 (some (Vl.2.1,(⟨b1.Kind,b1.aS,b1.To,b1.aG,b1.Slot,b1.bR,Vl.1,b1.Number,b1.aH,b1.bH,b1.Origin,b1.fP,b1.aY,b1.Part⟩:aN),Vl.2.2)))
 else
 (bif (b1.Kind==10) then
 ((cH N b0 b1 b2).bind fun Tt =>
 ((dQ N Tt.1 Tt.2.1 Tt.2.2).bind fun EJ =>
 ((kB N EJ.1 EJ.2.1 EJ.2.2).bind fun JX =>
 (some (JX.1,JX.2.1,JX.2.2)))))
 else
 (bif (b1.Kind==11) then
 ((cH N b0 b1 b2).bind fun Ci =>
 ((jC N Ci.1 Ci.2.1 Ci.2.2).bind fun Jh =>
 ((bF N Jh.1 Jh.2.1 Jh.2.2).bind fun Kc =>
 ((gJ N Kc.1 Kc.2.2).bind fun j7 =>
 (some (j7.2.1,(⟨Kc.2.1.Kind,Kc.2.1.aS,Kc.2.1.To,Kc.2.1.aG,Kc.2.1.Slot,Kc.2.1.bR,Kc.2.1.Entry,Kc.2.1.Number,Kc.2.1.aH,Kc.2.1.bH,Kc.2.1.Origin,j7.1,Kc.2.1.aY,Kc.2.1.Part⟩:aN),j7.2.2))))))
 else
 (bif (b1.Kind==12) then
 ((fJ N b0 b2).bind fun R5 =>
 (some (R5.2.1,(⟨b1.Kind,b1.aS,b1.To,b1.aG,b1.Slot,b1.bR,b1.Entry,b1.Number,b1.aH,b1.bH,b1.Origin,b1.fP,R5.1,b1.Part⟩:aN),R5.2.2)))
 else
 (bif (b1.Kind==13) then
 ((dN N b0 b2).bind fun fh =>
 (some (fh.2.1,(⟨b1.Kind,b1.aS,b1.To,b1.aG,b1.Slot,b1.bR,b1.Entry,b1.Number,b1.aH,b1.bH,b1.Origin,b1.fP,b1.aY,fh.1⟩:aN),fh.2.2)))
 else
 (bif (b1.Kind==14) then
 ((cH N b0 b1 b2).bind fun fj =>
 ((dQ N fj.1 fj.2.1 fj.2.2).bind fun V5 =>
 (some (V5.1,V5.2.1,V5.2.2))))
 else
 (bif (b1.Kind==15) then
 ((bF N b0 b1 b2).bind fun QV =>
 ((dN N QV.1 QV.2.2).bind fun kr =>
 (some (kr.2.1,(⟨QV.2.1.Kind,QV.2.1.aS,QV.2.1.To,QV.2.1.aG,QV.2.1.Slot,QV.2.1.bR,QV.2.1.Entry,QV.2.1.Number,QV.2.1.aH,QV.2.1.bH,QV.2.1.Origin,QV.2.1.fP,QV.2.1.aY,kr.1⟩:aN),kr.2.2))))
 else
 (some (b0,b1,b2)))))))))))))))
 else
 (bif (b1.Kind==4) then
 (bif (b1.Kind==4) then
 ((bP N b0 b2).bind fun cl =>
 ((bF N cl.2.1 (⟨b1.Kind,b1.aS,b1.To,cl.1,b1.Slot,b1.bR,b1.Entry,b1.Number,b1.aH,b1.bH,b1.Origin,b1.fP,b1.aY,b1.Part⟩:aN) cl.2.2).bind fun qf =>
 (some (qf.1,qf.2.1,qf.2.2))))
 else
 (bif (b1.Kind==2) then
 ((bP N b0 b2).bind fun fk =>
 ((bF N fk.2.1 (⟨b1.Kind,b1.aS,b1.To,fk.1,b1.Slot,b1.bR,b1.Entry,b1.Number,b1.aH,b1.bH,b1.Origin,b1.fP,b1.aY,b1.Part⟩:aN) fk.2.2).bind fun QW =>
 ((cN N QW.1 QW.2.2).bind fun qg =>
 (some (qg.2.1,(⟨QW.2.1.Kind,QW.2.1.aS,QW.2.1.To,QW.2.1.aG,QW.2.1.Slot,qg.1,QW.2.1.Entry,QW.2.1.Number,QW.2.1.aH,QW.2.1.bH,QW.2.1.Origin,QW.2.1.fP,QW.2.1.aY,QW.2.1.Part⟩:aN),qg.2.2)))))
 else
 (bif (b1.Kind==3) then
 ((bP N b0 b2).bind fun uv =>
 ((cN N uv.2.1 uv.2.2).bind fun V6 =>
 (some (V6.2.1,(⟨b1.Kind,b1.aS,b1.To,uv.1,b1.Slot,V6.1,b1.Entry,b1.Number,b1.aH,b1.bH,b1.Origin,b1.fP,b1.aY,b1.Part⟩:aN),V6.2.2))))
 else
 (bif (b1.Kind==5) then
 ((bP N b0 b2).bind fun fm =>
 (some (fm.2.1,(⟨b1.Kind,b1.aS,b1.To,fm.1,b1.Slot,b1.bR,b1.Entry,b1.Number,b1.aH,b1.bH,b1.Origin,b1.fP,b1.aY,b1.Part⟩:aN),fm.2.2)))
 else
 (bif (b1.Kind==6) then
 ((cN N b0 b2).bind fun qh =>
 (some (qh.2.1,(⟨b1.Kind,b1.aS,b1.To,b1.aG,b1.Slot,qh.1,b1.Entry,b1.Number,b1.aH,b1.bH,b1.Origin,b1.fP,b1.aY,b1.Part⟩:aN),qh.2.2)))
 else
 (bif (b1.Kind==8) then
 ((bF N b0 b1 b2).bind fun qi =>
 (some (qi.1,qi.2.1,qi.2.2)))
 else
 (bif (b1.Kind==9) then
 ((fI N b0 b2).bind fun r35 =>
 (some (r35.2.1,(⟨b1.Kind,b1.aS,b1.To,b1.aG,b1.Slot,b1.bR,r35.1,b1.Number,b1.aH,b1.bH,b1.Origin,b1.fP,b1.aY,b1.Part⟩:aN),r35.2.2)))
 else
 (bif (b1.Kind==10) then
 ((cH N b0 b1 b2).bind fun wx =>
 ((dQ N wx.1 wx.2.1 wx.2.2).bind fun r37 =>
 ((kB N r37.1 r37.2.1 r37.2.2).bind fun r38 =>
 (some (r38.1,r38.2.1,r38.2.2)))))
 else
 (bif (b1.Kind==11) then
 ((cH N b0 b1 b2).bind fun r39 =>
 ((jC N r39.1 r39.2.1 r39.2.2).bind fun r40 =>
 ((bF N r40.1 r40.2.1 r40.2.2).bind fun s7 =>
 ((gJ N s7.1 s7.2.2).bind fun r42 =>
 (some (r42.2.1,(⟨s7.2.1.Kind,s7.2.1.aS,s7.2.1.To,s7.2.1.aG,s7.2.1.Slot,s7.2.1.bR,s7.2.1.Entry,s7.2.1.Number,s7.2.1.aH,s7.2.1.bH,s7.2.1.Origin,r42.1,s7.2.1.aY,s7.2.1.Part⟩:aN),r42.2.2))))))
 else
 (bif (b1.Kind==12) then
 ((fJ N b0 b2).bind fun r43 =>
 (some (r43.2.1,(⟨b1.Kind,b1.aS,b1.To,b1.aG,b1.Slot,b1.bR,b1.Entry,b1.Number,b1.aH,b1.bH,b1.Origin,b1.fP,r43.1,b1.Part⟩:aN),r43.2.2)))
 else
 (bif (b1.Kind==13) then
 ((dN N b0 b2).bind fun r44 =>
 (some (r44.2.1,(⟨b1.Kind,b1.aS,b1.To,b1.aG,b1.Slot,b1.bR,b1.Entry,b1.Number,b1.aH,b1.bH,b1.Origin,b1.fP,b1.aY,r44.1⟩:aN),r44.2.2)))
 else
 (bif (b1.Kind==14) then
 ((cH N b0 b1 b2).bind fun r45 =>
 ((dQ N r45.1 r45.2.1 r45.2.2).bind fun r46 =>
 (some (r46.1,r46.2.1,r46.2.2))))
 else
 (bif (b1.Kind==15) then
 ((bF N b0 b1 b2).bind fun s8 =>
 ((dN N s8.1 s8.2.2).bind fun r48 =>
 (some (r48.2.1,(⟨s8.2.1.Kind,s8.2.1.aS,s8.2.1.To,s8.2.1.aG,s8.2.1.Slot,s8.2.1.bR,s8.2.1.Entry,s8.2.1.Number,s8.2.1.aH,s8.2.1.bH,s8.2.1.Origin,s8.2.1.fP,s8.2.1.aY,r48.1⟩:aN),r48.2.2))))
 else
 (some (b0,b1,b2)))))))))))))))
 else
 (bif (b1.Kind==7) then
 ((bP N b0 b2).bind fun r49 =>
 ((bF N r49.2.1 (⟨b1.Kind,b1.aS,b1.To,r49.1,b1.Slot,b1.bR,b1.Entry,b1.Number,b1.aH,b1.bH,b1.Origin,b1.fP,b1.aY,b1.Part⟩:aN) r49.2.2).bind fun r50 =>
 (some (r50.1,r50.2.1,r50.2.2))))
 else
 (bif (b1.Kind==2) then
 ((bP N b0 b2).bind fun r51 =>
 ((bF N r51.2.1 (⟨b1.Kind,b1.aS,b1.To,r51.1,b1.Slot,b1.bR,b1.Entry,b1.Number,b1.aH,b1.bH,b1.Origin,b1.fP,b1.aY,b1.Part⟩:aN) r51.2.2).bind fun s9 =>
 ((cN N s9.1 s9.2.2).bind fun r53 =>
 (some (r53.2.1,(⟨s9.2.1.Kind,s9.2.1.aS,s9.2.1.To,s9.2.1.aG,s9.2.1.Slot,r53.1,s9.2.1.Entry,s9.2.1.Number,s9.2.1.aH,s9.2.1.bH,s9.2.1.Origin,s9.2.1.fP,s9.2.1.aY,s9.2.1.Part⟩:aN),r53.2.2)))))
 else
 (bif (b1.Kind==3) then
 ((bP N b0 b2).bind fun r54 =>
 ((cN N r54.2.1 r54.2.2).bind fun r55 =>
 (some (r55.2.1,(⟨b1.Kind,b1.aS,b1.To,r54.1,b1.Slot,r55.1,b1.Entry,b1.Number,b1.aH,b1.bH,b1.Origin,b1.fP,b1.aY,b1.Part⟩:aN),r55.2.2))))
 else
 (bif (b1.Kind==5) then
 ((bP N b0 b2).bind fun r56 =>
 (some (r56.2.1,(⟨b1.Kind,b1.aS,b1.To,r56.1,b1.Slot,b1.bR,b1.Entry,b1.Number,b1.aH,b1.bH,b1.Origin,b1.fP,b1.aY,b1.Part⟩:aN),r56.2.2)))
 else
 (bif (b1.Kind==6) then
 ((cN N b0 b2).bind fun r57 =>
 (some (r57.2.1,(⟨b1.Kind,b1.aS,b1.To,b1.aG,b1.Slot,r57.1,b1.Entry,b1.Number,b1.aH,b1.bH,b1.Origin,b1.fP,b1.aY,b1.Part⟩:aN),r57.2.2)))
 else
 (bif (b1.Kind==8) then
 ((bF N b0 b1 b2).bind fun r58 =>
 (some (r58.1,r58.2.1,r58.2.2)))
 else
 (bif (b1.Kind==9) then
 ((fI N b0 b2).bind fun r59 =>
 (some (r59.2.1,(⟨b1.Kind,b1.aS,b1.To,b1.aG,b1.Slot,b1.bR,r59.1,b1.Number,b1.aH,b1.bH,b1.Origin,b1.fP,b1.aY,b1.Part⟩:aN),r59.2.2)))
 else
 (bif (b1.Kind==10) then
 ((cH N b0 b1 b2).bind fun r60 =>
 ((dQ N r60.1 r60.2.1 r60.2.2).bind fun r61 =>
 ((kB N r61.1 r61.2.1 r61.2.2).bind fun r62 =>
 (some (r62.1,r62.2.1,r62.2.2)))))
 else
 (bif (b1.Kind==11) then
 ((cH N b0 b1 b2).bind fun r63 =>
 ((jC N r63.1 r63.2.1 r63.2.2).bind fun r64 =>
 ((bF N r64.1 r64.2.1 r64.2.2).bind fun R6 =>
 ((gJ N R6.1 R6.2.2).bind fun r66 =>
 (some (r66.2.1,(⟨R6.2.1.Kind,R6.2.1.aS,R6.2.1.To,R6.2.1.aG,R6.2.1.Slot,R6.2.1.bR,R6.2.1.Entry,R6.2.1.Number,R6.2.1.aH,R6.2.1.bH,R6.2.1.Origin,r66.1,R6.2.1.aY,R6.2.1.Part⟩:aN),r66.2.2))))))
 else
 (bif (b1.Kind==12) then
 ((fJ N b0 b2).bind fun r67 =>
 (some (r67.2.1,(⟨b1.Kind,b1.aS,b1.To,b1.aG,b1.Slot,b1.bR,b1.Entry,b1.Number,b1.aH,b1.bH,b1.Origin,b1.fP,r67.1,b1.Part⟩:aN),r67.2.2)))
 else
 (bif (b1.Kind==13) then
 ((dN N b0 b2).bind fun r68 =>
 (some (r68.2.1,(⟨b1.Kind,b1.aS,b1.To,b1.aG,b1.Slot,b1.bR,b1.Entry,b1.Number,b1.aH,b1.bH,b1.Origin,b1.fP,b1.aY,r68.1⟩:aN),r68.2.2)))
 else
 (bif (b1.Kind==14) then
 ((cH N b0 b1 b2).bind fun r69 =>
 ((dQ N r69.1 r69.2.1 r69.2.2).bind fun r70 =>
 (some (r70.1,r70.2.1,r70.2.2))))
 else
 (bif (b1.Kind==15) then
 ((bF N b0 b1 b2).bind fun R7 =>
 ((dN N R7.1 R7.2.2).bind fun r72 =>
 (some (r72.2.1,(⟨R7.2.1.Kind,R7.2.1.aS,R7.2.1.To,R7.2.1.aG,R7.2.1.Slot,R7.2.1.bR,R7.2.1.Entry,R7.2.1.Number,R7.2.1.aH,R7.2.1.bH,R7.2.1.Origin,R7.2.1.fP,R7.2.1.aY,r72.1⟩:aN),r72.2.2))))
 else
 (some (b0,b1,b2)))))))))))))))))
def tD:dL τ:=cn [.ptr 0 [],.ptr 1 []] [.box (.agg [.ptr 2 [],.ty 48]),.box (.ty 43),.box (.ty 186)] (.jE []) [.box (.agg [.ptr 2 [],.ty 48]),.box (.ty 43),.box (.ty 186)] (fun N a b=>kA N b.1.2.1 b.2.1 b.2.2.1) fun r=>((),(((),r.1,()),r.2.1,r.2.2,()))
theorem Wm:aR E C 122 tD:=gQ tD [(147,kO),(148,tH),(149,tR),(150,lF),(148,tF),(151,qK),(148,tG),(121,qB),(152,nM),(153,lG),(154,mG)] [] 3 [] [] ⟨Cb,⟨Wq,⟨Xa,⟨Cx,⟨Wo,⟨Ta,⟨Wp,⟨Sq,⟨Gz,⟨Cy,⟨Em,trivial⟩⟩⟩⟩⟩⟩⟩⟩⟩⟩⟩ (fun a b=>(b.1.2.1,b.2.1,b.2.2.1)) Tryz.func122 rfl (by intro N a b;kernel_rfl)
def kX (N:Nat)(b0:Int)(b1:aA):Option (aN×Int×aA) :=
 ((sY N b0 (⟨0,(⟨0,0⟩:bV),(⟨0,0⟩:bV),(⟨0,0⟩:aT),0,[],(⟨0,0,0,(⟨(⟨0,0⟩:bB),0,0,0,[],[],[]⟩:dP),0,0,[],(⟨0,(Vector.replicate 8 (default:Int)),(Vector.replicate 8 (default:Int)),(Vector.replicate 8 (default:Int))⟩:aD),0,(Vector.replicate 8 (default:Int)),0,(⟨0,0,0,[]⟩:aK),0,0,0⟩:aB),0,(Vector.replicate 8 (default:Int)),0,0,[],(⟨0,(Vector.replicate 8 (default:Int)),(Vector.replicate 8 (default:Int)),(Vector.replicate 8 (default:Int))⟩:aD),(⟨0,0,0,[]⟩:aK)⟩:aN) b1).bind fun r1 =>
 (bif ((r1.1==0)&&((decide (r1.2.1.Kind < 1)) || (decide (15 < r1.2.1.Kind)))) then
 ((fD N 40 r1.2.1 r1.2.2).bind fun r2 =>
 ((kA N r2.1 r2.2.1 r2.2.2).bind fun r3 =>
 (some (r3.2.1,r3.1,r3.2.2))))
 else
 ((fD N r1.1 r1.2.1 r1.2.2).bind fun r4 =>
 ((kA N r4.1 r4.2.1 r4.2.2).bind fun r5 =>
 (some (r5.2.1,r5.1,r5.2.2))))))
def oW:dL τ:=cn [.ptr 0 []] [.box (.agg [.ptr 1 [],.ty 48]),.box (.ty 186)] (.ty 43) [.box (.agg [.ptr 1 [],.ty 48]),.box (.ty 186)] (fun N a b=>kX N b.1.2.1 b.2.1) fun r=>(r.1,(((),r.2.1,()),r.2.2,()))
theorem Ps:aR E C 79 oW:=gQ oW [(121,qD),(121,qA),(122,tD)] [] 2 [] [] ⟨Ss,⟨Sp,⟨Wm,trivial⟩⟩⟩ (fun a b=>(a,b.1.2.1,b.2.1)) Tryz.func79 rfl (by intro N a b;kernel_rfl)
def uK (N:Nat)(b0:aA):Option (Int×aA) :=
 ((iB N b0).bind fun r1 =>
 (bif r1.1 then
 (some (2,r1.2))
 else
 (bif (decide (0 < ((r1.2.b).length:Int))) then
 (some (13,r1.2))
 else
 (some (0,r1.2)))))
def xU:dL τ:=cn [.ptr 0 []] [.box (.ty 186)] (.ty 48) [.box (.ty 186)] (fun N a b=>uK N b.1) fun r=>(r.1,(r.2,()))
theorem EC:aR E C 81 xU:=gQ xU [(123,kM)] [] 1 [] [] ⟨yD,trivial⟩ (fun a b=>(a,b.1)) Tryz.func81 rfl (by intro N a b;kernel_rfl)
def Ag (N:Nat)(b:List (Int)):Option (aN×Int) :=
 ((Ld N b).bind fun r1 =>
 (bif (!(r1.2.2==0)) then
 (some ((⟨0,(⟨0,0⟩:bV),(⟨0,0⟩:bV),(⟨0,0⟩:aT),0,[],(⟨0,0,0,(⟨(⟨0,0⟩:bB),0,0,0,[],[],[]⟩:dP),0,0,[],(⟨0,(Vector.replicate 8 (default:Int)),(Vector.replicate 8 (default:Int)),(Vector.replicate 8 (default:Int))⟩:aD),0,(Vector.replicate 8 (default:Int)),0,(⟨0,0,0,[]⟩:aK),0,0,0⟩:aB),0,(Vector.replicate 8 (default:Int)),0,0,[],(⟨0,(Vector.replicate 8 (default:Int)),(Vector.replicate 8 (default:Int)),(Vector.replicate 8 (default:Int))⟩:aD),(⟨0,0,0,[]⟩:aK)⟩:aN),r1.2.2))
 else
 (bif (decide (r1.2.1 < ((b).length:Int))) then
 (some ((⟨0,(⟨0,0⟩:bV),(⟨0,0⟩:bV),(⟨0,0⟩:aT),0,[],(⟨0,0,0,(⟨(⟨0,0⟩:bB),0,0,0,[],[],[]⟩:dP),0,0,[],(⟨0,(Vector.replicate 8 (default:Int)),(Vector.replicate 8 (default:Int)),(Vector.replicate 8 (default:Int))⟩:aD),0,(Vector.replicate 8 (default:Int)),0,(⟨0,0,0,[]⟩:aK),0,0,0⟩:aB),0,(Vector.replicate 8 (default:Int)),0,0,[],(⟨0,(Vector.replicate 8 (default:Int)),(Vector.replicate 8 (default:Int)),(Vector.replicate 8 (default:Int))⟩:aD),(⟨0,0,0,[]⟩:aK)⟩:aN),13))
 else
 ((Eu N r1.1).bind fun r2 =>
 ((kX N 0 r2).bind fun r3 =>
 ((uK N r3.2.2).bind fun r4 =>
 ((dM N r4.1 r3.2.1 r4.2).bind fun r5 =>
 (bif (r5.1==0) then
 ((vW N r3.1).bind fun r6 =>
 (bif (!(r6==0)) then
 (some ((⟨0,(⟨0,0⟩:bV),(⟨0,0⟩:bV),(⟨0,0⟩:aT),0,[],(⟨0,0,0,(⟨(⟨0,0⟩:bB),0,0,0,[],[],[]⟩:dP),0,0,[],(⟨0,(Vector.replicate 8 (default:Int)),(Vector.replicate 8 (default:Int)),(Vector.replicate 8 (default:Int))⟩:aD),0,(Vector.replicate 8 (default:Int)),0,(⟨0,0,0,[]⟩:aK),0,0,0⟩:aB),0,(Vector.replicate 8 (default:Int)),0,0,[],(⟨0,(Vector.replicate 8 (default:Int)),(Vector.replicate 8 (default:Int)),(Vector.replicate 8 (default:Int))⟩:aD),(⟨0,0,0,[]⟩:aK)⟩:aN),r6))
 else
 (some (r3.1,0))))
 else
 (bif (!(r5.1==0)) then
 (some ((⟨0,(⟨0,0⟩:bV),(⟨0,0⟩:bV),(⟨0,0⟩:aT),0,[],(⟨0,0,0,(⟨(⟨0,0⟩:bB),0,0,0,[],[],[]⟩:dP),0,0,[],(⟨0,(Vector.replicate 8 (default:Int)),(Vector.replicate 8 (default:Int)),(Vector.replicate 8 (default:Int))⟩:aD),0,(Vector.replicate 8 (default:Int)),0,(⟨0,0,0,[]⟩:aK),0,0,0⟩:aB),0,(Vector.replicate 8 (default:Int)),0,0,[],(⟨0,(Vector.replicate 8 (default:Int)),(Vector.replicate 8 (default:Int)),(Vector.replicate 8 (default:Int))⟩:aD),(⟨0,0,0,[]⟩:aK)⟩:aN),r5.1))
 else
 (some (r3.1,0)))))))))))
def Dg:dL τ:=cn [.ty 37] [] (.jE [.ty 43,.ty 48]) [] (fun N a b=>Ag N a.1) fun r=>((r.1,r.2,()),())
theorem MP:aR E C 33 Dg:=gQ Dg [(77,Mo),(78,Ih),(79,oW),(81,xU),(80,gH),(51,xL)] [] 0 [] [] ⟨e9,⟨SO,⟨Ps,⟨EC,⟨nR,⟨Vf,trivial⟩⟩⟩⟩⟩⟩ (fun a b=>(a.1,a.2.1)) Tryz.func33 rfl (by intro N a b;kernel_rfl)
def kV (N:Nat)(number:Int)(b0:Nat)(yJ:Int)(Xz:Bool)(g1:List (bJ))(ms:List (Option (List (Int)))):Option (aN×Int×Nat×Int×Bool×(List (Option (List (Int))))×(List (bJ))) :=
 ((jU N number b0 yJ Xz g1 ms).bind fun r1 =>
 (bif (!(r1.2.1==0)) then
 (some ((⟨0,(⟨0,0⟩:bV),(⟨0,0⟩:bV),(⟨0,0⟩:aT),0,[],(⟨0,0,0,(⟨(⟨0,0⟩:bB),0,0,0,[],[],[]⟩:dP),0,0,[],(⟨0,(Vector.replicate 8 (default:Int)),(Vector.replicate 8 (default:Int)),(Vector.replicate 8 (default:Int))⟩:aD),0,(Vector.replicate 8 (default:Int)),0,(⟨0,0,0,[]⟩:aK),0,0,0⟩:aB),0,(Vector.replicate 8 (default:Int)),0,0,[],(⟨0,(Vector.replicate 8 (default:Int)),(Vector.replicate 8 (default:Int)),(Vector.replicate 8 (default:Int))⟩:aD),(⟨0,0,0,[]⟩:aK)⟩:aN),r1.2.1,r1.2.2.1,r1.2.2.2.1,r1.2.2.2.2.1,r1.2.2.2.2.2.2,r1.2.2.2.2.2.1))
 else
 (bif (nI r1.1 ((r1.2.2.1:Nat):Int)) then
 (bif (decide ((r1.1).toNat < (r1.2.2.2.2.2.1).length)) then
 ((kH N r1.2.2.1 r1.1 (IntKind.i64.wrap (r1.1+1)) r1.2.2.2.2.2.1 r1.2.2.2.2.2.2).bind fun r2 =>
 ((Ag N (((Kx r2.2.1 (((r1.2.2.2.2.2.1.getD ((r1.1).toNat) default).Data).j)).drop (((r1.2.2.2.2.2.1.getD ((r1.1).toNat) default).Data).o)).take (((r1.2.2.2.2.2.1.getD ((r1.1).toNat) default).Data).n))).bind fun r3 =>
 (bif ((EI r2.2.1 (((r1.2.2.2.2.2.1.getD ((r1.1).toNat) default).Data).j))&&(Nat.ble (((r1.2.2.2.2.2.1.getD ((r1.1).toNat) default).Data).o+((r1.2.2.2.2.2.1.getD ((r1.1).toNat) default).Data).n) (Kx r2.2.1 (((r1.2.2.2.2.2.1.getD ((r1.1).toNat) default).Data).j)).length)) then
 (some (r3.1,r3.2,r2.1,r1.2.2.2.1,r1.2.2.2.2.1,(As r2.2.1 (((r1.2.2.2.2.2.1.getD ((r1.1).toNat) default).Data).j) none),r2.2.2))
 else none)))
 else none)
 else none)))
def vT:dL τ:=cn [.ptr 0 [],.ty 2] [.box (.agg [.agg [.mS 20065 1,.ty 2],.ty 4]),.eD 20065,.aX 5] (.jE [.ty 43,.ty 48]) [.box (.agg [.agg [.mS 20065 3,.ty 2],.ty 4]),.dead,.aX 5,.eD 20065] (fun N a b=>kV N a.2.1 b.1.1.1 b.1.1.2.1 b.1.2.1 b.2.1 b.2.2.1) fun r=>((r.1,r.2.1,()),(((r.2.2.1,r.2.2.2.1,()),r.2.2.2.2.1,()),(),r.2.2.2.2.2.1,r.2.2.2.2.2.2,()))
theorem Sj:aR E C 13 vT:=WK vT [(31,oP),(32,mI),(33,Dg)] [] 3 [] [] [] [41] [] ⟨Cv,⟨Eo,⟨MP,trivial⟩⟩⟩ (fun a b=>(a.1,a.2.1,b.1.1.1,b.1.1.2.1,b.1.2.1,b.2.2.1,b.2.2.2.1)) Tryz.func13 rfl (by intro N a b;kernel_rfl)
def Qw (N:Nat)(b0:Nat)(yJ:Int)(Xz:Bool)(g1:List (bJ))(ms:List (Option (List (Int)))):Option (Int×Bool×Nat×Int×Bool×(List (bJ))×(List (Option (List (Int))))) :=
 ((eU N b0 yJ Xz g1 ms).bind fun r1 =>
 (bif (r1.1 || (((r1.2.1:Nat):Int)==0)) then
 (some (0,false,r1.2.1,r1.2.2.1,r1.2.2.2.1,r1.2.2.2.2.1,r1.2.2.2.2.2))
 else
 (bif (nI 0 ((r1.2.1:Nat):Int)) then
 (bif (decide (0 < (r1.2.2.2.2.1).length)) then
 (some ((r1.2.2.2.2.1.getD 0 default).Number,true,r1.2.1,r1.2.2.1,r1.2.2.2.1,r1.2.2.2.2.1,r1.2.2.2.2.2))
 else none)
 else none)))
def Bk:dL τ:=cn [.ptr 0 []] [.box (.agg [.agg [.mS 20065 1,.ty 2],.ty 4]),.eD 20065,.aX 5] (.jE [.ty 2,.ty 4]) [.box (.agg [.agg [.mS 20065 1,.ty 2],.ty 4]),.eD 20065,.aX 5] (fun N a b=>Qw N b.1.1.1 b.1.1.2.1 b.1.2.1 b.2.1 b.2.2.1) fun r=>((r.1,r.2.1,()),(((r.2.2.1,r.2.2.2.1,()),r.2.2.2.2.1,()),r.2.2.2.2.2.1,r.2.2.2.2.2.2,()))
theorem JL:aR E C 19 Bk:=WK Bk [(25,iA)] [] 3 [] [] [] [] [] ⟨nE,trivial⟩ (fun a b=>(a.1,a.2.1,b.1.1.1,b.1.1.2.1,b.1.2.1,b.2.1,b.2.2.1)) Tryz.func19 rfl (by intro N a b;kernel_rfl)
def Xx (N:Nat)(b0:Nat)(yJ:Int)(Xz:Bool)(g1:List (bJ))(ms:List (Option (List (Int)))):Option (Int×Nat×Int×Bool×(List (bJ))×(List (Option (List (Int))))) :=
 ((eU N b0 yJ Xz g1 ms).bind fun r1 =>
 (bif r1.1 then
 (some (0,r1.2.1,r1.2.2.1,r1.2.2.2.1,r1.2.2.2.2.1,r1.2.2.2.2.2))
 else
 (some (((r1.2.1:Nat):Int),r1.2.1,r1.2.2.1,r1.2.2.2.1,r1.2.2.2.2.1,r1.2.2.2.2.2))))
def Fm:dL τ:=cn [.ptr 0 []] [.box (.agg [.agg [.mS 20065 1,.ty 2],.ty 4]),.eD 20065,.aX 5] (.ty 3) [.box (.agg [.agg [.mS 20065 1,.ty 2],.ty 4]),.eD 20065,.aX 5] (fun N a b=>Xx N b.1.1.1 b.1.1.2.1 b.1.2.1 b.2.1 b.2.2.1) fun r=>(r.1,(((r.2.1,r.2.2.1,()),r.2.2.2.1,()),r.2.2.2.2.1,r.2.2.2.2.2,()))
theorem PK:aR E C 15 Fm:=WK Fm [(25,iA)] [] 3 [] [] [] [] [] ⟨nE,trivial⟩ (fun a b=>(a,b.1.1.1,b.1.1.2.1,b.1.2.1,b.2.1,b.2.2.1)) Tryz.func15 rfl (by intro N a b;kernel_rfl)
def yL (N:Nat)(ms:List (Option (List (Int)))):Option (Bool×(List (Option (List (Int))))) :=
 ((NR N).bind fun r1 =>
 ((EO N 5).bind fun r2 =>
 ((EO N 6).bind fun r3 =>
 ((oK N [r2,r3] r1.1 r1.2.1 r1.2.2.1 r1.2.2.2 ms).bind fun r4 =>
 ((kV N 2 r4.2.2.1 r4.2.2.2.1 r4.2.2.2.2.1 r4.2.2.2.2.2.2 r4.2.2.2.2.2.1).bind fun r5 =>
 ((Qw N r5.2.2.1 r5.2.2.2.1 r5.2.2.2.2.1 r5.2.2.2.2.2.2 r5.2.2.2.2.2.1).bind fun r6 =>
 (bif ((((r4.1==2)&&(r4.2.1==0))&&(r5.2.1==0))&&(r5.1.Slot==6)) then
 ((Xx N r6.2.2.1 r6.2.2.2.1 r6.2.2.2.2.1 r6.2.2.2.2.2.1 r6.2.2.2.2.2.2).bind fun r7 =>
 (some ((((((((r4.1==2)&&(r4.2.1==0))&&(r5.2.1==0))&&(r5.1.Slot==6))&&(r7.1==1))&&r6.2.1)&&(r6.1==1)),r7.2.2.2.2.2)))
 else
 (some (false,r6.2.2.2.2.2.2)))))))))
def Hv:dL τ:=cn [] [.aX 5] (.ty 4) [.aX 5] (fun N a b=>yL N b.1) fun r=>(r.1,(r.2,()))
theorem SF:aR E C 9 Hv:=WK Hv [(8,AB),(24,Vs),(10,vS),(13,vT),(19,Bk),(15,Fm)] [] 1 [] [] [] [] [] ⟨H9,⟨Q3,⟨Si,⟨Sj,⟨JL,⟨PK,trivial⟩⟩⟩⟩⟩⟩ (fun a b=>(a,b.1)) Tryz.func9 rfl (by intro N a b;kernel_rfl)
def xF (N:Nat)(s:Nat)(s2:Nat)(s3:Nat)(s4:Bool)(g0:List (bJ))(ms:List (Option (List (Int)))):Option (Nat×(List (bJ))×(List (Option (List (Int))))×(List (bJ))) :=
 (bif (s4 || (Nat.blt 0 s2)) then
 (bif ((dG ((((g0.drop s).take s2)).length) 64)&&(Nat.ble (s+s2) (g0).length)) then
 (some ((((g0.drop s).take s2)).length,g0,ms,((g0.drop s).take s2)))
 else none)
 else none)
def Eg:dL τ:=cn [.nG 20065 0] [.eD 20065,.aX 5] (.mS 20065 2) [.eD 20065,.aX 5,.eD 20065] (fun N a b=>xF N a.1.1 a.1.2.1 a.1.2.2.1 a.1.2.2.2 b.1 b.2.1) fun r=>(r.1,(r.2.1,r.2.2.1,r.2.2.2,()))
theorem Yz:aR E C 83 Eg:=WK Eg [] [] 2 [7] [] [] [] [] trivial (fun a b=>(a,b.1,b.2.1,b.2.2.1)) Tryz.func83 rfl (by intro N a b;kernel_rfl)
def Zv (N:Nat)(g0:List (bJ))(ms:List (Option (List (Int)))):Option (Nat×(List (bJ))×(List (Option (List (Int))))×(List (bJ))) :=
 (some (0,g0,ms,[]))
def vC:dL τ:=cn [.nil .slice] [.eD 20065,.aX 5] (.mS 20065 2) [.eD 20065,.aX 5,.eD 20065] (fun N a b=>Zv N b.1 b.2.1) fun r=>(r.1,(r.2.1,r.2.2.1,r.2.2.2,()))
theorem Yy:aR E C 83 vC:=WK vC [] [] 2 [7] [] [] [] [] trivial (fun a b=>(a,b.1,b.2.1,b.2.2.1)) Tryz.func83 rfl (by intro N a b;kernel_rfl)
def xE (N:Nat)(s:Nat)(g0:List (bJ))(ms:List (Option (List (Int)))):Option (Nat×(List (bJ))×(List (Option (List (Int))))×(List (bJ))):=xF N 0 s s true g0 ms
def vB:dL τ:=cn [.mS 20065 0] [.eD 20065,.aX 5] (.mS 20065 2) [.eD 20065,.aX 5,.eD 20065] (fun N a b=>xE N a.1 b.1 b.2.1) fun r=>(r.1,(r.2.1,r.2.2.1,r.2.2.2,()))
theorem Yx:aR E C 83 vB:=by
 intro N a b r h
 obtain⟨x0,u⟩:=a
 refine mT.aGF (pre:=[]) (post:=[]) (fun h0=>?_) (Yz N ((0,x0,x0,true),u) b r h)
 have h0:x0=(0:Nat):=h0
 subst h0
 have e:vC.F N ((),u) b=vB.F N ((0:Nat),u) b:=by
  obtain⟨b0,b1,v⟩:=b
  cases b0<;>kernel_rfl
 exact Yy N ((),u) b r (e.trans h)
def kY (N:Nat)(s:Nat)(s2:Nat)(s3:Nat)(s4:Bool)(g0:List (Int)):Option (Nat×(List (Int))×(List (Int))) :=
 (bif (s4 || (Nat.blt 0 s2)) then
 (bif ((dG ((((g0.drop s).take s2)).length) 1)&&(Nat.ble (s+s2) (g0).length)) then
 (some ((((g0.drop s).take s2)).length,g0,((g0.drop s).take s2)))
 else none)
 else none)
def nO:dL τ:=cn [.nG 5 0] [.eD 5] (.mS 5 1) [.eD 5,.eD 5] (fun N a b=>kY N a.1.1 a.1.2.1 a.1.2.2.1 a.1.2.2.2 b.1) fun r=>(r.1,(r.2.1,r.2.2,()))
theorem Hb:aR E C 40 nO:=gQ nO [] [] 1 [7] [] trivial (fun a b=>(a,b.1,b.2.1)) Tryz.func40 rfl (by intro N a b;kernel_rfl)
structure yP where
 t8:Int
 ms:List (Option (List (Int)))
 g2:List (bJ)
def La:List Sl:=[.k,.k,.k,.j,.k,.k,.k,.k,.sh (.ty 2),.j,.j,.j,.j,.j,.j,.j,.j,.j,.j,.j,.j,.j,.k]
def Kp:List bZ:=[.iO,.aX 5,.eD 20065]
def TK (a:Sl.Ts τ La)(b:bZ.Ts τ Kp):yP:=⟨a.2.2.2.2.2.2.2.2.1,b.2.1,b.2.2.1⟩
def SQ (s:yP):Sl.Ts τ La:=((),(),(),(),(),(),(),(),s.t8,(),(),(),(),(),(),(),(),(),(),(),(),(),(),())
def SC (s:yP):bZ.Ts τ Kp:=((),s.ms,s.g2,())
def RT:Lp τ:={ ts:=La,hs:=Kp,S:=yP,to:=TK,ot:=SQ,oh:=SC,hk:=[4,8,4],tk:=[],eZ:=fun _ _=>rfl,eX:=fun _ _=>rfl }
def yX (N:Nat)(l:Nat)(g0:List (bJ))(ms:List (Option (List (Int)))):Option (Nat×(List (bJ))×(List (Option (List (Int))))×(List (bJ))) :=
 ((xE N l g0 ms).bind fun r1 =>
 (iter N (fun (s2:yP) wW =>
 (bif (decide (s2.t8 < ((r1.1:Nat):Int))) then
 (bif (nI s2.t8 ((r1.1:Nat):Int)) then
 (bif (decide ((s2.t8).toNat < (s2.g2).length)) then
 ((kY N (((s2.g2.getD ((s2.t8).toNat) default).Data).o) (((s2.g2.getD ((s2.t8).toNat) default).Data).n) (((s2.g2.getD ((s2.t8).toNat) default).Data).c) (((s2.g2.getD ((s2.t8).toNat) default).Data).nn) (Kx s2.ms (((s2.g2.getD ((s2.t8).toNat) default).Data).j))).bind fun r4 =>
 (bif (EI s2.ms (((s2.g2.getD ((s2.t8).toNat) default).Data).j)) then
 (bif (nI s2.t8 ((r1.1:Nat):Int)) then
 (bif (decide ((s2.t8).toNat < (s2.g2).length)) then
 (wW ⟨(IntKind.i64.wrap (s2.t8+1)),((As s2.ms (((s2.g2.getD ((s2.t8).toNat) default).Data).j) (some r4.2.1))++[some r4.2.2]),(s2.g2.set ((s2.t8).toNat) (⟨(s2.g2.getD ((s2.t8).toNat) default).Number,((s2.g2.getD ((s2.t8).toNat) default).aS),((s2.g2.getD ((s2.t8).toNat) default).To),(⟨(((As s2.ms (((s2.g2.getD ((s2.t8).toNat) default).Data).j) (some r4.2.1))).length+1),0,r4.1,r4.1,false⟩:Hd)⟩:bJ))⟩)
 else none)
 else none)
 else none))
 else none)
 else none)
 else
 (some (r1.1,r1.2.1,s2.ms,s2.g2)))) ⟨0,r1.2.2.1,r1.2.2.2⟩))
def Ew:dL τ:=cn [.mS 20065 0] [.eD 20065,.aX 5] (.mS 20065 2) [.eD 20065,.aX 5,.eD 20065] (fun N a b=>yX N a.1 b.1 b.2.1) fun r=>(r.1,(r.2.1,r.2.2.1,r.2.2.2,()))
theorem GK:aR E C 38 Ew:=WK Ew [(83,vB),(40,nO)] [(3,RT)] 2 [] [] [18] [] [18] ⟨Yx,⟨Hb,trivial⟩⟩ (fun a b=>(a,b.1,b.2.1,b.2.2.1)) Tryz.func38 rfl (by intro N a b;kernel_rfl)
def oJ (N:Nat)(number:Int)(b0:Nat)(yJ:Int)(Xz:Bool)(g1:List (bJ))(ms:List (Option (List (Int)))):Option (Int×Nat×Int×Bool×(List (Option (List (Int))))×(List (bJ))) :=
 ((jU N number b0 yJ Xz g1 ms).bind fun r1 =>
 (bif (!(r1.2.1==0)) then
 (some (r1.2.1,r1.2.2.1,r1.2.2.2.1,r1.2.2.2.2.1,r1.2.2.2.2.2.2,r1.2.2.2.2.2.1))
 else
 ((kH N r1.2.2.1 r1.1 (IntKind.i64.wrap (r1.1+1)) r1.2.2.2.2.2.1 r1.2.2.2.2.2.2).bind fun r2 =>
 (some (0,r2.1,r1.2.2.2.1,r1.2.2.2.2.1,r2.2.1,r2.2.2)))))
def De:dL τ:=cn [.ptr 0 [],.ty 2] [.box (.agg [.agg [.mS 20065 1,.ty 2],.ty 4]),.eD 20065,.aX 5] (.ty 48) [.box (.agg [.agg [.mS 20065 3,.ty 2],.ty 4]),.dead,.aX 5,.eD 20065] (fun N a b=>oJ N a.2.1 b.1.1.1 b.1.1.2.1 b.1.2.1 b.2.1 b.2.2.1) fun r=>(r.1,(((r.2.1,r.2.2.1,()),r.2.2.2.1,()),(),r.2.2.2.2.1,r.2.2.2.2.2,()))
theorem MN:aR E C 20 De:=WK De [(31,oP),(32,mI)] [] 3 [] [] [] [] [] ⟨Cv,⟨Eo,trivial⟩⟩ (fun a b=>(a,b.1.1.1,b.1.1.2.1,b.1.2.1,b.2.2.1,b.2.2.2.1)) Tryz.func20 rfl (by intro N a b;kernel_rfl)
def Hp (N:Nat)(m:aN):Option (aN×Bool) :=
 (bif (m.Kind==1) then
 (bif (m.Kind==1) then
 (some ((⟨m.Kind,m.aS,m.To,m.aG,m.Slot,[],(⟨0,0,0,(⟨(⟨0,0⟩:bB),0,0,0,[],[],[]⟩:dP),0,0,[],(⟨0,(Vector.replicate 8 (default:Int)),(Vector.replicate 8 (default:Int)),(Vector.replicate 8 (default:Int))⟩:aD),0,(Vector.replicate 8 (default:Int)),0,(⟨0,0,0,[]⟩:aK),0,0,0⟩:aB),0,(Vector.replicate 8 (default:Int)),0,0,[],(⟨0,(Vector.replicate 8 (default:Int)),(Vector.replicate 8 (default:Int)),(Vector.replicate 8 (default:Int))⟩:aD),(⟨0,0,0,[]⟩:aK)⟩:aN),true))
 else
 (bif (m.Kind==2) then
 (some ((⟨m.Kind,m.aS,m.To,m.aG,m.Slot,m.bR,(⟨0,0,0,(⟨(⟨0,0⟩:bB),0,0,0,[],[],[]⟩:dP),0,0,[],(⟨0,(Vector.replicate 8 (default:Int)),(Vector.replicate 8 (default:Int)),(Vector.replicate 8 (default:Int))⟩:aD),0,(Vector.replicate 8 (default:Int)),0,(⟨0,0,0,[]⟩:aK),0,0,0⟩:aB),0,(Vector.replicate 8 (default:Int)),0,0,[],(⟨0,(Vector.replicate 8 (default:Int)),(Vector.replicate 8 (default:Int)),(Vector.replicate 8 (default:Int))⟩:aD),(⟨0,0,0,[]⟩:aK)⟩:aN),true))
 else
 (bif (m.Kind==3) then
 (some ((⟨m.Kind,m.aS,m.To,m.aG,0,m.bR,(⟨0,0,0,(⟨(⟨0,0⟩:bB),0,0,0,[],[],[]⟩:dP),0,0,[],(⟨0,(Vector.replicate 8 (default:Int)),(Vector.replicate 8 (default:Int)),(Vector.replicate 8 (default:Int))⟩:aD),0,(Vector.replicate 8 (default:Int)),0,(⟨0,0,0,[]⟩:aK),0,0,0⟩:aB),0,(Vector.replicate 8 (default:Int)),0,0,[],(⟨0,(Vector.replicate 8 (default:Int)),(Vector.replicate 8 (default:Int)),(Vector.replicate 8 (default:Int))⟩:aD),(⟨0,0,0,[]⟩:aK)⟩:aN),true))
 else
 (bif (m.Kind==5) then
 (some ((⟨m.Kind,m.aS,m.To,m.aG,0,[],(⟨0,0,0,(⟨(⟨0,0⟩:bB),0,0,0,[],[],[]⟩:dP),0,0,[],(⟨0,(Vector.replicate 8 (default:Int)),(Vector.replicate 8 (default:Int)),(Vector.replicate 8 (default:Int))⟩:aD),0,(Vector.replicate 8 (default:Int)),0,(⟨0,0,0,[]⟩:aK),0,0,0⟩:aB),0,(Vector.replicate 8 (default:Int)),0,0,[],(⟨0,(Vector.replicate 8 (default:Int)),(Vector.replicate 8 (default:Int)),(Vector.replicate 8 (default:Int))⟩:aD),(⟨0,0,0,[]⟩:aK)⟩:aN),true))
 else
 (bif (m.Kind==6) then
 (some ((⟨m.Kind,m.aS,m.To,(⟨0,0⟩:aT),0,m.bR,(⟨0,0,0,(⟨(⟨0,0⟩:bB),0,0,0,[],[],[]⟩:dP),0,0,[],(⟨0,(Vector.replicate 8 (default:Int)),(Vector.replicate 8 (default:Int)),(Vector.replicate 8 (default:Int))⟩:aD),0,(Vector.replicate 8 (default:Int)),0,(⟨0,0,0,[]⟩:aK),0,0,0⟩:aB),0,(Vector.replicate 8 (default:Int)),0,0,[],(⟨0,(Vector.replicate 8 (default:Int)),(Vector.replicate 8 (default:Int)),(Vector.replicate 8 (default:Int))⟩:aD),(⟨0,0,0,[]⟩:aK)⟩:aN),true))
 else
 (bif (m.Kind==8) then
 (some ((⟨m.Kind,m.aS,m.To,(⟨0,0⟩:aT),m.Slot,[],(⟨0,0,0,(⟨(⟨0,0⟩:bB),0,0,0,[],[],[]⟩:dP),0,0,[],(⟨0,(Vector.replicate 8 (default:Int)),(Vector.replicate 8 (default:Int)),(Vector.replicate 8 (default:Int))⟩:aD),0,(Vector.replicate 8 (default:Int)),0,(⟨0,0,0,[]⟩:aK),0,0,0⟩:aB),0,(Vector.replicate 8 (default:Int)),0,0,[],(⟨0,(Vector.replicate 8 (default:Int)),(Vector.replicate 8 (default:Int)),(Vector.replicate 8 (default:Int))⟩:aD),(⟨0,0,0,[]⟩:aK)⟩:aN),true))
 else
 (bif (m.Kind==9) then
 (some ((⟨m.Kind,m.aS,m.To,(⟨0,0⟩:aT),0,[],m.Entry,0,(Vector.replicate 8 (default:Int)),0,0,[],(⟨0,(Vector.replicate 8 (default:Int)),(Vector.replicate 8 (default:Int)),(Vector.replicate 8 (default:Int))⟩:aD),(⟨0,0,0,[]⟩:aK)⟩:aN),true))
 else
 (bif (m.Kind==10) then
 (some ((⟨m.Kind,m.aS,m.To,(⟨0,0⟩:aT),0,[],(⟨0,0,0,(⟨(⟨0,0⟩:bB),0,0,0,[],[],[]⟩:dP),0,0,[],(⟨0,(Vector.replicate 8 (default:Int)),(Vector.replicate 8 (default:Int)),(Vector.replicate 8 (default:Int))⟩:aD),0,(Vector.replicate 8 (default:Int)),0,(⟨0,0,0,[]⟩:aK),0,0,0⟩:aB),m.Number,m.aH,m.bH,0,[],(⟨0,(Vector.replicate 8 (default:Int)),(Vector.replicate 8 (default:Int)),(Vector.replicate 8 (default:Int))⟩:aD),(⟨0,0,0,[]⟩:aK)⟩:aN),true))
 else
 (bif (m.Kind==11) then
 (some ((⟨m.Kind,m.aS,m.To,(⟨0,0⟩:aT),m.Slot,[],(⟨0,0,0,(⟨(⟨0,0⟩:bB),0,0,0,[],[],[]⟩:dP),0,0,[],(⟨0,(Vector.replicate 8 (default:Int)),(Vector.replicate 8 (default:Int)),(Vector.replicate 8 (default:Int))⟩:aD),0,(Vector.replicate 8 (default:Int)),0,(⟨0,0,0,[]⟩:aK),0,0,0⟩:aB),m.Number,(Vector.replicate 8 (default:Int)),0,m.Origin,m.fP,(⟨0,(Vector.replicate 8 (default:Int)),(Vector.replicate 8 (default:Int)),(Vector.replicate 8 (default:Int))⟩:aD),(⟨0,0,0,[]⟩:aK)⟩:aN),true))
 else
 (bif (m.Kind==12) then
 (some ((⟨m.Kind,m.aS,m.To,(⟨0,0⟩:aT),0,[],(⟨0,0,0,(⟨(⟨0,0⟩:bB),0,0,0,[],[],[]⟩:dP),0,0,[],(⟨0,(Vector.replicate 8 (default:Int)),(Vector.replicate 8 (default:Int)),(Vector.replicate 8 (default:Int))⟩:aD),0,(Vector.replicate 8 (default:Int)),0,(⟨0,0,0,[]⟩:aK),0,0,0⟩:aB),0,(Vector.replicate 8 (default:Int)),0,0,[],m.aY,(⟨0,0,0,[]⟩:aK)⟩:aN),true))
 else
 (bif (m.Kind==13) then
 (some ((⟨m.Kind,m.aS,m.To,(⟨0,0⟩:aT),0,[],(⟨0,0,0,(⟨(⟨0,0⟩:bB),0,0,0,[],[],[]⟩:dP),0,0,[],(⟨0,(Vector.replicate 8 (default:Int)),(Vector.replicate 8 (default:Int)),(Vector.replicate 8 (default:Int))⟩:aD),0,(Vector.replicate 8 (default:Int)),0,(⟨0,0,0,[]⟩:aK),0,0,0⟩:aB),0,(Vector.replicate 8 (default:Int)),0,0,[],(⟨0,(Vector.replicate 8 (default:Int)),(Vector.replicate 8 (default:Int)),(Vector.replicate 8 (default:Int))⟩:aD),m.Part⟩:aN),true))
 else
 (bif (m.Kind==14) then
 (some ((⟨m.Kind,m.aS,m.To,(⟨0,0⟩:aT),0,[],(⟨0,0,0,(⟨(⟨0,0⟩:bB),0,0,0,[],[],[]⟩:dP),0,0,[],(⟨0,(Vector.replicate 8 (default:Int)),(Vector.replicate 8 (default:Int)),(Vector.replicate 8 (default:Int))⟩:aD),0,(Vector.replicate 8 (default:Int)),0,(⟨0,0,0,[]⟩:aK),0,0,0⟩:aB),m.Number,m.aH,0,0,[],(⟨0,(Vector.replicate 8 (default:Int)),(Vector.replicate 8 (default:Int)),(Vector.replicate 8 (default:Int))⟩:aD),(⟨0,0,0,[]⟩:aK)⟩:aN),true))
 else
 (bif (m.Kind==15) then
 (some ((⟨m.Kind,m.aS,m.To,(⟨0,0⟩:aT),m.Slot,[],(⟨0,0,0,(⟨(⟨0,0⟩:bB),0,0,0,[],[],[]⟩:dP),0,0,[],(⟨0,(Vector.replicate 8 (default:Int)),(Vector.replicate 8 (default:Int)),(Vector.replicate 8 (default:Int))⟩:aD),0,(Vector.replicate 8 (default:Int)),0,(⟨0,0,0,[]⟩:aK),0,0,0⟩:aB),0,(Vector.replicate 8 (default:Int)),0,0,[],(⟨0,(Vector.replicate 8 (default:Int)),(Vector.replicate 8 (default:Int)),(Vector.replicate 8 (default:Int))⟩:aD),m.Part⟩:aN),true))
 else
 (some ((⟨m.Kind,m.aS,m.To,(⟨0,0⟩:aT),0,[],(⟨0,0,0,(⟨(⟨0,0⟩:bB),0,0,0,[],[],[]⟩:dP),0,0,[],(⟨0,(Vector.replicate 8 (default:Int)),(Vector.replicate 8 (default:Int)),(Vector.replicate 8 (default:Int))⟩:aD),0,(Vector.replicate 8 (default:Int)),0,(⟨0,0,0,[]⟩:aK),0,0,0⟩:aB),0,(Vector.replicate 8 (default:Int)),0,0,[],(⟨0,(Vector.replicate 8 (default:Int)),(Vector.replicate 8 (default:Int)),(Vector.replicate 8 (default:Int))⟩:aD),(⟨0,0,0,[]⟩:aK)⟩:aN),false)))))))))))))))
 else
 (bif (m.Kind==4) then
 (bif (m.Kind==4) then
 (some ((⟨m.Kind,m.aS,m.To,m.aG,m.Slot,[],(⟨0,0,0,(⟨(⟨0,0⟩:bB),0,0,0,[],[],[]⟩:dP),0,0,[],(⟨0,(Vector.replicate 8 (default:Int)),(Vector.replicate 8 (default:Int)),(Vector.replicate 8 (default:Int))⟩:aD),0,(Vector.replicate 8 (default:Int)),0,(⟨0,0,0,[]⟩:aK),0,0,0⟩:aB),0,(Vector.replicate 8 (default:Int)),0,0,[],(⟨0,(Vector.replicate 8 (default:Int)),(Vector.replicate 8 (default:Int)),(Vector.replicate 8 (default:Int))⟩:aD),(⟨0,0,0,[]⟩:aK)⟩:aN),true))
 else
 (bif (m.Kind==2) then
 (some ((⟨m.Kind,m.aS,m.To,m.aG,m.Slot,m.bR,(⟨0,0,0,(⟨(⟨0,0⟩:bB),0,0,0,[],[],[]⟩:dP),0,0,[],(⟨0,(Vector.replicate 8 (default:Int)),(Vector.replicate 8 (default:Int)),(Vector.replicate 8 (default:Int))⟩:aD),0,(Vector.replicate 8 (default:Int)),0,(⟨0,0,0,[]⟩:aK),0,0,0⟩:aB),0,(Vector.replicate 8 (default:Int)),0,0,[],(⟨0,(Vector.replicate 8 (default:Int)),(Vector.replicate 8 (default:Int)),(Vector.replicate 8 (default:Int))⟩:aD),(⟨0,0,0,[]⟩:aK)⟩:aN),true))
 else
 (bif (m.Kind==3) then
 (some ((⟨m.Kind,m.aS,m.To,m.aG,0,m.bR,(⟨0,0,0,(⟨(⟨0,0⟩:bB),0,0,0,[],[],[]⟩:dP),0,0,[],(⟨0,(Vector.replicate 8 (default:Int)),(Vector.replicate 8 (default:Int)),(Vector.replicate 8 (default:Int))⟩:aD),0,(Vector.replicate 8 (default:Int)),0,(⟨0,0,0,[]⟩:aK),0,0,0⟩:aB),0,(Vector.replicate 8 (default:Int)),0,0,[],(⟨0,(Vector.replicate 8 (default:Int)),(Vector.replicate 8 (default:Int)),(Vector.replicate 8 (default:Int))⟩:aD),(⟨0,0,0,[]⟩:aK)⟩:aN),true))
 else
 (bif (m.Kind==5) then
 (some ((⟨m.Kind,m.aS,m.To,m.aG,0,[],(⟨0,0,0,(⟨(⟨0,0⟩:bB),0,0,0,[],[],[]⟩:dP),0,0,[],(⟨0,(Vector.replicate 8 (default:Int)),(Vector.replicate 8 (default:Int)),(Vector.replicate 8 (default:Int))⟩:aD),0,(Vector.replicate 8 (default:Int)),0,(⟨0,0,0,[]⟩:aK),0,0,0⟩:aB),0,(Vector.replicate 8 (default:Int)),0,0,[],(⟨0,(Vector.replicate 8 (default:Int)),(Vector.replicate 8 (default:Int)),(Vector.replicate 8 (default:Int))⟩:aD),(⟨0,0,0,[]⟩:aK)⟩:aN),true))
 else
 (bif (m.Kind==6) then
 (some ((⟨m.Kind,m.aS,m.To,(⟨0,0⟩:aT),0,m.bR,(⟨0,0,0,(⟨(⟨0,0⟩:bB),0,0,0,[],[],[]⟩:dP),0,0,[],(⟨0,(Vector.replicate 8 (default:Int)),(Vector.replicate 8 (default:Int)),(Vector.replicate 8 (default:Int))⟩:aD),0,(Vector.replicate 8 (default:Int)),0,(⟨0,0,0,[]⟩:aK),0,0,0⟩:aB),0,(Vector.replicate 8 (default:Int)),0,0,[],(⟨0,(Vector.replicate 8 (default:Int)),(Vector.replicate 8 (default:Int)),(Vector.replicate 8 (default:Int))⟩:aD),(⟨0,0,0,[]⟩:aK)⟩:aN),true))
 else
 (bif (m.Kind==8) then
 (some ((⟨m.Kind,m.aS,m.To,(⟨0,0⟩:aT),m.Slot,[],(⟨0,0,0,(⟨(⟨0,0⟩:bB),0,0,0,[],[],[]⟩:dP),0,0,[],(⟨0,(Vector.replicate 8 (default:Int)),(Vector.replicate 8 (default:Int)),(Vector.replicate 8 (default:Int))⟩:aD),0,(Vector.replicate 8 (default:Int)),0,(⟨0,0,0,[]⟩:aK),0,0,0⟩:aB),0,(Vector.replicate 8 (default:Int)),0,0,[],(⟨0,(Vector.replicate 8 (default:Int)),(Vector.replicate 8 (default:Int)),(Vector.replicate 8 (default:Int))⟩:aD),(⟨0,0,0,[]⟩:aK)⟩:aN),true))
 else
 (bif (m.Kind==9) then
 (some ((⟨m.Kind,m.aS,m.To,(⟨0,0⟩:aT),0,[],m.Entry,0,(Vector.replicate 8 (default:Int)),0,0,[],(⟨0,(Vector.replicate 8 (default:Int)),(Vector.replicate 8 (default:Int)),(Vector.replicate 8 (default:Int))⟩:aD),(⟨0,0,0,[]⟩:aK)⟩:aN),true))
 else
 (bif (m.Kind==10) then
 (some ((⟨m.Kind,m.aS,m.To,(⟨0,0⟩:aT),0,[],(⟨0,0,0,(⟨(⟨0,0⟩:bB),0,0,0,[],[],[]⟩:dP),0,0,[],(⟨0,(Vector.replicate 8 (default:Int)),(Vector.replicate 8 (default:Int)),(Vector.replicate 8 (default:Int))⟩:aD),0,(Vector.replicate 8 (default:Int)),0,(⟨0,0,0,[]⟩:aK),0,0,0⟩:aB),m.Number,m.aH,m.bH,0,[],(⟨0,(Vector.replicate 8 (default:Int)),(Vector.replicate 8 (default:Int)),(Vector.replicate 8 (default:Int))⟩:aD),(⟨0,0,0,[]⟩:aK)⟩:aN),true))
 else
 (bif (m.Kind==11) then
 (some ((⟨m.Kind,m.aS,m.To,(⟨0,0⟩:aT),m.Slot,[],(⟨0,0,0,(⟨(⟨0,0⟩:bB),0,0,0,[],[],[]⟩:dP),0,0,[],(⟨0,(Vector.replicate 8 (default:Int)),(Vector.replicate 8 (default:Int)),(Vector.replicate 8 (default:Int))⟩:aD),0,(Vector.replicate 8 (default:Int)),0,(⟨0,0,0,[]⟩:aK),0,0,0⟩:aB),m.Number,(Vector.replicate 8 (default:Int)),0,m.Origin,m.fP,(⟨0,(Vector.replicate 8 (default:Int)),(Vector.replicate 8 (default:Int)),(Vector.replicate 8 (default:Int))⟩:aD),(⟨0,0,0,[]⟩:aK)⟩:aN),true))
 else
 (bif (m.Kind==12) then
 (some ((⟨m.Kind,m.aS,m.To,(⟨0,0⟩:aT),0,[],(⟨0,0,0,(⟨(⟨0,0⟩:bB),0,0,0,[],[],[]⟩:dP),0,0,[],(⟨0,(Vector.replicate 8 (default:Int)),(Vector.replicate 8 (default:Int)),(Vector.replicate 8 (default:Int))⟩:aD),0,(Vector.replicate 8 (default:Int)),0,(⟨0,0,0,[]⟩:aK),0,0,0⟩:aB),0,(Vector.replicate 8 (default:Int)),0,0,[],m.aY,(⟨0,0,0,[]⟩:aK)⟩:aN),true))
 else
 (bif (m.Kind==13) then
 (some ((⟨m.Kind,m.aS,m.To,(⟨0,0⟩:aT),0,[],(⟨0,0,0,(⟨(⟨0,0⟩:bB),0,0,0,[],[],[]⟩:dP),0,0,[],(⟨0,(Vector.replicate 8 (default:Int)),(Vector.replicate 8 (default:Int)),(Vector.replicate 8 (default:Int))⟩:aD),0,(Vector.replicate 8 (default:Int)),0,(⟨0,0,0,[]⟩:aK),0,0,0⟩:aB),0,(Vector.replicate 8 (default:Int)),0,0,[],(⟨0,(Vector.replicate 8 (default:Int)),(Vector.replicate 8 (default:Int)),(Vector.replicate 8 (default:Int))⟩:aD),m.Part⟩:aN),true))
 else
 (bif (m.Kind==14) then
 (some ((⟨m.Kind,m.aS,m.To,(⟨0,0⟩:aT),0,[],(⟨0,0,0,(⟨(⟨0,0⟩:bB),0,0,0,[],[],[]⟩:dP),0,0,[],(⟨0,(Vector.replicate 8 (default:Int)),(Vector.replicate 8 (default:Int)),(Vector.replicate 8 (default:Int))⟩:aD),0,(Vector.replicate 8 (default:Int)),0,(⟨0,0,0,[]⟩:aK),0,0,0⟩:aB),m.Number,m.aH,0,0,[],(⟨0,(Vector.replicate 8 (default:Int)),(Vector.replicate 8 (default:Int)),(Vector.replicate 8 (default:Int))⟩:aD),(⟨0,0,0,[]⟩:aK)⟩:aN),true))
 else
 (bif (m.Kind==15) then
 (some ((⟨m.Kind,m.aS,m.To,(⟨0,0⟩:aT),m.Slot,[],(⟨0,0,0,(⟨(⟨0,0⟩:bB),0,0,0,[],[],[]⟩:dP),0,0,[],(⟨0,(Vector.replicate 8 (default:Int)),(Vector.replicate 8 (default:Int)),(Vector.replicate 8 (default:Int))⟩:aD),0,(Vector.replicate 8 (default:Int)),0,(⟨0,0,0,[]⟩:aK),0,0,0⟩:aB),0,(Vector.replicate 8 (default:Int)),0,0,[],(⟨0,(Vector.replicate 8 (default:Int)),(Vector.replicate 8 (default:Int)),(Vector.replicate 8 (default:Int))⟩:aD),m.Part⟩:aN),true))
 else
 (some ((⟨m.Kind,m.aS,m.To,(⟨0,0⟩:aT),0,[],(⟨0,0,0,(⟨(⟨0,0⟩:bB),0,0,0,[],[],[]⟩:dP),0,0,[],(⟨0,(Vector.replicate 8 (default:Int)),(Vector.replicate 8 (default:Int)),(Vector.replicate 8 (default:Int))⟩:aD),0,(Vector.replicate 8 (default:Int)),0,(⟨0,0,0,[]⟩:aK),0,0,0⟩:aB),0,(Vector.replicate 8 (default:Int)),0,0,[],(⟨0,(Vector.replicate 8 (default:Int)),(Vector.replicate 8 (default:Int)),(Vector.replicate 8 (default:Int))⟩:aD),(⟨0,0,0,[]⟩:aK)⟩:aN),false)))))))))))))))
 else
 (bif (m.Kind==7) then
 (some ((⟨m.Kind,m.aS,m.To,m.aG,m.Slot,[],(⟨0,0,0,(⟨(⟨0,0⟩:bB),0,0,0,[],[],[]⟩:dP),0,0,[],(⟨0,(Vector.replicate 8 (default:Int)),(Vector.replicate 8 (default:Int)),(Vector.replicate 8 (default:Int))⟩:aD),0,(Vector.replicate 8 (default:Int)),0,(⟨0,0,0,[]⟩:aK),0,0,0⟩:aB),0,(Vector.replicate 8 (default:Int)),0,0,[],(⟨0,(Vector.replicate 8 (default:Int)),(Vector.replicate 8 (default:Int)),(Vector.replicate 8 (default:Int))⟩:aD),(⟨0,0,0,[]⟩:aK)⟩:aN),true))
 else
 (bif (m.Kind==2) then
 (some ((⟨m.Kind,m.aS,m.To,m.aG,m.Slot,m.bR,(⟨0,0,0,(⟨(⟨0,0⟩:bB),0,0,0,[],[],[]⟩:dP),0,0,[],(⟨0,(Vector.replicate 8 (default:Int)),(Vector.replicate 8 (default:Int)),(Vector.replicate 8 (default:Int))⟩:aD),0,(Vector.replicate 8 (default:Int)),0,(⟨0,0,0,[]⟩:aK),0,0,0⟩:aB),0,(Vector.replicate 8 (default:Int)),0,0,[],(⟨0,(Vector.replicate 8 (default:Int)),(Vector.replicate 8 (default:Int)),(Vector.replicate 8 (default:Int))⟩:aD),(⟨0,0,0,[]⟩:aK)⟩:aN),true))
 else
 (bif (m.Kind==3) then
 (some ((⟨m.Kind,m.aS,m.To,m.aG,0,m.bR,(⟨0,0,0,(⟨(⟨0,0⟩:bB),0,0,0,[],[],[]⟩:dP),0,0,[],(⟨0,(Vector.replicate 8 (default:Int)),(Vector.replicate 8 (default:Int)),(Vector.replicate 8 (default:Int))⟩:aD),0,(Vector.replicate 8 (default:Int)),0,(⟨0,0,0,[]⟩:aK),0,0,0⟩:aB),0,(Vector.replicate 8 (default:Int)),0,0,[],(⟨0,(Vector.replicate 8 (default:Int)),(Vector.replicate 8 (default:Int)),(Vector.replicate 8 (default:Int))⟩:aD),(⟨0,0,0,[]⟩:aK)⟩:aN),true))
 else
 (bif (m.Kind==5) then
 (some ((⟨m.Kind,m.aS,m.To,m.aG,0,[],(⟨0,0,0,(⟨(⟨0,0⟩:bB),0,0,0,[],[],[]⟩:dP),0,0,[],(⟨0,(Vector.replicate 8 (default:Int)),(Vector.replicate 8 (default:Int)),(Vector.replicate 8 (default:Int))⟩:aD),0,(Vector.replicate 8 (default:Int)),0,(⟨0,0,0,[]⟩:aK),0,0,0⟩:aB),0,(Vector.replicate 8 (default:Int)),0,0,[],(⟨0,(Vector.replicate 8 (default:Int)),(Vector.replicate 8 (default:Int)),(Vector.replicate 8 (default:Int))⟩:aD),(⟨0,0,0,[]⟩:aK)⟩:aN),true))
 else
 (bif (m.Kind==6) then
 (some ((⟨m.Kind,m.aS,m.To,(⟨0,0⟩:aT),0,m.bR,(⟨0,0,0,(⟨(⟨0,0⟩:bB),0,0,0,[],[],[]⟩:dP),0,0,[],(⟨0,(Vector.replicate 8 (default:Int)),(Vector.replicate 8 (default:Int)),(Vector.replicate 8 (default:Int))⟩:aD),0,(Vector.replicate 8 (default:Int)),0,(⟨0,0,0,[]⟩:aK),0,0,0⟩:aB),0,(Vector.replicate 8 (default:Int)),0,0,[],(⟨0,(Vector.replicate 8 (default:Int)),(Vector.replicate 8 (default:Int)),(Vector.replicate 8 (default:Int))⟩:aD),(⟨0,0,0,[]⟩:aK)⟩:aN),true))
 else
 (bif (m.Kind==8) then
 (some ((⟨m.Kind,m.aS,m.To,(⟨0,0⟩:aT),m.Slot,[],(⟨0,0,0,(⟨(⟨0,0⟩:bB),0,0,0,[],[],[]⟩:dP),0,0,[],(⟨0,(Vector.replicate 8 (default:Int)),(Vector.replicate 8 (default:Int)),(Vector.replicate 8 (default:Int))⟩:aD),0,(Vector.replicate 8 (default:Int)),0,(⟨0,0,0,[]⟩:aK),0,0,0⟩:aB),0,(Vector.replicate 8 (default:Int)),0,0,[],(⟨0,(Vector.replicate 8 (default:Int)),(Vector.replicate 8 (default:Int)),(Vector.replicate 8 (default:Int))⟩:aD),(⟨0,0,0,[]⟩:aK)⟩:aN),true))
 else
 (bif (m.Kind==9) then
 (some ((⟨m.Kind,m.aS,m.To,(⟨0,0⟩:aT),0,[],m.Entry,0,(Vector.replicate 8 (default:Int)),0,0,[],(⟨0,(Vector.replicate 8 (default:Int)),(Vector.replicate 8 (default:Int)),(Vector.replicate 8 (default:Int))⟩:aD),(⟨0,0,0,[]⟩:aK)⟩:aN),true))
 else
 (bif (m.Kind==10) then
 (some ((⟨m.Kind,m.aS,m.To,(⟨0,0⟩:aT),0,[],(⟨0,0,0,(⟨(⟨0,0⟩:bB),0,0,0,[],[],[]⟩:dP),0,0,[],(⟨0,(Vector.replicate 8 (default:Int)),(Vector.replicate 8 (default:Int)),(Vector.replicate 8 (default:Int))⟩:aD),0,(Vector.replicate 8 (default:Int)),0,(⟨0,0,0,[]⟩:aK),0,0,0⟩:aB),m.Number,m.aH,m.bH,0,[],(⟨0,(Vector.replicate 8 (default:Int)),(Vector.replicate 8 (default:Int)),(Vector.replicate 8 (default:Int))⟩:aD),(⟨0,0,0,[]⟩:aK)⟩:aN),true))
 else
 (bif (m.Kind==11) then
 (some ((⟨m.Kind,m.aS,m.To,(⟨0,0⟩:aT),m.Slot,[],(⟨0,0,0,(⟨(⟨0,0⟩:bB),0,0,0,[],[],[]⟩:dP),0,0,[],(⟨0,(Vector.replicate 8 (default:Int)),(Vector.replicate 8 (default:Int)),(Vector.replicate 8 (default:Int))⟩:aD),0,(Vector.replicate 8 (default:Int)),0,(⟨0,0,0,[]⟩:aK),0,0,0⟩:aB),m.Number,(Vector.replicate 8 (default:Int)),0,m.Origin,m.fP,(⟨0,(Vector.replicate 8 (default:Int)),(Vector.replicate 8 (default:Int)),(Vector.replicate 8 (default:Int))⟩:aD),(⟨0,0,0,[]⟩:aK)⟩:aN),true))
 else
 (bif (m.Kind==12) then
 (some ((⟨m.Kind,m.aS,m.To,(⟨0,0⟩:aT),0,[],(⟨0,0,0,(⟨(⟨0,0⟩:bB),0,0,0,[],[],[]⟩:dP),0,0,[],(⟨0,(Vector.replicate 8 (default:Int)),(Vector.replicate 8 (default:Int)),(Vector.replicate 8 (default:Int))⟩:aD),0,(Vector.replicate 8 (default:Int)),0,(⟨0,0,0,[]⟩:aK),0,0,0⟩:aB),0,(Vector.replicate 8 (default:Int)),0,0,[],m.aY,(⟨0,0,0,[]⟩:aK)⟩:aN),true))
 else
 (bif (m.Kind==13) then
 (some ((⟨m.Kind,m.aS,m.To,(⟨0,0⟩:aT),0,[],(⟨0,0,0,(⟨(⟨0,0⟩:bB),0,0,0,[],[],[]⟩:dP),0,0,[],(⟨0,(Vector.replicate 8 (default:Int)),(Vector.replicate 8 (default:Int)),(Vector.replicate 8 (default:Int))⟩:aD),0,(Vector.replicate 8 (default:Int)),0,(⟨0,0,0,[]⟩:aK),0,0,0⟩:aB),0,(Vector.replicate 8 (default:Int)),0,0,[],(⟨0,(Vector.replicate 8 (default:Int)),(Vector.replicate 8 (default:Int)),(Vector.replicate 8 (default:Int))⟩:aD),m.Part⟩:aN),true))
 else
 (bif (m.Kind==14) then
 (some ((⟨m.Kind,m.aS,m.To,(⟨0,0⟩:aT),0,[],(⟨0,0,0,(⟨(⟨0,0⟩:bB),0,0,0,[],[],[]⟩:dP),0,0,[],(⟨0,(Vector.replicate 8 (default:Int)),(Vector.replicate 8 (default:Int)),(Vector.replicate 8 (default:Int))⟩:aD),0,(Vector.replicate 8 (default:Int)),0,(⟨0,0,0,[]⟩:aK),0,0,0⟩:aB),m.Number,m.aH,0,0,[],(⟨0,(Vector.replicate 8 (default:Int)),(Vector.replicate 8 (default:Int)),(Vector.replicate 8 (default:Int))⟩:aD),(⟨0,0,0,[]⟩:aK)⟩:aN),true))
 else
 (bif (m.Kind==15) then
 (some ((⟨m.Kind,m.aS,m.To,(⟨0,0⟩:aT),m.Slot,[],(⟨0,0,0,(⟨(⟨0,0⟩:bB),0,0,0,[],[],[]⟩:dP),0,0,[],(⟨0,(Vector.replicate 8 (default:Int)),(Vector.replicate 8 (default:Int)),(Vector.replicate 8 (default:Int))⟩:aD),0,(Vector.replicate 8 (default:Int)),0,(⟨0,0,0,[]⟩:aK),0,0,0⟩:aB),0,(Vector.replicate 8 (default:Int)),0,0,[],(⟨0,(Vector.replicate 8 (default:Int)),(Vector.replicate 8 (default:Int)),(Vector.replicate 8 (default:Int))⟩:aD),m.Part⟩:aN),true))
 else
 (some ((⟨m.Kind,m.aS,m.To,(⟨0,0⟩:aT),0,[],(⟨0,0,0,(⟨(⟨0,0⟩:bB),0,0,0,[],[],[]⟩:dP),0,0,[],(⟨0,(Vector.replicate 8 (default:Int)),(Vector.replicate 8 (default:Int)),(Vector.replicate 8 (default:Int))⟩:aD),0,(Vector.replicate 8 (default:Int)),0,(⟨0,0,0,[]⟩:aK),0,0,0⟩:aB),0,(Vector.replicate 8 (default:Int)),0,0,[],(⟨0,(Vector.replicate 8 (default:Int)),(Vector.replicate 8 (default:Int)),(Vector.replicate 8 (default:Int))⟩:aD),(⟨0,0,0,[]⟩:aK)⟩:aN),false)))))))))))))))))
def Rh:dL τ:=cn [.ty 43] [] (.jE [.ty 43,.ty 4]) [] (fun N a b=>Hp N a.1) fun r=>((r.1,r.2,()),())
theorem B1:aR E C 56 Rh:=gQ Rh [] [] 0 [] [] trivial (fun a b=>(a.1,a.2.1)) Tryz.func56 rfl (by intro N a b;kernel_rfl)
structure rK where
 i:Int
def Jq:List Sl:=[.k,.k,.k,.k,.j,.sh (.ty 2),.k,.k,.k,.k,.k,.j,.j,.j,.j,.j,.j,.j,.j,.j,.j,.j,.j,.j,.j,.j]
def Iq:List bZ:=[]
def QN (a:Sl.Ts τ Jq)(b:bZ.Ts τ Iq):rK:=⟨a.2.2.2.2.2.1⟩
def PS (s:rK):Sl.Ts τ Jq:=((),(),(),(),(),s.i,(),(),(),(),(),(),(),(),(),(),(),(),(),(),(),(),(),(),(),(),())
def PI (s:rK):bZ.Ts τ Iq:=()
def PA:Lp τ:={ ts:=Jq,hs:=Iq,S:=rK,to:=QN,ot:=PS,oh:=PI,hk:=[],tk:=[],eZ:=fun _ _=>rfl,eX:=fun _ _=>rfl }
def Az (N:Nat)(a:List (dP))(b:List (dP)):Option (Bool) :=
 (bif (!(((a).length:Int)==((b).length:Int))) then
 (some false)
 else
 (iter N (fun (s1:rK) dK =>
 (bif (decide (s1.i < ((a).length:Int))) then
 (bif (nI s1.i ((a).length:Int)) then
 (bif (nI s1.i ((b).length:Int)) then
 (bif (!((((((aE a s1.i default).cG).Time)==(((aE b s1.i default).cG).Time))&&((((aE a s1.i default).cG).Site)==(((aE b s1.i default).cG).Site)))&&((((aE a s1.i default).Kind)==((aE b s1.i default).Kind))&&((((aE a s1.i default).Node)==((aE b s1.i default).Node))&&((((aE a s1.i default).cY)==((aE b s1.i default).cY))&&((((aE a s1.i default).Name)==((aE b s1.i default).Name))&&((((aE a s1.i default).Key)==((aE b s1.i default).Key))&&(((aE a s1.i default).Value)==((aE b s1.i default).Value))))))))) then
 (some false)
 else
 (dK ⟨(IntKind.i64.wrap (s1.i+1))⟩))
 else none)
 else none)
 else
 (some true))) ⟨0⟩))
def Cs:dL τ:=cn [.ty 31,.ty 31] [] (.ty 4) [] (fun N a b=>Az N a.1 a.2.1) fun r=>(r,())
theorem DL:aR E C 36 Cs:=gQ Cs [] [(4,PA)] 0 [] [] trivial (fun a b=>a) Tryz.func36 rfl (by intro N a b;kernel_rfl)
def yN (N:Nat)(a:aK)(b:aK):Option (Bool) :=
 (some ((((a.Qz==b.Qz)&&(a.Index==b.Index))&&(a.Hq==b.Hq))&&((QF a.Data)==(QF b.Data))))
def An:dL τ:=cn [.ty 39,.ty 39] [] (.ty 4) [] (fun N a b=>yN N a.1 a.2.1) fun r=>(r,())
theorem Yw:aR E C 37 An:=gQ An [] [] 0 [] [] trivial (fun a b=>a) Tryz.func37 rfl (by intro N a b;kernel_rfl)
def dH (N:Nat)(a:aB)(b:aB):Option (Bool) :=
 ((bif ((((((a.Kind==b.Kind)&&(a.cE==b.cE))&&(a.Request==b.Request))&&(((a.Op.cG.Time==b.Op.cG.Time)&&(a.Op.cG.Site==b.Op.cG.Site))&&((a.Op.Kind==b.Op.Kind)&&((a.Op.Node==b.Op.Node)&&((a.Op.cY==b.Op.cY)&&((a.Op.Name==b.Op.Name)&&((a.Op.Key==b.Op.Key)&&(a.Op.Value==b.Op.Value))))))))&&(a.Origin==b.Origin))&&(a.Seq==b.Seq)) then Az N a.fP b.fP else some default).bind fun r1 =>
 ((bif (((((((((((a.Kind==b.Kind)&&(a.cE==b.cE))&&(a.Request==b.Request))&&(((a.Op.cG.Time==b.Op.cG.Time)&&(a.Op.cG.Site==b.Op.cG.Site))&&((a.Op.Kind==b.Op.Kind)&&((a.Op.Node==b.Op.Node)&&((a.Op.cY==b.Op.cY)&&((a.Op.Name==b.Op.Name)&&((a.Op.Key==b.Op.Key)&&(a.Op.Value==b.Op.Value))))))))&&(a.Origin==b.Origin))&&(a.Seq==b.Seq))&&r1)&&((a.aY.Number==b.aY.Number)&&((rN Hj a.aY.cB b.aY.cB)&&((rN Dd a.aY.iD b.aY.iD)&&(rN Hj a.aY.aV b.aY.aV)))))&&(a.aS==b.aS))&&(rN Dd a.aH b.aH))&&(a.bH==b.bH)) then yN N a.Part b.Part else some default).bind fun r2 =>
 (some (((((((((((((((a.Kind==b.Kind)&&(a.cE==b.cE))&&(a.Request==b.Request))&&(((a.Op.cG.Time==b.Op.cG.Time)&&(a.Op.cG.Site==b.Op.cG.Site))&&((a.Op.Kind==b.Op.Kind)&&((a.Op.Node==b.Op.Node)&&((a.Op.cY==b.Op.cY)&&((a.Op.Name==b.Op.Name)&&((a.Op.Key==b.Op.Key)&&(a.Op.Value==b.Op.Value))))))))&&(a.Origin==b.Origin))&&(a.Seq==b.Seq))&&r1)&&((a.aY.Number==b.aY.Number)&&((rN Hj a.aY.cB b.aY.cB)&&((rN Dd a.aY.iD b.aY.iD)&&(rN Hj a.aY.aV b.aY.aV)))))&&(a.aS==b.aS))&&(rN Dd a.aH b.aH))&&(a.bH==b.bH))&&r2)&&(a.Site==b.Site))&&(a.aV==b.aV))&&(a.Length==b.Length)))))
def rX:dL τ:=cn [.ty 41,.ty 41] [] (.ty 4) [] (fun N a b=>dH N a.1 a.2.1) fun r=>(r,())
theorem Jc:aR E C 35 rX:=gQ rX [(36,Cs),(37,An)] [] 0 [] [] ⟨DL,⟨Yw,trivial⟩⟩ (fun a b=>a) Tryz.func35 rfl (by intro N a b;kernel_rfl)
def rS (N:Nat)(a:aL)(b:aL):Option (Bool) :=
 ((bif ((a.Slot==b.Slot)&&((a.aG.Round==b.aG.Round)&&(a.aG.aJ==b.aG.aJ))) then dH N a.Entry b.Entry else some default).bind fun r1 =>
 (some (((a.Slot==b.Slot)&&((a.aG.Round==b.aG.Round)&&(a.aG.aJ==b.aG.aJ)))&&r1)))
def Bp:dL τ:=cn [.ty 155,.ty 155] [] (.ty 4) [] (fun N a b=>rS N a.1 a.2.1) fun r=>(r,())
theorem JO:aR E C 82 Bp:=gQ Bp [(35,rX)] [] 0 [] [] ⟨Jc,trivial⟩ (fun a b=>a) Tryz.func82 rfl (by intro N a b;kernel_rfl)
structure oN where
 i:Int
def Gk:List Sl:=[.k,.k,.k,.k,.j,.sh (.ty 2),.k,.k,.k,.k,.k,.j,.j,.j,.j,.j,.j,.j,.j,.j,.j,.j,.j,.j,.j,.j,.j]
def Fv:List bZ:=[]
def NL (a:Sl.Ts τ Gk)(b:bZ.Ts τ Fv):oN:=⟨a.2.2.2.2.2.1⟩
def MS (s:oN):Sl.Ts τ Gk:=((),(),(),(),(),s.i,(),(),(),(),(),(),(),(),(),(),(),(),(),(),(),(),(),(),(),(),(),())
def ML (s:oN):bZ.Ts τ Fv:=()
def ME:Lp τ:={ ts:=Gk,hs:=Fv,S:=oN,to:=NL,ot:=MS,oh:=ML,hk:=[],tk:=[],eZ:=fun _ _=>rfl,eX:=fun _ _=>rfl }
def Et (N:Nat)(a:List (aL))(b:List (aL)):Option (Bool) :=
 (bif (!(((a).length:Int)==((b).length:Int))) then
 (some false)
 else
 (iter N (fun (s1:oN) dK =>
 (bif (decide (s1.i < ((a).length:Int))) then
 (bif (nI s1.i ((a).length:Int)) then
 (bif (nI s1.i ((b).length:Int)) then
 ((rS N (⟨(aE a s1.i default).Slot,((aE a s1.i default).aG),(⟨((aE a s1.i default).Entry).Kind,((aE a s1.i default).Entry).cE,((aE a s1.i default).Entry).Request,(⟨((((aE a s1.i default).Entry).Op).cG),(((aE a s1.i default).Entry).Op).Kind,(((aE a s1.i default).Entry).Op).Node,(((aE a s1.i default).Entry).Op).cY,(((aE a s1.i default).Entry).Op).Name,(((aE a s1.i default).Entry).Op).Key,(((aE a s1.i default).Entry).Op).Value⟩:dP),((aE a s1.i default).Entry).Origin,((aE a s1.i default).Entry).Seq,((aE a s1.i default).Entry).fP,(((aE a s1.i default).Entry).aY),((aE a s1.i default).Entry).aS,((aE a s1.i default).Entry).aH,((aE a s1.i default).Entry).bH,(((aE a s1.i default).Entry).Part),((aE a s1.i default).Entry).Site,((aE a s1.i default).Entry).aV,((aE a s1.i default).Entry).Length⟩:aB)⟩:aL) (⟨(aE b s1.i default).Slot,((aE b s1.i default).aG),(⟨((aE b s1.i default).Entry).Kind,((aE b s1.i default).Entry).cE,((aE b s1.i default).Entry).Request,(⟨((((aE b s1.i default).Entry).Op).cG),(((aE b s1.i default).Entry).Op).Kind,(((aE b s1.i default).Entry).Op).Node,(((aE b s1.i default).Entry).Op).cY,(((aE b s1.i default).Entry).Op).Name,(((aE b s1.i default).Entry).Op).Key,(((aE b s1.i default).Entry).Op).Value⟩:dP),((aE b s1.i default).Entry).Origin,((aE b s1.i default).Entry).Seq,((aE b s1.i default).Entry).fP,(((aE b s1.i default).Entry).aY),((aE b s1.i default).Entry).aS,((aE b s1.i default).Entry).aH,((aE b s1.i default).Entry).bH,(((aE b s1.i default).Entry).Part),((aE b s1.i default).Entry).Site,((aE b s1.i default).Entry).aV,((aE b s1.i default).Entry).Length⟩:aB)⟩:aL)).bind fun r3 =>
 (bif (!r3) then
 (some false)
 else
 (dK ⟨(IntKind.i64.wrap (s1.i+1))⟩)))
 else none)
 else none)
 else
 (some true))) ⟨0⟩))
def Ic:dL τ:=cn [.ty 26,.ty 26] [] (.ty 4) [] (fun N a b=>Et N a.1 a.2.1) fun r=>(r,())
theorem SL:aR E C 34 Ic:=gQ Ic [(82,Bp)] [(4,ME)] 0 [] [] ⟨JO,trivial⟩ (fun a b=>a) Tryz.func34 rfl (by intro N a b;kernel_rfl)
def rR (N:Nat)(a:aN)(b:aN):Option (Bool) :=
 ((bif (((((a.Kind==b.Kind)&&((a.aS.cR==b.aS.cR)&&(a.aS.aJ==b.aS.aJ)))&&((a.To.cR==b.To.cR)&&(a.To.aJ==b.To.aJ)))&&((a.aG.Round==b.aG.Round)&&(a.aG.aJ==b.aG.aJ)))&&(a.Slot==b.Slot)) then Et N a.bR b.bR else some default).bind fun r1 =>
 ((bif ((((((a.Kind==b.Kind)&&((a.aS.cR==b.aS.cR)&&(a.aS.aJ==b.aS.aJ)))&&((a.To.cR==b.To.cR)&&(a.To.aJ==b.To.aJ)))&&((a.aG.Round==b.aG.Round)&&(a.aG.aJ==b.aG.aJ)))&&(a.Slot==b.Slot))&&r1) then dH N a.Entry b.Entry else some default).bind fun r2 =>
 ((bif (((((((((((a.Kind==b.Kind)&&((a.aS.cR==b.aS.cR)&&(a.aS.aJ==b.aS.aJ)))&&((a.To.cR==b.To.cR)&&(a.To.aJ==b.To.aJ)))&&((a.aG.Round==b.aG.Round)&&(a.aG.aJ==b.aG.aJ)))&&(a.Slot==b.Slot))&&r1)&&r2)&&(a.Number==b.Number))&&(rN Dd a.aH b.aH))&&(a.bH==b.bH))&&(a.Origin==b.Origin)) then Az N a.fP b.fP else some default).bind fun r3 =>
 ((bif (((((((((((((a.Kind==b.Kind)&&((a.aS.cR==b.aS.cR)&&(a.aS.aJ==b.aS.aJ)))&&((a.To.cR==b.To.cR)&&(a.To.aJ==b.To.aJ)))&&((a.aG.Round==b.aG.Round)&&(a.aG.aJ==b.aG.aJ)))&&(a.Slot==b.Slot))&&r1)&&r2)&&(a.Number==b.Number))&&(rN Dd a.aH b.aH))&&(a.bH==b.bH))&&(a.Origin==b.Origin))&&r3)&&((a.aY.Number==b.aY.Number)&&((rN Hj a.aY.cB b.aY.cB)&&((rN Dd a.aY.iD b.aY.iD)&&(rN Hj a.aY.aV b.aY.aV))))) then yN N a.Part b.Part else some default).bind fun r4 =>
 (some ((((((((((((((a.Kind==b.Kind)&&((a.aS.cR==b.aS.cR)&&(a.aS.aJ==b.aS.aJ)))&&((a.To.cR==b.To.cR)&&(a.To.aJ==b.To.aJ)))&&((a.aG.Round==b.aG.Round)&&(a.aG.aJ==b.aG.aJ)))&&(a.Slot==b.Slot))&&r1)&&r2)&&(a.Number==b.Number))&&(rN Dd a.aH b.aH))&&(a.bH==b.bH))&&(a.Origin==b.Origin))&&r3)&&((a.aY.Number==b.aY.Number)&&((rN Hj a.aY.cB b.aY.cB)&&((rN Dd a.aY.iD b.aY.iD)&&(rN Hj a.aY.aV b.aY.aV)))))&&r4))))))
def Cr:dL τ:=cn [.ty 43,.ty 43] [] (.ty 4) [] (fun N a b=>rR N a.1 a.2.1) fun r=>(r,())
theorem DK:aR E C 14 Cr:=gQ Cr [(34,Ic),(35,rX),(36,Cs),(37,An)] [] 0 [] [] ⟨SL,⟨Jc,⟨DL,⟨Yw,trivial⟩⟩⟩⟩ (fun a b=>a) Tryz.func14 rfl (by intro N a b;kernel_rfl)
def Ay (N:Nat)(a:bV):Option (Bool) :=
 (some ((((decide (0≤a.cR))&&(decide (a.cR < 9)))&&(decide (0≤a.aJ)))&&(decide (a.aJ < 5))))
def Kj:dL τ:=cn [.ty 23] [] (.ty 4) [] (fun N a b=>Ay N a.1) fun r=>(r,())
theorem WM:aR E C 57 Kj:=gQ Kj [] [] 0 [] [] trivial (fun a b=>a) Tryz.func57 rfl (by intro N a b;kernel_rfl)
def bK (N:Nat)(n:Int):Option (Bool) :=
 (some ((decide (0≤n))&&(decide (n≤1099511627776))))
def jQ:dL τ:=cn [.ty 2] [] (.ty 4) [] (fun N a b=>bK N a.1) fun r=>(r,())
theorem rE:aR E C 59 jQ:=gQ jQ [] [] 0 [] [] trivial (fun a b=>a) Tryz.func59 rfl (by intro N a b;kernel_rfl)
def Eb (N:Nat)(b:aT):Option (Bool) :=
 ((bK N b.Round).bind fun r1 =>
 (some ((r1&&(decide (0≤b.aJ)))&&(decide (b.aJ < 5)))))
def Ez:dL τ:=cn [.ty 25] [] (.ty 4) [] (fun N a b=>Eb N a.1) fun r=>(r,())
theorem GV:aR E C 58 Ez:=gQ Ez [(59,jQ)] [] 0 [] [] ⟨rE,trivial⟩ (fun a b=>a) Tryz.func58 rfl (by intro N a b;kernel_rfl)
structure mX where
 i:Int
def Dv:List Sl:=[.k,.k,.j,.sh (.ty 2),.j,.j,.j,.j,.j,.j,.j,.j,.j]
def Dn:List bZ:=[.iO]
def KF (a:Sl.Ts τ Dv)(b:bZ.Ts τ Dn):mX:=⟨a.2.2.2.1⟩
def JV (s:mX):Sl.Ts τ Dv:=((),(),(),s.i,(),(),(),(),(),(),(),(),(),())
def JI (s:mX):bZ.Ts τ Dn:=((),())
def JB:Lp τ:={ ts:=Dv,hs:=Dn,S:=mX,to:=KF,ot:=JV,oh:=JI,hk:=[2],tk:=[0,2],eZ:=fun _ _=>rfl,eX:=fun _ _=>rfl }
def kG (N:Nat)(v:Vector (Int) 8):Option (Bool) :=
 (iter N (fun (s1:mX) dK =>
 (bif (decide (s1.i < 8)) then
 (bif (nI s1.i 8) then
 ((bK N (iK v ((s1.i).toNat) default)).bind fun r3 =>
 (bif (!r3) then
 (some false)
 else
 (dK ⟨(IntKind.i64.wrap (s1.i+1))⟩)))
 else none)
 else
 (some true))) ⟨0⟩)
def rW:dL τ:=cn [.ty 34] [] (.ty 4) [] (fun N a b=>kG N a.1) fun r=>(r,())
theorem Jb:aR E C 60 rW:=gQ rW [(59,jQ)] [(2,JB)] 0 [] [] ⟨rE,trivial⟩ (fun a b=>a) Tryz.func60 rfl (by intro N a b;kernel_rfl)
def EP (N:Nat)(e:aB):Option (aB×Bool) :=
 (bif (e.Kind==0) then
 (some ((⟨e.Kind,0,0,(⟨(⟨0,0⟩:bB),0,0,0,[],[],[]⟩:dP),0,0,[],(⟨0,(Vector.replicate 8 (default:Int)),(Vector.replicate 8 (default:Int)),(Vector.replicate 8 (default:Int))⟩:aD),0,(Vector.replicate 8 (default:Int)),0,(⟨0,0,0,[]⟩:aK),0,0,0⟩:aB),true))
 else
 (bif (e.Kind==1) then
 (some ((⟨e.Kind,e.cE,e.Request,e.Op,0,0,[],(⟨0,(Vector.replicate 8 (default:Int)),(Vector.replicate 8 (default:Int)),(Vector.replicate 8 (default:Int))⟩:aD),0,(Vector.replicate 8 (default:Int)),0,(⟨0,0,0,[]⟩:aK),0,0,0⟩:aB),true))
 else
 (bif (e.Kind==2) then
 (some ((⟨e.Kind,0,0,(⟨(⟨0,0⟩:bB),0,0,0,[],[],[]⟩:dP),e.Origin,e.Seq,e.fP,(⟨0,(Vector.replicate 8 (default:Int)),(Vector.replicate 8 (default:Int)),(Vector.replicate 8 (default:Int))⟩:aD),0,(Vector.replicate 8 (default:Int)),0,(⟨0,0,0,[]⟩:aK),0,0,0⟩:aB),true))
 else
 (bif (e.Kind==3) then
 (some ((⟨e.Kind,0,0,(⟨(⟨0,0⟩:bB),0,0,0,[],[],[]⟩:dP),0,0,[],e.aY,0,(Vector.replicate 8 (default:Int)),0,(⟨0,0,0,[]⟩:aK),0,0,0⟩:aB),true))
 else
 (bif (e.Kind==4) then
 (some ((⟨e.Kind,0,0,(⟨(⟨0,0⟩:bB),0,0,0,[],[],[]⟩:dP),0,e.Seq,[],(⟨0,(Vector.replicate 8 (default:Int)),(Vector.replicate 8 (default:Int)),(Vector.replicate 8 (default:Int))⟩:aD),e.aS,e.aH,e.bH,(⟨0,0,0,[]⟩:aK),0,0,0⟩:aB),true))
 else
 (bif (e.Kind==5) then
 (some ((⟨e.Kind,0,0,(⟨(⟨0,0⟩:bB),0,0,0,[],[],[]⟩:dP),0,0,[],(⟨0,(Vector.replicate 8 (default:Int)),(Vector.replicate 8 (default:Int)),(Vector.replicate 8 (default:Int))⟩:aD),0,(Vector.replicate 8 (default:Int)),0,e.Part,0,0,0⟩:aB),true))
 else
 (bif (e.Kind==6) then
 (some ((⟨e.Kind,0,0,(⟨(⟨0,0⟩:bB),0,0,0,[],[],[]⟩:dP),0,0,[],(⟨0,(Vector.replicate 8 (default:Int)),(Vector.replicate 8 (default:Int)),(Vector.replicate 8 (default:Int))⟩:aD),0,(Vector.replicate 8 (default:Int)),0,(⟨0,0,0,[]⟩:aK),e.Site,e.aV,0⟩:aB),true))
 else
 (bif (e.Kind==7) then
 (some ((⟨e.Kind,0,0,(⟨(⟨0,0⟩:bB),0,0,0,[],[],[]⟩:dP),0,0,[],(⟨0,(Vector.replicate 8 (default:Int)),(Vector.replicate 8 (default:Int)),(Vector.replicate 8 (default:Int))⟩:aD),0,(Vector.replicate 8 (default:Int)),0,(⟨0,0,0,[]⟩:aK),e.Site,0,0⟩:aB),true))
 else
 (bif (e.Kind==8) then
 (some ((⟨e.Kind,0,0,(⟨(⟨0,0⟩:bB),0,0,0,[],[],[]⟩:dP),0,0,[],(⟨0,(Vector.replicate 8 (default:Int)),(Vector.replicate 8 (default:Int)),(Vector.replicate 8 (default:Int))⟩:aD),0,(Vector.replicate 8 (default:Int)),0,(⟨0,0,0,[]⟩:aK),e.Site,0,e.Length⟩:aB),true))
 else
 (some ((⟨e.Kind,0,0,(⟨(⟨0,0⟩:bB),0,0,0,[],[],[]⟩:dP),0,0,[],(⟨0,(Vector.replicate 8 (default:Int)),(Vector.replicate 8 (default:Int)),(Vector.replicate 8 (default:Int))⟩:aD),0,(Vector.replicate 8 (default:Int)),0,(⟨0,0,0,[]⟩:aK),0,0,0⟩:aB),false)))))))))))
def Vt:dL τ:=cn [.ty 41] [] (.jE [.ty 41,.ty 4]) [] (fun N a b=>EP N a.1) fun r=>((r.1,r.2,()),())
theorem Q4:aR E C 114 Vt:=gQ Vt [] [] 0 [] [] trivial (fun a b=>(a.1,a.2.1)) Tryz.func114 rfl (by intro N a b;kernel_rfl)
def cL (N:Nat)(n:Int):Option (Bool) :=
 (some ((decide (0≤n))&&(decide (n < 8))))
def Ef:dL τ:=cn [.ty 3] [] (.ty 4) [] (fun N a b=>cL N a.1) fun r=>(r,())
theorem BR:aR E C 63 Ef:=gQ Ef [] [] 0 [] [] trivial (fun a b=>a) Tryz.func63 rfl (by intro N a b;kernel_rfl)
def Mj (N:Nat)(s:bB):Option (Bool) :=
 ((bK N s.Time).bind fun r1 =>
 ((bif r1 then cL N s.Site else some default).bind fun r2 =>
 (some (r1&&r2))))
def Ib:dL τ:=cn [.ty 28] [] (.ty 4) [] (fun N a b=>Mj N a.1) fun r=>(r,())
theorem SJ:aR E C 143 Ib:=gQ Ib [(59,jQ),(63,Ef)] [] 0 [] [] ⟨rE,⟨BR,trivial⟩⟩ (fun a b=>a) Tryz.func143 rfl (by intro N a b;kernel_rfl)
def Um (N:Nat)(n:Int):Option (Bool) :=
 (some ((decide (0≤n))&&(decide (n≤1125899906842624))))
def Vv:dL τ:=cn [.ty 2] [] (.ty 4) [] (fun N a b=>Um N a.1) fun r=>(r,())
theorem Q6:aR E C 144 Vv:=gQ Vv [] [] 0 [] [] trivial (fun a b=>a) Tryz.func144 rfl (by intro N a b;kernel_rfl)
def xD (N:Nat)(op:dP):Option (Bool) :=
 ((Mj N op.cG).bind fun r1 =>
 ((bif ((r1&&(decide (1≤op.Kind)))&&(decide (op.Kind≤3))) then Um N op.Node else some default).bind fun r2 =>
 ((bif (((r1&&(decide (1≤op.Kind)))&&(decide (op.Kind≤3)))&&r2) then Um N op.cY else some default).bind fun r3 =>
 (some (((((((r1&&(decide (1≤op.Kind)))&&(decide (op.Kind≤3)))&&r2)&&r3)&&(decide (((op.Name).length:Int)≤255)))&&(decide (((op.Key).length:Int)≤255)))&&(decide (((op.Value).length:Int)≤255)))))))
def Ia:dL τ:=cn [.ty 30] [] (.ty 4) [] (fun N a b=>xD N a.1) fun r=>(r,())
theorem KU:aR E C 115 Ia:=gQ Ia [(143,Ib),(144,Vv)] [] 0 [] [] ⟨SJ,⟨Q6,trivial⟩⟩ (fun a b=>a) Tryz.func115 rfl (by intro N a b;kernel_rfl)
structure Cn where
 i:Int
def Xu:List Sl:=[.k,.k,.j,.sh (.ty 2),.j,.j,.j,.j,.j,.j,.j,.j,.j,.j,.j,.j,.k,.k,.k,.k,.k,.k,.k,.k]
def Wf:List bZ:=[]
def C9 (a:Sl.Ts τ Xu)(b:bZ.Ts τ Wf):Cn:=⟨a.2.2.2.1⟩
def B5 (s:Cn):Sl.Ts τ Xu:=((),(),(),s.i,(),(),(),(),(),(),(),(),(),(),(),(),(),(),(),(),(),(),(),(),())
def A6 (s:Cn):bZ.Ts τ Wf:=()
def z7:Lp τ:={ ts:=Xu,hs:=Wf,S:=Cn,to:=C9,ot:=B5,oh:=A6,hk:=[],tk:=[],eZ:=fun _ _=>rfl,eX:=fun _ _=>rfl }
def Fh (N:Nat)(l:List (dP)):Option (Bool) :=
 (iter N (fun (s1:Cn) dK =>
 (bif (decide (s1.i < ((l).length:Int))) then
 (bif (nI s1.i ((l).length:Int)) then
 ((xD N (⟨((aE l s1.i default).cG),(aE l s1.i default).Kind,(aE l s1.i default).Node,(aE l s1.i default).cY,(aE l s1.i default).Name,(aE l s1.i default).Key,(aE l s1.i default).Value⟩:dP)).bind fun r3 =>
 (bif (!r3) then
 (some false)
 else
 (dK ⟨(IntKind.i64.wrap (s1.i+1))⟩)))
 else none)
 else
 (some ((decide (0 < ((l).length:Int)))&&(decide (((l).length:Int)≤4096)))))) ⟨0⟩)
def Ot:dL τ:=cn [.ty 31] [] (.ty 4) [] (fun N a b=>Fh N a.1) fun r=>(r,())
theorem VB:aR E C 64 Ot:=gQ Ot [(115,Ia)] [(2,z7)] 0 [] [] ⟨KU,trivial⟩ (fun a b=>a) Tryz.func64 rfl (by intro N a b;kernel_rfl)
structure oM where
 i:Int
def Gj:List Sl:=[.k,.k,.j,.sh (.ty 2),.j,.j,.j,.j,.j,.j,.j,.j,.j,.j,.j,.j,.j,.j,.j,.j,.j,.j,.j,.j,.j,.j,.j,.j,.j,.j,.j,.j,.j,.j,.k,.k,.k,.k,.k,.k,.k,.k]
def Fu:List bZ:=[.iO]
def NK (a:Sl.Ts τ Gj)(b:bZ.Ts τ Fu):oM:=⟨a.2.2.2.1⟩
def MR (s:oM):Sl.Ts τ Gj:=((),(),(),s.i,(),(),(),(),(),(),(),(),(),(),(),(),(),(),(),(),(),(),(),(),(),(),(),(),(),(),(),(),(),(),(),(),(),(),(),(),(),(),())
def MK (s:oM):bZ.Ts τ Fu:=((),())
def MD:Lp τ:={ ts:=Gj,hs:=Fu,S:=oM,to:=NK,ot:=MR,oh:=MK,hk:=[2],tk:=[0,2],eZ:=fun _ _=>rfl,eX:=fun _ _=>rfl }
def oV (N:Nat)(e:aD):Option (Bool) :=
 (iter N (fun (s1:oM) dK =>
 (bif (decide (s1.i < 8)) then
 (bif (nI s1.i 8) then
 (bif (!(!(decide ((iK e.cB ((s1.i).toNat) default) < 0))) || (nI s1.i 8)) then
 (bif (!(!((decide ((iK e.cB ((s1.i).toNat) default) < 0)) || (decide (3 < (iK e.cB ((s1.i).toNat) default))))) || (nI s1.i 8)) then
 (bif (!(!(((decide ((iK e.cB ((s1.i).toNat) default) < 0)) || (decide (3 < (iK e.cB ((s1.i).toNat) default)))) || (decide ((iK e.aV ((s1.i).toNat) default) < (-1))))) || (nI s1.i 8)) then
 (bif ((((decide ((iK e.cB ((s1.i).toNat) default) < 0)) || (decide (3 < (iK e.cB ((s1.i).toNat) default)))) || (decide ((iK e.aV ((s1.i).toNat) default) < (-1)))) || (decide (8≤(iK e.aV ((s1.i).toNat) default)))) then
 (some false)
 else
 (dK ⟨(IntKind.i64.wrap (s1.i+1))⟩))
 else none)
 else none)
 else none)
 else none)
 else
 ((bK N e.Number).bind fun r3 =>
 ((bif r3 then kG N e.iD else some default).bind fun r4 =>
 (some (r3&&r4)))))) ⟨0⟩)
def Al:dL τ:=cn [.ty 36] [] (.ty 4) [] (fun N a b=>oV N a.1) fun r=>(r,())
theorem Yu:aR E C 65 Al:=gQ Al [(59,jQ),(60,rW)] [(2,MD)] 0 [] [] ⟨rE,⟨Jb,trivial⟩⟩ (fun a b=>a) Tryz.func65 rfl (by intro N a b;kernel_rfl)
def nV (N:Nat)(p:aK):Option (Bool) :=
 ((bK N p.Qz).bind fun r1 =>
 (some (((((r1&&(decide (1≤p.Hq)))&&(decide (p.Hq≤4096)))&&(decide (0≤p.Index)))&&(decide (p.Index < p.Hq)))&&(decide (((p.Data).length:Int)≤16384)))))
def Cp:dL τ:=cn [.ty 39] [] (.ty 4) [] (fun N a b=>nV N a.1) fun r=>(r,())
theorem DI:aR E C 66 Cp:=gQ Cp [(59,jQ)] [] 0 [] [] ⟨rE,trivial⟩ (fun a b=>a) Tryz.func66 rfl (by intro N a b;kernel_rfl)
def eF (N:Nat)(e:aB):Option (Bool) :=
 ((EP N e).bind fun r1 =>
 ((bif (!(!r1.2)) then dH N e r1.1 else some default).bind fun r2 =>
 (bif ((!r1.2) || (!r2)) then
 (some false)
 else
 (bif (e.Kind==1) then
 ((bK N e.cE).bind fun r3 =>
 ((bif (r3&&(decide (0 < e.cE))) then bK N e.Request else some default).bind fun r4 =>
 ((bif (((r3&&(decide (0 < e.cE)))&&r4)&&(decide (0 < e.Request))) then xD N e.Op else some default).bind fun r5 =>
 (some ((((r3&&(decide (0 < e.cE)))&&r4)&&(decide (0 < e.Request)))&&r5)))))
 else
 (bif (e.Kind==2) then
 ((cL N e.Origin).bind fun r6 =>
 ((bif r6 then bK N e.Seq else some default).bind fun r7 =>
 ((bif (r6&&r7) then Fh N e.fP else some default).bind fun r8 =>
 (some ((r6&&r7)&&r8)))))
 else
 (bif (e.Kind==3) then
 ((oV N e.aY).bind fun r9 =>
 (some r9))
 else
 (bif (e.Kind==4) then
 ((bK N e.Seq).bind fun Nn =>
 ((bif Nn then cL N e.aS else some default).bind fun Vl =>
 ((bif (Nn&&Vl) then kG N e.aH else some default).bind fun Tt =>
 ((bif ((Nn&&Vl)&&Tt) then bK N e.bH else some default).bind fun EJ =>
 (some (((Nn&&Vl)&&Tt)&&EJ))))))
 else
 (bif (e.Kind==5) then
 ((nV N e.Part).bind fun JX =>
 (some JX))
 else
 ((cL N e.Site).bind fun Ci =>
 ((bif Ci then cL N e.aV else some default).bind fun Jh =>
 ((bif (Ci&&Jh) then bK N e.Length else some default).bind fun Kc =>
 (some ((Ci&&Jh)&&Kc)))))))))))))
def Ak:dL τ:=cn [.ty 41] [] (.ty 4) [] (fun N a b=>eF N a.1) fun r=>(r,())
theorem Yt:aR E C 62 Ak:=gQ Ak [(114,Vt),(35,rX),(59,jQ),(115,Ia),(63,Ef),(64,Ot),(65,Al),(60,rW),(66,Cp)] [] 0 [] [] ⟨Q4,⟨Jc,⟨rE,⟨KU,⟨BR,⟨VB,⟨Yu,⟨Jb,⟨DI,trivial⟩⟩⟩⟩⟩⟩⟩⟩⟩ (fun a b=>a) Tryz.func62 rfl (by intro N a b;kernel_rfl)
structure zB where
 i:Int
def Tl:List Sl:=[.k,.k,.k,.k,.k,.k,.j,.sh (.ty 2),.j,.j,.j,.j,.j,.j,.j,.j,.j,.j,.j,.j,.j,.j,.j,.j,.j,.j,.j,.j,.j,.j,.j,.j,.j,.j,.j,.j,.j,.j,.j,.k,.k,.k,.k,.k,.k,.k,.k,.k,.k]
def Rt:List bZ:=[]
def o8 (a:Sl.Ts τ Tl)(b:bZ.Ts τ Rt):zB:=⟨a.2.2.2.2.2.2.2.1⟩
def j1 (s:zB):Sl.Ts τ Tl:=((),(),(),(),(),(),(),s.i,(),(),(),(),(),(),(),(),(),(),(),(),(),(),(),(),(),(),(),(),(),(),(),(),(),(),(),(),(),(),(),(),(),(),(),(),(),(),(),(),(),())
def ZZ (s:zB):bZ.Ts τ Rt:=()
def ZT:Lp τ:={ ts:=Tl,hs:=Rt,S:=zB,to:=o8,ot:=j1,oh:=ZZ,hk:=[],tk:=[],eZ:=fun _ _=>rfl,eX:=fun _ _=>rfl }
def Gm (N:Nat)(l:List (aL))(least:Int)(Yo:Int):Option (Bool) :=
 (iter N (fun (s1:zB) dK =>
 (bif (decide (s1.i < ((l).length:Int))) then
 (bif (nI s1.i ((l).length:Int)) then
 ((bK N ((aE l s1.i default).Slot)).bind fun r3 =>
 (bif (!(!(!r3)) || (nI s1.i ((l).length:Int))) then
 ((bif (!(!r3)) then Eb N ((aE l s1.i default).aG) else some default).bind fun r4 =>
 (bif (!(!((!r3) || (!r4))) || (nI s1.i ((l).length:Int))) then
 ((bif (!((!r3) || (!r4))) then eF N (⟨((aE l s1.i default).Entry).Kind,((aE l s1.i default).Entry).cE,((aE l s1.i default).Entry).Request,(⟨((((aE l s1.i default).Entry).Op).cG),(((aE l s1.i default).Entry).Op).Kind,(((aE l s1.i default).Entry).Op).Node,(((aE l s1.i default).Entry).Op).cY,(((aE l s1.i default).Entry).Op).Name,(((aE l s1.i default).Entry).Op).Key,(((aE l s1.i default).Entry).Op).Value⟩:dP),((aE l s1.i default).Entry).Origin,((aE l s1.i default).Entry).Seq,((aE l s1.i default).Entry).fP,(((aE l s1.i default).Entry).aY),((aE l s1.i default).Entry).aS,((aE l s1.i default).Entry).aH,((aE l s1.i default).Entry).bH,(((aE l s1.i default).Entry).Part),((aE l s1.i default).Entry).Site,((aE l s1.i default).Entry).aV,((aE l s1.i default).Entry).Length⟩:aB) else some default).bind fun r5 =>
 (bif (((!r3) || (!r4)) || (!r5)) then
 (some false)
 else
 (dK ⟨(IntKind.i64.wrap (s1.i+1))⟩)))
 else none))
 else none))
 else none)
 else
 (some ((decide (least≤((l).length:Int)))&&(decide (((l).length:Int)≤Yo)))))) ⟨0⟩)
def Vu:dL τ:=cn [.ty 26,.ty 3,.ty 3] [] (.ty 4) [] (fun N a b=>Gm N a.1 a.2.1 a.2.2.1) fun r=>(r,())
theorem Q5:aR E C 61 Vu:=gQ Vu [(59,jQ),(58,Ez),(62,Ak)] [(2,ZT)] 0 [] [] ⟨rE,⟨GV,⟨Yt,trivial⟩⟩⟩ (fun a b=>a) Tryz.func61 rfl (by intro N a b;kernel_rfl)
def Ea (N:Nat)(m:aN):Option (Bool) :=
 ((Hp N m).bind fun r1 =>
 ((bif (!(!r1.2)) then rR N m r1.1 else some default).bind fun r2 =>
 ((bif (!((!r1.2) || (!r2))) then Ay N m.aS else some default).bind fun r3 =>
 ((bif (!(((!r1.2) || (!r2)) || (!r3))) then Ay N m.To else some default).bind fun r4 =>
 (bif ((((!r1.2) || (!r2)) || (!r3)) || (!r4)) then
 (some false)
 else
 ((Eb N m.aG).bind fun r5 =>
 ((bif (!(!r5)) then bK N m.Slot else some default).bind fun r6 =>
 ((bif (!((!r5) || (!r6))) then bK N m.Number else some default).bind fun r7 =>
 ((bif (!(((!r5) || (!r6)) || (!r7))) then kG N m.aH else some default).bind fun r8 =>
 ((bif (!((((!r5) || (!r6)) || (!r7)) || (!r8))) then bK N m.bH else some default).bind fun r9 =>
 (bif (((((!r5) || (!r6)) || (!r7)) || (!r8)) || (!r9)) then
 (some false)
 else
 (bif (m.Kind==2) then
 ((Gm N m.bR 0 4096).bind fun Nn =>
 (some Nn))
 else
 (bif (m.Kind==3) then
 ((Gm N m.bR 1 1).bind fun Vl =>
 (some Vl))
 else
 (bif (m.Kind==6) then
 ((Gm N m.bR 1 4096).bind fun Tt =>
 (some Tt))
 else
 (bif (m.Kind==9) then
 ((eF N m.Entry).bind fun EJ =>
 (some EJ))
 else
 (bif (m.Kind==11) then
 ((cL N m.Origin).bind fun JX =>
 ((bif JX then Fh N m.fP else some default).bind fun Ci =>
 (some (JX&&Ci))))
 else
 (bif (m.Kind==12) then
 ((oV N m.aY).bind fun Jh =>
 (some Jh))
 else
 (bif (m.Kind==13) then
 (bif (m.Kind==13) then
 ((nV N m.Part).bind fun Kc =>
 (some Kc))
 else
 (some true))
 else
 (bif (m.Kind==15) then
 ((nV N m.Part).bind fun j7 =>
 (some j7))
 else
 (some true))))))))))))))))))))
def Mn:dL τ:=cn [.ty 43] [] (.ty 4) [] (fun N a b=>Ea N a.1) fun r=>(r,())
theorem c8:aR E C 28 Mn:=gQ Mn [(56,Rh),(14,Cr),(57,Kj),(58,Ez),(59,jQ),(60,rW),(61,Vu),(62,Ak),(63,Ef),(64,Ot),(65,Al),(66,Cp)] [] 0 [] [] ⟨B1,⟨DK,⟨WM,⟨GV,⟨rE,⟨Jb,⟨Q5,⟨Yt,⟨BR,⟨VB,⟨Yu,⟨DI,trivial⟩⟩⟩⟩⟩⟩⟩⟩⟩⟩⟩⟩ (fun a b=>a) Tryz.func28 rfl (by intro N a b;kernel_rfl)
structure uP where
 u:Int
 b:List (Int)
def Xr:List Sl:=[.k,.k,.k,.sh (.ty 12),.sh (.own 5 0),.k,.k,.k,.k,.k,.k,.k,.k,.k,.k,.k,.j,.j,.j,.j,.j,.j,.j,.j,.j,.j,.j,.k,.k,.k,.k,.k]
def Wc:List bZ:=[.tail]
def C6 (a:Sl.Ts τ Xr)(b:bZ.Ts τ Wc):uP:=⟨a.2.2.2.1,a.2.2.2.2.1⟩
def B2 (s:uP):Sl.Ts τ Xr:=((),(),(),s.u,s.b,(),(),(),(),(),(),(),(),(),(),(),(),(),(),(),(),(),(),(),(),(),(),(),(),(),(),(),())
def A3 (s:uP):bZ.Ts τ Wc:=((),())
def z4:Lp τ:={ ts:=Xr,hs:=Wc,S:=uP,to:=C6,ot:=B2,oh:=A3,hk:=[],tk:=[],eZ:=fun _ _=>rfl,eX:=fun _ _=>rfl }
def Fg (N:Nat)(n:Int):Option ((List (Int))) :=
 (bif (decide (n < 0)) then
 (iter N (fun (s1:uP) dK =>
 (bif (decide (128≤s1.u)) then
 (bif (dG ((s1.b).length+([(IntKind.u8.wrap ((IntKind.u8.wrap (Int.tmod s1.u 128))+128))]).length) 1) then
 (dK ⟨(IntKind.u64.wrap (Int.tdiv s1.u 128)),(s1.b++[(IntKind.u8.wrap ((IntKind.u8.wrap (Int.tmod s1.u 128))+128))])⟩)
 else none)
 else
 (bif (dG ((s1.b).length+([(IntKind.u8.wrap s1.u)]).length) 1) then
 (some (s1.b++[(IntKind.u8.wrap s1.u)]))
 else none))) ⟨(IntKind.u64.wrap ((IntKind.u64.wrap ((IntKind.u64.wrap (IntKind.i64.wrap (0 - (IntKind.i64.wrap (n+1))))) * 2))+1)),[]⟩)
 else
 (iter N (fun (s3:uP) Iw =>
 (bif (decide (128≤s3.u)) then
 (bif (dG ((s3.b).length+([(IntKind.u8.wrap ((IntKind.u8.wrap (Int.tmod s3.u 128))+128))]).length) 1) then
 (Iw ⟨(IntKind.u64.wrap (Int.tdiv s3.u 128)),(s3.b++[(IntKind.u8.wrap ((IntKind.u8.wrap (Int.tmod s3.u 128))+128))])⟩)
 else none)
 else
 (bif (dG ((s3.b).length+([(IntKind.u8.wrap s3.u)]).length) 1) then
 (some (s3.b++[(IntKind.u8.wrap s3.u)]))
 else none))) ⟨(IntKind.u64.wrap ((IntKind.u64.wrap n) * 2)),[]⟩))
def Hz:dL τ:=cn [.ty 2] [] (.own 5 0) [.tail] (fun N a b=>Fg N a.1) fun r=>(r,((),()))
theorem GN:aR E C 116 Hz:=gQ Hz [] [(5,z4)] 0 [] [] trivial (fun a b=>a) Tryz.func116 rfl (by intro N a b;kernel_rfl)
structure rJ where
 b:List (Int)
 i:Int
def Jo:List Sl:=[.sh (.own 5 0),.k,.k,.k,.k,.sh (.ty 2),.j,.j,.j,.j,.j,.j,.j,.j,.j,.j,.j,.j,.j,.k]
def Io:List bZ:=[.tail]
def QL (a:Sl.Ts τ Jo)(b:bZ.Ts τ Io):rJ:=⟨a.1,a.2.2.2.2.2.1⟩
def PQ (s:rJ):Sl.Ts τ Jo:=(s.b,(),(),(),(),s.i,(),(),(),(),(),(),(),(),(),(),(),(),(),(),())
def PG (s:rJ):bZ.Ts τ Io:=((),())
def OY:Lp τ:={ ts:=Jo,hs:=Io,S:=rJ,to:=QL,ot:=PQ,oh:=PG,hk:=[],tk:=[],eZ:=fun _ _=>rfl,eX:=fun _ _=>rfl }
def fF (N:Nat)(l:List (Int)):Option ((List (Int))) :=
 (iter N (fun (s1:rJ) dK =>
 (bif (decide (s1.i < ((l).length:Int))) then
 (bif (nI s1.i ((l).length:Int)) then
 ((Fg N (aE l s1.i default)).bind fun r3 =>
 (bif (dG ((s1.b).length+(r3).length) 1) then
 (dK ⟨(s1.b++r3),(IntKind.i64.wrap (s1.i+1))⟩)
 else none))
 else none)
 else
 (some s1.b))) ⟨[],0⟩)
def iY:dL τ:=cn [.nil .slice,.ty 60] [] (.own 5 0) [.tail] (fun N a b=>fF N a.2.1) fun r=>(r,((),()))
theorem pE:aR E C 67 iY:=gQ iY [(116,Hz)] [(2,OY)] 0 [] [] ⟨GN,trivial⟩ (fun a b=>a) Tryz.func67 rfl (by intro N a b;kernel_rfl)
structure mY where
 b:List (Int)
 i:Int
def Jp:List Sl:=[.sh (.own 5 1),.k,.k,.k,.k,.sh (.ty 2),.j,.j,.j,.j,.j,.j,.j,.j,.j,.j,.j,.j,.j,.k]
def Ip:List bZ:=[.dead,.tail]
def QM (a:Sl.Ts τ Jp)(b:bZ.Ts τ Ip):mY:=⟨a.1,a.2.2.2.2.2.1⟩
def PR (s:mY):Sl.Ts τ Jp:=(s.b,(),(),(),(),s.i,(),(),(),(),(),(),(),(),(),(),(),(),(),(),())
def PH (s:mY):bZ.Ts τ Ip:=((),(),())
def OZ:Lp τ:={ ts:=Jp,hs:=Ip,S:=mY,to:=QM,ot:=PR,oh:=PH,hk:=[5],tk:=[],eZ:=fun _ _=>rfl,eX:=fun _ _=>rfl }
def bA (N:Nat)(b:List (Int))(l:List (Int)):Option ((List (Int))) :=
 (iter N (fun (s1:mY) dK =>
 (bif (decide (s1.i < ((l).length:Int))) then
 (bif (nI s1.i ((l).length:Int)) then
 ((Fg N (aE l s1.i default)).bind fun r3 =>
 (bif (dG ((s1.b).length+(r3).length) 1) then
 (dK ⟨(s1.b++r3),(IntKind.i64.wrap (s1.i+1))⟩)
 else none))
 else none)
 else
 (some s1.b))) ⟨b,0⟩)
def nA:dL τ:=cn [.own 5 0,.ty 60] [.tail] (.own 5 1) [.dead,.tail] (fun N a b=>bA N a.1 a.2.1) fun r=>(r,((),(),()))
theorem yS:aR E C 67 nA:=gQ nA [(116,Hz)] [(2,OZ)] 1 [] [] ⟨GN,trivial⟩ (fun a b=>a) Tryz.func67 rfl (by intro N a b;kernel_rfl)
def uI (N:Nat)(l:List (Int)):Option ((List (Int))) :=
 ((Fg N ((l).length:Int)).bind fun r1 =>
 (bif (dG ((r1).length+(l).length) 1) then
 (some (r1++l))
 else none))
def Bo:dL τ:=cn [.ty 37] [] (.own 5 0) [.tail] (fun N a b=>uI N a.1) fun r=>(r,((),()))
theorem Xf:aR E C 75 Bo:=gQ Bo [(116,Hz)] [] 0 [] [] ⟨GN,trivial⟩ (fun a b=>a) Tryz.func75 rfl (by intro N a b;kernel_rfl)
def uE (N:Nat)(b:List (Int))(s:List UInt8):Option ((List (Int))) :=
 ((uI N (Kf s)).bind fun r1 =>
 (bif (dG ((b).length+(r1).length) 1) then
 (some (b++r1))
 else none))
def Ig:dL τ:=cn [.own 5 0,.ty 9] [.tail] (.own 5 1) [.dead,.tail] (fun N a b=>uE N a.1 a.2.1) fun r=>(r,((),(),()))
theorem SN:aR E C 145 Ig:=gQ Ig [(75,Bo)] [] 1 [] [] ⟨Xf,trivial⟩ (fun a b=>a) Tryz.func145 rfl (by intro N a b;kernel_rfl)
def yZ (N:Nat)(op:dP):Option ((List (Int))) :=
 ((fF N [op.cG.Time,op.cG.Site,op.Kind,op.Node,op.cY]).bind fun r1 =>
 ((uE N r1 op.Name).bind fun r2 =>
 ((uE N r2 op.Key).bind fun r3 =>
 ((uE N r3 op.Value).bind fun r4 =>
 (some r4)))))
def Ey:dL τ:=cn [.ty 30] [] (.own 5 0) [.tail] (fun N a b=>yZ N a.1) fun r=>(r,((),()))
theorem GU:aR E C 117 Ey:=gQ Ey [(67,iY),(145,Ig)] [] 0 [] [] ⟨pE,⟨SN,trivial⟩⟩ (fun a b=>a) Tryz.func117 rfl (by intro N a b;kernel_rfl)
structure rH where
 b:List (Int)
 i:Int
def Jn:List Sl:=[.k,.k,.k,.sh (.own 5 1),.sh (.ty 2),.k,.k,.k,.k,.j,.j,.j,.j,.j,.j,.j,.j,.j,.j,.j,.j,.j,.k]
def Im:List bZ:=[.dead,.tail]
def QK (a:Sl.Ts τ Jn)(b:bZ.Ts τ Im):rH:=⟨a.2.2.2.1,a.2.2.2.2.1⟩
def PO (s:rH):Sl.Ts τ Jn:=((),(),(),s.b,s.i,(),(),(),(),(),(),(),(),(),(),(),(),(),(),(),(),(),(),())
def PF (s:rH):bZ.Ts τ Im:=((),(),())
def OX:Lp τ:={ ts:=Jn,hs:=Im,S:=rH,to:=QK,ot:=PO,oh:=PF,hk:=[5],tk:=[],eZ:=fun _ _=>rfl,eX:=fun _ _=>rfl }
def rQ (N:Nat)(l:List (dP)):Option ((List (Int))) :=
 ((fF N [((l).length:Int)]).bind fun r1 =>
 (iter N (fun (s2:rH) wW =>
 (bif (decide (s2.i < ((l).length:Int))) then
 (bif (nI s2.i ((l).length:Int)) then
 ((yZ N (⟨((aE l s2.i default).cG),(aE l s2.i default).Kind,(aE l s2.i default).Node,(aE l s2.i default).cY,(aE l s2.i default).Name,(aE l s2.i default).Key,(aE l s2.i default).Value⟩:dP)).bind fun r4 =>
 (bif (dG ((s2.b).length+(r4).length) 1) then
 (wW ⟨(s2.b++r4),(IntKind.i64.wrap (s2.i+1))⟩)
 else none))
 else none)
 else
 (some s2.b))) ⟨r1,0⟩))
def Cq:dL τ:=cn [.ty 31] [] (.ty 37) [] (fun N a b=>rQ N a.1) fun r=>(r,())
theorem DJ:aR E C 71 Cq:=gQ Cq [(67,iY),(117,Ey)] [(3,OX)] 0 [] [] ⟨pE,⟨GU,trivial⟩⟩ (fun a b=>a) Tryz.func71 rfl (by intro N a b;kernel_rfl)
structure hZ where
 b:List (Int)
 i:Int
def Cg:List Sl:=[.k,.k,.k,.sh (.own 5 1),.sh (.ty 2),.j,.j,.j,.j,.j,.j,.j,.j,.j,.j,.k]
def Bz:List bZ:=[.iO,.tail]
def HQ (a:Sl.Ts τ Cg)(b:bZ.Ts τ Bz):hZ:=⟨a.2.2.2.1,a.2.2.2.2.1⟩
def HA (s:hZ):Sl.Ts τ Cg:=((),(),(),s.b,s.i,(),(),(),(),(),(),(),(),(),(),(),())
def GG (s:hZ):bZ.Ts τ Bz:=((),(),())
def FY:Lp τ:={ ts:=Cg,hs:=Bz,S:=hZ,to:=HQ,ot:=HA,oh:=GG,hk:=[2],tk:=[0,2],eZ:=fun _ _=>rfl,eX:=fun _ _=>rfl }
def eV (N:Nat)(v:Vector (Int) 8):Option ((List (Int))) :=
 (iter N (fun (s1:hZ) dK =>
 (bif (decide (s1.i < 8)) then
 (bif (nI s1.i 8) then
 ((bA N s1.b [(iK v ((s1.i).toNat) default)]).bind fun r3 =>
 (dK ⟨r3,(IntKind.i64.wrap (s1.i+1))⟩))
 else none)
 else
 (some s1.b))) ⟨[],0⟩)
def pP:dL τ:=cn [.ty 34] [] (.own 5 0) [.tail] (fun N a b=>eV N a.1) fun r=>(r,((),()))
theorem Ga:aR E C 70 pP:=gQ pP [(67,nA)] [(3,FY)] 0 [] [] ⟨yS,trivial⟩ (fun a b=>a) Tryz.func70 rfl (by intro N a b;kernel_rfl)
structure iR where
 b:List (Int)
 i:Int
def Dt:List Sl:=[.k,.k,.k,.sh (.own 5 2),.sh (.ty 2),.k,.k,.k,.k,.k,.j,.j,.j,.j,.j,.j,.j,.j,.j,.j,.j,.k,.k,.k,.k,.k,.k,.k,.k,.k,.k,.k,.k,.k,.k,.k,.k,.k]
def Dl:List bZ:=[.iO,.dead,.tail]
def KD (a:Sl.Ts τ Dt)(b:bZ.Ts τ Dl):iR:=⟨a.2.2.2.1,a.2.2.2.2.1⟩
def JT (s:iR):Sl.Ts τ Dt:=((),(),(),s.b,s.i,(),(),(),(),(),(),(),(),(),(),(),(),(),(),(),(),(),(),(),(),(),(),(),(),(),(),(),(),(),(),(),(),(),())
def JG (s:iR):bZ.Ts τ Dl:=((),(),(),())
def IZ:Lp τ:={ ts:=Dt,hs:=Dl,S:=iR,to:=KD,ot:=JT,oh:=JG,hk:=[2,5],tk:=[0,2,0,0,0,0,2],eZ:=fun _ _=>rfl,eX:=fun _ _=>rfl }
structure iS where
 b:List (Int)
 i:Int
def Du:List Sl:=[.k,.k,.k,.sh (.own 5 5),.k,.sh (.ty 2),.k,.k,.k,.k,.k,.k,.k,.k,.k,.k,.k,.k,.k,.k,.k,.k,.k,.k,.k,.k,.j,.j,.j,.j,.j,.j,.j,.j,.j,.j,.j,.k]
def Dm:List bZ:=[.iO,.iO,.iO,.iO,.dead,.tail]
def KE (a:Sl.Ts τ Du)(b:bZ.Ts τ Dm):iS:=⟨a.2.2.2.1,a.2.2.2.2.2.1⟩
def JU (s:iS):Sl.Ts τ Du:=((),(),(),s.b,(),s.i,(),(),(),(),(),(),(),(),(),(),(),(),(),(),(),(),(),(),(),(),(),(),(),(),(),(),(),(),(),(),(),(),())
def JH (s:iS):bZ.Ts τ Dm:=((),(),(),(),(),(),())
def JA:Lp τ:={ ts:=Du,hs:=Dm,S:=iS,to:=KE,ot:=JU,oh:=JH,hk:=[2,1,1,5,5],tk:=[0,2,0,0,0,0,2,0,0,0,0,0,0,0,0,0,0,0,0,0,0,0,2],eZ:=fun _ _=>rfl,eX:=fun _ _=>rfl }
def mU (N:Nat)(e:aD):Option ((List (Int))) :=
 ((fF N [e.Number]).bind fun r1 =>
 (iter N (fun (s2:iR) wW =>
 (bif (decide (s2.i < 8)) then
 (bif (nI s2.i 8) then
 ((bA N s2.b [(iK e.cB ((s2.i).toNat) default)]).bind fun r4 =>
 (wW ⟨r4,(IntKind.i64.wrap (s2.i+1))⟩))
 else none)
 else
 ((eV N e.iD).bind fun r5 =>
 (bif (dG ((s2.b).length+(r5).length) 1) then
 (iter N (fun (s6:iS) aAW =>
 (bif (decide (s6.i < 8)) then
 (bif (nI s6.i 8) then
 ((bA N s6.b [(iK e.aV ((s6.i).toNat) default)]).bind fun r8 =>
 (aAW ⟨r8,(IntKind.i64.wrap (s6.i+1))⟩))
 else none)
 else
 (some s6.b))) ⟨(s2.b++r5),0⟩)
 else none)))) ⟨r1,0⟩))
def xR:dL τ:=cn [.ty 36] [] (.own 5 0) [.tail] (fun N a b=>mU N a.1) fun r=>(r,((),()))
theorem Vj:aR E C 72 xR:=gQ xR [(67,iY),(67,nA),(70,pP)] [(3,IZ),(8,JA)] 0 [] [] ⟨pE,⟨yS,⟨Ga,trivial⟩⟩⟩ (fun a b=>a) Tryz.func72 rfl (by intro N a b;kernel_rfl)
def iV (N:Nat)(p:aK):Option ((List (Int))) :=
 ((fF N [p.Qz,p.Index,p.Hq]).bind fun r1 =>
 ((uI N p.Data).bind fun r2 =>
 (bif (dG ((r1).length+(r2).length) 1) then
 (some (r1++r2))
 else none)))
def Am:dL τ:=cn [.ty 39] [] (.ty 37) [] (fun N a b=>iV N a.1) fun r=>(r,())
theorem Yv:aR E C 73 Am:=gQ Am [(67,iY),(75,Bo)] [] 0 [] [] ⟨pE,⟨Xf,trivial⟩⟩ (fun a b=>a) Tryz.func73 rfl (by intro N a b;kernel_rfl)
def kF (N:Nat)(e:aB):Option ((List (Int))) :=
 ((fF N [e.Kind]).bind fun r1 =>
 (bif (e.Kind==1) then
 ((bA N r1 [e.cE,e.Request]).bind fun r2 =>
 ((yZ N e.Op).bind fun r3 =>
 (bif (dG ((r2).length+(r3).length) 1) then
 (some (r2++r3))
 else none)))
 else
 (bif (e.Kind==2) then
 ((bA N r1 [e.Origin,e.Seq]).bind fun r4 =>
 ((rQ N e.fP).bind fun r5 =>
 (bif (dG ((r4).length+(r5).length) 1) then
 (some (r4++r5))
 else none)))
 else
 (bif (e.Kind==3) then
 ((mU N e.aY).bind fun r6 =>
 (bif (dG ((r1).length+(r6).length) 1) then
 (some (r1++r6))
 else none))
 else
 (bif (e.Kind==4) then
 ((bA N r1 [e.Seq,e.aS]).bind fun r7 =>
 ((eV N e.aH).bind fun r8 =>
 (bif (dG ((r7).length+(r8).length) 1) then
 ((bA N (r7++r8) [e.bH]).bind fun r9 =>
 (some r9))
 else none)))
 else
 (bif (e.Kind==5) then
 ((iV N e.Part).bind fun Nn =>
 (bif (dG ((r1).length+(Nn).length) 1) then
 (some (r1++Nn))
 else none))
 else
 (bif (e.Kind==6) then
 ((bA N r1 [e.Site,e.aV]).bind fun Vl =>
 (some Vl))
 else
 (bif (e.Kind==7) then
 ((bA N r1 [e.Site]).bind fun Tt =>
 (some Tt))
 else
 (bif (e.Kind==8) then
 ((bA N r1 [e.Site,e.Length]).bind fun EJ =>
 (some EJ))
 else
 (some r1))))))))))
def xQ:dL τ:=cn [.ty 41] [] (.ty 37) [] (fun N a b=>kF N a.1) fun r=>(r,())
theorem Vi:aR E C 69 xQ:=gQ xQ [(67,iY),(67,nA),(117,Ey),(71,Cq),(72,xR),(70,pP),(73,Am)] [] 0 [] [] ⟨pE,⟨yS,⟨GU,⟨DJ,⟨Vj,⟨Ga,⟨Yv,trivial⟩⟩⟩⟩⟩⟩⟩ (fun a b=>a) Tryz.func69 rfl (by intro N a b;kernel_rfl)
structure oO where
 b:List (Int)
 i:Int
def Gl:List Sl:=[.k,.k,.k,.sh (.own 5 1),.sh (.ty 2),.k,.k,.k,.k,.j,.j,.j,.j,.j,.j,.j,.j,.j,.j,.j,.j,.j,.j,.j,.j,.j,.j,.j,.j,.j,.j,.j,.j,.j,.j,.j,.j,.j,.j,.j,.j,.j,.j,.k]
def Fw:List bZ:=[.dead,.tail]
def NM (a:Sl.Ts τ Gl)(b:bZ.Ts τ Fw):oO:=⟨a.2.2.2.1,a.2.2.2.2.1⟩
def MT (s:oO):Sl.Ts τ Gl:=((),(),(),s.b,s.i,(),(),(),(),(),(),(),(),(),(),(),(),(),(),(),(),(),(),(),(),(),(),(),(),(),(),(),(),(),(),(),(),(),(),(),(),(),(),(),())
def MM (s:oO):bZ.Ts τ Fw:=((),(),())
def MF:Lp τ:={ ts:=Gl,hs:=Fw,S:=oO,to:=NM,ot:=MT,oh:=MM,hk:=[5],tk:=[],eZ:=fun _ _=>rfl,eX:=fun _ _=>rfl }
def fQ (N:Nat)(l:List (aL)):Option ((List (Int))) :=
 ((fF N [((l).length:Int)]).bind fun r1 =>
 (iter N (fun (s2:oO) wW =>
 (bif (decide (s2.i < ((l).length:Int))) then
 (bif (nI s2.i ((l).length:Int)) then
 (bif (nI s2.i ((l).length:Int)) then
 (bif (nI s2.i ((l).length:Int)) then
 ((bA N s2.b [(aE l s2.i default).Slot,((aE l s2.i default).aG).Round,((aE l s2.i default).aG).aJ]).bind fun r4 =>
 (bif (nI s2.i ((l).length:Int)) then
 ((kF N (⟨((aE l s2.i default).Entry).Kind,((aE l s2.i default).Entry).cE,((aE l s2.i default).Entry).Request,(⟨((((aE l s2.i default).Entry).Op).cG),(((aE l s2.i default).Entry).Op).Kind,(((aE l s2.i default).Entry).Op).Node,(((aE l s2.i default).Entry).Op).cY,(((aE l s2.i default).Entry).Op).Name,(((aE l s2.i default).Entry).Op).Key,(((aE l s2.i default).Entry).Op).Value⟩:dP),((aE l s2.i default).Entry).Origin,((aE l s2.i default).Entry).Seq,((aE l s2.i default).Entry).fP,(((aE l s2.i default).Entry).aY),((aE l s2.i default).Entry).aS,((aE l s2.i default).Entry).aH,((aE l s2.i default).Entry).bH,(((aE l s2.i default).Entry).Part),((aE l s2.i default).Entry).Site,((aE l s2.i default).Entry).aV,((aE l s2.i default).Entry).Length⟩:aB)).bind fun r5 =>
 (bif (dG ((r4).length+(r5).length) 1) then
 (wW ⟨(r4++r5),(IntKind.i64.wrap (s2.i+1))⟩)
 else none))
 else none))
 else none)
 else none)
 else none)
 else
 (some s2.b))) ⟨r1,0⟩))
def Ie:dL τ:=cn [.ty 26] [] (.ty 37) [] (fun N a b=>fQ N a.1) fun r=>(r,())
theorem SM:aR E C 68 Ie:=gQ Ie [(67,iY),(67,nA),(69,xQ)] [(3,MF)] 0 [] [] ⟨pE,⟨yS,⟨Vi,trivial⟩⟩⟩ (fun a b=>a) Tryz.func68 rfl (by intro N a b;kernel_rfl)
def Ho (N:Nat)(m:aN):Option ((List (Int))) :=
 ((fF N [m.Kind,m.aS.cR,m.aS.aJ,m.To.cR,m.To.aJ]).bind fun r1 =>
 ((fF N [m.aG.Round,m.aG.aJ]).bind fun r2 =>
 (bif (m.Kind==1) then
 (bif (m.Kind==1) then
 (bif (dG ((r1).length+(r2).length) 1) then
 ((bA N (r1++r2) [m.Slot]).bind fun r3 =>
 (some r3))
 else none)
 else
 (bif (m.Kind==2) then
 (bif (dG ((r1).length+(r2).length) 1) then
 ((bA N (r1++r2) [m.Slot]).bind fun r4 =>
 ((fQ N m.bR).bind fun r5 =>
 (bif (dG ((r4).length+(r5).length) 1) then
 (some (r4++r5))
 else none)))
 else none)
 else
 (bif (m.Kind==3) then
 (bif (dG ((r1).length+(r2).length) 1) then
 ((fQ N m.bR).bind fun r6 =>
 (bif (dG (((r1++r2)).length+(r6).length) 1) then
 (some ((r1++r2)++r6))
 else none))
 else none)
 else
 (bif (m.Kind==5) then
 (bif (dG ((r1).length+(r2).length) 1) then
 (some (r1++r2))
 else none)
 else
 (bif (m.Kind==6) then
 ((fQ N m.bR).bind fun r7 =>
 (bif (dG ((r1).length+(r7).length) 1) then
 (some (r1++r7))
 else none))
 else
 (bif (m.Kind==8) then
 ((bA N r1 [m.Slot]).bind fun r8 =>
 (some r8))
 else
 (bif (m.Kind==9) then
 ((kF N m.Entry).bind fun r9 =>
 (bif (dG ((r1).length+(r9).length) 1) then
 (some (r1++r9))
 else none))
 else
 (bif (m.Kind==10) then
 ((bA N r1 [m.Number]).bind fun Nn =>
 ((eV N m.aH).bind fun Vl =>
 (bif (dG ((Nn).length+(Vl).length) 1) then
 ((bA N (Nn++Vl) [m.bH]).bind fun Tt =>
 (some Tt))
 else none)))
 else
 (bif (m.Kind==11) then
 ((bA N r1 [m.Number,m.Origin,m.Slot]).bind fun EJ =>
 ((rQ N m.fP).bind fun JX =>
 (bif (dG ((EJ).length+(JX).length) 1) then
 (some (EJ++JX))
 else none)))
 else
 (bif (m.Kind==12) then
 ((mU N m.aY).bind fun Ci =>
 (bif (dG ((r1).length+(Ci).length) 1) then
 (some (r1++Ci))
 else none))
 else
 (bif (m.Kind==13) then
 ((iV N m.Part).bind fun Jh =>
 (bif (dG ((r1).length+(Jh).length) 1) then
 (some (r1++Jh))
 else none))
 else
 (bif (m.Kind==14) then
 ((bA N r1 [m.Number]).bind fun Kc =>
 ((eV N m.aH).bind fun j7 =>
 (bif (dG ((Kc).length+(j7).length) 1) then
 (some (Kc++j7))
 else none)))
 else
 ((bA N r1 [m.Slot]).bind fun R5 =>
 ((iV N m.Part).bind fun fh =>
 (bif (dG ((R5).length+(fh).length) 1) then
 (some (R5++fh))
 else none)))))))))))))))
 else
 (bif (m.Kind==4) then
 (bif (m.Kind==4) then
 (bif (dG ((r1).length+(r2).length) 1) then
 ((bA N (r1++r2) [m.Slot]).bind fun fj =>
 (some fj))
 else none)
 else
 (bif (m.Kind==2) then
 (bif (dG ((r1).length+(r2).length) 1) then
 ((bA N (r1++r2) [m.Slot]).bind fun V5 =>
 ((fQ N m.bR).bind fun QV =>
 (bif (dG ((V5).length+(QV).length) 1) then
 (some (V5++QV))
 else none)))
 else none)
 else
 (bif (m.Kind==3) then
 (bif (dG ((r1).length+(r2).length) 1) then
 ((fQ N m.bR).bind fun kr =>
 (bif (dG (((r1++r2)).length+(kr).length) 1) then
 (some ((r1++r2)++kr))
 else none))
 else none)
 else
 (bif (m.Kind==5) then
 (bif (dG ((r1).length+(r2).length) 1) then
 (some (r1++r2))
 else none)
 else
 (bif (m.Kind==6) then
 ((fQ N m.bR).bind fun cl =>
 (bif (dG ((r1).length+(cl).length) 1) then
 (some (r1++cl))
 else none))
 else
 (bif (m.Kind==8) then
 ((bA N r1 [m.Slot]).bind fun qf =>
 (some qf))
 else
 (bif (m.Kind==9) then
 ((kF N m.Entry).bind fun fk =>
 (bif (dG ((r1).length+(fk).length) 1) then
 (some (r1++fk))
 else none))
 else
 (bif (m.Kind==10) then
 ((bA N r1 [m.Number]).bind fun QW =>
 ((eV N m.aH).bind fun qg =>
 (bif (dG ((QW).length+(qg).length) 1) then
 ((bA N (QW++qg) [m.bH]).bind fun uv =>
 (some uv))
 else none)))
 else
 (bif (m.Kind==11) then
 ((bA N r1 [m.Number,m.Origin,m.Slot]).bind fun V6 =>
 ((rQ N m.fP).bind fun fm =>
 (bif (dG ((V6).length+(fm).length) 1) then
 (some (V6++fm))
 else none)))
 else
 (bif (m.Kind==12) then
 ((mU N m.aY).bind fun qh =>
 (bif (dG ((r1).length+(qh).length) 1) then
 (some (r1++qh))
 else none))
 else
 (bif (m.Kind==13) then
 ((iV N m.Part).bind fun qi =>
 (bif (dG ((r1).length+(qi).length) 1) then
 (some (r1++qi))
 else none))
 else
 (bif (m.Kind==14) then
 ((bA N r1 [m.Number]).bind fun r35 =>
 ((eV N m.aH).bind fun wx =>
 (bif (dG ((r35).length+(wx).length) 1) then
 (some (r35++wx))
 else none)))
 else
 ((bA N r1 [m.Slot]).bind fun r37 =>
 ((iV N m.Part).bind fun r38 =>
 (bif (dG ((r37).length+(r38).length) 1) then
 (some (r37++r38))
 else none)))))))))))))))
 else
 (bif (m.Kind==7) then
 (bif (dG ((r1).length+(r2).length) 1) then
 ((bA N (r1++r2) [m.Slot]).bind fun r39 =>
 (some r39))
 else none)
 else
 (bif (m.Kind==2) then
 (bif (dG ((r1).length+(r2).length) 1) then
 ((bA N (r1++r2) [m.Slot]).bind fun r40 =>
 ((fQ N m.bR).bind fun s7 =>
 (bif (dG ((r40).length+(s7).length) 1) then
 (some (r40++s7))
 else none)))
 else none)
 else
 (bif (m.Kind==3) then
 (bif (dG ((r1).length+(r2).length) 1) then
 ((fQ N m.bR).bind fun r42 =>
 (bif (dG (((r1++r2)).length+(r42).length) 1) then
 (some ((r1++r2)++r42))
 else none))
 else none)
 else
 (bif (m.Kind==5) then
 (bif (dG ((r1).length+(r2).length) 1) then
 (some (r1++r2))
 else none)
 else
 (bif (m.Kind==6) then
 ((fQ N m.bR).bind fun r43 =>
 (bif (dG ((r1).length+(r43).length) 1) then
 (some (r1++r43))
 else none))
 else
 (bif (m.Kind==8) then
 ((bA N r1 [m.Slot]).bind fun r44 =>
 (some r44))
 else
 (bif (m.Kind==9) then
 ((kF N m.Entry).bind fun r45 =>
 (bif (dG ((r1).length+(r45).length) 1) then
 (some (r1++r45))
 else none))
 else
 (bif (m.Kind==10) then
 ((bA N r1 [m.Number]).bind fun r46 =>
 ((eV N m.aH).bind fun s8 =>
 (bif (dG ((r46).length+(s8).length) 1) then
 ((bA N (r46++s8) [m.bH]).bind fun r48 =>
 (some r48))
 else none)))
 else
 (bif (m.Kind==11) then
 ((bA N r1 [m.Number,m.Origin,m.Slot]).bind fun r49 =>
 ((rQ N m.fP).bind fun r50 =>
 (bif (dG ((r49).length+(r50).length) 1) then
 (some (r49++r50))
 else none)))
 else
 (bif (m.Kind==12) then
 ((mU N m.aY).bind fun r51 =>
 (bif (dG ((r1).length+(r51).length) 1) then
 (some (r1++r51))
 else none))
 else
 (bif (m.Kind==13) then
 ((iV N m.Part).bind fun s9 =>
 (bif (dG ((r1).length+(s9).length) 1) then
 (some (r1++s9))
 else none))
 else
 (bif (m.Kind==14) then
 ((bA N r1 [m.Number]).bind fun r53 =>
 ((eV N m.aH).bind fun r54 =>
 (bif (dG ((r53).length+(r54).length) 1) then
 (some (r53++r54))
 else none)))
 else
 ((bA N r1 [m.Slot]).bind fun r55 =>
 ((iV N m.Part).bind fun r56 =>
 (bif (dG ((r55).length+(r56).length) 1) then
 (some (r55++r56))
 else none)))))))))))))))))))
def Kk:dL τ:=cn [.ty 43] [] (.ty 37) [] (fun N a b=>Ho N a.1) fun r=>(r,())
theorem WN:aR E C 29 Kk:=gQ Kk [(67,iY),(67,nA),(68,Ie),(69,xQ),(70,pP),(71,Cq),(72,xR),(73,Am)] [] 0 [] [] ⟨pE,⟨yS,⟨SM,⟨Vi,⟨Ga,⟨DJ,⟨Vj,⟨Yv,trivial⟩⟩⟩⟩⟩⟩⟩⟩ (fun a b=>a) Tryz.func29 rfl (by intro N a b;kernel_rfl)
structure Cm where
 sum:Int
 i:Int
def Xs:List Sl:=[.k,.k,.k,.sh (.ty 138),.sh (.ty 2),.j,.j,.j,.j,.j,.j,.j,.j,.j,.j,.j,.j,.j,.j,.j,.j,.j,.j,.j,.j,.j,.j,.j,.j,.j,.j,.k,.k]
def Wd:List bZ:=[]
def C7 (a:Sl.Ts τ Xs)(b:bZ.Ts τ Wd):Cm:=⟨a.2.2.2.1,a.2.2.2.2.1⟩
def B3 (s:Cm):Sl.Ts τ Xs:=((),(),(),s.sum,s.i,(),(),(),(),(),(),(),(),(),(),(),(),(),(),(),(),(),(),(),(),(),(),(),(),(),(),(),(),())
def A4 (s:Cm):bZ.Ts τ Wd:=()
def z5:Lp τ:={ ts:=Xs,hs:=Wd,S:=Cm,to:=C7,ot:=B3,oh:=A4,hk:=[],tk:=[],eZ:=fun _ _=>rfl,eX:=fun _ _=>rfl }
structure xJ where
 sum:Int
 k:Int
def Xt:List Sl:=[.k,.k,.k,.sh (.ty 138),.k,.sh (.ty 2),.k,.k,.k,.k,.k,.k,.k,.k,.k,.k,.k,.k,.k,.j,.j,.j,.j,.j,.j,.j,.j,.j,.j,.j,.j,.k,.k]
def We:List bZ:=[]
def C8 (a:Sl.Ts τ Xt)(b:bZ.Ts τ We):xJ:=⟨a.2.2.2.1,a.2.2.2.2.2.1⟩
def B4 (s:xJ):Sl.Ts τ Xt:=((),(),(),s.sum,(),s.k,(),(),(),(),(),(),(),(),(),(),(),(),(),(),(),(),(),(),(),(),(),(),(),(),(),(),(),())
def A5 (s:xJ):bZ.Ts τ We:=()
def z6:Lp τ:={ ts:=Xt,hs:=We,S:=xJ,to:=C8,ot:=B4,oh:=A5,hk:=[],tk:=[],eZ:=fun _ _=>rfl,eX:=fun _ _=>rfl }
def Zu (N:Nat)(b:List (Int)):Option (Int) :=
 (iter N (fun (s1:Cm) dK =>
 (bif (decide (s1.i < ((b).length:Int))) then
 (bif (nI s1.i ((b).length:Int)) then
 (iter N (fun (s3:xJ) Iw =>
 (bif (decide (s3.k < 8)) then
 (bif ((Int.tmod s3.sum 2)==1) then
 (Iw ⟨(bits .xor .u32 (IntKind.u32.wrap (Int.tdiv s3.sum 2)) 3988292384),(IntKind.i64.wrap (s3.k+1))⟩)
 else
 (Iw ⟨(IntKind.u32.wrap (Int.tdiv s3.sum 2)),(IntKind.i64.wrap (s3.k+1))⟩))
 else
 (dK ⟨s3.sum,(IntKind.i64.wrap (s1.i+1))⟩))) ⟨(bits .xor .u32 s1.sum (IntKind.u32.wrap (aE b s1.i default))),0⟩)
 else none)
 else
 (some (bits .xor .u32 IntKind.u32.max s1.sum)))) ⟨4294967295,0⟩)
def AE:dL τ:=cn [.ty 37] [] (.ty 138) [] (fun N a b=>Zu N a.1) fun r=>(r,())
theorem bq:aR E C 74 AE:=gQ AE [] [(3,z5),(7,z6)] 0 [] [] trivial (fun a b=>a) Tryz.func74 rfl (by intro N a b;kernel_rfl)
def Om (N:Nat)(b:List (Int)):Option ((List (Int))×Int) :=
 (bif (decide (1048576 < ((b).length:Int))) then
 (some ([],3))
 else
 ((Zu N b).bind fun r1 =>
 ((uI N b).bind fun r2 =>
 (bif (dG ((r2).length+([(IntKind.u8.wrap r1),(IntKind.u8.wrap (shr .u32 r1 8)),(IntKind.u8.wrap (shr .u32 r1 16)),(IntKind.u8.wrap (shr .u32 r1 24))]).length) 1) then
 (some ((r2++[(IntKind.u8.wrap r1),(IntKind.u8.wrap (shr .u32 r1 8)),(IntKind.u8.wrap (shr .u32 r1 16)),(IntKind.u8.wrap (shr .u32 r1 24))]),0))
 else none))))
def Rg:dL τ:=cn [.ty 37] [] (.jE [.ty 37,.ty 48]) [] (fun N a b=>Om N a.1) fun r=>((r.1,r.2,()),())
theorem B0:aR E C 30 Rg:=gQ Rg [(74,AE),(75,Bo)] [] 0 [] [] ⟨bq,⟨Xf,trivial⟩⟩ (fun a b=>(a.1,a.2.1)) Tryz.func30 rfl (by intro N a b;kernel_rfl)
def Ax (N:Nat)(m:aN):Option ((List (Int))×Int) :=
 ((Ea N m).bind fun r1 =>
 (bif (!r1) then
 (some ([],40))
 else
 ((Ho N m).bind fun r2 =>
 (bif (decide (1048576 < ((r2).length:Int))) then
 (some ([],3))
 else
 ((Om N r2).bind fun r3 =>
 (some (r3.1,r3.2)))))))
def Ki:dL τ:=cn [.ty 43] [] (.jE [.ty 37,.ty 48]) [] (fun N a b=>Ax N a.1) fun r=>((r.1,r.2,()),())
theorem WL:aR E C 11 Ki:=gQ Ki [(28,Mn),(29,Kk),(30,Rg)] [] 0 [] [] ⟨c8,⟨WN,⟨B0,trivial⟩⟩⟩ (fun a b=>(a.1,a.2.1)) Tryz.func11 rfl (by intro N a b;kernel_rfl)
structure mP where
 many:Int
 i:Int
 b0:Nat
 yJ:Int
 g1:List (eW)
def yH:List Sl:=[.k,.k,.k,.k,.k,.sh (.ty 2),.sh (.ty 2),.j,.j,.j,.j,.j,.j,.j,.j,.j,.j,.j,.j,.j,.j,.j,.j,.j,.j,.j,.j,.j,.j,.j,.j,.j,.j,.j,.j,.j,.j,.j,.j,.j,.j,.j,.j,.j,.j,.j,.j,.j,.j,.j,.j,.j,.j,.j,.j,.j,.j,.j,.j,.j,.j,.j,.j,.j,.j,.j,.j,.k]
def yA:List bZ:=[.box (.agg [.mS 65 1,.ty 2]),.eD 65]
def CV (a:Sl.Ts τ yH)(b:bZ.Ts τ yA):mP:=⟨a.2.2.2.2.2.1,a.2.2.2.2.2.2.1,b.1.1,b.1.2.1,b.2.1⟩
def CC (s:mP):Sl.Ts τ yH:=((),(),(),(),(),s.many,s.i,(),(),(),(),(),(),(),(),(),(),(),(),(),(),(),(),(),(),(),(),(),(),(),(),(),(),(),(),(),(),(),(),(),(),(),(),(),(),(),(),(),(),(),(),(),(),(),(),(),(),(),(),(),(),(),(),(),(),(),(),(),())
def BK (s:mP):bZ.Ts τ yA:=((s.b0,s.yJ,()),s.g1,())
def BE:Lp τ:={ ts:=yH,hs:=yA,S:=mP,to:=CV,ot:=CC,oh:=BK,hk:=[2],tk:=[2],eZ:=fun _ _=>rfl,eX:=fun _ _=>rfl }
def pM (N:Nat)(l:List (aN))(b0:Int):Option (Int×Nat×Int×(List (eW))) :=
 (iter N (fun (s1:mP) dK =>
 (bif (decide (s1.i < ((l).length:Int))) then
 (bif (nI s1.i ((l).length:Int)) then
 ((Ax N (⟨(aE l s1.i default).Kind,((aE l s1.i default).aS),((aE l s1.i default).To),((aE l s1.i default).aG),(aE l s1.i default).Slot,(aE l s1.i default).bR,(⟨((aE l s1.i default).Entry).Kind,((aE l s1.i default).Entry).cE,((aE l s1.i default).Entry).Request,(⟨((((aE l s1.i default).Entry).Op).cG),(((aE l s1.i default).Entry).Op).Kind,(((aE l s1.i default).Entry).Op).Node,(((aE l s1.i default).Entry).Op).cY,(((aE l s1.i default).Entry).Op).Name,(((aE l s1.i default).Entry).Op).Key,(((aE l s1.i default).Entry).Op).Value⟩:dP),((aE l s1.i default).Entry).Origin,((aE l s1.i default).Entry).Seq,((aE l s1.i default).Entry).fP,(((aE l s1.i default).Entry).aY),((aE l s1.i default).Entry).aS,((aE l s1.i default).Entry).aH,((aE l s1.i default).Entry).bH,(((aE l s1.i default).Entry).Part),((aE l s1.i default).Entry).Site,((aE l s1.i default).Entry).aV,((aE l s1.i default).Entry).Length⟩:aB),(aE l s1.i default).Number,(aE l s1.i default).aH,(aE l s1.i default).bH,(aE l s1.i default).Origin,(aE l s1.i default).fP,((aE l s1.i default).aY),((aE l s1.i default).Part)⟩:aN)).bind fun r3 =>
 (bif ((r3.2==0)&&(decide (((s1.b0:Nat):Int) < 16384))) then
 (bif (nI s1.i ((l).length:Int)) then
 (bif (nI s1.i ((l).length:Int)) then
 (bif ((dG (s1.b0+([(⟨(IntKind.i64.wrap (s1.yJ+1)),((aE l s1.i default).aS),((aE l s1.i default).To),r3.1⟩:eW)]).length) 64)&&(Nat.ble s1.b0 (s1.g1).length)) then
 (dK ⟨(IntKind.i64.wrap (s1.many+1)),(IntKind.i64.wrap (s1.i+1)),(s1.b0+([(⟨(IntKind.i64.wrap (s1.yJ+1)),((aE l s1.i default).aS),((aE l s1.i default).To),r3.1⟩:eW)]).length),(IntKind.i64.wrap (s1.yJ+1)),(s1.g1.take s1.b0++[(⟨(IntKind.i64.wrap (s1.yJ+1)),((aE l s1.i default).aS),((aE l s1.i default).To),r3.1⟩:eW)])⟩)
 else none)
 else none)
 else none)
 else
 (dK ⟨s1.many,(IntKind.i64.wrap (s1.i+1)),s1.b0,s1.yJ,s1.g1⟩)))
 else none)
 else
 (some (s1.many,s1.b0,s1.yJ,s1.g1)))) ⟨0,0,0,b0,[]⟩)
def zS:dL τ:=cn [.ptr 0 [],.ty 59] [.box (.agg [.nil .slice,.ty 2])] (.ty 3) [.box (.agg [.mS 65 1,.ty 2]),.eD 65] (fun N a b=>pM N a.2.1 b.1.2.1) fun r=>(r.1,((r.2.1,r.2.2.1,()),r.2.2.2,()))
theorem GQ:aR E C 41 zS:=gQ zS [(11,Ki)] [(3,BE)] 1 [62] [] ⟨WL,trivial⟩ (fun a b=>(a,b.1.1,b.1.2.1,b.2.1)) Tryz.func41 rfl (by intro N a b;kernel_rfl)
structure mQ where
 i:Int
def yI:List Sl:=[.k,.k,.k,.k,.j,.j,.sh (.ty 2),.j,.j,.j,.j,.j,.j,.j,.j,.j,.j,.j,.j,.j,.j,.j,.j,.j,.j,.j,.j]
def yB:List bZ:=[.iO]
def CX (a:Sl.Ts τ yI)(b:bZ.Ts τ yB):mQ:=⟨a.2.2.2.2.2.2.1⟩
def CD (s:mQ):Sl.Ts τ yI:=((),(),(),(),(),(),s.i,(),(),(),(),(),(),(),(),(),(),(),(),(),(),(),(),(),(),(),(),())
def BL (s:mQ):bZ.Ts τ yB:=((),())
def BF:Lp τ:={ ts:=yI,hs:=yB,S:=mQ,to:=CX,ot:=CD,oh:=BL,hk:=[2],tk:=[2],eZ:=fun _ _=>rfl,eX:=fun _ _=>rfl }
def lU (N:Nat)(number:Int)(b0:Int):Option (Int×Bool×Int) :=
 (iter N (fun (s1:mQ) dK =>
 (bif (decide (s1.i < 0)) then
 none
 else
 (some (0,false,b0)))) ⟨0⟩)
def jO:dL τ:=cn [.ptr 0 [],.ty 2] [.box (.agg [.nil .slice,.ty 2])] (.jE [.ty 3,.ty 4]) [.box (.agg [.nil .slice,.ty 2])] (fun N a b=>lU N a.2.1 b.1.2.1) fun r=>((r.1,r.2.1,()),(((),r.2.2,()),()))
theorem uV:aR E C 84 jO:=gQ jO [] [(2,BF)] 1 [] [] trivial (fun a b=>(a.1,a.2.1,b.1.2.1)) Tryz.func84 rfl (by intro N a b;kernel_rfl)
def vR (N:Nat)(number:Int)(b0:Int):Option (aN×Int×Int) :=
 ((lU N number b0).bind fun r1 =>
 (bif (!r1.2.1) then
 (some ((⟨0,(⟨0,0⟩:bV),(⟨0,0⟩:bV),(⟨0,0⟩:aT),0,[],(⟨0,0,0,(⟨(⟨0,0⟩:bB),0,0,0,[],[],[]⟩:dP),0,0,[],(⟨0,(Vector.replicate 8 (default:Int)),(Vector.replicate 8 (default:Int)),(Vector.replicate 8 (default:Int))⟩:aD),0,(Vector.replicate 8 (default:Int)),0,(⟨0,0,0,[]⟩:aK),0,0,0⟩:aB),0,(Vector.replicate 8 (default:Int)),0,0,[],(⟨0,(Vector.replicate 8 (default:Int)),(Vector.replicate 8 (default:Int)),(Vector.replicate 8 (default:Int))⟩:aD),(⟨0,0,0,[]⟩:aK)⟩:aN),4,r1.2.2))
 else
 none))
def zT:dL τ:=cn [.ptr 0 [],.ty 2] [.box (.agg [.nil .slice,.ty 2])] (.jE [.ty 43,.ty 48]) [.box (.agg [.nil .slice,.ty 2])] (fun N a b=>vR N a.2.1 b.1.2.1) fun r=>((r.1,r.2.1,()),(((),r.2.2,()),()))
theorem GR:aR E C 42 zT:=gQ zT [(84,jO)] [] 1 [] [] ⟨uV,trivial⟩ (fun a b=>(a.1,a.2.1,b.1.2.1)) Tryz.func42 rfl (by intro N a b;kernel_rfl)
def hY (N:Nat)(number:Int)(b0:Nat)(yJ:Int)(Xz:Bool)(g1:List (bJ))(ms:List (Option (List (Int)))):Option (Int×Int×Nat×Int×Bool×(List (Option (List (Int))))×(List (bJ))) :=
 ((jU N number b0 yJ Xz g1 ms).bind fun r1 =>
 (bif (!(r1.2.1==0)) then
 (some (0,r1.2.1,r1.2.2.1,r1.2.2.2.1,r1.2.2.2.2.1,r1.2.2.2.2.2.2,r1.2.2.2.2.2.1))
 else
 (bif (decide (16384≤((r1.2.2.1:Nat):Int))) then
 (some (0,6,r1.2.2.1,r1.2.2.2.1,r1.2.2.2.2.1,r1.2.2.2.2.2.2,r1.2.2.2.2.2.1))
 else
 (bif (nI r1.1 ((r1.2.2.1:Nat):Int)) then
 (bif (decide ((r1.1).toNat < (r1.2.2.2.2.2.1).length)) then
 ((kY N (((r1.2.2.2.2.2.1.getD ((r1.1).toNat) default).Data).o) (((r1.2.2.2.2.2.1.getD ((r1.1).toNat) default).Data).n) (((r1.2.2.2.2.2.1.getD ((r1.1).toNat) default).Data).c) (((r1.2.2.2.2.2.1.getD ((r1.1).toNat) default).Data).nn) (Kx r1.2.2.2.2.2.2 (((r1.2.2.2.2.2.1.getD ((r1.1).toNat) default).Data).j))).bind fun r2 =>
 (bif (EI r1.2.2.2.2.2.2 (((r1.2.2.2.2.2.1.getD ((r1.1).toNat) default).Data).j)) then
 ((pK N ((r1.2.2.2.2.2.1.getD ((r1.1).toNat) default).aS) ((r1.2.2.2.2.2.1.getD ((r1.1).toNat) default).To) (⟨(((As r1.2.2.2.2.2.2 (((r1.2.2.2.2.2.1.getD ((r1.1).toNat) default).Data).j) (some r2.2.1))).length+1),0,r2.1,r2.1,false⟩:Hd) r1.2.2.1 r1.2.2.2.1 r1.2.2.2.2.1 r1.2.2.2.2.2.1 ((As r1.2.2.2.2.2.2 (((r1.2.2.2.2.2.1.getD ((r1.1).toNat) default).Data).j) (some r2.2.1))++[some r2.2.2])).bind fun r3 =>
 (some (r3.1,0,r3.2.1,r3.2.2.1,r3.2.2.2.1,r3.2.2.2.2.1,r3.2.2.2.2.2)))
 else none))
 else none)
 else none))))
def zN:dL τ:=cn [.ptr 0 [],.ty 2] [.box (.agg [.agg [.mS 20065 1,.ty 2],.ty 4]),.eD 20065,.aX 5] (.jE [.ty 2,.ty 48]) [.box (.agg [.agg [.mS 20065 3,.ty 2],.ty 4]),.dead,.aX 5,.eD 20065] (fun N a b=>hY N a.2.1 b.1.1.1 b.1.1.2.1 b.1.2.1 b.2.1 b.2.2.1) fun r=>((r.1,r.2.1,()),(((r.2.2.1,r.2.2.2.1,()),r.2.2.2.2.1,()),(),r.2.2.2.2.2.1,r.2.2.2.2.2.2,()))
theorem GI:aR E C 17 zN:=WK zN [(31,oP),(40,nO),(27,sP)] [] 3 [] [] [42] [] [42] ⟨Cv,⟨Hb,⟨Ma,trivial⟩⟩⟩ (fun a b=>(a.1,a.2.1,b.1.1.1,b.1.1.2.1,b.1.2.1,b.2.2.1,b.2.2.2.1)) Tryz.func17 rfl (by intro N a b;kernel_rfl)
def sL (N:Nat)(number:Int)(b0:Int):Option (Int×Int×Int) :=
 ((lU N number b0).bind fun r1 =>
 (bif (!r1.2.1) then
 (some (0,4,r1.2.2))
 else
 none))
def wN:dL τ:=cn [.ptr 0 [],.ty 2] [.box (.agg [.nil .slice,.ty 2])] (.jE [.ty 2,.ty 48]) [.box (.agg [.nil .slice,.ty 2])] (fun N a b=>sL N a.2.1 b.1.2.1) fun r=>((r.1,r.2.1,()),(((),r.2.2,()),()))
theorem BQ:aR E C 43 wN:=gQ wN [(84,jO)] [] 1 [49] [] ⟨uV,trivial⟩ (fun a b=>(a.1,a.2.1,b.1.2.1)) Tryz.func43 rfl (by intro N a b;kernel_rfl)
def Oa (N:Nat)(i:Int)(b0:Int):Option (Nat×Int×(List (eW))) :=
 (bif (i==0) then
 (bif (((IntKind.i64.wrap (i+1))==0)&&true) then
 (bif (Nat.ble 0 (([]:List (eW))).length) then
 (some (0,b0,(([]:List (eW)).take 0++([]:List (eW)))))
 else none)
 else none)
 else none)
def zU:dL τ:=cn [.ptr 0 [],.ty 3] [.box (.agg [.nil .slice,.ty 2])] (.jE []) [.box (.agg [.mS 65 1,.ty 2]),.eD 65] (fun N a b=>Oa N a.2.1 b.1.2.1) fun r=>((),((r.1,r.2.1,()),r.2.2,()))
theorem GS:aR E C 85 zU:=gQ zU [] [] 1 [12,22] [] trivial (fun a b=>(b.1.1,b.1.2.1,b.2.1)) Tryz.func85 rfl (by intro N a b;kernel_rfl)
def vQ (N:Nat)(number:Int)(b0:Int):Option (Int×Nat×Int×(List (eW))) :=
 ((lU N number b0).bind fun r1 =>
 (bif (!r1.2.1) then
 (some (4,0,r1.2.2,[]))
 else
 ((Oa N r1.1 r1.2.2).bind fun r2 =>
 (some (0,r2.1,r2.2.1,r2.2.2)))))
def zQ:dL τ:=cn [.ptr 0 [],.ty 2] [.box (.agg [.nil .slice,.ty 2])] (.ty 48) [.box (.agg [.mS 65 1,.ty 2]),.eD 65] (fun N a b=>vQ N a.2.1 b.1.2.1) fun r=>(r.1,((r.2.1,r.2.2.1,()),r.2.2.2,()))
theorem GO:aR E C 44 zQ:=gQ zQ [(84,jO),(85,zU)] [] 1 [] [] ⟨uV,⟨GS,trivial⟩⟩ (fun a b=>(a,b.1.1,b.1.2.1,b.2.1)) Tryz.func44 rfl (by intro N a b;kernel_rfl)
def iQ (N:Nat)(number:Int)(at_:Int)(with_:Int)(b0:Nat)(yJ:Int)(Xz:Bool)(g1:List (bJ))(ms:List (Option (List (Int)))):Option (Int×Nat×Int×Bool×(List (bJ))×(List (Option (List (Int))))) :=
 ((jU N number b0 yJ Xz g1 ms).bind fun r1 =>
 (bif (!(r1.2.1==0)) then
 (some (r1.2.1,r1.2.2.1,r1.2.2.2.1,r1.2.2.2.2.1,r1.2.2.2.2.2.1,r1.2.2.2.2.2.2))
 else
 (bif (!(!(decide (at_ < 0))) || (nI r1.1 ((r1.2.2.1:Nat):Int))) then
 (bif (!(!(decide (at_ < 0))) || (decide ((r1.1).toNat < (r1.2.2.2.2.2.1).length))) then
 (bif (!(decide (at_ < 0))) then
 (bif (EI r1.2.2.2.2.2.2 (((r1.2.2.2.2.2.1.getD ((r1.1).toNat) default).Data).j)) then
 (bif ((decide (at_ < 0)) || (decide (((((r1.2.2.2.2.2.1.getD ((r1.1).toNat) default).Data).n:Nat):Int)≤at_))) then
 (some (1,r1.2.2.1,r1.2.2.2.1,r1.2.2.2.2.1,r1.2.2.2.2.2.1,r1.2.2.2.2.2.2))
 else
 (bif (nI r1.1 ((r1.2.2.1:Nat):Int)) then
 (bif (decide ((r1.1).toNat < (r1.2.2.2.2.2.1).length)) then
 (bif ((nI at_ ((((r1.2.2.2.2.2.1.getD ((r1.1).toNat) default).Data).n:Nat):Int))&&(EI r1.2.2.2.2.2.2 (((r1.2.2.2.2.2.1.getD ((r1.1).toNat) default).Data).j))) then
 (bif ((decide ((((r1.2.2.2.2.2.1.getD ((r1.1).toNat) default).Data).o+(at_).toNat) < ((Kx r1.2.2.2.2.2.2 (((r1.2.2.2.2.2.1.getD ((r1.1).toNat) default).Data).j))).length))&&(EI r1.2.2.2.2.2.2 (((r1.2.2.2.2.2.1.getD ((r1.1).toNat) default).Data).j))) then
 (bif ((nI at_ ((((r1.2.2.2.2.2.1.getD ((r1.1).toNat) default).Data).n:Nat):Int))&&(EI r1.2.2.2.2.2.2 (((r1.2.2.2.2.2.1.getD ((r1.1).toNat) default).Data).j))) then
 (bif ((decide ((((r1.2.2.2.2.2.1.getD ((r1.1).toNat) default).Data).o+(at_).toNat) < ((Kx r1.2.2.2.2.2.2 (((r1.2.2.2.2.2.1.getD ((r1.1).toNat) default).Data).j))).length))&&(EI r1.2.2.2.2.2.2 (((r1.2.2.2.2.2.1.getD ((r1.1).toNat) default).Data).j))) then
 (some (0,r1.2.2.1,r1.2.2.2.1,r1.2.2.2.2.1,r1.2.2.2.2.2.1,(As r1.2.2.2.2.2.2 (((r1.2.2.2.2.2.1.getD ((r1.1).toNat) default).Data).j) (some ((Kx r1.2.2.2.2.2.2 (((r1.2.2.2.2.2.1.getD ((r1.1).toNat) default).Data).j)).set (((r1.2.2.2.2.2.1.getD ((r1.1).toNat) default).Data).o+(at_).toNat) (bits .xor .u8 ((Kx r1.2.2.2.2.2.2 (((r1.2.2.2.2.2.1.getD ((r1.1).toNat) default).Data).j)).getD (((r1.2.2.2.2.2.1.getD ((r1.1).toNat) default).Data).o+(at_).toNat) default) with_))))))
 else none)
 else none)
 else none)
 else none)
 else none)
 else none))
 else none)
 else
 (some (1,r1.2.2.1,r1.2.2.2.1,r1.2.2.2.2.1,r1.2.2.2.2.2.1,r1.2.2.2.2.2.2)))
 else none)
 else none)))
def Bl:dL τ:=cn [.ptr 0 [],.ty 2,.ty 3,.ty 5] [.box (.agg [.agg [.mS 20065 1,.ty 2],.ty 4]),.eD 20065,.aX 5] (.ty 48) [.box (.agg [.agg [.mS 20065 1,.ty 2],.ty 4]),.eD 20065,.aX 5] (fun N a b=>iQ N a.2.1 a.2.2.1 a.2.2.2.1 b.1.1.1 b.1.1.2.1 b.1.2.1 b.2.1 b.2.2.1) fun r=>(r.1,(((r.2.1,r.2.2.1,()),r.2.2.2.1,()),r.2.2.2.2.1,r.2.2.2.2.2,()))
theorem JM:aR E C 12 Bl:=WK Bl [(31,oP)] [] 3 [] [] [] [] [] ⟨Cv,trivial⟩ (fun a b=>(a,b.1.1.1,b.1.1.2.1,b.1.2.1,b.2.1,b.2.2.1)) Tryz.func12 rfl (by intro N a b;kernel_rfl)
def uJ (N:Nat)(number:Int)(at_:Int)(with_:Int)(b0:Int)(ms:List (Option (List (Int)))):Option (Int×Int×(List (Option (List (Int))))) :=
 ((lU N number b0).bind fun r1 =>
 (bif (!r1.2.1) then
 (some (4,r1.2.2,ms))
 else
 (bif (!(!(decide (at_ < 0))) || false) then
 (bif (!(decide (at_ < 0))) then
 none
 else
 (some (1,r1.2.2,ms)))
 else none)))
def xP:dL τ:=cn [.ptr 0 [],.ty 2,.ty 3,.ty 5] [.box (.agg [.nil .slice,.ty 2]),.aX 5] (.ty 48) [.box (.agg [.nil .slice,.ty 2]),.aX 5] (fun N a b=>uJ N a.2.1 a.2.2.1 a.2.2.2.1 b.1.2.1 b.2.1) fun r=>(r.1,(((),r.2.1,()),r.2.2,()))
theorem EB:aR E C 45 xP:=WK xP [(84,jO)] [] 2 [44] [] [44] [50,57] [] ⟨uV,trivial⟩ (fun a b=>(a,b.1.2.1,b.2.1)) Tryz.func45 rfl (by intro N a b;kernel_rfl)
structure nY where
 t8:Int
def Ad:List Sl:=[.k,.k,.k,.k,.j,.j,.k,.k,.sh (.ty 2),.j,.j,.j,.j,.j,.j,.j,.j,.j,.j]
def zZ:List bZ:=[.iO]
def EM (a:Sl.Ts τ Ad)(b:bZ.Ts τ zZ):nY:=⟨a.2.2.2.2.2.2.2.2.1⟩
def EH (s:nY):Sl.Ts τ Ad:=((),(),(),(),(),(),(),(),s.t8,(),(),(),(),(),(),(),(),(),(),())
def DZ (s:nY):bZ.Ts τ zZ:=((),())
def DW:Lp τ:={ ts:=Ad,hs:=zZ,S:=nY,to:=EM,ot:=EH,oh:=DZ,hk:=[2],tk:=[0,0,0,2],eZ:=fun _ _=>rfl,eX:=fun _ _=>rfl }
def xI (N:Nat)(s:List (bV))(v:bV):Option (Int) :=
 (iter N (fun (s1:nY) dK =>
 (bif (decide (s1.t8 < ((s).length:Int))) then
 (bif (nI s1.t8 ((s).length:Int)) then
 (bif ((v.cR==((aE s s1.t8 default).cR))&&(v.aJ==((aE s s1.t8 default).aJ))) then
 (some s1.t8)
 else
 (dK ⟨(IntKind.i64.wrap (s1.t8+1))⟩))
 else none)
 else
 (some (-1)))) ⟨0⟩)
def Br:dL τ:=cn [.ty 70,.ty 23] [] (.ty 3) [] (fun N a b=>xI N a.1 a.2.1) fun r=>(r,())
theorem JQ:aR E C 88 Br:=gQ Br [] [(2,DW)] 0 [] [] trivial (fun a b=>a) Tryz.func88 rfl (by intro N a b;kernel_rfl)
def mL (N:Nat)(s:List (bV))(v:bV):Option (Bool) :=
 ((xI N s v).bind fun r1 =>
 (some (decide (0≤r1))))
def wO:dL τ:=cn [.ty 70,.ty 23] [] (.ty 4) [] (fun N a b=>mL N a.1 a.2.1) fun r=>(r,())
theorem BS:aR E C 49 wO:=gQ wO [(88,Br)] [] 0 [] [] ⟨JQ,trivial⟩ (fun a b=>a) Tryz.func49 rfl (by intro N a b;kernel_rfl)
def jF (N:Nat)(s:bJ)(b0:List (bV))(ms:List (Option (List (Int)))):Option (Bool×(List (bV))×(List (Option (List (Int))))) :=
 ((mL N b0 s.aS).bind fun r1 =>
 ((bif (!r1) then mL N b0 s.To else some default).bind fun r2 =>
 (some ((r1 || r2),b0,ms))))
def sO:dL τ:=cn [.ty 20065,.ptr 0 []] [.box (.ty 70),.aX 5] (.ty 4) [.box (.ty 70),.aX 5] (fun N a b=>jF N a.1 b.1 b.2.1) fun r=>(r.1,(r.2.1,r.2.2,()))
theorem Lz:aR E C 48 sO:=WK sO [(49,wO)] [] 2 [] [] [] [] [] ⟨BS,trivial⟩ (fun a b=>(a,b.1,b.2.1)) Tryz.func48 rfl (by intro N a b;kernel_rfl)
end Go.Proofs.YtddpmkmgbdedlaaGreat
