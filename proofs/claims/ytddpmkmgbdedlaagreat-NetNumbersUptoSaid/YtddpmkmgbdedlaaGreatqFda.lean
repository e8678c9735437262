/-
The functions of this seat,as plain functions over typed data,each with its contract. Printed by wip/tools/fngen.py.
-/
import Derived.Test.YtddpmkmgbdedlaaGreatqCod
import Derived.Test.YtddpmkmgbdedlaaGreatqTvX
import Derived.KernelRfl
set_option linter.unusedVariables false
set_option maxRecDepth 100000
namespace Go.Proofs.YtddpmkmgbdedlaaGreat
open Go Go.Ev
def NR (N:Nat)  : Option (Nat×Int×Bool×(List (bJ))) :=
 (some (0,0,true,[]))
def AB:dL τ:=cn [] [] (.ptr 0 []) [.box (.agg [.agg [.mS 20065 1,.ty 2],.ty 4]),.eD 20065] (fun N a b=>NR N ) fun r=>((),(((r.1,r.2.1,()),r.2.2.1,()),r.2.2.2,()))
theorem H9:aR E C 8 AB:=gQ AB [] [] 0 [] [] trivial (fun a b=>(b.1.1.1,b.1.1.2.1,b.1.2.1,b.2.1)) Tryz.func8 rfl (by intro N a b;kernel_rfl)
def EO (N:Nat)(slot:Int):Option (aN) :=
 (some (⟨7,(⟨1,0⟩:bV),(⟨1,1⟩:bV),(⟨1,0⟩:aT),slot,[],(⟨0,0,0,(⟨(⟨0,0⟩:bB),0,0,0,[],[],[]⟩:dP),0,0,[],(⟨0,(Vector.replicate 8 (default:Int)),(Vector.replicate 8 (default:Int)),(Vector.replicate 8 (default:Int))⟩:aD),0,(Vector.replicate 8 (default:Int)),0,(⟨0,0,0,[]⟩:aK),0,0,0⟩:aB),0,(Vector.replicate 8 (default:Int)),0,0,[],(⟨0,(Vector.replicate 8 (default:Int)),(Vector.replicate 8 (default:Int)),(Vector.replicate 8 (default:Int))⟩:aD),(⟨0,0,0,[]⟩:aK)⟩:aN))
def Vs:dL τ:=cn [.ty 2] [] (.ty 43) [] (fun N a b=>EO N a.1) fun r=>(r,())
theorem Q3:aR E C 24 Vs:=gQ Vs [] [] 0 [] [] trivial (fun a b=>a) Tryz.func24 rfl (by intro N a b;kernel_rfl)
def eU (N:Nat)(b0:Nat)(yJ:Int)(Xz:Bool)(g1:List (bJ))(ms:List (Option (List (Int)))):Option (Bool×Nat×Int×Bool×(List (bJ))×(List (Option (List (Int))))) :=
 (some ((!Xz),b0,yJ,Xz,g1,ms))
def iA:dL τ:=cn [.ptr 0 []] [.box (.agg [.agg [.mS 20065 1,.ty 2],.ty 4]),.eD 20065,.aX 5] (.ty 4) [.box (.agg [.agg [.mS 20065 1,.ty 2],.ty 4]),.eD 20065,.aX 5] (fun N a b=>eU N b.1.1.1 b.1.1.2.1 b.1.2.1 b.2.1 b.2.2.1) fun r=>(r.1,(((r.2.1,r.2.2.1,()),r.2.2.2.1,()),r.2.2.2.2.1,r.2.2.2.2.2,()))
theorem nE:aR E C 25 iA:=WK iA [] [] 3 [] [] [] [] [] trivial (fun a b=>(a,b.1.1.1,b.1.1.2.1,b.1.2.1,b.2.1,b.2.2.1)) Tryz.func25 rfl (by intro N a b;kernel_rfl)
structure uO where
 t7:Int
def Gi:List Sl:=[.k,.k,.j,.k,.j,.k,.k,.sh (.ty 2),.j,.j,.j,.j,.j,.j,.j,.j,.j,.j,.j,.j,.j,.j,.j,.j,.j,.j,.j,.j,.j,.j]
def Ft:List bZ:=[]
def NJ (a:Sl.Ts τ Gi)(b:bZ.Ts τ Ft):uO:=⟨a.2.2.2.2.2.2.2.1⟩
def MQ (s:uO):Sl.Ts τ Gi:=((),(),(),(),(),(),(),s.t7,(),(),(),(),(),(),(),(),(),(),(),(),(),(),(),(),(),(),(),(),(),(),())
def MJ (s:uO):bZ.Ts τ Ft:=()
def MC:Lp τ:={ ts:=Gi,hs:=Ft,S:=uO,to:=NJ,ot:=MQ,oh:=MJ,hk:=[],tk:=[],eZ:=fun _ _=>rfl,eX:=fun _ _=>rfl }
def cV (N:Nat)(l:List (bV)):Option (Bool) :=
 (iter N (fun (s1:uO) dK =>
 (bif (decide (s1.t7 < ((l).length:Int))) then
 (bif (nI s1.t7 ((l).length:Int)) then
 (bif ((((decide (((aE l s1.t7 default).cR) < 0)) || (decide (9≤((aE l s1.t7 default).cR)))) || (decide (((aE l s1.t7 default).aJ) < 0))) || (decide (5≤((aE l s1.t7 default).aJ)))) then
 (some false)
 else
 (dK ⟨(IntKind.i64.wrap (s1.t7+1))⟩))
 else none)
 else
 (some true))) ⟨0⟩)
def Hy:dL τ:=cn [.ty 70] [] (.ty 4) [] (fun N a b=>cV N a.1) fun r=>(r,())
theorem SI:aR E C 89 Hy:=gQ Hy [] [(2,MC)] 0 [] [] trivial (fun a b=>a) Tryz.func89 rfl (by intro N a b;kernel_rfl)
structure uF where
 t7:Int
def Lb:List Sl:=[.k,.k,.j,.k,.j,.k,.k,.sh (.ty 2),.j,.j,.j,.j,.j,.j,.j,.j,.j,.j]
def Kq:List bZ:=[]
def TM (a:Sl.Ts τ Lb)(b:bZ.Ts τ Kq):uF:=⟨a.2.2.2.2.2.2.2.1⟩
def SR (s:uF):Sl.Ts τ Lb:=((),(),(),(),(),(),(),s.t7,(),(),(),(),(),(),(),(),(),(),())
def SD (s:uF):bZ.Ts τ Kq:=()
def RV:Lp τ:={ ts:=Lb,hs:=Kq,S:=uF,to:=TM,ot:=SR,oh:=SD,hk:=[],tk:=[],eZ:=fun _ _=>rfl,eX:=fun _ _=>rfl }
def cK (N:Nat)(l:List (Int)):Option (Bool) :=
 (iter N (fun (s1:uF) dK =>
 (bif (decide (s1.t7 < ((l).length:Int))) then
 (bif (nI s1.t7 ((l).length:Int)) then
 (bif ((decide ((aE l s1.t7 default) < 0)) || (decide (1099511627776 < (aE l s1.t7 default)))) then
 (some false)
 else
 (dK ⟨(IntKind.i64.wrap (s1.t7+1))⟩))
 else none)
 else
 (some true))) ⟨0⟩)
def jV:dL τ:=cn [.ty 60] [] (.ty 4) [] (fun N a b=>cK N a.1) fun r=>(r,())
theorem sE:aR E C 95 jV:=gQ jV [] [(2,RV)] 0 [] [] trivial (fun a b=>a) Tryz.func95 rfl (by intro N a b;kernel_rfl)
def uH (N:Nat)(b:aT):Option (Bool) :=
 ((cK N [b.Round]).bind fun r1 =>
 (some ((r1&&(decide (0≤b.aJ)))&&(decide (b.aJ < 5)))))
def vU:dL τ:=cn [.ty 25] [] (.ty 4) [] (fun N a b=>uH N a.1) fun r=>(r,())
theorem Sk:aR E C 94 vU:=gQ vU [(95,jV)] [] 0 [] [] ⟨sE,trivial⟩ (fun a b=>a) Tryz.func94 rfl (by intro N a b;kernel_rfl)
structure mZ where
 t13:Int
def Dw:List Sl:=[.k,.k,.k,.k,.j,.j,.k,.k,.k,.k,.k,.k,.k,.sh (.ty 2),.j,.j,.j,.j,.j,.j,.j,.j,.j,.j,.j,.j]
def Dp:List bZ:=[]
def KG (a:Sl.Ts τ Dw)(b:bZ.Ts τ Dp):mZ:=⟨a.2.2.2.2.2.2.2.2.2.2.2.2.2.1⟩
def JW (s:mZ):Sl.Ts τ Dw:=((),(),(),(),(),(),(),(),(),(),(),(),(),s.t13,(),(),(),(),(),(),(),(),(),(),(),(),())
def JJ (s:mZ):bZ.Ts τ Dp:=()
def JC:Lp τ:={ ts:=Dw,hs:=Dp,S:=mZ,to:=KG,ot:=JW,oh:=JJ,hk:=[],tk:=[],eZ:=fun _ _=>rfl,eX:=fun _ _=>rfl }
def wH (N:Nat)(Xm:List (dP))(Zt:List (dP)):Option (Bool) :=
 (bif (!(((Xm).length:Int)==((Zt).length:Int))) then
 (some false)
 else
 (iter N (fun (s1:mZ) dK =>
 (bif (decide (s1.t13 < ((Xm).length:Int))) then
 (bif (nI s1.t13 ((Xm).length:Int)) then
 (bif (nI s1.t13 ((Zt).length:Int)) then
 (bif (!((((((aE Xm s1.t13 default).cG).Time)==(((aE Zt s1.t13 default).cG).Time))&&((((aE Xm s1.t13 default).cG).Site)==(((aE Zt s1.t13 default).cG).Site)))&&((((aE Xm s1.t13 default).Kind)==((aE Zt s1.t13 default).Kind))&&((((aE Xm s1.t13 default).Node)==((aE Zt s1.t13 default).Node))&&((((aE Xm s1.t13 default).cY)==((aE Zt s1.t13 default).cY))&&((((aE Xm s1.t13 default).Name)==((aE Zt s1.t13 default).Name))&&((((aE Xm s1.t13 default).Key)==((aE Zt s1.t13 default).Key))&&(((aE Xm s1.t13 default).Value)==((aE Zt s1.t13 default).Value))))))))) then
 (some false)
 else
 (dK ⟨(IntKind.i64.wrap (s1.t13+1))⟩))
 else none)
 else none)
 else
 (some true))) ⟨0⟩))
def xS:dL τ:=cn [.ty 31,.ty 31] [] (.ty 4) [] (fun N a b=>wH N a.1 a.2.1) fun r=>(r,())
theorem Vk:aR E C 136 xS:=gQ xS [] [(4,JC)] 0 [] [] trivial (fun a b=>a) Tryz.func136 rfl (by intro N a b;kernel_rfl)
def wG (N:Nat)(a:aK)(b:aK):Option (Bool) :=
 (some ((((a.Qz==b.Qz)&&(a.Index==b.Index))&&(a.Hq==b.Hq))&&((QF a.Data)==(QF b.Data))))
def xO:dL τ:=cn [.ty 39,.ty 39] [] (.ty 4) [] (fun N a b=>wG N a.1 a.2.1) fun r=>(r,())
theorem Vh:aR E C 137 xO:=gQ xO [] [] 0 [] [] trivial (fun a b=>a) Tryz.func137 rfl (by intro N a b;kernel_rfl)
def bI (N:Nat)(a:aB)(b:aB):Option (Bool) :=
 ((bif ((((((a.Kind==b.Kind)&&(a.cE==b.cE))&&(a.Request==b.Request))&&(((a.Op.cG.Time==b.Op.cG.Time)&&(a.Op.cG.Site==b.Op.cG.Site))&&((a.Op.Kind==b.Op.Kind)&&((a.Op.Node==b.Op.Node)&&((a.Op.cY==b.Op.cY)&&((a.Op.Name==b.Op.Name)&&((a.Op.Key==b.Op.Key)&&(a.Op.Value==b.Op.Value))))))))&&(a.Origin==b.Origin))&&(a.Seq==b.Seq)) then wH N a.fP b.fP else some default).bind fun r1 =>
 ((bif (((((((((((a.Kind==b.Kind)&&(a.cE==b.cE))&&(a.Request==b.Request))&&(((a.Op.cG.Time==b.Op.cG.Time)&&(a.Op.cG.Site==b.Op.cG.Site))&&((a.Op.Kind==b.Op.Kind)&&((a.Op.Node==b.Op.Node)&&((a.Op.cY==b.Op.cY)&&((a.Op.Name==b.Op.Name)&&((a.Op.Key==b.Op.Key)&&(a.Op.Value==b.Op.Value))))))))&&(a.Origin==b.Origin))&&(a.Seq==b.Seq))&&r1)&&((a.aY.Number==b.aY.Number)&&((rN Hj a.aY.cB b.aY.cB)&&((rN Dd a.aY.iD b.aY.iD)&&(rN Hj a.aY.aV b.aY.aV)))))&&(a.aS==b.aS))&&(rN Dd a.aH b.aH))&&(a.bH==b.bH)) then wG N a.Part b.Part else some default).bind fun r2 =>
 (some (((((((((((((((a.Kind==b.Kind)&&(a.cE==b.cE))&&(a.Request==b.Request))&&(((a.Op.cG.Time==b.Op.cG.Time)&&(a.Op.cG.Site==b.Op.cG.Site))&&((a.Op.Kind==b.Op.Kind)&&((a.Op.Node==b.Op.Node)&&((a.Op.cY==b.Op.cY)&&((a.Op.Name==b.Op.Name)&&((a.Op.Key==b.Op.Key)&&(a.Op.Value==b.Op.Value))))))))&&(a.Origin==b.Origin))&&(a.Seq==b.Seq))&&r1)&&((a.aY.Number==b.aY.Number)&&((rN Hj a.aY.cB b.aY.cB)&&((rN Dd a.aY.iD b.aY.iD)&&(rN Hj a.aY.aV b.aY.aV)))))&&(a.aS==b.aS))&&(rN Dd a.aH b.aH))&&(a.bH==b.bH))&&r2)&&(a.Site==b.Site))&&(a.aV==b.aV))&&(a.Length==b.Length)))))
def pO:dL τ:=cn [.ty 41,.ty 41] [] (.ty 4) [] (fun N a b=>bI N a.1 a.2.1) fun r=>(r,())
theorem Fz:aR E C 133 pO:=gQ pO [(136,xS),(137,xO)] [] 0 [] [] ⟨Vk,⟨Vh,trivial⟩⟩ (fun a b=>a) Tryz.func133 rfl (by intro N a b;kernel_rfl)
def bW (N:Nat)(ok:Bool):Option (Int) :=
 (bif ok then
 (some 0)
 else
 (some 40))
def Aj:dL τ:=cn [.ty 4] [] (.ty 48) [] (fun N a b=>bW N a.1) fun r=>(r,())
theorem Yr:aR E C 98 Aj:=gQ Aj [] [] 0 [] [] trivial (fun a b=>a) Tryz.func98 rfl (by intro N a b;kernel_rfl)
structure wL where
 t7:Int
def Nv:List Sl:=[.k,.k,.j,.k,.j,.k,.k,.sh (.ty 2),.j,.j,.j,.j,.j,.j,.j,.j,.j,.j]
def Mu:List bZ:=[]
def WW (a:Sl.Ts τ Nv)(b:bZ.Ts τ Mu):wL:=⟨a.2.2.2.2.2.2.2.1⟩
def WQ (s:wL):Sl.Ts τ Nv:=((),(),(),(),(),(),(),s.t7,(),(),(),(),(),(),(),(),(),(),())
def WH (s:wL):bZ.Ts τ Mu:=()
def WA:Lp τ:={ ts:=Nv,hs:=Mu,S:=wL,to:=WW,ot:=WQ,oh:=WH,hk:=[],tk:=[],eZ:=fun _ _=>rfl,eX:=fun _ _=>rfl }
def eI (N:Nat)(l:List (Int)):Option (Bool) :=
 (iter N (fun (s1:wL) dK =>
 (bif (decide (s1.t7 < ((l).length:Int))) then
 (bif (nI s1.t7 ((l).length:Int)) then
 (bif ((decide ((aE l s1.t7 default) < 0)) || (decide (8≤(aE l s1.t7 default)))) then
 (some false)
 else
 (dK ⟨(IntKind.i64.wrap (s1.t7+1))⟩))
 else none)
 else
 (some true))) ⟨0⟩)
def Bn:dL τ:=cn [.ty 194] [] (.ty 4) [] (fun N a b=>eI N a.1) fun r=>(r,())
theorem Xc:aR E C 90 Bn:=gQ Bn [] [(2,WA)] 0 [] [] trivial (fun a b=>a) Tryz.func90 rfl (by intro N a b;kernel_rfl)
structure Bb where
 t7:Int
def Nu:List Sl:=[.k,.k,.j,.k,.j,.k,.k,.sh (.ty 2),.j,.j,.j,.j,.j,.j,.j,.j,.j,.j]
def Mt:List bZ:=[]
def WV (a:Sl.Ts τ Nu)(b:bZ.Ts τ Mt):Bb:=⟨a.2.2.2.2.2.2.2.1⟩
def WO (s:Bb):Sl.Ts τ Nu:=((),(),(),(),(),(),(),s.t7,(),(),(),(),(),(),(),(),(),(),())
def WG (s:Bb):bZ.Ts τ Mt:=()
def VZ:Lp τ:={ ts:=Nu,hs:=Mt,S:=Bb,to:=WV,ot:=WO,oh:=WG,hk:=[],tk:=[],eZ:=fun _ _=>rfl,eX:=fun _ _=>rfl }
def Oj (N:Nat)(l:List (Int)):Option (Bool) :=
 (iter N (fun (s1:Bb) dK =>
 (bif (decide (s1.t7 < ((l).length:Int))) then
 (bif (nI s1.t7 ((l).length:Int)) then
 (bif ((decide ((aE l s1.t7 default) < 0)) || (decide (1125899906842624 < (aE l s1.t7 default)))) then
 (some false)
 else
 (dK ⟨(IntKind.i64.wrap (s1.t7+1))⟩))
 else none)
 else
 (some true))) ⟨0⟩)
def Re:dL τ:=cn [.ty 60] [] (.ty 4) [] (fun N a b=>Oj N a.1) fun r=>(r,())
theorem A8:aR E C 167 Re:=gQ Re [] [(2,VZ)] 0 [] [] trivial (fun a b=>a) Tryz.func167 rfl (by intro N a b;kernel_rfl)
structure Bc where
 t7:Int
def Nw:List Sl:=[.k,.k,.j,.k,.j,.k,.k,.sh (.ty 2),.j,.j,.j,.j,.j,.j,.j]
def Mv:List bZ:=[]
def WX (a:Sl.Ts τ Nw)(b:bZ.Ts τ Mv):Bc:=⟨a.2.2.2.2.2.2.2.1⟩
def WR (s:Bc):Sl.Ts τ Nw:=((),(),(),(),(),(),(),s.t7,(),(),(),(),(),(),(),())
def WI (s:Bc):bZ.Ts τ Mv:=()
def WB:Lp τ:={ ts:=Nw,hs:=Mv,S:=Bc,to:=WX,ot:=WR,oh:=WI,hk:=[],tk:=[],eZ:=fun _ _=>rfl,eX:=fun _ _=>rfl }
def Ol (N:Nat)(l:List (List UInt8)):Option (Bool) :=
 (iter N (fun (s1:Bc) dK =>
 (bif (decide (s1.t7 < ((l).length:Int))) then
 (bif (nI s1.t7 ((l).length:Int)) then
 (bif (decide (255 < (((aE l s1.t7 default)).length:Int))) then
 (some false)
 else
 (dK ⟨(IntKind.i64.wrap (s1.t7+1))⟩))
 else none)
 else
 (some true))) ⟨0⟩)
def Rf:dL τ:=cn [.ty 229] [] (.ty 4) [] (fun N a b=>Ol N a.1) fun r=>(r,())
theorem A9:aR E C 168 Rf:=gQ Rf [] [(2,WB)] 0 [] [] trivial (fun a b=>a) Tryz.func168 rfl (by intro N a b;kernel_rfl)
def yY (N:Nat)(op:dP):Option (Bool) :=
 ((cK N [op.cG.Time]).bind fun r1 =>
 ((bif r1 then eI N [op.cG.Site] else some default).bind fun r2 =>
 ((bif (((r1&&r2)&&(decide (1≤op.Kind)))&&(decide (op.Kind≤3))) then Oj N [op.Node,op.cY] else some default).bind fun r3 =>
 ((bif ((((r1&&r2)&&(decide (1≤op.Kind)))&&(decide (op.Kind≤3)))&&r3) then Ol N [op.Name,op.Key,op.Value] else some default).bind fun r4 =>
 (some (((((r1&&r2)&&(decide (1≤op.Kind)))&&(decide (op.Kind≤3)))&&r3)&&r4))))))
def Ex:dL τ:=cn [.ty 30] [] (.ty 4) [] (fun N a b=>yY N a.1) fun r=>(r,())
theorem GL:aR E C 130 Ex:=gQ Ex [(95,jV),(90,Bn),(167,Re),(168,Rf)] [] 0 [] [] ⟨sE,⟨Xc,⟨A8,⟨A9,trivial⟩⟩⟩⟩ (fun a b=>a) Tryz.func130 rfl (by intro N a b;kernel_rfl)
def Ck (N:Nat)(op:dP):Option (Bool) :=
 ((yY N op).bind fun r1 =>
 (some (!r1)))
def Fo:dL τ:=cn [.ty 30] [] (.ty 4) [] (fun N a b=>Ck N a.1) fun r=>(r,())
theorem PL:aR E C 129 Fo:=gQ Fo [(130,Ex)] [] 0 [] [] ⟨GL,trivial⟩ (fun a b=>a) Tryz.func129 rfl (by intro N a b;kernel_rfl)
structure fV where
 t8:Int
def qZ:List Sl:=[.k,.k,.k,.k,.j,.j,.k,.k,.sh (.ty 2),.j,.j,.j,.j,.j,.j,.j,.j,.j,.j]
def qT:List bZ:=[]
def Qh (a:Sl.Ts τ qZ)(b:bZ.Ts τ qT):fV:=⟨a.2.2.2.2.2.2.2.2.1⟩
def Pz (s:fV):Sl.Ts τ qZ:=((),(),(),(),(),(),(),(),s.t8,(),(),(),(),(),(),(),(),(),(),())
def Pr (s:fV):bZ.Ts τ qT:=()
def Ph:Lp τ:={ ts:=qZ,hs:=qT,S:=fV,to:=Qh,ot:=Pz,oh:=Pr,hk:=[],tk:=[],eZ:=fun _ _=>rfl,eX:=fun _ _=>rfl }
def nL (N:Nat)(s:List (dP)):Option (Int) :=
 (iter N (fun (s1:fV) dK =>
 (bif (decide (s1.t8 < ((s).length:Int))) then
 (bif (nI s1.t8 ((s).length:Int)) then
 ((Ck N (⟨((aE s s1.t8 default).cG),(aE s s1.t8 default).Kind,(aE s s1.t8 default).Node,(aE s s1.t8 default).cY,(aE s s1.t8 default).Name,(aE s s1.t8 default).Key,(aE s s1.t8 default).Value⟩:dP)).bind fun r3 =>
 (bif r3 then
 (some s1.t8)
 else
 (dK ⟨(IntKind.i64.wrap (s1.t8+1))⟩)))
 else none)
 else
 (some (-1)))) ⟨0⟩)
def rY:dL τ:=cn [.ty 31,.fn 129 []] [] (.ty 3) [] (fun N a b=>nL N a.1) fun r=>(r,())
theorem Ug:aR E C 166 rY:=gQ rY [(129,Fo)] [(2,Ph)] 0 [] [] ⟨PL,trivial⟩ (fun a b=>a) Tryz.func166 rfl (by intro N a b;kernel_rfl)
def kN (N:Nat)(s:List (dP)):Option (Bool) :=
 ((nL N s).bind fun r1 =>
 (some (decide (0≤r1))))
def oA:dL τ:=cn [.ty 31,.fn 129 []] [] (.ty 4) [] (fun N a b=>kN N a.1) fun r=>(r,())
theorem Ng:aR E C 128 oA:=gQ oA [(166,rY)] [] 0 [] [] ⟨Ug,trivial⟩ (fun a b=>a) Tryz.func128 rfl (by intro N a b;kernel_rfl)
def kW (N:Nat)(l:List (dP))(least:Int):Option (Bool) :=
 ((bif ((decide (least≤((l).length:Int)))&&(decide (((l).length:Int)≤4096))) then kN N l else some default).bind fun r1 =>
 (some (((decide (least≤((l).length:Int)))&&(decide (((l).length:Int)≤4096)))&&(!r1))))
def Co:dL τ:=cn [.ty 31,.ty 3] [] (.ty 4) [] (fun N a b=>kW N a.1 a.2.1) fun r=>(r,())
theorem DH:aR E C 91 Co:=gQ Co [(128,oA)] [] 0 [] [] ⟨Ng,trivial⟩ (fun a b=>a) Tryz.func91 rfl (by intro N a b;kernel_rfl)
structure mW where
 ok:Bool
 t14:Int
def Dr:List Sl:=[.k,.k,.k,.sh (.ty 4),.j,.k,.k,.k,.k,.k,.j,.k,.j,.k,.sh (.ty 2),.j,.j,.j,.j,.j,.j,.j,.j,.j,.j,.j,.j,.j,.j,.j,.j,.j,.j,.j,.j,.j,.j,.j,.j,.j,.j,.j,.j,.j,.j,.j,.j,.k]
def Dk:List bZ:=[.iO]
def KC (a:Sl.Ts τ Dr)(b:bZ.Ts τ Dk):mW:=⟨a.2.2.2.1,a.2.2.2.2.2.2.2.2.2.2.2.2.2.2.1⟩
def JS (s:mW):Sl.Ts τ Dr:=((),(),(),s.ok,(),(),(),(),(),(),(),(),(),(),s.t14,(),(),(),(),(),(),(),(),(),(),(),(),(),(),(),(),(),(),(),(),(),(),(),(),(),(),(),(),(),(),(),(),(),())
def JF (s:mW):bZ.Ts τ Dk:=((),())
def IY:Lp τ:={ ts:=Dr,hs:=Dk,S:=mW,to:=KC,ot:=JS,oh:=JF,hk:=[3],tk:=[0,2,0,0,0,2],eZ:=fun _ _=>rfl,eX:=fun _ _=>rfl }
structure lX where
 ok:Bool
 t14:Int
def Cf:List Sl:=[.k,.k,.k,.sh (.ty 4),.j,.k,.k,.k,.k,.k,.j,.k,.k,.k,.sh (.ty 2),.j,.j,.j,.j,.j,.j,.j,.j,.j,.j,.j,.j,.j,.j,.j,.j,.j,.j,.j,.j,.j,.j,.j,.j,.j,.j,.j,.j,.j,.j,.j,.j,.k]
def By:List bZ:=[.iO]
def HP (a:Sl.Ts τ Cf)(b:bZ.Ts τ By):lX:=⟨a.2.2.2.1,a.2.2.2.2.2.2.2.2.2.2.2.2.2.2.1⟩
def GZ (s:lX):Sl.Ts τ Cf:=((),(),(),s.ok,(),(),(),(),(),(),(),(),(),(),s.t14,(),(),(),(),(),(),(),(),(),(),(),(),(),(),(),(),(),(),(),(),(),(),(),(),(),(),(),(),(),(),(),(),(),())
def GF (s:lX):bZ.Ts τ By:=((),())
def FX:Lp τ:={ ts:=Cf,hs:=By,S:=lX,to:=HP,ot:=GZ,oh:=GF,hk:=[2],tk:=[0,2,0,0,0,2],eZ:=fun _ _=>rfl,eX:=fun _ _=>rfl }
def iW (N:Nat)(e:aD):Option (Bool) :=
 ((cK N [e.Number]).bind fun r1 =>
 (bif r1 then
 ((bif r1 then cK N (e.iD.toList) else some default).bind fun r2 =>
 (iter N (fun (s3:mW) Iw =>
 (bif (decide (s3.t14 < 8)) then
 (bif (!s3.ok || (nI s3.t14 8)) then
 (bif (!(s3.ok&&(decide (0≤(iK e.cB ((s3.t14).toNat) default)))) || (nI s3.t14 8)) then
 (bif (!((s3.ok&&(decide (0≤(iK e.cB ((s3.t14).toNat) default))))&&(decide ((iK e.cB ((s3.t14).toNat) default)≤3))) || (nI s3.t14 8)) then
 (bif (!(((s3.ok&&(decide (0≤(iK e.cB ((s3.t14).toNat) default))))&&(decide ((iK e.cB ((s3.t14).toNat) default)≤3)))&&(decide ((-1)≤(iK e.aV ((s3.t14).toNat) default)))) || (nI s3.t14 8)) then
 (Iw ⟨((((s3.ok&&(decide (0≤(iK e.cB ((s3.t14).toNat) default))))&&(decide ((iK e.cB ((s3.t14).toNat) default)≤3)))&&(decide ((-1)≤(iK e.aV ((s3.t14).toNat) default))))&&(decide ((iK e.aV ((s3.t14).toNat) default) < 8))),(IntKind.i64.wrap (s3.t14+1))⟩)
 else none)
 else none)
 else none)
 else none)
 else
 (some s3.ok))) ⟨(r1&&r2),0⟩))
 else
 (iter N (fun (s5:lX) KT =>
 (bif (decide (s5.t14 < 8)) then
 (bif (!s5.ok || (nI s5.t14 8)) then
 (bif (!(s5.ok&&(decide (0≤(iK e.cB ((s5.t14).toNat) default)))) || (nI s5.t14 8)) then
 (bif (!((s5.ok&&(decide (0≤(iK e.cB ((s5.t14).toNat) default))))&&(decide ((iK e.cB ((s5.t14).toNat) default)≤3))) || (nI s5.t14 8)) then
 (bif (!(((s5.ok&&(decide (0≤(iK e.cB ((s5.t14).toNat) default))))&&(decide ((iK e.cB ((s5.t14).toNat) default)≤3)))&&(decide ((-1)≤(iK e.aV ((s5.t14).toNat) default)))) || (nI s5.t14 8)) then
 (KT ⟨((((s5.ok&&(decide (0≤(iK e.cB ((s5.t14).toNat) default))))&&(decide ((iK e.cB ((s5.t14).toNat) default)≤3)))&&(decide ((-1)≤(iK e.aV ((s5.t14).toNat) default))))&&(decide ((iK e.aV ((s5.t14).toNat) default) < 8))),(IntKind.i64.wrap (s5.t14+1))⟩)
 else none)
 else none)
 else none)
 else none)
 else
 (some s5.ok))) ⟨false,0⟩)))
def xM:dL τ:=cn [.ty 36] [] (.ty 4) [] (fun N a b=>iW N a.1) fun r=>(r,())
theorem Vg:aR E C 92 xM:=gQ xM [(95,jV)] [(3,IY),(3,FX)] 0 [] [] ⟨sE,trivial⟩ (fun a b=>a) Tryz.func92 rfl (by intro N a b;kernel_rfl)
def fE (N:Nat)(p:aK):Option (Bool) :=
 ((cK N [p.Qz]).bind fun r1 =>
 (some (((((r1&&(decide (1≤p.Hq)))&&(decide (p.Hq≤4096)))&&(decide (0≤p.Index)))&&(decide (p.Index < p.Hq)))&&(decide (((p.Data).length:Int)≤16384)))))
def Ai:dL τ:=cn [.ty 39] [] (.ty 4) [] (fun N a b=>fE N a.1) fun r=>(r,())
theorem Yq:aR E C 93 Ai:=gQ Ai [(95,jV)] [] 0 [] [] ⟨sE,trivial⟩ (fun a b=>a) Tryz.func93 rfl (by intro N a b;kernel_rfl)
def cP (N:Nat)(e:aB):Option (Int) :=
 (bif (e.Kind==0) then
 ((bI N (⟨e.Kind,0,0,(⟨(⟨0,0⟩:bB),0,0,0,[],[],[]⟩:dP),0,0,[],(⟨0,(Vector.replicate 8 (default:Int)),(Vector.replicate 8 (default:Int)),(Vector.replicate 8 (default:Int))⟩:aD),0,(Vector.replicate 8 (default:Int)),0,(⟨0,0,0,[]⟩:aK),0,0,0⟩:aB) e).bind fun r1 =>
 ((bW N r1).bind fun r2 =>
 (some r2)))
 else
 (bif (e.Kind==1) then
 ((cK N [e.cE,e.Request]).bind fun r3 =>
 ((bif ((r3&&(decide (0 < e.cE)))&&(decide (0 < e.Request))) then yY N e.Op else some default).bind fun r4 =>
 ((bif (((r3&&(decide (0 < e.cE)))&&(decide (0 < e.Request)))&&r4) then bI N (⟨e.Kind,e.cE,e.Request,e.Op,0,0,[],(⟨0,(Vector.replicate 8 (default:Int)),(Vector.replicate 8 (default:Int)),(Vector.replicate 8 (default:Int))⟩:aD),0,(Vector.replicate 8 (default:Int)),0,(⟨0,0,0,[]⟩:aK),0,0,0⟩:aB) e else some default).bind fun r5 =>
 ((bW N ((((r3&&(decide (0 < e.cE)))&&(decide (0 < e.Request)))&&r4)&&r5)).bind fun r6 =>
 (some r6)))))
 else
 (bif (e.Kind==2) then
 ((eI N [e.Origin]).bind fun r7 =>
 ((bif r7 then cK N [e.Seq] else some default).bind fun r8 =>
 ((bif (r7&&r8) then kW N e.fP 1 else some default).bind fun r9 =>
 ((bif ((r7&&r8)&&r9) then bI N (⟨e.Kind,0,0,(⟨(⟨0,0⟩:bB),0,0,0,[],[],[]⟩:dP),e.Origin,e.Seq,e.fP,(⟨0,(Vector.replicate 8 (default:Int)),(Vector.replicate 8 (default:Int)),(Vector.replicate 8 (default:Int))⟩:aD),0,(Vector.replicate 8 (default:Int)),0,(⟨0,0,0,[]⟩:aK),0,0,0⟩:aB) e else some default).bind fun Nn =>
 ((bW N (((r7&&r8)&&r9)&&Nn)).bind fun Vl =>
 (some Vl))))))
 else
 (bif (e.Kind==3) then
 ((iW N e.aY).bind fun Tt =>
 ((bif Tt then bI N (⟨e.Kind,0,0,(⟨(⟨0,0⟩:bB),0,0,0,[],[],[]⟩:dP),0,0,[],e.aY,0,(Vector.replicate 8 (default:Int)),0,(⟨0,0,0,[]⟩:aK),0,0,0⟩:aB) e else some default).bind fun EJ =>
 ((bW N (Tt&&EJ)).bind fun JX =>
 (some JX))))
 else
 (bif (e.Kind==4) then
 ((cK N [e.Seq,e.bH]).bind fun Ci =>
 ((bif Ci then eI N [e.aS] else some default).bind fun Jh =>
 (bif (Ci&&Jh) then
 ((bif (Ci&&Jh) then cK N (e.aH.toList) else some default).bind fun Kc =>
 ((bif ((Ci&&Jh)&&Kc) then bI N (⟨e.Kind,0,0,(⟨(⟨0,0⟩:bB),0,0,0,[],[],[]⟩:dP),0,e.Seq,[],(⟨0,(Vector.replicate 8 (default:Int)),(Vector.replicate 8 (default:Int)),(Vector.replicate 8 (default:Int))⟩:aD),e.aS,e.aH,e.bH,(⟨0,0,0,[]⟩:aK),0,0,0⟩:aB) e else some default).bind fun j7 =>
 ((bW N (((Ci&&Jh)&&Kc)&&j7)).bind fun R5 =>
 (some R5))))
 else
 ((bif false then bI N (⟨e.Kind,0,0,(⟨(⟨0,0⟩:bB),0,0,0,[],[],[]⟩:dP),0,e.Seq,[],(⟨0,(Vector.replicate 8 (default:Int)),(Vector.replicate 8 (default:Int)),(Vector.replicate 8 (default:Int))⟩:aD),e.aS,e.aH,e.bH,(⟨0,0,0,[]⟩:aK),0,0,0⟩:aB) e else some default).bind fun fh =>
 ((bW N false).bind fun fj =>
 (some fj))))))
 else
 (bif (e.Kind==5) then
 ((fE N e.Part).bind fun V5 =>
 ((bif V5 then bI N (⟨e.Kind,0,0,(⟨(⟨0,0⟩:bB),0,0,0,[],[],[]⟩:dP),0,0,[],(⟨0,(Vector.replicate 8 (default:Int)),(Vector.replicate 8 (default:Int)),(Vector.replicate 8 (default:Int))⟩:aD),0,(Vector.replicate 8 (default:Int)),0,e.Part,0,0,0⟩:aB) e else some default).bind fun QV =>
 ((bW N (V5&&QV)).bind fun kr =>
 (some kr))))
 else
 (bif (e.Kind==6) then
 ((eI N [e.Site,e.aV]).bind fun cl =>
 ((bif cl then bI N (⟨e.Kind,0,0,(⟨(⟨0,0⟩:bB),0,0,0,[],[],[]⟩:dP),0,0,[],(⟨0,(Vector.replicate 8 (default:Int)),(Vector.replicate 8 (default:Int)),(Vector.replicate 8 (default:Int))⟩:aD),0,(Vector.replicate 8 (default:Int)),0,(⟨0,0,0,[]⟩:aK),e.Site,e.aV,0⟩:aB) e else some default).bind fun qf =>
 ((bW N (cl&&qf)).bind fun fk =>
 (some fk))))
 else
 (bif (e.Kind==7) then
 ((eI N [e.Site]).bind fun QW =>
 ((bif QW then bI N (⟨e.Kind,0,0,(⟨(⟨0,0⟩:bB),0,0,0,[],[],[]⟩:dP),0,0,[],(⟨0,(Vector.replicate 8 (default:Int)),(Vector.replicate 8 (default:Int)),(Vector.replicate 8 (default:Int))⟩:aD),0,(Vector.replicate 8 (default:Int)),0,(⟨0,0,0,[]⟩:aK),e.Site,0,0⟩:aB) e else some default).bind fun qg =>
 ((bW N (QW&&qg)).bind fun uv =>
 (some uv))))
 else
 (bif (e.Kind==8) then
 ((eI N [e.Site]).bind fun V6 =>
 ((bif V6 then cK N [e.Length] else some default).bind fun fm =>
 ((bif (V6&&fm) then bI N (⟨e.Kind,0,0,(⟨(⟨0,0⟩:bB),0,0,0,[],[],[]⟩:dP),0,0,[],(⟨0,(Vector.replicate 8 (default:Int)),(Vector.replicate 8 (default:Int)),(Vector.replicate 8 (default:Int))⟩:aD),0,(Vector.replicate 8 (default:Int)),0,(⟨0,0,0,[]⟩:aK),e.Site,0,e.Length⟩:aB) e else some default).bind fun qh =>
 ((bW N ((V6&&fm)&&qh)).bind fun qi =>
 (some qi)))))
 else
 ((bif false then bI N (⟨e.Kind,0,0,(⟨(⟨0,0⟩:bB),0,0,0,[],[],[]⟩:dP),0,0,[],(⟨0,(Vector.replicate 8 (default:Int)),(Vector.replicate 8 (default:Int)),(Vector.replicate 8 (default:Int))⟩:aD),0,(Vector.replicate 8 (default:Int)),0,(⟨0,0,0,[]⟩:aK),0,0,0⟩:aB) e else some default).bind fun r35 =>
 ((bW N false).bind fun wx =>
 (some wx))))))))))))
def uS:dL τ:=cn [.ty 41] [] (.ty 48) [] (fun N a b=>cP N a.1) fun r=>(r,())
theorem Oi:aR E C 97 uS:=gQ uS [(133,pO),(98,Aj),(95,jV),(130,Ex),(90,Bn),(91,Co),(92,xM),(93,Ai)] [] 0 [] [] ⟨Fz,⟨Yr,⟨sE,⟨GL,⟨Xc,⟨DH,⟨Vg,⟨Yq,trivial⟩⟩⟩⟩⟩⟩⟩⟩ (fun a b=>a) Tryz.func97 rfl (by intro N a b;kernel_rfl)
def nU (N:Nat)(x:aL):Option (Bool) :=
 ((cK N [x.Slot]).bind fun r1 =>
 ((bif (!(!r1)) then uH N x.aG else some default).bind fun r2 =>
 ((bif (!((!r1) || (!r2))) then cP N x.Entry else some default).bind fun r3 =>
 (some (((!r1) || (!r2)) || (!(r3==0)))))))
def xN:dL τ:=cn [.ty 155] [] (.ty 4) [] (fun N a b=>nU N a.1) fun r=>(r,())
theorem EA:aR E C 132 xN:=gQ xN [(95,jV),(94,vU),(97,uS)] [] 0 [] [] ⟨sE,⟨Sk,⟨Oi,trivial⟩⟩⟩ (fun a b=>a) Tryz.func132 rfl (by intro N a b;kernel_rfl)
structure eP where
 t8:Int
def lT:List Sl:=[.k,.k,.k,.k,.j,.j,.k,.k,.sh (.ty 2),.j,.j,.j,.j,.j,.j,.j,.j,.j,.j]
def lK:List bZ:=[]
def Jm (a:Sl.Ts τ lT)(b:bZ.Ts τ lK):eP:=⟨a.2.2.2.2.2.2.2.2.1⟩
def Jf (s:eP):Sl.Ts τ lT:=((),(),(),(),(),(),(),(),s.t8,(),(),(),(),(),(),(),(),(),(),())
def Iy (s:eP):bZ.Ts τ lK:=()
def Iv:Lp τ:={ ts:=lT,hs:=lK,S:=eP,to:=Jm,ot:=Jf,oh:=Iy,hk:=[],tk:=[],eZ:=fun _ _=>rfl,eX:=fun _ _=>rfl }
def jK (N:Nat)(s:List (aL)):Option (Int) :=
 (iter N (fun (s1:eP) dK =>
 (bif (decide (s1.t8 < ((s).length:Int))) then
 (bif (nI s1.t8 ((s).length:Int)) then
 ((nU N (⟨(aE s s1.t8 default).Slot,((aE s s1.t8 default).aG),(⟨((aE s s1.t8 default).Entry).Kind,((aE s s1.t8 default).Entry).cE,((aE s s1.t8 default).Entry).Request,(⟨((((aE s s1.t8 default).Entry).Op).cG),(((aE s s1.t8 default).Entry).Op).Kind,(((aE s s1.t8 default).Entry).Op).Node,(((aE s s1.t8 default).Entry).Op).cY,(((aE s s1.t8 default).Entry).Op).Name,(((aE s s1.t8 default).Entry).Op).Key,(((aE s s1.t8 default).Entry).Op).Value⟩:dP),((aE s s1.t8 default).Entry).Origin,((aE s s1.t8 default).Entry).Seq,((aE s s1.t8 default).Entry).fP,(((aE s s1.t8 default).Entry).aY),((aE s s1.t8 default).Entry).aS,((aE s s1.t8 default).Entry).aH,((aE s s1.t8 default).Entry).bH,(((aE s s1.t8 default).Entry).Part),((aE s s1.t8 default).Entry).Site,((aE s s1.t8 default).Entry).aV,((aE s s1.t8 default).Entry).Length⟩:aB)⟩:aL)).bind fun r3 =>
 (bif r3 then
 (some s1.t8)
 else
 (dK ⟨(IntKind.i64.wrap (s1.t8+1))⟩)))
 else none)
 else
 (some (-1)))) ⟨0⟩)
def mB:dL τ:=cn [.ty 26,.fn 132 []] [] (.ty 3) [] (fun N a b=>jK N a.1) fun r=>(r,())
theorem Kv:aR E C 169 mB:=gQ mB [(132,xN)] [(2,Iv)] 0 [] [] ⟨EA,trivial⟩ (fun a b=>a) Tryz.func169 rfl (by intro N a b;kernel_rfl)
def iC (N:Nat)(s:List (aL)):Option (Bool) :=
 ((jK N s).bind fun r1 =>
 (some (decide (0≤r1))))
def jZ:dL τ:=cn [.ty 26,.fn 132 []] [] (.ty 4) [] (fun N a b=>iC N a.1) fun r=>(r,())
theorem Hk:aR E C 131 jZ:=gQ jZ [(169,mB)] [] 0 [] [] ⟨Kv,trivial⟩ (fun a b=>a) Tryz.func131 rfl (by intro N a b;kernel_rfl)
def rP (N:Nat)(l:List (aL))(least:Int)(Yo:Int):Option (Bool) :=
 ((bif ((decide (least≤((l).length:Int)))&&(decide (((l).length:Int)≤Yo))) then iC N l else some default).bind fun r1 =>
 (some (((decide (least≤((l).length:Int)))&&(decide (((l).length:Int)≤Yo)))&&(!r1))))
def Bm:dL τ:=cn [.ty 26,.ty 3,.ty 3] [] (.ty 4) [] (fun N a b=>rP N a.1 a.2.1 a.2.2.1) fun r=>(r,())
theorem JN:aR E C 96 Bm:=gQ Bm [(131,jZ)] [] 0 [] [] ⟨Hk,trivial⟩ (fun a b=>a) Tryz.func96 rfl (by intro N a b;kernel_rfl)
def pL (N:Nat)(a:aL)(b:aL):Option (Bool) :=
 ((bif ((a.Slot==b.Slot)&&((a.aG.Round==b.aG.Round)&&(a.aG.aJ==b.aG.aJ))) then bI N a.Entry b.Entry else some default).bind fun r1 =>
 (some (((a.Slot==b.Slot)&&((a.aG.Round==b.aG.Round)&&(a.aG.aJ==b.aG.aJ)))&&r1)))
def zP:dL τ:=cn [.ty 155,.ty 155] [] (.ty 4) [] (fun N a b=>pL N a.1 a.2.1) fun r=>(r,())
theorem GM:aR E C 135 zP:=gQ zP [(133,pO)] [] 0 [] [] ⟨Fz,trivial⟩ (fun a b=>a) Tryz.func135 rfl (by intro N a b;kernel_rfl)
structure eO where
 t17:Int
def lR:List Sl:=[.k,.k,.k,.k,.k,.k,.j,.j,.j,.j,.k,.k,.k,.k,.k,.k,.k,.sh (.ty 2),.j,.j,.j,.j,.j,.j,.j,.j,.j,.j,.j,.j,.j,.j]
def lJ:List bZ:=[]
def Jl (a:Sl.Ts τ lR)(b:bZ.Ts τ lJ):eO:=⟨a.2.2.2.2.2.2.2.2.2.2.2.2.2.2.2.2.2.1⟩
def Je (s:eO):Sl.Ts τ lR:=((),(),(),(),(),(),(),(),(),(),(),(),(),(),(),(),(),s.t17,(),(),(),(),(),(),(),(),(),(),(),(),(),(),())
def Ix (s:eO):bZ.Ts τ lJ:=()
def Iu:Lp τ:={ ts:=lR,hs:=lJ,S:=eO,to:=Jl,ot:=Je,oh:=Ix,hk:=[],tk:=[],eZ:=fun _ _=>rfl,eX:=fun _ _=>rfl }
def jJ (N:Nat)(Xm:List (aL))(Zt:List (aL)):Option (Bool) :=
 (bif (!(((Xm).length:Int)==((Zt).length:Int))) then
 (some false)
 else
 (iter N (fun (s1:eO) dK =>
 (bif (decide (s1.t17 < ((Xm).length:Int))) then
 (bif (nI s1.t17 ((Xm).length:Int)) then
 (bif (nI s1.t17 ((Zt).length:Int)) then
 ((pL N (⟨(aE Xm s1.t17 default).Slot,((aE Xm s1.t17 default).aG),(⟨((aE Xm s1.t17 default).Entry).Kind,((aE Xm s1.t17 default).Entry).cE,((aE Xm s1.t17 default).Entry).Request,(⟨((((aE Xm s1.t17 default).Entry).Op).cG),(((aE Xm s1.t17 default).Entry).Op).Kind,(((aE Xm s1.t17 default).Entry).Op).Node,(((aE Xm s1.t17 default).Entry).Op).cY,(((aE Xm s1.t17 default).Entry).Op).Name,(((aE Xm s1.t17 default).Entry).Op).Key,(((aE Xm s1.t17 default).Entry).Op).Value⟩:dP),((aE Xm s1.t17 default).Entry).Origin,((aE Xm s1.t17 default).Entry).Seq,((aE Xm s1.t17 default).Entry).fP,(((aE Xm s1.t17 default).Entry).aY),((aE Xm s1.t17 default).Entry).aS,((aE Xm s1.t17 default).Entry).aH,((aE Xm s1.t17 default).Entry).bH,(((aE Xm s1.t17 default).Entry).Part),((aE Xm s1.t17 default).Entry).Site,((aE Xm s1.t17 default).Entry).aV,((aE Xm s1.t17 default).Entry).Length⟩:aB)⟩:aL) (⟨(aE Zt s1.t17 default).Slot,((aE Zt s1.t17 default).aG),(⟨((aE Zt s1.t17 default).Entry).Kind,((aE Zt s1.t17 default).Entry).cE,((aE Zt s1.t17 default).Entry).Request,(⟨((((aE Zt s1.t17 default).Entry).Op).cG),(((aE Zt s1.t17 default).Entry).Op).Kind,(((aE Zt s1.t17 default).Entry).Op).Node,(((aE Zt s1.t17 default).Entry).Op).cY,(((aE Zt s1.t17 default).Entry).Op).Name,(((aE Zt s1.t17 default).Entry).Op).Key,(((aE Zt s1.t17 default).Entry).Op).Value⟩:dP),((aE Zt s1.t17 default).Entry).Origin,((aE Zt s1.t17 default).Entry).Seq,((aE Zt s1.t17 default).Entry).fP,(((aE Zt s1.t17 default).Entry).aY),((aE Zt s1.t17 default).Entry).aS,((aE Zt s1.t17 default).Entry).aH,((aE Zt s1.t17 default).Entry).bH,(((aE Zt s1.t17 default).Entry).Part),((aE Zt s1.t17 default).Entry).Site,((aE Zt s1.t17 default).Entry).aV,((aE Zt s1.t17 default).Entry).Length⟩:aB)⟩:aL)).bind fun r3 =>
 (bif (!r3) then
 (some false)
 else
 (dK ⟨(IntKind.i64.wrap (s1.t17+1))⟩)))
 else none)
 else none)
 else
 (some true))) ⟨0⟩))
def mA:dL τ:=cn [.ty 26,.ty 26,.fn 135 []] [] (.ty 4) [] (fun N a b=>jJ N a.1 a.2.1) fun r=>(r,())
theorem Ku:aR E C 134 mA:=gQ mA [(135,zP)] [(4,Iu)] 0 [] [] ⟨GM,trivial⟩ (fun a b=>a) Tryz.func134 rfl (by intro N a b;kernel_rfl)
def yM (N:Nat)(a:aN)(b:aN):Option (Bool) :=
 ((bif (((((a.Kind==b.Kind)&&((a.aS.cR==b.aS.cR)&&(a.aS.aJ==b.aS.aJ)))&&((a.To.cR==b.To.cR)&&(a.To.aJ==b.To.aJ)))&&((a.aG.Round==b.aG.Round)&&(a.aG.aJ==b.aG.aJ)))&&(a.Slot==b.Slot)) then jJ N a.bR b.bR else some default).bind fun r1 =>
 ((bif ((((((a.Kind==b.Kind)&&((a.aS.cR==b.aS.cR)&&(a.aS.aJ==b.aS.aJ)))&&((a.To.cR==b.To.cR)&&(a.To.aJ==b.To.aJ)))&&((a.aG.Round==b.aG.Round)&&(a.aG.aJ==b.aG.aJ)))&&(a.Slot==b.Slot))&&r1) then bI N a.Entry b.Entry else some default).bind fun r2 =>
 ((bif (((((((((((a.Kind==b.Kind)&&((a.aS.cR==b.aS.cR)&&(a.aS.aJ==b.aS.aJ)))&&((a.To.cR==b.To.cR)&&(a.To.aJ==b.To.aJ)))&&((a.aG.Round==b.aG.Round)&&(a.aG.aJ==b.aG.aJ)))&&(a.Slot==b.Slot))&&r1)&&r2)&&(a.Number==b.Number))&&(rN Dd a.aH b.aH))&&(a.bH==b.bH))&&(a.Origin==b.Origin)) then wH N a.fP b.fP else some default).bind fun r3 =>
 ((bif (((((((((((((a.Kind==b.Kind)&&((a.aS.cR==b.aS.cR)&&(a.aS.aJ==b.aS.aJ)))&&((a.To.cR==b.To.cR)&&(a.To.aJ==b.To.aJ)))&&((a.aG.Round==b.aG.Round)&&(a.aG.aJ==b.aG.aJ)))&&(a.Slot==b.Slot))&&r1)&&r2)&&(a.Number==b.Number))&&(rN Dd a.aH b.aH))&&(a.bH==b.bH))&&(a.Origin==b.Origin))&&r3)&&((a.aY.Number==b.aY.Number)&&((rN Hj a.aY.cB b.aY.cB)&&((rN Dd a.aY.iD b.aY.iD)&&(rN Hj a.aY.aV b.aY.aV))))) then wG N a.Part b.Part else some default).bind fun r4 =>
 (some ((((((((((((((a.Kind==b.Kind)&&((a.aS.cR==b.aS.cR)&&(a.aS.aJ==b.aS.aJ)))&&((a.To.cR==b.To.cR)&&(a.To.aJ==b.To.aJ)))&&((a.aG.Round==b.aG.Round)&&(a.aG.aJ==b.aG.aJ)))&&(a.Slot==b.Slot))&&r1)&&r2)&&(a.Number==b.Number))&&(rN Dd a.aH b.aH))&&(a.bH==b.bH))&&(a.Origin==b.Origin))&&r3)&&((a.aY.Number==b.aY.Number)&&((rN Hj a.aY.cB b.aY.cB)&&((rN Dd a.aY.iD b.aY.iD)&&(rN Hj a.aY.aV b.aY.aV)))))&&r4))))))
def Hx:dL τ:=cn [.ty 43,.ty 43] [] (.ty 4) [] (fun N a b=>yM N a.1 a.2.1) fun r=>(r,())
theorem SH:aR E C 99 Hx:=gQ Hx [(134,mA),(133,pO),(136,xS),(137,xO)] [] 0 [] [] ⟨Ku,⟨Fz,⟨Vk,⟨Vh,trivial⟩⟩⟩⟩ (fun a b=>a) Tryz.func99 rfl (by intro N a b;kernel_rfl)
structure aI where
 ok:Bool
 b0:aN
 b1:aN
def Dq:List Sl:=[.k,.sh (.ptr 0 []),.j,.sh (.ptr 1 []),.sh (.ty 4),.j,.j,.j,.j,.j,.j,.j,.j,.j,.j,.j,.j,.j,.j,.j,.j,.j,.j,.j,.j,.j,.j,.j,.j,.j,.j,.j,.j,.j,.j,.j,.j,.j,.j,.j,.j,.j,.j,.j,.j,.j,.j,.j,.j,.j,.j,.j,.j,.j,.j,.j,.j,.j,.j,.j,.j,.j,.j,.j,.j,.j,.j,.j,.j,.j,.j,.j,.j,.j,.j,.j,.j,.j,.j,.j,.j,.j,.j,.j,.j,.j,.j,.j,.j,.j,.j,.j,.j,.j,.j,.j,.j,.j,.j,.j,.j,.j,.j,.j,.j,.j,.j,.j,.j,.j,.j,.j,.j,.j,.j,.j,.j,.j,.j,.j,.j,.j,.j,.j,.j,.j,.j,.j,.j,.j,.j,.j,.j,.j,.j,.j,.j,.j,.j,.j,.j,.j,.j,.j,.j,.j,.j,.j,.j,.j,.j,.j,.j,.j,.j,.j,.j,.j,.j,.j,.j,.j,.j,.j,.k,.k,.k,.k,.k,.k,.k,.k,.k,.k,.k,.k,.k,.k,.k,.k,.k,.k,.k,.k,.k,.k,.k,.k,.k,.k,.k,.k,.k,.k,.k,.k,.k,.k,.k,.k,.k,.k,.k]
def Dj:List bZ:=[.box (.ty 42),.box (.ty 42)]
def KB (a:Sl.Ts τ Dq)(b:bZ.Ts τ Dj):aI:=⟨a.2.2.2.2.1,b.1,b.2.1⟩
def JR (s:aI):Sl.Ts τ Dq:=((),(),(),(),s.ok,(),(),(),(),(),(),(),(),(),(),(),(),(),(),(),(),(),(),(),(),(),(),(),(),(),(),(),(),(),(),(),(),(),(),(),(),(),(),(),(),(),(),(),(),(),(),(),(),(),(),(),(),(),(),(),(),(),(),(),(),(),(),(),(),(),(),(),(),(),(),(),(),(),(),(),(),(),(),(),(),(),(),(),(),(),(),(),(),(),(),(),(),(),(),(),(),(),(),(),(),(),(),(),(),(),(),(),(),(),(),(),(),(),(),(),(),(),(),(),(),(),(),(),(),(),(),(),(),(),(),(),(),(),(),(),(),(),(),(),(),(),(),(),(),(),(),(),(),(),(),(),(),(),(),(),(),(),(),(),(),(),(),(),(),(),(),(),(),(),(),(),(),(),(),(),(),(),(),(),(),(),(),(),(),(),(),(),(),(),(),(),(),(),(),(),(),(),(),())
def JE (s:aI):bZ.Ts τ Dj:=(s.b0,s.b1,())
def IX:Lp τ:={ ts:=Dq,hs:=Dj,S:=aI,to:=KB,ot:=JR,oh:=JE,hk:=[],tk:=[],eZ:=fun _ _=>rfl,eX:=fun _ _=>rfl }
def cI (N:Nat)(m:aN):Option (aI ⊕ (Int)) :=
 ((cV N [m.aS,m.To]).bind fun r1 =>
 (bif (m.Kind==1) then
 (bif (m.Kind==1) then
 (some (.inl (⟨r1,m,(⟨m.Kind,m.aS,m.To,m.aG,m.Slot,[],(⟨0,0,0,(⟨(⟨0,0⟩:bB),0,0,0,[],[],[]⟩:dP),0,0,[],(⟨0,(Vector.replicate 8 (default:Int)),(Vector.replicate 8 (default:Int)),(Vector.replicate 8 (default:Int))⟩:aD),0,(Vector.replicate 8 (default:Int)),0,(⟨0,0,0,[]⟩:aK),0,0,0⟩:aB),0,(Vector.replicate 8 (default:Int)),0,0,[],(⟨0,(Vector.replicate 8 (default:Int)),(Vector.replicate 8 (default:Int)),(Vector.replicate 8 (default:Int))⟩:aD),(⟨0,0,0,[]⟩:aK)⟩:aN)⟩:aI)))
 else
 (bif (m.Kind==2) then
 (some (.inl (⟨r1,m,(⟨m.Kind,m.aS,m.To,m.aG,m.Slot,m.bR,(⟨0,0,0,(⟨(⟨0,0⟩:bB),0,0,0,[],[],[]⟩:dP),0,0,[],(⟨0,(Vector.replicate 8 (default:Int)),(Vector.replicate 8 (default:Int)),(Vector.replicate 8 (default:Int))⟩:aD),0,(Vector.replicate 8 (default:Int)),0,(⟨0,0,0,[]⟩:aK),0,0,0⟩:aB),0,(Vector.replicate 8 (default:Int)),0,0,[],(⟨0,(Vector.replicate 8 (default:Int)),(Vector.replicate 8 (default:Int)),(Vector.replicate 8 (default:Int))⟩:aD),(⟨0,0,0,[]⟩:aK)⟩:aN)⟩:aI)))
 else
 (bif (m.Kind==3) then
 (some (.inl (⟨(r1&&(((m.bR).length:Int)==1)),m,(⟨m.Kind,m.aS,m.To,m.aG,0,m.bR,(⟨0,0,0,(⟨(⟨0,0⟩:bB),0,0,0,[],[],[]⟩:dP),0,0,[],(⟨0,(Vector.replicate 8 (default:Int)),(Vector.replicate 8 (default:Int)),(Vector.replicate 8 (default:Int))⟩:aD),0,(Vector.replicate 8 (default:Int)),0,(⟨0,0,0,[]⟩:aK),0,0,0⟩:aB),0,(Vector.replicate 8 (default:Int)),0,0,[],(⟨0,(Vector.replicate 8 (default:Int)),(Vector.replicate 8 (default:Int)),(Vector.replicate 8 (default:Int))⟩:aD),(⟨0,0,0,[]⟩:aK)⟩:aN)⟩:aI)))
 else
 (bif (m.Kind==5) then
 (some (.inl (⟨r1,m,(⟨m.Kind,m.aS,m.To,m.aG,0,[],(⟨0,0,0,(⟨(⟨0,0⟩:bB),0,0,0,[],[],[]⟩:dP),0,0,[],(⟨0,(Vector.replicate 8 (default:Int)),(Vector.replicate 8 (default:Int)),(Vector.replicate 8 (default:Int))⟩:aD),0,(Vector.replicate 8 (default:Int)),0,(⟨0,0,0,[]⟩:aK),0,0,0⟩:aB),0,(Vector.replicate 8 (default:Int)),0,0,[],(⟨0,(Vector.replicate 8 (default:Int)),(Vector.replicate 8 (default:Int)),(Vector.replicate 8 (default:Int))⟩:aD),(⟨0,0,0,[]⟩:aK)⟩:aN)⟩:aI)))
 else
 (bif (m.Kind==6) then
 (some (.inl (⟨(r1&&(decide (1≤((m.bR).length:Int)))),m,(⟨m.Kind,m.aS,m.To,(⟨0,0⟩:aT),0,m.bR,(⟨0,0,0,(⟨(⟨0,0⟩:bB),0,0,0,[],[],[]⟩:dP),0,0,[],(⟨0,(Vector.replicate 8 (default:Int)),(Vector.replicate 8 (default:Int)),(Vector.replicate 8 (default:Int))⟩:aD),0,(Vector.replicate 8 (default:Int)),0,(⟨0,0,0,[]⟩:aK),0,0,0⟩:aB),0,(Vector.replicate 8 (default:Int)),0,0,[],(⟨0,(Vector.replicate 8 (default:Int)),(Vector.replicate 8 (default:Int)),(Vector.replicate 8 (default:Int))⟩:aD),(⟨0,0,0,[]⟩:aK)⟩:aN)⟩:aI)))
 else
 (bif (m.Kind==8) then
 (some (.inl (⟨r1,m,(⟨m.Kind,m.aS,m.To,(⟨0,0⟩:aT),m.Slot,[],(⟨0,0,0,(⟨(⟨0,0⟩:bB),0,0,0,[],[],[]⟩:dP),0,0,[],(⟨0,(Vector.replicate 8 (default:Int)),(Vector.replicate 8 (default:Int)),(Vector.replicate 8 (default:Int))⟩:aD),0,(Vector.replicate 8 (default:Int)),0,(⟨0,0,0,[]⟩:aK),0,0,0⟩:aB),0,(Vector.replicate 8 (default:Int)),0,0,[],(⟨0,(Vector.replicate 8 (default:Int)),(Vector.replicate 8 (default:Int)),(Vector.replicate 8 (default:Int))⟩:aD),(⟨0,0,0,[]⟩:aK)⟩:aN)⟩:aI)))
 else
 (bif (m.Kind==9) then
 (some (.inl (⟨r1,m,(⟨m.Kind,m.aS,m.To,(⟨0,0⟩:aT),0,[],m.Entry,0,(Vector.replicate 8 (default:Int)),0,0,[],(⟨0,(Vector.replicate 8 (default:Int)),(Vector.replicate 8 (default:Int)),(Vector.replicate 8 (default:Int))⟩:aD),(⟨0,0,0,[]⟩:aK)⟩:aN)⟩:aI)))
 else
 (bif (m.Kind==10) then
 (some (.inl (⟨r1,m,(⟨m.Kind,m.aS,m.To,(⟨0,0⟩:aT),0,[],(⟨0,0,0,(⟨(⟨0,0⟩:bB),0,0,0,[],[],[]⟩:dP),0,0,[],(⟨0,(Vector.replicate 8 (default:Int)),(Vector.replicate 8 (default:Int)),(Vector.replicate 8 (default:Int))⟩:aD),0,(Vector.replicate 8 (default:Int)),0,(⟨0,0,0,[]⟩:aK),0,0,0⟩:aB),m.Number,m.aH,m.bH,0,[],(⟨0,(Vector.replicate 8 (default:Int)),(Vector.replicate 8 (default:Int)),(Vector.replicate 8 (default:Int))⟩:aD),(⟨0,0,0,[]⟩:aK)⟩:aN)⟩:aI)))
 else
 (bif (m.Kind==11) then
 ((bif r1 then eI N [m.Origin] else some default).bind fun r2 =>
 ((bif (r1&&r2) then kW N m.fP 1 else some default).bind fun r3 =>
 (some (.inl (⟨((r1&&r2)&&r3),m,(⟨m.Kind,m.aS,m.To,(⟨0,0⟩:aT),m.Slot,[],(⟨0,0,0,(⟨(⟨0,0⟩:bB),0,0,0,[],[],[]⟩:dP),0,0,[],(⟨0,(Vector.replicate 8 (default:Int)),(Vector.replicate 8 (default:Int)),(Vector.replicate 8 (default:Int))⟩:aD),0,(Vector.replicate 8 (default:Int)),0,(⟨0,0,0,[]⟩:aK),0,0,0⟩:aB),m.Number,(Vector.replicate 8 (default:Int)),0,m.Origin,m.fP,(⟨0,(Vector.replicate 8 (default:Int)),(Vector.replicate 8 (default:Int)),(Vector.replicate 8 (default:Int))⟩:aD),(⟨0,0,0,[]⟩:aK)⟩:aN)⟩:aI)))))
 else
 (bif (m.Kind==12) then
 ((bif r1 then iW N m.aY else some default).bind fun r4 =>
 (some (.inl (⟨(r1&&r4),m,(⟨m.Kind,m.aS,m.To,(⟨0,0⟩:aT),0,[],(⟨0,0,0,(⟨(⟨0,0⟩:bB),0,0,0,[],[],[]⟩:dP),0,0,[],(⟨0,(Vector.replicate 8 (default:Int)),(Vector.replicate 8 (default:Int)),(Vector.replicate 8 (default:Int))⟩:aD),0,(Vector.replicate 8 (default:Int)),0,(⟨0,0,0,[]⟩:aK),0,0,0⟩:aB),0,(Vector.replicate 8 (default:Int)),0,0,[],m.aY,(⟨0,0,0,[]⟩:aK)⟩:aN)⟩:aI))))
 else
 (bif (m.Kind==13) then
 ((bif r1 then fE N m.Part else some default).bind fun r5 =>
 (some (.inl (⟨(r1&&r5),m,(⟨m.Kind,m.aS,m.To,(⟨0,0⟩:aT),0,[],(⟨0,0,0,(⟨(⟨0,0⟩:bB),0,0,0,[],[],[]⟩:dP),0,0,[],(⟨0,(Vector.replicate 8 (default:Int)),(Vector.replicate 8 (default:Int)),(Vector.replicate 8 (default:Int))⟩:aD),0,(Vector.replicate 8 (default:Int)),0,(⟨0,0,0,[]⟩:aK),0,0,0⟩:aB),0,(Vector.replicate 8 (default:Int)),0,0,[],(⟨0,(Vector.replicate 8 (default:Int)),(Vector.replicate 8 (default:Int)),(Vector.replicate 8 (default:Int))⟩:aD),m.Part⟩:aN)⟩:aI))))
 else
 (bif (m.Kind==14) then
 (some (.inl (⟨r1,m,(⟨m.Kind,m.aS,m.To,(⟨0,0⟩:aT),0,[],(⟨0,0,0,(⟨(⟨0,0⟩:bB),0,0,0,[],[],[]⟩:dP),0,0,[],(⟨0,(Vector.replicate 8 (default:Int)),(Vector.replicate 8 (default:Int)),(Vector.replicate 8 (default:Int))⟩:aD),0,(Vector.replicate 8 (default:Int)),0,(⟨0,0,0,[]⟩:aK),0,0,0⟩:aB),m.Number,m.aH,0,0,[],(⟨0,(Vector.replicate 8 (default:Int)),(Vector.replicate 8 (default:Int)),(Vector.replicate 8 (default:Int))⟩:aD),(⟨0,0,0,[]⟩:aK)⟩:aN)⟩:aI)))
 else
 (bif (m.Kind==15) then
 ((bif r1 then fE N m.Part else some default).bind fun r6 =>
 (some (.inl (⟨(r1&&r6),m,(⟨m.Kind,m.aS,m.To,(⟨0,0⟩:aT),m.Slot,[],(⟨0,0,0,(⟨(⟨0,0⟩:bB),0,0,0,[],[],[]⟩:dP),0,0,[],(⟨0,(Vector.replicate 8 (default:Int)),(Vector.replicate 8 (default:Int)),(Vector.replicate 8 (default:Int))⟩:aD),0,(Vector.replicate 8 (default:Int)),0,(⟨0,0,0,[]⟩:aK),0,0,0⟩:aB),0,(Vector.replicate 8 (default:Int)),0,0,[],(⟨0,(Vector.replicate 8 (default:Int)),(Vector.replicate 8 (default:Int)),(Vector.replicate 8 (default:Int))⟩:aD),m.Part⟩:aN)⟩:aI))))
 else
 (some (.inl (⟨false,m,(⟨m.Kind,m.aS,m.To,(⟨0,0⟩:aT),0,[],(⟨0,0,0,(⟨(⟨0,0⟩:bB),0,0,0,[],[],[]⟩:dP),0,0,[],(⟨0,(Vector.replicate 8 (default:Int)),(Vector.replicate 8 (default:Int)),(Vector.replicate 8 (default:Int))⟩:aD),0,(Vector.replicate 8 (default:Int)),0,(⟨0,0,0,[]⟩:aK),0,0,0⟩:aB),0,(Vector.replicate 8 (default:Int)),0,0,[],(⟨0,(Vector.replicate 8 (default:Int)),(Vector.replicate 8 (default:Int)),(Vector.replicate 8 (default:Int))⟩:aD),(⟨0,0,0,[]⟩:aK)⟩:aN)⟩:aI))))))))))))))))
 else
 (bif (m.Kind==4) then
 (bif (m.Kind==4) then
 (some (.inl (⟨r1,m,(⟨m.Kind,m.aS,m.To,m.aG,m.Slot,[],(⟨0,0,0,(⟨(⟨0,0⟩:bB),0,0,0,[],[],[]⟩:dP),0,0,[],(⟨0,(Vector.replicate 8 (default:Int)),(Vector.replicate 8 (default:Int)),(Vector.replicate 8 (default:Int))⟩:aD),0,(Vector.replicate 8 (default:Int)),0,(⟨0,0,0,[]⟩:aK),0,0,0⟩:aB),0,(Vector.replicate 8 (default:Int)),0,0,[],(⟨0,(Vector.replicate 8 (default:Int)),(Vector.replicate 8 (default:Int)),(Vector.replicate 8 (default:Int))⟩:aD),(⟨0,0,0,[]⟩:aK)⟩:aN)⟩:aI)))
 else
 (bif (m.Kind==2) then
 (some (.inl (⟨r1,m,(⟨m.Kind,m.aS,m.To,m.aG,m.Slot,m.bR,(⟨0,0,0,(⟨(⟨0,0⟩:bB),0,0,0,[],[],[]⟩:dP),0,0,[],(⟨0,(Vector.replicate 8 (default:Int)),(Vector.replicate 8 (default:Int)),(Vector.replicate 8 (default:Int))⟩:aD),0,(Vector.replicate 8 (default:Int)),0,(⟨0,0,0,[]⟩:aK),0,0,0⟩:aB),0,(Vector.replicate 8 (default:Int)),0,0,[],(⟨0,(Vector.replicate 8 (default:Int)),(Vector.replicate 8 (default:Int)),(Vector.replicate 8 (default:Int))⟩:aD),(⟨0,0,0,[]⟩:aK)⟩:aN)⟩:aI)))
 else
 (bif (m.Kind==3) then
 (some (.inl (⟨(r1&&(((m.bR).length:Int)==1)),m,(⟨m.Kind,m.aS,m.To,m.aG,0,m.bR,(⟨0,0,0,(⟨(⟨0,0⟩:bB),0,0,0,[],[],[]⟩:dP),0,0,[],(⟨0,(Vector.replicate 8 (default:Int)),(Vector.replicate 8 (default:Int)),(Vector.replicate 8 (default:Int))⟩:aD),0,(Vector.replicate 8 (default:Int)),0,(⟨0,0,0,[]⟩:aK),0,0,0⟩:aB),0,(Vector.replicate 8 (default:Int)),0,0,[],(⟨0,(Vector.replicate 8 (default:Int)),(Vector.replicate 8 (default:Int)),(Vector.replicate 8 (default:Int))⟩:aD),(⟨0,0,0,[]⟩:aK)⟩:aN)⟩:aI)))
 else
 (bif (m.Kind==5) then
 (some (.inl (⟨r1,m,(⟨m.Kind,m.aS,m.To,m.aG,0,[],(⟨0,0,0,(⟨(⟨0,0⟩:bB),0,0,0,[],[],[]⟩:dP),0,0,[],(⟨0,(Vector.replicate 8 (default:Int)),(Vector.replicate 8 (default:Int)),(Vector.replicate 8 (default:Int))⟩:aD),0,(Vector.replicate 8 (default:Int)),0,(⟨0,0,0,[]⟩:aK),0,0,0⟩:aB),0,(Vector.replicate 8 (default:Int)),0,0,[],(⟨0,(Vector.replicate 8 (default:Int)),(Vector.replicate 8 (default:Int)),(Vector.replicate 8 (default:Int))⟩:aD),(⟨0,0,0,[]⟩:aK)⟩:aN)⟩:aI)))
 else
 (bif (m.Kind==6) then
 (some (.inl (⟨(r1&&(decide (1≤((m.bR).length:Int)))),m,(⟨m.Kind,m.aS,m.To,(⟨0,0⟩:aT),0,m.bR,(⟨0,0,0,(⟨(⟨0,0⟩:bB),0,0,0,[],[],[]⟩:dP),0,0,[],(⟨0,(Vector.replicate 8 (default:Int)),(Vector.replicate 8 (default:Int)),(Vector.replicate 8 (default:Int))⟩:aD),0,(Vector.replicate 8 (default:Int)),0,(⟨0,0,0,[]⟩:aK),0,0,0⟩:aB),0,(Vector.replicate 8 (default:Int)),0,0,[],(⟨0,(Vector.replicate 8 (default:Int)),(Vector.replicate 8 (default:Int)),(Vector.replicate 8 (default:Int))⟩:aD),(⟨0,0,0,[]⟩:aK)⟩:aN)⟩:aI)))
 else
 (bif (m.Kind==8) then
 (some (.inl (⟨r1,m,(⟨m.Kind,m.aS,m.To,(⟨0,0⟩:aT),m.Slot,[],(⟨0,0,0,(⟨(⟨0,0⟩:bB),0,0,0,[],[],[]⟩:dP),0,0,[],(⟨0,(Vector.replicate 8 (default:Int)),(Vector.replicate 8 (default:Int)),(Vector.replicate 8 (default:Int))⟩:aD),0,(Vector.replicate 8 (default:Int)),0,(⟨0,0,0,[]⟩:aK),0,0,0⟩:aB),0,(Vector.replicate 8 (default:Int)),0,0,[],(⟨0,(Vector.replicate 8 (default:Int)),(Vector.replicate 8 (default:Int)),(Vector.replicate 8 (default:Int))⟩:aD),(⟨0,0,0,[]⟩:aK)⟩:aN)⟩:aI)))
 else
 (bif (m.Kind==9) then
 (some (.inl (⟨r1,m,(⟨m.Kind,m.aS,m.To,(⟨0,0⟩:aT),0,[],m.Entry,0,(Vector.replicate 8 (default:Int)),0,0,[],(⟨0,(Vector.replicate 8 (default:Int)),(Vector.replicate 8 (default:Int)),(Vector.replicate 8 (default:Int))⟩:aD),(⟨0,0,0,[]⟩:aK)⟩:aN)⟩:aI)))
 else
 (bif (m.Kind==10) then
 (some (.inl (⟨r1,m,(⟨m.Kind,m.aS,m.To,(⟨0,0⟩:aT),0,[],(⟨0,0,0,(⟨(⟨0,0⟩:bB),0,0,0,[],[],[]⟩:dP),0,0,[],(⟨0,(Vector.replicate 8 (default:Int)),(Vector.replicate 8 (default:Int)),(Vector.replicate 8 (default:Int))⟩:aD),0,(Vector.replicate 8 (default:Int)),0,(⟨0,0,0,[]⟩:aK),0,0,0⟩:aB),m.Number,m.aH,m.bH,0,[],(⟨0,(Vector.replicate 8 (default:Int)),(Vector.replicate 8 (default:Int)),(Vector.replicate 8 (default:Int))⟩:aD),(⟨0,0,0,[]⟩:aK)⟩:aN)⟩:aI)))
 else
 (bif (m.Kind==11) then
 ((bif r1 then eI N [m.Origin] else some default).bind fun r7 =>
 ((bif (r1&&r7) then kW N m.fP 1 else some default).bind fun r8 =>
 (some (.inl (⟨((r1&&r7)&&r8),m,(⟨m.Kind,m.aS,m.To,(⟨0,0⟩:aT),m.Slot,[],(⟨0,0,0,(⟨(⟨0,0⟩:bB),0,0,0,[],[],[]⟩:dP),0,0,[],(⟨0,(Vector.replicate 8 (default:Int)),(Vector.replicate 8 (default:Int)),(Vector.replicate 8 (default:Int))⟩:aD),0,(Vector.replicate 8 (default:Int)),0,(⟨0,0,0,[]⟩:aK),0,0,0⟩:aB),m.Number,(Vector.replicate 8 (default:Int)),0,m.Origin,m.fP,(⟨0,(Vector.replicate 8 (default:Int)),(Vector.replicate 8 (default:Int)),(Vector.replicate 8 (default:Int))⟩:aD),(⟨0,0,0,[]⟩:aK)⟩:aN)⟩:aI)))))
 else
 (bif (m.Kind==12) then
 ((bif r1 then iW N m.aY else some default).bind fun r9 =>
 (some (.inl (⟨(r1&&r9),m,(⟨m.Kind,m.aS,m.To,(⟨0,0⟩:aT),0,[],(⟨0,0,0,(⟨(⟨0,0⟩:bB),0,0,0,[],[],[]⟩:dP),0,0,[],(⟨0,(Vector.replicate 8 (default:Int)),(Vector.replicate 8 (default:Int)),(Vector.replicate 8 (default:Int))⟩:aD),0,(Vector.replicate 8 (default:Int)),0,(⟨0,0,0,[]⟩:aK),0,0,0⟩:aB),0,(Vector.replicate 8 (default:Int)),0,0,[],m.aY,(⟨0,0,0,[]⟩:aK)⟩:aN)⟩:aI))))
 else
 (bif (m.Kind==13) then
 ((bif r1 then fE N m.Part else some default).bind fun Nn =>
 (some (.inl (⟨(r1&&Nn),m,(⟨m.Kind,m.aS,m.To,(⟨0,0⟩:aT),0,[],(⟨0,0,0,(⟨(⟨0,0⟩:bB),0,0,0,[],[],[]⟩:dP),0,0,[],(⟨0,(Vector.replicate 8 (default:Int)),(Vector.replicate 8 (default:Int)),(Vector.replicate 8 (default:Int))⟩:aD),0,(Vector.replicate 8 (default:Int)),0,(⟨0,0,0,[]⟩:aK),0,0,0⟩:aB),0,(Vector.replicate 8 (default:Int)),0,0,[],(⟨0,(Vector.replicate 8 (default:Int)),(Vector.replicate 8 (default:Int)),(Vector.replicate 8 (default:Int))⟩:aD),m.Part⟩:aN)⟩:aI))))
 else
 (bif (m.Kind==14) then
 (some (.inl (⟨r1,m,(⟨m.Kind,m.aS,m.To,(⟨0,0⟩:aT),0,[],(⟨0,0,0,(⟨(⟨0,0⟩:bB),0,0,0,[],[],[]⟩:dP),0,0,[],(⟨0,(Vector.replicate 8 (default:Int)),(Vector.replicate 8 (default:Int)),(Vector.replicate 8 (default:Int))⟩:aD),0,(Vector.replicate 8 (default:Int)),0,(⟨0,0,0,[]⟩:aK),0,0,0⟩:aB),m.Number,m.aH,0,0,[],(⟨0,(Vector.replicate 8 (default:Int)),(Vector.replicate 8 (default:Int)),(Vector.replicate 8 (default:Int))⟩:aD),(⟨0,0,0,[]⟩:aK)⟩:aN)⟩:aI)))
 else
 (bif (m.Kind==15) then
 ((bif r1 then fE N m.Part else some default).bind fun Vl =>
 (some (.inl (⟨(r1&&Vl),m,(⟨m.Kind,m.aS,m.To,(⟨0,0⟩:aT),m.Slot,[],(⟨0,0,0,(⟨(⟨0,0⟩:bB),0,0,0,[],[],[]⟩:dP),0,0,[],(⟨0,(Vector.replicate 8 (default:Int)),(Vector.replicate 8 (default:Int)),(Vector.replicate 8 (default:Int))⟩:aD),0,(Vector.replicate 8 (default:Int)),0,(⟨0,0,0,[]⟩:aK),0,0,0⟩:aB),0,(Vector.replicate 8 (default:Int)),0,0,[],(⟨0,(Vector.replicate 8 (default:Int)),(Vector.replicate 8 (default:Int)),(Vector.replicate 8 (default:Int))⟩:aD),m.Part⟩:aN)⟩:aI))))
 else
 (some (.inl (⟨false,m,(⟨m.Kind,m.aS,m.To,(⟨0,0⟩:aT),0,[],(⟨0,0,0,(⟨(⟨0,0⟩:bB),0,0,0,[],[],[]⟩:dP),0,0,[],(⟨0,(Vector.replicate 8 (default:Int)),(Vector.replicate 8 (default:Int)),(Vector.replicate 8 (default:Int))⟩:aD),0,(Vector.replicate 8 (default:Int)),0,(⟨0,0,0,[]⟩:aK),0,0,0⟩:aB),0,(Vector.replicate 8 (default:Int)),0,0,[],(⟨0,(Vector.replicate 8 (default:Int)),(Vector.replicate 8 (default:Int)),(Vector.replicate 8 (default:Int))⟩:aD),(⟨0,0,0,[]⟩:aK)⟩:aN)⟩:aI))))))))))))))))
 else
 (bif (m.Kind==7) then
 (some (.inl (⟨r1,m,(⟨m.Kind,m.aS,m.To,m.aG,m.Slot,[],(⟨0,0,0,(⟨(⟨0,0⟩:bB),0,0,0,[],[],[]⟩:dP),0,0,[],(⟨0,(Vector.replicate 8 (default:Int)),(Vector.replicate 8 (default:Int)),(Vector.replicate 8 (default:Int))⟩:aD),0,(Vector.replicate 8 (default:Int)),0,(⟨0,0,0,[]⟩:aK),0,0,0⟩:aB),0,(Vector.replicate 8 (default:Int)),0,0,[],(⟨0,(Vector.replicate 8 (default:Int)),(Vector.replicate 8 (default:Int)),(Vector.replicate 8 (default:Int))⟩:aD),(⟨0,0,0,[]⟩:aK)⟩:aN)⟩:aI)))
 else
 (bif (m.Kind==2) then
 (some (.inl (⟨r1,m,(⟨m.Kind,m.aS,m.To,m.aG,m.Slot,m.bR,(⟨0,0,0,(⟨(⟨0,0⟩:bB),0,0,0,[],[],[]⟩:dP),0,0,[],(⟨0,(Vector.replicate 8 (default:Int)),(Vector.replicate 8 (default:Int)),(Vector.replicate 8 (default:Int))⟩:aD),0,(Vector.replicate 8 (default:Int)),0,(⟨0,0,0,[]⟩:aK),0,0,0⟩:aB),0,(Vector.replicate 8 (default:Int)),0,0,[],(⟨0,(Vector.replicate 8 (default:Int)),(Vector.replicate 8 (default:Int)),(Vector.replicate 8 (default:Int))⟩:aD),(⟨0,0,0,[]⟩:aK)⟩:aN)⟩:aI)))
 else
 (bif (m.Kind==3) then
 (some (.inl (⟨(r1&&(((m.bR).length:Int)==1)),m,(⟨m.Kind,m.aS,m.To,m.aG,0,m.bR,(⟨0,0,0,(⟨(⟨0,0⟩:bB),0,0,0,[],[],[]⟩:dP),0,0,[],(⟨0,(Vector.replicate 8 (default:Int)),(Vector.replicate 8 (default:Int)),(Vector.replicate 8 (default:Int))⟩:aD),0,(Vector.replicate 8 (default:Int)),0,(⟨0,0,0,[]⟩:aK),0,0,0⟩:aB),0,(Vector.replicate 8 (default:Int)),0,0,[],(⟨0,(Vector.replicate 8 (default:Int)),(Vector.replicate 8 (default:Int)),(Vector.replicate 8 (default:Int))⟩:aD),(⟨0,0,0,[]⟩:aK)⟩:aN)⟩:aI)))
 else
 (bif (m.Kind==5) then
 (some (.inl (⟨r1,m,(⟨m.Kind,m.aS,m.To,m.aG,0,[],(⟨0,0,0,(⟨(⟨0,0⟩:bB),0,0,0,[],[],[]⟩:dP),0,0,[],(⟨0,(Vector.replicate 8 (default:Int)),(Vector.replicate 8 (default:Int)),(Vector.replicate 8 (default:Int))⟩:aD),0,(Vector.replicate 8 (default:Int)),0,(⟨0,0,0,[]⟩:aK),0,0,0⟩:aB),0,(Vector.replicate 8 (default:Int)),0,0,[],(⟨0,(Vector.replicate 8 (default:Int)),(Vector.replicate 8 (default:Int)),(Vector.replicate 8 (default:Int))⟩:aD),(⟨0,0,0,[]⟩:aK)⟩:aN)⟩:aI)))
 else
 (bif (m.Kind==6) then
 (some (.inl (⟨(r1&&(decide (1≤((m.bR).length:Int)))),m,(⟨m.Kind,m.aS,m.To,(⟨0,0⟩:aT),0,m.bR,(⟨0,0,0,(⟨(⟨0,0⟩:bB),0,0,0,[],[],[]⟩:dP),0,0,[],(⟨0,(Vector.replicate 8 (default:Int)),(Vector.replicate 8 (default:Int)),(Vector.replicate 8 (default:Int))⟩:aD),0,(Vector.replicate 8 (default:Int)),0,(⟨0,0,0,[]⟩:aK),0,0,0⟩:aB),0,(Vector.replicate 8 (default:Int)),0,0,[],(⟨0,(Vector.replicate 8 (default:Int)),(Vector.replicate 8 (default:Int)),(Vector.replicate 8 (default:Int))⟩:aD),(⟨0,0,0,[]⟩:aK)⟩:aN)⟩:aI)))
 else
 (bif (m.Kind==8) then
 (some (.inl (⟨r1,m,(⟨m.Kind,m.aS,m.To,(⟨0,0⟩:aT),m.Slot,[],(⟨0,0,0,(⟨(⟨0,0⟩:bB),0,0,0,[],[],[]⟩:dP),0,0,[],(⟨0,(Vector.replicate 8 (default:Int)),(Vector.replicate 8 (default:Int)),(Vector.replicate 8 (default:Int))⟩:aD),0,(Vector.replicate 8 (default:Int)),0,(⟨0,0,0,[]⟩:aK),0,0,0⟩:aB),0,(Vector.replicate 8 (default:Int)),0,0,[],(⟨0,(Vector.replicate 8 (default:Int)),(Vector.replicate 8 (default:Int)),(Vector.replicate 8 (default:Int))⟩:aD),(⟨0,0,0,[]⟩:aK)⟩:aN)⟩:aI)))
 else
 (bif (m.Kind==9) then
 (some (.inl (⟨r1,m,(⟨m.Kind,m.aS,m.To,(⟨0,0⟩:aT),0,[],m.Entry,0,(Vector.replicate 8 (default:Int)),0,0,[],(⟨0,(Vector.replicate 8 (default:Int)),(Vector.replicate 8 (default:Int)),(Vector.replicate 8 (default:Int))⟩:aD),(⟨0,0,0,[]⟩:aK)⟩:aN)⟩:aI)))
 else
 (bif (m.Kind==10) then
 (some (.inl (⟨r1,m,(⟨m.Kind,m.aS,m.To,(⟨0,0⟩:aT),0,[],(⟨0,0,0,(⟨(⟨0,0⟩:bB),0,0,0,[],[],[]⟩:dP),0,0,[],(⟨0,(Vector.replicate 8 (default:Int)),(Vector.replicate 8 (default:Int)),(Vector.replicate 8 (default:Int))⟩:aD),0,(Vector.replicate 8 (default:Int)),0,(⟨0,0,0,[]⟩:aK),0,0,0⟩:aB),m.Number,m.aH,m.bH,0,[],(⟨0,(Vector.replicate 8 (default:Int)),(Vector.replicate 8 (default:Int)),(Vector.replicate 8 (default:Int))⟩:aD),(⟨0,0,0,[]⟩:aK)⟩:aN)⟩:aI)))
 else
 (bif (m.Kind==11) then
 ((bif r1 then eI N [m.Origin] else some default).bind fun Tt =>
 ((bif (r1&&Tt) then kW N m.fP 1 else some default).bind fun EJ =>
 (some (.inl (⟨((r1&&Tt)&&EJ),m,(⟨m.Kind,m.aS,m.To,(⟨0,0⟩:aT),m.Slot,[],(⟨0,0,0,(⟨(⟨0,0⟩:bB),0,0,0,[],[],[]⟩:dP),0,0,[],(⟨0,(Vector.replicate 8 (default:Int)),(Vector.replicate 8 (default:Int)),(Vector.replicate 8 (default:Int))⟩:aD),0,(Vector.replicate 8 (default:Int)),0,(⟨0,0,0,[]⟩:aK),0,0,0⟩:aB),m.Number,(Vector.replicate 8 (default:Int)),0,m.Origin,m.fP,(⟨0,(Vector.replicate 8 (default:Int)),(Vector.replicate 8 (default:Int)),(Vector.replicate 8 (default:Int))⟩:aD),(⟨0,0,0,[]⟩:aK)⟩:aN)⟩:aI)))))
 else
 (bif (m.Kind==12) then
 ((bif r1 then iW N m.aY else some default).bind fun JX =>
 (some (.inl (⟨(r1&&JX),m,(⟨m.Kind,m.aS,m.To,(⟨0,0⟩:aT),0,[],(⟨0,0,0,(⟨(⟨0,0⟩:bB),0,0,0,[],[],[]⟩:dP),0,0,[],(⟨0,(Vector.replicate 8 (default:Int)),(Vector.replicate 8 (default:Int)),(Vector.replicate 8 (default:Int))⟩:aD),0,(Vector.replicate 8 (default:Int)),0,(⟨0,0,0,[]⟩:aK),0,0,0⟩:aB),0,(Vector.replicate 8 (default:Int)),0,0,[],m.aY,(⟨0,0,0,[]⟩:aK)⟩:aN)⟩:aI))))
 else
 (bif (m.Kind==13) then
 ((bif r1 then fE N m.Part else some default).bind fun Ci =>
 (some (.inl (⟨(r1&&Ci),m,(⟨m.Kind,m.aS,m.To,(⟨0,0⟩:aT),0,[],(⟨0,0,0,(⟨(⟨0,0⟩:bB),0,0,0,[],[],[]⟩:dP),0,0,[],(⟨0,(Vector.replicate 8 (default:Int)),(Vector.replicate 8 (default:Int)),(Vector.replicate 8 (default:Int))⟩:aD),0,(Vector.replicate 8 (default:Int)),0,(⟨0,0,0,[]⟩:aK),0,0,0⟩:aB),0,(Vector.replicate 8 (default:Int)),0,0,[],(⟨0,(Vector.replicate 8 (default:Int)),(Vector.replicate 8 (default:Int)),(Vector.replicate 8 (default:Int))⟩:aD),m.Part⟩:aN)⟩:aI))))
 else
 (bif (m.Kind==14) then
 (some (.inl (⟨r1,m,(⟨m.Kind,m.aS,m.To,(⟨0,0⟩:aT),0,[],(⟨0,0,0,(⟨(⟨0,0⟩:bB),0,0,0,[],[],[]⟩:dP),0,0,[],(⟨0,(Vector.replicate 8 (default:Int)),(Vector.replicate 8 (default:Int)),(Vector.replicate 8 (default:Int))⟩:aD),0,(Vector.replicate 8 (default:Int)),0,(⟨0,0,0,[]⟩:aK),0,0,0⟩:aB),m.Number,m.aH,0,0,[],(⟨0,(Vector.replicate 8 (default:Int)),(Vector.replicate 8 (default:Int)),(Vector.replicate 8 (default:Int))⟩:aD),(⟨0,0,0,[]⟩:aK)⟩:aN)⟩:aI)))
 else
 (bif (m.Kind==15) then
 ((bif r1 then fE N m.Part else some default).bind fun Jh =>
 (some (.inl (⟨(r1&&Jh),m,(⟨m.Kind,m.aS,m.To,(⟨0,0⟩:aT),m.Slot,[],(⟨0,0,0,(⟨(⟨0,0⟩:bB),0,0,0,[],[],[]⟩:dP),0,0,[],(⟨0,(Vector.replicate 8 (default:Int)),(Vector.replicate 8 (default:Int)),(Vector.replicate 8 (default:Int))⟩:aD),0,(Vector.replicate 8 (default:Int)),0,(⟨0,0,0,[]⟩:aK),0,0,0⟩:aB),0,(Vector.replicate 8 (default:Int)),0,0,[],(⟨0,(Vector.replicate 8 (default:Int)),(Vector.replicate 8 (default:Int)),(Vector.replicate 8 (default:Int))⟩:aD),m.Part⟩:aN)⟩:aI))))
 else
 (some (.inl (⟨false,m,(⟨m.Kind,m.aS,m.To,(⟨0,0⟩:aT),0,[],(⟨0,0,0,(⟨(⟨0,0⟩:bB),0,0,0,[],[],[]⟩:dP),0,0,[],(⟨0,(Vector.replicate 8 (default:Int)),(Vector.replicate 8 (default:Int)),(Vector.replicate 8 (default:Int))⟩:aD),0,(Vector.replicate 8 (default:Int)),0,(⟨0,0,0,[]⟩:aK),0,0,0⟩:aB),0,(Vector.replicate 8 (default:Int)),0,0,[],(⟨0,(Vector.replicate 8 (default:Int)),(Vector.replicate 8 (default:Int)),(Vector.replicate 8 (default:Int))⟩:aD),(⟨0,0,0,[]⟩:aK)⟩:aN)⟩:aI)))))))))))))))))))
def wI (N:Nat)(m:aN)(s:aI):Option (Int) :=
 ((bif s.ok then uH N s.b1.aG else some default).bind fun Kc =>
 ((bif (s.ok&&Kc) then cK N [s.b1.Slot,s.b1.Number,s.b1.bH] else some default).bind fun j7 =>
 (bif ((s.ok&&Kc)&&j7) then
 ((bif ((s.ok&&Kc)&&j7) then cK N (s.b1.aH.toList) else some default).bind fun R5 =>
 ((bif (((s.ok&&Kc)&&j7)&&R5) then rP N s.b1.bR 0 4096 else some default).bind fun fh =>
 ((bif ((((s.ok&&Kc)&&j7)&&R5)&&fh) then cP N s.b1.Entry else some default).bind fun fj =>
 ((bif (((((s.ok&&Kc)&&j7)&&R5)&&fh)&&(fj==0)) then yM N s.b1 s.b0 else some default).bind fun V5 =>
 ((bW N ((((((s.ok&&Kc)&&j7)&&R5)&&fh)&&(fj==0))&&V5)).bind fun QV =>
 (some QV))))))
 else
 ((bif false then rP N s.b1.bR 0 4096 else some default).bind fun kr =>
 ((bif false then cP N s.b1.Entry else some default).bind fun cl =>
 ((bif false then yM N s.b1 s.b0 else some default).bind fun qf =>
 ((bW N false).bind fun fk =>
 (some fk))))))))
def vW (N:Nat)(m:aN):Option (Int) :=
 (cI N m).bind fun z=>match z with | .inl s=>wI N m s | .inr r=>some r
def xL:dL τ:=cn [.ty 43] [] (.ty 48) [] (fun N a b=>vW N a.1) fun r=>(r,())
noncomputable def LI:Zr τ:={ D:=D0,mi:=KX [(89,Hy),(90,Bn),(91,Co),(92,xM),(93,Ai),(94,vU),(95,jV),(96,Bm),(97,uS),(99,Hx),(98,Aj)],lp:=UT [],k0:=0,mu:=[],un:=[] }
theorem Vf:aR E C 51 xL :=
 aCg (D:=LI) ⟨sn,E6,Mf ⟨SI,⟨Xc,⟨DH,⟨Vg,⟨Yq,⟨Sk,⟨sE,⟨JN,⟨Oi,⟨SH,⟨Yr,trivial⟩⟩⟩⟩⟩⟩⟩⟩⟩⟩⟩,fun _=>rfl⟩ xL (fun a b=>a) none (fun _ _=>rfl) rfl (fun _ _ h=>nomatch h) 1000000 [true,true,true,true,false] IX (fun N a b=>cI N a.1) (fun N a b s=>wI N a.1 s) (by intro N a b;kernel_rfl) (fn:=Tryz.f51) Tryz.func51 rfl (by kernel_rfl) (by kernel_rfl) rfl (by kernel_rfl) (by intro a b s;kernel_rfl) (by intro N a b;kernel_rfl) (by intro N a b s;kernel_rfl)
def Mk (N:Nat)  : Option (Bool×(List (Int))) :=
 (some (true,[]))
def Ii:dL τ:=cn [] [] (.ptr 0 []) [.box (.agg [.ty 4,.own 5 1]),.tail] (fun N a b=>Mk N ) fun r=>((),((r.1,r.2,()),(),()))
theorem SP:aR E C 52 Ii:=gQ Ii [] [] 0 [] [] trivial (fun a b=>(b.1.1,b.1.2.1)) Tryz.func52 rfl (by intro N a b;kernel_rfl)
structure nZ where
 u:Int
 b:List (Int)
def Nx:List Sl:=[.k,.k,.k,.sh (.ty 12),.sh (.own 5 0),.k,.k,.k,.k,.k,.k,.k,.j,.j,.j,.j,.j,.j,.j,.j,.j,.j,.k,.k,.k,.k,.k]
def Mw:List bZ:=[.tail]
def WY (a:Sl.Ts τ Nx)(b:bZ.Ts τ Mw):nZ:=⟨a.2.2.2.1,a.2.2.2.2.1⟩
def WS (s:nZ):Sl.Ts τ Nx:=((),(),(),s.u,s.b,(),(),(),(),(),(),(),(),(),(),(),(),(),(),(),(),(),(),(),(),(),(),())
def WJ (s:nZ):bZ.Ts τ Mw:=((),())
def WC:Lp τ:={ ts:=Nx,hs:=Mw,S:=nZ,to:=WY,ot:=WS,oh:=WJ,hk:=[],tk:=[],eZ:=fun _ _=>rfl,eX:=fun _ _=>rfl }
def Cl (N:Nat)(n:Int):Option ((List (Int))) :=
 (bif (decide (n < 0)) then
 (iter N (fun (s1:nZ) dK =>
 (bif (decide (128≤s1.u)) then
 (bif (dG ((s1.b).length+([(bits .or .u8 (IntKind.u8.wrap s1.u) 128)]).length) 1) then
 (dK ⟨(shr .u64 s1.u 7),(s1.b++[(bits .or .u8 (IntKind.u8.wrap s1.u) 128)])⟩)
 else none)
 else
 (bif (dG ((s1.b).length+([(IntKind.u8.wrap s1.u)]).length) 1) then
 (some (s1.b++[(IntKind.u8.wrap s1.u)]))
 else none))) ⟨(bits .xor .u64 IntKind.u64.max (shl .u64 (IntKind.u64.wrap n) 1)),[]⟩)
 else
 (iter N (fun (s3:nZ) Iw =>
 (bif (decide (128≤s3.u)) then
 (bif (dG ((s3.b).length+([(bits .or .u8 (IntKind.u8.wrap s3.u) 128)]).length) 1) then
 (Iw ⟨(shr .u64 s3.u 7),(s3.b++[(bits .or .u8 (IntKind.u8.wrap s3.u) 128)])⟩)
 else none)
 else
 (bif (dG ((s3.b).length+([(IntKind.u8.wrap s3.u)]).length) 1) then
 (some (s3.b++[(IntKind.u8.wrap s3.u)]))
 else none))) ⟨(shl .u64 (IntKind.u64.wrap n) 1),[]⟩))
def Bs:dL τ:=cn [.ty 2] [] (.own 5 0) [.tail] (fun N a b=>Cl N a.1) fun r=>(r,((),()))
theorem Xh:aR E C 110 Bs:=gQ Bs [] [(5,WC)] 0 [] [] trivial (fun a b=>a) Tryz.func110 rfl (by intro N a b;kernel_rfl)
def mM (N:Nat)(b0:Bool)(yJ:List (Int)):Option (Bool×Bool×(List (Int))) :=
 (some ((!b0),b0,yJ))
def oS:dL τ:=cn [.ptr 0 []] [.box (.agg [.ty 4,.own 5 1]),.tail] (.ty 4) [.box (.agg [.ty 4,.own 5 1]),.tail] (fun N a b=>mM N b.1.1 b.1.2.1) fun r=>(r.1,((r.2.1,r.2.2,()),(),()))
theorem Jd:aR E C 113 oS:=gQ oS [] [] 2 [] [] trivial (fun a b=>(a,b.1.1,b.1.2.1)) Tryz.func113 rfl (by intro N a b;kernel_rfl)
structure iX where
 n:Int
 t19:Int
def wZ:List Sl:=[.k,.k,.k,.k,.j,.sh (.ty 2),.k,.j,.k,.k,.k,.k,.k,.k,.k,.k,.k,.k,.k,.sh (.ty 2),.j,.j,.j,.j,.j,.j,.j,.j,.j,.j,.j,.j,.j,.k,.k,.k,.k,.k,.k,.k,.k,.k,.k,.k,.k,.k,.k,.k,.k]
def wV:List bZ:=[.iO,.iO]
def Zp (a:Sl.Ts τ wZ)(b:bZ.Ts τ wV):iX:=⟨a.2.2.2.2.2.1,a.2.2.2.2.2.2.2.2.2.2.2.2.2.2.2.2.2.2.2.1⟩
def Zd (s:iX):Sl.Ts τ wZ:=((),(),(),(),(),s.n,(),(),(),(),(),(),(),(),(),(),(),(),(),s.t19,(),(),(),(),(),(),(),(),(),(),(),(),(),(),(),(),(),(),(),(),(),(),(),(),(),(),(),(),(),())
def Yp (s:iX):bZ.Ts τ wV:=((),(),())
def Yl:Lp τ:={ ts:=wZ,hs:=wV,S:=iX,to:=Zp,ot:=Zd,oh:=Yp,hk:=[2,5],tk:=[2,0,0,0,0,0,0,0,0,0,2,0,2,2,2],eZ:=fun _ _=>rfl,eX:=fun _ _=>rfl }
structure fW where
 t35:Int
 b0:Bool
 yJ:List (Int)
def vK:List Sl:=[.k,.k,.k,.k,.k,.k,.k,.k,.k,.j,.k,.k,.k,.k,.k,.k,.k,.k,.k,.k,.k,.k,.k,.k,.k,.k,.k,.k,.k,.k,.k,.k,.k,.k,.k,.sh (.ty 2),.j,.j,.j,.j,.j,.j,.j,.j,.j,.j,.j,.j,.j]
def vH:List bZ:=[.box (.agg [.ty 4,.own 5 2]),.dead,.tail]
def Xq (a:Sl.Ts τ vK)(b:bZ.Ts τ vH):fW:=⟨a.2.2.2.2.2.2.2.2.2.2.2.2.2.2.2.2.2.2.2.2.2.2.2.2.2.2.2.2.2.2.2.2.2.2.2.1,b.1.1,b.1.2.1⟩
def Xj (s:fW):Sl.Ts τ vK:=((),(),(),(),(),(),(),(),(),(),(),(),(),(),(),(),(),(),(),(),(),(),(),(),(),(),(),(),(),(),(),(),(),(),(),s.t35,(),(),(),(),(),(),(),(),(),(),(),(),(),())
def Wl (s:fW):bZ.Ts τ vH:=((s.b0,s.yJ,()),(),(),())
def Wj:Lp τ:={ ts:=vK,hs:=vH,S:=fW,to:=Xq,ot:=Xj,oh:=Wl,hk:=[2,5],tk:=[2,0,0,0,0,0,0,0,0,0,2,0,2,2,2],eZ:=fun _ _=>rfl,eX:=fun _ _=>rfl }
def nX (N:Nat)(l:List (List (Int)))(b0:Bool)(yJ:List (Int)):Option (Int×Bool×(List (Int))) :=
 ((mM N b0 yJ).bind fun r1 =>
 (bif r1.1 then
 (some (2,r1.2.1,r1.2.2))
 else
 (iter N (fun (s2:iX) wW =>
 (bif (decide (s2.t19 < ((l).length:Int))) then
 (bif (nI s2.t19 ((l).length:Int)) then
 (bif (decide ((IntKind.i64.wrap (1048576 - s2.n)) < (((aE l s2.t19 default)).length:Int))) then
 (some (3,r1.2.1,r1.2.2))
 else
 (wW ⟨(IntKind.i64.wrap (s2.n+(((aE l s2.t19 default)).length:Int))),(IntKind.i64.wrap (s2.t19+1))⟩))
 else none)
 else
 (iter N (fun (s4:fW) bh =>
 (bif (decide (s4.t35 < ((l).length:Int))) then
 (bif (nI s4.t35 ((l).length:Int)) then
 (bif (dG ((s4.yJ).length+((aE l s4.t35 default)).length) 1) then
 (bh ⟨(IntKind.i64.wrap (s4.t35+1)),s4.b0,(s4.yJ++(aE l s4.t35 default))⟩)
 else none)
 else none)
 else
 (some (0,s4.b0,s4.yJ)))) ⟨0,r1.2.1,r1.2.2⟩))) ⟨((r1.2.2).length:Int),0⟩)))
def qM:dL τ:=cn [.ptr 0 [],.ty 201] [.box (.agg [.ty 4,.own 5 1]),.tail] (.ty 48) [.box (.agg [.ty 4,.own 5 2]),.dead,.tail] (fun N a b=>nX N a.2.1 b.1.1 b.1.2.1) fun r=>(r.1,((r.2.1,r.2.2,()),(),(),()))
theorem Kb:aR E C 170 qM:=gQ qM [(113,oS)] [(5,Yl),(12,Wj)] 2 [] [] ⟨Jd,trivial⟩ (fun a b=>(a,b.1.1,b.1.2.1)) Tryz.func170 rfl (by intro N a b;kernel_rfl)
def nW (N:Nat)(n:Int)(b0:Bool)(yJ:List (Int)):Option (Int×Bool×(List (Int))) :=
 ((Cl N n).bind fun r1 =>
 ((nX N [r1] b0 yJ).bind fun r2 =>
 (some (r2.1,r2.2.1,r2.2.2))))
def qL:dL τ:=cn [.ptr 0 [],.ty 2] [.box (.agg [.ty 4,.own 5 1]),.tail] (.ty 48) [.box (.agg [.ty 4,.own 5 2]),.dead,.tail] (fun N a b=>nW N a.2.1 b.1.1 b.1.2.1) fun r=>(r.1,((r.2.1,r.2.2,()),(),(),()))
theorem Ka:aR E C 139 qL:=gQ qL [(110,Bs),(170,qM)] [] 2 [] [] ⟨Xh,⟨Kb,trivial⟩⟩ (fun a b=>(a,b.1.1,b.1.2.1)) Tryz.func139 rfl (by intro N a b;kernel_rfl)
def fR (N:Nat)(e:Int)(b0:Int)(b1:Bool)(Ed:List (Int)):Option (Int×Bool×(List (Int))) :=
 (bif (b0==0) then
 (some (e,b1,Ed))
 else
 (some (b0,b1,Ed)))
def gI:dL τ:=cn [.ptr 0 [],.ty 48] [.box (.agg [.ptr 1 [],.ty 48]),.box (.agg [.ty 4,.own 5 2]),.tail] (.jE []) [.box (.agg [.ptr 1 [],.ty 48]),.box (.agg [.ty 4,.own 5 2]),.tail] (fun N a b=>fR N a.2.1 b.1.2.1 b.2.1.1 b.2.1.2.1) fun r=>((),(((),r.1,()),(r.2.1,r.2.2,()),(),()))
theorem nS:aR E C 138 gI:=gQ gI [] [] 3 [] [] trivial (fun a b=>(b.1.2.1,b.2.1.1,b.2.1.2.1)) Tryz.func138 rfl (by intro N a b;kernel_rfl)
structure fS where
 t8:Int
 b0:Int
 b1:Bool
 Ed:List (Int)
def qW:List Sl:=[.k,.k,.k,.k,.k,.j,.k,.k,.sh (.ty 2),.j,.j,.j,.j,.j,.j,.j,.j,.j,.j,.j,.j]
def qQ:List bZ:=[.box (.agg [.ptr 1 [],.ty 2]),.box (.agg [.ty 4,.own 5 3]),.dead,.tail]
def Qe (a:Sl.Ts τ qW)(b:bZ.Ts τ qQ):fS:=⟨a.2.2.2.2.2.2.2.2.1,b.1.2.1,b.2.1.1,b.2.1.2.1⟩
def Pw (s:fS):Sl.Ts τ qW:=((),(),(),(),(),(),(),(),s.t8,(),(),(),(),(),(),(),(),(),(),(),(),())
def Pn (s:fS):bZ.Ts τ qQ:=(((),s.b0,()),(s.b1,s.Ed,()),(),(),())
def Pe:Lp τ:={ ts:=qW,hs:=qQ,S:=fS,to:=Qe,ot:=Pw,oh:=Pn,hk:=[2,2,5],tk:=[2],eZ:=fun _ _=>rfl,eX:=fun _ _=>rfl }
def aU (N:Nat)(l:List (Int))(b0:Int)(b1:Bool)(Ed:List (Int)):Option (Int×Bool×(List (Int))) :=
 (iter N (fun (s1:fS) dK =>
 (bif (decide (s1.t8 < ((l).length:Int))) then
 (bif (nI s1.t8 ((l).length:Int)) then
 ((nW N (aE l s1.t8 default) s1.b1 s1.Ed).bind fun r3 =>
 ((fR N r3.1 s1.b0 r3.2.1 r3.2.2).bind fun r4 =>
 (dK ⟨(IntKind.i64.wrap (s1.t8+1)),r4.1,r4.2.1,r4.2.2⟩)))
 else none)
 else
 (some (s1.b0,s1.b1,s1.Ed)))) ⟨0,b0,b1,Ed⟩)
def cJ:dL τ:=cn [.ptr 0 [],.ty 194] [.box (.agg [.ptr 1 [],.ty 48]),.box (.agg [.ty 4,.own 5 2]),.tail] (.jE []) [.box (.agg [.ptr 1 [],.ty 48]),.box (.agg [.ty 4,.own 5 3]),.dead,.tail] (fun N a b=>aU N a.2.1 b.1.2.1 b.2.1.1 b.2.1.2.1) fun r=>((),(((),r.1,()),(r.2.1,r.2.2,()),(),(),()))
theorem dS:aR E C 100 cJ:=gQ cJ [(139,qL),(138,gI)] [(1,Pe)] 3 [] [] ⟨Ka,⟨nS,trivial⟩⟩ (fun a b=>(b.1.2.1,b.2.1.1,b.2.1.2.1)) Tryz.func100 rfl (by intro N a b;kernel_rfl)
def kE (N:Nat)(a:bV)(b0:Int)(b1:Bool)(Ed:List (Int)):Option (Int×Bool×(List (Int))) :=
 ((aU N [a.cR,a.aJ] b0 b1 Ed).bind fun r1 =>
 (some (r1.1,r1.2.1,r1.2.2)))
def tT:dL τ:=cn [.ptr 0 [],.ty 23] [.box (.agg [.ptr 1 [],.ty 48]),.box (.agg [.ty 4,.own 5 2]),.tail] (.jE []) [.box (.agg [.ptr 1 [],.ty 48]),.box (.agg [.ty 4,.own 5 3]),.dead,.tail] (fun N a b=>kE N a.2.1 b.1.2.1 b.2.1.1 b.2.1.2.1) fun r=>((),(((),r.1,()),(r.2.1,r.2.2,()),(),(),()))
theorem Xd:aR E C 101 tT:=gQ tT [(100,cJ)] [] 3 [] [] ⟨dS,trivial⟩ (fun a b=>(b.1.2.1,b.2.1.1,b.2.1.2.1)) Tryz.func101 rfl (by intro N a b;kernel_rfl)
structure gE where
 t8:Int
 b0:Int
 b1:Bool
 Ed:List (Int)
def sI:List Sl:=[.k,.k,.k,.k,.k,.j,.k,.k,.sh (.ty 2),.j,.j,.j,.j,.j,.j,.j,.j,.j,.j,.j,.j]
def sB:List bZ:=[.box (.agg [.ptr 1 [],.ty 2]),.box (.agg [.ty 4,.own 5 3]),.dead,.tail]
def Ti (a:Sl.Ts τ sI)(b:bZ.Ts τ sB):gE:=⟨a.2.2.2.2.2.2.2.2.1,b.1.2.1,b.2.1.1,b.2.1.2.1⟩
def Tc (s:gE):Sl.Ts τ sI:=((),(),(),(),(),(),(),(),s.t8,(),(),(),(),(),(),(),(),(),(),(),(),())
def Sd (s:gE):bZ.Ts τ sB:=(((),s.b0,()),(s.b1,s.Ed,()),(),(),())
def Rz:Lp τ:={ ts:=sI,hs:=sB,S:=gE,to:=Ti,ot:=Tc,oh:=Sd,hk:=[2,2,5],tk:=[2],eZ:=fun _ _=>rfl,eX:=fun _ _=>rfl }
def aC (N:Nat)(l:List (Int))(b0:Int)(b1:Bool)(Ed:List (Int)):Option (Int×Bool×(List (Int))) :=
 (iter N (fun (s1:gE) dK =>
 (bif (decide (s1.t8 < ((l).length:Int))) then
 (bif (nI s1.t8 ((l).length:Int)) then
 ((nW N (aE l s1.t8 default) s1.b1 s1.Ed).bind fun r3 =>
 ((fR N r3.1 s1.b0 r3.2.1 r3.2.2).bind fun r4 =>
 (dK ⟨(IntKind.i64.wrap (s1.t8+1)),r4.1,r4.2.1,r4.2.2⟩)))
 else none)
 else
 (some (s1.b0,s1.b1,s1.Ed)))) ⟨0,b0,b1,Ed⟩)
def dR:dL τ:=cn [.ptr 0 [],.ty 60] [.box (.agg [.ptr 1 [],.ty 48]),.box (.agg [.ty 4,.own 5 2]),.tail] (.jE []) [.box (.agg [.ptr 1 [],.ty 48]),.box (.agg [.ty 4,.own 5 3]),.dead,.tail] (fun N a b=>aC N a.2.1 b.1.2.1 b.2.1.1 b.2.1.2.1) fun r=>((),(((),r.1,()),(r.2.1,r.2.2,()),(),(),()))
theorem fM:aR E C 103 dR:=gQ dR [(139,qL),(138,gI)] [(1,Rz)] 3 [] [] ⟨Ka,⟨nS,trivial⟩⟩ (fun a b=>(b.1.2.1,b.2.1.1,b.2.1.2.1)) Tryz.func103 rfl (by intro N a b;kernel_rfl)
def bQ (N:Nat)(b:aT)(b0:Int)(b1:Bool)(Ed:List (Int)):Option (Int×Bool×(List (Int))) :=
 ((aC N [b.Round] b0 b1 Ed).bind fun r1 =>
 ((aU N [b.aJ] r1.1 r1.2.1 r1.2.2).bind fun r2 =>
 (some (r2.1,r2.2.1,r2.2.2))))
def kP:dL τ:=cn [.ptr 0 [],.ty 25] [.box (.agg [.ptr 1 [],.ty 48]),.box (.agg [.ty 4,.own 5 2]),.tail] (.jE []) [.box (.agg [.ptr 1 [],.ty 48]),.box (.agg [.ty 4,.own 5 3]),.dead,.tail] (fun N a b=>bQ N a.2.1 b.1.2.1 b.2.1.1 b.2.1.2.1) fun r=>((),(((),r.1,()),(r.2.1,r.2.2,()),(),(),()))
theorem Cc:aR E C 102 kP:=gQ kP [(103,dR),(100,cJ)] [] 3 [] [] ⟨fM,⟨dS,trivial⟩⟩ (fun a b=>(b.1.2.1,b.2.1.1,b.2.1.2.1)) Tryz.func102 rfl (by intro N a b;kernel_rfl)
def lD (N:Nat)(b:List (Int))(b0:Bool)(yJ:List (Int)):Option (Int×Bool×(List (Int))) :=
 ((Cl N ((b).length:Int)).bind fun r1 =>
 ((nX N [r1,b] b0 yJ).bind fun r2 =>
 (some (r2.1,r2.2.1,r2.2.2))))
def nQ:dL τ:=cn [.ptr 0 [],.ty 37] [.box (.agg [.ty 4,.own 5 1]),.tail] (.ty 48) [.box (.agg [.ty 4,.own 5 2]),.dead,.tail] (fun N a b=>lD N a.2.1 b.1.1 b.1.2.1) fun r=>(r.1,((r.2.1,r.2.2,()),(),(),()))
theorem He:aR E C 141 nQ:=gQ nQ [(110,Bs),(170,qM)] [] 2 [] [] ⟨Xh,⟨Kb,trivial⟩⟩ (fun a b=>(a,b.1.1,b.1.2.1)) Tryz.func141 rfl (by intro N a b;kernel_rfl)
def sN (N:Nat)(s:List UInt8)(b0:Bool)(yJ:List (Int)):Option (Int×Bool×(List (Int))) :=
 ((lD N (Kf s) b0 yJ).bind fun r1 =>
 (some (r1.1,r1.2.1,r1.2.2)))
def wR:dL τ:=cn [.ptr 0 [],.ty 9] [.box (.agg [.ty 4,.own 5 1]),.tail] (.ty 48) [.box (.agg [.ty 4,.own 5 2]),.dead,.tail] (fun N a b=>sN N a.2.1 b.1.1 b.1.2.1) fun r=>(r.1,((r.2.1,r.2.2,()),(),(),()))
theorem BV:aR E C 179 wR:=gQ wR [(141,nQ)] [] 2 [] [] ⟨He,trivial⟩ (fun a b=>(a,b.1.1,b.1.2.1)) Tryz.func179 rfl (by intro N a b;kernel_rfl)
structure fT where
 t8:Int
 b0:Int
 b1:Bool
 Ed:List (Int)
def qX:List Sl:=[.k,.k,.k,.k,.k,.j,.k,.k,.sh (.ty 2),.j,.j,.j,.j,.j,.j,.j,.j,.j,.j,.j,.j]
def qR:List bZ:=[.box (.agg [.ptr 1 [],.ty 2]),.box (.agg [.ty 4,.own 5 3]),.dead,.tail]
def Qf (a:Sl.Ts τ qX)(b:bZ.Ts τ qR):fT:=⟨a.2.2.2.2.2.2.2.2.1,b.1.2.1,b.2.1.1,b.2.1.2.1⟩
def Px (s:fT):Sl.Ts τ qX:=((),(),(),(),(),(),(),(),s.t8,(),(),(),(),(),(),(),(),(),(),(),(),())
def Po (s:fT):bZ.Ts τ qR:=(((),s.b0,()),(s.b1,s.Ed,()),(),(),())
def Pf:Lp τ:={ ts:=qX,hs:=qR,S:=fT,to:=Qf,ot:=Px,oh:=Po,hk:=[2,2,5],tk:=[2],eZ:=fun _ _=>rfl,eX:=fun _ _=>rfl }
def nK (N:Nat)(l:List (List UInt8))(b0:Int)(b1:Bool)(Ed:List (Int)):Option (Int×Bool×(List (Int))) :=
 (iter N (fun (s1:fT) dK =>
 (bif (decide (s1.t8 < ((l).length:Int))) then
 (bif (nI s1.t8 ((l).length:Int)) then
 ((sN N (aE l s1.t8 default) s1.b1 s1.Ed).bind fun r3 =>
 ((fR N r3.1 s1.b0 r3.2.1 r3.2.2).bind fun r4 =>
 (dK ⟨(IntKind.i64.wrap (s1.t8+1)),r4.1,r4.2.1,r4.2.2⟩)))
 else none)
 else
 (some (s1.b0,s1.b1,s1.Ed)))) ⟨0,b0,b1,Ed⟩)
def rV:dL τ:=cn [.ptr 0 [],.ty 229] [.box (.agg [.ptr 1 [],.ty 48]),.box (.agg [.ty 4,.own 5 2]),.tail] (.jE []) [.box (.agg [.ptr 1 [],.ty 48]),.box (.agg [.ty 4,.own 5 3]),.dead,.tail] (fun N a b=>nK N a.2.1 b.1.2.1 b.2.1.1 b.2.1.2.1) fun r=>((),(((),r.1,()),(r.2.1,r.2.2,()),(),(),()))
theorem Uf:aR E C 171 rV:=gQ rV [(179,wR),(138,gI)] [(1,Pf)] 3 [] [] ⟨BV,⟨nS,trivial⟩⟩ (fun a b=>(b.1.2.1,b.2.1.1,b.2.1.2.1)) Tryz.func171 rfl (by intro N a b;kernel_rfl)
def jN (N:Nat)(op:dP)(b0:Int)(b1:Bool)(Ed:List (Int)):Option (Int×Bool×(List (Int))) :=
 ((aC N [op.cG.Time] b0 b1 Ed).bind fun r1 =>
 ((aU N [op.cG.Site,op.Kind] r1.1 r1.2.1 r1.2.2).bind fun r2 =>
 ((aC N [op.Node,op.cY] r2.1 r2.2.1 r2.2.2).bind fun r3 =>
 ((nK N [op.Name,op.Key,op.Value] r3.1 r3.2.1 r3.2.2).bind fun r4 =>
 (some (r4.1,r4.2.1,r4.2.2))))))
def oR:dL τ:=cn [.ptr 0 [],.ty 30] [.box (.agg [.ptr 1 [],.ty 48]),.box (.agg [.ty 4,.own 5 2]),.tail] (.jE []) [.box (.agg [.ptr 1 [],.ty 48]),.box (.agg [.ty 4,.own 5 3]),.dead,.tail] (fun N a b=>jN N a.2.1 b.1.2.1 b.2.1.1 b.2.1.2.1) fun r=>((),(((),r.1,()),(r.2.1,r.2.2,()),(),(),()))
theorem Ja:aR E C 140 oR:=gQ oR [(103,dR),(100,cJ),(171,rV)] [] 3 [] [] ⟨fM,⟨dS,⟨Uf,trivial⟩⟩⟩ (fun a b=>(b.1.2.1,b.2.1.1,b.2.1.2.1)) Tryz.func140 rfl (by intro N a b;kernel_rfl)
structure hJ where
 t13:Int
 b0:Int
 b1:Bool
 Ed:List (Int)
def uD:List Sl:=[.k,.k,.k,.k,.k,.j,.k,.k,.k,.k,.k,.k,.k,.sh (.ty 2),.j,.j,.j,.j,.j,.j,.j]
def tY:List bZ:=[.box (.agg [.ptr 1 [],.ty 2]),.box (.agg [.ty 4,.own 5 4]),.iO,.dead,.tail]
def Ul (a:Sl.Ts τ uD)(b:bZ.Ts τ tY):hJ:=⟨a.2.2.2.2.2.2.2.2.2.2.2.2.2.1,b.1.2.1,b.2.1.1,b.2.1.2.1⟩
def Ui (s:hJ):Sl.Ts τ uD:=((),(),(),(),(),(),(),(),(),(),(),(),(),s.t13,(),(),(),(),(),(),(),())
def Ud (s:hJ):bZ.Ts τ tY:=(((),s.b0,()),(s.b1,s.Ed,()),(),(),(),())
def Ua:Lp τ:={ ts:=uD,hs:=tY,S:=hJ,to:=Ul,ot:=Ui,oh:=Ud,hk:=[2,2,1,5],tk:=[2,0,0,0,0,0,2],eZ:=fun _ _=>rfl,eX:=fun _ _=>rfl }
def gK (N:Nat)(l:List (dP))(b0:Int)(b1:Bool)(Ed:List (Int)):Option (Int×Bool×(List (Int))) :=
 ((aU N [((l).length:Int)] b0 b1 Ed).bind fun r1 =>
 (iter N (fun (s2:hJ) wW =>
 (bif (decide (s2.t13 < ((l).length:Int))) then
 (bif (nI s2.t13 ((l).length:Int)) then
 ((jN N (⟨((aE l s2.t13 default).cG),(aE l s2.t13 default).Kind,(aE l s2.t13 default).Node,(aE l s2.t13 default).cY,(aE l s2.t13 default).Name,(aE l s2.t13 default).Key,(aE l s2.t13 default).Value⟩:dP) s2.b0 s2.b1 s2.Ed).bind fun r4 =>
 (wW ⟨(IntKind.i64.wrap (s2.t13+1)),r4.1,r4.2.1,r4.2.2⟩))
 else none)
 else
 (some (s2.b0,s2.b1,s2.Ed)))) ⟨0,r1.1,r1.2.1,r1.2.2⟩))
def nN:dL τ:=cn [.ptr 0 [],.ty 31] [.box (.agg [.ptr 1 [],.ty 48]),.box (.agg [.ty 4,.own 5 2]),.tail] (.jE []) [.box (.agg [.ptr 1 [],.ty 48]),.box (.agg [.ty 4,.own 5 3]),.dead,.tail] (fun N a b=>gK N a.2.1 b.1.2.1 b.2.1.1 b.2.1.2.1) fun r=>((),(((),r.1,()),(r.2.1,r.2.2,()),(),(),()))
theorem Ha:aR E C 106 nN:=gQ nN [(100,cJ),(140,oR)] [(2,Ua)] 3 [] [] ⟨dS,⟨Ja,trivial⟩⟩ (fun a b=>(b.1.2.1,b.2.1.1,b.2.1.2.1)) Tryz.func106 rfl (by intro N a b;kernel_rfl)
def fK (N:Nat)(e:aD)(b0:Int)(b1:Bool)(Ed:List (Int)):Option (Int×Bool×(List (Int))) :=
 ((aC N [e.Number] b0 b1 Ed).bind fun r1 =>
 ((aU N (e.cB.toList) r1.1 r1.2.1 r1.2.2).bind fun r2 =>
 ((aC N (e.iD.toList) r2.1 r2.2.1 r2.2.2).bind fun r3 =>
 ((aU N (e.aV.toList) r3.1 r3.2.1 r3.2.2).bind fun r4 =>
 (some (r4.1,r4.2.1,r4.2.2))))))
def lI:dL τ:=cn [.ptr 0 [],.ty 36] [.box (.agg [.ptr 1 [],.ty 48]),.box (.agg [.ty 4,.own 5 2]),.tail] (.jE []) [.box (.agg [.ptr 1 [],.ty 48]),.box (.agg [.ty 4,.own 5 3]),.dead,.tail] (fun N a b=>fK N a.2.1 b.1.2.1 b.2.1.1 b.2.1.2.1) fun r=>((),(((),r.1,()),(r.2.1,r.2.2,()),(),(),()))
theorem Da:aR E C 107 lI:=gQ lI [(103,dR),(100,cJ)] [] 3 [] [] ⟨fM,⟨dS,trivial⟩⟩ (fun a b=>(b.1.2.1,b.2.1.1,b.2.1.2.1)) Tryz.func107 rfl (by intro N a b;kernel_rfl)
def dO (N:Nat)(p:aK)(b0:Int)(b1:Bool)(Ed:List (Int)):Option (Int×Bool×(List (Int))) :=
 ((aC N [p.Qz] b0 b1 Ed).bind fun r1 =>
 ((aU N [p.Index,p.Hq] r1.1 r1.2.1 r1.2.2).bind fun r2 =>
 ((lD N p.Data r2.2.1 r2.2.2).bind fun r3 =>
 ((fR N r3.1 r2.1 r3.2.1 r3.2.2).bind fun r4 =>
 (some (r4.1,r4.2.1,r4.2.2))))))
def mH:dL τ:=cn [.ptr 0 [],.ty 39] [.box (.agg [.ptr 1 [],.ty 48]),.box (.agg [.ty 4,.own 5 2]),.tail] (.jE []) [.box (.agg [.ptr 1 [],.ty 48]),.box (.agg [.ty 4,.own 5 3]),.dead,.tail] (fun N a b=>dO N a.2.1 b.1.2.1 b.2.1.1 b.2.1.2.1) fun r=>((),(((),r.1,()),(r.2.1,r.2.2,()),(),(),()))
theorem En:aR E C 108 mH:=gQ mH [(103,dR),(100,cJ),(141,nQ),(138,gI)] [] 3 [] [] ⟨fM,⟨dS,⟨He,⟨nS,trivial⟩⟩⟩⟩ (fun a b=>(b.1.2.1,b.2.1.1,b.2.1.2.1)) Tryz.func108 rfl (by intro N a b;kernel_rfl)
def eS (N:Nat)(e:aB)(b0:Int)(b1:Bool)(Ed:List (Int)):Option (Int×Bool×(List (Int))) :=
 ((aU N [e.Kind] b0 b1 Ed).bind fun r1 =>
 (bif (e.Kind==1) then
 ((aC N [e.cE,e.Request] r1.1 r1.2.1 r1.2.2).bind fun r2 =>
 ((jN N e.Op r2.1 r2.2.1 r2.2.2).bind fun r3 =>
 (some (r3.1,r3.2.1,r3.2.2))))
 else
 (bif (e.Kind==2) then
 ((aU N [e.Origin] r1.1 r1.2.1 r1.2.2).bind fun r4 =>
 ((aC N [e.Seq] r4.1 r4.2.1 r4.2.2).bind fun r5 =>
 ((gK N e.fP r5.1 r5.2.1 r5.2.2).bind fun r6 =>
 (some (r6.1,r6.2.1,r6.2.2)))))
 else
 (bif (e.Kind==3) then
 ((fK N e.aY r1.1 r1.2.1 r1.2.2).bind fun r7 =>
 (some (r7.1,r7.2.1,r7.2.2)))
 else
 (bif (e.Kind==4) then
 ((aC N [e.Seq] r1.1 r1.2.1 r1.2.2).bind fun r8 =>
 ((aU N [e.aS] r8.1 r8.2.1 r8.2.2).bind fun r9 =>
 ((aC N (e.aH.toList) r9.1 r9.2.1 r9.2.2).bind fun Nn =>
 ((aC N [e.bH] Nn.1 Nn.2.1 Nn.2.2).bind fun Vl =>
 (some (Vl.1,Vl.2.1,Vl.2.2))))))
 else
 (bif (e.Kind==5) then
 ((dO N e.Part r1.1 r1.2.1 r1.2.2).bind fun Tt =>
 (some (Tt.1,Tt.2.1,Tt.2.2)))
 else
 (bif (e.Kind==6) then
 ((aU N [e.Site,e.aV] r1.1 r1.2.1 r1.2.2).bind fun EJ =>
 (some (EJ.1,EJ.2.1,EJ.2.2)))
 else
 (bif (e.Kind==7) then
 ((aU N [e.Site] r1.1 r1.2.1 r1.2.2).bind fun JX =>
 (some (JX.1,JX.2.1,JX.2.2)))
 else
 (bif (e.Kind==8) then
 ((aU N [e.Site] r1.1 r1.2.1 r1.2.2).bind fun Ci =>
 ((aC N [e.Length] Ci.1 Ci.2.1 Ci.2.2).bind fun Jh =>
 (some (Jh.1,Jh.2.1,Jh.2.2))))
 else
 (some (r1.1,r1.2.1,r1.2.2)))))))))))
def lH:dL τ:=cn [.ptr 0 [],.ty 41] [.box (.agg [.ptr 1 [],.ty 48]),.box (.agg [.ty 4,.own 5 2]),.tail] (.jE []) [.box (.agg [.ptr 1 [],.ty 48]),.box (.agg [.ty 4,.own 5 3]),.dead,.tail] (fun N a b=>eS N a.2.1 b.1.2.1 b.2.1.1 b.2.1.2.1) fun r=>((),(((),r.1,()),(r.2.1,r.2.2,()),(),(),()))
theorem Cz:aR E C 105 lH:=gQ lH [(100,cJ),(103,dR),(140,oR),(106,nN),(107,lI),(108,mH)] [] 3 [] [] ⟨dS,⟨fM,⟨Ja,⟨Ha,⟨Da,⟨En,trivial⟩⟩⟩⟩⟩⟩ (fun a b=>(b.1.2.1,b.2.1.1,b.2.1.2.1)) Tryz.func105 rfl (by intro N a b;kernel_rfl)
structure gF where
 t13:Int
 b0:Int
 b1:Bool
 Ed:List (Int)
def sJ:List Sl:=[.k,.k,.k,.k,.k,.j,.k,.k,.k,.k,.k,.k,.k,.sh (.ty 2),.j,.j,.j,.j,.j,.j,.j,.j,.j,.j,.j,.j,.j,.j,.j,.j,.j]
def sC:List bZ:=[.box (.agg [.ptr 1 [],.ty 2]),.box (.agg [.ty 4,.own 5 4]),.iO,.dead,.tail]
def Tj (a:Sl.Ts τ sJ)(b:bZ.Ts τ sC):gF:=⟨a.2.2.2.2.2.2.2.2.2.2.2.2.2.1,b.1.2.1,b.2.1.1,b.2.1.2.1⟩
def Td (s:gF):Sl.Ts τ sJ:=((),(),(),(),(),(),(),(),(),(),(),(),(),s.t13,(),(),(),(),(),(),(),(),(),(),(),(),(),(),(),(),(),())
def Se (s:gF):bZ.Ts τ sC:=(((),s.b0,()),(s.b1,s.Ed,()),(),(),(),())
def Sa:Lp τ:={ ts:=sJ,hs:=sC,S:=gF,to:=Tj,ot:=Td,oh:=Se,hk:=[2,2,1,5],tk:=[2,0,0,0,0,0,2],eZ:=fun _ _=>rfl,eX:=fun _ _=>rfl }
def cO (N:Nat)(l:List (aL))(b0:Int)(b1:Bool)(Ed:List (Int)):Option (Int×Bool×(List (Int))) :=
 ((aU N [((l).length:Int)] b0 b1 Ed).bind fun r1 =>
 (iter N (fun (s2:gF) wW =>
 (bif (decide (s2.t13 < ((l).length:Int))) then
 (bif (nI s2.t13 ((l).length:Int)) then
 ((aC N [(aE l s2.t13 default).Slot] s2.b0 s2.b1 s2.Ed).bind fun r4 =>
 ((bQ N ((aE l s2.t13 default).aG) r4.1 r4.2.1 r4.2.2).bind fun r5 =>
 ((eS N (⟨((aE l s2.t13 default).Entry).Kind,((aE l s2.t13 default).Entry).cE,((aE l s2.t13 default).Entry).Request,(⟨((((aE l s2.t13 default).Entry).Op).cG),(((aE l s2.t13 default).Entry).Op).Kind,(((aE l s2.t13 default).Entry).Op).Node,(((aE l s2.t13 default).Entry).Op).cY,(((aE l s2.t13 default).Entry).Op).Name,(((aE l s2.t13 default).Entry).Op).Key,(((aE l s2.t13 default).Entry).Op).Value⟩:dP),((aE l s2.t13 default).Entry).Origin,((aE l s2.t13 default).Entry).Seq,((aE l s2.t13 default).Entry).fP,(((aE l s2.t13 default).Entry).aY),((aE l s2.t13 default).Entry).aS,((aE l s2.t13 default).Entry).aH,((aE l s2.t13 default).Entry).bH,(((aE l s2.t13 default).Entry).Part),((aE l s2.t13 default).Entry).Site,((aE l s2.t13 default).Entry).aV,((aE l s2.t13 default).Entry).Length⟩:aB) r5.1 r5.2.1 r5.2.2).bind fun r6 =>
 (wW ⟨(IntKind.i64.wrap (s2.t13+1)),r6.1,r6.2.1,r6.2.2⟩))))
 else none)
 else
 (some (s2.b0,s2.b1,s2.Ed)))) ⟨0,r1.1,r1.2.1,r1.2.2⟩))
def tU:dL τ:=cn [.ptr 0 [],.ty 26] [.box (.agg [.ptr 1 [],.ty 48]),.box (.agg [.ty 4,.own 5 2]),.tail] (.jE []) [.box (.agg [.ptr 1 [],.ty 48]),.box (.agg [.ty 4,.own 5 3]),.dead,.tail] (fun N a b=>cO N a.2.1 b.1.2.1 b.2.1.1 b.2.1.2.1) fun r=>((),(((),r.1,()),(r.2.1,r.2.2,()),(),(),()))
theorem Xe:aR E C 104 tU:=gQ tU [(100,cJ),(103,dR),(102,kP),(105,lH)] [(2,Sa)] 3 [] [] ⟨dS,⟨fM,⟨Cc,⟨Cz,trivial⟩⟩⟩⟩ (fun a b=>(b.1.2.1,b.2.1.1,b.2.1.2.1)) Tryz.func104 rfl (by intro N a b;kernel_rfl)
def pV (N:Nat)(m:aN)(b0:Int)(b1:Bool)(Ed:List (Int)):Option (Int×Bool×(List (Int))) :=
 ((aU N [m.Kind] b0 b1 Ed).bind fun r1 =>
 ((kE N m.aS r1.1 r1.2.1 r1.2.2).bind fun r2 =>
 ((kE N m.To r2.1 r2.2.1 r2.2.2).bind fun r3 =>
 (bif (m.Kind==1) then
 (bif (m.Kind==1) then
 ((bQ N m.aG r3.1 r3.2.1 r3.2.2).bind fun r4 =>
 ((aC N [m.Slot] r4.1 r4.2.1 r4.2.2).bind fun r5 =>
 (some (r5.1,r5.2.1,r5.2.2))))
 else
 (bif (m.Kind==2) then
 ((bQ N m.aG r3.1 r3.2.1 r3.2.2).bind fun r6 =>
 ((aC N [m.Slot] r6.1 r6.2.1 r6.2.2).bind fun r7 =>
 ((cO N m.bR r7.1 r7.2.1 r7.2.2).bind fun r8 =>
 (some (r8.1,r8.2.1,r8.2.2)))))
 else
 (bif (m.Kind==3) then
 ((bQ N m.aG r3.1 r3.2.1 r3.2.2).bind fun r9 =>
 ((cO N m.bR r9.1 r9.2.1 r9.2.2).bind fun Nn =>
 (some (Nn.1,Nn.2.1,Nn.2.2))))
 else
 (bif (m.Kind==5) then
 ((bQ N m.aG r3.1 r3.2.1 r3.2.2).bind fun Vl =>
 (some (Vl.1,Vl.2.1,Vl.2.2)))
 else
 (bif (m.Kind==6) then
 ((cO N m.bR r3.1 r3.2.1 r3.2.2).bind fun Tt =>
 (some (Tt.1,Tt.2.1,Tt.2.2)))
 else
 (bif (m.Kind==8) then
 ((aC N [m.Slot] r3.1 r3.2.1 r3.2.2).bind fun EJ =>
 (some (EJ.1,EJ.2.1,EJ.2.2)))
 else
 (bif (m.Kind==9) then
 ((eS N m.Entry r3.1 r3.2.1 r3.2.2).bind fun JX =>
 (some (JX.1,JX.2.1,JX.2.2)))
 else
 (bif (m.Kind==10) then
 ((aC N [m.Number] r3.1 r3.2.1 r3.2.2).bind fun Ci =>
 ((aC N (m.aH.toList) Ci.1 Ci.2.1 Ci.2.2).bind fun Jh =>
 ((aC N [m.bH] Jh.1 Jh.2.1 Jh.2.2).bind fun Kc =>
 (some (Kc.1,Kc.2.1,Kc.2.2)))))
 else
 (bif (m.Kind==11) then
 ((aC N [m.Number] r3.1 r3.2.1 r3.2.2).bind fun j7 =>
 ((aU N [m.Origin] j7.1 j7.2.1 j7.2.2).bind fun R5 =>
 ((aC N [m.Slot] R5.1 R5.2.1 R5.2.2).bind fun fh =>
 ((gK N m.fP fh.1 fh.2.1 fh.2.2).bind fun fj =>
 (some (fj.1,fj.2.1,fj.2.2))))))
 else
 (bif (m.Kind==12) then
 ((fK N m.aY r3.1 r3.2.1 r3.2.2).bind fun V5 =>
 (some (V5.1,V5.2.1,V5.2.2)))
 else
 (bif (m.Kind==13) then
 ((dO N m.Part r3.1 r3.2.1 r3.2.2).bind fun QV =>
 (some (QV.1,QV.2.1,QV.2.2)))
 else
 (bif (m.Kind==14) then
 ((aC N [m.Number] r3.1 r3.2.1 r3.2.2).bind fun kr =>
 ((aC N (m.aH.toList) kr.1 kr.2.1 kr.2.2).bind fun cl =>
 (some (cl.1,cl.2.1,cl.2.2))))
 else
 (bif (m.Kind==15) then
 ((aC N [m.Slot] r3.1 r3.2.1 r3.2.2).bind fun qf =>
 ((dO N m.Part qf.1 qf.2.1 qf.2.2).bind fun fk =>
 (some (fk.1,fk.2.1,fk.2.2))))
 else
 (some (r3.1,r3.2.1,r3.2.2)))))))))))))))
 else
 (bif (m.Kind==4) then
 (bif (m.Kind==4) then
 ((bQ N m.aG r3.1 r3.2.1 r3.2.2).bind fun QW =>
 ((aC N [m.Slot] QW.1 QW.2.1 QW.2.2).bind fun qg =>
 (some (qg.1,qg.2.1,qg.2.2))))
 else
 (bif (m.Kind==2) then
 ((bQ N m.aG r3.1 r3.2.1 r3.2.2).bind fun uv =>
 ((aC N [m.Slot] uv.1 uv.2.1 uv.2.2).bind fun V6 =>
 ((cO N m.bR V6.1 V6.2.1 V6.2.2).bind fun fm =>
 (some (fm.1,fm.2.1,fm.2.2)))))
 else
 (bif (m.Kind==3) then
 ((bQ N m.aG r3.1 r3.2.1 r3.2.2).bind fun qh =>
 ((cO N m.bR qh.1 qh.2.1 qh.2.2).bind fun qi =>
 (some (qi.1,qi.2.1,qi.2.2))))
 else
 (bif (m.Kind==5) then
 ((bQ N m.aG r3.1 r3.2.1 r3.2.2).bind fun r35 =>
 (some (r35.1,r35.2.1,r35.2.2)))
 else
 (bif (m.Kind==6) then
 ((cO N m.bR r3.1 r3.2.1 r3.2.2).bind fun wx =>
 (some (wx.1,wx.2.1,wx.2.2)))
 else
 (bif (m.Kind==8) then
 ((aC N [m.Slot] r3.1 r3.2.1 r3.2.2).bind fun r37 =>
 (some (r37.1,r37.2.1,r37.2.2)))
 else
 (bif (m.Kind==9) then
 ((eS N m.Entry r3.1 r3.2.1 r3.2.2).bind fun r38 =>
 (some (r38.1,r38.2.1,r38.2.2)))
 else
 (bif (m.Kind==10) then
 ((aC N [m.Number] r3.1 r3.2.1 r3.2.2).bind fun r39 =>
 ((aC N (m.aH.toList) r39.1 r39.2.1 r39.2.2).bind fun r40 =>
 ((aC N [m.bH] r40.1 r40.2.1 r40.2.2).bind fun s7 =>
 (some (s7.1,s7.2.1,s7.2.2)))))
 else
 (bif (m.Kind==11) then
 ((aC N [m.Number] r3.1 r3.2.1 r3.2.2).bind fun r42 =>
 ((aU N [m.Origin] r42.1 r42.2.1 r42.2.2).bind fun r43 =>
 ((aC N [m.Slot] r43.1 r43.2.1 r43.2.2).bind fun r44 =>
 ((gK N m.fP r44.1 r44.2.1 r44.2.2).bind fun r45 =>
 (some (r45.1,r45.2.1,r45.2.2))))))
 else
 (bif (m.Kind==12) then
 ((fK N m.aY r3.1 r3.2.1 r3.2.2).bind fun r46 =>
 (some (r46.1,r46.2.1,r46.2.2)))
 else
 (bif (m.Kind==13) then
 ((dO N m.Part r3.1 r3.2.1 r3.2.2).bind fun s8 =>
 (some (s8.1,s8.2.1,s8.2.2)))
 else
 (bif (m.Kind==14) then
 ((aC N [m.Number] r3.1 r3.2.1 r3.2.2).bind fun r48 =>
 ((aC N (m.aH.toList) r48.1 r48.2.1 r48.2.2).bind fun r49 =>
 (some (r49.1,r49.2.1,r49.2.2))))
 else
 (bif (m.Kind==15) then
 ((aC N [m.Slot] r3.1 r3.2.1 r3.2.2).bind fun r50 =>
 ((dO N m.Part r50.1 r50.2.1 r50.2.2).bind fun r51 =>
 (some (r51.1,r51.2.1,r51.2.2))))
 else
 (some (r3.1,r3.2.1,r3.2.2)))))))))))))))
 else
 (bif (m.Kind==7) then
 ((bQ N m.aG r3.1 r3.2.1 r3.2.2).bind fun s9 =>
 ((aC N [m.Slot] s9.1 s9.2.1 s9.2.2).bind fun r53 =>
 (some (r53.1,r53.2.1,r53.2.2))))
 else
 (bif (m.Kind==2) then
 ((bQ N m.aG r3.1 r3.2.1 r3.2.2).bind fun r54 =>
 ((aC N [m.Slot] r54.1 r54.2.1 r54.2.2).bind fun r55 =>
 ((cO N m.bR r55.1 r55.2.1 r55.2.2).bind fun r56 =>
 (some (r56.1,r56.2.1,r56.2.2)))))
 else
 (bif (m.Kind==3) then
 ((bQ N m.aG r3.1 r3.2.1 r3.2.2).bind fun r57 =>
 ((cO N m.bR r57.1 r57.2.1 r57.2.2).bind fun r58 =>
 (some (r58.1,r58.2.1,r58.2.2))))
 else
 (bif (m.Kind==5) then
 ((bQ N m.aG r3.1 r3.2.1 r3.2.2).bind fun r59 =>
 (some (r59.1,r59.2.1,r59.2.2)))
 else
 (bif (m.Kind==6) then
 ((cO N m.bR r3.1 r3.2.1 r3.2.2).bind fun r60 =>
 (some (r60.1,r60.2.1,r60.2.2)))
 else
 (bif (m.Kind==8) then
 ((aC N [m.Slot] r3.1 r3.2.1 r3.2.2).bind fun r61 =>
 (some (r61.1,r61.2.1,r61.2.2)))
 else
 (bif (m.Kind==9) then
 ((eS N m.Entry r3.1 r3.2.1 r3.2.2).bind fun r62 =>
 (some (r62.1,r62.2.1,r62.2.2)))
 else
 (bif (m.Kind==10) then
 ((aC N [m.Number] r3.1 r3.2.1 r3.2.2).bind fun r63 =>
 ((aC N (m.aH.toList) r63.1 r63.2.1 r63.2.2).bind fun r64 =>
 ((aC N [m.bH] r64.1 r64.2.1 r64.2.2).bind fun R6 =>
 (some (R6.1,R6.2.1,R6.2.2)))))
 else
 (bif (m.Kind==11) then
 ((aC N [m.Number] r3.1 r3.2.1 r3.2.2).bind fun r66 =>
 ((aU N [m.Origin] r66.1 r66.2.1 r66.2.2).bind fun r67 =>
 ((aC N [m.Slot] r67.1 r67.2.1 r67.2.2).bind fun r68 =>
 ((gK N m.fP r68.1 r68.2.1 r68.2.2).bind fun r69 =>
 (some (r69.1,r69.2.1,r69.2.2))))))
 else
 (bif (m.Kind==12) then
 ((fK N m.aY r3.1 r3.2.1 r3.2.2).bind fun r70 =>
 (some (r70.1,r70.2.1,r70.2.2)))
 else
 (bif (m.Kind==13) then
 ((dO N m.Part r3.1 r3.2.1 r3.2.2).bind fun R7 =>
 (some (R7.1,R7.2.1,R7.2.2)))
 else
 (bif (m.Kind==14) then
 ((aC N [m.Number] r3.1 r3.2.1 r3.2.2).bind fun r72 =>
 ((aC N (m.aH.toList) r72.1 r72.2.1 r72.2.2).bind fun r73 =>
 (some (r73.1,r73.2.1,r73.2.2))))
 else
 (bif (m.Kind==15) then
 ((aC N [m.Slot] r3.1 r3.2.1 r3.2.2).bind fun r74 =>
 ((dO N m.Part r74.1 r74.2.1 r74.2.2).bind fun r75 =>
 (some (r75.1,r75.2.1,r75.2.2))))
 else
 (some (r3.1,r3.2.1,r3.2.2))))))))))))))))))))
def vA:dL τ:=cn [.ptr 0 [],.ty 43] [.box (.agg [.ptr 1 [],.ty 48]),.box (.agg [.ty 4,.own 5 2]),.tail] (.jE []) [.box (.agg [.ptr 1 [],.ty 48]),.box (.agg [.ty 4,.own 5 3]),.dead,.tail] (fun N a b=>pV N a.2.1 b.1.2.1 b.2.1.1 b.2.1.2.1) fun r=>((),(((),r.1,()),(r.2.1,r.2.2,()),(),(),()))
theorem Ys:aR E C 53 vA:=gQ vA [(100,cJ),(101,tT),(102,kP),(103,dR),(104,tU),(105,lH),(106,nN),(107,lI),(108,mH)] [] 3 [] [] ⟨dS,⟨Xd,⟨Cc,⟨fM,⟨Xe,⟨Cz,⟨Ha,⟨Da,⟨En,trivial⟩⟩⟩⟩⟩⟩⟩⟩⟩ (fun a b=>(b.1.2.1,b.2.1.1,b.2.1.2.1)) Tryz.func53 rfl (by intro N a b;kernel_rfl)
def xG (N:Nat)(s:List (Int)):Option ((List (Int))) :=
 (bif (dG (0+(s).length) 1) then
 (some ([]++s))
 else none)
def Eh:dL τ:=cn [.nn 5] [] (.ty 37) [] (fun N a b=>xG N a.1) fun r=>(r,())
theorem Zb:aR E C 40 Eh:=gQ Eh [] [] 0 [] [] trivial (fun a b=>a) Tryz.func40 rfl (by intro N a b;kernel_rfl)
def Zw (N:Nat)  : Option ((List (Int))) :=
 (some [])
def vD:dL τ:=cn [.nil .slice] [] (.ty 37) [] (fun N a b=>Zw N ) fun r=>(r,())
theorem Za:aR E C 40 vD:=gQ vD [] [] 0 [] [] trivial (fun a b=>a) Tryz.func40 rfl (by intro N a b;kernel_rfl)
def jY (N:Nat)(s:List (Int)):Option ((List (Int))):=xG N s
def kL:dL τ:=cn [.ty 37] [] (.ty 37) [] (fun N a b=>jY N a.1) fun r=>(r,())
theorem vV:aR E C 40 kL:=by
 intro N a b r h
 obtain⟨x0,u⟩:=a
 refine mT.split (pre:=[]) (post:=[]) (fun h0=>?_) (Zb N (x0,u) b r h)
 have h0:x0=[]:=List.map_eq_nil_iff.1 h0
 subst h0
 exact Za N ((),u) b r ((show vD.F N ((),u) b=kL.F N ([],u) b from by kernel_rfl).trans h)
def uM (N:Nat)(b0:Bool)(yJ:List (Int)):Option ((List (Int))×Bool×(List (Int))) :=
 ((mM N b0 yJ).bind fun r1 =>
 (bif r1.1 then
 (some ([],r1.2.1,r1.2.2))
 else
 ((jY N r1.2.2).bind fun r2 =>
 (some (r2,r1.2.1,r1.2.2)))))
def xW:dL τ:=cn [.ptr 0 []] [.box (.agg [.ty 4,.own 5 1]),.tail] (.ty 37) [.box (.agg [.ty 4,.own 5 1]),.tail] (fun N a b=>uM N b.1.1 b.1.2.1) fun r=>(r.1,((r.2.1,r.2.2,()),(),()))
theorem EE:aR E C 55 xW:=gQ xW [(113,oS),(40,kL)] [] 2 [] [] ⟨Jd,⟨vV,trivial⟩⟩ (fun a b=>(a,b.1.1,b.1.2.1)) Tryz.func55 rfl (by intro N a b;kernel_rfl)
structure Gp where
 sum:Int
 t11:Int
def CY:List Sl:=[.k,.k,.k,.sh (.ty 138),.k,.j,.k,.j,.j,.k,.k,.sh (.ty 2),.j,.j,.j,.j,.j,.j,.j,.j,.j,.j,.j,.j,.j,.j,.j,.j,.j,.j,.j,.j,.j,.j,.j,.j,.j,.j,.k,.k]
def AU:List bZ:=[]
def U1 (a:Sl.Ts τ CY)(b:bZ.Ts τ AU):Gp:=⟨a.2.2.2.1,a.2.2.2.2.2.2.2.2.2.2.2.1⟩
def Q9 (s:Gp):Sl.Ts τ CY:=((),(),(),s.sum,(),(),(),(),(),(),(),s.t11,(),(),(),(),(),(),(),(),(),(),(),(),(),(),(),(),(),(),(),(),(),(),(),(),(),(),(),(),())
def Q1 (s:Gp):bZ.Ts τ AU:=()
def P0:Lp τ:={ ts:=CY,hs:=AU,S:=Gp,to:=U1,ot:=Q9,oh:=Q1,hk:=[],tk:=[],eZ:=fun _ _=>rfl,eX:=fun _ _=>rfl }
structure Bd where
 sum:Int
 t17:Int
def CZ:List Sl:=[.k,.k,.k,.sh (.ty 138),.k,.k,.k,.j,.j,.k,.k,.k,.k,.k,.k,.k,.k,.sh (.ty 2),.j,.j,.j,.j,.j,.j,.j,.j,.j,.j,.j,.j,.j,.j,.j,.j,.j,.j,.j,.k,.k,.k]
def AW:List bZ:=[]
def U2 (a:Sl.Ts τ CZ)(b:bZ.Ts τ AW):Bd:=⟨a.2.2.2.1,a.2.2.2.2.2.2.2.2.2.2.2.2.2.2.2.2.2.1⟩
def R0 (s:Bd):Sl.Ts τ CZ:=((),(),(),s.sum,(),(),(),(),(),(),(),(),(),(),(),(),(),s.t17,(),(),(),(),(),(),(),(),(),(),(),(),(),(),(),(),(),(),(),(),(),(),())
def Q2 (s:Bd):bZ.Ts τ AW:=()
def P1:Lp τ:={ ts:=CZ,hs:=AW,S:=Bd,to:=U2,ot:=R0,oh:=Q2,hk:=[],tk:=[],eZ:=fun _ _=>rfl,eX:=fun _ _=>rfl }
structure uQ where
 sum:Int
 t25:Int
def Xv:List Sl:=[.k,.k,.k,.sh (.ty 138),.k,.k,.k,.k,.j,.k,.k,.k,.k,.k,.k,.k,.k,.k,.k,.k,.k,.k,.k,.k,.k,.sh (.ty 2),.j,.j,.j,.j,.j,.j,.j,.j,.j,.j,.k,.k,.k,.k]
def Wg:List bZ:=[]
def D1 (a:Sl.Ts τ Xv)(b:bZ.Ts τ Wg):uQ:=⟨a.2.2.2.1,a.2.2.2.2.2.2.2.2.2.2.2.2.2.2.2.2.2.2.2.2.2.2.2.2.2.1⟩
def B6 (s:uQ):Sl.Ts τ Xv:=((),(),(),s.sum,(),(),(),(),(),(),(),(),(),(),(),(),(),(),(),(),(),(),(),(),(),s.t25,(),(),(),(),(),(),(),(),(),(),(),(),(),(),())
def A7 (s:uQ):bZ.Ts τ Wg:=()
def z9:Lp τ:={ ts:=Xv,hs:=Wg,S:=uQ,to:=D1,ot:=B6,oh:=A7,hk:=[],tk:=[],eZ:=fun _ _=>rfl,eX:=fun _ _=>rfl }
def Xy (N:Nat)(l:List (List (Int))):Option (Int) :=
 (iter N (fun (s1:Gp) dK =>
 (bif (decide (s1.t11 < ((l).length:Int))) then
 (bif (nI s1.t11 ((l).length:Int)) then
 (iter N (fun (s3:Bd) Iw =>
 (bif (decide (s3.t17 < (((aE l s1.t11 default)).length:Int))) then
 (bif (nI s3.t17 (((aE l s1.t11 default)).length:Int)) then
 (iter N (fun (s5:uQ) KT =>
 (bif (decide (s5.t25 < 8)) then
 (bif ((bits .and .u32 s5.sum 1)==1) then
 (KT ⟨(bits .xor .u32 (shr .u32 s5.sum 1) 3988292384),(IntKind.i64.wrap (s5.t25+1))⟩)
 else
 (KT ⟨(shr .u32 s5.sum 1),(IntKind.i64.wrap (s5.t25+1))⟩))
 else
 (Iw ⟨s5.sum,(IntKind.i64.wrap (s3.t17+1))⟩))) ⟨(bits .xor .u32 s3.sum (IntKind.u32.wrap (aE (aE l s1.t11 default) s3.t17 default))),0⟩)
 else none)
 else
 (dK ⟨s3.sum,(IntKind.i64.wrap (s1.t11+1))⟩))) ⟨s1.sum,0⟩)
 else none)
 else
 (some (bits .xor .u32 IntKind.u32.max s1.sum)))) ⟨4294967295,0⟩)
def Us:dL τ:=cn [.ty 201] [] (.ty 138) [] (fun N a b=>Xy N a.1) fun r=>(r,())
theorem c9:aR E C 112 Us:=gQ Us [] [(3,P0),(6,P1),(10,z9)] 0 [] [] trivial (fun a b=>a) Tryz.func112 rfl (by intro N a b;kernel_rfl)
def Qx (N:Nat)(sum:Int):Option ((List (Int))) :=
 (some [(IntKind.u8.wrap sum),(IntKind.u8.wrap (shr .u32 sum 8)),(IntKind.u8.wrap (shr .u32 sum 16)),(IntKind.u8.wrap (shr .u32 sum 24))])
def Ou:dL τ:=cn [.ty 138] [] (.ty 37) [] (fun N a b=>Qx N a.1) fun r=>(r,())
theorem VC:aR E C 111 Ou:=gQ Ou [] [] 0 [] [] trivial (fun a b=>a) Tryz.func111 rfl (by intro N a b;kernel_rfl)
def sM (N:Nat)(n:Int):Option (Nat×(List (Int))) :=
 (bif (decide (n < 0)) then
 none
 else
 (bif (decide (0 < (IntKind.i64.wrap (n - 0)))) then
 (bif (wu (IntKind.i64.wrap (n - 0)) 1) then
 (bif (DP 0 0 ((((IntKind.i64.wrap (n - 0))).toNat:Nat):Int)) then
 (some (0,(List.replicate (((IntKind.i64.wrap (n - 0))).toNat) 0)))
 else none)
 else none)
 else
 (some (0,[]))))
def wP:dL τ:=cn [.nil .slice,.ty 3] [] (.mS 5 0) [.eD 5] (fun N a b=>sM N a.2.1) fun r=>(r.1,(r.2,()))
theorem BT:aR E C 142 wP:=gQ wP [] [] 0 [22] [] trivial (fun a b=>(a,b.1)) Tryz.func142 rfl (by intro N a b;kernel_rfl)
structure gG where
 size:Int
 t11:Int
def sK:List Sl:=[.k,.k,.k,.sh (.ty 2),.k,.j,.k,.k,.k,.k,.k,.sh (.ty 2),.j,.j,.j,.j,.j,.j,.j,.j,.j,.j,.j,.k,.k,.k,.k,.k,.k,.k,.k,.k,.k,.k,.k,.k]
def sD:List bZ:=[]
def Tk (a:Sl.Ts τ sK)(b:bZ.Ts τ sD):gG:=⟨a.2.2.2.1,a.2.2.2.2.2.2.2.2.2.2.2.1⟩
def Te (s:gG):Sl.Ts τ sK:=((),(),(),s.size,(),(),(),(),(),(),(),s.t11,(),(),(),(),(),(),(),(),(),(),(),(),(),(),(),(),(),(),(),(),(),(),(),(),())
def Sf (s:gG):bZ.Ts τ sD:=()
def Sb:Lp τ:={ ts:=sK,hs:=sD,S:=gG,to:=Tk,ot:=Te,oh:=Sf,hk:=[],tk:=[],eZ:=fun _ _=>rfl,eX:=fun _ _=>rfl }
structure fU where
 Lv:Nat
 t27:Int
 g1:List (Int)
def qY:List Sl:=[.k,.k,.k,.k,.k,.k,.sh (.mS 5 1),.k,.j,.k,.k,.k,.k,.k,.k,.k,.k,.k,.k,.k,.k,.k,.k,.k,.k,.k,.k,.sh (.ty 2),.j,.j,.j,.j,.j,.j,.j,.k]
def qS:List bZ:=[.dead,.eD 5]
def Qg (a:Sl.Ts τ qY)(b:bZ.Ts τ qS):fU:=⟨a.2.2.2.2.2.2.1,a.2.2.2.2.2.2.2.2.2.2.2.2.2.2.2.2.2.2.2.2.2.2.2.2.2.2.2.1,b.2.1⟩
def Py (s:fU):Sl.Ts τ qY:=((),(),(),(),(),(),s.Lv,(),(),(),(),(),(),(),(),(),(),(),(),(),(),(),(),(),(),(),(),s.t27,(),(),(),(),(),(),(),(),())
def Pq (s:fU):bZ.Ts τ qS:=((),s.g1,())
def Pg:Lp τ:={ ts:=qY,hs:=qS,S:=fU,to:=Qg,ot:=Py,oh:=Pq,hk:=[4],tk:=[],eZ:=fun _ _=>rfl,eX:=fun _ _=>rfl }
def oL (N:Nat)(CO:List (List (Int))):Option (Nat×(List (Int))) :=
 (iter N (fun (s1:gG) dK =>
 (bif (decide (s1.t11 < ((CO).length:Int))) then
 (bif (nI s1.t11 ((CO).length:Int)) then
 (bif (decide ((IntKind.i64.wrap (s1.size+(((aE CO s1.t11 default)).length:Int))) < 0)) then
 none
 else
 (dK ⟨(IntKind.i64.wrap (s1.size+(((aE CO s1.t11 default)).length:Int))),(IntKind.i64.wrap (s1.t11+1))⟩))
 else none)
 else
 ((sM N s1.size).bind fun r3 =>
 (iter N (fun (s4:fU) bh =>
 (bif (decide (s4.t27 < ((CO).length:Int))) then
 (bif (nI s4.t27 ((CO).length:Int)) then
 (bif ((dG (s4.Lv+((aE CO s4.t27 default)).length) 1)&&(Nat.ble s4.Lv (s4.g1).length)) then
 (bh ⟨(s4.Lv+((aE CO s4.t27 default)).length),(IntKind.i64.wrap (s4.t27+1)),(s4.g1.take s4.Lv++(aE CO s4.t27 default))⟩)
 else none)
 else none)
 else
 (some (s4.Lv,s4.g1)))) ⟨r3.1,0,r3.2⟩)))) ⟨0,0⟩)
def tV:dL τ:=cn [.ty 201] [] (.mS 5 0) [.eD 5] (fun N a b=>oL N a.1) fun r=>(r.1,(r.2,()))
theorem Xg:aR E C 109 tV:=gQ tV [(142,wP)] [(3,Sb),(11,Pg)] 0 [33] [] ⟨BT,trivial⟩ (fun a b=>(a,b.1)) Tryz.func109 rfl (by intro N a b;kernel_rfl)
def Lh (N:Nat)(b:List (Int)):Option (Nat×Int×(List (Int))) :=
 (bif (decide (1048576 < ((b).length:Int))) then
 (some (0,3,[]))
 else
 ((Cl N ((b).length:Int)).bind fun r1 =>
 ((Xy N [b]).bind fun r2 =>
 ((Qx N r2).bind fun r3 =>
 ((oL N [r1,b,r3]).bind fun r4 =>
 (some (r4.1,0,r4.2)))))))
def Vw:dL τ:=cn [.ty 37] [] (.jE [.mS 5 0,.ty 48]) [.eD 5] (fun N a b=>Lh N a.1) fun r=>((r.1,r.2.1,()),(r.2.2,()))
theorem Q7:aR E C 54 Vw:=gQ Vw [(110,Bs),(112,Us),(111,Ou),(109,tV)] [] 0 [] [] ⟨Xh,⟨c9,⟨VC,⟨Xg,trivial⟩⟩⟩⟩ (fun a b=>(a.1,a.2.1,b.1)) Tryz.func54 rfl (by intro N a b;kernel_rfl)
def oU (N:Nat)(m:aN):Option (Nat×Int×(List (Int))) :=
 ((vW N m).bind fun r1 =>
 (bif (!(r1==0)) then
 (some (0,r1,[]))
 else
 ((Mk N).bind fun r2 =>
 ((pV N m 0 r2.1 r2.2).bind fun r3 =>
 (bif (!(r3.1==0)) then
 (some (0,r3.1,[]))
 else
 ((uM N r3.2.1 r3.2.2).bind fun r4 =>
 ((Lh N r4.1).bind fun r5 =>
 (some (r5.1,r5.2.1,r5.2.2)))))))))
def Hw:dL τ:=cn [.ty 43] [] (.jE [.mS 5 0,.ty 48]) [.eD 5] (fun N a b=>oU N a.1) fun r=>((r.1,r.2.1,()),(r.2.2,()))
theorem SG:aR E C 26 Hw:=gQ Hw [(51,xL),(52,Ii),(53,vA),(55,xW),(54,Vw)] [] 0 [] [] ⟨Vf,⟨SP,⟨Ys,⟨EE,⟨Q7,trivial⟩⟩⟩⟩⟩ (fun a b=>(a.1,a.2.1,b.1)) Tryz.func26 rfl (by intro N a b;kernel_rfl)
def pK (N:Nat)(from_:bV)(to:bV)(data:Hd)(b0:Nat)(yJ:Int)(Xz:Bool)(g1:List (bJ))(ms:List (Option (List (Int)))):Option (Int×Nat×Int×Bool×(List (Option (List (Int))))×(List (bJ))) :=
 (bif (((dG (b0+([(⟨(IntKind.i64.wrap (yJ+1)),from_,to,data⟩:bJ)]).length) 64)&&(Nat.ble b0 (g1).length))&&true) then
 (some ((IntKind.i64.wrap (yJ+1)),(b0+([(⟨(IntKind.i64.wrap (yJ+1)),from_,to,data⟩:bJ)]).length),(IntKind.i64.wrap (yJ+1)),Xz,ms,(g1.take b0++[(⟨(IntKind.i64.wrap (yJ+1)),from_,to,data⟩:bJ)])))
 else none)
def sP:dL τ:=cn [.ptr 0 [.sS 0 0],.ty 23,.ty 23,.ty 10005] [.box (.agg [.agg [.mS 20065 1,.ty 2],.ty 4]),.eD 20065,.aX 5] (.ty 2) [.box (.agg [.agg [.mS 20065 3,.ty 2],.ty 4]),.dead,.aX 5,.eD 20065] (fun N a b=>pK N a.2.1 a.2.2.1 a.2.2.2.1 b.1.1.1 b.1.1.2.1 b.1.2.1 b.2.1 b.2.2.1) fun r=>(r.1,(((r.2.1,r.2.2.1,()),r.2.2.2.1,()),(),r.2.2.2.2.1,r.2.2.2.2.2,()))
theorem Ma:aR E C 27 sP:=WK sP [] [] 3 [30] [] [] [] [] trivial (fun a b=>(a,b.1.1.1,b.1.1.2.1,b.1.2.1,b.2.2.1,b.2.2.2.1)) Tryz.func27 rfl (by intro N a b;kernel_rfl)
structure lW where
 many:Int
 t15:Int
 b0:Nat
 yJ:Int
 Xz:Bool
 ms:List (Option (List (Int)))
 g3:List (bJ)
def Ce:List Sl:=[.k,.k,.k,.k,.k,.k,.sh (.ty 2),.k,.j,.j,.j,.k,.k,.k,.k,.sh (.ty 2),.j,.j,.j,.j,.j,.j,.j,.j,.j,.j,.j,.j,.j,.j,.j,.j,.j,.j,.j,.j,.j,.j,.j,.j,.j,.j,.j,.j,.j,.j,.j,.k]
def Bx:List bZ:=[.box (.agg [.agg [.mS 20065 3,.ty 2],.ty 4]),.dead,.aX 5,.eD 20065]
def HO (a:Sl.Ts τ Ce)(b:bZ.Ts τ Bx):lW:=⟨a.2.2.2.2.2.2.1,a.2.2.2.2.2.2.2.2.2.2.2.2.2.2.2.1,b.1.1.1,b.1.1.2.1,b.1.2.1,b.2.2.1,b.2.2.2.1⟩
def GY (s:lW):Sl.Ts τ Ce:=((),(),(),(),(),(),s.many,(),(),(),(),(),(),(),(),s.t15,(),(),(),(),(),(),(),(),(),(),(),(),(),(),(),(),(),(),(),(),(),(),(),(),(),(),(),(),(),(),(),(),())
def GD (s:lW):bZ.Ts τ Bx:=(((s.b0,s.yJ,()),s.Xz,()),(),s.ms,s.g3,())
def FW:Lp τ:={ ts:=Ce,hs:=Bx,S:=lW,to:=HO,ot:=GY,oh:=GD,hk:=[2,4,8],tk:=[2,0,0,0,0,0,0,0,0,0,0,2],eZ:=fun _ _=>rfl,eX:=fun _ _=>rfl }
def oK (N:Nat)(l:List (aN))(b0:Nat)(yJ:Int)(Xz:Bool)(g1:List (bJ))(ms:List (Option (List (Int)))):Option (Int×Int×Nat×Int×Bool×(List (Option (List (Int))))×(List (bJ))) :=
 ((eU N b0 yJ Xz g1 ms).bind fun r1 =>
 (bif r1.1 then
 (some (0,2,r1.2.1,r1.2.2.1,r1.2.2.2.1,r1.2.2.2.2.2,r1.2.2.2.2.1))
 else
 (iter N (fun (s2:lW) wW =>
 (bif (decide (s2.t15 < ((l).length:Int))) then
 (bif (nI s2.t15 ((l).length:Int)) then
 ((oU N (⟨(aE l s2.t15 default).Kind,((aE l s2.t15 default).aS),((aE l s2.t15 default).To),((aE l s2.t15 default).aG),(aE l s2.t15 default).Slot,(aE l s2.t15 default).bR,(⟨((aE l s2.t15 default).Entry).Kind,((aE l s2.t15 default).Entry).cE,((aE l s2.t15 default).Entry).Request,(⟨((((aE l s2.t15 default).Entry).Op).cG),(((aE l s2.t15 default).Entry).Op).Kind,(((aE l s2.t15 default).Entry).Op).Node,(((aE l s2.t15 default).Entry).Op).cY,(((aE l s2.t15 default).Entry).Op).Name,(((aE l s2.t15 default).Entry).Op).Key,(((aE l s2.t15 default).Entry).Op).Value⟩:dP),((aE l s2.t15 default).Entry).Origin,((aE l s2.t15 default).Entry).Seq,((aE l s2.t15 default).Entry).fP,(((aE l s2.t15 default).Entry).aY),((aE l s2.t15 default).Entry).aS,((aE l s2.t15 default).Entry).aH,((aE l s2.t15 default).Entry).bH,(((aE l s2.t15 default).Entry).Part),((aE l s2.t15 default).Entry).Site,((aE l s2.t15 default).Entry).aV,((aE l s2.t15 default).Entry).Length⟩:aB),(aE l s2.t15 default).Number,(aE l s2.t15 default).aH,(aE l s2.t15 default).bH,(aE l s2.t15 default).Origin,(aE l s2.t15 default).fP,((aE l s2.t15 default).aY),((aE l s2.t15 default).Part)⟩:aN)).bind fun r4 =>
 (bif ((!(r4.2.1==0)) || (decide (16384≤((s2.b0:Nat):Int)))) then
 (wW ⟨s2.many,(IntKind.i64.wrap (s2.t15+1)),s2.b0,s2.yJ,s2.Xz,(s2.ms++[some r4.2.2]),s2.g3⟩)
 else
 ((pK N ((aE l s2.t15 default).aS) ((aE l s2.t15 default).To) (⟨((s2.ms).length+1),0,r4.1,r4.1,false⟩:Hd) s2.b0 s2.yJ s2.Xz s2.g3 (s2.ms++[some r4.2.2])).bind fun r5 =>
 (wW ⟨(IntKind.i64.wrap (s2.many+1)),(IntKind.i64.wrap (s2.t15+1)),r5.2.1,r5.2.2.1,r5.2.2.2.1,r5.2.2.2.2.1,r5.2.2.2.2.2⟩))))
 else none)
 else
 (some (s2.many,0,s2.b0,s2.yJ,s2.Xz,s2.ms,s2.g3)))) ⟨0,0,r1.2.1,r1.2.2.1,r1.2.2.2.1,r1.2.2.2.2.2,r1.2.2.2.2.1⟩)))
def vS:dL τ:=cn [.ptr 0 [],.ty 59] [.box (.agg [.agg [.mS 20065 1,.ty 2],.ty 4]),.eD 20065,.aX 5] (.jE [.ty 3,.ty 48]) [.box (.agg [.agg [.mS 20065 3,.ty 2],.ty 4]),.dead,.aX 5,.eD 20065] (fun N a b=>oK N a.2.1 b.1.1.1 b.1.1.2.1 b.1.2.1 b.2.1 b.2.2.1) fun r=>((r.1,r.2.1,()),(((r.2.2.1,r.2.2.2.1,()),r.2.2.2.2.1,()),(),r.2.2.2.2.2.1,r.2.2.2.2.2.2,()))
theorem Si:aR E C 10 vS:=WK vS [(25,iA),(26,Hw),(27,sP)] [(5,FW)] 3 [] [] [21] [] [] ⟨nE,⟨SG,⟨Ma,trivial⟩⟩⟩ (fun a b=>(a.1,a.2.1,b.1.1.1,b.1.1.2.1,b.1.2.1,b.2.2.1,b.2.2.2.1)) Tryz.func10 rfl (by intro N a b;kernel_rfl)
def zK (N:Nat)(s:bJ)(b0:Int)(ms:List (Option (List (Int)))):Option (Bool×Int×(List (Option (List (Int))))) :=
 (some ((s.Number==b0),b0,ms))
def wM:dL τ:=cn [.ty 20065,.ptr 0 []] [.box (.ty 2),.aX 5] (.ty 4) [.box (.ty 2),.aX 5] (fun N a b=>zK N a.1 b.1 b.2.1) fun r=>(r.1,(r.2.1,r.2.2,()))
theorem BP:aR E C 118 wM:=WK wM [] [] 2 [] [] [] [] [] trivial (fun a b=>(a,b.1,b.2.1)) Tryz.func118 rfl (by intro N a b;kernel_rfl)
structure gT where
 t8:Int
 b1:Int
 ms:List (Option (List (Int)))
def oG:List Sl:=[.k,.k,.k,.k,.j,.j,.k,.k,.sh (.ty 2),.j,.j,.j,.j,.j,.j,.j,.j,.j,.j]
def oD:List bZ:=[.iO,.box (.ty 2),.aX 5]
def Mg (a:Sl.Ts τ oG)(b:bZ.Ts τ oD):gT:=⟨a.2.2.2.2.2.2.2.2.1,b.2.1,b.2.2.1⟩
def Mb (s:gT):Sl.Ts τ oG:=((),(),(),(),(),(),(),(),s.t8,(),(),(),(),(),(),(),(),(),(),())
def Lx (s:gT):bZ.Ts τ oD:=((),s.b1,s.ms,())
def Lt:Lp τ:={ ts:=oG,hs:=oD,S:=gT,to:=Mg,ot:=Mb,oh:=Lx,hk:=[4,2,8],tk:=[],eZ:=fun _ _=>rfl,eX:=fun _ _=>rfl }
def kZ (N:Nat)(s:Nat)(g0:List (bJ))(b1:Int)(ms:List (Option (List (Int)))):Option (Int×(List (bJ))×Int×(List (Option (List (Int))))) :=
 (iter N (fun (s1:gT) dK =>
 (bif (decide (s1.t8 < ((s:Nat):Int))) then
 (bif (nI s1.t8 ((s:Nat):Int)) then
 (bif (decide ((s1.t8).toNat < (g0).length)) then
 ((zK N (⟨(g0.getD ((s1.t8).toNat) default).Number,((g0.getD ((s1.t8).toNat) default).aS),((g0.getD ((s1.t8).toNat) default).To),((g0.getD ((s1.t8).toNat) default).Data)⟩:bJ) s1.b1 s1.ms).bind fun r3 =>
 (bif r3.1 then
 (some (s1.t8,g0,r3.2.1,r3.2.2))
 else
 (dK ⟨(IntKind.i64.wrap (s1.t8+1)),r3.2.1,r3.2.2⟩)))
 else none)
 else none)
 else
 (some ((-1),g0,s1.b1,s1.ms)))) ⟨0,b1,ms⟩)
def oX:dL τ:=cn [.mS 20065 0,.fn 118 [.ptr 1 []]] [.eD 20065,.box (.ty 2),.aX 5] (.ty 3) [.eD 20065,.box (.ty 2),.aX 5] (fun N a b=>kZ N a.1 b.1 b.2.1 b.2.2.1) fun r=>(r.1,(r.2.1,r.2.2.1,r.2.2.2,()))
theorem Pt:aR E C 87 oX:=WK oX [(118,wM)] [(2,Lt)] 3 [] [] [] [] [] ⟨BP,trivial⟩ (fun a b=>(a,b.1,b.2.1,b.2.2.1)) Tryz.func87 rfl (by intro N a b;kernel_rfl)
def vP (N:Nat)(number:Int)(b0:Nat)(yJ:Int)(Xz:Bool)(g1:List (bJ))(ms:List (Option (List (Int)))):Option (Int×Bool×Nat×Int×Bool×(List (bJ))×(List (Option (List (Int))))) :=
 ((kZ N b0 g1 number ms).bind fun r1 =>
 (some (r1.1,(decide (0≤r1.1)),b0,yJ,Xz,r1.2.1,r1.2.2.2)))
def zO:dL τ:=cn [.ptr 0 [.sS 0 0],.ty 2] [.box (.agg [.agg [.mS 20065 1,.ty 2],.ty 4]),.eD 20065,.aX 5] (.jE [.ty 3,.ty 4]) [.box (.agg [.agg [.mS 20065 1,.ty 2],.ty 4]),.eD 20065,.aX 5] (fun N a b=>vP N a.2.1 b.1.1.1 b.1.1.2.1 b.1.2.1 b.2.1 b.2.2.1) fun r=>((r.1,r.2.1,()),(((r.2.2.1,r.2.2.2.1,()),r.2.2.2.2.1,()),r.2.2.2.2.2.1,r.2.2.2.2.2.2,()))
theorem GJ:aR E C 76 zO:=WK zO [(87,oX)] [] 3 [] [] [] [] [] ⟨Pt,trivial⟩ (fun a b=>(a.1,a.2.1,b.1.1.1,b.1.1.2.1,b.1.2.1,b.2.1,b.2.2.1)) Tryz.func76 rfl (by intro N a b;kernel_rfl)
def jU (N:Nat)(number:Int)(b0:Nat)(yJ:Int)(Xz:Bool)(g1:List (bJ))(ms:List (Option (List (Int)))):Option (Int×Int×Nat×Int×Bool×(List (bJ))×(List (Option (List (Int))))) :=
 ((eU N b0 yJ Xz g1 ms).bind fun r1 =>
 (bif r1.1 then
 (some (0,2,r1.2.1,r1.2.2.1,r1.2.2.2.1,r1.2.2.2.2.1,r1.2.2.2.2.2))
 else
 ((vP N number r1.2.1 r1.2.2.1 r1.2.2.2.1 r1.2.2.2.2.1 r1.2.2.2.2.2).bind fun r2 =>
 (bif (!r2.2.1) then
 (some (0,4,r2.2.2.1,r2.2.2.2.1,r2.2.2.2.2.1,r2.2.2.2.2.2.1,r2.2.2.2.2.2.2))
 else
 (some (r2.1,0,r2.2.2.1,r2.2.2.2.1,r2.2.2.2.2.1,r2.2.2.2.2.2.1,r2.2.2.2.2.2.2))))))
def oP:dL τ:=cn [.ptr 0 [],.ty 2] [.box (.agg [.agg [.mS 20065 1,.ty 2],.ty 4]),.eD 20065,.aX 5] (.jE [.ty 3,.ty 48]) [.box (.agg [.agg [.mS 20065 1,.ty 2],.ty 4]),.eD 20065,.aX 5] (fun N a b=>jU N a.2.1 b.1.1.1 b.1.1.2.1 b.1.2.1 b.2.1 b.2.2.1) fun r=>((r.1,r.2.1,()),(((r.2.2.1,r.2.2.2.1,()),r.2.2.2.2.1,()),r.2.2.2.2.2.1,r.2.2.2.2.2.2,()))
theorem Cv:aR E C 31 oP:=WK oP [(25,iA),(76,zO)] [] 3 [] [] [] [] [] ⟨nE,⟨GJ,trivial⟩⟩ (fun a b=>(a.1,a.2.1,b.1.1.1,b.1.1.2.1,b.1.2.1,b.2.1,b.2.2.1)) Tryz.func31 rfl (by intro N a b;kernel_rfl)
def kH (N:Nat)(s:Nat)(i:Int)(j:Int)(g0:List (bJ))(ms:List (Option (List (Int)))):Option (Nat×(List (Option (List (Int))))×(List (bJ))) :=
 (bif (AG i j ((s:Nat):Int) ((s:Nat):Int)) then
 (bif (i==j) then
 (some (s,ms,g0))
 else
 (bif (AG 0 i ((s:Nat):Int) ((s:Nat):Int)) then
 (bif (AG j ((s:Nat):Int) ((s:Nat):Int) ((s:Nat):Int)) then
 (bif (((dG ((i).toNat+(((g0.drop (0+(j).toNat)).take (s - (j).toNat))).length) 64)&&(Nat.ble ((i).toNat) (g0).length))&&(Nat.ble ((0+(j).toNat)+(s - (j).toNat)) (g0).length)) then
 (bif (AG ((((i).toNat+(((g0.drop (0+(j).toNat)).take (s - (j).toNat))).length):Nat):Int) ((s:Nat):Int) (((max s ((i).toNat+(((g0.drop (0+(j).toNat)).take (s - (j).toNat))).length)):Nat):Int) (((max s ((i).toNat+(((g0.drop (0+(j).toNat)).take (s - (j).toNat))).length)):Nat):Int)) then
 (some (((i).toNat+(((g0.drop (0+(j).toNat)).take (s - (j).toNat))).length),ms,(Kh (g0.take ((i).toNat)++((g0.drop (0+(j).toNat)).take (s - (j).toNat))) (0+(((((i).toNat+(((g0.drop (0+(j).toNat)).take (s - (j).toNat))).length):Nat):Int)).toNat) ((((s:Nat):Int)).toNat - (((((i).toNat+(((g0.drop (0+(j).toNat)).take (s - (j).toNat))).length):Nat):Int)).toNat) (⟨0,(⟨0,0⟩:bV),(⟨0,0⟩:bV),(⟨0,0,0,0,false⟩:Hd)⟩:bJ))))
 else none)
 else none)
 else none)
 else none))
 else none)
def mI:dL τ:=cn [.mS 20065 0,.ty 3,.ty 3] [.eD 20065,.aX 5] (.mS 20065 2) [.dead,.aX 5,.eD 20065] (fun N a b=>kH N a.1 a.2.1 a.2.2.1 b.1 b.2.1) fun r=>(r.1,((),r.2.1,r.2.2,()))
theorem Eo:aR E C 32 mI:=WK mI [] [] 2 [13,22,25,26,31] [] [] [] [] trivial (fun a b=>(a,b.2.1,b.2.2.1)) Tryz.func32 rfl (by intro N a b;kernel_rfl)
structure zC where
 u:Int
 t8:Int
def Tm:List Sl:=[.k,.k,.j,.j,.j,.sh (.ty 12),.j,.j,.sh (.ty 2),.j,.j,.j,.j,.j,.j,.j,.j,.j,.j,.j,.j,.j,.j,.j,.j,.j,.j,.j,.j,.j,.j,.j,.j,.j,.j,.j,.j,.j,.j,.j,.j,.j,.j,.j,.j,.j,.j,.j,.j,.j,.j,.j,.j,.j,.j,.j,.j,.j]
def Ru:List bZ:=[]
def o9 (a:Sl.Ts τ Tm)(b:bZ.Ts τ Ru):zC:=⟨a.2.2.2.2.2.1,a.2.2.2.2.2.2.2.2.1⟩
def j2 (s:zC):Sl.Ts τ Tm:=((),(),(),(),(),s.u,(),(),s.t8,(),(),(),(),(),(),(),(),(),(),(),(),(),(),(),(),(),(),(),(),(),(),(),(),(),(),(),(),(),(),(),(),(),(),(),(),(),(),(),(),(),(),(),(),(),(),(),(),(),())
def c7 (s:zC):bZ.Ts τ Ru:=()
def ZU:Lp τ:={ ts:=Tm,hs:=Ru,S:=zC,to:=o9,ot:=j2,oh:=c7,hk:=[],tk:=[],eZ:=fun _ _=>rfl,eX:=fun _ _=>rfl }
def Gn (N:Nat)(b:List (Int)):Option (Int×Int×Int) :=
 (iter N (fun (s1:zC) dK =>
 (bif (decide (s1.t8 < 10)) then
 (bif (decide (((b).length:Int)≤s1.t8)) then
 (some (0,0,10))
 else
 (bif (nI s1.t8 ((b).length:Int)) then
 (bif (((s1.t8==9)&&(decide (1 < (aE b s1.t8 default)))) || (((aE b s1.t8 default)==0)&&(decide (0 < s1.t8)))) then
 (some (0,0,11))
 else
 (bif (decide (0≤(IntKind.i64.wrap (7 * s1.t8)))) then
 (bif (decide ((aE b s1.t8 default) < 128)) then
 (bif ((bits .and .u64 (bits .or .u64 s1.u (shl .u64 (IntKind.u64.wrap (bits .and .u8 (aE b s1.t8 default) 127)) (IntKind.i64.wrap (7 * s1.t8)))) 1)==1) then
 (some ((IntKind.i64.wrap (bits .xor .u64 IntKind.u64.max (shr .u64 (bits .or .u64 s1.u (shl .u64 (IntKind.u64.wrap (bits .and .u8 (aE b s1.t8 default) 127)) (IntKind.i64.wrap (7 * s1.t8)))) 1))),(IntKind.i64.wrap (s1.t8+1)),0))
 else
 (some ((IntKind.i64.wrap (shr .u64 (bits .or .u64 s1.u (shl .u64 (IntKind.u64.wrap (bits .and .u8 (aE b s1.t8 default) 127)) (IntKind.i64.wrap (7 * s1.t8)))) 1)),(IntKind.i64.wrap (s1.t8+1)),0)))
 else
 (dK ⟨(bits .or .u64 s1.u (shl .u64 (IntKind.u64.wrap (bits .and .u8 (aE b s1.t8 default) 127)) (IntKind.i64.wrap (7 * s1.t8)))),(IntKind.i64.wrap (s1.t8+1))⟩))
 else none))
 else none))
 else
 (some (0,0,11)))) ⟨0,0⟩)
def Ei:dL τ:=cn [.ty 37] [] (.jE [.ty 2,.ty 3,.ty 48]) [] (fun N a b=>Gn N a.1) fun r=>((r.1,r.2.1,r.2.2,()),())
theorem BW:aR E C 119 Ei:=gQ Ei [] [(3,ZU)] 0 [] [] trivial (fun a b=>(a.1,a.2.1,a.2.2.1)) Tryz.func119 rfl (by intro N a b;kernel_rfl)
structure kJ where
 t13:Int
def Ac:List Sl:=[.k,.k,.k,.k,.j,.j,.k,.k,.k,.k,.k,.k,.k,.sh (.ty 2),.j,.j,.j,.j,.j,.j,.j,.j,.j,.j,.j,.j]
def zY:List bZ:=[]
def EL (a:Sl.Ts τ Ac)(b:bZ.Ts τ zY):kJ:=⟨a.2.2.2.2.2.2.2.2.2.2.2.2.2.1⟩
def EG (s:kJ):Sl.Ts τ Ac:=((),(),(),(),(),(),(),(),(),(),(),(),(),s.t13,(),(),(),(),(),(),(),(),(),(),(),(),())
def DY (s:kJ):bZ.Ts τ zY:=()
def DV:Lp τ:={ ts:=Ac,hs:=zY,S:=kJ,to:=EL,ot:=EG,oh:=DY,hk:=[],tk:=[],eZ:=fun _ _=>rfl,eX:=fun _ _=>rfl }
def xH (N:Nat)(Xm:List (Int))(Zt:List (Int)):Option (Bool) :=
 (bif (!(((Xm).length:Int)==((Zt).length:Int))) then
 (some false)
 else
 (iter N (fun (s1:kJ) dK =>
 (bif (decide (s1.t13 < ((Xm).length:Int))) then
 (bif (nI s1.t13 ((Xm).length:Int)) then
 (bif (nI s1.t13 ((Zt).length:Int)) then
 (bif (!((aE Xm s1.t13 default)==(aE Zt s1.t13 default))) then
 (some false)
 else
 (dK ⟨(IntKind.i64.wrap (s1.t13+1))⟩))
 else none)
 else none)
 else
 (some true))) ⟨0⟩))
def Bq:dL τ:=cn [.ty 37,.ty 37] [] (.ty 4) [] (fun N a b=>xH N a.1 a.2.1) fun r=>(r,())
theorem JP:aR E C 120 Bq:=gQ Bq [] [(4,DV)] 0 [] [] trivial (fun a b=>a) Tryz.func120 rfl (by intro N a b;kernel_rfl)
def Ld (N:Nat)(b:List (Int)):Option ((List (Int))×Int×Int) :=
 ((Gn N b).bind fun r1 =>
 (bif (!(r1.2.2==0)) then
 (some ([],0,r1.2.2))
 else
 (bif (decide (r1.1 < 0)) then
 (some ([],0,11))
 else
 (bif (decide (1048576 < r1.1)) then
 (some ([],0,3))
 else
 (bif (decide ((IntKind.i64.wrap (((b).length:Int) - r1.2.1)) < (IntKind.i64.wrap (r1.1+4)))) then
 (some ([],0,10))
 else
 (bif (DP (IntKind.i64.wrap (r1.2.1+r1.1)) (IntKind.i64.wrap ((IntKind.i64.wrap (r1.2.1+r1.1))+4)) ((b).length:Int)) then
 (bif (DP r1.2.1 (IntKind.i64.wrap (r1.2.1+r1.1)) ((b).length:Int)) then
 ((Xy N [(cut b r1.2.1 (IntKind.i64.wrap (r1.2.1+r1.1)))]).bind fun r2 =>
 ((Qx N r2).bind fun r3 =>
 ((xH N (cut b (IntKind.i64.wrap (r1.2.1+r1.1)) (IntKind.i64.wrap ((IntKind.i64.wrap (r1.2.1+r1.1))+4))) r3).bind fun r4 =>
 (bif (!r4) then
 (some ([],0,12))
 else
 (bif (DP r1.2.1 (IntKind.i64.wrap (r1.2.1+r1.1)) ((b).length:Int)) then
 ((jY N (cut b r1.2.1 (IntKind.i64.wrap (r1.2.1+r1.1)))).bind fun r5 =>
 (some (r5,(IntKind.i64.wrap ((IntKind.i64.wrap (r1.2.1+r1.1))+4)),0)))
 else none)))))
 else none)
 else none))))))
def Mo:dL τ:=cn [.ty 37] [] (.jE [.ty 37,.ty 3,.ty 48]) [] (fun N a b=>Ld N a.1) fun r=>((r.1,r.2.1,r.2.2,()),())
theorem e9:aR E C 77 Mo:=gQ Mo [(119,Ei),(112,Us),(111,Ou),(120,Bq),(40,kL)] [] 0 [] [] ⟨BW,⟨c9,⟨VC,⟨JP,⟨vV,trivial⟩⟩⟩⟩⟩ (fun a b=>(a.1,a.2.1,a.2.2.1)) Tryz.func77 rfl (by intro N a b;kernel_rfl)
def Eu (N:Nat)(b:List (Int)):Option (aA) :=
 ((jY N b).bind fun r1 =>
 (some (⟨true,r1⟩:aA)))
def Ih:dL τ:=cn [.ty 37] [] (.ptr 0 []) [.box (.ty 186)] (fun N a b=>Eu N a.1) fun r=>((),(r,()))
theorem SO:aR E C 78 Ih:=gQ Ih [(40,kL)] [] 0 [] [] ⟨vV,trivial⟩ (fun a b=>b.1) Tryz.func78 rfl (by intro N a b;kernel_rfl)
def iB (N:Nat)(b0:aA):Option (Bool×aA) :=
 (some ((!b0.made),b0))
def kM:dL τ:=cn [.ptr 0 []] [.box (.ty 186)] (.ty 4) [.box (.ty 186)] (fun N a b=>iB N b.1) fun r=>(r.1,(r.2,()))
theorem yD:aR E C 123 kM:=gQ kM [] [] 1 [] [] trivial (fun a b=>(a,b.1)) Tryz.func123 rfl (by intro N a b;kernel_rfl)
def uL (N:Nat)(b0:aA):Option (Int×Int×aA) :=
 ((iB N b0).bind fun r1 =>
 (bif r1.1 then
 (some (0,2,r1.2))
 else
 ((Gn N r1.2.b).bind fun r2 =>
 (bif (DP r2.2.1 ((r1.2.b).length:Int) ((r1.2.b).length:Int)) then
 (some (r2.1,r2.2.2,(⟨r1.2.made,(cut r1.2.b r2.2.1 ((r1.2.b).length:Int))⟩:aA)))
 else none))))
def xV:dL τ:=cn [.ptr 0 []] [.box (.ty 186)] (.jE [.ty 2,.ty 48]) [.box (.ty 186)] (fun N a b=>uL N b.1) fun r=>((r.1,r.2.1,()),(r.2.2,()))
theorem ED:aR E C 180 xV:=gQ xV [(123,kM),(119,Ei)] [] 1 [] [] ⟨yD,⟨BW,trivial⟩⟩ (fun a b=>(a.1,a.2.1,b.1)) Tryz.func180 rfl (by intro N a b;kernel_rfl)
def dM (N:Nat)(e:Int)(b0:Int)(b1:aA):Option (Int×aA) :=
 (bif (b0==0) then
 (some (e,b1))
 else
 (some (b0,b1)))
def gH:dL τ:=cn [.ptr 0 [],.ty 48] [.box (.agg [.ptr 1 [],.ty 48]),.box (.ty 186)] (.jE []) [.box (.agg [.ptr 1 [],.ty 48]),.box (.ty 186)] (fun N a b=>dM N a.2.1 b.1.2.1 b.2.1) fun r=>((),(((),r.1,()),r.2,()))
theorem nR:aR E C 80 gH:=gQ gH [] [] 2 [] [] trivial (fun a b=>(b.1.2.1,b.2.1)) Tryz.func80 rfl (by intro N a b;kernel_rfl)
def bC (N:Nat)(b0:Int)(b1:aA):Option (Int×Int×aA) :=
 (bif (!(b0==0)) then
 (some (0,b0,b1))
 else
 ((uL N b1).bind fun r1 =>
 ((dM N r1.2.1 b0 r1.2.2).bind fun r2 =>
 (some (r1.1,r2.1,r2.2)))))
def bG:dL τ:=cn [.ptr 0 []] [.box (.agg [.ptr 1 [],.ty 48]),.box (.ty 186)] (.ty 2) [.box (.agg [.ptr 1 [],.ty 48]),.box (.ty 186)] (fun N a b=>bC N b.1.2.1 b.2.1) fun r=>(r.1,(((),r.2.1,()),r.2.2,()))
theorem bO:aR E C 172 bG:=gQ bG [(180,xV),(80,gH)] [] 2 [] [] ⟨ED,⟨nR,trivial⟩⟩ (fun a b=>(a,b.1.2.1,b.2.1)) Tryz.func172 rfl (by intro N a b;kernel_rfl)
def bE (N:Nat)(b0:Int)(b1:aA):Option (Int×Int×aA) :=
 ((bC N b0 b1).bind fun r1 =>
 (bif (!(r1.1==(IntKind.i64.wrap (IntKind.i32.wrap r1.1)))) then
 (some ((-2),r1.2.1,r1.2.2))
 else
 (some (r1.1,r1.2.1,r1.2.2))))
def bT:dL τ:=cn [.ptr 0 []] [.box (.agg [.ptr 1 [],.ty 48]),.box (.ty 186)] (.ty 3) [.box (.agg [.ptr 1 [],.ty 48]),.box (.ty 186)] (fun N a b=>bE N b.1.2.1 b.2.1) fun r=>(r.1,(((),r.2.1,()),r.2.2,()))
theorem cF:aR E C 146 bT:=gQ bT [(172,bG)] [] 2 [] [] ⟨bO,trivial⟩ (fun a b=>(a,b.1.2.1,b.2.1)) Tryz.func146 rfl (by intro N a b;kernel_rfl)
def sY (N:Nat)(b0:Int)(b1:aN)(b2:aA):Option (Int×aN×aA) :=
 ((bE N b0 b2).bind fun r1 =>
 (some (r1.2.1,(⟨r1.1,b1.aS,b1.To,b1.aG,b1.Slot,b1.bR,b1.Entry,b1.Number,b1.aH,b1.bH,b1.Origin,b1.fP,b1.aY,b1.Part⟩:aN),r1.2.2)))
def qD:dL τ:=cn [.ptr 0 [],.ls 1 [.ptr 1 [.sS 0 0]]] [.box (.agg [.ptr 2 [],.ty 48]),.box (.ty 43),.box (.ty 186)] (.jE []) [.box (.agg [.ptr 2 [],.ty 48]),.box (.ty 43),.box (.ty 186)] (fun N a b=>sY N b.1.2.1 b.2.1 b.2.2.1) fun r=>((),(((),r.1,()),r.2.1,r.2.2,()))
theorem Ss:aR E C 121 qD:=gQ qD [(146,bT)] [] 3 [] [(1,3)] ⟨cF,trivial⟩ (fun a b=>(b.1.2.1,b.2.1,b.2.2.1)) Tryz.func121 rfl (by intro N a b;kernel_rfl)
def fD (N:Nat)(b0:Int)(b1:aN)(b2:aA):Option (Int×aN×aA) :=
 ((bE N b0 b2).bind fun r1 =>
 ((bE N r1.2.1 r1.2.2).bind fun r2 =>
 ((bE N r2.2.1 r2.2.2).bind fun r3 =>
 ((bE N r3.2.1 r3.2.2).bind fun r4 =>
 (some (r4.2.1,(⟨b1.Kind,(⟨r1.1,r2.1⟩:bV),(⟨r3.1,r4.1⟩:bV),b1.aG,b1.Slot,b1.bR,b1.Entry,b1.Number,b1.aH,b1.bH,b1.Origin,b1.fP,b1.aY,b1.Part⟩:aN),r4.2.2))))))
def qA:dL τ:=cn [.ptr 0 [],.ls 1 [.ptr 1 [.sS 1 1,.sS 0 0],.ptr 1 [.sS 1 1,.sS 1 1],.ptr 1 [.sS 2 3,.sS 0 0],.ptr 1 [.sS 2 3,.sS 1 1]]] [.box (.agg [.ptr 2 [],.ty 48]),.box (.ty 43),.box (.ty 186)] (.jE []) [.box (.agg [.ptr 2 [],.ty 48]),.box (.ty 43),.box (.ty 186)] (fun N a b=>fD N b.1.2.1 b.2.1 b.2.2.1) fun r=>((),(((),r.1,()),r.2.1,r.2.2,()))
theorem Sp:aR E C 121 qA:=gQ qA [(146,bT)] [] 3 [] [(1,6)] ⟨cF,trivial⟩ (fun a b=>(b.1.2.1,b.2.1,b.2.2.1)) Tryz.func121 rfl (by intro N a b;kernel_rfl)
def wC (N:Nat)(b0:Int)(b1:aT)(b2:aA):Option (Int×aT×aA) :=
 ((bC N b0 b2).bind fun r1 =>
 (some (r1.2.1,(⟨r1.1,b1.aJ⟩:aT),r1.2.2)))
def tN:dL τ:=cn [.ptr 0 [],.ls 1 [.ptr 1 [.sS 0 0]]] [.box (.agg [.ptr 2 [],.ty 48]),.box (.ty 25),.box (.ty 186)] (.jE []) [.box (.agg [.ptr 2 [],.ty 48]),.box (.ty 25),.box (.ty 186)] (fun N a b=>wC N b.1.2.1 b.2.1 b.2.2.1) fun r=>((),(((),r.1,()),r.2.1,r.2.2,()))
theorem Ww:aR E C 148 tN:=gQ tN [(172,bG)] [] 3 [] [(1,3)] ⟨bO,trivial⟩ (fun a b=>(b.1.2.1,b.2.1,b.2.2.1)) Tryz.func148 rfl (by intro N a b;kernel_rfl)
def tB (N:Nat)(b0:Int)(b1:aT)(b2:aA):Option (Int×aT×aA) :=
 ((bE N b0 b2).bind fun r1 =>
 (some (r1.2.1,(⟨b1.Round,r1.1⟩:aT),r1.2.2)))
def qG:dL τ:=cn [.ptr 0 [],.ls 1 [.ptr 1 [.sS 1 1]]] [.box (.agg [.ptr 2 [],.ty 48]),.box (.ty 25),.box (.ty 186)] (.jE []) [.box (.agg [.ptr 2 [],.ty 48]),.box (.ty 25),.box (.ty 186)] (fun N a b=>tB N b.1.2.1 b.2.1 b.2.2.1) fun r=>((),(((),r.1,()),r.2.1,r.2.2,()))
theorem Sw:aR E C 121 qG:=gQ qG [(146,bT)] [] 3 [] [(1,3)] ⟨cF,trivial⟩ (fun a b=>(b.1.2.1,b.2.1,b.2.2.1)) Tryz.func121 rfl (by intro N a b;kernel_rfl)
def bP (N:Nat)(b0:Int)(b1:aA):Option (aT×Int×aA) :=
 ((wC N b0 (⟨0,0⟩:aT) b1).bind fun r1 =>
 ((tB N r1.1 r1.2.1 r1.2.2).bind fun r2 =>
 (some (r2.2.1,r2.1,r2.2.2))))
def kO:dL τ:=cn [.ptr 0 []] [.box (.agg [.ptr 1 [],.ty 48]),.box (.ty 186)] (.ty 25) [.box (.agg [.ptr 1 [],.ty 48]),.box (.ty 186)] (fun N a b=>bP N b.1.2.1 b.2.1) fun r=>(r.1,(((),r.2.1,()),r.2.2,()))
theorem Cb:aR E C 147 kO:=gQ kO [(148,tN),(121,qG)] [] 2 [] [] ⟨Ww,⟨Sw,trivial⟩⟩ (fun a b=>(a,b.1.2.1,b.2.1)) Tryz.func147 rfl (by intro N a b;kernel_rfl)
def bF (N:Nat)(b0:Int)(b1:aN)(b2:aA):Option (Int×aN×aA) :=
 ((bC N b0 b2).bind fun r1 =>
 (some (r1.2.1,(⟨b1.Kind,b1.aS,b1.To,b1.aG,r1.1,b1.bR,b1.Entry,b1.Number,b1.aH,b1.bH,b1.Origin,b1.fP,b1.aY,b1.Part⟩:aN),r1.2.2)))
def tH:dL τ:=cn [.ptr 0 [],.ls 1 [.ptr 1 [.sS 4 7]]] [.box (.agg [.ptr 2 [],.ty 48]),.box (.ty 43),.box (.ty 186)] (.jE []) [.box (.agg [.ptr 2 [],.ty 48]),.box (.ty 43),.box (.ty 186)] (fun N a b=>bF N b.1.2.1 b.2.1 b.2.2.1) fun r=>((),(((),r.1,()),r.2.1,r.2.2,()))
theorem Wq:aR E C 148 tH:=gQ tH [(172,bG)] [] 3 [] [(1,3)] ⟨bO,trivial⟩ (fun a b=>(b.1.2.1,b.2.1,b.2.2.1)) Tryz.func148 rfl (by intro N a b;kernel_rfl)
def kD (N:Nat)(b0:Int)(b1:aA):Option (Int×Int×aA) :=
 ((bC N b0 b1).bind fun r1 =>
 (bif ((r1.2.1==0)&&((decide (r1.1 < 0)) || (decide (4096 < r1.1)))) then
 (some (0,40,r1.2.2))
 else
 (bif (!(r1.2.1==0)) then
 (some (0,r1.2.1,r1.2.2))
 else
 (some (r1.1,r1.2.1,r1.2.2)))))
def mF:dL τ:=cn [.ptr 0 []] [.box (.agg [.ptr 1 [],.ty 48]),.box (.ty 186)] (.ty 3) [.box (.agg [.ptr 1 [],.ty 48]),.box (.ty 186)] (fun N a b=>kD N b.1.2.1 b.2.1) fun r=>(r.1,(((),r.2.1,()),r.2.2,()))
theorem El:aR E C 173 mF:=gQ mF [(172,bG)] [] 2 [] [] ⟨bO,trivial⟩ (fun a b=>(a,b.1.2.1,b.2.1)) Tryz.func173 rfl (by intro N a b;kernel_rfl)
def vZ (N:Nat)(b0:Int)(b1:aL)(b2:aA):Option (Int×aL×aA) :=
 ((bC N b0 b2).bind fun r1 =>
 (some (r1.2.1,(⟨r1.1,b1.aG,b1.Entry⟩:aL),r1.2.2)))
def tK:dL τ:=cn [.ptr 0 [],.ls 1 [.ptr 1 [.sS 0 0]]] [.box (.agg [.ptr 2 [],.ty 48]),.box (.ty 155),.box (.ty 186)] (.jE []) [.box (.agg [.ptr 2 [],.ty 48]),.box (.ty 155),.box (.ty 186)] (fun N a b=>vZ N b.1.2.1 b.2.1 b.2.2.1) fun r=>((),(((),r.1,()),r.2.1,r.2.2,()))
theorem Wt:aR E C 148 tK:=gQ tK [(172,bG)] [] 3 [] [(1,3)] ⟨bO,trivial⟩ (fun a b=>(b.1.2.1,b.2.1,b.2.2.1)) Tryz.func148 rfl (by intro N a b;kernel_rfl)
def sZ (N:Nat)(b0:Int)(b1:aB)(b2:aA):Option (Int×aB×aA) :=
 ((bE N b0 b2).bind fun r1 =>
 (some (r1.2.1,(⟨r1.1,b1.cE,b1.Request,b1.Op,b1.Origin,b1.Seq,b1.fP,b1.aY,b1.aS,b1.aH,b1.bH,b1.Part,b1.Site,b1.aV,b1.Length⟩:aB),r1.2.2)))
def qE:dL τ:=cn [.ptr 0 [],.ls 1 [.ptr 1 [.sS 0 0]]] [.box (.agg [.ptr 2 [],.ty 48]),.box (.ty 41),.box (.ty 186)] (.jE []) [.box (.agg [.ptr 2 [],.ty 48]),.box (.ty 41),.box (.ty 186)] (fun N a b=>sZ N b.1.2.1 b.2.1 b.2.2.1) fun r=>((),(((),r.1,()),r.2.1,r.2.2,()))
theorem Su:aR E C 121 qE:=gQ qE [(146,bT)] [] 3 [] [(1,3)] ⟨cF,trivial⟩ (fun a b=>(b.1.2.1,b.2.1,b.2.2.1)) Tryz.func121 rfl (by intro N a b;kernel_rfl)
def wA (N:Nat)(b0:Int)(b1:aB)(b2:aA):Option (Int×aB×aA) :=
 ((bC N b0 b2).bind fun r1 =>
 ((bC N r1.2.1 r1.2.2).bind fun r2 =>
 (some (r2.2.1,(⟨b1.Kind,r1.1,r2.1,b1.Op,b1.Origin,b1.Seq,b1.fP,b1.aY,b1.aS,b1.aH,b1.bH,b1.Part,b1.Site,b1.aV,b1.Length⟩:aB),r2.2.2))))
def tL:dL τ:=cn [.ptr 0 [],.ls 1 [.ptr 1 [.sS 1 1],.ptr 1 [.sS 2 2]]] [.box (.agg [.ptr 2 [],.ty 48]),.box (.ty 41),.box (.ty 186)] (.jE []) [.box (.agg [.ptr 2 [],.ty 48]),.box (.ty 41),.box (.ty 186)] (fun N a b=>wA N b.1.2.1 b.2.1 b.2.2.1) fun r=>((),(((),r.1,()),r.2.1,r.2.2,()))
theorem Wu:aR E C 148 tL:=gQ tL [(172,bG)] [] 3 [] [(1,4)] ⟨bO,trivial⟩ (fun a b=>(b.1.2.1,b.2.1,b.2.2.1)) Tryz.func148 rfl (by intro N a b;kernel_rfl)
def vX (N:Nat)(b0:Int)(b1:dP)(b2:aA):Option (Int×dP×aA) :=
 ((bC N b0 b2).bind fun r1 =>
 (some (r1.2.1,(⟨(⟨r1.1,b1.cG.Site⟩:bB),b1.Kind,b1.Node,b1.cY,b1.Name,b1.Key,b1.Value⟩:dP),r1.2.2)))
def tE:dL τ:=cn [.ptr 0 [],.ls 1 [.ptr 1 [.sS 0 0,.sS 0 0]]] [.box (.agg [.ptr 2 [],.ty 48]),.box (.ty 30),.box (.ty 186)] (.jE []) [.box (.agg [.ptr 2 [],.ty 48]),.box (.ty 30),.box (.ty 186)] (fun N a b=>vX N b.1.2.1 b.2.1 b.2.2.1) fun r=>((),(((),r.1,()),r.2.1,r.2.2,()))
theorem Wn:aR E C 148 tE:=gQ tE [(172,bG)] [] 3 [] [(1,3)] ⟨bO,trivial⟩ (fun a b=>(b.1.2.1,b.2.1,b.2.2.1)) Tryz.func148 rfl (by intro N a b;kernel_rfl)
def tC (N:Nat)(b0:Int)(b1:dP)(b2:aA):Option (Int×dP×aA) :=
 ((bE N b0 b2).bind fun r1 =>
 ((bE N r1.2.1 r1.2.2).bind fun r2 =>
 (some (r2.2.1,(⟨(⟨b1.cG.Time,r1.1⟩:bB),r2.1,b1.Node,b1.cY,b1.Name,b1.Key,b1.Value⟩:dP),r2.2.2))))
def qH:dL τ:=cn [.ptr 0 [],.ls 1 [.ptr 1 [.sS 0 0,.sS 1 1],.ptr 1 [.sS 1 2]]] [.box (.agg [.ptr 2 [],.ty 48]),.box (.ty 30),.box (.ty 186)] (.jE []) [.box (.agg [.ptr 2 [],.ty 48]),.box (.ty 30),.box (.ty 186)] (fun N a b=>tC N b.1.2.1 b.2.1 b.2.2.1) fun r=>((),(((),r.1,()),r.2.1,r.2.2,()))
theorem Sx:aR E C 121 qH:=gQ qH [(146,bT)] [] 3 [] [(1,4)] ⟨cF,trivial⟩ (fun a b=>(b.1.2.1,b.2.1,b.2.2.1)) Tryz.func121 rfl (by intro N a b;kernel_rfl)
def wD (N:Nat)(b0:Int)(b1:dP)(b2:aA):Option (Int×dP×aA) :=
 ((bC N b0 b2).bind fun r1 =>
 ((bC N r1.2.1 r1.2.2).bind fun r2 =>
 (some (r2.2.1,(⟨b1.cG,b1.Kind,r1.1,r2.1,b1.Name,b1.Key,b1.Value⟩:dP),r2.2.2))))
def tO:dL τ:=cn [.ptr 0 [],.ls 1 [.ptr 1 [.sS 2 3],.ptr 1 [.sS 3 4]]] [.box (.agg [.ptr 2 [],.ty 48]),.box (.ty 30),.box (.ty 186)] (.jE []) [.box (.agg [.ptr 2 [],.ty 48]),.box (.ty 30),.box (.ty 186)] (fun N a b=>wD N b.1.2.1 b.2.1 b.2.2.1) fun r=>((),(((),r.1,()),r.2.1,r.2.2,()))
theorem Wx:aR E C 148 tO:=gQ tO [(172,bG)] [] 3 [] [(1,4)] ⟨bO,trivial⟩ (fun a b=>(b.1.2.1,b.2.1,b.2.2.1)) Tryz.func148 rfl (by intro N a b;kernel_rfl)
def lB (N:Nat)(b0:aA):Option ((List (Int))×Int×aA) :=
 ((iB N b0).bind fun r1 =>
 (bif r1.1 then
 (some ([],2,r1.2))
 else
 ((Gn N r1.2.b).bind fun r2 =>
 (bif (!(r2.2.2==0)) then
 (some ([],r2.2.2,r1.2))
 else
 (bif (decide (r2.1 < 0)) then
 (some ([],11,r1.2))
 else
 (bif (decide ((IntKind.i64.wrap (((r1.2.b).length:Int) - r2.2.1)) < r2.1)) then
 (some ([],10,r1.2))
 else
 (bif (DP r2.2.1 (IntKind.i64.wrap (r2.2.1+r2.1)) ((r1.2.b).length:Int)) then
 ((jY N (cut r1.2.b r2.2.1 (IntKind.i64.wrap (r2.2.1+r2.1)))).bind fun r3 =>
 (bif (DP (IntKind.i64.wrap (r2.2.1+r2.1)) ((r1.2.b).length:Int) ((r1.2.b).length:Int)) then
 (some (r3,0,(⟨r1.2.made,(cut r1.2.b (IntKind.i64.wrap (r2.2.1+r2.1)) ((r1.2.b).length:Int))⟩:aA)))
 else none))
 else none)))))))
def nP:dL τ:=cn [.ptr 0 []] [.box (.ty 186)] (.jE [.ty 37,.ty 48]) [.box (.ty 186)] (fun N a b=>lB N b.1) fun r=>((r.1,r.2.1,()),(r.2.2,()))
theorem Hc:aR E C 182 nP:=gQ nP [(123,kM),(119,Ei),(40,kL)] [] 1 [] [] ⟨yD,⟨BW,⟨vV,trivial⟩⟩⟩ (fun a b=>(a.1,a.2.1,b.1)) Tryz.func182 rfl (by intro N a b;kernel_rfl)
def zL (N:Nat)(b0:aA):Option ((List UInt8)×Int×aA) :=
 ((lB N b0).bind fun r1 =>
 (some ((QF r1.1),r1.2.1,r1.2.2)))
def wQ:dL τ:=cn [.ptr 0 []] [.box (.ty 186)] (.jE [.ty 9,.ty 48]) [.box (.ty 186)] (fun N a b=>zL N b.1) fun r=>((r.1,r.2.1,()),(r.2.2,()))
theorem BU:aR E C 185 wQ:=gQ wQ [(182,nP)] [] 1 [] [] ⟨Hc,trivial⟩ (fun a b=>(a.1,a.2.1,b.1)) Tryz.func185 rfl (by intro N a b;kernel_rfl)
def iL (N:Nat)(b0:Int)(b1:aA):Option ((List UInt8)×Int×aA) :=
 (bif (!(b0==0)) then
 (some ([],b0,b1))
 else
 ((zL N b1).bind fun r1 =>
 ((dM N r1.2.1 b0 r1.2.2).bind fun r2 =>
 (some (r1.1,r2.1,r2.2)))))
def tS:dL τ:=cn [.ptr 0 []] [.box (.agg [.ptr 1 [],.ty 48]),.box (.ty 186)] (.ty 9) [.box (.agg [.ptr 1 [],.ty 48]),.box (.ty 186)] (fun N a b=>iL N b.1.2.1 b.2.1) fun r=>(r.1,(((),r.2.1,()),r.2.2,()))
theorem Xb:aR E C 181 tS:=gQ tS [(185,wQ),(80,gH)] [] 2 [] [] ⟨BU,⟨nR,trivial⟩⟩ (fun a b=>(a,b.1.2.1,b.2.1)) Tryz.func181 rfl (by intro N a b;kernel_rfl)
def mK (N:Nat)(b0:Int)(b1:aA):Option (dP×Int×aA) :=
 ((vX N b0 (⟨(⟨0,0⟩:bB),0,0,0,[],[],[]⟩:dP) b1).bind fun r1 =>
 ((tC N r1.1 r1.2.1 r1.2.2).bind fun r2 =>
 ((wD N r2.1 r2.2.1 r2.2.2).bind fun r3 =>
 ((iL N r3.1 r3.2.2).bind fun r4 =>
 ((iL N r4.2.1 r4.2.2).bind fun r5 =>
 ((iL N r5.2.1 r5.2.2).bind fun r6 =>
 (some ((⟨r3.2.1.cG,r3.2.1.Kind,r3.2.1.Node,r3.2.1.cY,r4.1,r5.1,r6.1⟩:dP),r6.2.1,r6.2.2))))))))
def oQ:dL τ:=cn [.ptr 0 []] [.box (.agg [.ptr 1 [],.ty 48]),.box (.ty 186)] (.ty 30) [.box (.agg [.ptr 1 [],.ty 48]),.box (.ty 186)] (fun N a b=>mK N b.1.2.1 b.2.1) fun r=>(r.1,(((),r.2.1,()),r.2.2,()))
theorem Iz:aR E C 174 oQ:=gQ oQ [(148,tE),(121,qH),(148,tO),(181,tS)] [] 2 [] [] ⟨Wn,⟨Sx,⟨Wx,⟨Xb,trivial⟩⟩⟩⟩ (fun a b=>(a,b.1.2.1,b.2.1)) Tryz.func174 rfl (by intro N a b;kernel_rfl)
def sV (N:Nat)(b0:Int)(b1:aB)(b2:aA):Option (Int×aB×aA) :=
 ((bE N b0 b2).bind fun r1 =>
 (some (r1.2.1,(⟨b1.Kind,b1.cE,b1.Request,b1.Op,r1.1,b1.Seq,b1.fP,b1.aY,b1.aS,b1.aH,b1.bH,b1.Part,b1.Site,b1.aV,b1.Length⟩:aB),r1.2.2)))
def pY:dL τ:=cn [.ptr 0 [],.ls 1 [.ptr 1 [.sS 4 11]]] [.box (.agg [.ptr 2 [],.ty 48]),.box (.ty 41),.box (.ty 186)] (.jE []) [.box (.agg [.ptr 2 [],.ty 48]),.box (.ty 41),.box (.ty 186)] (fun N a b=>sV N b.1.2.1 b.2.1 b.2.2.1) fun r=>((),(((),r.1,()),r.2.1,r.2.2,()))
theorem Sn:aR E C 121 pY:=gQ pY [(146,bT)] [] 3 [] [(1,3)] ⟨cF,trivial⟩ (fun a b=>(b.1.2.1,b.2.1,b.2.2.1)) Tryz.func121 rfl (by intro N a b;kernel_rfl)
def kC (N:Nat)(b0:Int)(b1:aB)(b2:aA):Option (Int×aB×aA) :=
 ((bC N b0 b2).bind fun r1 =>
 (some (r1.2.1,(⟨b1.Kind,b1.cE,b1.Request,b1.Op,b1.Origin,r1.1,b1.fP,b1.aY,b1.aS,b1.aH,b1.bH,b1.Part,b1.Site,b1.aV,b1.Length⟩:aB),r1.2.2)))
def tJ:dL τ:=cn [.ptr 0 [],.ls 1 [.ptr 1 [.sS 5 12]]] [.box (.agg [.ptr 2 [],.ty 48]),.box (.ty 41),.box (.ty 186)] (.jE []) [.box (.agg [.ptr 2 [],.ty 48]),.box (.ty 41),.box (.ty 186)] (fun N a b=>kC N b.1.2.1 b.2.1 b.2.2.1) fun r=>((),(((),r.1,()),r.2.1,r.2.2,()))
theorem Ws:aR E C 148 tJ:=gQ tJ [(172,bG)] [] 3 [] [(1,3)] ⟨bO,trivial⟩ (fun a b=>(b.1.2.1,b.2.1,b.2.2.1)) Tryz.func148 rfl (by intro N a b;kernel_rfl)
structure gZ where
 l:List (dP)
 t6:Int
 b0:Int
 b1:aA
def uC:List Sl:=[.k,.k,.j,.sh (.own 30 2),.k,.k,.sh (.ty 2),.j,.j,.j,.j,.j,.j,.j,.j,.j,.j,.j,.j,.k]
def tX:List bZ:=[.box (.agg [.ptr 1 [],.ty 2]),.box (.ty 165),.tail]
def Uk (a:Sl.Ts τ uC)(b:bZ.Ts τ tX):gZ:=⟨a.2.2.2.1,a.2.2.2.2.2.2.1,b.1.2.1,b.2.1⟩
def Uh (s:gZ):Sl.Ts τ uC:=((),(),(),s.l,(),(),s.t6,(),(),(),(),(),(),(),(),(),(),(),(),(),())
def Uc (s:gZ):bZ.Ts τ tX:=(((),s.b0,()),s.b1,(),())
def Tz:Lp τ:={ ts:=uC,hs:=tX,S:=gZ,to:=Uk,ot:=Uh,oh:=Uc,hk:=[2,2],tk:=[2,0,0,0,2],eZ:=fun _ _=>rfl,eX:=fun _ _=>rfl }
def gJ (N:Nat)(b0:Int)(b1:aA):Option ((List (dP))×Int×aA) :=
 ((kD N b0 b1).bind fun r1 =>
 (iter N (fun (s2:gZ) wW =>
 (bif (decide (s2.t6 < r1.1)) then
 (bif (!(s2.b0==0)) then
 (some ([],s2.b0,s2.b1))
 else
 ((mK N s2.b0 s2.b1).bind fun r4 =>
 (bif (dG ((s2.l).length+([r4.1]).length) 88) then
 (wW ⟨(s2.l++[r4.1]),(IntKind.i64.wrap (s2.t6+1)),r4.2.1,r4.2.2⟩)
 else none)))
 else
 (some (s2.l,s2.b0,s2.b1)))) ⟨[],0,r1.2.1,r1.2.2⟩))
def nM:dL τ:=cn [.ptr 0 []] [.box (.agg [.ptr 1 [],.ty 48]),.box (.ty 186)] (.ty 31) [.box (.agg [.ptr 1 [],.ty 48]),.box (.ty 186)] (fun N a b=>gJ N b.1.2.1 b.2.1) fun r=>(r.1,(((),r.2.1,()),r.2.2,()))
theorem Gz:aR E C 152 nM:=gQ nM [(173,mF),(174,oQ)] [(3,Tz)] 2 [] [] ⟨El,⟨Iz,trivial⟩⟩ (fun a b=>(a,b.1.2.1,b.2.1)) Tryz.func152 rfl (by intro N a b;kernel_rfl)
def wB (N:Nat)(b0:Int)(b1:aD)(b2:aA):Option (Int×aD×aA) :=
 ((bC N b0 b2).bind fun r1 =>
 (some (r1.2.1,(⟨r1.1,b1.cB,b1.iD,b1.aV⟩:aD),r1.2.2)))
def tM:dL τ:=cn [.ptr 0 [],.ls 1 [.ptr 1 [.sS 0 0]]] [.box (.agg [.ptr 2 [],.ty 48]),.box (.ty 36),.box (.ty 186)] (.jE []) [.box (.agg [.ptr 2 [],.ty 48]),.box (.ty 36),.box (.ty 186)] (fun N a b=>wB N b.1.2.1 b.2.1 b.2.2.1) fun r=>((),(((),r.1,()),r.2.1,r.2.2,()))
theorem Wv:aR E C 148 tM:=gQ tM [(172,bG)] [] 3 [] [(1,3)] ⟨bO,trivial⟩ (fun a b=>(b.1.2.1,b.2.1,b.2.2.1)) Tryz.func148 rfl (by intro N a b;kernel_rfl)
end Go.Proofs.YtddpmkmgbdedlaaGreat
