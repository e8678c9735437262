/-
The functions of this seat,as plain functions over typed data,each with its contract. Printed by wip/tools/fngen.py.
-/
import Derived.Test.YtddpmkmgbdedlaaGreatqFdb
import Derived.Test.YtddpmkmgbdedlaaGreatqTvX
import Derived.KernelRfl
set_option linter.unusedVariables false
set_option maxRecDepth 100000
namespace Go.Proofs.YtddpmkmgbdedlaaGreat
open Go Go.Ev
structure gU where
 t8:Int
 b1:List (bV)
 ms:List (Option (List (Int)))
def oH:List Sl:=[.k,.k,.k,.k,.j,.j,.k,.k,.sh (.ty 2),.j,.j,.j,.j,.j,.j,.j,.j,.j,.j]
def oE:List bZ:=[.iO,.box (.ty 70),.aX 5]
def Mh (a:Sl.Ts τ oH)(b:bZ.Ts τ oE):gU:=⟨a.2.2.2.2.2.2.2.2.1,b.2.1,b.2.2.1⟩
def Mc (s:gU):Sl.Ts τ oH:=((),(),(),(),(),(),(),(),s.t8,(),(),(),(),(),(),(),(),(),(),())
def Ly (s:gU):bZ.Ts τ oE:=((),s.b1,s.ms,())
def Lu:Lp τ:={ ts:=oH,hs:=oE,S:=gU,to:=Mh,ot:=Mc,oh:=Ly,hk:=[4,2,8],tk:=[],eZ:=fun _ _=>rfl,eX:=fun _ _=>rfl }
def lA (N:Nat)(s:Nat)(g0:List (bJ))(b1:List (bV))(ms:List (Option (List (Int)))):Option (Int×(List (bJ))×(List (bV))×(List (Option (List (Int))))) :=
 (iter N (fun (s1:gU) dK =>
 (bif (decide (s1.t8 < ((s:Nat):Int))) then
 (bif (nI s1.t8 ((s:Nat):Int)) then
 (bif (decide ((s1.t8).toNat < (g0).length)) then
 ((jF N (⟨(g0.getD ((s1.t8).toNat) default).Number,((g0.getD ((s1.t8).toNat) default).aS),((g0.getD ((s1.t8).toNat) default).To),((g0.getD ((s1.t8).toNat) default).Data)⟩:bJ) s1.b1 s1.ms).bind fun r3 =>
 (bif r3.1 then
 (some (s1.t8,g0,r3.2.1,r3.2.2))
 else
 (dK ⟨(IntKind.i64.wrap (s1.t8+1)),r3.2.1,r3.2.2⟩)))
 else none)
 else none)
 else
 (some ((-1),g0,s1.b1,s1.ms)))) ⟨0,b1,ms⟩)
def oY:dL τ:=cn [.mS 20065 0,.fn 48 [.ptr 1 []]] [.eD 20065,.box (.ty 70),.aX 5] (.ty 3) [.eD 20065,.box (.ty 70),.aX 5] (fun N a b=>lA N a.1 b.1 b.2.1 b.2.2.1) fun r=>(r.1,(r.2.1,r.2.2.1,r.2.2.2,()))
theorem Pu:aR E C 87 oY:=WK oY [(48,sO)] [(2,Lu)] 3 [] [] [] [] [] ⟨Lz,trivial⟩ (fun a b=>(a,b.1,b.2.1,b.2.2.1)) Tryz.func87 rfl (by intro N a b;kernel_rfl)
structure gA where
 i:Int
 j:Int
 g0:List (bJ)
 b1:List (bV)
 ms:List (Option (List (Int)))
def nF:List Sl:=[.k,.k,.k,.k,.k,.sh (.ty 2),.sh (.ty 2),.j,.k,.k,.k,.k,.k,.k,.k,.k,.j,.j,.j,.j,.j,.j,.j,.j,.j,.j,.j,.j,.j,.j,.j,.j,.j,.j,.j,.j,.k,.k,.k,.k,.k,.k]
def nC:List bZ:=[.eD 20065,.box (.ty 70),.aX 5]
def Kz (a:Sl.Ts τ nF)(b:bZ.Ts τ nC):gA:=⟨a.2.2.2.2.2.1,a.2.2.2.2.2.2.1,b.1,b.2.1,b.2.2.1⟩
def Kw (s:gA):Sl.Ts τ nF:=((),(),(),(),(),s.i,s.j,(),(),(),(),(),(),(),(),(),(),(),(),(),(),(),(),(),(),(),(),(),(),(),(),(),(),(),(),(),(),(),(),(),(),(),())
def Kt (s:gA):bZ.Ts τ nC:=(s.g0,s.b1,s.ms,())
def Ks:Lp τ:={ ts:=nF,hs:=nC,S:=gA,to:=Kz,ot:=Kw,oh:=Kt,hk:=[4,2,8],tk:=[],eZ:=fun _ _=>rfl,eX:=fun _ _=>rfl }
def fN (N:Nat)(s:Nat)(g0:List (bJ))(b1:List (bV))(ms:List (Option (List (Int)))):Option (Nat×(List (bJ))×(List (bV))×(List (Option (List (Int))))) :=
 ((lA N s g0 b1 ms).bind fun r1 =>
 (bif (r1.1==(-1)) then
 (some (s,r1.2.1,r1.2.2.1,r1.2.2.2))
 else
 (iter N (fun (s2:gA) wW =>
 (bif (decide (s2.j < ((s:Nat):Int))) then
 (bif (nI s2.j ((s:Nat):Int)) then
 (bif (decide ((s2.j).toNat < (s2.g0).length)) then
 ((jF N (⟨(s2.g0.getD ((s2.j).toNat) default).Number,((s2.g0.getD ((s2.j).toNat) default).aS),((s2.g0.getD ((s2.j).toNat) default).To),((s2.g0.getD ((s2.j).toNat) default).Data)⟩:bJ) s2.b1 s2.ms).bind fun r4 =>
 (bif (!r4.1) then
 (bif (nI s2.i ((s:Nat):Int)) then
 (bif (decide ((s2.i).toNat < (s2.g0).length)) then
 (wW ⟨(IntKind.i64.wrap (s2.i+1)),(IntKind.i64.wrap (s2.j+1)),(s2.g0.set ((s2.i).toNat) (⟨(s2.g0.getD ((s2.j).toNat) default).Number,((s2.g0.getD ((s2.j).toNat) default).aS),((s2.g0.getD ((s2.j).toNat) default).To),((s2.g0.getD ((s2.j).toNat) default).Data)⟩:bJ)),r4.2.1,r4.2.2⟩)
 else none)
 else none)
 else
 (wW ⟨s2.i,(IntKind.i64.wrap (s2.j+1)),s2.g0,r4.2.1,r4.2.2⟩)))
 else none)
 else none)
 else
 (bif (AG s2.i ((s:Nat):Int) ((s:Nat):Int) ((s:Nat):Int)) then
 (bif (DP 0 s2.i ((s:Nat):Int)) then
 (some ((s2.i).toNat,(Kh s2.g0 (0+(s2.i).toNat) (s - (s2.i).toNat) (⟨0,(⟨0,0⟩:bV),(⟨0,0⟩:bV),(⟨0,0,0,0,false⟩:Hd)⟩:bJ)),s2.b1,s2.ms))
 else none)
 else none))) ⟨r1.1,(IntKind.i64.wrap (r1.1+1)),r1.2.1,r1.2.2.1,r1.2.2.2⟩)))
def oB:dL τ:=cn [.mS 20065 0,.fn 48 [.ptr 1 []]] [.eD 20065,.box (.ty 70),.aX 5] (.mS 20065 0) [.eD 20065,.box (.ty 70),.aX 5] (fun N a b=>fN N a.1 b.1 b.2.1 b.2.2.1) fun r=>(r.1,(r.2.1,r.2.2.1,r.2.2.2,()))
theorem Nh:aR E C 47 oB:=WK oB [(87,oY),(48,sO)] [(5,Ks)] 3 [] [] [] [] [] ⟨Pu,⟨Lz,trivial⟩⟩ (fun a b=>(a,b.1,b.2.1,b.2.2.1)) Tryz.func47 rfl (by intro N a b;kernel_rfl)
def Af (N:Nat)(l:List (bV))(b0:Nat)(yJ:Int)(Xz:Bool)(g1:List (bJ))(ms:List (Option (List (Int)))):Option (Int×Nat×Int×Bool×(List (bJ))×(List (Option (List (Int))))) :=
 ((eU N b0 yJ Xz g1 ms).bind fun r1 =>
 (bif r1.1 then
 (some (0,r1.2.1,r1.2.2.1,r1.2.2.2.1,r1.2.2.2.2.1,r1.2.2.2.2.2))
 else
 ((fN N r1.2.1 r1.2.2.2.2.1 l r1.2.2.2.2.2).bind fun r2 =>
 (some ((IntKind.i64.wrap (((r1.2.1:Nat):Int) - ((r2.1:Nat):Int))),r2.1,r1.2.2.1,r1.2.2.2.1,r2.2.1,r2.2.2.2)))))
def Df:dL τ:=cn [.ptr 0 [],.ty 70] [.box (.agg [.agg [.mS 20065 1,.ty 2],.ty 4]),.eD 20065,.aX 5] (.ty 3) [.box (.agg [.agg [.mS 20065 1,.ty 2],.ty 4]),.eD 20065,.aX 5] (fun N a b=>Af N a.2.1 b.1.1.1 b.1.1.2.1 b.1.2.1 b.2.1 b.2.2.1) fun r=>(r.1,(((r.2.1,r.2.2.1,()),r.2.2.2.1,()),r.2.2.2.2.1,r.2.2.2.2.2,()))
theorem MO:aR E C 21 Df:=WK Df [(25,iA),(47,oB)] [] 3 [] [] [] [] [] ⟨nE,⟨Nh,trivial⟩⟩ (fun a b=>(a,b.1.1.1,b.1.1.2.1,b.1.2.1,b.2.1,b.2.2.1)) Tryz.func21 rfl (by intro N a b;kernel_rfl)
structure mN where
 many:Int
 i:Int
def yF:List Sl:=[.k,.k,.k,.k,.k,.sh (.nil .slice),.sh (.ty 2),.sh (.ty 2),.j,.j,.j,.j,.j,.j,.j,.j,.j,.j,.j,.j,.j,.j,.j,.j,.j,.j,.j,.j,.j,.j,.j,.j,.j,.j,.j,.j,.j,.j,.j,.j,.j,.j,.j,.j,.j,.j,.j,.j,.j,.j,.j,.j,.j,.j,.j,.j,.j,.j,.j,.j,.j,.j,.j,.j,.j,.j,.j,.j,.j,.k,.k,.k,.k,.k]
def xY:List bZ:=[.iO]
def CT (a:Sl.Ts τ yF)(b:bZ.Ts τ xY):mN:=⟨a.2.2.2.2.2.2.1,a.2.2.2.2.2.2.2.1⟩
def BZ (s:mN):Sl.Ts τ yF:=((),(),(),(),(),(),s.many,s.i,(),(),(),(),(),(),(),(),(),(),(),(),(),(),(),(),(),(),(),(),(),(),(),(),(),(),(),(),(),(),(),(),(),(),(),(),(),(),(),(),(),(),(),(),(),(),(),(),(),(),(),(),(),(),(),(),(),(),(),(),(),(),(),(),(),(),())
def BI (s:mN):bZ.Ts τ xY:=((),())
def BC:Lp τ:={ ts:=yF,hs:=xY,S:=mN,to:=CT,ot:=BZ,oh:=BI,hk:=[2],tk:=[2],eZ:=fun _ _=>rfl,eX:=fun _ _=>rfl }
structure mO where
 hit:Bool
 k:Int
def yG:List Sl:=[.k,.k,.k,.k,.k,.k,.k,.k,.sh (.ty 4),.sh (.ty 2),.k,.k,.k,.k,.k,.k,.k,.k,.k,.j,.j,.j,.j,.j,.j,.j,.j,.j,.j,.j,.j,.j,.j,.j,.j,.j,.j,.j,.j,.j,.j,.j,.j,.j,.j,.j,.j,.j,.j,.j,.j,.j,.j,.j,.j,.j,.k,.k,.k,.k,.k,.k,.k,.k,.k,.k,.k,.k,.k,.k,.k,.k,.k,.k]
def xZ:List bZ:=[.iO]
def CU (a:Sl.Ts τ yG)(b:bZ.Ts τ xZ):mO:=⟨a.2.2.2.2.2.2.2.2.1,a.2.2.2.2.2.2.2.2.2.1⟩
def CA (s:mO):Sl.Ts τ yG:=((),(),(),(),(),(),(),(),s.hit,s.k,(),(),(),(),(),(),(),(),(),(),(),(),(),(),(),(),(),(),(),(),(),(),(),(),(),(),(),(),(),(),(),(),(),(),(),(),(),(),(),(),(),(),(),(),(),(),(),(),(),(),(),(),(),(),(),(),(),(),(),(),(),(),(),(),())
def BJ (s:mO):bZ.Ts τ xZ:=((),())
def BD:Lp τ:={ ts:=yG,hs:=xZ,S:=mO,to:=CU,ot:=CA,oh:=BJ,hk:=[2],tk:=[2,0,0,0,0,0,0,0,0,0,0,2,2,2],eZ:=fun _ _=>rfl,eX:=fun _ _=>rfl }
def Dc (N:Nat)(l:List (bV))(b0:Int):Option (Int×Int) :=
 (iter N (fun (s1:mN) dK =>
 (bif (decide (s1.i < 0)) then
 (iter N (fun (s3:mO) Iw =>
 (bif (decide (s3.k < ((l).length:Int))) then
 (bif (!(!s3.hit) || (nI s3.k ((l).length:Int))) then
 (bif (!(!s3.hit) || false) then
 (bif (!s3.hit) then
 none
 else
 (Iw ⟨true,(IntKind.i64.wrap (s3.k+1))⟩))
 else none)
 else none)
 else
 (bif s3.hit then
 (dK ⟨(IntKind.i64.wrap (s1.many+1)),(IntKind.i64.wrap (s1.i+1))⟩)
 else
 none))) ⟨false,0⟩)
 else
 (some (s1.many,b0)))) ⟨0,0⟩)
def zR:dL τ:=cn [.ptr 0 [],.ty 70] [.box (.agg [.nil .slice,.ty 2])] (.ty 3) [.box (.agg [.nil .slice,.ty 2])] (fun N a b=>Dc N a.2.1 b.1.2.1) fun r=>(r.1,(((),r.2,()),()))
theorem GP:aR E C 46 zR:=gQ zR [] [(4,BC),(8,BD)] 1 [68] [] trivial (fun a b=>(a,b.1.2.1)) Tryz.func46 rfl (by intro N a b;kernel_rfl)
def Es (N:Nat)(op:aQ)(b0:Nat)(yJ:Int)(Xz:Bool)(b1:Int)(g2:List (bJ))(ms:List (Option (List (Int)))):Option (Bool×Nat×Int×Bool×Nat×Int×(List (Option (List (Int))))×(List (bJ))×(List (eW))) :=
 (bif (op.Kind==0) then
 ((oK N op.DN b0 yJ Xz g2 ms).bind fun r1 =>
 ((pM N op.DN b1).bind fun r2 =>
 (some (((r1.1==r2.1)&&(r1.2.1==0)),r1.2.2.1,r1.2.2.2.1,r1.2.2.2.2.1,r2.2.1,r2.2.2.1,r1.2.2.2.2.2.1,r1.2.2.2.2.2.2,r2.2.2.2))))
 else
 (bif (op.Kind==1) then
 ((kV N op.Number b0 yJ Xz g2 ms).bind fun r3 =>
 ((vR N op.Number b1).bind fun r4 =>
 ((bif (r3.2.1==r4.2.1) then rR N r3.1 r4.1 else some default).bind fun r5 =>
 (some (((r3.2.1==r4.2.1)&&r5),r3.2.2.1,r3.2.2.2.1,r3.2.2.2.2.1,0,r4.2.2,r3.2.2.2.2.2.1,r3.2.2.2.2.2.2,[])))))
 else
 (bif (op.Kind==2) then
 ((hY N op.Number b0 yJ Xz g2 ms).bind fun r6 =>
 ((sL N op.Number b1).bind fun r7 =>
 (some (((r6.1==r7.1)&&(r6.2.1==r7.2.1)),r6.2.2.1,r6.2.2.2.1,r6.2.2.2.2.1,0,r7.2.2,r6.2.2.2.2.2.1,r6.2.2.2.2.2.2,[]))))
 else
 (bif (op.Kind==3) then
 ((oJ N op.Number b0 yJ Xz g2 ms).bind fun r8 =>
 ((vQ N op.Number b1).bind fun r9 =>
 (some ((r8.1==r9.1),r8.2.1,r8.2.2.1,r8.2.2.2.1,r9.2.1,r9.2.2.1,r8.2.2.2.2.1,r8.2.2.2.2.2,r9.2.2.2))))
 else
 (bif (op.Kind==4) then
 ((iQ N op.Number op.Place op.u6 b0 yJ Xz g2 ms).bind fun Nn =>
 ((uJ N op.Number op.Place op.u6 b1 Nn.2.2.2.2.2).bind fun Vl =>
 (some ((Nn.1==Vl.1),Nn.2.1,Nn.2.2.1,Nn.2.2.2.1,0,Vl.2.1,Vl.2.2,Nn.2.2.2.2.1,[]))))
 else
 (bif (op.Kind==5) then
 ((Af N op.EN b0 yJ Xz g2 ms).bind fun Tt =>
 ((Dc N op.EN b1).bind fun EJ =>
 (some ((Tt.1==EJ.1),Tt.2.1,Tt.2.2.1,Tt.2.2.2.1,0,EJ.2,Tt.2.2.2.2.2,Tt.2.2.2.2.1,[]))))
 else
 (some (true,b0,yJ,Xz,0,b1,ms,g2,[]))))))))
def Hu:dL τ:=cn [.ptr 0 [],.ptr 1 [],.ty 72] [.box (.agg [.agg [.mS 20065 2,.ty 2],.ty 4]),.box (.agg [.nil .slice,.ty 2]),.eD 20065,.aX 5] (.ty 4) [.box (.agg [.agg [.mS 20065 4,.ty 2],.ty 4]),.box (.agg [.mS 65 5,.ty 2]),.dead,.aX 5,.eD 20065,.eD 65] (fun N a b=>Es N a.2.2.1 b.1.1.1 b.1.1.2.1 b.1.2.1 b.2.1.2.1 b.2.2.1 b.2.2.2.1) fun r=>(r.1,(((r.2.1,r.2.2.1,()),r.2.2.2.1,()),(r.2.2.2.2.1,r.2.2.2.2.2.1,()),(),r.2.2.2.2.2.2.1,r.2.2.2.2.2.2.2.1,r.2.2.2.2.2.2.2.2,()))
theorem SE:aR E C 18 Hu:=WK Hu [(10,vS),(41,zS),(13,vT),(42,zT),(14,Cr),(17,zN),(43,wN),(20,De),(44,zQ),(12,Bl),(45,xP),(21,Df),(46,zR)] [] 4 [] [] [] [] [] ⟨Si,⟨GQ,⟨Sj,⟨GR,⟨DK,⟨GI,⟨BQ,⟨MN,⟨GO,⟨JM,⟨EB,⟨MO,⟨GP,trivial⟩⟩⟩⟩⟩⟩⟩⟩⟩⟩⟩⟩⟩ (fun a b=>(a,b.1.1.1,b.1.1.2.1,b.1.2.1,b.2.1.1,b.2.1.2.1,b.2.2.2.1,b.2.2.2.2.1,b.2.2.2.2.2.1)) Tryz.func18 rfl (by intro N a b;kernel_rfl)
def Cj (N:Nat)(b0:Nat)(yJ:Int)(Xz:Bool)(g1:List (bJ))(ms:List (Option (List (Int)))):Option (Nat×Int×Bool×(List (bJ))×(List (Option (List (Int))))×Nat×(List (bJ))) :=
 ((eU N b0 yJ Xz g1 ms).bind fun r1 =>
 (bif (!r1.1) then
 ((yX N r1.2.1 r1.2.2.2.2.1 r1.2.2.2.2.2).bind fun r2 =>
 (some (r1.2.1,r1.2.2.1,r1.2.2.2.1,r2.2.1,r2.2.2.1,r2.1,r2.2.2.2)))
 else
 (some (r1.2.1,r1.2.2.1,r1.2.2.2.1,r1.2.2.2.2.1,r1.2.2.2.2.2,0,[]))))
def Fl:dL τ:=cn [.ptr 0 []] [.box (.agg [.agg [.mS 20065 1,.ty 2],.ty 4]),.eD 20065,.aX 5] (.fn 39 [.ptr 3 []]) [.box (.agg [.agg [.mS 20065 1,.ty 2],.ty 4]),.eD 20065,.aX 5,.box (.mS 20065 4),.eD 20065] (fun N a b=>Cj N b.1.1.1 b.1.1.2.1 b.1.2.1 b.2.1 b.2.2.1) fun r=>(((),()),(((r.1,r.2.1,()),r.2.2.1,()),r.2.2.2.1,r.2.2.2.2.1,r.2.2.2.2.2.1,r.2.2.2.2.2.2,()))
theorem PJ:aR E C 16 Fl:=WK Fl [(25,iA),(38,Ew)] [] 3 [] [] [] [] [] ⟨nE,⟨GK,trivial⟩⟩ (fun a b=>(b.1.1.1,b.1.1.2.1,b.1.2.1,b.2.1,b.2.2.1,b.2.2.2.1,b.2.2.2.2.1)) Tryz.func16 rfl (by intro N a b;kernel_rfl)
def zJ (N:Nat)(x:bJ)(x2:aQ)(x3:bS)(x4:aQ)(b1:Bool)(b2:Int)(b3:Int)(b4:List (Option (List (Int)))):Option (Bool×aQ×bS×aQ×Bool×Int×Int×(List (Option (List (Int))))×Nat×Bool×Int×Int×(List (Option (List (Int))))) :=
 (bif (decide (x.Number≤b2)) then
 (some (true,default,default,default,default,default,default,default,0,false,b2,b3,b4))
 else
 (some (false,x2,x3,x4,b1,x.Number,(bif decide (b3 < x.Number) then x.Number else b3),b4,default,default,default,default,default)))
def Ik:List bZ:=[.yU 5 12 [.aZ,.aZ,.ptr 1 [],.aZ,.aZ,.aZ,.aZ,.ptr 2 [],.ptr 3 [],.aZ,.aZ,.aZ,.aZ,.aZ,.aZ,.aZ,.aZ,.aZ,.aZ,.aZ,.aZ,.aZ,.ty 71,.aZ,.ty 76,.aZ,.ty 71,.aZ,.aZ,.aZ,.aZ,.aZ,.aZ,.aZ,.aZ,.aZ,.aZ,.aZ,.aZ,.aZ,.aZ,.aZ,.aZ,.aZ,.aZ,.aZ,.aZ,.aZ,.aZ,.aZ,.aZ,.aZ,.aZ,.aZ,.aZ,.aZ,.aZ],.box (.ty 4),.box (.ty 2),.box (.ty 2),.aX 5]
def Gq:Alt τ (Bool×aQ×bS×aQ×Bool×Int×Int×(List (Option (List (Int))))×Nat×Bool×Int×Int×(List (Option (List (Int))))):={ ret:=.bo false,L':=[.Qa,.box (.ty 4),.box (.ty 2),.box (.ty 2),.aX 5],of:=fun r=>((),(r.2.2.2.2.2.2.2.2.1,r.2.2.2.2.2.2.2.2.2.1,r.2.2.2.2.2.2.2.2.2.2.1,r.2.2.2.2.2.2.2.2.2.2.2.1,r.2.2.2.2.2.2.2.2.2.2.2.2,())) }
def Gr:dL τ:={ args:=[.Ar 0,.ty 20065],L:=Ik,ret:=.bo true,L':=Ik,R:=Bool×aQ×bS×aQ×Bool×Int×Int×(List (Option (List (Int))))×Nat×Bool×Int×Int×(List (Option (List (Int)))),IQ:=(default,default,default,default,default,default,default,default,default,default,default,default,default),F:=fun N a b=>zJ N a.2.1 b.1.2.2.2.2.2.2.2.2.2.2.2.2.2.2.2.2.2.2.2.2.2.2.1 b.1.2.2.2.2.2.2.2.2.2.2.2.2.2.2.2.2.2.2.2.2.2.2.2.2.1 b.1.2.2.2.2.2.2.2.2.2.2.2.2.2.2.2.2.2.2.2.2.2.2.2.2.2.2.1 b.2.1 b.2.2.1 b.2.2.2.1 b.2.2.2.2.1,of:=fun r=>((),(((),(),(),(),(),(),(),(),(),(),(),(),(),(),(),(),(),(),(),(),(),(),r.2.1,(),r.2.2.1,(),r.2.2.2.1,(),(),(),(),(),(),(),(),(),(),(),(),(),(),(),(),(),(),(),(),(),(),(),(),(),(),(),(),(),(),()),r.2.2.2.2.1,r.2.2.2.2.2.1,r.2.2.2.2.2.2.1,r.2.2.2.2.2.2.2.1,())),alt:=some Gq,JY:=fun r=>r.1 }
noncomputable def Yb:Zr τ:={ D:=D0,mi:=KX [],lp:=UT [],k0:=5,mu:=[],un:=[],et:=5,aX:=true,ad:=[],fz:=[],ln:=[] }
theorem BN:aR E C Ae Gr :=
 sf (D:=Yb) ⟨sn,E6,Mf trivial,fun _=>rfl⟩ (f:=5) (k:=12) (ps:=[31]) (by kernel_rfl) rfl (fun a b=>(false,b.1.2.2.2.2.2.2.2.2.2.2.2.2.2.2.2.2.2.2.2.2.2.2.1,b.1.2.2.2.2.2.2.2.2.2.2.2.2.2.2.2.2.2.2.2.2.2.2.2.2.1,b.1.2.2.2.2.2.2.2.2.2.2.2.2.2.2.2.2.2.2.2.2.2.2.2.2.2.2.1,b.2.1,b.2.2.1,b.2.2.2.1,b.2.2.2.2.1,default,default,default,default,default)) (some ⟨Gq,fun a b=>(true,default,default,default,default,default,default,default,b.1,b.2.1,b.2.2.1,b.2.2.2.1,b.2.2.2.2.1)⟩) (fun _ _=>rfl) rfl (fun A t h=>by cases h;exact⟨fun _ _=>rfl,fun _ _=>rfl,fun _ _=>rfl⟩) 1000000 (by kernel_rfl) (by kernel_rfl) (by kernel_rfl) (by kernel_rfl) rfl (by intro l N a b;kernel_rfl)
structure kI where
 t8:Int
 z0:aQ
 z02:bS
 z03:aQ
 b2:Bool
 b3:Int
 b4:Int
 ms:List (Option (List (Int)))
def Ab:List Sl:=[.k,.k,.k,.k,.j,.k,.k,.k,.sh (.ty 2),.j,.j,.j,.j,.j,.j,.j,.j]
def zX:List bZ:=[.yU 5 12 [.aZ,.aZ,.ptr 2 [],.aZ,.aZ,.aZ,.aZ,.ptr 3 [],.ptr 4 [],.aZ,.aZ,.aZ,.aZ,.aZ,.aZ,.aZ,.aZ,.aZ,.aZ,.aZ,.aZ,.aZ,.ty 71,.aZ,.ty 76,.aZ,.ty 71,.aZ,.aZ,.aZ,.aZ,.aZ,.aZ,.aZ,.aZ,.aZ,.aZ,.aZ,.aZ,.aZ,.aZ,.aZ,.aZ,.aZ,.aZ,.aZ,.aZ,.aZ,.aZ,.aZ,.aZ,.aZ,.aZ,.aZ,.aZ,.aZ,.aZ],.iO,.box (.ty 4),.box (.ty 2),.box (.ty 2),.iO,.aX 5,.iO]
def EK (a:Sl.Ts τ Ab)(b:bZ.Ts τ zX):kI:=⟨a.2.2.2.2.2.2.2.2.1,b.1.2.2.2.2.2.2.2.2.2.2.2.2.2.2.2.2.2.2.2.2.2.2.1,b.1.2.2.2.2.2.2.2.2.2.2.2.2.2.2.2.2.2.2.2.2.2.2.2.2.1,b.1.2.2.2.2.2.2.2.2.2.2.2.2.2.2.2.2.2.2.2.2.2.2.2.2.2.2.1,b.2.2.1,b.2.2.2.1,b.2.2.2.2.1,b.2.2.2.2.2.2.1⟩
def EF (s:kI):Sl.Ts τ Ab:=((),(),(),(),(),(),(),(),s.t8,(),(),(),(),(),(),(),(),())
def DX (s:kI):bZ.Ts τ zX:=(((),(),(),(),(),(),(),(),(),(),(),(),(),(),(),(),(),(),(),(),(),(),s.z0,(),s.z02,(),s.z03,(),(),(),(),(),(),(),(),(),(),(),(),(),(),(),(),(),(),(),(),(),(),(),(),(),(),(),(),(),(),()),(),s.b2,s.b3,s.b4,(),s.ms,(),())
def DU:Lp τ:={ ts:=Ab,hs:=zX,S:=kI,to:=EK,ot:=EF,oh:=DX,hk:=[6,2,2,2,2,4,8,4],tk:=[0,3],eZ:=fun _ _=>rfl,eX:=fun _ _=>rfl }
def rO (N:Nat)(z0:aQ)(z02:bS)(z03:aQ)(b1:Nat)(b2:Bool)(b3:Int)(b4:Int)(g5:List (bJ))(ms:List (Option (List (Int)))):Option (Bool×aQ×bS×aQ×Nat×Bool×Int×Int×(List (bJ))×(List (Option (List (Int))))×Nat×Nat×Bool×Int×Int×(List (bJ))×(List (Option (List (Int))))) :=
 ((yX N b1 g5 ms).bind fun r1 =>
 (iter N (fun (s2:kI) wW =>
 (bif (decide (s2.t8 < ((r1.1:Nat):Int))) then
 (bif (nI s2.t8 ((r1.1:Nat):Int)) then
 (bif (decide ((s2.t8).toNat < (r1.2.2.2).length)) then
 ((zJ N (⟨(r1.2.2.2.getD ((s2.t8).toNat) default).Number,((r1.2.2.2.getD ((s2.t8).toNat) default).aS),((r1.2.2.2.getD ((s2.t8).toNat) default).To),((r1.2.2.2.getD ((s2.t8).toNat) default).Data)⟩:bJ) s2.z0 s2.z02 s2.z03 s2.b2 s2.b3 s2.b4 s2.ms).bind fun r4 =>
 (bif r4.1 then
 (some (true,default,default,default,default,default,default,default,default,default,r4.2.2.2.2.2.2.2.2.1,b1,r4.2.2.2.2.2.2.2.2.2.1,r4.2.2.2.2.2.2.2.2.2.2.1,r4.2.2.2.2.2.2.2.2.2.2.2.1,r1.2.1,r4.2.2.2.2.2.2.2.2.2.2.2.2))
 else
 (wW ⟨(IntKind.i64.wrap (s2.t8+1)),r4.2.1,r4.2.2.1,r4.2.2.2.1,r4.2.2.2.2.1,r4.2.2.2.2.2.1,r4.2.2.2.2.2.2.1,r4.2.2.2.2.2.2.2.1⟩)))
 else none)
 else none)
 else
 (some (false,s2.z0,s2.z02,s2.z03,b1,s2.b2,s2.b3,s2.b4,r1.2.1,s2.ms,default,default,default,default,default,default,default)))) ⟨0,z0,z02,z03,b2,b3,b4,r1.2.2.1⟩))
def Ob:List bZ:=[.yU 5 12 [.aZ,.aZ,.ptr 2 [],.aZ,.aZ,.aZ,.aZ,.ptr 3 [],.ptr 4 [],.aZ,.aZ,.aZ,.aZ,.aZ,.aZ,.aZ,.aZ,.aZ,.aZ,.aZ,.aZ,.aZ,.ty 71,.aZ,.ty 76,.aZ,.ty 71,.aZ,.aZ,.aZ,.aZ,.aZ,.aZ,.aZ,.aZ,.aZ,.aZ,.aZ,.aZ,.aZ,.aZ,.aZ,.aZ,.aZ,.aZ,.aZ,.aZ,.aZ,.aZ,.aZ,.aZ,.aZ,.aZ,.aZ,.aZ,.aZ,.aZ],.box (.mS 20065 5),.box (.ty 4),.box (.ty 2),.box (.ty 2),.eD 20065,.aX 5]
def Lj:Alt τ (Bool×aQ×bS×aQ×Nat×Bool×Int×Int×(List (bJ))×(List (Option (List (Int))))×Nat×Nat×Bool×Int×Int×(List (bJ))×(List (Option (List (Int))))):={ ret:=.jE [],L':=[.Qa,.box (.mS 20065 5),.box (.ty 4),.box (.ty 2),.box (.ty 2),.eD 20065,.aX 5],of:=fun r=>((),(r.2.2.2.2.2.2.2.2.2.2.1,r.2.2.2.2.2.2.2.2.2.2.2.1,r.2.2.2.2.2.2.2.2.2.2.2.2.1,r.2.2.2.2.2.2.2.2.2.2.2.2.2.1,r.2.2.2.2.2.2.2.2.2.2.2.2.2.2.1,r.2.2.2.2.2.2.2.2.2.2.2.2.2.2.2.1,r.2.2.2.2.2.2.2.2.2.2.2.2.2.2.2.2,())) }
def Bj:dL τ:={ args:=[.Ar 0,.ptr 1 []],L:=Ob,ret:=.jE [],L':=Ob,R:=Bool×aQ×bS×aQ×Nat×Bool×Int×Int×(List (bJ))×(List (Option (List (Int))))×Nat×Nat×Bool×Int×Int×(List (bJ))×(List (Option (List (Int)))),IQ:=(default,default,default,default,default,default,default,default,default,default,default,default,default,default,default,default,default),F:=fun N a b=>rO N b.1.2.2.2.2.2.2.2.2.2.2.2.2.2.2.2.2.2.2.2.2.2.2.1 b.1.2.2.2.2.2.2.2.2.2.2.2.2.2.2.2.2.2.2.2.2.2.2.2.2.1 b.1.2.2.2.2.2.2.2.2.2.2.2.2.2.2.2.2.2.2.2.2.2.2.2.2.2.2.1 b.2.1 b.2.2.1 b.2.2.2.1 b.2.2.2.2.1 b.2.2.2.2.2.1 b.2.2.2.2.2.2.1,of:=fun r=>((),(((),(),(),(),(),(),(),(),(),(),(),(),(),(),(),(),(),(),(),(),(),(),r.2.1,(),r.2.2.1,(),r.2.2.2.1,(),(),(),(),(),(),(),(),(),(),(),(),(),(),(),(),(),(),(),(),(),(),(),(),(),(),(),(),(),(),()),r.2.2.2.2.1,r.2.2.2.2.2.1,r.2.2.2.2.2.2.1,r.2.2.2.2.2.2.2.1,r.2.2.2.2.2.2.2.2.1,r.2.2.2.2.2.2.2.2.2.1,())),alt:=some Lj,JY:=fun r=>r.1 }
noncomputable def EU:Zr τ:={ D:=D0,mi:=KX [(38,Ew),(1000000,Gr)],lp:=UT [(1,DU)],k0:=7,mu:=[],un:=[],aX:=true,ad:=[],fz:=[],ln:=[] }
theorem JK:aR E C 39 Bj :=
 L8 (D:=EU) ⟨sn,E6,Mf ⟨GK,⟨BN,trivial⟩⟩,fun _=>rfl⟩ Bj (fun a b=>(false,b.1.2.2.2.2.2.2.2.2.2.2.2.2.2.2.2.2.2.2.2.2.2.2.1,b.1.2.2.2.2.2.2.2.2.2.2.2.2.2.2.2.2.2.2.2.2.2.2.2.2.1,b.1.2.2.2.2.2.2.2.2.2.2.2.2.2.2.2.2.2.2.2.2.2.2.2.2.2.2.1,b.2.1,b.2.2.1,b.2.2.2.1,b.2.2.2.2.1,b.2.2.2.2.2.1,b.2.2.2.2.2.2.1,default,default,default,default,default,default,default)) (some ⟨Lj,fun a b=>(true,default,default,default,default,default,default,default,default,default,b.1,b.2.1,b.2.2.1,b.2.2.2.1,b.2.2.2.2.1,b.2.2.2.2.2.1,b.2.2.2.2.2.2.1)⟩) (fun _ _=>rfl) rfl (fun A t h=>by cases h;exact⟨fun _ _=>rfl,fun _ _=>rfl,fun _ _=>rfl⟩) 1000000 (fn:=Tryz.f39) Tryz.func39 rfl (by kernel_rfl) (by kernel_rfl) rfl (by intro N a b;kernel_rfl)
structure iM where
 last:Int
 t19:Int
 ms:List (Option (List (Int)))
 b1:Bool
 b2:Nat
 xt:Int
 b23:Bool
 g4:List (bJ)
def vJ:List Sl:=[.k,.k,.k,.k,.sh (.ty 2),.k,.j,.j,.j,.k,.k,.k,.k,.k,.k,.j,.k,.k,.k,.sh (.ty 2),.j,.j,.j,.j,.j,.j,.j,.j,.j,.j,.j,.k,.k,.k,.k,.k,.k,.k,.k,.k,.k,.k,.j,.j,.j,.j,.j,.j,.j,.j,.j,.j,.j,.j,.j,.j,.j]
def vG:List bZ:=[.aX 5,.box (.ty 4),.box (.agg [.agg [.mS 20065 4,.ty 2],.ty 4]),.dead,.eD 20065]
def Xp (a:Sl.Ts τ vJ)(b:bZ.Ts τ vG):iM:=⟨a.2.2.2.2.1,a.2.2.2.2.2.2.2.2.2.2.2.2.2.2.2.2.2.2.2.1,b.1,b.2.1,b.2.2.1.1.1,b.2.2.1.1.2.1,b.2.2.1.2.1,b.2.2.2.2.1⟩
def Xi (s:iM):Sl.Ts τ vJ:=((),(),(),(),s.last,(),(),(),(),(),(),(),(),(),(),(),(),(),(),s.t19,(),(),(),(),(),(),(),(),(),(),(),(),(),(),(),(),(),(),(),(),(),(),(),(),(),(),(),(),(),(),(),(),(),(),(),(),(),())
def Wk (s:iM):bZ.Ts τ vG:=(s.ms,s.b1,((s.b2,s.xt,()),s.b23,()),(),s.g4,())
def Wi:Lp τ:={ ts:=vJ,hs:=vG,S:=iM,to:=Xp,ot:=Xi,oh:=Wk,hk:=[8,2,2,4],tk:=[0,0,3,4,0,0,0,0,0,0,4,4],eZ:=fun _ _=>rfl,eX:=fun _ _=>rfl }
def mJ (N:Nat)(script:List (aQ))(ms:List (Option (List (Int)))):Option (Bool×(List (Option (List (Int))))) :=
 ((NR N).bind fun r1 =>
 ((yL N ms).bind fun r2 =>
 (bif (!r2.1) then
 (some (false,r2.2))
 else
 (iter N (fun (s3:iM) Iw =>
 (bif (decide (s3.t19 < ((script).length:Int))) then
 (bif (nI s3.t19 ((script).length:Int)) then
 ((Es N (aE script s3.t19 default) s3.b2 s3.xt s3.b23 0 s3.g4 s3.ms).bind fun r5 =>
 ((Cj N r5.2.1 r5.2.2.1 r5.2.2.2.1 r5.2.2.2.2.2.2.2.1 r5.2.2.2.2.2.2.1).bind fun r6 =>
 ((rO N (aE script s3.t19 default) (⟨[],0⟩:bS) (aE script s3.t19 default) r6.2.2.2.2.2.1 s3.b1 0 s3.last r6.2.2.2.2.2.2 r6.2.2.2.2.1).bind fun r7 =>
 (bif r7.1 then
 (bif (Nat.beq r7.2.2.2.2.2.2.2.2.2.2.1 0) then
 (some (r7.2.2.2.2.2.2.2.2.2.2.2.2.1,r7.2.2.2.2.2.2.2.2.2.2.2.2.2.2.2.2))
 else
 none)
 else
 (bif (((!(((aE script s3.t19 default).Kind)==0))&&(!(((aE script s3.t19 default).Kind)==2)))&&(!(r7.2.2.2.2.2.2.2.1==s3.last))) then
 (some (false,r7.2.2.2.2.2.2.2.2.2.1))
 else
 (Iw ⟨r7.2.2.2.2.2.2.2.1,(IntKind.i64.wrap (s3.t19+1)),r7.2.2.2.2.2.2.2.2.2.1,r7.2.2.2.2.2.1,r6.1,r6.2.1,r6.2.2.1,r6.2.2.2.1⟩))))))
 else none)
 else
 (some (true,s3.ms)))) ⟨0,0,r2.2,false,r1.1,r1.2.1,r1.2.2.1,r1.2.2.2⟩))))
def Gs:dL τ:=cn [.ty 69] [.aX 5] (.ty 4) [.aX 5] (fun N a b=>mJ N a.1 b.1) fun r=>(r.1,(r.2,()))
noncomputable def Yc:Zr τ:={ D:=D0,mi:=KX [(8,AB),(9,Hv),(18,Hu),(16,Fl),(39,Bj)],lp:=UT [(6,Wi)],k0:=1,mu:=[],un:=[],et:=5,ex:=[0],aX:=true,ad:=[],fz:=[],ln:=[] }
theorem BO:aR E C 5 Gs :=
 L8 (D:=Yc) ⟨sn,E6,Mf ⟨H9,⟨SF,⟨SE,⟨PJ,⟨JK,trivial⟩⟩⟩⟩⟩,fun _=>rfl⟩ Gs (fun a b=>(a,b.1)) none (fun _ _=>rfl) rfl (fun _ _ h=>nomatch h) 1000000 (fn:=Tryz.f5) Tryz.func5 rfl (by kernel_rfl) (by kernel_rfl) rfl (by intro N a b;kernel_rfl) (hsub:=⟨fX (by kernel_rfl),⟨fX (by kernel_rfl),⟨fX (by kernel_rfl),⟨fX (by kernel_rfl),⟨⟨fX (by kernel_rfl),⟨fX (by kernel_rfl),⟨fX (by kernel_rfl),⟨⟨fX (by kernel_rfl),⟨fX (by kernel_rfl),⟨fX (by kernel_rfl),⟨⟨fX (by kernel_rfl),(by show Uq _ _ _ _;unfold Uq;kernel_rfl)⟩,fX (by kernel_rfl)⟩⟩⟩⟩,fX (by kernel_rfl)⟩⟩⟩⟩,fX (by kernel_rfl)⟩⟩⟩⟩⟩)
end Go.Proofs.YtddpmkmgbdedlaaGreat
