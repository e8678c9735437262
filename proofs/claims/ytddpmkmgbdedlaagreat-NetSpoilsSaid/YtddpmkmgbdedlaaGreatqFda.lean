/-
The functions of this seat,as plain functions over typed data,each with its contract. Printed by wip/tools/fngen.py.
-/
import Derived.Test.YtddpmkmgbdedlaaGreatqCod
import Derived.Test.YtddpmkmgbdedlaaGreatqTvX
import Derived.KernelRfl
set_option linter.unusedVariables false
set_option maxRecDepth 100000
namespace Go.Proofs.YtddpmkmgbdedlaaGreat
open Go Go.Ev
def aBi (N:Nat)  : Option (Nat×Int×Bool×(List (bU))) :=
 (some (0,0,true,[]))
def aBj:Con τ:=cn [] [] (.ptr 0 []) [.box (.agg [.agg [.msl 20065 1,.ty 2],.ty 4]),.gbx 20065] (fun N a b=>aBi N ) fun r=>((),(((r.1,r.2.1,()),r.2.2.1,()),r.2.2.2,()))
theorem aL2:aF E C 8 aBj:=ok0 aBj [] [] 0 [] [] trivial (fun a b=>(b.1.1.1,b.1.1.2.1,b.1.2.1,b.2.1)) Tryz.func8 rfl (by intro N a b; kernel_rfl)
def aFl (N:Nat) (slot:Int):Option (aB) :=
 (some (⟨7,(⟨1,0⟩:aS),(⟨1,1⟩:aS),(⟨1,0⟩:aP),slot,[],(⟨0,0,0,(⟨(⟨0,0⟩:aL),0,0,0,[],[],[]⟩:GOp),0,0,[],(⟨0,(Vector.replicate 8 (default:Int)),(Vector.replicate 8 (default:Int)),(Vector.replicate 8 (default:Int))⟩:aD),0,(Vector.replicate 8 (default:Int)),0,(⟨0,0,0,[]⟩:aE),0,0,0⟩:aC),0,(Vector.replicate 8 (default:Int)),0,0,[],(⟨0,(Vector.replicate 8 (default:Int)),(Vector.replicate 8 (default:Int)),(Vector.replicate 8 (default:Int))⟩:aD),(⟨0,0,0,[]⟩:aE)⟩:aB))
def aFm:Con τ:=cn [.ty 2] [] (.ty 43) [] (fun N a b=>aFl N a.1) fun r=>(r,())
theorem aQH:aF E C 24 aFm:=ok0 aFm [] [] 0 [] [] trivial (fun a b=>a) Tryz.func24 rfl (by intro N a b; kernel_rfl)
def rL (N:Nat) (b0:Nat) (b02:Int) (b03:Bool) (g1:List (bU)) (ms:List (Option (List (Int)))):Option (Bool×Nat×Int×Bool×(List (bU))×(List (Option (List (Int))))) :=
 (some ((!b03),b0,b02,b03,g1,ms))
def uD:Con τ:=cn [.ptr 0 []] [.box (.agg [.agg [.msl 20065 1,.ty 2],.ty 4]),.gbx 20065,.pool 5] (.ty 4) [.box (.agg [.agg [.msl 20065 1,.ty 2],.ty 4]),.gbx 20065,.pool 5] (fun N a b=>rL N b.1.1.1 b.1.1.2.1 b.1.2.1 b.2.1 b.2.2.1) fun r=>(r.1,(((r.2.1,r.2.2.1,()),r.2.2.2.1,()),r.2.2.2.2.1,r.2.2.2.2.2,()))
theorem aBk:aF E C 25 uD:=okp uD [] [] 3 [] [] [] [] [] trivial (fun a b=>(a,b.1.1.1,b.1.1.2.1,b.1.2.1,b.2.1,b.2.2.1)) Tryz.func25 rfl (by intro N a b; kernel_rfl)
structure xZ where
 t7:Int
def aFn:List Sl:=[.k,.k,.j,.k,.j,.k,.k,.sh (.ty 2),.j,.j,.j,.j,.j,.j,.j,.j,.j,.j,.j,.j,.j,.j,.j,.j,.j,.j,.j,.j,.j,.j]
def aFo:List ESh:=[]
def aQI (a:Sl.Ts τ aFn) (b:ESh.Ts τ aFo):xZ:=⟨a.2.2.2.2.2.2.2.1⟩
def aQJ (s:xZ):Sl.Ts τ aFn:=((),(),(),(),(),(),(),s.t7,(),(),(),(),(),(),(),(),(),(),(),(),(),(),(),(),(),(),(),(),(),(),())
def aQK (s:xZ):ESh.Ts τ aFo:=()
def aQL:Lp τ:={ ts:=aFn,hs:=aFo,S:=xZ,to:=aQI,ot:=aQJ,oh:=aQK,hk:=[],tk:=[],ot_to:=fun _ _=>rfl,oh_to:=fun _ _=>rfl }
def fH (N:Nat) (l:List (aS)):Option (Bool) :=
 (bE N (fun (s1:xZ) next2 =>
 (bif (decide (s1.t7 < ((l).length:Int))) then
 (bif (ibB s1.t7 ((l).length:Int)) then
 (bif ((((decide (((aA l s1.t7 default).Group) < 0)) || (decide (9≤((aA l s1.t7 default).Group)))) || (decide (((aA l s1.t7 default).Replica) < 0))) || (decide (5≤((aA l s1.t7 default).Replica)))) then
 (some false)
 else
 (next2 ⟨(IntKind.i64.wrap (s1.t7+1))⟩))
 else none)
 else
 (some true))) ⟨0⟩)
def aFp:Con τ:=cn [.ty 70] [] (.ty 4) [] (fun N a b=>fH N a.1) fun r=>(r,())
theorem aQM:aF E C 89 aFp:=ok0 aFp [] [(2,aQL)] 0 [] [] trivial (fun a b=>a) Tryz.func89 rfl (by intro N a b; kernel_rfl)
structure uE where
 t7:Int
def aFq:List Sl:=[.k,.k,.j,.k,.j,.k,.k,.sh (.ty 2),.j,.j,.j,.j,.j,.j,.j,.j,.j,.j]
def aFr:List ESh:=[]
def aQN (a:Sl.Ts τ aFq) (b:ESh.Ts τ aFr):uE:=⟨a.2.2.2.2.2.2.2.1⟩
def aQO (s:uE):Sl.Ts τ aFq:=((),(),(),(),(),(),(),s.t7,(),(),(),(),(),(),(),(),(),(),())
def aQP (s:uE):ESh.Ts τ aFr:=()
def aQQ:Lp τ:={ ts:=aFq,hs:=aFr,S:=uE,to:=aQN,ot:=aQO,oh:=aQP,hk:=[],tk:=[],ot_to:=fun _ _=>rfl,oh_to:=fun _ _=>rfl }
def dT (N:Nat) (l:List (Int)):Option (Bool) :=
 (bE N (fun (s1:uE) next2 =>
 (bif (decide (s1.t7 < ((l).length:Int))) then
 (bif (ibB s1.t7 ((l).length:Int)) then
 (bif ((decide ((aA l s1.t7 default) < 0)) || (decide (1099511627776 < (aA l s1.t7 default)))) then
 (some false)
 else
 (next2 ⟨(IntKind.i64.wrap (s1.t7+1))⟩))
 else none)
 else
 (some true))) ⟨0⟩)
def nM:Con τ:=cn [.ty 60] [] (.ty 4) [] (fun N a b=>dT N a.1) fun r=>(r,())
theorem rM:aF E C 95 nM:=ok0 nM [] [(2,aQQ)] 0 [] [] trivial (fun a b=>a) Tryz.func95 rfl (by intro N a b; kernel_rfl)
def yA (N:Nat) (b:aP):Option (Bool) :=
 ((dT N [b.Round]).bind fun r1 =>
 (some ((r1&&(decide (0≤b.Replica)))&&(decide (b.Replica < 5)))))
def aBl:Con τ:=cn [.ty 25] [] (.ty 4) [] (fun N a b=>yA N a.1) fun r=>(r,())
theorem aL3:aF E C 94 aBl:=ok0 aBl [(95,nM)] [] 0 [] [] ⟨rM,trivial⟩ (fun a b=>a) Tryz.func94 rfl (by intro N a b; kernel_rfl)
structure uF where
 t13:Int
def aFs:List Sl:=[.k,.k,.k,.k,.j,.j,.k,.k,.k,.k,.k,.k,.k,.sh (.ty 2),.j,.j,.j,.j,.j,.j,.j,.j,.j,.j,.j,.j]
def aFt:List ESh:=[]
def aQR (a:Sl.Ts τ aFs) (b:ESh.Ts τ aFt):uF:=⟨a.2.2.2.2.2.2.2.2.2.2.2.2.2.1⟩
def aQS (s:uF):Sl.Ts τ aFs:=((),(),(),(),(),(),(),(),(),(),(),(),(),s.t13,(),(),(),(),(),(),(),(),(),(),(),(),())
def aQT (s:uF):ESh.Ts τ aFt:=()
def aQU:Lp τ:={ ts:=aFs,hs:=aFt,S:=uF,to:=aQR,ot:=aQS,oh:=aQT,hk:=[],tk:=[],ot_to:=fun _ _=>rfl,oh_to:=fun _ _=>rfl }
def yB (N:Nat) (s1_:List (GOp)) (s2_:List (GOp)):Option (Bool) :=
 (bif (!(((s1_).length:Int)==((s2_).length:Int))) then
 (some false)
 else
 (bE N (fun (s1:uF) next2 =>
 (bif (decide (s1.t13 < ((s1_).length:Int))) then
 (bif (ibB s1.t13 ((s1_).length:Int)) then
 (bif (ibB s1.t13 ((s2_).length:Int)) then
 (bif (!((((((aA s1_ s1.t13 default).Stamp).Time)==(((aA s2_ s1.t13 default).Stamp).Time))&&((((aA s1_ s1.t13 default).Stamp).Site)==(((aA s2_ s1.t13 default).Stamp).Site)))&&((((aA s1_ s1.t13 default).Kind)==((aA s2_ s1.t13 default).Kind))&&((((aA s1_ s1.t13 default).Node)==((aA s2_ s1.t13 default).Node))&&((((aA s1_ s1.t13 default).Parent)==((aA s2_ s1.t13 default).Parent))&&((((aA s1_ s1.t13 default).Name)==((aA s2_ s1.t13 default).Name))&&((((aA s1_ s1.t13 default).Key)==((aA s2_ s1.t13 default).Key))&&(((aA s1_ s1.t13 default).Value)==((aA s2_ s1.t13 default).Value))))))))) then
 (some false)
 else
 (next2 ⟨(IntKind.i64.wrap (s1.t13+1))⟩))
 else none)
 else none)
 else
 (some true))) ⟨0⟩))
def aBm:Con τ:=cn [.ty 31,.ty 31] [] (.ty 4) [] (fun N a b=>yB N a.1 a.2.1) fun r=>(r,())
theorem aL4:aF E C 136 aBm:=ok0 aBm [] [(4,aQU)] 0 [] [] trivial (fun a b=>a) Tryz.func136 rfl (by intro N a b; kernel_rfl)
def yC (N:Nat) (a:aE) (b:aE):Option (Bool) :=
 (some ((((a.Snap==b.Snap)&&(a.Index==b.Index))&&(a.Many==b.Many))&&((jD a.Data)==(jD b.Data))))
def aBn:Con τ:=cn [.ty 39,.ty 39] [] (.ty 4) [] (fun N a b=>yC N a.1 a.2.1) fun r=>(r,())
theorem aL5:aF E C 137 aBn:=ok0 aBn [] [] 0 [] [] trivial (fun a b=>a) Tryz.func137 rfl (by intro N a b; kernel_rfl)
def dK (N:Nat) (a:aC) (b:aC):Option (Bool) :=
 ((bif ((((((a.Kind==b.Kind)&&(a.Session==b.Session))&&(a.Request==b.Request))&&(((a.Op.Stamp.Time==b.Op.Stamp.Time)&&(a.Op.Stamp.Site==b.Op.Stamp.Site))&&((a.Op.Kind==b.Op.Kind)&&((a.Op.Node==b.Op.Node)&&((a.Op.Parent==b.Op.Parent)&&((a.Op.Name==b.Op.Name)&&((a.Op.Key==b.Op.Key)&&(a.Op.Value==b.Op.Value))))))))&&(a.Origin==b.Origin))&&(a.Seq==b.Seq)) then yB N a.Ops b.Ops else some default).bind fun r1 =>
 ((bif (((((((((((a.Kind==b.Kind)&&(a.Session==b.Session))&&(a.Request==b.Request))&&(((a.Op.Stamp.Time==b.Op.Stamp.Time)&&(a.Op.Stamp.Site==b.Op.Stamp.Site))&&((a.Op.Kind==b.Op.Kind)&&((a.Op.Node==b.Op.Node)&&((a.Op.Parent==b.Op.Parent)&&((a.Op.Name==b.Op.Name)&&((a.Op.Key==b.Op.Key)&&(a.Op.Value==b.Op.Value))))))))&&(a.Origin==b.Origin))&&(a.Seq==b.Seq))&&r1)&&((a.Epoch.Number==b.Epoch.Number)&&((bR cX a.Epoch.States b.Epoch.States)&&((bR cM a.Epoch.Seals b.Epoch.Seals)&&(bR cX a.Epoch.Sponsor b.Epoch.Sponsor)))))&&(a.From==b.From))&&(bR cM a.Vector_ b.Vector_))&&(a.Clock==b.Clock)) then yC N a.Part b.Part else some default).bind fun r2 =>
 (some (((((((((((((((a.Kind==b.Kind)&&(a.Session==b.Session))&&(a.Request==b.Request))&&(((a.Op.Stamp.Time==b.Op.Stamp.Time)&&(a.Op.Stamp.Site==b.Op.Stamp.Site))&&((a.Op.Kind==b.Op.Kind)&&((a.Op.Node==b.Op.Node)&&((a.Op.Parent==b.Op.Parent)&&((a.Op.Name==b.Op.Name)&&((a.Op.Key==b.Op.Key)&&(a.Op.Value==b.Op.Value))))))))&&(a.Origin==b.Origin))&&(a.Seq==b.Seq))&&r1)&&((a.Epoch.Number==b.Epoch.Number)&&((bR cX a.Epoch.States b.Epoch.States)&&((bR cM a.Epoch.Seals b.Epoch.Seals)&&(bR cX a.Epoch.Sponsor b.Epoch.Sponsor)))))&&(a.From==b.From))&&(bR cM a.Vector_ b.Vector_))&&(a.Clock==b.Clock))&&r2)&&(a.Site==b.Site))&&(a.Sponsor==b.Sponsor))&&(a.Length==b.Length)))))
def yD:Con τ:=cn [.ty 41,.ty 41] [] (.ty 4) [] (fun N a b=>dK N a.1 a.2.1) fun r=>(r,())
theorem aFu:aF E C 133 yD:=ok0 yD [(136,aBm),(137,aBn)] [] 0 [] [] ⟨aL4,⟨aL5,trivial⟩⟩ (fun a b=>a) Tryz.func133 rfl (by intro N a b; kernel_rfl)
def dN (N:Nat) (ok:Bool):Option (Int) :=
 (bif ok then
 (some 0)
 else
 (some 40))
def aBo:Con τ:=cn [.ty 4] [] (.ty 48) [] (fun N a b=>dN N a.1) fun r=>(r,())
theorem aL6:aF E C 98 aBo:=ok0 aBo [] [] 0 [] [] trivial (fun a b=>a) Tryz.func98 rfl (by intro N a b; kernel_rfl)
structure uG where
 t7:Int
def aFv:List Sl:=[.k,.k,.j,.k,.j,.k,.k,.sh (.ty 2),.j,.j,.j,.j,.j,.j,.j,.j,.j,.j]
def aFw:List ESh:=[]
def aQV (a:Sl.Ts τ aFv) (b:ESh.Ts τ aFw):uG:=⟨a.2.2.2.2.2.2.2.1⟩
def aQW (s:uG):Sl.Ts τ aFv:=((),(),(),(),(),(),(),s.t7,(),(),(),(),(),(),(),(),(),(),())
def aQX (s:uG):ESh.Ts τ aFw:=()
def aQY:Lp τ:={ ts:=aFv,hs:=aFw,S:=uG,to:=aQV,ot:=aQW,oh:=aQX,hk:=[],tk:=[],ot_to:=fun _ _=>rfl,oh_to:=fun _ _=>rfl }
def eT (N:Nat) (l:List (Int)):Option (Bool) :=
 (bE N (fun (s1:uG) next2 =>
 (bif (decide (s1.t7 < ((l).length:Int))) then
 (bif (ibB s1.t7 ((l).length:Int)) then
 (bif ((decide ((aA l s1.t7 default) < 0)) || (decide (8≤(aA l s1.t7 default)))) then
 (some false)
 else
 (next2 ⟨(IntKind.i64.wrap (s1.t7+1))⟩))
 else none)
 else
 (some true))) ⟨0⟩)
def yE:Con τ:=cn [.ty 194] [] (.ty 4) [] (fun N a b=>eT N a.1) fun r=>(r,())
theorem aFx:aF E C 90 yE:=ok0 yE [] [(2,aQY)] 0 [] [] trivial (fun a b=>a) Tryz.func90 rfl (by intro N a b; kernel_rfl)
structure yF where
 t7:Int
def aFy:List Sl:=[.k,.k,.j,.k,.j,.k,.k,.sh (.ty 2),.j,.j,.j,.j,.j,.j,.j,.j,.j,.j]
def aFz:List ESh:=[]
def aQZ (a:Sl.Ts τ aFy) (b:ESh.Ts τ aFz):yF:=⟨a.2.2.2.2.2.2.2.1⟩
def aQ0 (s:yF):Sl.Ts τ aFy:=((),(),(),(),(),(),(),s.t7,(),(),(),(),(),(),(),(),(),(),())
def aQ1 (s:yF):ESh.Ts τ aFz:=()
def aQ2:Lp τ:={ ts:=aFy,hs:=aFz,S:=yF,to:=aQZ,ot:=aQ0,oh:=aQ1,hk:=[],tk:=[],ot_to:=fun _ _=>rfl,oh_to:=fun _ _=>rfl }
def aBp (N:Nat) (l:List (Int)):Option (Bool) :=
 (bE N (fun (s1:yF) next2 =>
 (bif (decide (s1.t7 < ((l).length:Int))) then
 (bif (ibB s1.t7 ((l).length:Int)) then
 (bif ((decide ((aA l s1.t7 default) < 0)) || (decide (1125899906842624 < (aA l s1.t7 default)))) then
 (some false)
 else
 (next2 ⟨(IntKind.i64.wrap (s1.t7+1))⟩))
 else none)
 else
 (some true))) ⟨0⟩)
def aFA:Con τ:=cn [.ty 60] [] (.ty 4) [] (fun N a b=>aBp N a.1) fun r=>(r,())
theorem aQ3:aF E C 167 aFA:=ok0 aFA [] [(2,aQ2)] 0 [] [] trivial (fun a b=>a) Tryz.func167 rfl (by intro N a b; kernel_rfl)
structure yG where
 t7:Int
def aFB:List Sl:=[.k,.k,.j,.k,.j,.k,.k,.sh (.ty 2),.j,.j,.j,.j,.j,.j,.j]
def aFC:List ESh:=[]
def aQ4 (a:Sl.Ts τ aFB) (b:ESh.Ts τ aFC):yG:=⟨a.2.2.2.2.2.2.2.1⟩
def aQ5 (s:yG):Sl.Ts τ aFB:=((),(),(),(),(),(),(),s.t7,(),(),(),(),(),(),(),())
def aQ6 (s:yG):ESh.Ts τ aFC:=()
def aQ7:Lp τ:={ ts:=aFB,hs:=aFC,S:=yG,to:=aQ4,ot:=aQ5,oh:=aQ6,hk:=[],tk:=[],ot_to:=fun _ _=>rfl,oh_to:=fun _ _=>rfl }
def aBq (N:Nat) (l:List (List UInt8)):Option (Bool) :=
 (bE N (fun (s1:yG) next2 =>
 (bif (decide (s1.t7 < ((l).length:Int))) then
 (bif (ibB s1.t7 ((l).length:Int)) then
 (bif (decide (255 < (((aA l s1.t7 default)).length:Int))) then
 (some false)
 else
 (next2 ⟨(IntKind.i64.wrap (s1.t7+1))⟩))
 else none)
 else
 (some true))) ⟨0⟩)
def aFD:Con τ:=cn [.ty 229] [] (.ty 4) [] (fun N a b=>aBq N a.1) fun r=>(r,())
theorem aQ8:aF E C 168 aFD:=ok0 aFD [] [(2,aQ7)] 0 [] [] trivial (fun a b=>a) Tryz.func168 rfl (by intro N a b; kernel_rfl)
def uH (N:Nat) (op:GOp):Option (Bool) :=
 ((dT N [op.Stamp.Time]).bind fun r1 =>
 ((bif r1 then eT N [op.Stamp.Site] else some default).bind fun r2 =>
 ((bif (((r1&&r2)&&(decide (1≤op.Kind)))&&(decide (op.Kind≤3))) then aBp N [op.Node,op.Parent] else some default).bind fun r3 =>
 ((bif ((((r1&&r2)&&(decide (1≤op.Kind)))&&(decide (op.Kind≤3)))&&r3) then aBq N [op.Name,op.Key,op.Value] else some default).bind fun r4 =>
 (some (((((r1&&r2)&&(decide (1≤op.Kind)))&&(decide (op.Kind≤3)))&&r3)&&r4))))))
def aBr:Con τ:=cn [.ty 30] [] (.ty 4) [] (fun N a b=>uH N a.1) fun r=>(r,())
theorem aL7:aF E C 130 aBr:=ok0 aBr [(95,nM),(90,yE),(167,aFA),(168,aFD)] [] 0 [] [] ⟨rM,⟨aFx,⟨aQ3,⟨aQ8,trivial⟩⟩⟩⟩ (fun a b=>a) Tryz.func130 rfl (by intro N a b; kernel_rfl)
def aBs (N:Nat) (op:GOp):Option (Bool) :=
 ((uH N op).bind fun r1 =>
 (some (!r1)))
def aFE:Con τ:=cn [.ty 30] [] (.ty 4) [] (fun N a b=>aBs N a.1) fun r=>(r,())
theorem aQ9:aF E C 129 aFE:=ok0 aFE [(130,aBr)] [] 0 [] [] ⟨aL7,trivial⟩ (fun a b=>a) Tryz.func129 rfl (by intro N a b; kernel_rfl)
structure uI where
 t8:Int
def aFF:List Sl:=[.k,.k,.k,.k,.j,.j,.k,.k,.sh (.ty 2),.j,.j,.j,.j,.j,.j,.j,.j,.j,.j]
def aFG:List ESh:=[]
def aRa (a:Sl.Ts τ aFF) (b:ESh.Ts τ aFG):uI:=⟨a.2.2.2.2.2.2.2.2.1⟩
def aRb (s:uI):Sl.Ts τ aFF:=((),(),(),(),(),(),(),(),s.t8,(),(),(),(),(),(),(),(),(),(),())
def aRc (s:uI):ESh.Ts τ aFG:=()
def aRd:Lp τ:={ ts:=aFF,hs:=aFG,S:=uI,to:=aRa,ot:=aRb,oh:=aRc,hk:=[],tk:=[],ot_to:=fun _ _=>rfl,oh_to:=fun _ _=>rfl }
def aBt (N:Nat) (s:List (GOp)):Option (Int) :=
 (bE N (fun (s1:uI) next2 =>
 (bif (decide (s1.t8 < ((s).length:Int))) then
 (bif (ibB s1.t8 ((s).length:Int)) then
 ((aBs N (⟨((aA s s1.t8 default).Stamp),(aA s s1.t8 default).Kind,(aA s s1.t8 default).Node,(aA s s1.t8 default).Parent,(aA s s1.t8 default).Name,(aA s s1.t8 default).Key,(aA s s1.t8 default).Value⟩:GOp)).bind fun r3 =>
 (bif r3 then
 (some s1.t8)
 else
 (next2 ⟨(IntKind.i64.wrap (s1.t8+1))⟩)))
 else none)
 else
 (some (-1)))) ⟨0⟩)
def aFH:Con τ:=cn [.ty 31,.fn 129 []] [] (.ty 3) [] (fun N a b=>aBt N a.1) fun r=>(r,())
theorem aRe:aF E C 166 aFH:=ok0 aFH [(129,aFE)] [(2,aRd)] 0 [] [] ⟨aQ9,trivial⟩ (fun a b=>a) Tryz.func166 rfl (by intro N a b; kernel_rfl)
def aBu (N:Nat) (s:List (GOp)):Option (Bool) :=
 ((aBt N s).bind fun r1 =>
 (some (decide (0≤r1))))
def aFI:Con τ:=cn [.ty 31,.fn 129 []] [] (.ty 4) [] (fun N a b=>aBu N a.1) fun r=>(r,())
theorem aRf:aF E C 128 aFI:=ok0 aFI [(166,aFH)] [] 0 [] [] ⟨aRe,trivial⟩ (fun a b=>a) Tryz.func128 rfl (by intro N a b; kernel_rfl)
def nN (N:Nat) (l:List (GOp)) (least:Int):Option (Bool) :=
 ((bif ((decide (least≤((l).length:Int)))&&(decide (((l).length:Int)≤4096))) then aBu N l else some default).bind fun r1 =>
 (some (((decide (least≤((l).length:Int)))&&(decide (((l).length:Int)≤4096)))&&(!r1))))
def aBv:Con τ:=cn [.ty 31,.ty 3] [] (.ty 4) [] (fun N a b=>nN N a.1 a.2.1) fun r=>(r,())
theorem aL8:aF E C 91 aBv:=ok0 aBv [(128,aFI)] [] 0 [] [] ⟨aRf,trivial⟩ (fun a b=>a) Tryz.func91 rfl (by intro N a b; kernel_rfl)
structure uJ where
 ok:Bool
 t14:Int
def aFJ:List Sl:=[.k,.k,.k,.sh (.ty 4),.j,.k,.k,.k,.k,.k,.j,.k,.j,.k,.sh (.ty 2),.j,.j,.j,.j,.j,.j,.j,.j,.j,.j,.j,.j,.j,.j,.j,.j,.j,.j,.j,.j,.j,.j,.j,.j,.j,.j,.j,.j,.j,.j,.j,.j,.k]
def aFK:List ESh:=[.keep]
def aRg (a:Sl.Ts τ aFJ) (b:ESh.Ts τ aFK):uJ:=⟨a.2.2.2.1,a.2.2.2.2.2.2.2.2.2.2.2.2.2.2.1⟩
def aRh (s:uJ):Sl.Ts τ aFJ:=((),(),(),s.ok,(),(),(),(),(),(),(),(),(),(),s.t14,(),(),(),(),(),(),(),(),(),(),(),(),(),(),(),(),(),(),(),(),(),(),(),(),(),(),(),(),(),(),(),(),(),())
def aRi (s:uJ):ESh.Ts τ aFK:=((),())
def aRj:Lp τ:={ ts:=aFJ,hs:=aFK,S:=uJ,to:=aRg,ot:=aRh,oh:=aRi,hk:=[3],tk:=[0,2,0,0,0,2],ot_to:=fun _ _=>rfl,oh_to:=fun _ _=>rfl }
structure uK where
 ok:Bool
 t14:Int
def aFL:List Sl:=[.k,.k,.k,.sh (.ty 4),.j,.k,.k,.k,.k,.k,.j,.k,.k,.k,.sh (.ty 2),.j,.j,.j,.j,.j,.j,.j,.j,.j,.j,.j,.j,.j,.j,.j,.j,.j,.j,.j,.j,.j,.j,.j,.j,.j,.j,.j,.j,.j,.j,.j,.j,.k]
def aFM:List ESh:=[.keep]
def aRk (a:Sl.Ts τ aFL) (b:ESh.Ts τ aFM):uK:=⟨a.2.2.2.1,a.2.2.2.2.2.2.2.2.2.2.2.2.2.2.1⟩
def aRl (s:uK):Sl.Ts τ aFL:=((),(),(),s.ok,(),(),(),(),(),(),(),(),(),(),s.t14,(),(),(),(),(),(),(),(),(),(),(),(),(),(),(),(),(),(),(),(),(),(),(),(),(),(),(),(),(),(),(),(),(),())
def aRm (s:uK):ESh.Ts τ aFM:=((),())
def aRn:Lp τ:={ ts:=aFL,hs:=aFM,S:=uK,to:=aRk,ot:=aRl,oh:=aRm,hk:=[2],tk:=[0,2,0,0,0,2],ot_to:=fun _ _=>rfl,oh_to:=fun _ _=>rfl }
def nO (N:Nat) (e:aD):Option (Bool) :=
 ((dT N [e.Number]).bind fun r1 =>
 (bif r1 then
 ((bif r1 then dT N (e.Seals.toList) else some default).bind fun r2 =>
 (bE N (fun (s3:uJ) next4 =>
 (bif (decide (s3.t14 < 8)) then
 (bif (!s3.ok || (ibB s3.t14 8)) then
 (bif (!(s3.ok&&(decide (0≤(bC e.States ((s3.t14).toNat) default)))) || (ibB s3.t14 8)) then
 (bif (!((s3.ok&&(decide (0≤(bC e.States ((s3.t14).toNat) default))))&&(decide ((bC e.States ((s3.t14).toNat) default)≤3))) || (ibB s3.t14 8)) then
 (bif (!(((s3.ok&&(decide (0≤(bC e.States ((s3.t14).toNat) default))))&&(decide ((bC e.States ((s3.t14).toNat) default)≤3)))&&(decide ((-1)≤(bC e.Sponsor ((s3.t14).toNat) default)))) || (ibB s3.t14 8)) then
 (next4 ⟨((((s3.ok&&(decide (0≤(bC e.States ((s3.t14).toNat) default))))&&(decide ((bC e.States ((s3.t14).toNat) default)≤3)))&&(decide ((-1)≤(bC e.Sponsor ((s3.t14).toNat) default))))&&(decide ((bC e.Sponsor ((s3.t14).toNat) default) < 8))),(IntKind.i64.wrap (s3.t14+1))⟩)
 else none)
 else none)
 else none)
 else none)
 else
 (some s3.ok))) ⟨(r1&&r2),0⟩))
 else
 (bE N (fun (s5:uK) next6 =>
 (bif (decide (s5.t14 < 8)) then
 (bif (!s5.ok || (ibB s5.t14 8)) then
 (bif (!(s5.ok&&(decide (0≤(bC e.States ((s5.t14).toNat) default)))) || (ibB s5.t14 8)) then
 (bif (!((s5.ok&&(decide (0≤(bC e.States ((s5.t14).toNat) default))))&&(decide ((bC e.States ((s5.t14).toNat) default)≤3))) || (ibB s5.t14 8)) then
 (bif (!(((s5.ok&&(decide (0≤(bC e.States ((s5.t14).toNat) default))))&&(decide ((bC e.States ((s5.t14).toNat) default)≤3)))&&(decide ((-1)≤(bC e.Sponsor ((s5.t14).toNat) default)))) || (ibB s5.t14 8)) then
 (next6 ⟨((((s5.ok&&(decide (0≤(bC e.States ((s5.t14).toNat) default))))&&(decide ((bC e.States ((s5.t14).toNat) default)≤3)))&&(decide ((-1)≤(bC e.Sponsor ((s5.t14).toNat) default))))&&(decide ((bC e.Sponsor ((s5.t14).toNat) default) < 8))),(IntKind.i64.wrap (s5.t14+1))⟩)
 else none)
 else none)
 else none)
 else none)
 else
 (some s5.ok))) ⟨false,0⟩)))
def aBw:Con τ:=cn [.ty 36] [] (.ty 4) [] (fun N a b=>nO N a.1) fun r=>(r,())
theorem aL9:aF E C 92 aBw:=ok0 aBw [(95,nM)] [(3,aRj),(3,aRn)] 0 [] [] ⟨rM,trivial⟩ (fun a b=>a) Tryz.func92 rfl (by intro N a b; kernel_rfl)
def jN (N:Nat) (p:aE):Option (Bool) :=
 ((dT N [p.Snap]).bind fun r1 =>
 (some (((((r1&&(decide (1≤p.Many)))&&(decide (p.Many≤4096)))&&(decide (0≤p.Index)))&&(decide (p.Index < p.Many)))&&(decide (((p.Data).length:Int)≤16384)))))
def aBx:Con τ:=cn [.ty 39] [] (.ty 4) [] (fun N a b=>jN N a.1) fun r=>(r,())
theorem aMa:aF E C 93 aBx:=ok0 aBx [(95,nM)] [] 0 [] [] ⟨rM,trivial⟩ (fun a b=>a) Tryz.func93 rfl (by intro N a b; kernel_rfl)
def gP (N:Nat) (e:aC):Option (Int) :=
 (bif (e.Kind==0) then
 ((dK N (⟨e.Kind,0,0,(⟨(⟨0,0⟩:aL),0,0,0,[],[],[]⟩:GOp),0,0,[],(⟨0,(Vector.replicate 8 (default:Int)),(Vector.replicate 8 (default:Int)),(Vector.replicate 8 (default:Int))⟩:aD),0,(Vector.replicate 8 (default:Int)),0,(⟨0,0,0,[]⟩:aE),0,0,0⟩:aC) e).bind fun r1 =>
 ((dN N r1).bind fun r2 =>
 (some r2)))
 else
 (bif (e.Kind==1) then
 ((dT N [e.Session,e.Request]).bind fun r3 =>
 ((bif ((r3&&(decide (0 < e.Session)))&&(decide (0 < e.Request))) then uH N e.Op else some default).bind fun r4 =>
 ((bif (((r3&&(decide (0 < e.Session)))&&(decide (0 < e.Request)))&&r4) then dK N (⟨e.Kind,e.Session,e.Request,e.Op,0,0,[],(⟨0,(Vector.replicate 8 (default:Int)),(Vector.replicate 8 (default:Int)),(Vector.replicate 8 (default:Int))⟩:aD),0,(Vector.replicate 8 (default:Int)),0,(⟨0,0,0,[]⟩:aE),0,0,0⟩:aC) e else some default).bind fun r5 =>
 ((dN N ((((r3&&(decide (0 < e.Session)))&&(decide (0 < e.Request)))&&r4)&&r5)).bind fun r6 =>
 (some r6)))))
 else
 (bif (e.Kind==2) then
 ((eT N [e.Origin]).bind fun r7 =>
 ((bif r7 then dT N [e.Seq] else some default).bind fun r8 =>
 ((bif (r7&&r8) then nN N e.Ops 1 else some default).bind fun r9 =>
 ((bif ((r7&&r8)&&r9) then dK N (⟨e.Kind,0,0,(⟨(⟨0,0⟩:aL),0,0,0,[],[],[]⟩:GOp),e.Origin,e.Seq,e.Ops,(⟨0,(Vector.replicate 8 (default:Int)),(Vector.replicate 8 (default:Int)),(Vector.replicate 8 (default:Int))⟩:aD),0,(Vector.replicate 8 (default:Int)),0,(⟨0,0,0,[]⟩:aE),0,0,0⟩:aC) e else some default).bind fun r10 =>
 ((dN N (((r7&&r8)&&r9)&&r10)).bind fun r11 =>
 (some r11))))))
 else
 (bif (e.Kind==3) then
 ((nO N e.Epoch).bind fun r12 =>
 ((bif r12 then dK N (⟨e.Kind,0,0,(⟨(⟨0,0⟩:aL),0,0,0,[],[],[]⟩:GOp),0,0,[],e.Epoch,0,(Vector.replicate 8 (default:Int)),0,(⟨0,0,0,[]⟩:aE),0,0,0⟩:aC) e else some default).bind fun r13 =>
 ((dN N (r12&&r13)).bind fun r14 =>
 (some r14))))
 else
 (bif (e.Kind==4) then
 ((dT N [e.Seq,e.Clock]).bind fun r15 =>
 ((bif r15 then eT N [e.From] else some default).bind fun r16 =>
 (bif (r15&&r16) then
 ((bif (r15&&r16) then dT N (e.Vector_.toList) else some default).bind fun r17 =>
 ((bif ((r15&&r16)&&r17) then dK N (⟨e.Kind,0,0,(⟨(⟨0,0⟩:aL),0,0,0,[],[],[]⟩:GOp),0,e.Seq,[],(⟨0,(Vector.replicate 8 (default:Int)),(Vector.replicate 8 (default:Int)),(Vector.replicate 8 (default:Int))⟩:aD),e.From,e.Vector_,e.Clock,(⟨0,0,0,[]⟩:aE),0,0,0⟩:aC) e else some default).bind fun r18 =>
 ((dN N (((r15&&r16)&&r17)&&r18)).bind fun r19 =>
 (some r19))))
 else
 ((bif false then dK N (⟨e.Kind,0,0,(⟨(⟨0,0⟩:aL),0,0,0,[],[],[]⟩:GOp),0,e.Seq,[],(⟨0,(Vector.replicate 8 (default:Int)),(Vector.replicate 8 (default:Int)),(Vector.replicate 8 (default:Int))⟩:aD),e.From,e.Vector_,e.Clock,(⟨0,0,0,[]⟩:aE),0,0,0⟩:aC) e else some default).bind fun r20 =>
 ((dN N false).bind fun r21 =>
 (some r21))))))
 else
 (bif (e.Kind==5) then
 ((jN N e.Part).bind fun r22 =>
 ((bif r22 then dK N (⟨e.Kind,0,0,(⟨(⟨0,0⟩:aL),0,0,0,[],[],[]⟩:GOp),0,0,[],(⟨0,(Vector.replicate 8 (default:Int)),(Vector.replicate 8 (default:Int)),(Vector.replicate 8 (default:Int))⟩:aD),0,(Vector.replicate 8 (default:Int)),0,e.Part,0,0,0⟩:aC) e else some default).bind fun r23 =>
 ((dN N (r22&&r23)).bind fun r24 =>
 (some r24))))
 else
 (bif (e.Kind==6) then
 ((eT N [e.Site,e.Sponsor]).bind fun r25 =>
 ((bif r25 then dK N (⟨e.Kind,0,0,(⟨(⟨0,0⟩:aL),0,0,0,[],[],[]⟩:GOp),0,0,[],(⟨0,(Vector.replicate 8 (default:Int)),(Vector.replicate 8 (default:Int)),(Vector.replicate 8 (default:Int))⟩:aD),0,(Vector.replicate 8 (default:Int)),0,(⟨0,0,0,[]⟩:aE),e.Site,e.Sponsor,0⟩:aC) e else some default).bind fun r26 =>
 ((dN N (r25&&r26)).bind fun r27 =>
 (some r27))))
 else
 (bif (e.Kind==7) then
 ((eT N [e.Site]).bind fun r28 =>
 ((bif r28 then dK N (⟨e.Kind,0,0,(⟨(⟨0,0⟩:aL),0,0,0,[],[],[]⟩:GOp),0,0,[],(⟨0,(Vector.replicate 8 (default:Int)),(Vector.replicate 8 (default:Int)),(Vector.replicate 8 (default:Int))⟩:aD),0,(Vector.replicate 8 (default:Int)),0,(⟨0,0,0,[]⟩:aE),e.Site,0,0⟩:aC) e else some default).bind fun r29 =>
 ((dN N (r28&&r29)).bind fun r30 =>
 (some r30))))
 else
 (bif (e.Kind==8) then
 ((eT N [e.Site]).bind fun r31 =>
 ((bif r31 then dT N [e.Length] else some default).bind fun r32 =>
 ((bif (r31&&r32) then dK N (⟨e.Kind,0,0,(⟨(⟨0,0⟩:aL),0,0,0,[],[],[]⟩:GOp),0,0,[],(⟨0,(Vector.replicate 8 (default:Int)),(Vector.replicate 8 (default:Int)),(Vector.replicate 8 (default:Int))⟩:aD),0,(Vector.replicate 8 (default:Int)),0,(⟨0,0,0,[]⟩:aE),e.Site,0,e.Length⟩:aC) e else some default).bind fun r33 =>
 ((dN N ((r31&&r32)&&r33)).bind fun r34 =>
 (some r34)))))
 else
 ((bif false then dK N (⟨e.Kind,0,0,(⟨(⟨0,0⟩:aL),0,0,0,[],[],[]⟩:GOp),0,0,[],(⟨0,(Vector.replicate 8 (default:Int)),(Vector.replicate 8 (default:Int)),(Vector.replicate 8 (default:Int))⟩:aD),0,(Vector.replicate 8 (default:Int)),0,(⟨0,0,0,[]⟩:aE),0,0,0⟩:aC) e else some default).bind fun r35 =>
 ((dN N false).bind fun r36 =>
 (some r36))))))))))))
def aBy:Con τ:=cn [.ty 41] [] (.ty 48) [] (fun N a b=>gP N a.1) fun r=>(r,())
theorem aMb:aF E C 97 aBy:=ok0 aBy [(133,yD),(98,aBo),(95,nM),(130,aBr),(90,yE),(91,aBv),(92,aBw),(93,aBx)] [] 0 [] [] ⟨aFu,⟨aL6,⟨rM,⟨aL7,⟨aFx,⟨aL8,⟨aL9,⟨aMa,trivial⟩⟩⟩⟩⟩⟩⟩⟩ (fun a b=>a) Tryz.func97 rfl (by intro N a b; kernel_rfl)
def yH (N:Nat) (x:aQ):Option (Bool) :=
 ((dT N [x.Slot]).bind fun r1 =>
 ((bif (!(!r1)) then yA N x.Ballot else some default).bind fun r2 =>
 ((bif (!((!r1) || (!r2))) then gP N x.Entry else some default).bind fun r3 =>
 (some (((!r1) || (!r2)) || (!(r3==0)))))))
def aFN:Con τ:=cn [.ty 155] [] (.ty 4) [] (fun N a b=>yH N a.1) fun r=>(r,())
theorem aRo:aF E C 132 aFN:=ok0 aFN [(95,nM),(94,aBl),(97,aBy)] [] 0 [] [] ⟨rM,⟨aL3,⟨aMb,trivial⟩⟩⟩ (fun a b=>a) Tryz.func132 rfl (by intro N a b; kernel_rfl)
structure uL where
 t8:Int
def aFO:List Sl:=[.k,.k,.k,.k,.j,.j,.k,.k,.sh (.ty 2),.j,.j,.j,.j,.j,.j,.j,.j,.j,.j]
def aFP:List ESh:=[]
def aRp (a:Sl.Ts τ aFO) (b:ESh.Ts τ aFP):uL:=⟨a.2.2.2.2.2.2.2.2.1⟩
def aRq (s:uL):Sl.Ts τ aFO:=((),(),(),(),(),(),(),(),s.t8,(),(),(),(),(),(),(),(),(),(),())
def aRr (s:uL):ESh.Ts τ aFP:=()
def aRs:Lp τ:={ ts:=aFO,hs:=aFP,S:=uL,to:=aRp,ot:=aRq,oh:=aRr,hk:=[],tk:=[],ot_to:=fun _ _=>rfl,oh_to:=fun _ _=>rfl }
def aBz (N:Nat) (s:List (aQ)):Option (Int) :=
 (bE N (fun (s1:uL) next2 =>
 (bif (decide (s1.t8 < ((s).length:Int))) then
 (bif (ibB s1.t8 ((s).length:Int)) then
 ((yH N (⟨(aA s s1.t8 default).Slot,((aA s s1.t8 default).Ballot),(⟨((aA s s1.t8 default).Entry).Kind,((aA s s1.t8 default).Entry).Session,((aA s s1.t8 default).Entry).Request,(⟨((((aA s s1.t8 default).Entry).Op).Stamp),(((aA s s1.t8 default).Entry).Op).Kind,(((aA s s1.t8 default).Entry).Op).Node,(((aA s s1.t8 default).Entry).Op).Parent,(((aA s s1.t8 default).Entry).Op).Name,(((aA s s1.t8 default).Entry).Op).Key,(((aA s s1.t8 default).Entry).Op).Value⟩:GOp),((aA s s1.t8 default).Entry).Origin,((aA s s1.t8 default).Entry).Seq,((aA s s1.t8 default).Entry).Ops,(((aA s s1.t8 default).Entry).Epoch),((aA s s1.t8 default).Entry).From,((aA s s1.t8 default).Entry).Vector_,((aA s s1.t8 default).Entry).Clock,(((aA s s1.t8 default).Entry).Part),((aA s s1.t8 default).Entry).Site,((aA s s1.t8 default).Entry).Sponsor,((aA s s1.t8 default).Entry).Length⟩:aC)⟩:aQ)).bind fun r3 =>
 (bif r3 then
 (some s1.t8)
 else
 (next2 ⟨(IntKind.i64.wrap (s1.t8+1))⟩)))
 else none)
 else
 (some (-1)))) ⟨0⟩)
def aFQ:Con τ:=cn [.ty 26,.fn 132 []] [] (.ty 3) [] (fun N a b=>aBz N a.1) fun r=>(r,())
theorem aRt:aF E C 169 aFQ:=ok0 aFQ [(132,aFN)] [(2,aRs)] 0 [] [] ⟨aRo,trivial⟩ (fun a b=>a) Tryz.func169 rfl (by intro N a b; kernel_rfl)
def aBA (N:Nat) (s:List (aQ)):Option (Bool) :=
 ((aBz N s).bind fun r1 =>
 (some (decide (0≤r1))))
def aFR:Con τ:=cn [.ty 26,.fn 132 []] [] (.ty 4) [] (fun N a b=>aBA N a.1) fun r=>(r,())
theorem aRu:aF E C 131 aFR:=ok0 aFR [(169,aFQ)] [] 0 [] [] ⟨aRt,trivial⟩ (fun a b=>a) Tryz.func131 rfl (by intro N a b; kernel_rfl)
def yI (N:Nat) (l:List (aQ)) (least:Int) (most:Int):Option (Bool) :=
 ((bif ((decide (least≤((l).length:Int)))&&(decide (((l).length:Int)≤most))) then aBA N l else some default).bind fun r1 =>
 (some (((decide (least≤((l).length:Int)))&&(decide (((l).length:Int)≤most)))&&(!r1))))
def aFS:Con τ:=cn [.ty 26,.ty 3,.ty 3] [] (.ty 4) [] (fun N a b=>yI N a.1 a.2.1 a.2.2.1) fun r=>(r,())
theorem aRv:aF E C 96 aFS:=ok0 aFS [(131,aFR)] [] 0 [] [] ⟨aRu,trivial⟩ (fun a b=>a) Tryz.func96 rfl (by intro N a b; kernel_rfl)
def yJ (N:Nat) (a:aQ) (b:aQ):Option (Bool) :=
 ((bif ((a.Slot==b.Slot)&&((a.Ballot.Round==b.Ballot.Round)&&(a.Ballot.Replica==b.Ballot.Replica))) then dK N a.Entry b.Entry else some default).bind fun r1 =>
 (some (((a.Slot==b.Slot)&&((a.Ballot.Round==b.Ballot.Round)&&(a.Ballot.Replica==b.Ballot.Replica)))&&r1)))
def aFT:Con τ:=cn [.ty 155,.ty 155] [] (.ty 4) [] (fun N a b=>yJ N a.1 a.2.1) fun r=>(r,())
theorem aRw:aF E C 135 aFT:=ok0 aFT [(133,yD)] [] 0 [] [] ⟨aFu,trivial⟩ (fun a b=>a) Tryz.func135 rfl (by intro N a b; kernel_rfl)
structure uM where
 t17:Int
def aFU:List Sl:=[.k,.k,.k,.k,.k,.k,.j,.j,.j,.j,.k,.k,.k,.k,.k,.k,.k,.sh (.ty 2),.j,.j,.j,.j,.j,.j,.j,.j,.j,.j,.j,.j,.j,.j]
def aFV:List ESh:=[]
def aRx (a:Sl.Ts τ aFU) (b:ESh.Ts τ aFV):uM:=⟨a.2.2.2.2.2.2.2.2.2.2.2.2.2.2.2.2.2.1⟩
def aRy (s:uM):Sl.Ts τ aFU:=((),(),(),(),(),(),(),(),(),(),(),(),(),(),(),(),(),s.t17,(),(),(),(),(),(),(),(),(),(),(),(),(),(),())
def aRz (s:uM):ESh.Ts τ aFV:=()
def aRA:Lp τ:={ ts:=aFU,hs:=aFV,S:=uM,to:=aRx,ot:=aRy,oh:=aRz,hk:=[],tk:=[],ot_to:=fun _ _=>rfl,oh_to:=fun _ _=>rfl }
def aBB (N:Nat) (s1_:List (aQ)) (s2_:List (aQ)):Option (Bool) :=
 (bif (!(((s1_).length:Int)==((s2_).length:Int))) then
 (some false)
 else
 (bE N (fun (s1:uM) next2 =>
 (bif (decide (s1.t17 < ((s1_).length:Int))) then
 (bif (ibB s1.t17 ((s1_).length:Int)) then
 (bif (ibB s1.t17 ((s2_).length:Int)) then
 ((yJ N (⟨(aA s1_ s1.t17 default).Slot,((aA s1_ s1.t17 default).Ballot),(⟨((aA s1_ s1.t17 default).Entry).Kind,((aA s1_ s1.t17 default).Entry).Session,((aA s1_ s1.t17 default).Entry).Request,(⟨((((aA s1_ s1.t17 default).Entry).Op).Stamp),(((aA s1_ s1.t17 default).Entry).Op).Kind,(((aA s1_ s1.t17 default).Entry).Op).Node,(((aA s1_ s1.t17 default).Entry).Op).Parent,(((aA s1_ s1.t17 default).Entry).Op).Name,(((aA s1_ s1.t17 default).Entry).Op).Key,(((aA s1_ s1.t17 default).Entry).Op).Value⟩:GOp),((aA s1_ s1.t17 default).Entry).Origin,((aA s1_ s1.t17 default).Entry).Seq,((aA s1_ s1.t17 default).Entry).Ops,(((aA s1_ s1.t17 default).Entry).Epoch),((aA s1_ s1.t17 default).Entry).From,((aA s1_ s1.t17 default).Entry).Vector_,((aA s1_ s1.t17 default).Entry).Clock,(((aA s1_ s1.t17 default).Entry).Part),((aA s1_ s1.t17 default).Entry).Site,((aA s1_ s1.t17 default).Entry).Sponsor,((aA s1_ s1.t17 default).Entry).Length⟩:aC)⟩:aQ) (⟨(aA s2_ s1.t17 default).Slot,((aA s2_ s1.t17 default).Ballot),(⟨((aA s2_ s1.t17 default).Entry).Kind,((aA s2_ s1.t17 default).Entry).Session,((aA s2_ s1.t17 default).Entry).Request,(⟨((((aA s2_ s1.t17 default).Entry).Op).Stamp),(((aA s2_ s1.t17 default).Entry).Op).Kind,(((aA s2_ s1.t17 default).Entry).Op).Node,(((aA s2_ s1.t17 default).Entry).Op).Parent,(((aA s2_ s1.t17 default).Entry).Op).Name,(((aA s2_ s1.t17 default).Entry).Op).Key,(((aA s2_ s1.t17 default).Entry).Op).Value⟩:GOp),((aA s2_ s1.t17 default).Entry).Origin,((aA s2_ s1.t17 default).Entry).Seq,((aA s2_ s1.t17 default).Entry).Ops,(((aA s2_ s1.t17 default).Entry).Epoch),((aA s2_ s1.t17 default).Entry).From,((aA s2_ s1.t17 default).Entry).Vector_,((aA s2_ s1.t17 default).Entry).Clock,(((aA s2_ s1.t17 default).Entry).Part),((aA s2_ s1.t17 default).Entry).Site,((aA s2_ s1.t17 default).Entry).Sponsor,((aA s2_ s1.t17 default).Entry).Length⟩:aC)⟩:aQ)).bind fun r3 =>
 (bif (!r3) then
 (some false)
 else
 (next2 ⟨(IntKind.i64.wrap (s1.t17+1))⟩)))
 else none)
 else none)
 else
 (some true))) ⟨0⟩))
def aFW:Con τ:=cn [.ty 26,.ty 26,.fn 135 []] [] (.ty 4) [] (fun N a b=>aBB N a.1 a.2.1) fun r=>(r,())
theorem aRB:aF E C 134 aFW:=ok0 aFW [(135,aFT)] [(4,aRA)] 0 [] [] ⟨aRw,trivial⟩ (fun a b=>a) Tryz.func134 rfl (by intro N a b; kernel_rfl)
def yK (N:Nat) (a:aB) (b:aB):Option (Bool) :=
 ((bif (((((a.Kind==b.Kind)&&((a.From.Group==b.From.Group)&&(a.From.Replica==b.From.Replica)))&&((a.To.Group==b.To.Group)&&(a.To.Replica==b.To.Replica)))&&((a.Ballot.Round==b.Ballot.Round)&&(a.Ballot.Replica==b.Ballot.Replica)))&&(a.Slot==b.Slot)) then aBB N a.List_ b.List_ else some default).bind fun r1 =>
 ((bif ((((((a.Kind==b.Kind)&&((a.From.Group==b.From.Group)&&(a.From.Replica==b.From.Replica)))&&((a.To.Group==b.To.Group)&&(a.To.Replica==b.To.Replica)))&&((a.Ballot.Round==b.Ballot.Round)&&(a.Ballot.Replica==b.Ballot.Replica)))&&(a.Slot==b.Slot))&&r1) then dK N a.Entry b.Entry else some default).bind fun r2 =>
 ((bif (((((((((((a.Kind==b.Kind)&&((a.From.Group==b.From.Group)&&(a.From.Replica==b.From.Replica)))&&((a.To.Group==b.To.Group)&&(a.To.Replica==b.To.Replica)))&&((a.Ballot.Round==b.Ballot.Round)&&(a.Ballot.Replica==b.Ballot.Replica)))&&(a.Slot==b.Slot))&&r1)&&r2)&&(a.Number==b.Number))&&(bR cM a.Vector_ b.Vector_))&&(a.Clock==b.Clock))&&(a.Origin==b.Origin)) then yB N a.Ops b.Ops else some default).bind fun r3 =>
 ((bif (((((((((((((a.Kind==b.Kind)&&((a.From.Group==b.From.Group)&&(a.From.Replica==b.From.Replica)))&&((a.To.Group==b.To.Group)&&(a.To.Replica==b.To.Replica)))&&((a.Ballot.Round==b.Ballot.Round)&&(a.Ballot.Replica==b.Ballot.Replica)))&&(a.Slot==b.Slot))&&r1)&&r2)&&(a.Number==b.Number))&&(bR cM a.Vector_ b.Vector_))&&(a.Clock==b.Clock))&&(a.Origin==b.Origin))&&r3)&&((a.Epoch.Number==b.Epoch.Number)&&((bR cX a.Epoch.States b.Epoch.States)&&((bR cM a.Epoch.Seals b.Epoch.Seals)&&(bR cX a.Epoch.Sponsor b.Epoch.Sponsor))))) then yC N a.Part b.Part else some default).bind fun r4 =>
 (some ((((((((((((((a.Kind==b.Kind)&&((a.From.Group==b.From.Group)&&(a.From.Replica==b.From.Replica)))&&((a.To.Group==b.To.Group)&&(a.To.Replica==b.To.Replica)))&&((a.Ballot.Round==b.Ballot.Round)&&(a.Ballot.Replica==b.Ballot.Replica)))&&(a.Slot==b.Slot))&&r1)&&r2)&&(a.Number==b.Number))&&(bR cM a.Vector_ b.Vector_))&&(a.Clock==b.Clock))&&(a.Origin==b.Origin))&&r3)&&((a.Epoch.Number==b.Epoch.Number)&&((bR cX a.Epoch.States b.Epoch.States)&&((bR cM a.Epoch.Seals b.Epoch.Seals)&&(bR cX a.Epoch.Sponsor b.Epoch.Sponsor)))))&&r4))))))
def aFX:Con τ:=cn [.ty 43,.ty 43] [] (.ty 4) [] (fun N a b=>yK N a.1 a.2.1) fun r=>(r,())
theorem aRC:aF E C 99 aFX:=ok0 aFX [(134,aFW),(133,yD),(136,aBm),(137,aBn)] [] 0 [] [] ⟨aRB,⟨aFu,⟨aL4,⟨aL5,trivial⟩⟩⟩⟩ (fun a b=>a) Tryz.func99 rfl (by intro N a b; kernel_rfl)
structure bQ where
 ok:Bool
 b0:aB
 b1:aB
def aFY:List Sl:=[.k,.sh (.ptr 0 []),.j,.sh (.ptr 1 []),.sh (.ty 4),.j,.j,.j,.j,.j,.j,.j,.j,.j,.j,.j,.j,.j,.j,.j,.j,.j,.j,.j,.j,.j,.j,.j,.j,.j,.j,.j,.j,.j,.j,.j,.j,.j,.j,.j,.j,.j,.j,.j,.j,.j,.j,.j,.j,.j,.j,.j,.j,.j,.j,.j,.j,.j,.j,.j,.j,.j,.j,.j,.j,.j,.j,.j,.j,.j,.j,.j,.j,.j,.j,.j,.j,.j,.j,.j,.j,.j,.j,.j,.j,.j,.j,.j,.j,.j,.j,.j,.j,.j,.j,.j,.j,.j,.j,.j,.j,.j,.j,.j,.j,.j,.j,.j,.j,.j,.j,.j,.j,.j,.j,.j,.j,.j,.j,.j,.j,.j,.j,.j,.j,.j,.j,.j,.j,.j,.j,.j,.j,.j,.j,.j,.j,.j,.j,.j,.j,.j,.j,.j,.j,.j,.j,.j,.j,.j,.j,.j,.j,.j,.j,.j,.j,.j,.j,.j,.j,.j,.j,.j,.k,.k,.k,.k,.k,.k,.k,.k,.k,.k,.k,.k,.k,.k,.k,.k,.k,.k,.k,.k,.k,.k,.k,.k,.k,.k,.k,.k,.k,.k,.k,.k,.k,.k,.k,.k,.k,.k,.k]
def aFZ:List ESh:=[.box (.ty 42),.box (.ty 42)]
def aRD (a:Sl.Ts τ aFY) (b:ESh.Ts τ aFZ):bQ:=⟨a.2.2.2.2.1,b.1,b.2.1⟩
def aRE (s:bQ):Sl.Ts τ aFY:=((),(),(),(),s.ok,(),(),(),(),(),(),(),(),(),(),(),(),(),(),(),(),(),(),(),(),(),(),(),(),(),(),(),(),(),(),(),(),(),(),(),(),(),(),(),(),(),(),(),(),(),(),(),(),(),(),(),(),(),(),(),(),(),(),(),(),(),(),(),(),(),(),(),(),(),(),(),(),(),(),(),(),(),(),(),(),(),(),(),(),(),(),(),(),(),(),(),(),(),(),(),(),(),(),(),(),(),(),(),(),(),(),(),(),(),(),(),(),(),(),(),(),(),(),(),(),(),(),(),(),(),(),(),(),(),(),(),(),(),(),(),(),(),(),(),(),(),(),(),(),(),(),(),(),(),(),(),(),(),(),(),(),(),(),(),(),(),(),(),(),(),(),(),(),(),(),(),(),(),(),(),(),(),(),(),(),(),(),(),(),(),(),(),(),(),(),(),(),(),(),(),(),(),(),())
def aRF (s:bQ):ESh.Ts τ aFZ:=(s.b0,s.b1,())
def aRG:Lp τ:={ ts:=aFY,hs:=aFZ,S:=bQ,to:=aRD,ot:=aRE,oh:=aRF,hk:=[],tk:=[],ot_to:=fun _ _=>rfl,oh_to:=fun _ _=>rfl }
def eU (N:Nat) (m:aB):Option (bQ ⊕ (Int)) :=
 ((fH N [m.From,m.To]).bind fun r1 =>
 (bif (m.Kind==1) then
 (bif (m.Kind==1) then
 (some (.inl (⟨r1,m,(⟨m.Kind,m.From,m.To,m.Ballot,m.Slot,[],(⟨0,0,0,(⟨(⟨0,0⟩:aL),0,0,0,[],[],[]⟩:GOp),0,0,[],(⟨0,(Vector.replicate 8 (default:Int)),(Vector.replicate 8 (default:Int)),(Vector.replicate 8 (default:Int))⟩:aD),0,(Vector.replicate 8 (default:Int)),0,(⟨0,0,0,[]⟩:aE),0,0,0⟩:aC),0,(Vector.replicate 8 (default:Int)),0,0,[],(⟨0,(Vector.replicate 8 (default:Int)),(Vector.replicate 8 (default:Int)),(Vector.replicate 8 (default:Int))⟩:aD),(⟨0,0,0,[]⟩:aE)⟩:aB)⟩:bQ)))
 else
 (bif (m.Kind==2) then
 (some (.inl (⟨r1,m,(⟨m.Kind,m.From,m.To,m.Ballot,m.Slot,m.List_,(⟨0,0,0,(⟨(⟨0,0⟩:aL),0,0,0,[],[],[]⟩:GOp),0,0,[],(⟨0,(Vector.replicate 8 (default:Int)),(Vector.replicate 8 (default:Int)),(Vector.replicate 8 (default:Int))⟩:aD),0,(Vector.replicate 8 (default:Int)),0,(⟨0,0,0,[]⟩:aE),0,0,0⟩:aC),0,(Vector.replicate 8 (default:Int)),0,0,[],(⟨0,(Vector.replicate 8 (default:Int)),(Vector.replicate 8 (default:Int)),(Vector.replicate 8 (default:Int))⟩:aD),(⟨0,0,0,[]⟩:aE)⟩:aB)⟩:bQ)))
 else
 (bif (m.Kind==3) then
 (some (.inl (⟨(r1&&(((m.List_).length:Int)==1)),m,(⟨m.Kind,m.From,m.To,m.Ballot,0,m.List_,(⟨0,0,0,(⟨(⟨0,0⟩:aL),0,0,0,[],[],[]⟩:GOp),0,0,[],(⟨0,(Vector.replicate 8 (default:Int)),(Vector.replicate 8 (default:Int)),(Vector.replicate 8 (default:Int))⟩:aD),0,(Vector.replicate 8 (default:Int)),0,(⟨0,0,0,[]⟩:aE),0,0,0⟩:aC),0,(Vector.replicate 8 (default:Int)),0,0,[],(⟨0,(Vector.replicate 8 (default:Int)),(Vector.replicate 8 (default:Int)),(Vector.replicate 8 (default:Int))⟩:aD),(⟨0,0,0,[]⟩:aE)⟩:aB)⟩:bQ)))
 else
 (bif (m.Kind==5) then
 (some (.inl (⟨r1,m,(⟨m.Kind,m.From,m.To,m.Ballot,0,[],(⟨0,0,0,(⟨(⟨0,0⟩:aL),0,0,0,[],[],[]⟩:GOp),0,0,[],(⟨0,(Vector.replicate 8 (default:Int)),(Vector.replicate 8 (default:Int)),(Vector.replicate 8 (default:Int))⟩:aD),0,(Vector.replicate 8 (default:Int)),0,(⟨0,0,0,[]⟩:aE),0,0,0⟩:aC),0,(Vector.replicate 8 (default:Int)),0,0,[],(⟨0,(Vector.replicate 8 (default:Int)),(Vector.replicate 8 (default:Int)),(Vector.replicate 8 (default:Int))⟩:aD),(⟨0,0,0,[]⟩:aE)⟩:aB)⟩:bQ)))
 else
 (bif (m.Kind==6) then
 (some (.inl (⟨(r1&&(decide (1≤((m.List_).length:Int)))),m,(⟨m.Kind,m.From,m.To,(⟨0,0⟩:aP),0,m.List_,(⟨0,0,0,(⟨(⟨0,0⟩:aL),0,0,0,[],[],[]⟩:GOp),0,0,[],(⟨0,(Vector.replicate 8 (default:Int)),(Vector.replicate 8 (default:Int)),(Vector.replicate 8 (default:Int))⟩:aD),0,(Vector.replicate 8 (default:Int)),0,(⟨0,0,0,[]⟩:aE),0,0,0⟩:aC),0,(Vector.replicate 8 (default:Int)),0,0,[],(⟨0,(Vector.replicate 8 (default:Int)),(Vector.replicate 8 (default:Int)),(Vector.replicate 8 (default:Int))⟩:aD),(⟨0,0,0,[]⟩:aE)⟩:aB)⟩:bQ)))
 else
 (bif (m.Kind==8) then
 (some (.inl (⟨r1,m,(⟨m.Kind,m.From,m.To,(⟨0,0⟩:aP),m.Slot,[],(⟨0,0,0,(⟨(⟨0,0⟩:aL),0,0,0,[],[],[]⟩:GOp),0,0,[],(⟨0,(Vector.replicate 8 (default:Int)),(Vector.replicate 8 (default:Int)),(Vector.replicate 8 (default:Int))⟩:aD),0,(Vector.replicate 8 (default:Int)),0,(⟨0,0,0,[]⟩:aE),0,0,0⟩:aC),0,(Vector.replicate 8 (default:Int)),0,0,[],(⟨0,(Vector.replicate 8 (default:Int)),(Vector.replicate 8 (default:Int)),(Vector.replicate 8 (default:Int))⟩:aD),(⟨0,0,0,[]⟩:aE)⟩:aB)⟩:bQ)))
 else
 (bif (m.Kind==9) then
 (some (.inl (⟨r1,m,(⟨m.Kind,m.From,m.To,(⟨0,0⟩:aP),0,[],m.Entry,0,(Vector.replicate 8 (default:Int)),0,0,[],(⟨0,(Vector.replicate 8 (default:Int)),(Vector.replicate 8 (default:Int)),(Vector.replicate 8 (default:Int))⟩:aD),(⟨0,0,0,[]⟩:aE)⟩:aB)⟩:bQ)))
 else
 (bif (m.Kind==10) then
 (some (.inl (⟨r1,m,(⟨m.Kind,m.From,m.To,(⟨0,0⟩:aP),0,[],(⟨0,0,0,(⟨(⟨0,0⟩:aL),0,0,0,[],[],[]⟩:GOp),0,0,[],(⟨0,(Vector.replicate 8 (default:Int)),(Vector.replicate 8 (default:Int)),(Vector.replicate 8 (default:Int))⟩:aD),0,(Vector.replicate 8 (default:Int)),0,(⟨0,0,0,[]⟩:aE),0,0,0⟩:aC),m.Number,m.Vector_,m.Clock,0,[],(⟨0,(Vector.replicate 8 (default:Int)),(Vector.replicate 8 (default:Int)),(Vector.replicate 8 (default:Int))⟩:aD),(⟨0,0,0,[]⟩:aE)⟩:aB)⟩:bQ)))
 else
 (bif (m.Kind==11) then
 ((bif r1 then eT N [m.Origin] else some default).bind fun r2 =>
 ((bif (r1&&r2) then nN N m.Ops 1 else some default).bind fun r3 =>
 (some (.inl (⟨((r1&&r2)&&r3),m,(⟨m.Kind,m.From,m.To,(⟨0,0⟩:aP),m.Slot,[],(⟨0,0,0,(⟨(⟨0,0⟩:aL),0,0,0,[],[],[]⟩:GOp),0,0,[],(⟨0,(Vector.replicate 8 (default:Int)),(Vector.replicate 8 (default:Int)),(Vector.replicate 8 (default:Int))⟩:aD),0,(Vector.replicate 8 (default:Int)),0,(⟨0,0,0,[]⟩:aE),0,0,0⟩:aC),m.Number,(Vector.replicate 8 (default:Int)),0,m.Origin,m.Ops,(⟨0,(Vector.replicate 8 (default:Int)),(Vector.replicate 8 (default:Int)),(Vector.replicate 8 (default:Int))⟩:aD),(⟨0,0,0,[]⟩:aE)⟩:aB)⟩:bQ)))))
 else
 (bif (m.Kind==12) then
 ((bif r1 then nO N m.Epoch else some default).bind fun r4 =>
 (some (.inl (⟨(r1&&r4),m,(⟨m.Kind,m.From,m.To,(⟨0,0⟩:aP),0,[],(⟨0,0,0,(⟨(⟨0,0⟩:aL),0,0,0,[],[],[]⟩:GOp),0,0,[],(⟨0,(Vector.replicate 8 (default:Int)),(Vector.replicate 8 (default:Int)),(Vector.replicate 8 (default:Int))⟩:aD),0,(Vector.replicate 8 (default:Int)),0,(⟨0,0,0,[]⟩:aE),0,0,0⟩:aC),0,(Vector.replicate 8 (default:Int)),0,0,[],m.Epoch,(⟨0,0,0,[]⟩:aE)⟩:aB)⟩:bQ))))
 else
 (bif (m.Kind==13) then
 ((bif r1 then jN N m.Part else some default).bind fun r5 =>
 (some (.inl (⟨(r1&&r5),m,(⟨m.Kind,m.From,m.To,(⟨0,0⟩:aP),0,[],(⟨0,0,0,(⟨(⟨0,0⟩:aL),0,0,0,[],[],[]⟩:GOp),0,0,[],(⟨0,(Vector.replicate 8 (default:Int)),(Vector.replicate 8 (default:Int)),(Vector.replicate 8 (default:Int))⟩:aD),0,(Vector.replicate 8 (default:Int)),0,(⟨0,0,0,[]⟩:aE),0,0,0⟩:aC),0,(Vector.replicate 8 (default:Int)),0,0,[],(⟨0,(Vector.replicate 8 (default:Int)),(Vector.replicate 8 (default:Int)),(Vector.replicate 8 (default:Int))⟩:aD),m.Part⟩:aB)⟩:bQ))))
 else
 (bif (m.Kind==14) then
 (some (.inl (⟨r1,m,(⟨m.Kind,m.From,m.To,(⟨0,0⟩:aP),0,[],(⟨0,0,0,(⟨(⟨0,0⟩:aL),0,0,0,[],[],[]⟩:GOp),0,0,[],(⟨0,(Vector.replicate 8 (default:Int)),(Vector.replicate 8 (default:Int)),(Vector.replicate 8 (default:Int))⟩:aD),0,(Vector.replicate 8 (default:Int)),0,(⟨0,0,0,[]⟩:aE),0,0,0⟩:aC),m.Number,m.Vector_,0,0,[],(⟨0,(Vector.replicate 8 (default:Int)),(Vector.replicate 8 (default:Int)),(Vector.replicate 8 (default:Int))⟩:aD),(⟨0,0,0,[]⟩:aE)⟩:aB)⟩:bQ)))
 else
 (bif (m.Kind==15) then
 ((bif r1 then jN N m.Part else some default).bind fun r6 =>
 (some (.inl (⟨(r1&&r6),m,(⟨m.Kind,m.From,m.To,(⟨0,0⟩:aP),m.Slot,[],(⟨0,0,0,(⟨(⟨0,0⟩:aL),0,0,0,[],[],[]⟩:GOp),0,0,[],(⟨0,(Vector.replicate 8 (default:Int)),(Vector.replicate 8 (default:Int)),(Vector.replicate 8 (default:Int))⟩:aD),0,(Vector.replicate 8 (default:Int)),0,(⟨0,0,0,[]⟩:aE),0,0,0⟩:aC),0,(Vector.replicate 8 (default:Int)),0,0,[],(⟨0,(Vector.replicate 8 (default:Int)),(Vector.replicate 8 (default:Int)),(Vector.replicate 8 (default:Int))⟩:aD),m.Part⟩:aB)⟩:bQ))))
 else
 (some (.inl (⟨false,m,(⟨m.Kind,m.From,m.To,(⟨0,0⟩:aP),0,[],(⟨0,0,0,(⟨(⟨0,0⟩:aL),0,0,0,[],[],[]⟩:GOp),0,0,[],(⟨0,(Vector.replicate 8 (default:Int)),(Vector.replicate 8 (default:Int)),(Vector.replicate 8 (default:Int))⟩:aD),0,(Vector.replicate 8 (default:Int)),0,(⟨0,0,0,[]⟩:aE),0,0,0⟩:aC),0,(Vector.replicate 8 (default:Int)),0,0,[],(⟨0,(Vector.replicate 8 (default:Int)),(Vector.replicate 8 (default:Int)),(Vector.replicate 8 (default:Int))⟩:aD),(⟨0,0,0,[]⟩:aE)⟩:aB)⟩:bQ))))))))))))))))
 else
 (bif (m.Kind==4) then
 (bif (m.Kind==4) then
 (some (.inl (⟨r1,m,(⟨m.Kind,m.From,m.To,m.Ballot,m.Slot,[],(⟨0,0,0,(⟨(⟨0,0⟩:aL),0,0,0,[],[],[]⟩:GOp),0,0,[],(⟨0,(Vector.replicate 8 (default:Int)),(Vector.replicate 8 (default:Int)),(Vector.replicate 8 (default:Int))⟩:aD),0,(Vector.replicate 8 (default:Int)),0,(⟨0,0,0,[]⟩:aE),0,0,0⟩:aC),0,(Vector.replicate 8 (default:Int)),0,0,[],(⟨0,(Vector.replicate 8 (default:Int)),(Vector.replicate 8 (default:Int)),(Vector.replicate 8 (default:Int))⟩:aD),(⟨0,0,0,[]⟩:aE)⟩:aB)⟩:bQ)))
 else
 (bif (m.Kind==2) then
 (some (.inl (⟨r1,m,(⟨m.Kind,m.From,m.To,m.Ballot,m.Slot,m.List_,(⟨0,0,0,(⟨(⟨0,0⟩:aL),0,0,0,[],[],[]⟩:GOp),0,0,[],(⟨0,(Vector.replicate 8 (default:Int)),(Vector.replicate 8 (default:Int)),(Vector.replicate 8 (default:Int))⟩:aD),0,(Vector.replicate 8 (default:Int)),0,(⟨0,0,0,[]⟩:aE),0,0,0⟩:aC),0,(Vector.replicate 8 (default:Int)),0,0,[],(⟨0,(Vector.replicate 8 (default:Int)),(Vector.replicate 8 (default:Int)),(Vector.replicate 8 (default:Int))⟩:aD),(⟨0,0,0,[]⟩:aE)⟩:aB)⟩:bQ)))
 else
 (bif (m.Kind==3) then
 (some (.inl (⟨(r1&&(((m.List_).length:Int)==1)),m,(⟨m.Kind,m.From,m.To,m.Ballot,0,m.List_,(⟨0,0,0,(⟨(⟨0,0⟩:aL),0,0,0,[],[],[]⟩:GOp),0,0,[],(⟨0,(Vector.replicate 8 (default:Int)),(Vector.replicate 8 (default:Int)),(Vector.replicate 8 (default:Int))⟩:aD),0,(Vector.replicate 8 (default:Int)),0,(⟨0,0,0,[]⟩:aE),0,0,0⟩:aC),0,(Vector.replicate 8 (default:Int)),0,0,[],(⟨0,(Vector.replicate 8 (default:Int)),(Vector.replicate 8 (default:Int)),(Vector.replicate 8 (default:Int))⟩:aD),(⟨0,0,0,[]⟩:aE)⟩:aB)⟩:bQ)))
 else
 (bif (m.Kind==5) then
 (some (.inl (⟨r1,m,(⟨m.Kind,m.From,m.To,m.Ballot,0,[],(⟨0,0,0,(⟨(⟨0,0⟩:aL),0,0,0,[],[],[]⟩:GOp),0,0,[],(⟨0,(Vector.replicate 8 (default:Int)),(Vector.replicate 8 (default:Int)),(Vector.replicate 8 (default:Int))⟩:aD),0,(Vector.replicate 8 (default:Int)),0,(⟨0,0,0,[]⟩:aE),0,0,0⟩:aC),0,(Vector.replicate 8 (default:Int)),0,0,[],(⟨0,(Vector.replicate 8 (default:Int)),(Vector.replicate 8 (default:Int)),(Vector.replicate 8 (default:Int))⟩:aD),(⟨0,0,0,[]⟩:aE)⟩:aB)⟩:bQ)))
 else
 (bif (m.Kind==6) then
 (some (.inl (⟨(r1&&(decide (1≤((m.List_).length:Int)))),m,(⟨m.Kind,m.From,m.To,(⟨0,0⟩:aP),0,m.List_,(⟨0,0,0,(⟨(⟨0,0⟩:aL),0,0,0,[],[],[]⟩:GOp),0,0,[],(⟨0,(Vector.replicate 8 (default:Int)),(Vector.replicate 8 (default:Int)),(Vector.replicate 8 (default:Int))⟩:aD),0,(Vector.replicate 8 (default:Int)),0,(⟨0,0,0,[]⟩:aE),0,0,0⟩:aC),0,(Vector.replicate 8 (default:Int)),0,0,[],(⟨0,(Vector.replicate 8 (default:Int)),(Vector.replicate 8 (default:Int)),(Vector.replicate 8 (default:Int))⟩:aD),(⟨0,0,0,[]⟩:aE)⟩:aB)⟩:bQ)))
 else
 (bif (m.Kind==8) then
 (some (.inl (⟨r1,m,(⟨m.Kind,m.From,m.To,(⟨0,0⟩:aP),m.Slot,[],(⟨0,0,0,(⟨(⟨0,0⟩:aL),0,0,0,[],[],[]⟩:GOp),0,0,[],(⟨0,(Vector.replicate 8 (default:Int)),(Vector.replicate 8 (default:Int)),(Vector.replicate 8 (default:Int))⟩:aD),0,(Vector.replicate 8 (default:Int)),0,(⟨0,0,0,[]⟩:aE),0,0,0⟩:aC),0,(Vector.replicate 8 (default:Int)),0,0,[],(⟨0,(Vector.replicate 8 (default:Int)),(Vector.replicate 8 (default:Int)),(Vector.replicate 8 (default:Int))⟩:aD),(⟨0,0,0,[]⟩:aE)⟩:aB)⟩:bQ)))
 else
 (bif (m.Kind==9) then
 (some (.inl (⟨r1,m,(⟨m.Kind,m.From,m.To,(⟨0,0⟩:aP),0,[],m.Entry,0,(Vector.replicate 8 (default:Int)),0,0,[],(⟨0,(Vector.replicate 8 (default:Int)),(Vector.replicate 8 (default:Int)),(Vector.replicate 8 (default:Int))⟩:aD),(⟨0,0,0,[]⟩:aE)⟩:aB)⟩:bQ)))
 else
 (bif (m.Kind==10) then
 (some (.inl (⟨r1,m,(⟨m.Kind,m.From,m.To,(⟨0,0⟩:aP),0,[],(⟨0,0,0,(⟨(⟨0,0⟩:aL),0,0,0,[],[],[]⟩:GOp),0,0,[],(⟨0,(Vector.replicate 8 (default:Int)),(Vector.replicate 8 (default:Int)),(Vector.replicate 8 (default:Int))⟩:aD),0,(Vector.replicate 8 (default:Int)),0,(⟨0,0,0,[]⟩:aE),0,0,0⟩:aC),m.Number,m.Vector_,m.Clock,0,[],(⟨0,(Vector.replicate 8 (default:Int)),(Vector.replicate 8 (default:Int)),(Vector.replicate 8 (default:Int))⟩:aD),(⟨0,0,0,[]⟩:aE)⟩:aB)⟩:bQ)))
 else
 (bif (m.Kind==11) then
 ((bif r1 then eT N [m.Origin] else some default).bind fun r7 =>
 ((bif (r1&&r7) then nN N m.Ops 1 else some default).bind fun r8 =>
 (some (.inl (⟨((r1&&r7)&&r8),m,(⟨m.Kind,m.From,m.To,(⟨0,0⟩:aP),m.Slot,[],(⟨0,0,0,(⟨(⟨0,0⟩:aL),0,0,0,[],[],[]⟩:GOp),0,0,[],(⟨0,(Vector.replicate 8 (default:Int)),(Vector.replicate 8 (default:Int)),(Vector.replicate 8 (default:Int))⟩:aD),0,(Vector.replicate 8 (default:Int)),0,(⟨0,0,0,[]⟩:aE),0,0,0⟩:aC),m.Number,(Vector.replicate 8 (default:Int)),0,m.Origin,m.Ops,(⟨0,(Vector.replicate 8 (default:Int)),(Vector.replicate 8 (default:Int)),(Vector.replicate 8 (default:Int))⟩:aD),(⟨0,0,0,[]⟩:aE)⟩:aB)⟩:bQ)))))
 else
 (bif (m.Kind==12) then
 ((bif r1 then nO N m.Epoch else some default).bind fun r9 =>
 (some (.inl (⟨(r1&&r9),m,(⟨m.Kind,m.From,m.To,(⟨0,0⟩:aP),0,[],(⟨0,0,0,(⟨(⟨0,0⟩:aL),0,0,0,[],[],[]⟩:GOp),0,0,[],(⟨0,(Vector.replicate 8 (default:Int)),(Vector.replicate 8 (default:Int)),(Vector.replicate 8 (default:Int))⟩:aD),0,(Vector.replicate 8 (default:Int)),0,(⟨0,0,0,[]⟩:aE),0,0,0⟩:aC),0,(Vector.replicate 8 (default:Int)),0,0,[],m.Epoch,(⟨0,0,0,[]⟩:aE)⟩:aB)⟩:bQ))))
 else
 (bif (m.Kind==13) then
 ((bif r1 then jN N m.Part else some default).bind fun r10 =>
 (some (.inl (⟨(r1&&r10),m,(⟨m.Kind,m.From,m.To,(⟨0,0⟩:aP),0,[],(⟨0,0,0,(⟨(⟨0,0⟩:aL),0,0,0,[],[],[]⟩:GOp),0,0,[],(⟨0,(Vector.replicate 8 (default:Int)),(Vector.replicate 8 (default:Int)),(Vector.replicate 8 (default:Int))⟩:aD),0,(Vector.replicate 8 (default:Int)),0,(⟨0,0,0,[]⟩:aE),0,0,0⟩:aC),0,(Vector.replicate 8 (default:Int)),0,0,[],(⟨0,(Vector.replicate 8 (default:Int)),(Vector.replicate 8 (default:Int)),(Vector.replicate 8 (default:Int))⟩:aD),m.Part⟩:aB)⟩:bQ))))
 else
 (bif (m.Kind==14) then
 (some (.inl (⟨r1,m,(⟨m.Kind,m.From,m.To,(⟨0,0⟩:aP),0,[],(⟨0,0,0,(⟨(⟨0,0⟩:aL),0,0,0,[],[],[]⟩:GOp),0,0,[],(⟨0,(Vector.replicate 8 (default:Int)),(Vector.replicate 8 (default:Int)),(Vector.replicate 8 (default:Int))⟩:aD),0,(Vector.replicate 8 (default:Int)),0,(⟨0,0,0,[]⟩:aE),0,0,0⟩:aC),m.Number,m.Vector_,0,0,[],(⟨0,(Vector.replicate 8 (default:Int)),(Vector.replicate 8 (default:Int)),(Vector.replicate 8 (default:Int))⟩:aD),(⟨0,0,0,[]⟩:aE)⟩:aB)⟩:bQ)))
 else
 (bif (m.Kind==15) then
 ((bif r1 then jN N m.Part else some default).bind fun r11 =>
 (some (.inl (⟨(r1&&r11),m,(⟨m.Kind,m.From,m.To,(⟨0,0⟩:aP),m.Slot,[],(⟨0,0,0,(⟨(⟨0,0⟩:aL),0,0,0,[],[],[]⟩:GOp),0,0,[],(⟨0,(Vector.replicate 8 (default:Int)),(Vector.replicate 8 (default:Int)),(Vector.replicate 8 (default:Int))⟩:aD),0,(Vector.replicate 8 (default:Int)),0,(⟨0,0,0,[]⟩:aE),0,0,0⟩:aC),0,(Vector.replicate 8 (default:Int)),0,0,[],(⟨0,(Vector.replicate 8 (default:Int)),(Vector.replicate 8 (default:Int)),(Vector.replicate 8 (default:Int))⟩:aD),m.Part⟩:aB)⟩:bQ))))
 else
 (some (.inl (⟨false,m,(⟨m.Kind,m.From,m.To,(⟨0,0⟩:aP),0,[],(⟨0,0,0,(⟨(⟨0,0⟩:aL),0,0,0,[],[],[]⟩:GOp),0,0,[],(⟨0,(Vector.replicate 8 (default:Int)),(Vector.replicate 8 (default:Int)),(Vector.replicate 8 (default:Int))⟩:aD),0,(Vector.replicate 8 (default:Int)),0,(⟨0,0,0,[]⟩:aE),0,0,0⟩:aC),0,(Vector.replicate 8 (default:Int)),0,0,[],(⟨0,(Vector.replicate 8 (default:Int)),(Vector.replicate 8 (default:Int)),(Vector.replicate 8 (default:Int))⟩:aD),(⟨0,0,0,[]⟩:aE)⟩:aB)⟩:bQ))))))))))))))))
 else
 (bif (m.Kind==7) then
 (some (.inl (⟨r1,m,(⟨m.Kind,m.From,m.To,m.Ballot,m.Slot,[],(⟨0,0,0,(⟨(⟨0,0⟩:aL),0,0,0,[],[],[]⟩:GOp),0,0,[],(⟨0,(Vector.replicate 8 (default:Int)),(Vector.replicate 8 (default:Int)),(Vector.replicate 8 (default:Int))⟩:aD),0,(Vector.replicate 8 (default:Int)),0,(⟨0,0,0,[]⟩:aE),0,0,0⟩:aC),0,(Vector.replicate 8 (default:Int)),0,0,[],(⟨0,(Vector.replicate 8 (default:Int)),(Vector.replicate 8 (default:Int)),(Vector.replicate 8 (default:Int))⟩:aD),(⟨0,0,0,[]⟩:aE)⟩:aB)⟩:bQ)))
 else
 (bif (m.Kind==2) then
 (some (.inl (⟨r1,m,(⟨m.Kind,m.From,m.To,m.Ballot,m.Slot,m.List_,(⟨0,0,0,(⟨(⟨0,0⟩:aL),0,0,0,[],[],[]⟩:GOp),0,0,[],(⟨0,(Vector.replicate 8 (default:Int)),(Vector.replicate 8 (default:Int)),(Vector.replicate 8 (default:Int))⟩:aD),0,(Vector.replicate 8 (default:Int)),0,(⟨0,0,0,[]⟩:aE),0,0,0⟩:aC),0,(Vector.replicate 8 (default:Int)),0,0,[],(⟨0,(Vector.replicate 8 (default:Int)),(Vector.replicate 8 (default:Int)),(Vector.replicate 8 (default:Int))⟩:aD),(⟨0,0,0,[]⟩:aE)⟩:aB)⟩:bQ)))
 else
 (bif (m.Kind==3) then
 (some (.inl (⟨(r1&&(((m.List_).length:Int)==1)),m,(⟨m.Kind,m.From,m.To,m.Ballot,0,m.List_,(⟨0,0,0,(⟨(⟨0,0⟩:aL),0,0,0,[],[],[]⟩:GOp),0,0,[],(⟨0,(Vector.replicate 8 (default:Int)),(Vector.replicate 8 (default:Int)),(Vector.replicate 8 (default:Int))⟩:aD),0,(Vector.replicate 8 (default:Int)),0,(⟨0,0,0,[]⟩:aE),0,0,0⟩:aC),0,(Vector.replicate 8 (default:Int)),0,0,[],(⟨0,(Vector.replicate 8 (default:Int)),(Vector.replicate 8 (default:Int)),(Vector.replicate 8 (default:Int))⟩:aD),(⟨0,0,0,[]⟩:aE)⟩:aB)⟩:bQ)))
 else
 (bif (m.Kind==5) then
 (some (.inl (⟨r1,m,(⟨m.Kind,m.From,m.To,m.Ballot,0,[],(⟨0,0,0,(⟨(⟨0,0⟩:aL),0,0,0,[],[],[]⟩:GOp),0,0,[],(⟨0,(Vector.replicate 8 (default:Int)),(Vector.replicate 8 (default:Int)),(Vector.replicate 8 (default:Int))⟩:aD),0,(Vector.replicate 8 (default:Int)),0,(⟨0,0,0,[]⟩:aE),0,0,0⟩:aC),0,(Vector.replicate 8 (default:Int)),0,0,[],(⟨0,(Vector.replicate 8 (default:Int)),(Vector.replicate 8 (default:Int)),(Vector.replicate 8 (default:Int))⟩:aD),(⟨0,0,0,[]⟩:aE)⟩:aB)⟩:bQ)))
 else
 (bif (m.Kind==6) then
 (some (.inl (⟨(r1&&(decide (1≤((m.List_).length:Int)))),m,(⟨m.Kind,m.From,m.To,(⟨0,0⟩:aP),0,m.List_,(⟨0,0,0,(⟨(⟨0,0⟩:aL),0,0,0,[],[],[]⟩:GOp),0,0,[],(⟨0,(Vector.replicate 8 (default:Int)),(Vector.replicate 8 (default:Int)),(Vector.replicate 8 (default:Int))⟩:aD),0,(Vector.replicate 8 (default:Int)),0,(⟨0,0,0,[]⟩:aE),0,0,0⟩:aC),0,(Vector.replicate 8 (default:Int)),0,0,[],(⟨0,(Vector.replicate 8 (default:Int)),(Vector.replicate 8 (default:Int)),(Vector.replicate 8 (default:Int))⟩:aD),(⟨0,0,0,[]⟩:aE)⟩:aB)⟩:bQ)))
 else
 (bif (m.Kind==8) then
 (some (.inl (⟨r1,m,(⟨m.Kind,m.From,m.To,(⟨0,0⟩:aP),m.Slot,[],(⟨0,0,0,(⟨(⟨0,0⟩:aL),0,0,0,[],[],[]⟩:GOp),0,0,[],(⟨0,(Vector.replicate 8 (default:Int)),(Vector.replicate 8 (default:Int)),(Vector.replicate 8 (default:Int))⟩:aD),0,(Vector.replicate 8 (default:Int)),0,(⟨0,0,0,[]⟩:aE),0,0,0⟩:aC),0,(Vector.replicate 8 (default:Int)),0,0,[],(⟨0,(Vector.replicate 8 (default:Int)),(Vector.replicate 8 (default:Int)),(Vector.replicate 8 (default:Int))⟩:aD),(⟨0,0,0,[]⟩:aE)⟩:aB)⟩:bQ)))
 else
 (bif (m.Kind==9) then
 (some (.inl (⟨r1,m,(⟨m.Kind,m.From,m.To,(⟨0,0⟩:aP),0,[],m.Entry,0,(Vector.replicate 8 (default:Int)),0,0,[],(⟨0,(Vector.replicate 8 (default:Int)),(Vector.replicate 8 (default:Int)),(Vector.replicate 8 (default:Int))⟩:aD),(⟨0,0,0,[]⟩:aE)⟩:aB)⟩:bQ)))
 else
 (bif (m.Kind==10) then
 (some (.inl (⟨r1,m,(⟨m.Kind,m.From,m.To,(⟨0,0⟩:aP),0,[],(⟨0,0,0,(⟨(⟨0,0⟩:aL),0,0,0,[],[],[]⟩:GOp),0,0,[],(⟨0,(Vector.replicate 8 (default:Int)),(Vector.replicate 8 (default:Int)),(Vector.replicate 8 (default:Int))⟩:aD),0,(Vector.replicate 8 (default:Int)),0,(⟨0,0,0,[]⟩:aE),0,0,0⟩:aC),m.Number,m.Vector_,m.Clock,0,[],(⟨0,(Vector.replicate 8 (default:Int)),(Vector.replicate 8 (default:Int)),(Vector.replicate 8 (default:Int))⟩:aD),(⟨0,0,0,[]⟩:aE)⟩:aB)⟩:bQ)))
 else
 (bif (m.Kind==11) then
 ((bif r1 then eT N [m.Origin] else some default).bind fun r12 =>
 ((bif (r1&&r12) then nN N m.Ops 1 else some default).bind fun r13 =>
 (some (.inl (⟨((r1&&r12)&&r13),m,(⟨m.Kind,m.From,m.To,(⟨0,0⟩:aP),m.Slot,[],(⟨0,0,0,(⟨(⟨0,0⟩:aL),0,0,0,[],[],[]⟩:GOp),0,0,[],(⟨0,(Vector.replicate 8 (default:Int)),(Vector.replicate 8 (default:Int)),(Vector.replicate 8 (default:Int))⟩:aD),0,(Vector.replicate 8 (default:Int)),0,(⟨0,0,0,[]⟩:aE),0,0,0⟩:aC),m.Number,(Vector.replicate 8 (default:Int)),0,m.Origin,m.Ops,(⟨0,(Vector.replicate 8 (default:Int)),(Vector.replicate 8 (default:Int)),(Vector.replicate 8 (default:Int))⟩:aD),(⟨0,0,0,[]⟩:aE)⟩:aB)⟩:bQ)))))
 else
 (bif (m.Kind==12) then
 ((bif r1 then nO N m.Epoch else some default).bind fun r14 =>
 (some (.inl (⟨(r1&&r14),m,(⟨m.Kind,m.From,m.To,(⟨0,0⟩:aP),0,[],(⟨0,0,0,(⟨(⟨0,0⟩:aL),0,0,0,[],[],[]⟩:GOp),0,0,[],(⟨0,(Vector.replicate 8 (default:Int)),(Vector.replicate 8 (default:Int)),(Vector.replicate 8 (default:Int))⟩:aD),0,(Vector.replicate 8 (default:Int)),0,(⟨0,0,0,[]⟩:aE),0,0,0⟩:aC),0,(Vector.replicate 8 (default:Int)),0,0,[],m.Epoch,(⟨0,0,0,[]⟩:aE)⟩:aB)⟩:bQ))))
 else
 (bif (m.Kind==13) then
 ((bif r1 then jN N m.Part else some default).bind fun r15 =>
 (some (.inl (⟨(r1&&r15),m,(⟨m.Kind,m.From,m.To,(⟨0,0⟩:aP),0,[],(⟨0,0,0,(⟨(⟨0,0⟩:aL),0,0,0,[],[],[]⟩:GOp),0,0,[],(⟨0,(Vector.replicate 8 (default:Int)),(Vector.replicate 8 (default:Int)),(Vector.replicate 8 (default:Int))⟩:aD),0,(Vector.replicate 8 (default:Int)),0,(⟨0,0,0,[]⟩:aE),0,0,0⟩:aC),0,(Vector.replicate 8 (default:Int)),0,0,[],(⟨0,(Vector.replicate 8 (default:Int)),(Vector.replicate 8 (default:Int)),(Vector.replicate 8 (default:Int))⟩:aD),m.Part⟩:aB)⟩:bQ))))
 else
 (bif (m.Kind==14) then
 (some (.inl (⟨r1,m,(⟨m.Kind,m.From,m.To,(⟨0,0⟩:aP),0,[],(⟨0,0,0,(⟨(⟨0,0⟩:aL),0,0,0,[],[],[]⟩:GOp),0,0,[],(⟨0,(Vector.replicate 8 (default:Int)),(Vector.replicate 8 (default:Int)),(Vector.replicate 8 (default:Int))⟩:aD),0,(Vector.replicate 8 (default:Int)),0,(⟨0,0,0,[]⟩:aE),0,0,0⟩:aC),m.Number,m.Vector_,0,0,[],(⟨0,(Vector.replicate 8 (default:Int)),(Vector.replicate 8 (default:Int)),(Vector.replicate 8 (default:Int))⟩:aD),(⟨0,0,0,[]⟩:aE)⟩:aB)⟩:bQ)))
 else
 (bif (m.Kind==15) then
 ((bif r1 then jN N m.Part else some default).bind fun r16 =>
 (some (.inl (⟨(r1&&r16),m,(⟨m.Kind,m.From,m.To,(⟨0,0⟩:aP),m.Slot,[],(⟨0,0,0,(⟨(⟨0,0⟩:aL),0,0,0,[],[],[]⟩:GOp),0,0,[],(⟨0,(Vector.replicate 8 (default:Int)),(Vector.replicate 8 (default:Int)),(Vector.replicate 8 (default:Int))⟩:aD),0,(Vector.replicate 8 (default:Int)),0,(⟨0,0,0,[]⟩:aE),0,0,0⟩:aC),0,(Vector.replicate 8 (default:Int)),0,0,[],(⟨0,(Vector.replicate 8 (default:Int)),(Vector.replicate 8 (default:Int)),(Vector.replicate 8 (default:Int))⟩:aD),m.Part⟩:aB)⟩:bQ))))
 else
 (some (.inl (⟨false,m,(⟨m.Kind,m.From,m.To,(⟨0,0⟩:aP),0,[],(⟨0,0,0,(⟨(⟨0,0⟩:aL),0,0,0,[],[],[]⟩:GOp),0,0,[],(⟨0,(Vector.replicate 8 (default:Int)),(Vector.replicate 8 (default:Int)),(Vector.replicate 8 (default:Int))⟩:aD),0,(Vector.replicate 8 (default:Int)),0,(⟨0,0,0,[]⟩:aE),0,0,0⟩:aC),0,(Vector.replicate 8 (default:Int)),0,0,[],(⟨0,(Vector.replicate 8 (default:Int)),(Vector.replicate 8 (default:Int)),(Vector.replicate 8 (default:Int))⟩:aD),(⟨0,0,0,[]⟩:aE)⟩:aB)⟩:bQ)))))))))))))))))))
def yL (N:Nat) (m:aB) (s:bQ):Option (Int) :=
 ((bif s.ok then yA N s.b1.Ballot else some default).bind fun r17 =>
 ((bif (s.ok&&r17) then dT N [s.b1.Slot,s.b1.Number,s.b1.Clock] else some default).bind fun r18 =>
 (bif ((s.ok&&r17)&&r18) then
 ((bif ((s.ok&&r17)&&r18) then dT N (s.b1.Vector_.toList) else some default).bind fun r19 =>
 ((bif (((s.ok&&r17)&&r18)&&r19) then yI N s.b1.List_ 0 4096 else some default).bind fun r20 =>
 ((bif ((((s.ok&&r17)&&r18)&&r19)&&r20) then gP N s.b1.Entry else some default).bind fun r21 =>
 ((bif (((((s.ok&&r17)&&r18)&&r19)&&r20)&&(r21==0)) then yK N s.b1 s.b0 else some default).bind fun r22 =>
 ((dN N ((((((s.ok&&r17)&&r18)&&r19)&&r20)&&(r21==0))&&r22)).bind fun r23 =>
 (some r23))))))
 else
 ((bif false then yI N s.b1.List_ 0 4096 else some default).bind fun r24 =>
 ((bif false then gP N s.b1.Entry else some default).bind fun r25 =>
 ((bif false then yK N s.b1 s.b0 else some default).bind fun r26 =>
 ((dN N false).bind fun r27 =>
 (some r27))))))))
def yM (N:Nat) (m:aB):Option (Int) :=
 (eU N m).bind fun z=>match z with | .inl s=>yL N m s | .inr r=>some r
def aBC:Con τ:=cn [.ty 43] [] (.ty 48) [] (fun N a b=>yM N a.1) fun r=>(r,())
noncomputable def aRH:Dat τ:={ D:=D0,tbl:=tG [(89,aFp),(90,yE),(91,aBv),(92,aBw),(93,aBx),(94,aBl),(95,nM),(96,aFS),(97,aBy),(99,aFX),(98,aBo)],lp:=aAB [],k0:=0,mu:=[],un:=[] }
theorem aMc:aF E C 51 aBC :=
 aXC (D:=aRH) ⟨d0Ok,aEc,aAC ⟨aQM,⟨aFx,⟨aL8,⟨aL9,⟨aMa,⟨aL3,⟨rM,⟨aRv,⟨aMb,⟨aRC,⟨aL6,trivial⟩⟩⟩⟩⟩⟩⟩⟩⟩⟩⟩,fun _=>rfl⟩ aBC (fun a b=>a) none (fun _ _=>rfl) rfl (fun _ _ h=>nomatch h) 1000000 [true,true,true,true,false] aRG (fun N a b=>eU N a.1) (fun N a b s=>yL N a.1 s) (by intro N a b; kernel_rfl) (fn:=Tryz.f51) Tryz.func51 rfl (by kernel_rfl) (by kernel_rfl) rfl (by kernel_rfl) (by intro a b s; kernel_rfl) (by intro N a b; kernel_rfl) (by intro N a b s; kernel_rfl)
def aF0 (N:Nat)  : Option (Bool×(List (Int))) :=
 (some (true,[]))
def aF1:Con τ:=cn [] [] (.ptr 0 []) [.box (.agg [.ty 4,.own 5 1]),.tail] (fun N a b=>aF0 N ) fun r=>((),((r.1,r.2,()),(),()))
theorem aRI:aF E C 52 aF1:=ok0 aF1 [] [] 0 [] [] trivial (fun a b=>(b.1.1,b.1.2.1)) Tryz.func52 rfl (by intro N a b; kernel_rfl)
structure pH where
 u:Int
 b:List (Int)
def aF2:List Sl:=[.k,.k,.k,.sh (.ty 12),.sh (.own 5 0),.k,.k,.k,.k,.k,.k,.k,.j,.j,.j,.j,.j,.j,.j,.j,.j,.j,.k,.k,.k,.k,.k]
def aF3:List ESh:=[.tail]
def aRJ (a:Sl.Ts τ aF2) (b:ESh.Ts τ aF3):pH:=⟨a.2.2.2.1,a.2.2.2.2.1⟩
def aRK (s:pH):Sl.Ts τ aF2:=((),(),(),s.u,s.b,(),(),(),(),(),(),(),(),(),(),(),(),(),(),(),(),(),(),(),(),(),(),())
def aRL (s:pH):ESh.Ts τ aF3:=((),())
def aRM:Lp τ:={ ts:=aF2,hs:=aF3,S:=pH,to:=aRJ,ot:=aRK,oh:=aRL,hk:=[],tk:=[],ot_to:=fun _ _=>rfl,oh_to:=fun _ _=>rfl }
def uN (N:Nat) (n:Int):Option ((List (Int))) :=
 (bif (decide (n < 0)) then
 (bE N (fun (s1:pH) next2 =>
 (bif (decide (128≤s1.u)) then
 (bif (aO ((s1.b).length+([(bits .or .u8 (IntKind.u8.wrap s1.u) 128)]).length) 1) then
 (next2 ⟨(shr .u64 s1.u 7),(s1.b++[(bits .or .u8 (IntKind.u8.wrap s1.u) 128)])⟩)
 else none)
 else
 (bif (aO ((s1.b).length+([(IntKind.u8.wrap s1.u)]).length) 1) then
 (some (s1.b++[(IntKind.u8.wrap s1.u)]))
 else none))) ⟨(bits .xor .u64 IntKind.u64.max (shl .u64 (IntKind.u64.wrap n) 1)),[]⟩)
 else
 (bE N (fun (s3:pH) next4 =>
 (bif (decide (128≤s3.u)) then
 (bif (aO ((s3.b).length+([(bits .or .u8 (IntKind.u8.wrap s3.u) 128)]).length) 1) then
 (next4 ⟨(shr .u64 s3.u 7),(s3.b++[(bits .or .u8 (IntKind.u8.wrap s3.u) 128)])⟩)
 else none)
 else
 (bif (aO ((s3.b).length+([(IntKind.u8.wrap s3.u)]).length) 1) then
 (some (s3.b++[(IntKind.u8.wrap s3.u)]))
 else none))) ⟨(shl .u64 (IntKind.u64.wrap n) 1),[]⟩))
def yN:Con τ:=cn [.ty 2] [] (.own 5 0) [.tail] (fun N a b=>uN N a.1) fun r=>(r,((),()))
theorem aF4:aF E C 110 yN:=ok0 yN [] [(5,aRM)] 0 [] [] trivial (fun a b=>a) Tryz.func110 rfl (by intro N a b; kernel_rfl)
def yO (N:Nat) (b0:Bool) (b02:List (Int)):Option (Bool×Bool×(List (Int))) :=
 (some ((!b0),b0,b02))
def aBD:Con τ:=cn [.ptr 0 []] [.box (.agg [.ty 4,.own 5 1]),.tail] (.ty 4) [.box (.agg [.ty 4,.own 5 1]),.tail] (fun N a b=>yO N b.1.1 b.1.2.1) fun r=>(r.1,((r.2.1,r.2.2,()),(),()))
theorem aMd:aF E C 113 aBD:=ok0 aBD [] [] 2 [] [] trivial (fun a b=>(a,b.1.1,b.1.2.1)) Tryz.func113 rfl (by intro N a b; kernel_rfl)
structure uO where
 n:Int
 t19:Int
def aF5:List Sl:=[.k,.k,.k,.k,.j,.sh (.ty 2),.k,.j,.k,.k,.k,.k,.k,.k,.k,.k,.k,.k,.k,.sh (.ty 2),.j,.j,.j,.j,.j,.j,.j,.j,.j,.j,.j,.j,.j,.k,.k,.k,.k,.k,.k,.k,.k,.k,.k,.k,.k,.k,.k,.k,.k]
def aF6:List ESh:=[.keep,.keep]
def aRN (a:Sl.Ts τ aF5) (b:ESh.Ts τ aF6):uO:=⟨a.2.2.2.2.2.1,a.2.2.2.2.2.2.2.2.2.2.2.2.2.2.2.2.2.2.2.1⟩
def aRO (s:uO):Sl.Ts τ aF5:=((),(),(),(),(),s.n,(),(),(),(),(),(),(),(),(),(),(),(),(),s.t19,(),(),(),(),(),(),(),(),(),(),(),(),(),(),(),(),(),(),(),(),(),(),(),(),(),(),(),(),(),())
def aRP (s:uO):ESh.Ts τ aF6:=((),(),())
def aRQ:Lp τ:={ ts:=aF5,hs:=aF6,S:=uO,to:=aRN,ot:=aRO,oh:=aRP,hk:=[2,5],tk:=[2,0,0,0,0,0,0,0,0,0,2,0,2,2,2],ot_to:=fun _ _=>rfl,oh_to:=fun _ _=>rfl }
structure rN where
 t35:Int
 b0:Bool
 b02:List (Int)
def aF7:List Sl:=[.k,.k,.k,.k,.k,.k,.k,.k,.k,.j,.k,.k,.k,.k,.k,.k,.k,.k,.k,.k,.k,.k,.k,.k,.k,.k,.k,.k,.k,.k,.k,.k,.k,.k,.k,.sh (.ty 2),.j,.j,.j,.j,.j,.j,.j,.j,.j,.j,.j,.j,.j]
def aF8:List ESh:=[.box (.agg [.ty 4,.own 5 2]),.dead,.tail]
def aRR (a:Sl.Ts τ aF7) (b:ESh.Ts τ aF8):rN:=⟨a.2.2.2.2.2.2.2.2.2.2.2.2.2.2.2.2.2.2.2.2.2.2.2.2.2.2.2.2.2.2.2.2.2.2.2.1,b.1.1,b.1.2.1⟩
def aRS (s:rN):Sl.Ts τ aF7:=((),(),(),(),(),(),(),(),(),(),(),(),(),(),(),(),(),(),(),(),(),(),(),(),(),(),(),(),(),(),(),(),(),(),(),s.t35,(),(),(),(),(),(),(),(),(),(),(),(),(),())
def aRT (s:rN):ESh.Ts τ aF8:=((s.b0,s.b02,()),(),(),())
def aRU:Lp τ:={ ts:=aF7,hs:=aF8,S:=rN,to:=aRR,ot:=aRS,oh:=aRT,hk:=[2,5],tk:=[2,0,0,0,0,0,0,0,0,0,2,0,2,2,2],ot_to:=fun _ _=>rfl,oh_to:=fun _ _=>rfl }
def yP (N:Nat) (l:List (List (Int))) (b0:Bool) (b02:List (Int)):Option (Int×Bool×(List (Int))) :=
 ((yO N b0 b02).bind fun r1 =>
 (bif r1.1 then
 (some (2,r1.2.1,r1.2.2))
 else
 (bE N (fun (s2:uO) next3 =>
 (bif (decide (s2.t19 < ((l).length:Int))) then
 (bif (ibB s2.t19 ((l).length:Int)) then
 (bif (decide ((IntKind.i64.wrap (1048576 - s2.n)) < (((aA l s2.t19 default)).length:Int))) then
 (some (3,r1.2.1,r1.2.2))
 else
 (next3 ⟨(IntKind.i64.wrap (s2.n+(((aA l s2.t19 default)).length:Int))),(IntKind.i64.wrap (s2.t19+1))⟩))
 else none)
 else
 (bE N (fun (s4:rN) next5 =>
 (bif (decide (s4.t35 < ((l).length:Int))) then
 (bif (ibB s4.t35 ((l).length:Int)) then
 (bif (aO ((s4.b02).length+((aA l s4.t35 default)).length) 1) then
 (next5 ⟨(IntKind.i64.wrap (s4.t35+1)),s4.b0,(s4.b02++(aA l s4.t35 default))⟩)
 else none)
 else none)
 else
 (some (0,s4.b0,s4.b02)))) ⟨0,r1.2.1,r1.2.2⟩))) ⟨((r1.2.2).length:Int),0⟩)))
def aBE:Con τ:=cn [.ptr 0 [],.ty 201] [.box (.agg [.ty 4,.own 5 1]),.tail] (.ty 48) [.box (.agg [.ty 4,.own 5 2]),.dead,.tail] (fun N a b=>yP N a.2.1 b.1.1 b.1.2.1) fun r=>(r.1,((r.2.1,r.2.2,()),(),(),()))
theorem aMe:aF E C 170 aBE:=ok0 aBE [(113,aBD)] [(5,aRQ),(12,aRU)] 2 [] [] ⟨aMd,trivial⟩ (fun a b=>(a,b.1.1,b.1.2.1)) Tryz.func170 rfl (by intro N a b; kernel_rfl)
def yQ (N:Nat) (n:Int) (b0:Bool) (b02:List (Int)):Option (Int×Bool×(List (Int))) :=
 ((uN N n).bind fun r1 =>
 ((yP N [r1] b0 b02).bind fun r2 =>
 (some (r2.1,r2.2.1,r2.2.2))))
def aBF:Con τ:=cn [.ptr 0 [],.ty 2] [.box (.agg [.ty 4,.own 5 1]),.tail] (.ty 48) [.box (.agg [.ty 4,.own 5 2]),.dead,.tail] (fun N a b=>yQ N a.2.1 b.1.1 b.1.2.1) fun r=>(r.1,((r.2.1,r.2.2,()),(),(),()))
theorem aMf:aF E C 139 aBF:=ok0 aBF [(110,yN),(170,aBE)] [] 2 [] [] ⟨aF4,⟨aMe,trivial⟩⟩ (fun a b=>(a,b.1.1,b.1.2.1)) Tryz.func139 rfl (by intro N a b; kernel_rfl)
def rO (N:Nat) (e:Int) (b0:Int) (b1:Bool) (b12:List (Int)):Option (Int×Bool×(List (Int))) :=
 (bif (b0==0) then
 (some (e,b1,b12))
 else
 (some (b0,b1,b12)))
def uP:Con τ:=cn [.ptr 0 [],.ty 48] [.box (.agg [.ptr 1 [],.ty 48]),.box (.agg [.ty 4,.own 5 2]),.tail] (.tup []) [.box (.agg [.ptr 1 [],.ty 48]),.box (.agg [.ty 4,.own 5 2]),.tail] (fun N a b=>rO N a.2.1 b.1.2.1 b.2.1.1 b.2.1.2.1) fun r=>((),(((),r.1,()),(r.2.1,r.2.2,()),(),()))
theorem aBG:aF E C 138 uP:=ok0 uP [] [] 3 [] [] trivial (fun a b=>(b.1.2.1,b.2.1.1,b.2.1.2.1)) Tryz.func138 rfl (by intro N a b; kernel_rfl)
structure uQ where
 t8:Int
 b0:Int
 b1:Bool
 b12:List (Int)
def aF9:List Sl:=[.k,.k,.k,.k,.k,.j,.k,.k,.sh (.ty 2),.j,.j,.j,.j,.j,.j,.j,.j,.j,.j,.j,.j]
def aGa:List ESh:=[.box (.agg [.ptr 1 [],.ty 2]),.box (.agg [.ty 4,.own 5 3]),.dead,.tail]
def aRV (a:Sl.Ts τ aF9) (b:ESh.Ts τ aGa):uQ:=⟨a.2.2.2.2.2.2.2.2.1,b.1.2.1,b.2.1.1,b.2.1.2.1⟩
def aRW (s:uQ):Sl.Ts τ aF9:=((),(),(),(),(),(),(),(),s.t8,(),(),(),(),(),(),(),(),(),(),(),(),())
def aRX (s:uQ):ESh.Ts τ aGa:=(((),s.b0,()),(s.b1,s.b12,()),(),(),())
def aRY:Lp τ:={ ts:=aF9,hs:=aGa,S:=uQ,to:=aRV,ot:=aRW,oh:=aRX,hk:=[2,2,5],tk:=[2],ot_to:=fun _ _=>rfl,oh_to:=fun _ _=>rfl }
def dU (N:Nat) (l:List (Int)) (b0:Int) (b1:Bool) (b12:List (Int)):Option (Int×Bool×(List (Int))) :=
 (bE N (fun (s1:uQ) next2 =>
 (bif (decide (s1.t8 < ((l).length:Int))) then
 (bif (ibB s1.t8 ((l).length:Int)) then
 ((yQ N (aA l s1.t8 default) s1.b1 s1.b12).bind fun r3 =>
 ((rO N r3.1 s1.b0 r3.2.1 r3.2.2).bind fun r4 =>
 (next2 ⟨(IntKind.i64.wrap (s1.t8+1)),r4.1,r4.2.1,r4.2.2⟩)))
 else none)
 else
 (some (s1.b0,s1.b1,s1.b12)))) ⟨0,b0,b1,b12⟩)
def lK:Con τ:=cn [.ptr 0 [],.ty 194] [.box (.agg [.ptr 1 [],.ty 48]),.box (.agg [.ty 4,.own 5 2]),.tail] (.tup []) [.box (.agg [.ptr 1 [],.ty 48]),.box (.agg [.ty 4,.own 5 3]),.dead,.tail] (fun N a b=>dU N a.2.1 b.1.2.1 b.2.1.1 b.2.1.2.1) fun r=>((),(((),r.1,()),(r.2.1,r.2.2,()),(),(),()))
theorem nP:aF E C 100 lK:=ok0 lK [(139,aBF),(138,uP)] [(1,aRY)] 3 [] [] ⟨aMf,⟨aBG,trivial⟩⟩ (fun a b=>(b.1.2.1,b.2.1.1,b.2.1.2.1)) Tryz.func100 rfl (by intro N a b; kernel_rfl)
def yR (N:Nat) (a:aS) (b0:Int) (b1:Bool) (b12:List (Int)):Option (Int×Bool×(List (Int))) :=
 ((dU N [a.Group,a.Replica] b0 b1 b12).bind fun r1 =>
 (some (r1.1,r1.2.1,r1.2.2)))
def aGb:Con τ:=cn [.ptr 0 [],.ty 23] [.box (.agg [.ptr 1 [],.ty 48]),.box (.agg [.ty 4,.own 5 2]),.tail] (.tup []) [.box (.agg [.ptr 1 [],.ty 48]),.box (.agg [.ty 4,.own 5 3]),.dead,.tail] (fun N a b=>yR N a.2.1 b.1.2.1 b.2.1.1 b.2.1.2.1) fun r=>((),(((),r.1,()),(r.2.1,r.2.2,()),(),(),()))
theorem aRZ:aF E C 101 aGb:=ok0 aGb [(100,lK)] [] 3 [] [] ⟨nP,trivial⟩ (fun a b=>(b.1.2.1,b.2.1.1,b.2.1.2.1)) Tryz.func101 rfl (by intro N a b; kernel_rfl)
structure uR where
 t8:Int
 b0:Int
 b1:Bool
 b12:List (Int)
def aGc:List Sl:=[.k,.k,.k,.k,.k,.j,.k,.k,.sh (.ty 2),.j,.j,.j,.j,.j,.j,.j,.j,.j,.j,.j,.j]
def aGd:List ESh:=[.box (.agg [.ptr 1 [],.ty 2]),.box (.agg [.ty 4,.own 5 3]),.dead,.tail]
def aR0 (a:Sl.Ts τ aGc) (b:ESh.Ts τ aGd):uR:=⟨a.2.2.2.2.2.2.2.2.1,b.1.2.1,b.2.1.1,b.2.1.2.1⟩
def aR1 (s:uR):Sl.Ts τ aGc:=((),(),(),(),(),(),(),(),s.t8,(),(),(),(),(),(),(),(),(),(),(),(),())
def aR2 (s:uR):ESh.Ts τ aGd:=(((),s.b0,()),(s.b1,s.b12,()),(),(),())
def aR3:Lp τ:={ ts:=aGc,hs:=aGd,S:=uR,to:=aR0,ot:=aR1,oh:=aR2,hk:=[2,2,5],tk:=[2],ot_to:=fun _ _=>rfl,oh_to:=fun _ _=>rfl }
def bN (N:Nat) (l:List (Int)) (b0:Int) (b1:Bool) (b12:List (Int)):Option (Int×Bool×(List (Int))) :=
 (bE N (fun (s1:uR) next2 =>
 (bif (decide (s1.t8 < ((l).length:Int))) then
 (bif (ibB s1.t8 ((l).length:Int)) then
 ((yQ N (aA l s1.t8 default) s1.b1 s1.b12).bind fun r3 =>
 ((rO N r3.1 s1.b0 r3.2.1 r3.2.2).bind fun r4 =>
 (next2 ⟨(IntKind.i64.wrap (s1.t8+1)),r4.1,r4.2.1,r4.2.2⟩)))
 else none)
 else
 (some (s1.b0,s1.b1,s1.b12)))) ⟨0,b0,b1,b12⟩)
def nQ:Con τ:=cn [.ptr 0 [],.ty 60] [.box (.agg [.ptr 1 [],.ty 48]),.box (.agg [.ty 4,.own 5 2]),.tail] (.tup []) [.box (.agg [.ptr 1 [],.ty 48]),.box (.agg [.ty 4,.own 5 3]),.dead,.tail] (fun N a b=>bN N a.2.1 b.1.2.1 b.2.1.1 b.2.1.2.1) fun r=>((),(((),r.1,()),(r.2.1,r.2.2,()),(),(),()))
theorem rP:aF E C 103 nQ:=ok0 nQ [(139,aBF),(138,uP)] [(1,aR3)] 3 [] [] ⟨aMf,⟨aBG,trivial⟩⟩ (fun a b=>(b.1.2.1,b.2.1.1,b.2.1.2.1)) Tryz.func103 rfl (by intro N a b; kernel_rfl)
def gQ (N:Nat) (b:aP) (b0:Int) (b1:Bool) (b12:List (Int)):Option (Int×Bool×(List (Int))) :=
 ((bN N [b.Round] b0 b1 b12).bind fun r1 =>
 ((dU N [b.Replica] r1.1 r1.2.1 r1.2.2).bind fun r2 =>
 (some (r2.1,r2.2.1,r2.2.2))))
def aBH:Con τ:=cn [.ptr 0 [],.ty 25] [.box (.agg [.ptr 1 [],.ty 48]),.box (.agg [.ty 4,.own 5 2]),.tail] (.tup []) [.box (.agg [.ptr 1 [],.ty 48]),.box (.agg [.ty 4,.own 5 3]),.dead,.tail] (fun N a b=>gQ N a.2.1 b.1.2.1 b.2.1.1 b.2.1.2.1) fun r=>((),(((),r.1,()),(r.2.1,r.2.2,()),(),(),()))
theorem aMg:aF E C 102 aBH:=ok0 aBH [(103,nQ),(100,lK)] [] 3 [] [] ⟨rP,⟨nP,trivial⟩⟩ (fun a b=>(b.1.2.1,b.2.1.1,b.2.1.2.1)) Tryz.func102 rfl (by intro N a b; kernel_rfl)
def yS (N:Nat) (b:List (Int)) (b0:Bool) (b02:List (Int)):Option (Int×Bool×(List (Int))) :=
 ((uN N ((b).length:Int)).bind fun r1 =>
 ((yP N [r1,b] b0 b02).bind fun r2 =>
 (some (r2.1,r2.2.1,r2.2.2))))
def aBI:Con τ:=cn [.ptr 0 [],.ty 37] [.box (.agg [.ty 4,.own 5 1]),.tail] (.ty 48) [.box (.agg [.ty 4,.own 5 2]),.dead,.tail] (fun N a b=>yS N a.2.1 b.1.1 b.1.2.1) fun r=>(r.1,((r.2.1,r.2.2,()),(),(),()))
theorem aMh:aF E C 141 aBI:=ok0 aBI [(110,yN),(170,aBE)] [] 2 [] [] ⟨aF4,⟨aMe,trivial⟩⟩ (fun a b=>(a,b.1.1,b.1.2.1)) Tryz.func141 rfl (by intro N a b; kernel_rfl)
def aBJ (N:Nat) (s:List UInt8) (b0:Bool) (b02:List (Int)):Option (Int×Bool×(List (Int))) :=
 ((yS N (jU s) b0 b02).bind fun r1 =>
 (some (r1.1,r1.2.1,r1.2.2)))
def aGe:Con τ:=cn [.ptr 0 [],.ty 9] [.box (.agg [.ty 4,.own 5 1]),.tail] (.ty 48) [.box (.agg [.ty 4,.own 5 2]),.dead,.tail] (fun N a b=>aBJ N a.2.1 b.1.1 b.1.2.1) fun r=>(r.1,((r.2.1,r.2.2,()),(),(),()))
theorem aR4:aF E C 179 aGe:=ok0 aGe [(141,aBI)] [] 2 [] [] ⟨aMh,trivial⟩ (fun a b=>(a,b.1.1,b.1.2.1)) Tryz.func179 rfl (by intro N a b; kernel_rfl)
structure uS where
 t8:Int
 b0:Int
 b1:Bool
 b12:List (Int)
def aGf:List Sl:=[.k,.k,.k,.k,.k,.j,.k,.k,.sh (.ty 2),.j,.j,.j,.j,.j,.j,.j,.j,.j,.j,.j,.j]
def aGg:List ESh:=[.box (.agg [.ptr 1 [],.ty 2]),.box (.agg [.ty 4,.own 5 3]),.dead,.tail]
def aR5 (a:Sl.Ts τ aGf) (b:ESh.Ts τ aGg):uS:=⟨a.2.2.2.2.2.2.2.2.1,b.1.2.1,b.2.1.1,b.2.1.2.1⟩
def aR6 (s:uS):Sl.Ts τ aGf:=((),(),(),(),(),(),(),(),s.t8,(),(),(),(),(),(),(),(),(),(),(),(),())
def aR7 (s:uS):ESh.Ts τ aGg:=(((),s.b0,()),(s.b1,s.b12,()),(),(),())
def aR8:Lp τ:={ ts:=aGf,hs:=aGg,S:=uS,to:=aR5,ot:=aR6,oh:=aR7,hk:=[2,2,5],tk:=[2],ot_to:=fun _ _=>rfl,oh_to:=fun _ _=>rfl }
def aBK (N:Nat) (l:List (List UInt8)) (b0:Int) (b1:Bool) (b12:List (Int)):Option (Int×Bool×(List (Int))) :=
 (bE N (fun (s1:uS) next2 =>
 (bif (decide (s1.t8 < ((l).length:Int))) then
 (bif (ibB s1.t8 ((l).length:Int)) then
 ((aBJ N (aA l s1.t8 default) s1.b1 s1.b12).bind fun r3 =>
 ((rO N r3.1 s1.b0 r3.2.1 r3.2.2).bind fun r4 =>
 (next2 ⟨(IntKind.i64.wrap (s1.t8+1)),r4.1,r4.2.1,r4.2.2⟩)))
 else none)
 else
 (some (s1.b0,s1.b1,s1.b12)))) ⟨0,b0,b1,b12⟩)
def aGh:Con τ:=cn [.ptr 0 [],.ty 229] [.box (.agg [.ptr 1 [],.ty 48]),.box (.agg [.ty 4,.own 5 2]),.tail] (.tup []) [.box (.agg [.ptr 1 [],.ty 48]),.box (.agg [.ty 4,.own 5 3]),.dead,.tail] (fun N a b=>aBK N a.2.1 b.1.2.1 b.2.1.1 b.2.1.2.1) fun r=>((),(((),r.1,()),(r.2.1,r.2.2,()),(),(),()))
theorem aR9:aF E C 171 aGh:=ok0 aGh [(179,aGe),(138,uP)] [(1,aR8)] 3 [] [] ⟨aR4,⟨aBG,trivial⟩⟩ (fun a b=>(b.1.2.1,b.2.1.1,b.2.1.2.1)) Tryz.func171 rfl (by intro N a b; kernel_rfl)
def uT (N:Nat) (op:GOp) (b0:Int) (b1:Bool) (b12:List (Int)):Option (Int×Bool×(List (Int))) :=
 ((bN N [op.Stamp.Time] b0 b1 b12).bind fun r1 =>
 ((dU N [op.Stamp.Site,op.Kind] r1.1 r1.2.1 r1.2.2).bind fun r2 =>
 ((bN N [op.Node,op.Parent] r2.1 r2.2.1 r2.2.2).bind fun r3 =>
 ((aBK N [op.Name,op.Key,op.Value] r3.1 r3.2.1 r3.2.2).bind fun r4 =>
 (some (r4.1,r4.2.1,r4.2.2))))))
def aBL:Con τ:=cn [.ptr 0 [],.ty 30] [.box (.agg [.ptr 1 [],.ty 48]),.box (.agg [.ty 4,.own 5 2]),.tail] (.tup []) [.box (.agg [.ptr 1 [],.ty 48]),.box (.agg [.ty 4,.own 5 3]),.dead,.tail] (fun N a b=>uT N a.2.1 b.1.2.1 b.2.1.1 b.2.1.2.1) fun r=>((),(((),r.1,()),(r.2.1,r.2.2,()),(),(),()))
theorem aMi:aF E C 140 aBL:=ok0 aBL [(103,nQ),(100,lK),(171,aGh)] [] 3 [] [] ⟨rP,⟨nP,⟨aR9,trivial⟩⟩⟩ (fun a b=>(b.1.2.1,b.2.1.1,b.2.1.2.1)) Tryz.func140 rfl (by intro N a b; kernel_rfl)
structure uU where
 t13:Int
 b0:Int
 b1:Bool
 b12:List (Int)
def aGi:List Sl:=[.k,.k,.k,.k,.k,.j,.k,.k,.k,.k,.k,.k,.k,.sh (.ty 2),.j,.j,.j,.j,.j,.j,.j]
def aGj:List ESh:=[.box (.agg [.ptr 1 [],.ty 2]),.box (.agg [.ty 4,.own 5 4]),.keep,.dead,.tail]
def aSa (a:Sl.Ts τ aGi) (b:ESh.Ts τ aGj):uU:=⟨a.2.2.2.2.2.2.2.2.2.2.2.2.2.1,b.1.2.1,b.2.1.1,b.2.1.2.1⟩
def aSb (s:uU):Sl.Ts τ aGi:=((),(),(),(),(),(),(),(),(),(),(),(),(),s.t13,(),(),(),(),(),(),(),())
def aSc (s:uU):ESh.Ts τ aGj:=(((),s.b0,()),(s.b1,s.b12,()),(),(),(),())
def aSd:Lp τ:={ ts:=aGi,hs:=aGj,S:=uU,to:=aSa,ot:=aSb,oh:=aSc,hk:=[2,2,1,5],tk:=[2,0,0,0,0,0,2],ot_to:=fun _ _=>rfl,oh_to:=fun _ _=>rfl }
def rQ (N:Nat) (l:List (GOp)) (b0:Int) (b1:Bool) (b12:List (Int)):Option (Int×Bool×(List (Int))) :=
 ((dU N [((l).length:Int)] b0 b1 b12).bind fun r1 =>
 (bE N (fun (s2:uU) next3 =>
 (bif (decide (s2.t13 < ((l).length:Int))) then
 (bif (ibB s2.t13 ((l).length:Int)) then
 ((uT N (⟨((aA l s2.t13 default).Stamp),(aA l s2.t13 default).Kind,(aA l s2.t13 default).Node,(aA l s2.t13 default).Parent,(aA l s2.t13 default).Name,(aA l s2.t13 default).Key,(aA l s2.t13 default).Value⟩:GOp) s2.b0 s2.b1 s2.b12).bind fun r4 =>
 (next3 ⟨(IntKind.i64.wrap (s2.t13+1)),r4.1,r4.2.1,r4.2.2⟩))
 else none)
 else
 (some (s2.b0,s2.b1,s2.b12)))) ⟨0,r1.1,r1.2.1,r1.2.2⟩))
def aBM:Con τ:=cn [.ptr 0 [],.ty 31] [.box (.agg [.ptr 1 [],.ty 48]),.box (.agg [.ty 4,.own 5 2]),.tail] (.tup []) [.box (.agg [.ptr 1 [],.ty 48]),.box (.agg [.ty 4,.own 5 3]),.dead,.tail] (fun N a b=>rQ N a.2.1 b.1.2.1 b.2.1.1 b.2.1.2.1) fun r=>((),(((),r.1,()),(r.2.1,r.2.2,()),(),(),()))
theorem aMj:aF E C 106 aBM:=ok0 aBM [(100,lK),(140,aBL)] [(2,aSd)] 3 [] [] ⟨nP,⟨aMi,trivial⟩⟩ (fun a b=>(b.1.2.1,b.2.1.1,b.2.1.2.1)) Tryz.func106 rfl (by intro N a b; kernel_rfl)
def rR (N:Nat) (e:aD) (b0:Int) (b1:Bool) (b12:List (Int)):Option (Int×Bool×(List (Int))) :=
 ((bN N [e.Number] b0 b1 b12).bind fun r1 =>
 ((dU N (e.States.toList) r1.1 r1.2.1 r1.2.2).bind fun r2 =>
 ((bN N (e.Seals.toList) r2.1 r2.2.1 r2.2.2).bind fun r3 =>
 ((dU N (e.Sponsor.toList) r3.1 r3.2.1 r3.2.2).bind fun r4 =>
 (some (r4.1,r4.2.1,r4.2.2))))))
def aBN:Con τ:=cn [.ptr 0 [],.ty 36] [.box (.agg [.ptr 1 [],.ty 48]),.box (.agg [.ty 4,.own 5 2]),.tail] (.tup []) [.box (.agg [.ptr 1 [],.ty 48]),.box (.agg [.ty 4,.own 5 3]),.dead,.tail] (fun N a b=>rR N a.2.1 b.1.2.1 b.2.1.1 b.2.1.2.1) fun r=>((),(((),r.1,()),(r.2.1,r.2.2,()),(),(),()))
theorem aMk:aF E C 107 aBN:=ok0 aBN [(103,nQ),(100,lK)] [] 3 [] [] ⟨rP,⟨nP,trivial⟩⟩ (fun a b=>(b.1.2.1,b.2.1.1,b.2.1.2.1)) Tryz.func107 rfl (by intro N a b; kernel_rfl)
def mK (N:Nat) (p:aE) (b0:Int) (b1:Bool) (b12:List (Int)):Option (Int×Bool×(List (Int))) :=
 ((bN N [p.Snap] b0 b1 b12).bind fun r1 =>
 ((dU N [p.Index,p.Many] r1.1 r1.2.1 r1.2.2).bind fun r2 =>
 ((yS N p.Data r2.2.1 r2.2.2).bind fun r3 =>
 ((rO N r3.1 r2.1 r3.2.1 r3.2.2).bind fun r4 =>
 (some (r4.1,r4.2.1,r4.2.2))))))
def aBO:Con τ:=cn [.ptr 0 [],.ty 39] [.box (.agg [.ptr 1 [],.ty 48]),.box (.agg [.ty 4,.own 5 2]),.tail] (.tup []) [.box (.agg [.ptr 1 [],.ty 48]),.box (.agg [.ty 4,.own 5 3]),.dead,.tail] (fun N a b=>mK N a.2.1 b.1.2.1 b.2.1.1 b.2.1.2.1) fun r=>((),(((),r.1,()),(r.2.1,r.2.2,()),(),(),()))
theorem aMl:aF E C 108 aBO:=ok0 aBO [(103,nQ),(100,lK),(141,aBI),(138,uP)] [] 3 [] [] ⟨rP,⟨nP,⟨aMh,⟨aBG,trivial⟩⟩⟩⟩ (fun a b=>(b.1.2.1,b.2.1.1,b.2.1.2.1)) Tryz.func108 rfl (by intro N a b; kernel_rfl)
def pJ (N:Nat) (e:aC) (b0:Int) (b1:Bool) (b12:List (Int)):Option (Int×Bool×(List (Int))) :=
 ((dU N [e.Kind] b0 b1 b12).bind fun r1 =>
 (bif (e.Kind==1) then
 ((bN N [e.Session,e.Request] r1.1 r1.2.1 r1.2.2).bind fun r2 =>
 ((uT N e.Op r2.1 r2.2.1 r2.2.2).bind fun r3 =>
 (some (r3.1,r3.2.1,r3.2.2))))
 else
 (bif (e.Kind==2) then
 ((dU N [e.Origin] r1.1 r1.2.1 r1.2.2).bind fun r4 =>
 ((bN N [e.Seq] r4.1 r4.2.1 r4.2.2).bind fun r5 =>
 ((rQ N e.Ops r5.1 r5.2.1 r5.2.2).bind fun r6 =>
 (some (r6.1,r6.2.1,r6.2.2)))))
 else
 (bif (e.Kind==3) then
 ((rR N e.Epoch r1.1 r1.2.1 r1.2.2).bind fun r7 =>
 (some (r7.1,r7.2.1,r7.2.2)))
 else
 (bif (e.Kind==4) then
 ((bN N [e.Seq] r1.1 r1.2.1 r1.2.2).bind fun r8 =>
 ((dU N [e.From] r8.1 r8.2.1 r8.2.2).bind fun r9 =>
 ((bN N (e.Vector_.toList) r9.1 r9.2.1 r9.2.2).bind fun r10 =>
 ((bN N [e.Clock] r10.1 r10.2.1 r10.2.2).bind fun r11 =>
 (some (r11.1,r11.2.1,r11.2.2))))))
 else
 (bif (e.Kind==5) then
 ((mK N e.Part r1.1 r1.2.1 r1.2.2).bind fun r12 =>
 (some (r12.1,r12.2.1,r12.2.2)))
 else
 (bif (e.Kind==6) then
 ((dU N [e.Site,e.Sponsor] r1.1 r1.2.1 r1.2.2).bind fun r13 =>
 (some (r13.1,r13.2.1,r13.2.2)))
 else
 (bif (e.Kind==7) then
 ((dU N [e.Site] r1.1 r1.2.1 r1.2.2).bind fun r14 =>
 (some (r14.1,r14.2.1,r14.2.2)))
 else
 (bif (e.Kind==8) then
 ((dU N [e.Site] r1.1 r1.2.1 r1.2.2).bind fun r15 =>
 ((bN N [e.Length] r15.1 r15.2.1 r15.2.2).bind fun r16 =>
 (some (r16.1,r16.2.1,r16.2.2))))
 else
 (some (r1.1,r1.2.1,r1.2.2)))))))))))
def aBP:Con τ:=cn [.ptr 0 [],.ty 41] [.box (.agg [.ptr 1 [],.ty 48]),.box (.agg [.ty 4,.own 5 2]),.tail] (.tup []) [.box (.agg [.ptr 1 [],.ty 48]),.box (.agg [.ty 4,.own 5 3]),.dead,.tail] (fun N a b=>pJ N a.2.1 b.1.2.1 b.2.1.1 b.2.1.2.1) fun r=>((),(((),r.1,()),(r.2.1,r.2.2,()),(),(),()))
theorem aMm:aF E C 105 aBP:=ok0 aBP [(100,lK),(103,nQ),(140,aBL),(106,aBM),(107,aBN),(108,aBO)] [] 3 [] [] ⟨nP,⟨rP,⟨aMi,⟨aMj,⟨aMk,⟨aMl,trivial⟩⟩⟩⟩⟩⟩ (fun a b=>(b.1.2.1,b.2.1.1,b.2.1.2.1)) Tryz.func105 rfl (by intro N a b; kernel_rfl)
structure uV where
 t13:Int
 b0:Int
 b1:Bool
 b12:List (Int)
def aGk:List Sl:=[.k,.k,.k,.k,.k,.j,.k,.k,.k,.k,.k,.k,.k,.sh (.ty 2),.j,.j,.j,.j,.j,.j,.j,.j,.j,.j,.j,.j,.j,.j,.j,.j,.j]
def aGl:List ESh:=[.box (.agg [.ptr 1 [],.ty 2]),.box (.agg [.ty 4,.own 5 4]),.keep,.dead,.tail]
def aSe (a:Sl.Ts τ aGk) (b:ESh.Ts τ aGl):uV:=⟨a.2.2.2.2.2.2.2.2.2.2.2.2.2.1,b.1.2.1,b.2.1.1,b.2.1.2.1⟩
def aSf (s:uV):Sl.Ts τ aGk:=((),(),(),(),(),(),(),(),(),(),(),(),(),s.t13,(),(),(),(),(),(),(),(),(),(),(),(),(),(),(),(),(),())
def aSg (s:uV):ESh.Ts τ aGl:=(((),s.b0,()),(s.b1,s.b12,()),(),(),(),())
def aSh:Lp τ:={ ts:=aGk,hs:=aGl,S:=uV,to:=aSe,ot:=aSf,oh:=aSg,hk:=[2,2,1,5],tk:=[2,0,0,0,0,0,2],ot_to:=fun _ _=>rfl,oh_to:=fun _ _=>rfl }
def kJ (N:Nat) (l:List (aQ)) (b0:Int) (b1:Bool) (b12:List (Int)):Option (Int×Bool×(List (Int))) :=
 ((dU N [((l).length:Int)] b0 b1 b12).bind fun r1 =>
 (bE N (fun (s2:uV) next3 =>
 (bif (decide (s2.t13 < ((l).length:Int))) then
 (bif (ibB s2.t13 ((l).length:Int)) then
 ((bN N [(aA l s2.t13 default).Slot] s2.b0 s2.b1 s2.b12).bind fun r4 =>
 ((gQ N ((aA l s2.t13 default).Ballot) r4.1 r4.2.1 r4.2.2).bind fun r5 =>
 ((pJ N (⟨((aA l s2.t13 default).Entry).Kind,((aA l s2.t13 default).Entry).Session,((aA l s2.t13 default).Entry).Request,(⟨((((aA l s2.t13 default).Entry).Op).Stamp),(((aA l s2.t13 default).Entry).Op).Kind,(((aA l s2.t13 default).Entry).Op).Node,(((aA l s2.t13 default).Entry).Op).Parent,(((aA l s2.t13 default).Entry).Op).Name,(((aA l s2.t13 default).Entry).Op).Key,(((aA l s2.t13 default).Entry).Op).Value⟩:GOp),((aA l s2.t13 default).Entry).Origin,((aA l s2.t13 default).Entry).Seq,((aA l s2.t13 default).Entry).Ops,(((aA l s2.t13 default).Entry).Epoch),((aA l s2.t13 default).Entry).From,((aA l s2.t13 default).Entry).Vector_,((aA l s2.t13 default).Entry).Clock,(((aA l s2.t13 default).Entry).Part),((aA l s2.t13 default).Entry).Site,((aA l s2.t13 default).Entry).Sponsor,((aA l s2.t13 default).Entry).Length⟩:aC) r5.1 r5.2.1 r5.2.2).bind fun r6 =>
 (next3 ⟨(IntKind.i64.wrap (s2.t13+1)),r6.1,r6.2.1,r6.2.2⟩))))
 else none)
 else
 (some (s2.b0,s2.b1,s2.b12)))) ⟨0,r1.1,r1.2.1,r1.2.2⟩))
def aGm:Con τ:=cn [.ptr 0 [],.ty 26] [.box (.agg [.ptr 1 [],.ty 48]),.box (.agg [.ty 4,.own 5 2]),.tail] (.tup []) [.box (.agg [.ptr 1 [],.ty 48]),.box (.agg [.ty 4,.own 5 3]),.dead,.tail] (fun N a b=>kJ N a.2.1 b.1.2.1 b.2.1.1 b.2.1.2.1) fun r=>((),(((),r.1,()),(r.2.1,r.2.2,()),(),(),()))
theorem aSi:aF E C 104 aGm:=ok0 aGm [(100,lK),(103,nQ),(102,aBH),(105,aBP)] [(2,aSh)] 3 [] [] ⟨nP,⟨rP,⟨aMg,⟨aMm,trivial⟩⟩⟩⟩ (fun a b=>(b.1.2.1,b.2.1.1,b.2.1.2.1)) Tryz.func104 rfl (by intro N a b; kernel_rfl)
def aBQ (N:Nat) (m:aB) (b0:Int) (b1:Bool) (b12:List (Int)):Option (Int×Bool×(List (Int))) :=
 ((dU N [m.Kind] b0 b1 b12).bind fun r1 =>
 ((yR N m.From r1.1 r1.2.1 r1.2.2).bind fun r2 =>
 ((yR N m.To r2.1 r2.2.1 r2.2.2).bind fun r3 =>
 (bif (m.Kind==1) then
 (bif (m.Kind==1) then
 ((gQ N m.Ballot r3.1 r3.2.1 r3.2.2).bind fun r4 =>
 ((bN N [m.Slot] r4.1 r4.2.1 r4.2.2).bind fun r5 =>
 (some (r5.1,r5.2.1,r5.2.2))))
 else
 (bif (m.Kind==2) then
 ((gQ N m.Ballot r3.1 r3.2.1 r3.2.2).bind fun r6 =>
 ((bN N [m.Slot] r6.1 r6.2.1 r6.2.2).bind fun r7 =>
 ((kJ N m.List_ r7.1 r7.2.1 r7.2.2).bind fun r8 =>
 (some (r8.1,r8.2.1,r8.2.2)))))
 else
 (bif (m.Kind==3) then
 ((gQ N m.Ballot r3.1 r3.2.1 r3.2.2).bind fun r9 =>
 ((kJ N m.List_ r9.1 r9.2.1 r9.2.2).bind fun r10 =>
 (some (r10.1,r10.2.1,r10.2.2))))
 else
 (bif (m.Kind==5) then
 ((gQ N m.Ballot r3.1 r3.2.1 r3.2.2).bind fun r11 =>
 (some (r11.1,r11.2.1,r11.2.2)))
 else
 (bif (m.Kind==6) then
 ((kJ N m.List_ r3.1 r3.2.1 r3.2.2).bind fun r12 =>
 (some (r12.1,r12.2.1,r12.2.2)))
 else
 (bif (m.Kind==8) then
 ((bN N [m.Slot] r3.1 r3.2.1 r3.2.2).bind fun r13 =>
 (some (r13.1,r13.2.1,r13.2.2)))
 else
 (bif (m.Kind==9) then
 ((pJ N m.Entry r3.1 r3.2.1 r3.2.2).bind fun r14 =>
 (some (r14.1,r14.2.1,r14.2.2)))
 else
 (bif (m.Kind==10) then
 ((bN N [m.Number] r3.1 r3.2.1 r3.2.2).bind fun r15 =>
 ((bN N (m.Vector_.toList) r15.1 r15.2.1 r15.2.2).bind fun r16 =>
 ((bN N [m.Clock] r16.1 r16.2.1 r16.2.2).bind fun r17 =>
 (some (r17.1,r17.2.1,r17.2.2)))))
 else
 (bif (m.Kind==11) then
 ((bN N [m.Number] r3.1 r3.2.1 r3.2.2).bind fun r18 =>
 ((dU N [m.Origin] r18.1 r18.2.1 r18.2.2).bind fun r19 =>
 ((bN N [m.Slot] r19.1 r19.2.1 r19.2.2).bind fun r20 =>
 ((rQ N m.Ops r20.1 r20.2.1 r20.2.2).bind fun r21 =>
 (some (r21.1,r21.2.1,r21.2.2))))))
 else
 (bif (m.Kind==12) then
 ((rR N m.Epoch r3.1 r3.2.1 r3.2.2).bind fun r22 =>
 (some (r22.1,r22.2.1,r22.2.2)))
 else
 (bif (m.Kind==13) then
 ((mK N m.Part r3.1 r3.2.1 r3.2.2).bind fun r23 =>
 (some (r23.1,r23.2.1,r23.2.2)))
 else
 (bif (m.Kind==14) then
 ((bN N [m.Number] r3.1 r3.2.1 r3.2.2).bind fun r24 =>
 ((bN N (m.Vector_.toList) r24.1 r24.2.1 r24.2.2).bind fun r25 =>
 (some (r25.1,r25.2.1,r25.2.2))))
 else
 (bif (m.Kind==15) then
 ((bN N [m.Slot] r3.1 r3.2.1 r3.2.2).bind fun r26 =>
 ((mK N m.Part r26.1 r26.2.1 r26.2.2).bind fun r27 =>
 (some (r27.1,r27.2.1,r27.2.2))))
 else
 (some (r3.1,r3.2.1,r3.2.2)))))))))))))))
 else
 (bif (m.Kind==4) then
 (bif (m.Kind==4) then
 ((gQ N m.Ballot r3.1 r3.2.1 r3.2.2).bind fun r28 =>
 ((bN N [m.Slot] r28.1 r28.2.1 r28.2.2).bind fun r29 =>
 (some (r29.1,r29.2.1,r29.2.2))))
 else
 (bif (m.Kind==2) then
 ((gQ N m.Ballot r3.1 r3.2.1 r3.2.2).bind fun r30 =>
 ((bN N [m.Slot] r30.1 r30.2.1 r30.2.2).bind fun r31 =>
 ((kJ N m.List_ r31.1 r31.2.1 r31.2.2).bind fun r32 =>
 (some (r32.1,r32.2.1,r32.2.2)))))
 else
 (bif (m.Kind==3) then
 ((gQ N m.Ballot r3.1 r3.2.1 r3.2.2).bind fun r33 =>
 ((kJ N m.List_ r33.1 r33.2.1 r33.2.2).bind fun r34 =>
 (some (r34.1,r34.2.1,r34.2.2))))
 else
 (bif (m.Kind==5) then
 ((gQ N m.Ballot r3.1 r3.2.1 r3.2.2).bind fun r35 =>
 (some (r35.1,r35.2.1,r35.2.2)))
 else
 (bif (m.Kind==6) then
 ((kJ N m.List_ r3.1 r3.2.1 r3.2.2).bind fun r36 =>
 (some (r36.1,r36.2.1,r36.2.2)))
 else
 (bif (m.Kind==8) then
 ((bN N [m.Slot] r3.1 r3.2.1 r3.2.2).bind fun r37 =>
 (some (r37.1,r37.2.1,r37.2.2)))
 else
 (bif (m.Kind==9) then
 ((pJ N m.Entry r3.1 r3.2.1 r3.2.2).bind fun r38 =>
 (some (r38.1,r38.2.1,r38.2.2)))
 else
 (bif (m.Kind==10) then
 ((bN N [m.Number] r3.1 r3.2.1 r3.2.2).bind fun r39 =>
 ((bN N (m.Vector_.toList) r39.1 r39.2.1 r39.2.2).bind fun r40 =>
 ((bN N [m.Clock] r40.1 r40.2.1 r40.2.2).bind fun r41 =>
 (some (r41.1,r41.2.1,r41.2.2)))))
 else
 (bif (m.Kind==11) then
 ((bN N [m.Number] r3.1 r3.2.1 r3.2.2).bind fun r42 =>
 ((dU N [m.Origin] r42.1 r42.2.1 r42.2.2).bind fun r43 =>
 ((bN N [m.Slot] r43.1 r43.2.1 r43.2.2).bind fun r44 =>
 ((rQ N m.Ops r44.1 r44.2.1 r44.2.2).bind fun r45 =>
 (some (r45.1,r45.2.1,r45.2.2))))))
 else
 (bif (m.Kind==12) then
 ((rR N m.Epoch r3.1 r3.2.1 r3.2.2).bind fun r46 =>
 (some (r46.1,r46.2.1,r46.2.2)))
 else
 (bif (m.Kind==13) then
 ((mK N m.Part r3.1 r3.2.1 r3.2.2).bind fun r47 =>
 (some (r47.1,r47.2.1,r47.2.2)))
 else
 (bif (m.Kind==14) then
 ((bN N [m.Number] r3.1 r3.2.1 r3.2.2).bind fun r48 =>
 ((bN N (m.Vector_.toList) r48.1 r48.2.1 r48.2.2).bind fun r49 =>
 (some (r49.1,r49.2.1,r49.2.2))))
 else
 (bif (m.Kind==15) then
 ((bN N [m.Slot] r3.1 r3.2.1 r3.2.2).bind fun r50 =>
 ((mK N m.Part r50.1 r50.2.1 r50.2.2).bind fun r51 =>
 (some (r51.1,r51.2.1,r51.2.2))))
 else
 (some (r3.1,r3.2.1,r3.2.2)))))))))))))))
 else
 (bif (m.Kind==7) then
 ((gQ N m.Ballot r3.1 r3.2.1 r3.2.2).bind fun r52 =>
 ((bN N [m.Slot] r52.1 r52.2.1 r52.2.2).bind fun r53 =>
 (some (r53.1,r53.2.1,r53.2.2))))
 else
 (bif (m.Kind==2) then
 ((gQ N m.Ballot r3.1 r3.2.1 r3.2.2).bind fun r54 =>
 ((bN N [m.Slot] r54.1 r54.2.1 r54.2.2).bind fun r55 =>
 ((kJ N m.List_ r55.1 r55.2.1 r55.2.2).bind fun r56 =>
 (some (r56.1,r56.2.1,r56.2.2)))))
 else
 (bif (m.Kind==3) then
 ((gQ N m.Ballot r3.1 r3.2.1 r3.2.2).bind fun r57 =>
 ((kJ N m.List_ r57.1 r57.2.1 r57.2.2).bind fun r58 =>
 (some (r58.1,r58.2.1,r58.2.2))))
 else
 (bif (m.Kind==5) then
 ((gQ N m.Ballot r3.1 r3.2.1 r3.2.2).bind fun r59 =>
 (some (r59.1,r59.2.1,r59.2.2)))
 else
 (bif (m.Kind==6) then
 ((kJ N m.List_ r3.1 r3.2.1 r3.2.2).bind fun r60 =>
 (some (r60.1,r60.2.1,r60.2.2)))
 else
 (bif (m.Kind==8) then
 ((bN N [m.Slot] r3.1 r3.2.1 r3.2.2).bind fun r61 =>
 (some (r61.1,r61.2.1,r61.2.2)))
 else
 (bif (m.Kind==9) then
 ((pJ N m.Entry r3.1 r3.2.1 r3.2.2).bind fun r62 =>
 (some (r62.1,r62.2.1,r62.2.2)))
 else
 (bif (m.Kind==10) then
 ((bN N [m.Number] r3.1 r3.2.1 r3.2.2).bind fun r63 =>
 ((bN N (m.Vector_.toList) r63.1 r63.2.1 r63.2.2).bind fun r64 =>
 ((bN N [m.Clock] r64.1 r64.2.1 r64.2.2).bind fun r65 =>
 (some (r65.1,r65.2.1,r65.2.2)))))
 else
 (bif (m.Kind==11) then
 ((bN N [m.Number] r3.1 r3.2.1 r3.2.2).bind fun r66 =>
 ((dU N [m.Origin] r66.1 r66.2.1 r66.2.2).bind fun r67 =>
 ((bN N [m.Slot] r67.1 r67.2.1 r67.2.2).bind fun r68 =>
 ((rQ N m.Ops r68.1 r68.2.1 r68.2.2).bind fun r69 =>
 (some (r69.1,r69.2.1,r69.2.2))))))
 else
 (bif (m.Kind==12) then
 ((rR N m.Epoch r3.1 r3.2.1 r3.2.2).bind fun r70 =>
 (some (r70.1,r70.2.1,r70.2.2)))
 else
 (bif (m.Kind==13) then
 ((mK N m.Part r3.1 r3.2.1 r3.2.2).bind fun r71 =>
 (some (r71.1,r71.2.1,r71.2.2)))
 else
 (bif (m.Kind==14) then
 ((bN N [m.Number] r3.1 r3.2.1 r3.2.2).bind fun r72 =>
 ((bN N (m.Vector_.toList) r72.1 r72.2.1 r72.2.2).bind fun r73 =>
 (some (r73.1,r73.2.1,r73.2.2))))
 else
 (bif (m.Kind==15) then
 ((bN N [m.Slot] r3.1 r3.2.1 r3.2.2).bind fun r74 =>
 ((mK N m.Part r74.1 r74.2.1 r74.2.2).bind fun r75 =>
 (some (r75.1,r75.2.1,r75.2.2))))
 else
 (some (r3.1,r3.2.1,r3.2.2))))))))))))))))))))
def aGn:Con τ:=cn [.ptr 0 [],.ty 43] [.box (.agg [.ptr 1 [],.ty 48]),.box (.agg [.ty 4,.own 5 2]),.tail] (.tup []) [.box (.agg [.ptr 1 [],.ty 48]),.box (.agg [.ty 4,.own 5 3]),.dead,.tail] (fun N a b=>aBQ N a.2.1 b.1.2.1 b.2.1.1 b.2.1.2.1) fun r=>((),(((),r.1,()),(r.2.1,r.2.2,()),(),(),()))
theorem aSj:aF E C 53 aGn:=ok0 aGn [(100,lK),(101,aGb),(102,aBH),(103,nQ),(104,aGm),(105,aBP),(106,aBM),(107,aBN),(108,aBO)] [] 3 [] [] ⟨nP,⟨aRZ,⟨aMg,⟨rP,⟨aSi,⟨aMm,⟨aMj,⟨aMk,⟨aMl,trivial⟩⟩⟩⟩⟩⟩⟩⟩⟩ (fun a b=>(b.1.2.1,b.2.1.1,b.2.1.2.1)) Tryz.func53 rfl (by intro N a b; kernel_rfl)
def aGo (N:Nat) (s:List (Int)):Option ((List (Int))) :=
 (bif (aO (0+(s).length) 1) then
 (some ([]++s))
 else none)
def aMn:Con τ:=cn [.nn 5] [] (.ty 37) [] (fun N a b=>aGo N a.1) fun r=>(r,())
theorem aSk:aF E C 40 aMn:=ok0 aMn [] [] 0 [] [] trivial (fun a b=>a) Tryz.func40 rfl (by intro N a b; kernel_rfl)
def aSl (N:Nat)  : Option ((List (Int))) :=
 (some [])
def aGp:Con τ:=cn [.nil .slice] [] (.ty 37) [] (fun N a b=>aSl N ) fun r=>(r,())
theorem aSm:aF E C 40 aGp:=ok0 aGp [] [] 0 [] [] trivial (fun a b=>a) Tryz.func40 rfl (by intro N a b; kernel_rfl)
def rS (N:Nat) (s:List (Int)):Option ((List (Int))):=aGo N s
def uW:Con τ:=cn [.ty 37] [] (.ty 37) [] (fun N a b=>rS N a.1) fun r=>(r,())
theorem aBR:aF E C 40 uW:=by
 intro N a b r h
 obtain ⟨x0,u⟩:=a
 refine FnSpec.split (pre:=[]) (post:=[]) (fun h0=>?_) (aSk N (x0,u) b r h)
 have h0:x0=[]:=List.map_eq_nil_iff.1 h0
 subst h0
 exact aSm N ((),u) b r ((show aGp.F N ((),u) b=uW.F N ([],u) b from by kernel_rfl).trans h)
def aBS (N:Nat) (b0:Bool) (b02:List (Int)):Option ((List (Int))×Bool×(List (Int))) :=
 ((yO N b0 b02).bind fun r1 =>
 (bif r1.1 then
 (some ([],r1.2.1,r1.2.2))
 else
 ((rS N r1.2.2).bind fun r2 =>
 (some (r2,r1.2.1,r1.2.2)))))
def aGq:Con τ:=cn [.ptr 0 []] [.box (.agg [.ty 4,.own 5 1]),.tail] (.ty 37) [.box (.agg [.ty 4,.own 5 1]),.tail] (fun N a b=>aBS N b.1.1 b.1.2.1) fun r=>(r.1,((r.2.1,r.2.2,()),(),()))
theorem aSn:aF E C 55 aGq:=ok0 aGq [(113,aBD),(40,uW)] [] 2 [] [] ⟨aMd,⟨aBR,trivial⟩⟩ (fun a b=>(a,b.1.1,b.1.2.1)) Tryz.func55 rfl (by intro N a b; kernel_rfl)
structure uX where
 sum:Int
 t11:Int
def aGr:List Sl:=[.k,.k,.k,.sh (.ty 138),.k,.j,.k,.j,.j,.k,.k,.sh (.ty 2),.j,.j,.j,.j,.j,.j,.j,.j,.j,.j,.j,.j,.j,.j,.j,.j,.j,.j,.j,.j,.j,.j,.j,.j,.j,.j,.k,.k]
def aGs:List ESh:=[]
def aSo (a:Sl.Ts τ aGr) (b:ESh.Ts τ aGs):uX:=⟨a.2.2.2.1,a.2.2.2.2.2.2.2.2.2.2.2.1⟩
def aSp (s:uX):Sl.Ts τ aGr:=((),(),(),s.sum,(),(),(),(),(),(),(),s.t11,(),(),(),(),(),(),(),(),(),(),(),(),(),(),(),(),(),(),(),(),(),(),(),(),(),(),(),(),())
def aSq (s:uX):ESh.Ts τ aGs:=()
def aSr:Lp τ:={ ts:=aGr,hs:=aGs,S:=uX,to:=aSo,ot:=aSp,oh:=aSq,hk:=[],tk:=[],ot_to:=fun _ _=>rfl,oh_to:=fun _ _=>rfl }
structure rT where
 sum:Int
 t17:Int
def aGt:List Sl:=[.k,.k,.k,.sh (.ty 138),.k,.k,.k,.j,.j,.k,.k,.k,.k,.k,.k,.k,.k,.sh (.ty 2),.j,.j,.j,.j,.j,.j,.j,.j,.j,.j,.j,.j,.j,.j,.j,.j,.j,.j,.j,.k,.k,.k]
def aGu:List ESh:=[]
def aSs (a:Sl.Ts τ aGt) (b:ESh.Ts τ aGu):rT:=⟨a.2.2.2.1,a.2.2.2.2.2.2.2.2.2.2.2.2.2.2.2.2.2.1⟩
def aSt (s:rT):Sl.Ts τ aGt:=((),(),(),s.sum,(),(),(),(),(),(),(),(),(),(),(),(),(),s.t17,(),(),(),(),(),(),(),(),(),(),(),(),(),(),(),(),(),(),(),(),(),(),())
def aSu (s:rT):ESh.Ts τ aGu:=()
def aSv:Lp τ:={ ts:=aGt,hs:=aGu,S:=rT,to:=aSs,ot:=aSt,oh:=aSu,hk:=[],tk:=[],ot_to:=fun _ _=>rfl,oh_to:=fun _ _=>rfl }
structure pK where
 sum:Int
 t25:Int
def aGv:List Sl:=[.k,.k,.k,.sh (.ty 138),.k,.k,.k,.k,.j,.k,.k,.k,.k,.k,.k,.k,.k,.k,.k,.k,.k,.k,.k,.k,.k,.sh (.ty 2),.j,.j,.j,.j,.j,.j,.j,.j,.j,.j,.k,.k,.k,.k]
def aGw:List ESh:=[]
def aSw (a:Sl.Ts τ aGv) (b:ESh.Ts τ aGw):pK:=⟨a.2.2.2.1,a.2.2.2.2.2.2.2.2.2.2.2.2.2.2.2.2.2.2.2.2.2.2.2.2.2.1⟩
def aSx (s:pK):Sl.Ts τ aGv:=((),(),(),s.sum,(),(),(),(),(),(),(),(),(),(),(),(),(),(),(),(),(),(),(),(),(),s.t25,(),(),(),(),(),(),(),(),(),(),(),(),(),(),())
def aSy (s:pK):ESh.Ts τ aGw:=()
def aSz:Lp τ:={ ts:=aGv,hs:=aGw,S:=pK,to:=aSw,ot:=aSx,oh:=aSy,hk:=[],tk:=[],ot_to:=fun _ _=>rfl,oh_to:=fun _ _=>rfl }
def yT (N:Nat) (l:List (List (Int))):Option (Int) :=
 (bE N (fun (s1:uX) next2 =>
 (bif (decide (s1.t11 < ((l).length:Int))) then
 (bif (ibB s1.t11 ((l).length:Int)) then
 (bE N (fun (s3:rT) next4 =>
 (bif (decide (s3.t17 < (((aA l s1.t11 default)).length:Int))) then
 (bif (ibB s3.t17 (((aA l s1.t11 default)).length:Int)) then
 (bE N (fun (s5:pK) next6 =>
 (bif (decide (s5.t25 < 8)) then
 (bif ((bits .and .u32 s5.sum 1)==1) then
 (next6 ⟨(bits .xor .u32 (shr .u32 s5.sum 1) 3988292384),(IntKind.i64.wrap (s5.t25+1))⟩)
 else
 (next6 ⟨(shr .u32 s5.sum 1),(IntKind.i64.wrap (s5.t25+1))⟩))
 else
 (next4 ⟨s5.sum,(IntKind.i64.wrap (s3.t17+1))⟩))) ⟨(bits .xor .u32 s3.sum (IntKind.u32.wrap (aA (aA l s1.t11 default) s3.t17 default))),0⟩)
 else none)
 else
 (next2 ⟨s3.sum,(IntKind.i64.wrap (s1.t11+1))⟩))) ⟨s1.sum,0⟩)
 else none)
 else
 (some (bits .xor .u32 IntKind.u32.max s1.sum)))) ⟨4294967295,0⟩)
def aBT:Con τ:=cn [.ty 201] [] (.ty 138) [] (fun N a b=>yT N a.1) fun r=>(r,())
theorem aMo:aF E C 112 aBT:=ok0 aBT [] [(3,aSr),(6,aSv),(10,aSz)] 0 [] [] trivial (fun a b=>a) Tryz.func112 rfl (by intro N a b; kernel_rfl)
def yU (N:Nat) (sum:Int):Option ((List (Int))) :=
 (some [(IntKind.u8.wrap sum),(IntKind.u8.wrap (shr .u32 sum 8)),(IntKind.u8.wrap (shr .u32 sum 16)),(IntKind.u8.wrap (shr .u32 sum 24))])
def aBU:Con τ:=cn [.ty 138] [] (.ty 37) [] (fun N a b=>yU N a.1) fun r=>(r,())
theorem aMp:aF E C 111 aBU:=ok0 aBU [] [] 0 [] [] trivial (fun a b=>a) Tryz.func111 rfl (by intro N a b; kernel_rfl)
def aBV (N:Nat) (n:Int):Option (Nat×(List (Int))) :=
 (bif (decide (n < 0)) then
 none
 else
 (bif (decide (0 < (IntKind.i64.wrap (n - 0)))) then
 (bif (mkB (IntKind.i64.wrap (n - 0)) 1) then
 (bif (gA 0 0 ((((IntKind.i64.wrap (n - 0))).toNat:Nat):Int)) then
 (some (0,(List.replicate (((IntKind.i64.wrap (n - 0))).toNat) 0)))
 else none)
 else none)
 else
 (some (0,[]))))
def aGx:Con τ:=cn [.nil .slice,.ty 3] [] (.msl 5 0) [.gbx 5] (fun N a b=>aBV N a.2.1) fun r=>(r.1,(r.2,()))
theorem aSA:aF E C 142 aGx:=ok0 aGx [] [] 0 [22] [] trivial (fun a b=>(a,b.1)) Tryz.func142 rfl (by intro N a b; kernel_rfl)
structure uY where
 size:Int
 t11:Int
def aGy:List Sl:=[.k,.k,.k,.sh (.ty 2),.k,.j,.k,.k,.k,.k,.k,.sh (.ty 2),.j,.j,.j,.j,.j,.j,.j,.j,.j,.j,.j,.k,.k,.k,.k,.k,.k,.k,.k,.k,.k,.k,.k,.k]
def aGz:List ESh:=[]
def aSB (a:Sl.Ts τ aGy) (b:ESh.Ts τ aGz):uY:=⟨a.2.2.2.1,a.2.2.2.2.2.2.2.2.2.2.2.1⟩
def aSC (s:uY):Sl.Ts τ aGy:=((),(),(),s.size,(),(),(),(),(),(),(),s.t11,(),(),(),(),(),(),(),(),(),(),(),(),(),(),(),(),(),(),(),(),(),(),(),(),())
def aSD (s:uY):ESh.Ts τ aGz:=()
def aSE:Lp τ:={ ts:=aGy,hs:=aGz,S:=uY,to:=aSB,ot:=aSC,oh:=aSD,hk:=[],tk:=[],ot_to:=fun _ _=>rfl,oh_to:=fun _ _=>rfl }
structure uZ where
 newslice:Nat
 t27:Int
 g1:List (Int)
def aGA:List Sl:=[.k,.k,.k,.k,.k,.k,.sh (.msl 5 1),.k,.j,.k,.k,.k,.k,.k,.k,.k,.k,.k,.k,.k,.k,.k,.k,.k,.k,.k,.k,.sh (.ty 2),.j,.j,.j,.j,.j,.j,.j,.k]
def aGB:List ESh:=[.dead,.gbx 5]
def aSF (a:Sl.Ts τ aGA) (b:ESh.Ts τ aGB):uZ:=⟨a.2.2.2.2.2.2.1,a.2.2.2.2.2.2.2.2.2.2.2.2.2.2.2.2.2.2.2.2.2.2.2.2.2.2.2.1,b.2.1⟩
def aSG (s:uZ):Sl.Ts τ aGA:=((),(),(),(),(),(),s.newslice,(),(),(),(),(),(),(),(),(),(),(),(),(),(),(),(),(),(),(),(),s.t27,(),(),(),(),(),(),(),(),())
def aSH (s:uZ):ESh.Ts τ aGB:=((),s.g1,())
def aSI:Lp τ:={ ts:=aGA,hs:=aGB,S:=uZ,to:=aSF,ot:=aSG,oh:=aSH,hk:=[4],tk:=[],ot_to:=fun _ _=>rfl,oh_to:=fun _ _=>rfl }
def aBW (N:Nat) (slices:List (List (Int))):Option (Nat×(List (Int))) :=
 (bE N (fun (s1:uY) next2 =>
 (bif (decide (s1.t11 < ((slices).length:Int))) then
 (bif (ibB s1.t11 ((slices).length:Int)) then
 (bif (decide ((IntKind.i64.wrap (s1.size+(((aA slices s1.t11 default)).length:Int))) < 0)) then
 none
 else
 (next2 ⟨(IntKind.i64.wrap (s1.size+(((aA slices s1.t11 default)).length:Int))),(IntKind.i64.wrap (s1.t11+1))⟩))
 else none)
 else
 ((aBV N s1.size).bind fun r3 =>
 (bE N (fun (s4:uZ) next5 =>
 (bif (decide (s4.t27 < ((slices).length:Int))) then
 (bif (ibB s4.t27 ((slices).length:Int)) then
 (bif ((aO (s4.newslice+((aA slices s4.t27 default)).length) 1)&&(Nat.ble s4.newslice (s4.g1).length)) then
 (next5 ⟨(s4.newslice+((aA slices s4.t27 default)).length),(IntKind.i64.wrap (s4.t27+1)),(s4.g1.take s4.newslice++(aA slices s4.t27 default))⟩)
 else none)
 else none)
 else
 (some (s4.newslice,s4.g1)))) ⟨r3.1,0,r3.2⟩)))) ⟨0,0⟩)
def aGC:Con τ:=cn [.ty 201] [] (.msl 5 0) [.gbx 5] (fun N a b=>aBW N a.1) fun r=>(r.1,(r.2,()))
theorem aSJ:aF E C 109 aGC:=ok0 aGC [(142,aGx)] [(3,aSE),(11,aSI)] 0 [33] [] ⟨aSA,trivial⟩ (fun a b=>(a,b.1)) Tryz.func109 rfl (by intro N a b; kernel_rfl)
def yV (N:Nat) (b:List (Int)):Option (Nat×Int×(List (Int))) :=
 (bif (decide (1048576 < ((b).length:Int))) then
 (some (0,3,[]))
 else
 ((uN N ((b).length:Int)).bind fun r1 =>
 ((yT N [b]).bind fun r2 =>
 ((yU N r2).bind fun r3 =>
 ((aBW N [r1,b,r3]).bind fun r4 =>
 (some (r4.1,0,r4.2)))))))
def aGD:Con τ:=cn [.ty 37] [] (.tup [.msl 5 0,.ty 48]) [.gbx 5] (fun N a b=>yV N a.1) fun r=>((r.1,r.2.1,()),(r.2.2,()))
theorem aSK:aF E C 54 aGD:=ok0 aGD [(110,yN),(112,aBT),(111,aBU),(109,aGC)] [] 0 [] [] ⟨aF4,⟨aMo,⟨aMp,⟨aSJ,trivial⟩⟩⟩⟩ (fun a b=>(a.1,a.2.1,b.1)) Tryz.func54 rfl (by intro N a b; kernel_rfl)
def rU (N:Nat) (m:aB):Option (Nat×Int×(List (Int))) :=
 ((yM N m).bind fun r1 =>
 (bif (!(r1==0)) then
 (some (0,r1,[]))
 else
 ((aF0 N).bind fun r2 =>
 ((aBQ N m 0 r2.1 r2.2).bind fun r3 =>
 (bif (!(r3.1==0)) then
 (some (0,r3.1,[]))
 else
 ((aBS N r3.2.1 r3.2.2).bind fun r4 =>
 ((yV N r4.1).bind fun r5 =>
 (some (r5.1,r5.2.1,r5.2.2)))))))))
def aGE:Con τ:=cn [.ty 43] [] (.tup [.msl 5 0,.ty 48]) [.gbx 5] (fun N a b=>rU N a.1) fun r=>((r.1,r.2.1,()),(r.2.2,()))
theorem aSL:aF E C 26 aGE:=ok0 aGE [(51,aBC),(52,aF1),(53,aGn),(55,aGq),(54,aGD)] [] 0 [] [] ⟨aMc,⟨aRI,⟨aSj,⟨aSn,⟨aSK,trivial⟩⟩⟩⟩⟩ (fun a b=>(a.1,a.2.1,b.1)) Tryz.func26 rfl (by intro N a b; kernel_rfl)
def aBX (N:Nat) (from_:aS) (to:aS) (data:Hd) (b0:Nat) (b02:Int) (b03:Bool) (g1:List (bU)) (ms:List (Option (List (Int)))):Option (Int×Nat×Int×Bool×(List (Option (List (Int))))×(List (bU))) :=
 (bif (((aO (b0+([(⟨(IntKind.i64.wrap (b02+1)),from_,to,data⟩:bU)]).length) 64)&&(Nat.ble b0 (g1).length))&&true) then
 (some ((IntKind.i64.wrap (b02+1)),(b0+([(⟨(IntKind.i64.wrap (b02+1)),from_,to,data⟩:bU)]).length),(IntKind.i64.wrap (b02+1)),b03,ms,(g1.take b0++[(⟨(IntKind.i64.wrap (b02+1)),from_,to,data⟩:bU)])))
 else none)
def aGF:Con τ:=cn [.ptr 0 [.fld 0 0],.ty 23,.ty 23,.ty 10005] [.box (.agg [.agg [.msl 20065 1,.ty 2],.ty 4]),.gbx 20065,.pool 5] (.ty 2) [.box (.agg [.agg [.msl 20065 3,.ty 2],.ty 4]),.dead,.pool 5,.gbx 20065] (fun N a b=>aBX N a.2.1 a.2.2.1 a.2.2.2.1 b.1.1.1 b.1.1.2.1 b.1.2.1 b.2.1 b.2.2.1) fun r=>(r.1,(((r.2.1,r.2.2.1,()),r.2.2.2.1,()),(),r.2.2.2.2.1,r.2.2.2.2.2,()))
theorem aSM:aF E C 27 aGF:=okp aGF [] [] 3 [30] [] [] [] [] trivial (fun a b=>(a,b.1.1.1,b.1.1.2.1,b.1.2.1,b.2.2.1,b.2.2.2.1)) Tryz.func27 rfl (by intro N a b; kernel_rfl)
structure vA where
 many:Int
 t15:Int
 b0:Nat
 b02:Int
 b03:Bool
 ms:List (Option (List (Int)))
 g3:List (bU)
def aGG:List Sl:=[.k,.k,.k,.k,.k,.k,.sh (.ty 2),.k,.j,.j,.j,.k,.k,.k,.k,.sh (.ty 2),.j,.j,.j,.j,.j,.j,.j,.j,.j,.j,.j,.j,.j,.j,.j,.j,.j,.j,.j,.j,.j,.j,.j,.j,.j,.j,.j,.j,.j,.j,.j,.k]
def aGH:List ESh:=[.box (.agg [.agg [.msl 20065 3,.ty 2],.ty 4]),.dead,.pool 5,.gbx 20065]
def aSN (a:Sl.Ts τ aGG) (b:ESh.Ts τ aGH):vA:=⟨a.2.2.2.2.2.2.1,a.2.2.2.2.2.2.2.2.2.2.2.2.2.2.2.1,b.1.1.1,b.1.1.2.1,b.1.2.1,b.2.2.1,b.2.2.2.1⟩
def aSO (s:vA):Sl.Ts τ aGG:=((),(),(),(),(),(),s.many,(),(),(),(),(),(),(),(),s.t15,(),(),(),(),(),(),(),(),(),(),(),(),(),(),(),(),(),(),(),(),(),(),(),(),(),(),(),(),(),(),(),(),())
def aSP (s:vA):ESh.Ts τ aGH:=(((s.b0,s.b02,()),s.b03,()),(),s.ms,s.g3,())
def aSQ:Lp τ:={ ts:=aGG,hs:=aGH,S:=vA,to:=aSN,ot:=aSO,oh:=aSP,hk:=[2,4,8],tk:=[2,0,0,0,0,0,0,0,0,0,0,2],ot_to:=fun _ _=>rfl,oh_to:=fun _ _=>rfl }
def vB (N:Nat) (l:List (aB)) (b0:Nat) (b02:Int) (b03:Bool) (g1:List (bU)) (ms:List (Option (List (Int)))):Option (Int×Int×Nat×Int×Bool×(List (Option (List (Int))))×(List (bU))) :=
 ((rL N b0 b02 b03 g1 ms).bind fun r1 =>
 (bif r1.1 then
 (some (0,2,r1.2.1,r1.2.2.1,r1.2.2.2.1,r1.2.2.2.2.2,r1.2.2.2.2.1))
 else
 (bE N (fun (s2:vA) next3 =>
 (bif (decide (s2.t15 < ((l).length:Int))) then
 (bif (ibB s2.t15 ((l).length:Int)) then
 ((rU N (⟨(aA l s2.t15 default).Kind,((aA l s2.t15 default).From),((aA l s2.t15 default).To),((aA l s2.t15 default).Ballot),(aA l s2.t15 default).Slot,(aA l s2.t15 default).List_,(⟨((aA l s2.t15 default).Entry).Kind,((aA l s2.t15 default).Entry).Session,((aA l s2.t15 default).Entry).Request,(⟨((((aA l s2.t15 default).Entry).Op).Stamp),(((aA l s2.t15 default).Entry).Op).Kind,(((aA l s2.t15 default).Entry).Op).Node,(((aA l s2.t15 default).Entry).Op).Parent,(((aA l s2.t15 default).Entry).Op).Name,(((aA l s2.t15 default).Entry).Op).Key,(((aA l s2.t15 default).Entry).Op).Value⟩:GOp),((aA l s2.t15 default).Entry).Origin,((aA l s2.t15 default).Entry).Seq,((aA l s2.t15 default).Entry).Ops,(((aA l s2.t15 default).Entry).Epoch),((aA l s2.t15 default).Entry).From,((aA l s2.t15 default).Entry).Vector_,((aA l s2.t15 default).Entry).Clock,(((aA l s2.t15 default).Entry).Part),((aA l s2.t15 default).Entry).Site,((aA l s2.t15 default).Entry).Sponsor,((aA l s2.t15 default).Entry).Length⟩:aC),(aA l s2.t15 default).Number,(aA l s2.t15 default).Vector_,(aA l s2.t15 default).Clock,(aA l s2.t15 default).Origin,(aA l s2.t15 default).Ops,((aA l s2.t15 default).Epoch),((aA l s2.t15 default).Part)⟩:aB)).bind fun r4 =>
 (bif ((!(r4.2.1==0)) || (decide (16384≤((s2.b0:Nat):Int)))) then
 (next3 ⟨s2.many,(IntKind.i64.wrap (s2.t15+1)),s2.b0,s2.b02,s2.b03,(s2.ms++[some r4.2.2]),s2.g3⟩)
 else
 ((aBX N ((aA l s2.t15 default).From) ((aA l s2.t15 default).To) (⟨((s2.ms).length+1),0,r4.1,r4.1,false⟩:Hd) s2.b0 s2.b02 s2.b03 s2.g3 (s2.ms++[some r4.2.2])).bind fun r5 =>
 (next3 ⟨(IntKind.i64.wrap (s2.many+1)),(IntKind.i64.wrap (s2.t15+1)),r5.2.1,r5.2.2.1,r5.2.2.2.1,r5.2.2.2.2.1,r5.2.2.2.2.2⟩))))
 else none)
 else
 (some (s2.many,0,s2.b0,s2.b02,s2.b03,s2.ms,s2.g3)))) ⟨0,0,r1.2.1,r1.2.2.1,r1.2.2.2.1,r1.2.2.2.2.2,r1.2.2.2.2.1⟩)))
def aBY:Con τ:=cn [.ptr 0 [],.ty 59] [.box (.agg [.agg [.msl 20065 1,.ty 2],.ty 4]),.gbx 20065,.pool 5] (.tup [.ty 3,.ty 48]) [.box (.agg [.agg [.msl 20065 3,.ty 2],.ty 4]),.dead,.pool 5,.gbx 20065] (fun N a b=>vB N a.2.1 b.1.1.1 b.1.1.2.1 b.1.2.1 b.2.1 b.2.2.1) fun r=>((r.1,r.2.1,()),(((r.2.2.1,r.2.2.2.1,()),r.2.2.2.2.1,()),(),r.2.2.2.2.2.1,r.2.2.2.2.2.2,()))
theorem aMq:aF E C 10 aBY:=okp aBY [(25,uD),(26,aGE),(27,aGF)] [(5,aSQ)] 3 [] [] [21] [] [] ⟨aBk,⟨aSL,⟨aSM,trivial⟩⟩⟩ (fun a b=>(a.1,a.2.1,b.1.1.1,b.1.1.2.1,b.1.2.1,b.2.2.1,b.2.2.2.1)) Tryz.func10 rfl (by intro N a b; kernel_rfl)
def aGI (N:Nat) (s:bU) (b0:Int) (ms:List (Option (List (Int)))):Option (Bool×Int×(List (Option (List (Int))))) :=
 (some ((s.Number==b0),b0,ms))
def aGJ:Con τ:=cn [.ty 20065,.ptr 0 []] [.box (.ty 2),.pool 5] (.ty 4) [.box (.ty 2),.pool 5] (fun N a b=>aGI N a.1 b.1 b.2.1) fun r=>(r.1,(r.2.1,r.2.2,()))
theorem aSR:aF E C 118 aGJ:=okp aGJ [] [] 2 [] [] [] [] [] trivial (fun a b=>(a,b.1,b.2.1)) Tryz.func118 rfl (by intro N a b; kernel_rfl)
structure yW where
 t8:Int
 b1:Int
 ms:List (Option (List (Int)))
def aGK:List Sl:=[.k,.k,.k,.k,.j,.j,.k,.k,.sh (.ty 2),.j,.j,.j,.j,.j,.j,.j,.j,.j,.j]
def aGL:List ESh:=[.keep,.box (.ty 2),.pool 5]
def aSS (a:Sl.Ts τ aGK) (b:ESh.Ts τ aGL):yW:=⟨a.2.2.2.2.2.2.2.2.1,b.2.1,b.2.2.1⟩
def aST (s:yW):Sl.Ts τ aGK:=((),(),(),(),(),(),(),(),s.t8,(),(),(),(),(),(),(),(),(),(),())
def aSU (s:yW):ESh.Ts τ aGL:=((),s.b1,s.ms,())
def aSV:Lp τ:={ ts:=aGK,hs:=aGL,S:=yW,to:=aSS,ot:=aST,oh:=aSU,hk:=[4,2,8],tk:=[],ot_to:=fun _ _=>rfl,oh_to:=fun _ _=>rfl }
def aBZ (N:Nat) (s:Nat) (g0:List (bU)) (b1:Int) (ms:List (Option (List (Int)))):Option (Int×(List (bU))×Int×(List (Option (List (Int))))) :=
 (bE N (fun (s1:yW) next2 =>
 (bif (decide (s1.t8 < ((s:Nat):Int))) then
 (bif (ibB s1.t8 ((s:Nat):Int)) then
 (bif (decide ((s1.t8).toNat < (g0).length)) then
 ((aGI N (⟨(g0.getD ((s1.t8).toNat) default).Number,((g0.getD ((s1.t8).toNat) default).From),((g0.getD ((s1.t8).toNat) default).To),((g0.getD ((s1.t8).toNat) default).Data)⟩:bU) s1.b1 s1.ms).bind fun r3 =>
 (bif r3.1 then
 (some (s1.t8,g0,r3.2.1,r3.2.2))
 else
 (next2 ⟨(IntKind.i64.wrap (s1.t8+1)),r3.2.1,r3.2.2⟩)))
 else none)
 else none)
 else
 (some ((-1),g0,s1.b1,s1.ms)))) ⟨0,b1,ms⟩)
def aGM:Con τ:=cn [.msl 20065 0,.fn 118 [.ptr 1 []]] [.gbx 20065,.box (.ty 2),.pool 5] (.ty 3) [.gbx 20065,.box (.ty 2),.pool 5] (fun N a b=>aBZ N a.1 b.1 b.2.1 b.2.2.1) fun r=>(r.1,(r.2.1,r.2.2.1,r.2.2.2,()))
theorem aSW:aF E C 87 aGM:=okp aGM [(118,aGJ)] [(2,aSV)] 3 [] [] [] [] [] ⟨aSR,trivial⟩ (fun a b=>(a,b.1,b.2.1,b.2.2.1)) Tryz.func87 rfl (by intro N a b; kernel_rfl)
def aGN (N:Nat) (number:Int) (b0:Nat) (b02:Int) (b03:Bool) (g1:List (bU)) (ms:List (Option (List (Int)))):Option (Int×Bool×Nat×Int×Bool×(List (bU))×(List (Option (List (Int))))) :=
 ((aBZ N b0 g1 number ms).bind fun r1 =>
 (some (r1.1,(decide (0≤r1.1)),b0,b02,b03,r1.2.1,r1.2.2.2)))
def aGO:Con τ:=cn [.ptr 0 [.fld 0 0],.ty 2] [.box (.agg [.agg [.msl 20065 1,.ty 2],.ty 4]),.gbx 20065,.pool 5] (.tup [.ty 3,.ty 4]) [.box (.agg [.agg [.msl 20065 1,.ty 2],.ty 4]),.gbx 20065,.pool 5] (fun N a b=>aGN N a.2.1 b.1.1.1 b.1.1.2.1 b.1.2.1 b.2.1 b.2.2.1) fun r=>((r.1,r.2.1,()),(((r.2.2.1,r.2.2.2.1,()),r.2.2.2.2.1,()),r.2.2.2.2.2.1,r.2.2.2.2.2.2,()))
theorem aSX:aF E C 76 aGO:=okp aGO [(87,aGM)] [] 3 [] [] [] [] [] ⟨aSW,trivial⟩ (fun a b=>(a.1,a.2.1,b.1.1.1,b.1.1.2.1,b.1.2.1,b.2.1,b.2.2.1)) Tryz.func76 rfl (by intro N a b; kernel_rfl)
def yX (N:Nat) (number:Int) (b0:Nat) (b02:Int) (b03:Bool) (g1:List (bU)) (ms:List (Option (List (Int)))):Option (Int×Int×Nat×Int×Bool×(List (bU))×(List (Option (List (Int))))) :=
 ((rL N b0 b02 b03 g1 ms).bind fun r1 =>
 (bif r1.1 then
 (some (0,2,r1.2.1,r1.2.2.1,r1.2.2.2.1,r1.2.2.2.2.1,r1.2.2.2.2.2))
 else
 ((aGN N number r1.2.1 r1.2.2.1 r1.2.2.2.1 r1.2.2.2.2.1 r1.2.2.2.2.2).bind fun r2 =>
 (bif (!r2.2.1) then
 (some (0,4,r2.2.2.1,r2.2.2.2.1,r2.2.2.2.2.1,r2.2.2.2.2.2.1,r2.2.2.2.2.2.2))
 else
 (some (r2.1,0,r2.2.2.1,r2.2.2.2.1,r2.2.2.2.2.1,r2.2.2.2.2.2.1,r2.2.2.2.2.2.2))))))
def aB0:Con τ:=cn [.ptr 0 [],.ty 2] [.box (.agg [.agg [.msl 20065 1,.ty 2],.ty 4]),.gbx 20065,.pool 5] (.tup [.ty 3,.ty 48]) [.box (.agg [.agg [.msl 20065 1,.ty 2],.ty 4]),.gbx 20065,.pool 5] (fun N a b=>yX N a.2.1 b.1.1.1 b.1.1.2.1 b.1.2.1 b.2.1 b.2.2.1) fun r=>((r.1,r.2.1,()),(((r.2.2.1,r.2.2.2.1,()),r.2.2.2.2.1,()),r.2.2.2.2.2.1,r.2.2.2.2.2.2,()))
theorem aMr:aF E C 31 aB0:=okp aB0 [(25,uD),(76,aGO)] [] 3 [] [] [] [] [] ⟨aBk,⟨aSX,trivial⟩⟩ (fun a b=>(a.1,a.2.1,b.1.1.1,b.1.1.2.1,b.1.2.1,b.2.1,b.2.2.1)) Tryz.func31 rfl (by intro N a b; kernel_rfl)
def aB1 (N:Nat) (s:Nat) (i:Int) (j:Int) (g0:List (bU)) (ms:List (Option (List (Int)))):Option (Nat×(List (Option (List (Int))))×(List (bU))) :=
 (bif (gX i j ((s:Nat):Int) ((s:Nat):Int)) then
 (bif (i==j) then
 (some (s,ms,g0))
 else
 (bif (gX 0 i ((s:Nat):Int) ((s:Nat):Int)) then
 (bif (gX j ((s:Nat):Int) ((s:Nat):Int) ((s:Nat):Int)) then
 (bif (((aO ((i).toNat+(((g0.drop (0+(j).toNat)).take (s - (j).toNat))).length) 64)&&(Nat.ble ((i).toNat) (g0).length))&&(Nat.ble ((0+(j).toNat)+(s - (j).toNat)) (g0).length)) then
 (bif (gX ((((i).toNat+(((g0.drop (0+(j).toNat)).take (s - (j).toNat))).length):Nat):Int) ((s:Nat):Int) (((max s ((i).toNat+(((g0.drop (0+(j).toNat)).take (s - (j).toNat))).length)):Nat):Int) (((max s ((i).toNat+(((g0.drop (0+(j).toNat)).take (s - (j).toNat))).length)):Nat):Int)) then
 (some (((i).toNat+(((g0.drop (0+(j).toNat)).take (s - (j).toNat))).length),ms,(qB (g0.take ((i).toNat)++((g0.drop (0+(j).toNat)).take (s - (j).toNat))) (0+(((((i).toNat+(((g0.drop (0+(j).toNat)).take (s - (j).toNat))).length):Nat):Int)).toNat) ((((s:Nat):Int)).toNat - (((((i).toNat+(((g0.drop (0+(j).toNat)).take (s - (j).toNat))).length):Nat):Int)).toNat) (⟨0,(⟨0,0⟩:aS),(⟨0,0⟩:aS),(⟨0,0,0,0,false⟩:Hd)⟩:bU))))
 else none)
 else none)
 else none)
 else none))
 else none)
def aGP:Con τ:=cn [.msl 20065 0,.ty 3,.ty 3] [.gbx 20065,.pool 5] (.msl 20065 2) [.dead,.pool 5,.gbx 20065] (fun N a b=>aB1 N a.1 a.2.1 a.2.2.1 b.1 b.2.1) fun r=>(r.1,((),r.2.1,r.2.2,()))
theorem aSY:aF E C 32 aGP:=okp aGP [] [] 2 [13,22,25,26,31] [] [] [] [] trivial (fun a b=>(a,b.2.1,b.2.2.1)) Tryz.func32 rfl (by intro N a b; kernel_rfl)
structure vC where
 u:Int
 t8:Int
def aGQ:List Sl:=[.k,.k,.j,.j,.j,.sh (.ty 12),.j,.j,.sh (.ty 2),.j,.j,.j,.j,.j,.j,.j,.j,.j,.j,.j,.j,.j,.j,.j,.j,.j,.j,.j,.j,.j,.j,.j,.j,.j,.j,.j,.j,.j,.j,.j,.j,.j,.j,.j,.j,.j,.j,.j,.j,.j,.j,.j,.j,.j,.j,.j,.j,.j]
def aGR:List ESh:=[]
def aSZ (a:Sl.Ts τ aGQ) (b:ESh.Ts τ aGR):vC:=⟨a.2.2.2.2.2.1,a.2.2.2.2.2.2.2.2.1⟩
def aS0 (s:vC):Sl.Ts τ aGQ:=((),(),(),(),(),s.u,(),(),s.t8,(),(),(),(),(),(),(),(),(),(),(),(),(),(),(),(),(),(),(),(),(),(),(),(),(),(),(),(),(),(),(),(),(),(),(),(),(),(),(),(),(),(),(),(),(),(),(),(),(),())
def aS1 (s:vC):ESh.Ts τ aGR:=()
def aS2:Lp τ:={ ts:=aGQ,hs:=aGR,S:=vC,to:=aSZ,ot:=aS0,oh:=aS1,hk:=[],tk:=[],ot_to:=fun _ _=>rfl,oh_to:=fun _ _=>rfl }
def vD (N:Nat) (b:List (Int)):Option (Int×Int×Int) :=
 (bE N (fun (s1:vC) next2 =>
 (bif (decide (s1.t8 < 10)) then
 (bif (decide (((b).length:Int)≤s1.t8)) then
 (some (0,0,10))
 else
 (bif (ibB s1.t8 ((b).length:Int)) then
 (bif (((s1.t8==9)&&(decide (1 < (aA b s1.t8 default)))) || (((aA b s1.t8 default)==0)&&(decide (0 < s1.t8)))) then
 (some (0,0,11))
 else
 (bif (decide (0≤(IntKind.i64.wrap (7 * s1.t8)))) then
 (bif (decide ((aA b s1.t8 default) < 128)) then
 (bif ((bits .and .u64 (bits .or .u64 s1.u (shl .u64 (IntKind.u64.wrap (bits .and .u8 (aA b s1.t8 default) 127)) (IntKind.i64.wrap (7 * s1.t8)))) 1)==1) then
 (some ((IntKind.i64.wrap (bits .xor .u64 IntKind.u64.max (shr .u64 (bits .or .u64 s1.u (shl .u64 (IntKind.u64.wrap (bits .and .u8 (aA b s1.t8 default) 127)) (IntKind.i64.wrap (7 * s1.t8)))) 1))),(IntKind.i64.wrap (s1.t8+1)),0))
 else
 (some ((IntKind.i64.wrap (shr .u64 (bits .or .u64 s1.u (shl .u64 (IntKind.u64.wrap (bits .and .u8 (aA b s1.t8 default) 127)) (IntKind.i64.wrap (7 * s1.t8)))) 1)),(IntKind.i64.wrap (s1.t8+1)),0)))
 else
 (next2 ⟨(bits .or .u64 s1.u (shl .u64 (IntKind.u64.wrap (bits .and .u8 (aA b s1.t8 default) 127)) (IntKind.i64.wrap (7 * s1.t8)))),(IntKind.i64.wrap (s1.t8+1))⟩))
 else none))
 else none))
 else
 (some (0,0,11)))) ⟨0,0⟩)
def yY:Con τ:=cn [.ty 37] [] (.tup [.ty 2,.ty 3,.ty 48]) [] (fun N a b=>vD N a.1) fun r=>((r.1,r.2.1,r.2.2,()),())
theorem aGS:aF E C 119 yY:=ok0 yY [] [(3,aS2)] 0 [] [] trivial (fun a b=>(a.1,a.2.1,a.2.2.1)) Tryz.func119 rfl (by intro N a b; kernel_rfl)
structure vE where
 t13:Int
def aGT:List Sl:=[.k,.k,.k,.k,.j,.j,.k,.k,.k,.k,.k,.k,.k,.sh (.ty 2),.j,.j,.j,.j,.j,.j,.j,.j,.j,.j,.j,.j]
def aGU:List ESh:=[]
def aS3 (a:Sl.Ts τ aGT) (b:ESh.Ts τ aGU):vE:=⟨a.2.2.2.2.2.2.2.2.2.2.2.2.2.1⟩
def aS4 (s:vE):Sl.Ts τ aGT:=((),(),(),(),(),(),(),(),(),(),(),(),(),s.t13,(),(),(),(),(),(),(),(),(),(),(),(),())
def aS5 (s:vE):ESh.Ts τ aGU:=()
def aS6:Lp τ:={ ts:=aGT,hs:=aGU,S:=vE,to:=aS3,ot:=aS4,oh:=aS5,hk:=[],tk:=[],ot_to:=fun _ _=>rfl,oh_to:=fun _ _=>rfl }
def aB2 (N:Nat) (s1_:List (Int)) (s2_:List (Int)):Option (Bool) :=
 (bif (!(((s1_).length:Int)==((s2_).length:Int))) then
 (some false)
 else
 (bE N (fun (s1:vE) next2 =>
 (bif (decide (s1.t13 < ((s1_).length:Int))) then
 (bif (ibB s1.t13 ((s1_).length:Int)) then
 (bif (ibB s1.t13 ((s2_).length:Int)) then
 (bif (!((aA s1_ s1.t13 default)==(aA s2_ s1.t13 default))) then
 (some false)
 else
 (next2 ⟨(IntKind.i64.wrap (s1.t13+1))⟩))
 else none)
 else none)
 else
 (some true))) ⟨0⟩))
def aGV:Con τ:=cn [.ty 37,.ty 37] [] (.ty 4) [] (fun N a b=>aB2 N a.1 a.2.1) fun r=>(r,())
theorem aS7:aF E C 120 aGV:=ok0 aGV [] [(4,aS6)] 0 [] [] trivial (fun a b=>a) Tryz.func120 rfl (by intro N a b; kernel_rfl)
def aB3 (N:Nat) (b:List (Int)):Option ((List (Int))×Int×Int) :=
 ((vD N b).bind fun r1 =>
 (bif (!(r1.2.2==0)) then
 (some ([],0,r1.2.2))
 else
 (bif (decide (r1.1 < 0)) then
 (some ([],0,11))
 else
 (bif (decide (1048576 < r1.1)) then
 (some ([],0,3))
 else
 (bif (decide ((IntKind.i64.wrap (((b).length:Int) - r1.2.1)) < (IntKind.i64.wrap (r1.1+4)))) then
 (some ([],0,10))
 else
 (bif (gA (IntKind.i64.wrap (r1.2.1+r1.1)) (IntKind.i64.wrap ((IntKind.i64.wrap (r1.2.1+r1.1))+4)) ((b).length:Int)) then
 (bif (gA r1.2.1 (IntKind.i64.wrap (r1.2.1+r1.1)) ((b).length:Int)) then
 ((yT N [(cut b r1.2.1 (IntKind.i64.wrap (r1.2.1+r1.1)))]).bind fun r2 =>
 ((yU N r2).bind fun r3 =>
 ((aB2 N (cut b (IntKind.i64.wrap (r1.2.1+r1.1)) (IntKind.i64.wrap ((IntKind.i64.wrap (r1.2.1+r1.1))+4))) r3).bind fun r4 =>
 (bif (!r4) then
 (some ([],0,12))
 else
 (bif (gA r1.2.1 (IntKind.i64.wrap (r1.2.1+r1.1)) ((b).length:Int)) then
 ((rS N (cut b r1.2.1 (IntKind.i64.wrap (r1.2.1+r1.1)))).bind fun r5 =>
 (some (r5,(IntKind.i64.wrap ((IntKind.i64.wrap (r1.2.1+r1.1))+4)),0)))
 else none)))))
 else none)
 else none))))))
def aGW:Con τ:=cn [.ty 37] [] (.tup [.ty 37,.ty 3,.ty 48]) [] (fun N a b=>aB3 N a.1) fun r=>((r.1,r.2.1,r.2.2,()),())
theorem aS8:aF E C 77 aGW:=ok0 aGW [(119,yY),(112,aBT),(111,aBU),(120,aGV),(40,uW)] [] 0 [] [] ⟨aGS,⟨aMo,⟨aMp,⟨aS7,⟨aBR,trivial⟩⟩⟩⟩⟩ (fun a b=>(a.1,a.2.1,a.2.2.1)) Tryz.func77 rfl (by intro N a b; kernel_rfl)
def aB4 (N:Nat) (b:List (Int)):Option (aN) :=
 ((rS N b).bind fun r1 =>
 (some (⟨true,r1⟩:aN)))
def aGX:Con τ:=cn [.ty 37] [] (.ptr 0 []) [.box (.ty 186)] (fun N a b=>aB4 N a.1) fun r=>((),(r,()))
theorem aS9:aF E C 78 aGX:=ok0 aGX [(40,uW)] [] 0 [] [] ⟨aBR,trivial⟩ (fun a b=>b.1) Tryz.func78 rfl (by intro N a b; kernel_rfl)
def rV (N:Nat) (b0:aN):Option (Bool×aN) :=
 (some ((!b0.made),b0))
def yZ:Con τ:=cn [.ptr 0 []] [.box (.ty 186)] (.ty 4) [.box (.ty 186)] (fun N a b=>rV N b.1) fun r=>(r.1,(r.2,()))
theorem aGY:aF E C 123 yZ:=ok0 yZ [] [] 1 [] [] trivial (fun a b=>(a,b.1)) Tryz.func123 rfl (by intro N a b; kernel_rfl)
def aB5 (N:Nat) (b0:aN):Option (Int×Int×aN) :=
 ((rV N b0).bind fun r1 =>
 (bif r1.1 then
 (some (0,2,r1.2))
 else
 ((vD N r1.2.b).bind fun r2 =>
 (bif (gA r2.2.1 ((r1.2.b).length:Int) ((r1.2.b).length:Int)) then
 (some (r2.1,r2.2.2,(⟨r1.2.made,(cut r1.2.b r2.2.1 ((r1.2.b).length:Int))⟩:aN)))
 else none))))
def aGZ:Con τ:=cn [.ptr 0 []] [.box (.ty 186)] (.tup [.ty 2,.ty 48]) [.box (.ty 186)] (fun N a b=>aB5 N b.1) fun r=>((r.1,r.2.1,()),(r.2.2,()))
theorem aTa:aF E C 180 aGZ:=ok0 aGZ [(123,yZ),(119,yY)] [] 1 [] [] ⟨aGY,⟨aGS,trivial⟩⟩ (fun a b=>(a.1,a.2.1,b.1)) Tryz.func180 rfl (by intro N a b; kernel_rfl)
def mL (N:Nat) (e:Int) (b0:Int) (b1:aN):Option (Int×aN) :=
 (bif (b0==0) then
 (some (e,b1))
 else
 (some (b0,b1)))
def vF:Con τ:=cn [.ptr 0 [],.ty 48] [.box (.agg [.ptr 1 [],.ty 48]),.box (.ty 186)] (.tup []) [.box (.agg [.ptr 1 [],.ty 48]),.box (.ty 186)] (fun N a b=>mL N a.2.1 b.1.2.1 b.2.1) fun r=>((),(((),r.1,()),r.2,()))
theorem aB6:aF E C 80 vF:=ok0 vF [] [] 2 [] [] trivial (fun a b=>(b.1.2.1,b.2.1)) Tryz.func80 rfl (by intro N a b; kernel_rfl)
def dV (N:Nat) (b0:Int) (b1:aN):Option (Int×Int×aN) :=
 (bif (!(b0==0)) then
 (some (0,b0,b1))
 else
 ((aB5 N b1).bind fun r1 =>
 ((mL N r1.2.1 b0 r1.2.2).bind fun r2 =>
 (some (r1.1,r2.1,r2.2)))))
def eV:Con τ:=cn [.ptr 0 []] [.box (.agg [.ptr 1 [],.ty 48]),.box (.ty 186)] (.ty 2) [.box (.agg [.ptr 1 [],.ty 48]),.box (.ty 186)] (fun N a b=>dV N b.1.2.1 b.2.1) fun r=>(r.1,(((),r.2.1,()),r.2.2,()))
theorem fP:aF E C 172 eV:=ok0 eV [(180,aGZ),(80,vF)] [] 2 [] [] ⟨aTa,⟨aB6,trivial⟩⟩ (fun a b=>(a,b.1.2.1,b.2.1)) Tryz.func172 rfl (by intro N a b; kernel_rfl)
def eJ (N:Nat) (b0:Int) (b1:aN):Option (Int×Int×aN) :=
 ((dV N b0 b1).bind fun r1 =>
 (bif (!(r1.1==(IntKind.i64.wrap (IntKind.i32.wrap r1.1)))) then
 (some ((-2),r1.2.1,r1.2.2))
 else
 (some (r1.1,r1.2.1,r1.2.2))))
def iW:Con τ:=cn [.ptr 0 []] [.box (.agg [.ptr 1 [],.ty 48]),.box (.ty 186)] (.ty 3) [.box (.agg [.ptr 1 [],.ty 48]),.box (.ty 186)] (fun N a b=>eJ N b.1.2.1 b.2.1) fun r=>(r.1,(((),r.2.1,()),r.2.2,()))
theorem kK:aF E C 146 iW:=ok0 iW [(172,eV)] [] 2 [] [] ⟨fP,trivial⟩ (fun a b=>(a,b.1.2.1,b.2.1)) Tryz.func146 rfl (by intro N a b; kernel_rfl)
def aG0 (N:Nat) (b0:Int) (b1:aB) (b2:aN):Option (Int×aB×aN) :=
 ((eJ N b0 b2).bind fun r1 =>
 (some (r1.2.1,(⟨r1.1,b1.From,b1.To,b1.Ballot,b1.Slot,b1.List_,b1.Entry,b1.Number,b1.Vector_,b1.Clock,b1.Origin,b1.Ops,b1.Epoch,b1.Part⟩:aB),r1.2.2)))
def aG1:Con τ:=cn [.ptr 0 [],.ls 1 [.ptr 1 [.fld 0 0]]] [.box (.agg [.ptr 2 [],.ty 48]),.box (.ty 43),.box (.ty 186)] (.tup []) [.box (.agg [.ptr 2 [],.ty 48]),.box (.ty 43),.box (.ty 186)] (fun N a b=>aG0 N b.1.2.1 b.2.1 b.2.2.1) fun r=>((),(((),r.1,()),r.2.1,r.2.2,()))
theorem aTb:aF E C 121 aG1:=ok0 aG1 [(146,iW)] [] 3 [] [(1,3)] ⟨kK,trivial⟩ (fun a b=>(b.1.2.1,b.2.1,b.2.2.1)) Tryz.func121 rfl (by intro N a b; kernel_rfl)
def rW (N:Nat) (b0:Int) (b1:aB) (b2:aN):Option (Int×aB×aN) :=
 ((eJ N b0 b2).bind fun r1 =>
 ((eJ N r1.2.1 r1.2.2).bind fun r2 =>
 ((eJ N r2.2.1 r2.2.2).bind fun r3 =>
 ((eJ N r3.2.1 r3.2.2).bind fun r4 =>
 (some (r4.2.1,(⟨b1.Kind,(⟨r1.1,r2.1⟩:aS),(⟨r3.1,r4.1⟩:aS),b1.Ballot,b1.Slot,b1.List_,b1.Entry,b1.Number,b1.Vector_,b1.Clock,b1.Origin,b1.Ops,b1.Epoch,b1.Part⟩:aB),r4.2.2))))))
def aG2:Con τ:=cn [.ptr 0 [],.ls 1 [.ptr 1 [.fld 1 1,.fld 0 0],.ptr 1 [.fld 1 1,.fld 1 1],.ptr 1 [.fld 2 3,.fld 0 0],.ptr 1 [.fld 2 3,.fld 1 1]]] [.box (.agg [.ptr 2 [],.ty 48]),.box (.ty 43),.box (.ty 186)] (.tup []) [.box (.agg [.ptr 2 [],.ty 48]),.box (.ty 43),.box (.ty 186)] (fun N a b=>rW N b.1.2.1 b.2.1 b.2.2.1) fun r=>((),(((),r.1,()),r.2.1,r.2.2,()))
theorem aTc:aF E C 121 aG2:=ok0 aG2 [(146,iW)] [] 3 [] [(1,6)] ⟨kK,trivial⟩ (fun a b=>(b.1.2.1,b.2.1,b.2.2.1)) Tryz.func121 rfl (by intro N a b; kernel_rfl)
def aG3 (N:Nat) (b0:Int) (b1:aP) (b2:aN):Option (Int×aP×aN) :=
 ((dV N b0 b2).bind fun r1 =>
 (some (r1.2.1,(⟨r1.1,b1.Replica⟩:aP),r1.2.2)))
def aG4:Con τ:=cn [.ptr 0 [],.ls 1 [.ptr 1 [.fld 0 0]]] [.box (.agg [.ptr 2 [],.ty 48]),.box (.ty 25),.box (.ty 186)] (.tup []) [.box (.agg [.ptr 2 [],.ty 48]),.box (.ty 25),.box (.ty 186)] (fun N a b=>aG3 N b.1.2.1 b.2.1 b.2.2.1) fun r=>((),(((),r.1,()),r.2.1,r.2.2,()))
theorem aTd:aF E C 148 aG4:=ok0 aG4 [(172,eV)] [] 3 [] [(1,3)] ⟨fP,trivial⟩ (fun a b=>(b.1.2.1,b.2.1,b.2.2.1)) Tryz.func148 rfl (by intro N a b; kernel_rfl)
def aG5 (N:Nat) (b0:Int) (b1:aP) (b2:aN):Option (Int×aP×aN) :=
 ((eJ N b0 b2).bind fun r1 =>
 (some (r1.2.1,(⟨b1.Round,r1.1⟩:aP),r1.2.2)))
def aG6:Con τ:=cn [.ptr 0 [],.ls 1 [.ptr 1 [.fld 1 1]]] [.box (.agg [.ptr 2 [],.ty 48]),.box (.ty 25),.box (.ty 186)] (.tup []) [.box (.agg [.ptr 2 [],.ty 48]),.box (.ty 25),.box (.ty 186)] (fun N a b=>aG5 N b.1.2.1 b.2.1 b.2.2.1) fun r=>((),(((),r.1,()),r.2.1,r.2.2,()))
theorem aTe:aF E C 121 aG6:=ok0 aG6 [(146,iW)] [] 3 [] [(1,3)] ⟨kK,trivial⟩ (fun a b=>(b.1.2.1,b.2.1,b.2.2.1)) Tryz.func121 rfl (by intro N a b; kernel_rfl)
def gR (N:Nat) (b0:Int) (b1:aN):Option (aP×Int×aN) :=
 ((aG3 N b0 (⟨0,0⟩:aP) b1).bind fun r1 =>
 ((aG5 N r1.1 r1.2.1 r1.2.2).bind fun r2 =>
 (some (r2.2.1,r2.1,r2.2.2))))
def aB7:Con τ:=cn [.ptr 0 []] [.box (.agg [.ptr 1 [],.ty 48]),.box (.ty 186)] (.ty 25) [.box (.agg [.ptr 1 [],.ty 48]),.box (.ty 186)] (fun N a b=>gR N b.1.2.1 b.2.1) fun r=>(r.1,(((),r.2.1,()),r.2.2,()))
theorem aMs:aF E C 147 aB7:=ok0 aB7 [(148,aG4),(121,aG6)] [] 2 [] [] ⟨aTd,⟨aTe,trivial⟩⟩ (fun a b=>(a,b.1.2.1,b.2.1)) Tryz.func147 rfl (by intro N a b; kernel_rfl)
def eE (N:Nat) (b0:Int) (b1:aB) (b2:aN):Option (Int×aB×aN) :=
 ((dV N b0 b2).bind fun r1 =>
 (some (r1.2.1,(⟨b1.Kind,b1.From,b1.To,b1.Ballot,r1.1,b1.List_,b1.Entry,b1.Number,b1.Vector_,b1.Clock,b1.Origin,b1.Ops,b1.Epoch,b1.Part⟩:aB),r1.2.2)))
def aG7:Con τ:=cn [.ptr 0 [],.ls 1 [.ptr 1 [.fld 4 7]]] [.box (.agg [.ptr 2 [],.ty 48]),.box (.ty 43),.box (.ty 186)] (.tup []) [.box (.agg [.ptr 2 [],.ty 48]),.box (.ty 43),.box (.ty 186)] (fun N a b=>eE N b.1.2.1 b.2.1 b.2.2.1) fun r=>((),(((),r.1,()),r.2.1,r.2.2,()))
theorem aTf:aF E C 148 aG7:=ok0 aG7 [(172,eV)] [] 3 [] [(1,3)] ⟨fP,trivial⟩ (fun a b=>(b.1.2.1,b.2.1,b.2.2.1)) Tryz.func148 rfl (by intro N a b; kernel_rfl)
def zA (N:Nat) (b0:Int) (b1:aN):Option (Int×Int×aN) :=
 ((dV N b0 b1).bind fun r1 =>
 (bif ((r1.2.1==0)&&((decide (r1.1 < 0)) || (decide (4096 < r1.1)))) then
 (some (0,40,r1.2.2))
 else
 (bif (!(r1.2.1==0)) then
 (some (0,r1.2.1,r1.2.2))
 else
 (some (r1.1,r1.2.1,r1.2.2)))))
def aB8:Con τ:=cn [.ptr 0 []] [.box (.agg [.ptr 1 [],.ty 48]),.box (.ty 186)] (.ty 3) [.box (.agg [.ptr 1 [],.ty 48]),.box (.ty 186)] (fun N a b=>zA N b.1.2.1 b.2.1) fun r=>(r.1,(((),r.2.1,()),r.2.2,()))
theorem aMt:aF E C 173 aB8:=ok0 aB8 [(172,eV)] [] 2 [] [] ⟨fP,trivial⟩ (fun a b=>(a,b.1.2.1,b.2.1)) Tryz.func173 rfl (by intro N a b; kernel_rfl)
def aG8 (N:Nat) (b0:Int) (b1:aQ) (b2:aN):Option (Int×aQ×aN) :=
 ((dV N b0 b2).bind fun r1 =>
 (some (r1.2.1,(⟨r1.1,b1.Ballot,b1.Entry⟩:aQ),r1.2.2)))
def aG9:Con τ:=cn [.ptr 0 [],.ls 1 [.ptr 1 [.fld 0 0]]] [.box (.agg [.ptr 2 [],.ty 48]),.box (.ty 155),.box (.ty 186)] (.tup []) [.box (.agg [.ptr 2 [],.ty 48]),.box (.ty 155),.box (.ty 186)] (fun N a b=>aG8 N b.1.2.1 b.2.1 b.2.2.1) fun r=>((),(((),r.1,()),r.2.1,r.2.2,()))
theorem aTg:aF E C 148 aG9:=ok0 aG9 [(172,eV)] [] 3 [] [(1,3)] ⟨fP,trivial⟩ (fun a b=>(b.1.2.1,b.2.1,b.2.2.1)) Tryz.func148 rfl (by intro N a b; kernel_rfl)
def aHa (N:Nat) (b0:Int) (b1:aC) (b2:aN):Option (Int×aC×aN) :=
 ((eJ N b0 b2).bind fun r1 =>
 (some (r1.2.1,(⟨r1.1,b1.Session,b1.Request,b1.Op,b1.Origin,b1.Seq,b1.Ops,b1.Epoch,b1.From,b1.Vector_,b1.Clock,b1.Part,b1.Site,b1.Sponsor,b1.Length⟩:aC),r1.2.2)))
def aHb:Con τ:=cn [.ptr 0 [],.ls 1 [.ptr 1 [.fld 0 0]]] [.box (.agg [.ptr 2 [],.ty 48]),.box (.ty 41),.box (.ty 186)] (.tup []) [.box (.agg [.ptr 2 [],.ty 48]),.box (.ty 41),.box (.ty 186)] (fun N a b=>aHa N b.1.2.1 b.2.1 b.2.2.1) fun r=>((),(((),r.1,()),r.2.1,r.2.2,()))
theorem aTh:aF E C 121 aHb:=ok0 aHb [(146,iW)] [] 3 [] [(1,3)] ⟨kK,trivial⟩ (fun a b=>(b.1.2.1,b.2.1,b.2.2.1)) Tryz.func121 rfl (by intro N a b; kernel_rfl)
def aHc (N:Nat) (b0:Int) (b1:aC) (b2:aN):Option (Int×aC×aN) :=
 ((dV N b0 b2).bind fun r1 =>
 ((dV N r1.2.1 r1.2.2).bind fun r2 =>
 (some (r2.2.1,(⟨b1.Kind,r1.1,r2.1,b1.Op,b1.Origin,b1.Seq,b1.Ops,b1.Epoch,b1.From,b1.Vector_,b1.Clock,b1.Part,b1.Site,b1.Sponsor,b1.Length⟩:aC),r2.2.2))))
def aHd:Con τ:=cn [.ptr 0 [],.ls 1 [.ptr 1 [.fld 1 1],.ptr 1 [.fld 2 2]]] [.box (.agg [.ptr 2 [],.ty 48]),.box (.ty 41),.box (.ty 186)] (.tup []) [.box (.agg [.ptr 2 [],.ty 48]),.box (.ty 41),.box (.ty 186)] (fun N a b=>aHc N b.1.2.1 b.2.1 b.2.2.1) fun r=>((),(((),r.1,()),r.2.1,r.2.2,()))
theorem aTi:aF E C 148 aHd:=ok0 aHd [(172,eV)] [] 3 [] [(1,4)] ⟨fP,trivial⟩ (fun a b=>(b.1.2.1,b.2.1,b.2.2.1)) Tryz.func148 rfl (by intro N a b; kernel_rfl)
def aHe (N:Nat) (b0:Int) (b1:GOp) (b2:aN):Option (Int×GOp×aN) :=
 ((dV N b0 b2).bind fun r1 =>
 (some (r1.2.1,(⟨(⟨r1.1,b1.Stamp.Site⟩:aL),b1.Kind,b1.Node,b1.Parent,b1.Name,b1.Key,b1.Value⟩:GOp),r1.2.2)))
def aHf:Con τ:=cn [.ptr 0 [],.ls 1 [.ptr 1 [.fld 0 0,.fld 0 0]]] [.box (.agg [.ptr 2 [],.ty 48]),.box (.ty 30),.box (.ty 186)] (.tup []) [.box (.agg [.ptr 2 [],.ty 48]),.box (.ty 30),.box (.ty 186)] (fun N a b=>aHe N b.1.2.1 b.2.1 b.2.2.1) fun r=>((),(((),r.1,()),r.2.1,r.2.2,()))
theorem aTj:aF E C 148 aHf:=ok0 aHf [(172,eV)] [] 3 [] [(1,3)] ⟨fP,trivial⟩ (fun a b=>(b.1.2.1,b.2.1,b.2.2.1)) Tryz.func148 rfl (by intro N a b; kernel_rfl)
def aHg (N:Nat) (b0:Int) (b1:GOp) (b2:aN):Option (Int×GOp×aN) :=
 ((eJ N b0 b2).bind fun r1 =>
 ((eJ N r1.2.1 r1.2.2).bind fun r2 =>
 (some (r2.2.1,(⟨(⟨b1.Stamp.Time,r1.1⟩:aL),r2.1,b1.Node,b1.Parent,b1.Name,b1.Key,b1.Value⟩:GOp),r2.2.2))))
def aHh:Con τ:=cn [.ptr 0 [],.ls 1 [.ptr 1 [.fld 0 0,.fld 1 1],.ptr 1 [.fld 1 2]]] [.box (.agg [.ptr 2 [],.ty 48]),.box (.ty 30),.box (.ty 186)] (.tup []) [.box (.agg [.ptr 2 [],.ty 48]),.box (.ty 30),.box (.ty 186)] (fun N a b=>aHg N b.1.2.1 b.2.1 b.2.2.1) fun r=>((),(((),r.1,()),r.2.1,r.2.2,()))
theorem aTk:aF E C 121 aHh:=ok0 aHh [(146,iW)] [] 3 [] [(1,4)] ⟨kK,trivial⟩ (fun a b=>(b.1.2.1,b.2.1,b.2.2.1)) Tryz.func121 rfl (by intro N a b; kernel_rfl)
def aHi (N:Nat) (b0:Int) (b1:GOp) (b2:aN):Option (Int×GOp×aN) :=
 ((dV N b0 b2).bind fun r1 =>
 ((dV N r1.2.1 r1.2.2).bind fun r2 =>
 (some (r2.2.1,(⟨b1.Stamp,b1.Kind,r1.1,r2.1,b1.Name,b1.Key,b1.Value⟩:GOp),r2.2.2))))
def aHj:Con τ:=cn [.ptr 0 [],.ls 1 [.ptr 1 [.fld 2 3],.ptr 1 [.fld 3 4]]] [.box (.agg [.ptr 2 [],.ty 48]),.box (.ty 30),.box (.ty 186)] (.tup []) [.box (.agg [.ptr 2 [],.ty 48]),.box (.ty 30),.box (.ty 186)] (fun N a b=>aHi N b.1.2.1 b.2.1 b.2.2.1) fun r=>((),(((),r.1,()),r.2.1,r.2.2,()))
theorem aTl:aF E C 148 aHj:=ok0 aHj [(172,eV)] [] 3 [] [(1,4)] ⟨fP,trivial⟩ (fun a b=>(b.1.2.1,b.2.1,b.2.2.1)) Tryz.func148 rfl (by intro N a b; kernel_rfl)
def zB (N:Nat) (b0:aN):Option ((List (Int))×Int×aN) :=
 ((rV N b0).bind fun r1 =>
 (bif r1.1 then
 (some ([],2,r1.2))
 else
 ((vD N r1.2.b).bind fun r2 =>
 (bif (!(r2.2.2==0)) then
 (some ([],r2.2.2,r1.2))
 else
 (bif (decide (r2.1 < 0)) then
 (some ([],11,r1.2))
 else
 (bif (decide ((IntKind.i64.wrap (((r1.2.b).length:Int) - r2.2.1)) < r2.1)) then
 (some ([],10,r1.2))
 else
 (bif (gA r2.2.1 (IntKind.i64.wrap (r2.2.1+r2.1)) ((r1.2.b).length:Int)) then
 ((rS N (cut r1.2.b r2.2.1 (IntKind.i64.wrap (r2.2.1+r2.1)))).bind fun r3 =>
 (bif (gA (IntKind.i64.wrap (r2.2.1+r2.1)) ((r1.2.b).length:Int) ((r1.2.b).length:Int)) then
 (some (r3,0,(⟨r1.2.made,(cut r1.2.b (IntKind.i64.wrap (r2.2.1+r2.1)) ((r1.2.b).length:Int))⟩:aN)))
 else none))
 else none)))))))
def aB9:Con τ:=cn [.ptr 0 []] [.box (.ty 186)] (.tup [.ty 37,.ty 48]) [.box (.ty 186)] (fun N a b=>zB N b.1) fun r=>((r.1,r.2.1,()),(r.2.2,()))
theorem aMu:aF E C 182 aB9:=ok0 aB9 [(123,yZ),(119,yY),(40,uW)] [] 1 [] [] ⟨aGY,⟨aGS,⟨aBR,trivial⟩⟩⟩ (fun a b=>(a.1,a.2.1,b.1)) Tryz.func182 rfl (by intro N a b; kernel_rfl)
def aHk (N:Nat) (b0:aN):Option ((List UInt8)×Int×aN) :=
 ((zB N b0).bind fun r1 =>
 (some ((jD r1.1),r1.2.1,r1.2.2)))
def aHl:Con τ:=cn [.ptr 0 []] [.box (.ty 186)] (.tup [.ty 9,.ty 48]) [.box (.ty 186)] (fun N a b=>aHk N b.1) fun r=>((r.1,r.2.1,()),(r.2.2,()))
theorem aTm:aF E C 185 aHl:=ok0 aHl [(182,aB9)] [] 1 [] [] ⟨aMu,trivial⟩ (fun a b=>(a.1,a.2.1,b.1)) Tryz.func185 rfl (by intro N a b; kernel_rfl)
def vG (N:Nat) (b0:Int) (b1:aN):Option ((List UInt8)×Int×aN) :=
 (bif (!(b0==0)) then
 (some ([],b0,b1))
 else
 ((aHk N b1).bind fun r1 =>
 ((mL N r1.2.1 b0 r1.2.2).bind fun r2 =>
 (some (r1.1,r2.1,r2.2)))))
def aHm:Con τ:=cn [.ptr 0 []] [.box (.agg [.ptr 1 [],.ty 48]),.box (.ty 186)] (.ty 9) [.box (.agg [.ptr 1 [],.ty 48]),.box (.ty 186)] (fun N a b=>vG N b.1.2.1 b.2.1) fun r=>(r.1,(((),r.2.1,()),r.2.2,()))
theorem aTn:aF E C 181 aHm:=ok0 aHm [(185,aHl),(80,vF)] [] 2 [] [] ⟨aTm,⟨aB6,trivial⟩⟩ (fun a b=>(a,b.1.2.1,b.2.1)) Tryz.func181 rfl (by intro N a b; kernel_rfl)
def zC (N:Nat) (b0:Int) (b1:aN):Option (GOp×Int×aN) :=
 ((aHe N b0 (⟨(⟨0,0⟩:aL),0,0,0,[],[],[]⟩:GOp) b1).bind fun r1 =>
 ((aHg N r1.1 r1.2.1 r1.2.2).bind fun r2 =>
 ((aHi N r2.1 r2.2.1 r2.2.2).bind fun r3 =>
 ((vG N r3.1 r3.2.2).bind fun r4 =>
 ((vG N r4.2.1 r4.2.2).bind fun r5 =>
 ((vG N r5.2.1 r5.2.2).bind fun r6 =>
 (some ((⟨r3.2.1.Stamp,r3.2.1.Kind,r3.2.1.Node,r3.2.1.Parent,r4.1,r5.1,r6.1⟩:GOp),r6.2.1,r6.2.2))))))))
def aCa:Con τ:=cn [.ptr 0 []] [.box (.agg [.ptr 1 [],.ty 48]),.box (.ty 186)] (.ty 30) [.box (.agg [.ptr 1 [],.ty 48]),.box (.ty 186)] (fun N a b=>zC N b.1.2.1 b.2.1) fun r=>(r.1,(((),r.2.1,()),r.2.2,()))
theorem aMv:aF E C 174 aCa:=ok0 aCa [(148,aHf),(121,aHh),(148,aHj),(181,aHm)] [] 2 [] [] ⟨aTj,⟨aTk,⟨aTl,⟨aTn,trivial⟩⟩⟩⟩ (fun a b=>(a,b.1.2.1,b.2.1)) Tryz.func174 rfl (by intro N a b; kernel_rfl)
def aHn (N:Nat) (b0:Int) (b1:aC) (b2:aN):Option (Int×aC×aN) :=
 ((eJ N b0 b2).bind fun r1 =>
 (some (r1.2.1,(⟨b1.Kind,b1.Session,b1.Request,b1.Op,r1.1,b1.Seq,b1.Ops,b1.Epoch,b1.From,b1.Vector_,b1.Clock,b1.Part,b1.Site,b1.Sponsor,b1.Length⟩:aC),r1.2.2)))
def aHo:Con τ:=cn [.ptr 0 [],.ls 1 [.ptr 1 [.fld 4 11]]] [.box (.agg [.ptr 2 [],.ty 48]),.box (.ty 41),.box (.ty 186)] (.tup []) [.box (.agg [.ptr 2 [],.ty 48]),.box (.ty 41),.box (.ty 186)] (fun N a b=>aHn N b.1.2.1 b.2.1 b.2.2.1) fun r=>((),(((),r.1,()),r.2.1,r.2.2,()))
theorem aTo:aF E C 121 aHo:=ok0 aHo [(146,iW)] [] 3 [] [(1,3)] ⟨kK,trivial⟩ (fun a b=>(b.1.2.1,b.2.1,b.2.2.1)) Tryz.func121 rfl (by intro N a b; kernel_rfl)
def zD (N:Nat) (b0:Int) (b1:aC) (b2:aN):Option (Int×aC×aN) :=
 ((dV N b0 b2).bind fun r1 =>
 (some (r1.2.1,(⟨b1.Kind,b1.Session,b1.Request,b1.Op,b1.Origin,r1.1,b1.Ops,b1.Epoch,b1.From,b1.Vector_,b1.Clock,b1.Part,b1.Site,b1.Sponsor,b1.Length⟩:aC),r1.2.2)))
def aHp:Con τ:=cn [.ptr 0 [],.ls 1 [.ptr 1 [.fld 5 12]]] [.box (.agg [.ptr 2 [],.ty 48]),.box (.ty 41),.box (.ty 186)] (.tup []) [.box (.agg [.ptr 2 [],.ty 48]),.box (.ty 41),.box (.ty 186)] (fun N a b=>zD N b.1.2.1 b.2.1 b.2.2.1) fun r=>((),(((),r.1,()),r.2.1,r.2.2,()))
theorem aTp:aF E C 148 aHp:=ok0 aHp [(172,eV)] [] 3 [] [(1,3)] ⟨fP,trivial⟩ (fun a b=>(b.1.2.1,b.2.1,b.2.2.1)) Tryz.func148 rfl (by intro N a b; kernel_rfl)
structure vH where
 l:List (GOp)
 t6:Int
 b0:Int
 b1:aN
def aHq:List Sl:=[.k,.k,.j,.sh (.own 30 2),.k,.k,.sh (.ty 2),.j,.j,.j,.j,.j,.j,.j,.j,.j,.j,.j,.j,.k]
def aHr:List ESh:=[.box (.agg [.ptr 1 [],.ty 2]),.box (.ty 165),.tail]
def aTq (a:Sl.Ts τ aHq) (b:ESh.Ts τ aHr):vH:=⟨a.2.2.2.1,a.2.2.2.2.2.2.1,b.1.2.1,b.2.1⟩
def aTr (s:vH):Sl.Ts τ aHq:=((),(),(),s.l,(),(),s.t6,(),(),(),(),(),(),(),(),(),(),(),(),(),())
def aTs (s:vH):ESh.Ts τ aHr:=(((),s.b0,()),s.b1,(),())
def aTt:Lp τ:={ ts:=aHq,hs:=aHr,S:=vH,to:=aTq,ot:=aTr,oh:=aTs,hk:=[2,2],tk:=[2,0,0,0,2],ot_to:=fun _ _=>rfl,oh_to:=fun _ _=>rfl }
def rX (N:Nat) (b0:Int) (b1:aN):Option ((List (GOp))×Int×aN) :=
 ((zA N b0 b1).bind fun r1 =>
 (bE N (fun (s2:vH) next3 =>
 (bif (decide (s2.t6 < r1.1)) then
 (bif (!(s2.b0==0)) then
 (some ([],s2.b0,s2.b1))
 else
 ((zC N s2.b0 s2.b1).bind fun r4 =>
 (bif (aO ((s2.l).length+([r4.1]).length) 88) then
 (next3 ⟨(s2.l++[r4.1]),(IntKind.i64.wrap (s2.t6+1)),r4.2.1,r4.2.2⟩)
 else none)))
 else
 (some (s2.l,s2.b0,s2.b1)))) ⟨[],0,r1.2.1,r1.2.2⟩))
def aCb:Con τ:=cn [.ptr 0 []] [.box (.agg [.ptr 1 [],.ty 48]),.box (.ty 186)] (.ty 31) [.box (.agg [.ptr 1 [],.ty 48]),.box (.ty 186)] (fun N a b=>rX N b.1.2.1 b.2.1) fun r=>(r.1,(((),r.2.1,()),r.2.2,()))
theorem aMw:aF E C 152 aCb:=ok0 aCb [(173,aB8),(174,aCa)] [(3,aTt)] 2 [] [] ⟨aMt,⟨aMv,trivial⟩⟩ (fun a b=>(a,b.1.2.1,b.2.1)) Tryz.func152 rfl (by intro N a b; kernel_rfl)
def aHs (N:Nat) (b0:Int) (b1:aD) (b2:aN):Option (Int×aD×aN) :=
 ((dV N b0 b2).bind fun r1 =>
 (some (r1.2.1,(⟨r1.1,b1.States,b1.Seals,b1.Sponsor⟩:aD),r1.2.2)))
def aHt:Con τ:=cn [.ptr 0 [],.ls 1 [.ptr 1 [.fld 0 0]]] [.box (.agg [.ptr 2 [],.ty 48]),.box (.ty 36),.box (.ty 186)] (.tup []) [.box (.agg [.ptr 2 [],.ty 48]),.box (.ty 36),.box (.ty 186)] (fun N a b=>aHs N b.1.2.1 b.2.1 b.2.2.1) fun r=>((),(((),r.1,()),r.2.1,r.2.2,()))
theorem aTu:aF E C 148 aHt:=ok0 aHt [(172,eV)] [] 3 [] [(1,3)] ⟨fP,trivial⟩ (fun a b=>(b.1.2.1,b.2.1,b.2.2.1)) Tryz.func148 rfl (by intro N a b; kernel_rfl)
end Go.Proofs.YtddpmkmgbdedlaaGreat
