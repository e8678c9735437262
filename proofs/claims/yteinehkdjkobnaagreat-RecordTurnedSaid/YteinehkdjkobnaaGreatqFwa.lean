/-
The functions of this seat,as plain functions over typed data,each with its contract. Printed by wip/tools/fngen.py.
-/
import Derived.Test.YteinehkdjkobnaaGreatqCod
import Derived.Test.YteinehkdjkobnaaGreatqTvX
import Derived.KernelRfl
set_option linter.unusedVariables false
set_option maxRecDepth 100000
namespace Go.Proofs.YteinehkdjkobnaaGreat
open Go Go.Ev
structure z49 where
  t13:Int
def zb5:List Sl:=[.k,.k,.k,.k,.j,.j,.k,.k,.k,.k,.k,.k,.k,.sh (.ty 2),.j,.j,.j,.j,.j,.j,.j,.j,.j,.j,.j,.j]
def zb6:List ESh:=[]
def zph (a:Sl.Ts τ zb5) (b:ESh.Ts τ zb6):z49:=⟨a.2.2.2.2.2.2.2.2.2.2.2.2.2.1⟩
def zpi (s:z49):Sl.Ts τ zb5:=((),(),(),(),(),(),(),(),(),(),(),(),(),s.t13,(),(),(),(),(),(),(),(),(),(),(),(),())
def zpj (s:z49):ESh.Ts τ zb6:=()
def zpk:Lp τ:={ ts:=zb5,hs:=zb6,S:=z49,to:=zph,ot:=zpi,oh:=zpj,hk:=[],tk:=[],ot_to:=fun _ _=>rfl,oh_to:=fun _ _=>rfl }
def z8t (N:Nat) (s1_:List (GOp)) (s2_:List (GOp)):Option (Bool) :=
 (bif (!(((s1_).length:Int)==((s2_).length:Int))) then
 (some false)
 else
 (iter N (fun (s1:z49) next2 =>
 (bif (decide (s1.t13 < ((s1_).length:Int))) then
 (bif (ibB s1.t13 ((s1_).length:Int)) then
 (bif (ibB s1.t13 ((s2_).length:Int)) then
 (bif (!((((((lget s1_ s1.t13 default).Stamp).Time)==(((lget s2_ s1.t13 default).Stamp).Time))&&((((lget s1_ s1.t13 default).Stamp).Site)==(((lget s2_ s1.t13 default).Stamp).Site)))&&((((lget s1_ s1.t13 default).Kind)==((lget s2_ s1.t13 default).Kind))&&((((lget s1_ s1.t13 default).Node)==((lget s2_ s1.t13 default).Node))&&((((lget s1_ s1.t13 default).Parent)==((lget s2_ s1.t13 default).Parent))&&((((lget s1_ s1.t13 default).Name)==((lget s2_ s1.t13 default).Name))&&((((lget s1_ s1.t13 default).Key)==((lget s2_ s1.t13 default).Key))&&(((lget s1_ s1.t13 default).Value)==((lget s2_ s1.t13 default).Value))))))))) then
 (some false)
 else
 (next2 ⟨(IntKind.i64.wrap (s1.t13 + 1))⟩))
 else none)
 else none)
 else
 (some true))) ⟨0⟩))
def z96:Con τ:={ args:=[.ty 60,.ty 60],L:=[],ret:=.ty 4,L':=[],R:=Bool,dflt:=default,F:=fun N a b=>z8t N a.1 a.2.1,of:=fun r=>(r,()) }
noncomputable def zqz:Dat τ:={ D:=D0,tbl:=tblOf [],lp:=lpsOf [(4,zpk)],k0:=0,mu:=[],un:=[] }
theorem zkl:ConOk E C 144 z96 :=
  zg (D:=zqz) ⟨d0Ok,eGood,z9 trivial,fun _=>rfl⟩ z96 (fun a b=>a) none (fun _ _=>rfl) rfl (fun _ _ h=>nomatch h) 1000000 (fn:=Tryz.f144) Tryz.func144 rfl (by kernel_rfl) (by kernel_rfl) rfl (by intro N a b; kernel_rfl)
def z8u (N:Nat) (a:GPart) (b:GPart):Option (Bool) :=
 (some ((((a.Snap==b.Snap)&&(a.Index==b.Index))&&(a.Many==b.Many))&&((strI a.Data)==(strI b.Data))))
def z97:Con τ:={ args:=[.ty 62,.ty 62],L:=[],ret:=.ty 4,L':=[],R:=Bool,dflt:=default,F:=fun N a b=>z8u N a.1 a.2.1,of:=fun r=>(r,()) }
noncomputable def zr0:Dat τ:={ D:=D0,tbl:=tblOf [],lp:=lpsOf [],k0:=0,mu:=[],un:=[] }
theorem zkm:ConOk E C 145 z97 :=
  zg (D:=zr0) ⟨d0Ok,eGood,z9 trivial,fun _=>rfl⟩ z97 (fun a b=>a) none (fun _ _=>rfl) rfl (fun _ _ h=>nomatch h) 1000000 (fn:=Tryz.f145) Tryz.func145 rfl (by kernel_rfl) (by kernel_rfl) rfl (by intro N a b; kernel_rfl)
def zk (N:Nat) (a:z6) (b:z6):Option (Bool) :=
 ((bif ((((((a.Kind==b.Kind)&&(a.Session==b.Session))&&(a.Request==b.Request))&&(((a.Op.Stamp.Time==b.Op.Stamp.Time)&&(a.Op.Stamp.Site==b.Op.Stamp.Site))&&((a.Op.Kind==b.Op.Kind)&&((a.Op.Node==b.Op.Node)&&((a.Op.Parent==b.Op.Parent)&&((a.Op.Name==b.Op.Name)&&((a.Op.Key==b.Op.Key)&&(a.Op.Value==b.Op.Value))))))))&&(a.Origin==b.Origin))&&(a.Seq==b.Seq)) then z8t N a.Ops b.Ops else some default).bind fun r1 =>
 ((bif (((((((((((a.Kind==b.Kind)&&(a.Session==b.Session))&&(a.Request==b.Request))&&(((a.Op.Stamp.Time==b.Op.Stamp.Time)&&(a.Op.Stamp.Site==b.Op.Stamp.Site))&&((a.Op.Kind==b.Op.Kind)&&((a.Op.Node==b.Op.Node)&&((a.Op.Parent==b.Op.Parent)&&((a.Op.Name==b.Op.Name)&&((a.Op.Key==b.Op.Key)&&(a.Op.Value==b.Op.Value))))))))&&(a.Origin==b.Origin))&&(a.Seq==b.Seq))&&r1)&&((a.Epoch.Number==b.Epoch.Number)&&((vbeq beq3 a.Epoch.States b.Epoch.States)&&((vbeq beq2 a.Epoch.Seals b.Epoch.Seals)&&(vbeq beq3 a.Epoch.Sponsor b.Epoch.Sponsor)))))&&(a.From==b.From))&&(vbeq beq2 a.Vector_ b.Vector_))&&(a.Clock==b.Clock)) then z8u N a.Part b.Part else some default).bind fun r2 =>
 (some (((((((((((((((a.Kind==b.Kind)&&(a.Session==b.Session))&&(a.Request==b.Request))&&(((a.Op.Stamp.Time==b.Op.Stamp.Time)&&(a.Op.Stamp.Site==b.Op.Stamp.Site))&&((a.Op.Kind==b.Op.Kind)&&((a.Op.Node==b.Op.Node)&&((a.Op.Parent==b.Op.Parent)&&((a.Op.Name==b.Op.Name)&&((a.Op.Key==b.Op.Key)&&(a.Op.Value==b.Op.Value))))))))&&(a.Origin==b.Origin))&&(a.Seq==b.Seq))&&r1)&&((a.Epoch.Number==b.Epoch.Number)&&((vbeq beq3 a.Epoch.States b.Epoch.States)&&((vbeq beq2 a.Epoch.Seals b.Epoch.Seals)&&(vbeq beq3 a.Epoch.Sponsor b.Epoch.Sponsor)))))&&(a.From==b.From))&&(vbeq beq2 a.Vector_ b.Vector_))&&(a.Clock==b.Clock))&&r2)&&(a.Site==b.Site))&&(a.Sponsor==b.Sponsor))&&(a.Length==b.Length)))))
def z5v:Con τ:={ args:=[.ty 64,.ty 64],L:=[],ret:=.ty 4,L':=[],R:=Bool,dflt:=default,F:=fun N a b=>zk N a.1 a.2.1,of:=fun r=>(r,()) }
noncomputable def zpl:Dat τ:={ D:=D0,tbl:=tblOf [(144,z96),(145,z97)],lp:=lpsOf [],k0:=0,mu:=[],un:=[] }
theorem zcf:ConOk E C 110 z5v :=
  zg (D:=zpl) ⟨d0Ok,eGood,z9 ⟨zkl,⟨zkm,trivial⟩⟩,fun _=>rfl⟩ z5v (fun a b=>a) none (fun _ _=>rfl) rfl (fun _ _ h=>nomatch h) 1000000 (fn:=Tryz.f110) Tryz.func110 rfl (by kernel_rfl) (by kernel_rfl) rfl (by intro N a b; kernel_rfl)
def zw (N:Nat) (ok:Bool):Option (Int) :=
 (bif ok then
 (some 0)
 else
 (some 40))
def z9t:Con τ:={ args:=[.ty 4],L:=[],ret:=.ty 35,L':=[],R:=Int,dflt:=default,F:=fun N a b=>zw N a.1,of:=fun r=>(r,()) }
noncomputable def zsc:Dat τ:={ D:=D0,tbl:=tblOf [],lp:=lpsOf [],k0:=0,mu:=[],un:=[] }
theorem zmg:ConOk E C 89 z9t :=
  zg (D:=zsc) ⟨d0Ok,eGood,z9 trivial,fun _=>rfl⟩ z9t (fun a b=>a) none (fun _ _=>rfl) rfl (fun _ _ h=>nomatch h) 1000000 (fn:=Tryz.f89) Tryz.func89 rfl (by kernel_rfl) (by kernel_rfl) rfl (by intro N a b; kernel_rfl)
structure z83 where
  t7:Int
def zed:List Sl:=[.k,.k,.j,.k,.j,.k,.k,.sh (.ty 2),.j,.j,.j,.j,.j,.j,.j,.j,.j,.j]
def zee:List ESh:=[]
def ztv (a:Sl.Ts τ zed) (b:ESh.Ts τ zee):z83:=⟨a.2.2.2.2.2.2.2.1⟩
def ztw (s:z83):Sl.Ts τ zed:=((),(),(),(),(),(),(),s.t7,(),(),(),(),(),(),(),(),(),(),())
def ztx (s:z83):ESh.Ts τ zee:=()
def zty:Lp τ:={ ts:=zed,hs:=zee,S:=z83,to:=ztv,ot:=ztw,oh:=ztx,hk:=[],tk:=[],ot_to:=fun _ _=>rfl,oh_to:=fun _ _=>rfl }
def z12 (N:Nat) (l:List (Int)):Option (Bool) :=
 (iter N (fun (s1:z83) next2 =>
 (bif (decide (s1.t7 < ((l).length:Int))) then
 (bif (ibB s1.t7 ((l).length:Int)) then
 (bif ((decide ((lget l s1.t7 default) < 0)) || (decide (1099511627776 < (lget l s1.t7 default)))) then
 (some false)
 else
 (next2 ⟨(IntKind.i64.wrap (s1.t7 + 1))⟩))
 else none)
 else
 (some true))) ⟨0⟩)
def z3b:Con τ:={ args:=[.ty 143],L:=[],ret:=.ty 4,L':=[],R:=Bool,dflt:=default,F:=fun N a b=>z12 N a.1,of:=fun r=>(r,()) }
noncomputable def zv2:Dat τ:={ D:=D0,tbl:=tblOf [],lp:=lpsOf [(2,zty)],k0:=0,mu:=[],un:=[] }
theorem z7q:ConOk E C 106 z3b :=
  zg (D:=zv2) ⟨d0Ok,eGood,z9 trivial,fun _=>rfl⟩ z3b (fun a b=>a) none (fun _ _=>rfl) rfl (fun _ _ h=>nomatch h) 1000000 (fn:=Tryz.f106) Tryz.func106 rfl (by kernel_rfl) (by kernel_rfl) rfl (by intro N a b; kernel_rfl)
structure z8x where
  t7:Int
def zg0:List Sl:=[.k,.k,.j,.k,.j,.k,.k,.sh (.ty 2),.j,.j,.j,.j,.j,.j,.j,.j,.j,.j]
def zg1:List ESh:=[]
def zv3 (a:Sl.Ts τ zg0) (b:ESh.Ts τ zg1):z8x:=⟨a.2.2.2.2.2.2.2.1⟩
def zv4 (s:z8x):Sl.Ts τ zg0:=((),(),(),(),(),(),(),s.t7,(),(),(),(),(),(),(),(),(),(),())
def zv5 (s:z8x):ESh.Ts τ zg1:=()
def zv6:Lp τ:={ ts:=zg0,hs:=zg1,S:=z8x,to:=zv3,ot:=zv4,oh:=zv5,hk:=[],tk:=[],ot_to:=fun _ _=>rfl,oh_to:=fun _ _=>rfl }
def z1n (N:Nat) (l:List (Int)):Option (Bool) :=
 (iter N (fun (s1:z8x) next2 =>
 (bif (decide (s1.t7 < ((l).length:Int))) then
 (bif (ibB s1.t7 ((l).length:Int)) then
 (bif ((decide ((lget l s1.t7 default) < 0)) || (decide (8≤(lget l s1.t7 default)))) then
 (some false)
 else
 (next2 ⟨(IntKind.i64.wrap (s1.t7 + 1))⟩))
 else none)
 else
 (some true))) ⟨0⟩)
def zao:Con τ:={ args:=[.ty 145],L:=[],ret:=.ty 4,L':=[],R:=Bool,dflt:=default,F:=fun N a b=>z1n N a.1,of:=fun r=>(r,()) }
noncomputable def zx7:Dat τ:={ D:=D0,tbl:=tblOf [],lp:=lpsOf [(2,zv6)],k0:=0,mu:=[],un:=[] }
theorem zlj:ConOk E C 107 zao :=
  zg (D:=zx7) ⟨d0Ok,eGood,z9 trivial,fun _=>rfl⟩ zao (fun a b=>a) none (fun _ _=>rfl) rfl (fun _ _ h=>nomatch h) 1000000 (fn:=Tryz.f107) Tryz.func107 rfl (by kernel_rfl) (by kernel_rfl) rfl (by intro N a b; kernel_rfl)
structure zap where
  t7:Int
def zg2:List Sl:=[.k,.k,.j,.k,.j,.k,.k,.sh (.ty 2),.j,.j,.j,.j,.j,.j,.j,.j,.j,.j]
def zg3:List ESh:=[]
def zv7 (a:Sl.Ts τ zg2) (b:ESh.Ts τ zg3):zap:=⟨a.2.2.2.2.2.2.2.1⟩
def zv8 (s:zap):Sl.Ts τ zg2:=((),(),(),(),(),(),(),s.t7,(),(),(),(),(),(),(),(),(),(),())
def zv9 (s:zap):ESh.Ts τ zg3:=()
def zva:Lp τ:={ ts:=zg2,hs:=zg3,S:=zap,to:=zv7,ot:=zv8,oh:=zv9,hk:=[],tk:=[],ot_to:=fun _ _=>rfl,oh_to:=fun _ _=>rfl }
def zhx (N:Nat) (l:List (Int)):Option (Bool) :=
 (iter N (fun (s1:zap) next2 =>
 (bif (decide (s1.t7 < ((l).length:Int))) then
 (bif (ibB s1.t7 ((l).length:Int)) then
 (bif ((decide ((lget l s1.t7 default) < 0)) || (decide (1125899906842624 < (lget l s1.t7 default)))) then
 (some false)
 else
 (next2 ⟨(IntKind.i64.wrap (s1.t7 + 1))⟩))
 else none)
 else
 (some true))) ⟨0⟩)
def zjh:Con τ:={ args:=[.ty 143],L:=[],ret:=.ty 4,L':=[],R:=Bool,dflt:=default,F:=fun N a b=>zhx N a.1,of:=fun r=>(r,()) }
noncomputable def zx8:Dat τ:={ D:=D0,tbl:=tblOf [],lp:=lpsOf [(2,zva)],k0:=0,mu:=[],un:=[] }
theorem zyt:ConOk E C 135 zjh :=
  zg (D:=zx8) ⟨d0Ok,eGood,z9 trivial,fun _=>rfl⟩ zjh (fun a b=>a) none (fun _ _=>rfl) rfl (fun _ _ h=>nomatch h) 1000000 (fn:=Tryz.f135) Tryz.func135 rfl (by kernel_rfl) (by kernel_rfl) rfl (by intro N a b; kernel_rfl)
structure zaq where
  t7:Int
def zg4:List Sl:=[.k,.k,.j,.k,.j,.k,.k,.sh (.ty 2),.j,.j,.j,.j,.j,.j,.j]
def zg5:List ESh:=[]
def zvb (a:Sl.Ts τ zg4) (b:ESh.Ts τ zg5):zaq:=⟨a.2.2.2.2.2.2.2.1⟩
def zvc (s:zaq):Sl.Ts τ zg4:=((),(),(),(),(),(),(),s.t7,(),(),(),(),(),(),(),())
def zvd (s:zaq):ESh.Ts τ zg5:=()
def zve:Lp τ:={ ts:=zg4,hs:=zg5,S:=zaq,to:=zvb,ot:=zvc,oh:=zvd,hk:=[],tk:=[],ot_to:=fun _ _=>rfl,oh_to:=fun _ _=>rfl }
def zhy (N:Nat) (l:List (List UInt8)):Option (Bool) :=
 (iter N (fun (s1:zaq) next2 =>
 (bif (decide (s1.t7 < ((l).length:Int))) then
 (bif (ibB s1.t7 ((l).length:Int)) then
 (bif (decide (255 < (((lget l s1.t7 default)).length:Int))) then
 (some false)
 else
 (next2 ⟨(IntKind.i64.wrap (s1.t7 + 1))⟩))
 else none)
 else
 (some true))) ⟨0⟩)
def zji:Con τ:={ args:=[.ty 181],L:=[],ret:=.ty 4,L':=[],R:=Bool,dflt:=default,F:=fun N a b=>zhy N a.1,of:=fun r=>(r,()) }
noncomputable def zx9:Dat τ:={ D:=D0,tbl:=tblOf [],lp:=lpsOf [(2,zve)],k0:=0,mu:=[],un:=[] }
theorem zyu:ConOk E C 136 zji :=
  zg (D:=zx9) ⟨d0Ok,eGood,z9 trivial,fun _=>rfl⟩ zji (fun a b=>a) none (fun _ _=>rfl) rfl (fun _ _ h=>nomatch h) 1000000 (fn:=Tryz.f136) Tryz.func136 rfl (by kernel_rfl) (by kernel_rfl) rfl (by intro N a b; kernel_rfl)
def z9u (N:Nat) (op:GOp):Option (Bool) :=
 ((z12 N [op.Stamp.Time]).bind fun r1 =>
 ((bif r1 then z1n N [op.Stamp.Site] else some default).bind fun r2 =>
 ((bif (((r1&&r2)&&(decide (1≤op.Kind)))&&(decide (op.Kind≤3))) then zhx N [op.Node,op.Parent] else some default).bind fun r3 =>
 ((bif ((((r1&&r2)&&(decide (1≤op.Kind)))&&(decide (op.Kind≤3)))&&r3) then zhy N [op.Name,op.Key,op.Value] else some default).bind fun r4 =>
 (some (((((r1&&r2)&&(decide (1≤op.Kind)))&&(decide (op.Kind≤3)))&&r3)&&r4))))))
def zcg:Con τ:={ args:=[.ty 25],L:=[],ret:=.ty 4,L':=[],R:=Bool,dflt:=default,F:=fun N a b=>z9u N a.1,of:=fun r=>(r,()) }
noncomputable def zvf:Dat τ:={ D:=D0,tbl:=tblOf [(106,z3b),(107,zao),(135,zjh),(136,zji)],lp:=lpsOf [],k0:=0,mu:=[],un:=[] }
theorem zow:ConOk E C 90 zcg :=
  zg (D:=zvf) ⟨d0Ok,eGood,z9 ⟨z7q,⟨zlj,⟨zyt,⟨zyu,trivial⟩⟩⟩⟩,fun _=>rfl⟩ zcg (fun a b=>a) none (fun _ _=>rfl) rfl (fun _ _ h=>nomatch h) 1000000 (fn:=Tryz.f90) Tryz.func90 rfl (by kernel_rfl) (by kernel_rfl) rfl (by intro N a b; kernel_rfl)
def zav (N:Nat) (op:GOp):Option (Bool) :=
 ((z9u N op).bind fun r1 =>
 (some (!r1)))
def zch:Con τ:={ args:=[.ty 25],L:=[],ret:=.ty 4,L':=[],R:=Bool,dflt:=default,F:=fun N a b=>zav N a.1,of:=fun r=>(r,()) }
noncomputable def zr1:Dat τ:={ D:=D0,tbl:=tblOf [(90,zcg)],lp:=lpsOf [],k0:=0,mu:=[],un:=[] }
theorem zsd:ConOk E C 143 zch :=
  zg (D:=zr1) ⟨d0Ok,eGood,z9 ⟨zow,trivial⟩,fun _=>rfl⟩ zch (fun a b=>a) none (fun _ _=>rfl) rfl (fun _ _ h=>nomatch h) 1000000 (fn:=Tryz.f143) Tryz.func143 rfl (by kernel_rfl) (by kernel_rfl) rfl (by intro N a b; kernel_rfl)
structure z20 where
  t8:Int
def z5w:List Sl:=[.k,.k,.k,.k,.j,.j,.k,.k,.sh (.ty 2),.j,.j,.j,.j,.j,.j,.j,.j,.j,.j]
def z5x:List ESh:=[]
def zg6 (a:Sl.Ts τ z5w) (b:ESh.Ts τ z5x):z20:=⟨a.2.2.2.2.2.2.2.2.1⟩
def zg7 (s:z20):Sl.Ts τ z5w:=((),(),(),(),(),(),(),(),s.t8,(),(),(),(),(),(),(),(),(),(),())
def zg8 (s:z20):ESh.Ts τ z5x:=()
def zg9:Lp τ:={ ts:=z5w,hs:=z5x,S:=z20,to:=zg6,ot:=zg7,oh:=zg8,hk:=[],tk:=[],ot_to:=fun _ _=>rfl,oh_to:=fun _ _=>rfl }
def z4a (N:Nat) (s:List (GOp)):Option (Int) :=
 (iter N (fun (s1:z20) next2 =>
 (bif (decide (s1.t8 < ((s).length:Int))) then
 (bif (ibB s1.t8 ((s).length:Int)) then
 ((zav N (⟨((lget s s1.t8 default).Stamp),(lget s s1.t8 default).Kind,(lget s s1.t8 default).Node,(lget s s1.t8 default).Parent,(lget s s1.t8 default).Name,(lget s s1.t8 default).Key,(lget s s1.t8 default).Value⟩:GOp)).bind fun r3 =>
 (bif r3 then
 (some s1.t8)
 else
 (next2 ⟨(IntKind.i64.wrap (s1.t8 + 1))⟩)))
 else none)
 else
 (some (-1)))) ⟨0⟩)
def z6i:Con τ:={ args:=[.ty 60,.fn 143 []],L:=[],ret:=.ty 3,L':=[],R:=Int,dflt:=default,F:=fun N a b=>z4a N a.1,of:=fun r=>(r,()) }
noncomputable def zhg:Dat τ:={ D:=D0,tbl:=tblOf [(143,zch)],lp:=lpsOf [(2,zg9)],k0:=0,mu:=[],un:=[] }
theorem zjj:ConOk E C 158 z6i :=
  zg (D:=zhg) ⟨d0Ok,eGood,z9 ⟨zsd,trivial⟩,fun _=>rfl⟩ z6i (fun a b=>a) none (fun _ _=>rfl) rfl (fun _ _ h=>nomatch h) 1000000 (fn:=Tryz.f158) Tryz.func158 rfl (by kernel_rfl) (by kernel_rfl) rfl (by intro N a b; kernel_rfl)
def z3c (N:Nat) (s:List (GOp)):Option (Bool) :=
 ((z4a N s).bind fun r1 =>
 (some (decide (0≤r1))))
def z4i:Con τ:={ args:=[.ty 60,.fn 143 []],L:=[],ret:=.ty 4,L':=[],R:=Bool,dflt:=default,F:=fun N a b=>z3c N a.1,of:=fun r=>(r,()) }
noncomputable def zef:Dat τ:={ D:=D0,tbl:=tblOf [(158,z6i)],lp:=lpsOf [],k0:=0,mu:=[],un:=[] }
theorem zf2:ConOk E C 142 z4i :=
  zg (D:=zef) ⟨d0Ok,eGood,z9 ⟨zjj,trivial⟩,fun _=>rfl⟩ z4i (fun a b=>a) none (fun _ _=>rfl) rfl (fun _ _ h=>nomatch h) 1000000 (fn:=Tryz.f142) Tryz.func142 rfl (by kernel_rfl) (by kernel_rfl) rfl (by intro N a b; kernel_rfl)
def z42 (N:Nat) (l:List (GOp)) (least:Int):Option (Bool) :=
 ((bif ((decide (least≤((l).length:Int)))&&(decide (((l).length:Int)≤4096))) then z3c N l else some default).bind fun r1 =>
 (some (((decide (least≤((l).length:Int)))&&(decide (((l).length:Int)≤4096)))&&(!r1))))
def zaw:Con τ:={ args:=[.ty 60,.ty 3],L:=[],ret:=.ty 4,L':=[],R:=Bool,dflt:=default,F:=fun N a b=>z42 N a.1 a.2.1,of:=fun r=>(r,()) }
noncomputable def ztz:Dat τ:={ D:=D0,tbl:=tblOf [(142,z4i)],lp:=lpsOf [],k0:=0,mu:=[],un:=[] }
theorem zni:ConOk E C 108 zaw :=
  zg (D:=ztz) ⟨d0Ok,eGood,z9 ⟨zf2,trivial⟩,fun _=>rfl⟩ zaw (fun a b=>a) none (fun _ _=>rfl) rfl (fun _ _ h=>nomatch h) 1000000 (fn:=Tryz.f108) Tryz.func108 rfl (by kernel_rfl) (by kernel_rfl) rfl (by intro N a b; kernel_rfl)
structure z4b where
  ok:Bool
  t14:Int
def zb7:List Sl:=[.k,.k,.k,.sh (.ty 4),.j,.k,.k,.k,.k,.k,.j,.k,.j,.k,.sh (.ty 2),.j,.j,.j,.j,.j,.j,.j,.j,.j,.j,.j,.j,.j,.j,.j,.j,.j,.j,.j,.j,.j,.j,.j,.j,.j,.j,.j,.j,.j,.j,.j,.j,.k]
def zb8:List ESh:=[.keep]
def zpm (a:Sl.Ts τ zb7) (b:ESh.Ts τ zb8):z4b:=⟨a.2.2.2.1,a.2.2.2.2.2.2.2.2.2.2.2.2.2.2.1⟩
def zpn (s:z4b):Sl.Ts τ zb7:=((),(),(),s.ok,(),(),(),(),(),(),(),(),(),(),s.t14,(),(),(),(),(),(),(),(),(),(),(),(),(),(),(),(),(),(),(),(),(),(),(),(),(),(),(),(),(),(),(),(),(),())
def zpo (s:z4b):ESh.Ts τ zb8:=((),())
def zpp:Lp τ:={ ts:=zb7,hs:=zb8,S:=z4b,to:=zpm,ot:=zpn,oh:=zpo,hk:=[3],tk:=[0,2,0,0,0,2],ot_to:=fun _ _=>rfl,oh_to:=fun _ _=>rfl }
structure z3w where
  ok:Bool
  t14:Int
def za9:List Sl:=[.k,.k,.k,.sh (.ty 4),.j,.k,.k,.k,.k,.k,.j,.k,.k,.k,.sh (.ty 2),.j,.j,.j,.j,.j,.j,.j,.j,.j,.j,.j,.j,.j,.j,.j,.j,.j,.j,.j,.j,.j,.j,.j,.j,.j,.j,.j,.j,.j,.j,.j,.j,.k]
def zaa:List ESh:=[.keep]
def zoi (a:Sl.Ts τ za9) (b:ESh.Ts τ zaa):z3w:=⟨a.2.2.2.1,a.2.2.2.2.2.2.2.2.2.2.2.2.2.2.1⟩
def zoj (s:z3w):Sl.Ts τ za9:=((),(),(),s.ok,(),(),(),(),(),(),(),(),(),(),s.t14,(),(),(),(),(),(),(),(),(),(),(),(),(),(),(),(),(),(),(),(),(),(),(),(),(),(),(),(),(),(),(),(),(),())
def zok (s:z3w):ESh.Ts τ zaa:=((),())
def zol:Lp τ:={ ts:=za9,hs:=zaa,S:=z3w,to:=zoi,ot:=zoj,oh:=zok,hk:=[2],tk:=[0,2,0,0,0,2],ot_to:=fun _ _=>rfl,oh_to:=fun _ _=>rfl }
def z2u (N:Nat) (e:z7):Option (Bool) :=
 ((z12 N [e.Number]).bind fun r1 =>
 (bif r1 then
 ((bif r1 then z12 N (e.Seals.toList) else some default).bind fun r2 =>
 (iter N (fun (s3:z4b) next4 =>
 (bif (decide (s3.t14 < 8)) then
 (bif (!s3.ok || (ibB s3.t14 8)) then
 (bif (!(s3.ok&&(decide (0≤(vget e.States ((s3.t14).toNat) default)))) || (ibB s3.t14 8)) then
 (bif (!((s3.ok&&(decide (0≤(vget e.States ((s3.t14).toNat) default))))&&(decide ((vget e.States ((s3.t14).toNat) default)≤3))) || (ibB s3.t14 8)) then
 (bif (!(((s3.ok&&(decide (0≤(vget e.States ((s3.t14).toNat) default))))&&(decide ((vget e.States ((s3.t14).toNat) default)≤3)))&&(decide ((-1)≤(vget e.Sponsor ((s3.t14).toNat) default)))) || (ibB s3.t14 8)) then
 (next4 ⟨((((s3.ok&&(decide (0≤(vget e.States ((s3.t14).toNat) default))))&&(decide ((vget e.States ((s3.t14).toNat) default)≤3)))&&(decide ((-1)≤(vget e.Sponsor ((s3.t14).toNat) default))))&&(decide ((vget e.Sponsor ((s3.t14).toNat) default) < 8))),(IntKind.i64.wrap (s3.t14 + 1))⟩)
 else none)
 else none)
 else none)
 else none)
 else
 (some s3.ok))) ⟨(r1&&r2),0⟩))
 else
 (iter N (fun (s5:z3w) next6 =>
 (bif (decide (s5.t14 < 8)) then
 (bif (!s5.ok || (ibB s5.t14 8)) then
 (bif (!(s5.ok&&(decide (0≤(vget e.States ((s5.t14).toNat) default)))) || (ibB s5.t14 8)) then
 (bif (!((s5.ok&&(decide (0≤(vget e.States ((s5.t14).toNat) default))))&&(decide ((vget e.States ((s5.t14).toNat) default)≤3))) || (ibB s5.t14 8)) then
 (bif (!(((s5.ok&&(decide (0≤(vget e.States ((s5.t14).toNat) default))))&&(decide ((vget e.States ((s5.t14).toNat) default)≤3)))&&(decide ((-1)≤(vget e.Sponsor ((s5.t14).toNat) default)))) || (ibB s5.t14 8)) then
 (next6 ⟨((((s5.ok&&(decide (0≤(vget e.States ((s5.t14).toNat) default))))&&(decide ((vget e.States ((s5.t14).toNat) default)≤3)))&&(decide ((-1)≤(vget e.Sponsor ((s5.t14).toNat) default))))&&(decide ((vget e.Sponsor ((s5.t14).toNat) default) < 8))),(IntKind.i64.wrap (s5.t14 + 1))⟩)
 else none)
 else none)
 else none)
 else none)
 else
 (some s5.ok))) ⟨false,0⟩)))
def z98:Con τ:={ args:=[.ty 30],L:=[],ret:=.ty 4,L':=[],R:=Bool,dflt:=default,F:=fun N a b=>z2u N a.1,of:=fun r=>(r,()) }
noncomputable def zr2:Dat τ:={ D:=D0,tbl:=tblOf [(106,z3b)],lp:=lpsOf [(3,zpp),(3,zol)],k0:=0,mu:=[],un:=[] }
theorem zkn:ConOk E C 97 z98 :=
  zg (D:=zr2) ⟨d0Ok,eGood,z9 ⟨z7q,trivial⟩,fun _=>rfl⟩ z98 (fun a b=>a) none (fun _ _=>rfl) rfl (fun _ _ h=>nomatch h) 1000000 (fn:=Tryz.f97) Tryz.func97 rfl (by kernel_rfl) (by kernel_rfl) rfl (by intro N a b; kernel_rfl)
def z1v (N:Nat) (p:GPart):Option (Bool) :=
 ((z12 N [p.Snap]).bind fun r1 =>
 (some (((((r1&&(decide (1≤p.Many)))&&(decide (p.Many≤4096)))&&(decide (0≤p.Index)))&&(decide (p.Index < p.Many)))&&(decide (((p.Data).length:Int)≤16384)))))
def z9v:Con τ:={ args:=[.ty 62],L:=[],ret:=.ty 4,L':=[],R:=Bool,dflt:=default,F:=fun N a b=>z1v N a.1,of:=fun r=>(r,()) }
noncomputable def zse:Dat τ:={ D:=D0,tbl:=tblOf [(106,z3b)],lp:=lpsOf [],k0:=0,mu:=[],un:=[] }
theorem zmh:ConOk E C 109 z9v :=
  zg (D:=zse) ⟨d0Ok,eGood,z9 ⟨z7q,trivial⟩,fun _=>rfl⟩ z9v (fun a b=>a) none (fun _ _=>rfl) rfl (fun _ _ h=>nomatch h) 1000000 (fn:=Tryz.f109) Tryz.func109 rfl (by kernel_rfl) (by kernel_rfl) rfl (by intro N a b; kernel_rfl)
def zy (N:Nat) (e:z6):Option (Int) :=
 (bif (e.Kind==0) then
 ((zk N (⟨e.Kind,0,0,(⟨(⟨0,0⟩:zj),0,0,0,[],[],[]⟩:GOp),0,0,[],(⟨0,(Vector.replicate 8 (default:Int)),(Vector.replicate 8 (default:Int)),(Vector.replicate 8 (default:Int))⟩:z7),0,(Vector.replicate 8 (default:Int)),0,(⟨0,0,0,[]⟩:GPart),0,0,0⟩:z6) e).bind fun r1 =>
 ((zw N r1).bind fun r2 =>
 (some r2)))
 else
 (bif (e.Kind==1) then
 ((z12 N [e.Session,e.Request]).bind fun r3 =>
 ((bif ((r3&&(decide (0 < e.Session)))&&(decide (0 < e.Request))) then z9u N e.Op else some default).bind fun r4 =>
 ((bif (((r3&&(decide (0 < e.Session)))&&(decide (0 < e.Request)))&&r4) then zk N (⟨e.Kind,e.Session,e.Request,e.Op,0,0,[],(⟨0,(Vector.replicate 8 (default:Int)),(Vector.replicate 8 (default:Int)),(Vector.replicate 8 (default:Int))⟩:z7),0,(Vector.replicate 8 (default:Int)),0,(⟨0,0,0,[]⟩:GPart),0,0,0⟩:z6) e else some default).bind fun r5 =>
 ((zw N ((((r3&&(decide (0 < e.Session)))&&(decide (0 < e.Request)))&&r4)&&r5)).bind fun r6 =>
 (some r6)))))
 else
 (bif (e.Kind==2) then
 ((z1n N [e.Origin]).bind fun r7 =>
 ((bif r7 then z12 N [e.Seq] else some default).bind fun r8 =>
 ((bif (r7&&r8) then z42 N e.Ops 1 else some default).bind fun r9 =>
 ((bif ((r7&&r8)&&r9) then zk N (⟨e.Kind,0,0,(⟨(⟨0,0⟩:zj),0,0,0,[],[],[]⟩:GOp),e.Origin,e.Seq,e.Ops,(⟨0,(Vector.replicate 8 (default:Int)),(Vector.replicate 8 (default:Int)),(Vector.replicate 8 (default:Int))⟩:z7),0,(Vector.replicate 8 (default:Int)),0,(⟨0,0,0,[]⟩:GPart),0,0,0⟩:z6) e else some default).bind fun r10 =>
 ((zw N (((r7&&r8)&&r9)&&r10)).bind fun r11 =>
 (some r11))))))
 else
 (bif (e.Kind==3) then
 ((z2u N e.Epoch).bind fun r12 =>
 ((bif r12 then zk N (⟨e.Kind,0,0,(⟨(⟨0,0⟩:zj),0,0,0,[],[],[]⟩:GOp),0,0,[],e.Epoch,0,(Vector.replicate 8 (default:Int)),0,(⟨0,0,0,[]⟩:GPart),0,0,0⟩:z6) e else some default).bind fun r13 =>
 ((zw N (r12&&r13)).bind fun r14 =>
 (some r14))))
 else
 (bif (e.Kind==4) then
 ((z12 N [e.Seq,e.Clock]).bind fun r15 =>
 ((bif r15 then z1n N [e.From] else some default).bind fun r16 =>
 (bif (r15&&r16) then
 ((bif (r15&&r16) then z12 N (e.Vector_.toList) else some default).bind fun r17 =>
 ((bif ((r15&&r16)&&r17) then zk N (⟨e.Kind,0,0,(⟨(⟨0,0⟩:zj),0,0,0,[],[],[]⟩:GOp),0,e.Seq,[],(⟨0,(Vector.replicate 8 (default:Int)),(Vector.replicate 8 (default:Int)),(Vector.replicate 8 (default:Int))⟩:z7),e.From,e.Vector_,e.Clock,(⟨0,0,0,[]⟩:GPart),0,0,0⟩:z6) e else some default).bind fun r18 =>
 ((zw N (((r15&&r16)&&r17)&&r18)).bind fun r19 =>
 (some r19))))
 else
 ((bif false then zk N (⟨e.Kind,0,0,(⟨(⟨0,0⟩:zj),0,0,0,[],[],[]⟩:GOp),0,e.Seq,[],(⟨0,(Vector.replicate 8 (default:Int)),(Vector.replicate 8 (default:Int)),(Vector.replicate 8 (default:Int))⟩:z7),e.From,e.Vector_,e.Clock,(⟨0,0,0,[]⟩:GPart),0,0,0⟩:z6) e else some default).bind fun r20 =>
 ((zw N false).bind fun r21 =>
 (some r21))))))
 else
 (bif (e.Kind==5) then
 ((z1v N e.Part).bind fun r22 =>
 ((bif r22 then zk N (⟨e.Kind,0,0,(⟨(⟨0,0⟩:zj),0,0,0,[],[],[]⟩:GOp),0,0,[],(⟨0,(Vector.replicate 8 (default:Int)),(Vector.replicate 8 (default:Int)),(Vector.replicate 8 (default:Int))⟩:z7),0,(Vector.replicate 8 (default:Int)),0,e.Part,0,0,0⟩:z6) e else some default).bind fun r23 =>
 ((zw N (r22&&r23)).bind fun r24 =>
 (some r24))))
 else
 (bif (e.Kind==6) then
 ((z1n N [e.Site,e.Sponsor]).bind fun r25 =>
 ((bif r25 then zk N (⟨e.Kind,0,0,(⟨(⟨0,0⟩:zj),0,0,0,[],[],[]⟩:GOp),0,0,[],(⟨0,(Vector.replicate 8 (default:Int)),(Vector.replicate 8 (default:Int)),(Vector.replicate 8 (default:Int))⟩:z7),0,(Vector.replicate 8 (default:Int)),0,(⟨0,0,0,[]⟩:GPart),e.Site,e.Sponsor,0⟩:z6) e else some default).bind fun r26 =>
 ((zw N (r25&&r26)).bind fun r27 =>
 (some r27))))
 else
 (bif (e.Kind==7) then
 ((z1n N [e.Site]).bind fun r28 =>
 ((bif r28 then zk N (⟨e.Kind,0,0,(⟨(⟨0,0⟩:zj),0,0,0,[],[],[]⟩:GOp),0,0,[],(⟨0,(Vector.replicate 8 (default:Int)),(Vector.replicate 8 (default:Int)),(Vector.replicate 8 (default:Int))⟩:z7),0,(Vector.replicate 8 (default:Int)),0,(⟨0,0,0,[]⟩:GPart),e.Site,0,0⟩:z6) e else some default).bind fun r29 =>
 ((zw N (r28&&r29)).bind fun r30 =>
 (some r30))))
 else
 (bif (e.Kind==8) then
 ((z1n N [e.Site]).bind fun r31 =>
 ((bif r31 then z12 N [e.Length] else some default).bind fun r32 =>
 ((bif (r31&&r32) then zk N (⟨e.Kind,0,0,(⟨(⟨0,0⟩:zj),0,0,0,[],[],[]⟩:GOp),0,0,[],(⟨0,(Vector.replicate 8 (default:Int)),(Vector.replicate 8 (default:Int)),(Vector.replicate 8 (default:Int))⟩:z7),0,(Vector.replicate 8 (default:Int)),0,(⟨0,0,0,[]⟩:GPart),e.Site,0,e.Length⟩:z6) e else some default).bind fun r33 =>
 ((zw N ((r31&&r32)&&r33)).bind fun r34 =>
 (some r34)))))
 else
 ((bif false then zk N (⟨e.Kind,0,0,(⟨(⟨0,0⟩:zj),0,0,0,[],[],[]⟩:GOp),0,0,[],(⟨0,(Vector.replicate 8 (default:Int)),(Vector.replicate 8 (default:Int)),(Vector.replicate 8 (default:Int))⟩:z7),0,(Vector.replicate 8 (default:Int)),0,(⟨0,0,0,[]⟩:GPart),0,0,0⟩:z6) e else some default).bind fun r35 =>
 ((zw N false).bind fun r36 =>
 (some r36))))))))))))
def z3j:Con τ:={ args:=[.ty 64],L:=[],ret:=.ty 35,L':=[],R:=Int,dflt:=default,F:=fun N a b=>zy N a.1,of:=fun r=>(r,()) }
noncomputable def zom:Dat τ:={ D:=D0,tbl:=tblOf [(110,z5v),(89,z9t),(106,z3b),(90,zcg),(107,zao),(108,zaw),(97,z98),(109,z9v)],lp:=lpsOf [],k0:=0,mu:=[],un:=[] }
theorem z8k:ConOk E C 64 z3j :=
  zg (D:=zom) ⟨d0Ok,eGood,z9 ⟨zcf,⟨zmg,⟨z7q,⟨zow,⟨zlj,⟨zni,⟨zkn,⟨zmh,trivial⟩⟩⟩⟩⟩⟩⟩⟩,fun _=>rfl⟩ z3j (fun a b=>a) none (fun _ _=>rfl) rfl (fun _ _ h=>nomatch h) 1000000 (fn:=Tryz.f64) Tryz.func64 rfl (by kernel_rfl) (by kernel_rfl) rfl (by intro N a b; kernel_rfl)
def zci (N:Nat)  : Option (Bool×(List (Int))) :=
 (some (true,[]))
def z9w:Con τ:={ args:=[],L:=[],ret:=.ptr 0 [],L':=[.box (.agg [.ty 4,.own 5 1]),.tail],R:=Bool×(List (Int)),dflt:=(default,default),F:=fun N a b=>zci N ,of:=fun r=>((),((r.1,r.2,()),(),())) }
noncomputable def zsf:Dat τ:={ D:=D0,tbl:=tblOf [],lp:=lpsOf [],k0:=0,mu:=[],un:=[] }
theorem zmi:ConOk E C 7 z9w :=
  zg (D:=zsf) ⟨d0Ok,eGood,z9 trivial,fun _=>rfl⟩ z9w (fun a b=>(b.1.1,b.1.2.1)) none (fun _ _=>rfl) rfl (fun _ _ h=>nomatch h) 1000000 (fn:=Tryz.f7) Tryz.func7 rfl (by kernel_rfl) (by kernel_rfl) rfl (by intro N a b; kernel_rfl)
structure z54 where
  u:Int
  b:List (Int)
def zga:List Sl:=[.k,.k,.k,.sh (.ty 12),.sh (.own 5 0),.k,.k,.k,.k,.k,.k,.k,.j,.j,.j,.j,.j,.j,.j,.j,.j,.j,.k,.k,.k,.k,.k]
def zgb:List ESh:=[.tail]
def zvg (a:Sl.Ts τ zga) (b:ESh.Ts τ zgb):z54:=⟨a.2.2.2.1,a.2.2.2.2.1⟩
def zvh (s:z54):Sl.Ts τ zga:=((),(),(),s.u,s.b,(),(),(),(),(),(),(),(),(),(),(),(),(),(),(),(),(),(),(),(),(),(),())
def zvi (s:z54):ESh.Ts τ zgb:=((),())
def zvj:Lp τ:={ ts:=zga,hs:=zgb,S:=z54,to:=zvg,ot:=zvh,oh:=zvi,hk:=[],tk:=[],ot_to:=fun _ _=>rfl,oh_to:=fun _ _=>rfl }
def zbj (N:Nat) (n:Int):Option ((List (Int))) :=
 (bif (decide (n < 0)) then
 (iter N (fun (s1:z54) next2 =>
 (bif (decide (128≤s1.u)) then
 (bif (lenB ((s1.b).length + ([(bits .or .u8 (IntKind.u8.wrap s1.u) 128)]).length) 1) then
 (next2 ⟨(shr .u64 s1.u 7),(s1.b++[(bits .or .u8 (IntKind.u8.wrap s1.u) 128)])⟩)
 else none)
 else
 (bif (lenB ((s1.b).length + ([(IntKind.u8.wrap s1.u)]).length) 1) then
 (some (s1.b++[(IntKind.u8.wrap s1.u)]))
 else none))) ⟨(bits .xor .u64 IntKind.u64.max (shl .u64 (IntKind.u64.wrap n) 1)),[]⟩)
 else
 (iter N (fun (s3:z54) next4 =>
 (bif (decide (128≤s3.u)) then
 (bif (lenB ((s3.b).length + ([(bits .or .u8 (IntKind.u8.wrap s3.u) 128)]).length) 1) then
 (next4 ⟨(shr .u64 s3.u 7),(s3.b++[(bits .or .u8 (IntKind.u8.wrap s3.u) 128)])⟩)
 else none)
 else
 (bif (lenB ((s3.b).length + ([(IntKind.u8.wrap s3.u)]).length) 1) then
 (some (s3.b++[(IntKind.u8.wrap s3.u)]))
 else none))) ⟨(shl .u64 (IntKind.u64.wrap n) 1),[]⟩))
def zar:Con τ:={ args:=[.ty 2],L:=[],ret:=.own 5 0,L':=[.tail],R:=(List (Int)),dflt:=default,F:=fun N a b=>zbj N a.1,of:=fun r=>(r,((),())) }
noncomputable def zxa:Dat τ:={ D:=D0,tbl:=tblOf [],lp:=lpsOf [(5,zvj)],k0:=0,mu:=[],un:=[] }
theorem zlk:ConOk E C 123 zar :=
  zg (D:=zxa) ⟨d0Ok,eGood,z9 trivial,fun _=>rfl⟩ zar (fun a b=>a) none (fun _ _=>rfl) rfl (fun _ _ h=>nomatch h) 1000000 (fn:=Tryz.f123) Tryz.func123 rfl (by kernel_rfl) (by kernel_rfl) rfl (by intro N a b; kernel_rfl)
def z44 (N:Nat) (b0:Bool) (b02:List (Int)):Option (Bool×Bool×(List (Int))) :=
 (some ((!b0),b0,b02))
def z51:Con τ:={ args:=[.ptr 0 []],L:=[.box (.agg [.ty 4,.own 5 1]),.tail],ret:=.ty 4,L':=[.box (.agg [.ty 4,.own 5 1]),.tail],R:=Bool×Bool×(List (Int)),dflt:=(default,default,default),F:=fun N a b=>z44 N b.1.1 b.1.2.1,of:=fun r=>(r.1,((r.2.1,r.2.2,()),(),())) }
noncomputable def zll:Dat τ:={ D:=D0,tbl:=tblOf [],lp:=lpsOf [],k0:=2,mu:=[],un:=[] }
theorem zd5:ConOk E C 48 z51 :=
  zg (D:=zll) ⟨d0Ok,eGood,z9 trivial,fun _=>rfl⟩ z51 (fun a b=>(a,b.1.1,b.1.2.1)) none (fun _ _=>rfl) rfl (fun _ _ h=>nomatch h) 1000000 (fn:=Tryz.f48) Tryz.func48 rfl (by kernel_rfl) (by kernel_rfl) rfl (by intro N a b; kernel_rfl)
structure z2r where
  n:Int
  t19:Int
def z8l:List Sl:=[.k,.k,.k,.k,.j,.sh (.ty 2),.k,.j,.k,.k,.k,.k,.k,.k,.k,.k,.k,.k,.k,.sh (.ty 2),.j,.j,.j,.j,.j,.j,.j,.j,.j,.j,.j,.j,.j,.k,.k,.k,.k,.k,.k,.k,.k,.k,.k,.k,.k,.k,.k,.k,.k]
def z8m:List ESh:=[.keep,.keep]
def zlm (a:Sl.Ts τ z8l) (b:ESh.Ts τ z8m):z2r:=⟨a.2.2.2.2.2.1,a.2.2.2.2.2.2.2.2.2.2.2.2.2.2.2.2.2.2.2.1⟩
def zln (s:z2r):Sl.Ts τ z8l:=((),(),(),(),(),s.n,(),(),(),(),(),(),(),(),(),(),(),(),(),s.t19,(),(),(),(),(),(),(),(),(),(),(),(),(),(),(),(),(),(),(),(),(),(),(),(),(),(),(),(),(),())
def zlo (s:z2r):ESh.Ts τ z8m:=((),(),())
def zlp:Lp τ:={ ts:=z8l,hs:=z8m,S:=z2r,to:=zlm,ot:=zln,oh:=zlo,hk:=[2,5],tk:=[2,0,0,0,0,0,0,0,0,0,2,0,2,2,2],ot_to:=fun _ _=>rfl,oh_to:=fun _ _=>rfl }
structure z24 where
  t35:Int
  b0:Bool
  b02:List (Int)
def z84:List Sl:=[.k,.k,.k,.k,.k,.k,.k,.k,.k,.j,.k,.k,.k,.k,.k,.k,.k,.k,.k,.k,.k,.k,.k,.k,.k,.k,.k,.k,.k,.k,.k,.k,.k,.k,.k,.sh (.ty 2),.j,.j,.j,.j,.j,.j,.j,.j,.j,.j,.j,.j,.j]
def z85:List ESh:=[.box (.agg [.ty 4,.own 5 2]),.dead,.tail]
def zko (a:Sl.Ts τ z84) (b:ESh.Ts τ z85):z24:=⟨a.2.2.2.2.2.2.2.2.2.2.2.2.2.2.2.2.2.2.2.2.2.2.2.2.2.2.2.2.2.2.2.2.2.2.2.1,b.1.1,b.1.2.1⟩
def zkp (s:z24):Sl.Ts τ z84:=((),(),(),(),(),(),(),(),(),(),(),(),(),(),(),(),(),(),(),(),(),(),(),(),(),(),(),(),(),(),(),(),(),(),(),s.t35,(),(),(),(),(),(),(),(),(),(),(),(),(),())
def zkq (s:z24):ESh.Ts τ z85:=((s.b0,s.b02,()),(),(),())
def zkr:Lp τ:={ ts:=z84,hs:=z85,S:=z24,to:=zko,ot:=zkp,oh:=zkq,hk:=[2,5],tk:=[2,0,0,0,0,0,0,0,0,0,2,0,2,2,2],ot_to:=fun _ _=>rfl,oh_to:=fun _ _=>rfl }
def z4l (N:Nat) (l:List (List (Int))) (b0:Bool) (b02:List (Int)):Option (Int×Bool×(List (Int))) :=
 ((z44 N b0 b02).bind fun r1 =>
 (bif r1.1 then
 (some (2,r1.2.1,r1.2.2))
 else
 (iter N (fun (s2:z2r) next3 =>
 (bif (decide (s2.t19 < ((l).length:Int))) then
 (bif (ibB s2.t19 ((l).length:Int)) then
 (bif (decide ((IntKind.i64.wrap (1048576 - s2.n)) < (((lget l s2.t19 default)).length:Int))) then
 (some (3,r1.2.1,r1.2.2))
 else
 (next3 ⟨(IntKind.i64.wrap (s2.n + (((lget l s2.t19 default)).length:Int))),(IntKind.i64.wrap (s2.t19 + 1))⟩))
 else none)
 else
 (iter N (fun (s4:z24) next5 =>
 (bif (decide (s4.t35 < ((l).length:Int))) then
 (bif (ibB s4.t35 ((l).length:Int)) then
 (bif (lenB ((s4.b02).length + ((lget l s4.t35 default)).length) 1) then
 (next5 ⟨(IntKind.i64.wrap (s4.t35 + 1)),s4.b0,(s4.b02++(lget l s4.t35 default))⟩)
 else none)
 else none)
 else
 (some (0,s4.b0,s4.b02)))) ⟨0,r1.2.1,r1.2.2⟩))) ⟨((r1.2.2).length:Int),0⟩)))
def z68:Con τ:={ args:=[.ptr 0 [],.ty 194],L:=[.box (.agg [.ty 4,.own 5 1]),.tail],ret:=.ty 35,L':=[.box (.agg [.ty 4,.own 5 2]),.dead,.tail],R:=Int×Bool×(List (Int)),dflt:=(default,default,default),F:=fun N a b=>z4l N a.2.1 b.1.1 b.1.2.1,of:=fun r=>(r.1,((r.2.1,r.2.2,()),(),(),())) }
noncomputable def zmr:Dat τ:={ D:=D0,tbl:=tblOf [(48,z51)],lp:=lpsOf [(5,zlp),(12,zkr)],k0:=2,mu:=[],un:=[] }
theorem ze1:ConOk E C 134 z68 :=
  zg (D:=zmr) ⟨d0Ok,eGood,z9 ⟨zd5,trivial⟩,fun _=>rfl⟩ z68 (fun a b=>(a,b.1.1,b.1.2.1)) none (fun _ _=>rfl) rfl (fun _ _ h=>nomatch h) 1000000 (fn:=Tryz.f134) Tryz.func134 rfl (by kernel_rfl) (by kernel_rfl) rfl (by intro N a b; kernel_rfl)
def z4m (N:Nat) (n:Int) (b0:Bool) (b02:List (Int)):Option (Int×Bool×(List (Int))) :=
 ((zbj N n).bind fun r1 =>
 ((z4l N [r1] b0 b02).bind fun r2 =>
 (some (r2.1,r2.2.1,r2.2.2))))
def z69:Con τ:={ args:=[.ptr 0 [],.ty 2],L:=[.box (.agg [.ty 4,.own 5 1]),.tail],ret:=.ty 35,L':=[.box (.agg [.ty 4,.own 5 2]),.dead,.tail],R:=Int×Bool×(List (Int)),dflt:=(default,default,default),F:=fun N a b=>z4m N a.2.1 b.1.1 b.1.2.1,of:=fun r=>(r.1,((r.2.1,r.2.2,()),(),(),())) }
noncomputable def zms:Dat τ:={ D:=D0,tbl:=tblOf [(123,zar),(134,z68)],lp:=lpsOf [],k0:=2,mu:=[],un:=[] }
theorem ze2:ConOk E C 88 z69 :=
  zg (D:=zms) ⟨d0Ok,eGood,z9 ⟨zlk,⟨ze1,trivial⟩⟩,fun _=>rfl⟩ z69 (fun a b=>(a,b.1.1,b.1.2.1)) none (fun _ _=>rfl) rfl (fun _ _ h=>nomatch h) 1000000 (fn:=Tryz.f88) Tryz.func88 rfl (by kernel_rfl) (by kernel_rfl) rfl (by intro N a b; kernel_rfl)
def z25 (N:Nat) (e:Int) (b0:Int) (b1:Bool) (b12:List (Int)):Option (Int×Bool×(List (Int))) :=
 (bif (b0==0) then
 (some (e,b1,b12))
 else
 (some (b0,b1,b12)))
def z28:Con τ:={ args:=[.ptr 0 [],.ty 35],L:=[.box (.agg [.ptr 1 [],.ty 35]),.box (.agg [.ty 4,.own 5 2]),.tail],ret:=.tup [],L':=[.box (.agg [.ptr 1 [],.ty 35]),.box (.agg [.ty 4,.own 5 2]),.tail],R:=Int×Bool×(List (Int)),dflt:=(default,default,default),F:=fun N a b=>z25 N a.2.1 b.1.2.1 b.2.1.1 b.2.1.2.1,of:=fun r=>((),(((),r.1,()),(r.2.1,r.2.2,()),(),())) }
noncomputable def zjk:Dat τ:={ D:=D0,tbl:=tblOf [],lp:=lpsOf [],k0:=3,mu:=[],un:=[] }
theorem z4c:ConOk E C 137 z28 :=
  zg (D:=zjk) ⟨d0Ok,eGood,z9 trivial,fun _=>rfl⟩ z28 (fun a b=>(b.1.2.1,b.2.1.1,b.2.1.2.1)) none (fun _ _=>rfl) rfl (fun _ _ h=>nomatch h) 1000000 (fn:=Tryz.f137) Tryz.func137 rfl (by kernel_rfl) (by kernel_rfl) rfl (by intro N a b; kernel_rfl)
structure z21 where
  t8:Int
  b0:Int
  b1:Bool
  b12:List (Int)
def z5y:List Sl:=[.k,.k,.k,.k,.k,.j,.k,.k,.sh (.ty 2),.j,.j,.j,.j,.j,.j,.j,.j,.j,.j,.j,.j]
def z5z:List ESh:=[.box (.agg [.ptr 1 [],.ty 2]),.box (.agg [.ty 4,.own 5 3]),.dead,.tail]
def zgc (a:Sl.Ts τ z5y) (b:ESh.Ts τ z5z):z21:=⟨a.2.2.2.2.2.2.2.2.1,b.1.2.1,b.2.1.1,b.2.1.2.1⟩
def zgd (s:z21):Sl.Ts τ z5y:=((),(),(),(),(),(),(),(),s.t8,(),(),(),(),(),(),(),(),(),(),(),(),())
def zge (s:z21):ESh.Ts τ z5z:=(((),s.b0,()),(s.b1,s.b12,()),(),(),())
def zgf:Lp τ:={ ts:=z5y,hs:=z5z,S:=z21,to:=zgc,ot:=zgd,oh:=zge,hk:=[2,2,5],tk:=[2],ot_to:=fun _ _=>rfl,oh_to:=fun _ _=>rfl }
def zb (N:Nat) (l:List (Int)) (b0:Int) (b1:Bool) (b12:List (Int)):Option (Int×Bool×(List (Int))) :=
 (iter N (fun (s1:z21) next2 =>
 (bif (decide (s1.t8 < ((l).length:Int))) then
 (bif (ibB s1.t8 ((l).length:Int)) then
 ((z4m N (lget l s1.t8 default) s1.b1 s1.b12).bind fun r3 =>
 ((z25 N r3.1 s1.b0 r3.2.1 r3.2.2).bind fun r4 =>
 (next2 ⟨(IntKind.i64.wrap (s1.t8 + 1)),r4.1,r4.2.1,r4.2.2⟩)))
 else none)
 else
 (some (s1.b0,s1.b1,s1.b12)))) ⟨0,b0,b1,b12⟩)
def zz:Con τ:={ args:=[.ptr 0 [],.ty 145],L:=[.box (.agg [.ptr 1 [],.ty 35]),.box (.agg [.ty 4,.own 5 2]),.tail],ret:=.tup [],L':=[.box (.agg [.ptr 1 [],.ty 35]),.box (.agg [.ty 4,.own 5 3]),.dead,.tail],R:=Int×Bool×(List (Int)),dflt:=(default,default,default),F:=fun N a b=>zb N a.2.1 b.1.2.1 b.2.1.1 b.2.1.2.1,of:=fun r=>((),(((),r.1,()),(r.2.1,r.2.2,()),(),(),())) }
noncomputable def zhh:Dat τ:={ D:=D0,tbl:=tblOf [(88,z69),(137,z28)],lp:=lpsOf [(1,zgf)],k0:=3,mu:=[],un:=[] }
theorem z1c:ConOk E C 93 zz :=
  zg (D:=zhh) ⟨d0Ok,eGood,z9 ⟨ze2,⟨z4c,trivial⟩⟩,fun _=>rfl⟩ zz (fun a b=>(b.1.2.1,b.2.1.1,b.2.1.2.1)) none (fun _ _=>rfl) rfl (fun _ _ h=>nomatch h) 1000000 (fn:=Tryz.f93) Tryz.func93 rfl (by kernel_rfl) (by kernel_rfl) rfl (by intro N a b; kernel_rfl)
structure z29 where
  t8:Int
  b0:Int
  b1:Bool
  b12:List (Int)
def z6j:List Sl:=[.k,.k,.k,.k,.k,.j,.k,.k,.sh (.ty 2),.j,.j,.j,.j,.j,.j,.j,.j,.j,.j,.j,.j]
def z6k:List ESh:=[.box (.agg [.ptr 1 [],.ty 2]),.box (.agg [.ty 4,.own 5 3]),.dead,.tail]
def zhi (a:Sl.Ts τ z6j) (b:ESh.Ts τ z6k):z29:=⟨a.2.2.2.2.2.2.2.2.1,b.1.2.1,b.2.1.1,b.2.1.2.1⟩
def zhj (s:z29):Sl.Ts τ z6j:=((),(),(),(),(),(),(),(),s.t8,(),(),(),(),(),(),(),(),(),(),(),(),())
def zhk (s:z29):ESh.Ts τ z6k:=(((),s.b0,()),(s.b1,s.b12,()),(),(),())
def zhl:Lp τ:={ ts:=z6j,hs:=z6k,S:=z29,to:=zhi,ot:=zhj,oh:=zhk,hk:=[2,2,5],tk:=[2],ot_to:=fun _ _=>rfl,oh_to:=fun _ _=>rfl }
def z5 (N:Nat) (l:List (Int)) (b0:Int) (b1:Bool) (b12:List (Int)):Option (Int×Bool×(List (Int))) :=
 (iter N (fun (s1:z29) next2 =>
 (bif (decide (s1.t8 < ((l).length:Int))) then
 (bif (ibB s1.t8 ((l).length:Int)) then
 ((z4m N (lget l s1.t8 default) s1.b1 s1.b12).bind fun r3 =>
 ((z25 N r3.1 s1.b0 r3.2.1 r3.2.2).bind fun r4 =>
 (next2 ⟨(IntKind.i64.wrap (s1.t8 + 1)),r4.1,r4.2.1,r4.2.2⟩)))
 else none)
 else
 (some (s1.b0,s1.b1,s1.b12)))) ⟨0,b0,b1,b12⟩)
def z1d:Con τ:={ args:=[.ptr 0 [],.ty 143],L:=[.box (.agg [.ptr 1 [],.ty 35]),.box (.agg [.ty 4,.own 5 2]),.tail],ret:=.tup [],L':=[.box (.agg [.ptr 1 [],.ty 35]),.box (.agg [.ty 4,.own 5 3]),.dead,.tail],R:=Int×Bool×(List (Int)),dflt:=(default,default,default),F:=fun N a b=>z5 N a.2.1 b.1.2.1 b.2.1.1 b.2.1.2.1,of:=fun r=>((),(((),r.1,()),(r.2.1,r.2.2,()),(),(),())) }
noncomputable def zjl:Dat τ:={ D:=D0,tbl:=tblOf [(88,z69),(137,z28)],lp:=lpsOf [(1,zhl)],k0:=3,mu:=[],un:=[] }
theorem z1w:ConOk E C 92 z1d :=
  zg (D:=zjl) ⟨d0Ok,eGood,z9 ⟨ze2,⟨z4c,trivial⟩⟩,fun _=>rfl⟩ z1d (fun a b=>(b.1.2.1,b.2.1.1,b.2.1.2.1)) none (fun _ _=>rfl) rfl (fun _ _ h=>nomatch h) 1000000 (fn:=Tryz.f92) Tryz.func92 rfl (by kernel_rfl) (by kernel_rfl) rfl (by intro N a b; kernel_rfl)
def z3v (N:Nat) (b:List (Int)) (b0:Bool) (b02:List (Int)):Option (Int×Bool×(List (Int))) :=
 ((zbj N ((b).length:Int)).bind fun r1 =>
 ((z4l N [r1,b] b0 b02).bind fun r2 =>
 (some (r2.1,r2.2.1,r2.2.2))))
def z4d:Con τ:={ args:=[.ptr 0 [],.ty 31],L:=[.box (.agg [.ty 4,.own 5 1]),.tail],ret:=.ty 35,L':=[.box (.agg [.ty 4,.own 5 2]),.dead,.tail],R:=Int×Bool×(List (Int)),dflt:=(default,default,default),F:=fun N a b=>z3v N a.2.1 b.1.1 b.1.2.1,of:=fun r=>(r.1,((r.2.1,r.2.2,()),(),(),())) }
noncomputable def zks:Dat τ:={ D:=D0,tbl:=tblOf [(123,zar),(134,z68)],lp:=lpsOf [],k0:=2,mu:=[],un:=[] }
theorem zcj:ConOk E C 146 z4d :=
  zg (D:=zks) ⟨d0Ok,eGood,z9 ⟨zlk,⟨ze1,trivial⟩⟩,fun _=>rfl⟩ z4d (fun a b=>(a,b.1.1,b.1.2.1)) none (fun _ _=>rfl) rfl (fun _ _ h=>nomatch h) 1000000 (fn:=Tryz.f146) Tryz.func146 rfl (by kernel_rfl) (by kernel_rfl) rfl (by intro N a b; kernel_rfl)
def z6t (N:Nat) (s:List UInt8) (b0:Bool) (b02:List (Int)):Option (Int×Bool×(List (Int))) :=
 ((z3v N (zo3 s) b0 b02).bind fun r1 =>
 (some (r1.1,r1.2.1,r1.2.2)))
def z8n:Con τ:={ args:=[.ptr 0 [],.ty 9],L:=[.box (.agg [.ty 4,.own 5 1]),.tail],ret:=.ty 35,L':=[.box (.agg [.ty 4,.own 5 2]),.dead,.tail],R:=Int×Bool×(List (Int)),dflt:=(default,default,default),F:=fun N a b=>z6t N a.2.1 b.1.1 b.1.2.1,of:=fun r=>(r.1,((r.2.1,r.2.2,()),(),(),())) }
noncomputable def zlq:Dat τ:={ D:=D0,tbl:=tblOf [(146,z4d)],lp:=lpsOf [],k0:=2,mu:=[],un:=[] }
theorem zmt:ConOk E C 138 z8n :=
  zg (D:=zlq) ⟨d0Ok,eGood,z9 ⟨zcj,trivial⟩,fun _=>rfl⟩ z8n (fun a b=>(a,b.1.1,b.1.2.1)) none (fun _ _=>rfl) rfl (fun _ _ h=>nomatch h) 1000000 (fn:=Tryz.f138) Tryz.func138 rfl (by kernel_rfl) (by kernel_rfl) rfl (by intro N a b; kernel_rfl)
structure z22 where
  t8:Int
  b0:Int
  b1:Bool
  b12:List (Int)
def z60:List Sl:=[.k,.k,.k,.k,.k,.j,.k,.k,.sh (.ty 2),.j,.j,.j,.j,.j,.j,.j,.j,.j,.j,.j,.j]
def z61:List ESh:=[.box (.agg [.ptr 1 [],.ty 2]),.box (.agg [.ty 4,.own 5 3]),.dead,.tail]
def zgg (a:Sl.Ts τ z60) (b:ESh.Ts τ z61):z22:=⟨a.2.2.2.2.2.2.2.2.1,b.1.2.1,b.2.1.1,b.2.1.2.1⟩
def zgh (s:z22):Sl.Ts τ z60:=((),(),(),(),(),(),(),(),s.t8,(),(),(),(),(),(),(),(),(),(),(),(),())
def zgi (s:z22):ESh.Ts τ z61:=(((),s.b0,()),(s.b1,s.b12,()),(),(),())
def zgj:Lp τ:={ ts:=z60,hs:=z61,S:=z22,to:=zgg,ot:=zgh,oh:=zgi,hk:=[2,2,5],tk:=[2],ot_to:=fun _ _=>rfl,oh_to:=fun _ _=>rfl }
def z4e (N:Nat) (l:List (List UInt8)) (b0:Int) (b1:Bool) (b12:List (Int)):Option (Int×Bool×(List (Int))) :=
 (iter N (fun (s1:z22) next2 =>
 (bif (decide (s1.t8 < ((l).length:Int))) then
 (bif (ibB s1.t8 ((l).length:Int)) then
 ((z6t N (lget l s1.t8 default) s1.b1 s1.b12).bind fun r3 =>
 ((z25 N r3.1 s1.b0 r3.2.1 r3.2.2).bind fun r4 =>
 (next2 ⟨(IntKind.i64.wrap (s1.t8 + 1)),r4.1,r4.2.1,r4.2.2⟩)))
 else none)
 else
 (some (s1.b0,s1.b1,s1.b12)))) ⟨0,b0,b1,b12⟩)
def z6l:Con τ:={ args:=[.ptr 0 [],.ty 181],L:=[.box (.agg [.ptr 1 [],.ty 35]),.box (.agg [.ty 4,.own 5 2]),.tail],ret:=.tup [],L':=[.box (.agg [.ptr 1 [],.ty 35]),.box (.agg [.ty 4,.own 5 3]),.dead,.tail],R:=Int×Bool×(List (Int)),dflt:=(default,default,default),F:=fun N a b=>z4e N a.2.1 b.1.2.1 b.2.1.1 b.2.1.2.1,of:=fun r=>((),(((),r.1,()),(r.2.1,r.2.2,()),(),(),())) }
noncomputable def zhm:Dat τ:={ D:=D0,tbl:=tblOf [(138,z8n),(137,z28)],lp:=lpsOf [(1,zgj)],k0:=3,mu:=[],un:=[] }
theorem zjm:ConOk E C 94 z6l :=
  zg (D:=zhm) ⟨d0Ok,eGood,z9 ⟨zmt,⟨z4c,trivial⟩⟩,fun _=>rfl⟩ z6l (fun a b=>(b.1.2.1,b.2.1.1,b.2.1.2.1)) none (fun _ _=>rfl) rfl (fun _ _ h=>nomatch h) 1000000 (fn:=Tryz.f94) Tryz.func94 rfl (by kernel_rfl) (by kernel_rfl) rfl (by intro N a b; kernel_rfl)
def z2z (N:Nat) (op:GOp) (b0:Int) (b1:Bool) (b12:List (Int)):Option (Int×Bool×(List (Int))) :=
 ((z5 N [op.Stamp.Time] b0 b1 b12).bind fun r1 =>
 ((zb N [op.Stamp.Site,op.Kind] r1.1 r1.2.1 r1.2.2).bind fun r2 =>
 ((z5 N [op.Node,op.Parent] r2.1 r2.2.1 r2.2.2).bind fun r3 =>
 ((z4e N [op.Name,op.Key,op.Value] r3.1 r3.2.1 r3.2.2).bind fun r4 =>
 (some (r4.1,r4.2.1,r4.2.2))))))
def z52:Con τ:={ args:=[.ptr 0 [],.ty 25],L:=[.box (.agg [.ptr 1 [],.ty 35]),.box (.agg [.ty 4,.own 5 2]),.tail],ret:=.tup [],L':=[.box (.agg [.ptr 1 [],.ty 35]),.box (.agg [.ty 4,.own 5 3]),.dead,.tail],R:=Int×Bool×(List (Int)),dflt:=(default,default,default),F:=fun N a b=>z2z N a.2.1 b.1.2.1 b.2.1.1 b.2.1.2.1,of:=fun r=>((),(((),r.1,()),(r.2.1,r.2.2,()),(),(),())) }
noncomputable def zlr:Dat τ:={ D:=D0,tbl:=tblOf [(92,z1d),(93,zz),(94,z6l)],lp:=lpsOf [],k0:=3,mu:=[],un:=[] }
theorem zd6:ConOk E C 40 z52 :=
  zg (D:=zlr) ⟨d0Ok,eGood,z9 ⟨z1w,⟨z1c,⟨zjm,trivial⟩⟩⟩,fun _=>rfl⟩ z52 (fun a b=>(b.1.2.1,b.2.1.1,b.2.1.2.1)) none (fun _ _=>rfl) rfl (fun _ _ h=>nomatch h) 1000000 (fn:=Tryz.f40) Tryz.func40 rfl (by kernel_rfl) (by kernel_rfl) rfl (by intro N a b; kernel_rfl)
structure z2f where
  t13:Int
  b0:Int
  b1:Bool
  b12:List (Int)
def z7r:List Sl:=[.k,.k,.k,.k,.k,.j,.k,.k,.k,.k,.k,.k,.k,.sh (.ty 2),.j,.j,.j,.j,.j,.j,.j]
def z7s:List ESh:=[.box (.agg [.ptr 1 [],.ty 2]),.box (.agg [.ty 4,.own 5 4]),.keep,.dead,.tail]
def zjn (a:Sl.Ts τ z7r) (b:ESh.Ts τ z7s):z2f:=⟨a.2.2.2.2.2.2.2.2.2.2.2.2.2.1,b.1.2.1,b.2.1.1,b.2.1.2.1⟩
def zjo (s:z2f):Sl.Ts τ z7r:=((),(),(),(),(),(),(),(),(),(),(),(),(),s.t13,(),(),(),(),(),(),(),())
def zjp (s:z2f):ESh.Ts τ z7s:=(((),s.b0,()),(s.b1,s.b12,()),(),(),(),())
def zjq:Lp τ:={ ts:=z7r,hs:=z7s,S:=z2f,to:=zjn,ot:=zjo,oh:=zjp,hk:=[2,2,1,5],tk:=[2,0,0,0,0,0,2],ot_to:=fun _ _=>rfl,oh_to:=fun _ _=>rfl }
def z2b (N:Nat) (l:List (GOp)) (b0:Int) (b1:Bool) (b12:List (Int)):Option (Int×Bool×(List (Int))) :=
 ((zb N [((l).length:Int)] b0 b1 b12).bind fun r1 =>
 (iter N (fun (s2:z2f) next3 =>
 (bif (decide (s2.t13 < ((l).length:Int))) then
 (bif (ibB s2.t13 ((l).length:Int)) then
 ((z2z N (⟨((lget l s2.t13 default).Stamp),(lget l s2.t13 default).Kind,(lget l s2.t13 default).Node,(lget l s2.t13 default).Parent,(lget l s2.t13 default).Name,(lget l s2.t13 default).Key,(lget l s2.t13 default).Value⟩:GOp) s2.b0 s2.b1 s2.b12).bind fun r4 =>
 (next3 ⟨(IntKind.i64.wrap (s2.t13 + 1)),r4.1,r4.2.1,r4.2.2⟩))
 else none)
 else
 (some (s2.b0,s2.b1,s2.b12)))) ⟨0,r1.1,r1.2.1,r1.2.2⟩))
def z4f:Con τ:={ args:=[.ptr 0 [],.ty 60],L:=[.box (.agg [.ptr 1 [],.ty 35]),.box (.agg [.ty 4,.own 5 2]),.tail],ret:=.tup [],L':=[.box (.agg [.ptr 1 [],.ty 35]),.box (.agg [.ty 4,.own 5 3]),.dead,.tail],R:=Int×Bool×(List (Int)),dflt:=(default,default,default),F:=fun N a b=>z2b N a.2.1 b.1.2.1 b.2.1.1 b.2.1.2.1,of:=fun r=>((),(((),r.1,()),(r.2.1,r.2.2,()),(),(),())) }
noncomputable def zkt:Dat τ:={ D:=D0,tbl:=tblOf [(93,zz),(40,z52)],lp:=lpsOf [(2,zjq)],k0:=3,mu:=[],un:=[] }
theorem zck:ConOk E C 111 z4f :=
  zg (D:=zkt) ⟨d0Ok,eGood,z9 ⟨z1c,⟨zd6,trivial⟩⟩,fun _=>rfl⟩ z4f (fun a b=>(b.1.2.1,b.2.1.1,b.2.1.2.1)) none (fun _ _=>rfl) rfl (fun _ _ h=>nomatch h) 1000000 (fn:=Tryz.f111) Tryz.func111 rfl (by kernel_rfl) (by kernel_rfl) rfl (by intro N a b; kernel_rfl)
def z1x (N:Nat) (e:z7) (b0:Int) (b1:Bool) (b12:List (Int)):Option (Int×Bool×(List (Int))) :=
 ((z5 N [e.Number] b0 b1 b12).bind fun r1 =>
 ((zb N (e.States.toList) r1.1 r1.2.1 r1.2.2).bind fun r2 =>
 ((z5 N (e.Seals.toList) r2.1 r2.2.1 r2.2.2).bind fun r3 =>
 ((zb N (e.Sponsor.toList) r3.1 r3.2.1 r3.2.2).bind fun r4 =>
 (some (r4.1,r4.2.1,r4.2.2))))))
def z3s:Con τ:={ args:=[.ptr 0 [],.ty 30],L:=[.box (.agg [.ptr 1 [],.ty 35]),.box (.agg [.ty 4,.own 5 2]),.tail],ret:=.tup [],L':=[.box (.agg [.ptr 1 [],.ty 35]),.box (.agg [.ty 4,.own 5 3]),.dead,.tail],R:=Int×Bool×(List (Int)),dflt:=(default,default,default),F:=fun N a b=>z1x N a.2.1 b.1.2.1 b.2.1.1 b.2.1.2.1,of:=fun r=>((),(((),r.1,()),(r.2.1,r.2.2,()),(),(),())) }
noncomputable def zhn:Dat τ:={ D:=D0,tbl:=tblOf [(92,z1d),(93,zz)],lp:=lpsOf [],k0:=3,mu:=[],un:=[] }
theorem zas:ConOk E C 46 z3s :=
  zg (D:=zhn) ⟨d0Ok,eGood,z9 ⟨z1w,⟨z1c,trivial⟩⟩,fun _=>rfl⟩ z3s (fun a b=>(b.1.2.1,b.2.1.1,b.2.1.2.1)) none (fun _ _=>rfl) rfl (fun _ _ h=>nomatch h) 1000000 (fn:=Tryz.f46) Tryz.func46 rfl (by kernel_rfl) (by kernel_rfl) rfl (by intro N a b; kernel_rfl)
def z1e (N:Nat) (p:GPart) (b0:Int) (b1:Bool) (b12:List (Int)):Option (Int×Bool×(List (Int))) :=
 ((z5 N [p.Snap] b0 b1 b12).bind fun r1 =>
 ((zb N [p.Index,p.Many] r1.1 r1.2.1 r1.2.2).bind fun r2 =>
 ((z3v N p.Data r2.2.1 r2.2.2).bind fun r3 =>
 ((z25 N r3.1 r2.1 r3.2.1 r3.2.2).bind fun r4 =>
 (some (r4.1,r4.2.1,r4.2.2))))))
def z43:Con τ:={ args:=[.ptr 0 [],.ty 62],L:=[.box (.agg [.ptr 1 [],.ty 35]),.box (.agg [.ty 4,.own 5 2]),.tail],ret:=.tup [],L':=[.box (.agg [.ptr 1 [],.ty 35]),.box (.agg [.ty 4,.own 5 3]),.dead,.tail],R:=Int×Bool×(List (Int)),dflt:=(default,default,default),F:=fun N a b=>z1e N a.2.1 b.1.2.1 b.2.1.1 b.2.1.2.1,of:=fun r=>((),(((),r.1,()),(r.2.1,r.2.2,()),(),(),())) }
noncomputable def zjr:Dat τ:={ D:=D0,tbl:=tblOf [(92,z1d),(93,zz),(146,z4d),(137,z28)],lp:=lpsOf [],k0:=3,mu:=[],un:=[] }
theorem zbk:ConOk E C 112 z43 :=
  zg (D:=zjr) ⟨d0Ok,eGood,z9 ⟨z1w,⟨z1c,⟨zcj,⟨z4c,trivial⟩⟩⟩⟩,fun _=>rfl⟩ z43 (fun a b=>(b.1.2.1,b.2.1.1,b.2.1.2.1)) none (fun _ _=>rfl) rfl (fun _ _ h=>nomatch h) 1000000 (fn:=Tryz.f112) Tryz.func112 rfl (by kernel_rfl) (by kernel_rfl) rfl (by intro N a b; kernel_rfl)
def z1f (N:Nat) (e:z6) (b0:Int) (b1:Bool) (b12:List (Int)):Option (Int×Bool×(List (Int))) :=
 ((zb N [e.Kind] b0 b1 b12).bind fun r1 =>
 (bif (e.Kind==1) then
 ((z5 N [e.Session,e.Request] r1.1 r1.2.1 r1.2.2).bind fun r2 =>
 ((z2z N e.Op r2.1 r2.2.1 r2.2.2).bind fun r3 =>
 (some (r3.1,r3.2.1,r3.2.2))))
 else
 (bif (e.Kind==2) then
 ((zb N [e.Origin] r1.1 r1.2.1 r1.2.2).bind fun r4 =>
 ((z5 N [e.Seq] r4.1 r4.2.1 r4.2.2).bind fun r5 =>
 ((z2b N e.Ops r5.1 r5.2.1 r5.2.2).bind fun r6 =>
 (some (r6.1,r6.2.1,r6.2.2)))))
 else
 (bif (e.Kind==3) then
 ((z1x N e.Epoch r1.1 r1.2.1 r1.2.2).bind fun r7 =>
 (some (r7.1,r7.2.1,r7.2.2)))
 else
 (bif (e.Kind==4) then
 ((z5 N [e.Seq] r1.1 r1.2.1 r1.2.2).bind fun r8 =>
 ((zb N [e.From] r8.1 r8.2.1 r8.2.2).bind fun r9 =>
 ((z5 N (e.Vector_.toList) r9.1 r9.2.1 r9.2.2).bind fun r10 =>
 ((z5 N [e.Clock] r10.1 r10.2.1 r10.2.2).bind fun r11 =>
 (some (r11.1,r11.2.1,r11.2.2))))))
 else
 (bif (e.Kind==5) then
 ((z1e N e.Part r1.1 r1.2.1 r1.2.2).bind fun r12 =>
 (some (r12.1,r12.2.1,r12.2.2)))
 else
 (bif (e.Kind==6) then
 ((zb N [e.Site,e.Sponsor] r1.1 r1.2.1 r1.2.2).bind fun r13 =>
 (some (r13.1,r13.2.1,r13.2.2)))
 else
 (bif (e.Kind==7) then
 ((zb N [e.Site] r1.1 r1.2.1 r1.2.2).bind fun r14 =>
 (some (r14.1,r14.2.1,r14.2.2)))
 else
 (bif (e.Kind==8) then
 ((zb N [e.Site] r1.1 r1.2.1 r1.2.2).bind fun r15 =>
 ((z5 N [e.Length] r15.1 r15.2.1 r15.2.2).bind fun r16 =>
 (some (r16.1,r16.2.1,r16.2.2))))
 else
 (some (r1.1,r1.2.1,r1.2.2)))))))))))
def z2p:Con τ:={ args:=[.ptr 0 [],.ty 64],L:=[.box (.agg [.ptr 1 [],.ty 35]),.box (.agg [.ty 4,.own 5 2]),.tail],ret:=.tup [],L':=[.box (.agg [.ptr 1 [],.ty 35]),.box (.agg [.ty 4,.own 5 3]),.dead,.tail],R:=Int×Bool×(List (Int)),dflt:=(default,default,default),F:=fun N a b=>z1f N a.2.1 b.1.2.1 b.2.1.1 b.2.1.2.1,of:=fun r=>((),(((),r.1,()),(r.2.1,r.2.2,()),(),(),())) }
noncomputable def zho:Dat τ:={ D:=D0,tbl:=tblOf [(93,zz),(92,z1d),(40,z52),(111,z4f),(46,z3s),(112,z43)],lp:=lpsOf [],k0:=3,mu:=[],un:=[] }
theorem z7t:ConOk E C 65 z2p :=
  zg (D:=zho) ⟨d0Ok,eGood,z9 ⟨z1c,⟨z1w,⟨zd6,⟨zck,⟨zas,⟨zbk,trivial⟩⟩⟩⟩⟩⟩,fun _=>rfl⟩ z2p (fun a b=>(b.1.2.1,b.2.1.1,b.2.1.2.1)) none (fun _ _=>rfl) rfl (fun _ _ h=>nomatch h) 1000000 (fn:=Tryz.f65) Tryz.func65 rfl (by kernel_rfl) (by kernel_rfl) rfl (by intro N a b; kernel_rfl)
def z92 (N:Nat) (s:List (Int)):Option ((List (Int))) :=
 (bif (lenB (0 + (s).length) 1) then
 (some ([]++s))
 else none)
def zbl:Con τ:={ args:=[.nn 5],L:=[],ret:=.ty 31,L':=[],R:=(List (Int)),dflt:=default,F:=fun N a b=>z92 N a.1,of:=fun r=>(r,()) }
noncomputable def zku:Dat τ:={ D:=D0,tbl:=tblOf [],lp:=lpsOf [],k0:=0,mu:=[],un:=[] }
theorem zls:ConOk E C 49 zbl :=
  zg (D:=zku) ⟨d0Ok,eGood,z9 trivial,fun _=>rfl⟩ zbl (fun a b=>a) none (fun _ _=>rfl) rfl (fun _ _ h=>nomatch h) 1000000 (fn:=Tryz.f49) Tryz.func49 rfl (by kernel_rfl) (by kernel_rfl) rfl (by intro N a b; kernel_rfl)
def zmu (N:Nat)  : Option ((List (Int))) :=
 (some [])
def z86:Con τ:={ args:=[.nil .slice],L:=[],ret:=.ty 31,L':=[],R:=(List (Int)),dflt:=default,F:=fun N a b=>zmu N ,of:=fun r=>(r,()) }
noncomputable def zkv:Dat τ:={ D:=D0,tbl:=tblOf [],lp:=lpsOf [],k0:=0,mu:=[],un:=[] }
theorem zlt:ConOk E C 49 z86 :=
  zg (D:=zkv) ⟨d0Ok,eGood,z9 trivial,fun _=>rfl⟩ z86 (fun a b=>a) none (fun _ _=>rfl) rfl (fun _ _ h=>nomatch h) 1000000 (fn:=Tryz.f49) Tryz.func49 rfl (by kernel_rfl) (by kernel_rfl) rfl (by intro N a b; kernel_rfl)
def z3d (N:Nat) (s:List (Int)):Option ((List (Int))):=z92 N s
def z3k:Con τ:={ args:=[.ty 31],L:=[],ret:=.ty 31,L':=[],R:=(List (Int)),dflt:=default,F:=fun N a b=>z3d N a.1,of:=fun r=>(r,()) }
theorem z8o:ConOk E C 49 z3k:=by
  intro N a b r h
  obtain ⟨x0,u⟩:=a
  refine FnSpec.split (pre:=[]) (post:=[]) (fun h0=>?_) (zls N (x0,u) b r h)
  have h0:x0=[]:=List.map_eq_nil_iff.1 h0
  subst h0
  exact zlt N ((),u) b r ((show z86.F N ((),u) b=z3k.F N ([],u) b from by kernel_rfl).trans h)
def z4n (N:Nat) (b0:Bool) (b02:List (Int)):Option ((List (Int))×Bool×(List (Int))) :=
 ((z44 N b0 b02).bind fun r1 =>
 (bif r1.1 then
 (some ([],r1.2.1,r1.2.2))
 else
 ((z3d N r1.2.2).bind fun r2 =>
 (some (r2,r1.2.1,r1.2.2)))))
def z6a:Con τ:={ args:=[.ptr 0 []],L:=[.box (.agg [.ty 4,.own 5 1]),.tail],ret:=.ty 31,L':=[.box (.agg [.ty 4,.own 5 1]),.tail],R:=(List (Int))×Bool×(List (Int)),dflt:=(default,default,default),F:=fun N a b=>z4n N b.1.1 b.1.2.1,of:=fun r=>(r.1,((r.2.1,r.2.2,()),(),())) }
noncomputable def zmv:Dat τ:={ D:=D0,tbl:=tblOf [(48,z51),(49,z3k)],lp:=lpsOf [],k0:=2,mu:=[],un:=[] }
theorem ze3:ConOk E C 16 z6a :=
  zg (D:=zmv) ⟨d0Ok,eGood,z9 ⟨zd5,⟨z8o,trivial⟩⟩,fun _=>rfl⟩ z6a (fun a b=>(a,b.1.1,b.1.2.1)) none (fun _ _=>rfl) rfl (fun _ _ h=>nomatch h) 1000000 (fn:=Tryz.f16) Tryz.func16 rfl (by kernel_rfl) (by kernel_rfl) rfl (by intro N a b; kernel_rfl)
def zr3 (N:Nat) (e:z6):Option ((List (Int))×Int) :=
 ((zy N e).bind fun r1 =>
 (bif (!(r1==0)) then
 (some ([],r1))
 else
 ((zci N).bind fun r2 =>
 ((z1f N e 0 r2.1 r2.2).bind fun r3 =>
 (bif (!(r3.1==0)) then
 (some ([],r3.1))
 else
 ((z4n N r3.2.1 r3.2.2).bind fun r4 =>
 (some (r4.1,0))))))))
def zgk:Con τ:={ args:=[.ty 64],L:=[],ret:=.tup [.ty 31,.ty 35],L':=[],R:=(List (Int))×Int,dflt:=(default,default),F:=fun N a b=>zr3 N a.1,of:=fun r=>((r.1,r.2,()),()) }
noncomputable def zvk:Dat τ:={ D:=D0,tbl:=tblOf [(64,z3j),(7,z9w),(65,z2p),(16,z6a)],lp:=lpsOf [],k0:=0,mu:=[],un:=[] }
theorem zxb:ConOk E C 26 zgk :=
  zg (D:=zvk) ⟨d0Ok,eGood,z9 ⟨z8k,⟨zmi,⟨z7t,⟨ze3,trivial⟩⟩⟩⟩,fun _=>rfl⟩ zgk (fun a b=>(a.1,a.2.1)) none (fun _ _=>rfl) rfl (fun _ _ h=>nomatch h) 1000000 (fn:=Tryz.f26) Tryz.func26 rfl (by kernel_rfl) (by kernel_rfl) rfl (by intro N a b; kernel_rfl)
def zpq (N:Nat) (e:z6):Option (z6×Bool) :=
 (bif (e.Kind==0) then
 (some ((⟨e.Kind,0,0,(⟨(⟨0,0⟩:zj),0,0,0,[],[],[]⟩:GOp),0,0,[],(⟨0,(Vector.replicate 8 (default:Int)),(Vector.replicate 8 (default:Int)),(Vector.replicate 8 (default:Int))⟩:z7),0,(Vector.replicate 8 (default:Int)),0,(⟨0,0,0,[]⟩:GPart),0,0,0⟩:z6),true))
 else
 (bif (e.Kind==1) then
 (some ((⟨e.Kind,e.Session,e.Request,e.Op,0,0,[],(⟨0,(Vector.replicate 8 (default:Int)),(Vector.replicate 8 (default:Int)),(Vector.replicate 8 (default:Int))⟩:z7),0,(Vector.replicate 8 (default:Int)),0,(⟨0,0,0,[]⟩:GPart),0,0,0⟩:z6),true))
 else
 (bif (e.Kind==2) then
 (some ((⟨e.Kind,0,0,(⟨(⟨0,0⟩:zj),0,0,0,[],[],[]⟩:GOp),e.Origin,e.Seq,e.Ops,(⟨0,(Vector.replicate 8 (default:Int)),(Vector.replicate 8 (default:Int)),(Vector.replicate 8 (default:Int))⟩:z7),0,(Vector.replicate 8 (default:Int)),0,(⟨0,0,0,[]⟩:GPart),0,0,0⟩:z6),true))
 else
 (bif (e.Kind==3) then
 (some ((⟨e.Kind,0,0,(⟨(⟨0,0⟩:zj),0,0,0,[],[],[]⟩:GOp),0,0,[],e.Epoch,0,(Vector.replicate 8 (default:Int)),0,(⟨0,0,0,[]⟩:GPart),0,0,0⟩:z6),true))
 else
 (bif (e.Kind==4) then
 (some ((⟨e.Kind,0,0,(⟨(⟨0,0⟩:zj),0,0,0,[],[],[]⟩:GOp),0,e.Seq,[],(⟨0,(Vector.replicate 8 (default:Int)),(Vector.replicate 8 (default:Int)),(Vector.replicate 8 (default:Int))⟩:z7),e.From,e.Vector_,e.Clock,(⟨0,0,0,[]⟩:GPart),0,0,0⟩:z6),true))
 else
 (bif (e.Kind==5) then
 (some ((⟨e.Kind,0,0,(⟨(⟨0,0⟩:zj),0,0,0,[],[],[]⟩:GOp),0,0,[],(⟨0,(Vector.replicate 8 (default:Int)),(Vector.replicate 8 (default:Int)),(Vector.replicate 8 (default:Int))⟩:z7),0,(Vector.replicate 8 (default:Int)),0,e.Part,0,0,0⟩:z6),true))
 else
 (bif (e.Kind==6) then
 (some ((⟨e.Kind,0,0,(⟨(⟨0,0⟩:zj),0,0,0,[],[],[]⟩:GOp),0,0,[],(⟨0,(Vector.replicate 8 (default:Int)),(Vector.replicate 8 (default:Int)),(Vector.replicate 8 (default:Int))⟩:z7),0,(Vector.replicate 8 (default:Int)),0,(⟨0,0,0,[]⟩:GPart),e.Site,e.Sponsor,0⟩:z6),true))
 else
 (bif (e.Kind==7) then
 (some ((⟨e.Kind,0,0,(⟨(⟨0,0⟩:zj),0,0,0,[],[],[]⟩:GOp),0,0,[],(⟨0,(Vector.replicate 8 (default:Int)),(Vector.replicate 8 (default:Int)),(Vector.replicate 8 (default:Int))⟩:z7),0,(Vector.replicate 8 (default:Int)),0,(⟨0,0,0,[]⟩:GPart),e.Site,0,0⟩:z6),true))
 else
 (bif (e.Kind==8) then
 (some ((⟨e.Kind,0,0,(⟨(⟨0,0⟩:zj),0,0,0,[],[],[]⟩:GOp),0,0,[],(⟨0,(Vector.replicate 8 (default:Int)),(Vector.replicate 8 (default:Int)),(Vector.replicate 8 (default:Int))⟩:z7),0,(Vector.replicate 8 (default:Int)),0,(⟨0,0,0,[]⟩:GPart),e.Site,0,e.Length⟩:z6),true))
 else
 (some ((⟨e.Kind,0,0,(⟨(⟨0,0⟩:zj),0,0,0,[],[],[]⟩:GOp),0,0,[],(⟨0,(Vector.replicate 8 (default:Int)),(Vector.replicate 8 (default:Int)),(Vector.replicate 8 (default:Int))⟩:z7),0,(Vector.replicate 8 (default:Int)),0,(⟨0,0,0,[]⟩:GPart),0,0,0⟩:z6),false)))))))))))
def zlu:Con τ:={ args:=[.ty 64],L:=[],ret:=.tup [.ty 64,.ty 4],L':=[],R:=z6×Bool,dflt:=(default,default),F:=fun N a b=>zpq N a.1,of:=fun r=>((r.1,r.2,()),()) }
noncomputable def zyv:Dat τ:={ D:=D0,tbl:=tblOf [],lp:=lpsOf [],k0:=0,mu:=[],un:=[] }
theorem z10d:ConOk E C 77 zlu :=
  zg (D:=zyv) ⟨d0Ok,eGood,z9 trivial,fun _=>rfl⟩ zlu (fun a b=>(a.1,a.2.1)) none (fun _ _=>rfl) rfl (fun _ _ h=>nomatch h) 1000000 (fn:=Tryz.f77) Tryz.func77 rfl (by kernel_rfl) (by kernel_rfl) rfl (by intro N a b; kernel_rfl)
structure z6o where
  i:Int
def zdj:List Sl:=[.k,.k,.k,.k,.j,.sh (.ty 2),.k,.k,.k,.k,.k,.j,.j,.j,.j,.j,.j,.j,.j,.j,.j,.j,.j,.j,.j,.j]
def zdk:List ESh:=[]
def zsg (a:Sl.Ts τ zdj) (b:ESh.Ts τ zdk):z6o:=⟨a.2.2.2.2.2.1⟩
def zsh (s:z6o):Sl.Ts τ zdj:=((),(),(),(),(),s.i,(),(),(),(),(),(),(),(),(),(),(),(),(),(),(),(),(),(),(),(),())
def zsi (s:z6o):ESh.Ts τ zdk:=()
def zsj:Lp τ:={ ts:=zdj,hs:=zdk,S:=z6o,to:=zsg,ot:=zsh,oh:=zsi,hk:=[],tk:=[],ot_to:=fun _ _=>rfl,oh_to:=fun _ _=>rfl }
def zat (N:Nat) (a:List (GOp)) (b:List (GOp)):Option (Bool) :=
 (bif (!(((a).length:Int)==((b).length:Int))) then
 (some false)
 else
 (iter N (fun (s1:z6o) next2 =>
 (bif (decide (s1.i < ((a).length:Int))) then
 (bif (ibB s1.i ((a).length:Int)) then
 (bif (ibB s1.i ((b).length:Int)) then
 (bif (!((((((lget a s1.i default).Stamp).Time)==(((lget b s1.i default).Stamp).Time))&&((((lget a s1.i default).Stamp).Site)==(((lget b s1.i default).Stamp).Site)))&&((((lget a s1.i default).Kind)==((lget b s1.i default).Kind))&&((((lget a s1.i default).Node)==((lget b s1.i default).Node))&&((((lget a s1.i default).Parent)==((lget b s1.i default).Parent))&&((((lget a s1.i default).Name)==((lget b s1.i default).Name))&&((((lget a s1.i default).Key)==((lget b s1.i default).Key))&&(((lget a s1.i default).Value)==((lget b s1.i default).Value))))))))) then
 (some false)
 else
 (next2 ⟨(IntKind.i64.wrap (s1.i + 1))⟩))
 else none)
 else none)
 else
 (some true))) ⟨0⟩))
def zax:Con τ:={ args:=[.ty 60,.ty 60],L:=[],ret:=.ty 4,L':=[],R:=Bool,dflt:=default,F:=fun N a b=>zat N a.1 a.2.1,of:=fun r=>(r,()) }
noncomputable def zu0:Dat τ:={ D:=D0,tbl:=tblOf [],lp:=lpsOf [(4,zsj)],k0:=0,mu:=[],un:=[] }
theorem znj:ConOk E C 75 zax :=
  zg (D:=zu0) ⟨d0Ok,eGood,z9 trivial,fun _=>rfl⟩ zax (fun a b=>a) none (fun _ _=>rfl) rfl (fun _ _ h=>nomatch h) 1000000 (fn:=Tryz.f75) Tryz.func75 rfl (by kernel_rfl) (by kernel_rfl) rfl (by intro N a b; kernel_rfl)
def z9k (N:Nat) (a:GPart) (b:GPart):Option (Bool) :=
 (some ((((a.Snap==b.Snap)&&(a.Index==b.Index))&&(a.Many==b.Many))&&((strI a.Data)==(strI b.Data))))
def z9x:Con τ:={ args:=[.ty 62,.ty 62],L:=[],ret:=.ty 4,L':=[],R:=Bool,dflt:=default,F:=fun N a b=>z9k N a.1 a.2.1,of:=fun r=>(r,()) }
noncomputable def zsk:Dat τ:={ D:=D0,tbl:=tblOf [],lp:=lpsOf [],k0:=0,mu:=[],un:=[] }
theorem zmj:ConOk E C 76 z9x :=
  zg (D:=zsk) ⟨d0Ok,eGood,z9 trivial,fun _=>rfl⟩ z9x (fun a b=>a) none (fun _ _=>rfl) rfl (fun _ _ h=>nomatch h) 1000000 (fn:=Tryz.f76) Tryz.func76 rfl (by kernel_rfl) (by kernel_rfl) rfl (by intro N a b; kernel_rfl)
def z19 (N:Nat) (a:z6) (b:z6):Option (Bool) :=
 ((bif ((((((a.Kind==b.Kind)&&(a.Session==b.Session))&&(a.Request==b.Request))&&(((a.Op.Stamp.Time==b.Op.Stamp.Time)&&(a.Op.Stamp.Site==b.Op.Stamp.Site))&&((a.Op.Kind==b.Op.Kind)&&((a.Op.Node==b.Op.Node)&&((a.Op.Parent==b.Op.Parent)&&((a.Op.Name==b.Op.Name)&&((a.Op.Key==b.Op.Key)&&(a.Op.Value==b.Op.Value))))))))&&(a.Origin==b.Origin))&&(a.Seq==b.Seq)) then zat N a.Ops b.Ops else some default).bind fun r1 =>
 ((bif (((((((((((a.Kind==b.Kind)&&(a.Session==b.Session))&&(a.Request==b.Request))&&(((a.Op.Stamp.Time==b.Op.Stamp.Time)&&(a.Op.Stamp.Site==b.Op.Stamp.Site))&&((a.Op.Kind==b.Op.Kind)&&((a.Op.Node==b.Op.Node)&&((a.Op.Parent==b.Op.Parent)&&((a.Op.Name==b.Op.Name)&&((a.Op.Key==b.Op.Key)&&(a.Op.Value==b.Op.Value))))))))&&(a.Origin==b.Origin))&&(a.Seq==b.Seq))&&r1)&&((a.Epoch.Number==b.Epoch.Number)&&((vbeq beq3 a.Epoch.States b.Epoch.States)&&((vbeq beq2 a.Epoch.Seals b.Epoch.Seals)&&(vbeq beq3 a.Epoch.Sponsor b.Epoch.Sponsor)))))&&(a.From==b.From))&&(vbeq beq2 a.Vector_ b.Vector_))&&(a.Clock==b.Clock)) then z9k N a.Part b.Part else some default).bind fun r2 =>
 (some (((((((((((((((a.Kind==b.Kind)&&(a.Session==b.Session))&&(a.Request==b.Request))&&(((a.Op.Stamp.Time==b.Op.Stamp.Time)&&(a.Op.Stamp.Site==b.Op.Stamp.Site))&&((a.Op.Kind==b.Op.Kind)&&((a.Op.Node==b.Op.Node)&&((a.Op.Parent==b.Op.Parent)&&((a.Op.Name==b.Op.Name)&&((a.Op.Key==b.Op.Key)&&(a.Op.Value==b.Op.Value))))))))&&(a.Origin==b.Origin))&&(a.Seq==b.Seq))&&r1)&&((a.Epoch.Number==b.Epoch.Number)&&((vbeq beq3 a.Epoch.States b.Epoch.States)&&((vbeq beq2 a.Epoch.Seals b.Epoch.Seals)&&(vbeq beq3 a.Epoch.Sponsor b.Epoch.Sponsor)))))&&(a.From==b.From))&&(vbeq beq2 a.Vector_ b.Vector_))&&(a.Clock==b.Clock))&&r2)&&(a.Site==b.Site))&&(a.Sponsor==b.Sponsor))&&(a.Length==b.Length)))))
def z6u:Con τ:={ args:=[.ty 64,.ty 64],L:=[],ret:=.ty 4,L':=[],R:=Bool,dflt:=default,F:=fun N a b=>z19 N a.1 a.2.1,of:=fun r=>(r,()) }
noncomputable def zr4:Dat τ:={ D:=D0,tbl:=tblOf [(75,zax),(76,z9x)],lp:=lpsOf [],k0:=0,mu:=[],un:=[] }
theorem zdl:ConOk E C 31 z6u :=
  zg (D:=zr4) ⟨d0Ok,eGood,z9 ⟨znj,⟨zmj,trivial⟩⟩,fun _=>rfl⟩ z6u (fun a b=>a) none (fun _ _=>rfl) rfl (fun _ _ h=>nomatch h) 1000000 (fn:=Tryz.f31) Tryz.func31 rfl (by kernel_rfl) (by kernel_rfl) rfl (by intro N a b; kernel_rfl)
def zq (N:Nat) (n:Int):Option (Bool) :=
 (some ((decide (0≤n))&&(decide (n≤1099511627776))))
def z36:Con τ:={ args:=[.ty 2],L:=[],ret:=.ty 4,L':=[],R:=Bool,dflt:=default,F:=fun N a b=>zq N a.1,of:=fun r=>(r,()) }
noncomputable def zxc:Dat τ:={ D:=D0,tbl:=tblOf [],lp:=lpsOf [],k0:=0,mu:=[],un:=[] }
theorem z6v:ConOk E C 61 z36 :=
  zg (D:=zxc) ⟨d0Ok,eGood,z9 trivial,fun _=>rfl⟩ z36 (fun a b=>a) none (fun _ _=>rfl) rfl (fun _ _ h=>nomatch h) 1000000 (fn:=Tryz.f61) Tryz.func61 rfl (by kernel_rfl) (by kernel_rfl) rfl (by intro N a b; kernel_rfl)
def z15 (N:Nat) (n:Int):Option (Bool) :=
 (some ((decide (0≤n))&&(decide (n < 8))))
def zcl:Con τ:={ args:=[.ty 3],L:=[],ret:=.ty 4,L':=[],R:=Bool,dflt:=default,F:=fun N a b=>z15 N a.1,of:=fun r=>(r,()) }
noncomputable def zyw:Dat τ:={ D:=D0,tbl:=tblOf [],lp:=lpsOf [],k0:=0,mu:=[],un:=[] }
theorem znk:ConOk E C 78 zcl :=
  zg (D:=zyw) ⟨d0Ok,eGood,z9 trivial,fun _=>rfl⟩ zcl (fun a b=>a) none (fun _ _=>rfl) rfl (fun _ _ h=>nomatch h) 1000000 (fn:=Tryz.f78) Tryz.func78 rfl (by kernel_rfl) (by kernel_rfl) rfl (by intro N a b; kernel_rfl)
def zgl (N:Nat) (s:zj):Option (Bool) :=
 ((zq N s.Time).bind fun r1 =>
 ((bif r1 then z15 N s.Site else some default).bind fun r2 =>
 (some (r1&&r2))))
def zdm:Con τ:={ args:=[.ty 23],L:=[],ret:=.ty 4,L':=[],R:=Bool,dflt:=default,F:=fun N a b=>zgl N a.1,of:=fun r=>(r,()) }
noncomputable def zsl:Dat τ:={ D:=D0,tbl:=tblOf [(61,z36),(78,zcl)],lp:=lpsOf [],k0:=0,mu:=[],un:=[] }
theorem zu1:ConOk E C 56 zdm :=
  zg (D:=zsl) ⟨d0Ok,eGood,z9 ⟨z6v,⟨znk,trivial⟩⟩,fun _=>rfl⟩ zdm (fun a b=>a) none (fun _ _=>rfl) rfl (fun _ _ h=>nomatch h) 1000000 (fn:=Tryz.f56) Tryz.func56 rfl (by kernel_rfl) (by kernel_rfl) rfl (by intro N a b; kernel_rfl)
def zlv (N:Nat) (n:Int):Option (Bool) :=
 (some ((decide (0≤n))&&(decide (n≤1125899906842624))))
def zlw:Con τ:={ args:=[.ty 2],L:=[],ret:=.ty 4,L':=[],R:=Bool,dflt:=default,F:=fun N a b=>zlv N a.1,of:=fun r=>(r,()) }
noncomputable def zyx:Dat τ:={ D:=D0,tbl:=tblOf [],lp:=lpsOf [],k0:=0,mu:=[],un:=[] }
theorem z10e:ConOk E C 57 zlw :=
  zg (D:=zyx) ⟨d0Ok,eGood,z9 trivial,fun _=>rfl⟩ zlw (fun a b=>a) none (fun _ _=>rfl) rfl (fun _ _ h=>nomatch h) 1000000 (fn:=Tryz.f57) Tryz.func57 rfl (by kernel_rfl) (by kernel_rfl) rfl (by intro N a b; kernel_rfl)
def z9l (N:Nat) (op:GOp):Option (Bool) :=
 ((zgl N op.Stamp).bind fun r1 =>
 ((bif ((r1&&(decide (1≤op.Kind)))&&(decide (op.Kind≤3))) then zlv N op.Node else some default).bind fun r2 =>
 ((bif (((r1&&(decide (1≤op.Kind)))&&(decide (op.Kind≤3)))&&r2) then zlv N op.Parent else some default).bind fun r3 =>
 (some (((((((r1&&(decide (1≤op.Kind)))&&(decide (op.Kind≤3)))&&r2)&&r3)&&(decide (((op.Name).length:Int)≤255)))&&(decide (((op.Key).length:Int)≤255)))&&(decide (((op.Value).length:Int)≤255)))))))
def zdx:Con τ:={ args:=[.ty 25],L:=[],ret:=.ty 4,L':=[],R:=Bool,dflt:=default,F:=fun N a b=>z9l N a.1,of:=fun r=>(r,()) }
noncomputable def zxd:Dat τ:={ D:=D0,tbl:=tblOf [(56,zdm),(57,zlw)],lp:=lpsOf [],k0:=0,mu:=[],un:=[] }
theorem zr5:ConOk E C 21 zdx :=
  zg (D:=zxd) ⟨d0Ok,eGood,z9 ⟨zu1,⟨z10e,trivial⟩⟩,fun _=>rfl⟩ zdx (fun a b=>a) none (fun _ _=>rfl) rfl (fun _ _ h=>nomatch h) 1000000 (fn:=Tryz.f21) Tryz.func21 rfl (by kernel_rfl) (by kernel_rfl) rfl (by intro N a b; kernel_rfl)
structure zbm where
  i:Int
def zlx:List Sl:=[.k,.k,.j,.sh (.ty 2),.j,.j,.j,.j,.j,.j,.j,.j,.j,.j,.j,.j,.k,.k,.k,.k,.k,.k,.k,.k]
def zly:List ESh:=[]
def zyy (a:Sl.Ts τ zlx) (b:ESh.Ts τ zly):zbm:=⟨a.2.2.2.1⟩
def zyz (s:zbm):Sl.Ts τ zlx:=((),(),(),s.i,(),(),(),(),(),(),(),(),(),(),(),(),(),(),(),(),(),(),(),(),())
def zz0 (s:zbm):ESh.Ts τ zly:=()
def zz1:Lp τ:={ ts:=zlx,hs:=zly,S:=zbm,to:=zyy,ot:=zyz,oh:=zz0,hk:=[],tk:=[],ot_to:=fun _ _=>rfl,oh_to:=fun _ _=>rfl }
def zdn (N:Nat) (l:List (GOp)):Option (Bool) :=
 (iter N (fun (s1:zbm) next2 =>
 (bif (decide (s1.i < ((l).length:Int))) then
 (bif (ibB s1.i ((l).length:Int)) then
 ((z9l N (⟨((lget l s1.i default).Stamp),(lget l s1.i default).Kind,(lget l s1.i default).Node,(lget l s1.i default).Parent,(lget l s1.i default).Name,(lget l s1.i default).Key,(lget l s1.i default).Value⟩:GOp)).bind fun r3 =>
 (bif (!r3) then
 (some false)
 else
 (next2 ⟨(IntKind.i64.wrap (s1.i + 1))⟩)))
 else none)
 else
 (some ((decide (0 < ((l).length:Int)))&&(decide (((l).length:Int)≤4096)))))) ⟨0⟩)
def zhz:Con τ:={ args:=[.ty 60],L:=[],ret:=.ty 4,L':=[],R:=Bool,dflt:=default,F:=fun N a b=>zdn N a.1,of:=fun r=>(r,()) }
noncomputable def z10f:Dat τ:={ D:=D0,tbl:=tblOf [(21,zdx)],lp:=lpsOf [(2,zz1)],k0:=0,mu:=[],un:=[] }
theorem zvl:ConOk E C 79 zhz :=
  zg (D:=z10f) ⟨d0Ok,eGood,z9 ⟨zr5,trivial⟩,fun _=>rfl⟩ zhz (fun a b=>a) none (fun _ _=>rfl) rfl (fun _ _ h=>nomatch h) 1000000 (fn:=Tryz.f79) Tryz.func79 rfl (by kernel_rfl) (by kernel_rfl) rfl (by intro N a b; kernel_rfl)
structure z4g where
  i:Int
def zb9:List Sl:=[.k,.k,.j,.sh (.ty 2),.j,.j,.j,.j,.j,.j,.j,.j,.j]
def zba:List ESh:=[.keep]
def zpr (a:Sl.Ts τ zb9) (b:ESh.Ts τ zba):z4g:=⟨a.2.2.2.1⟩
def zps (s:z4g):Sl.Ts τ zb9:=((),(),(),s.i,(),(),(),(),(),(),(),(),(),())
def zpt (s:z4g):ESh.Ts τ zba:=((),())
def zpu:Lp τ:={ ts:=zb9,hs:=zba,S:=z4g,to:=zpr,ot:=zps,oh:=zpt,hk:=[2],tk:=[0,2],ot_to:=fun _ _=>rfl,oh_to:=fun _ _=>rfl }
def z3m (N:Nat) (v:Vector (Int) 8):Option (Bool) :=
 (iter N (fun (s1:z4g) next2 =>
 (bif (decide (s1.i < 8)) then
 (bif (ibB s1.i 8) then
 ((zq N (vget v ((s1.i).toNat) default)).bind fun r3 =>
 (bif (!r3) then
 (some false)
 else
 (next2 ⟨(IntKind.i64.wrap (s1.i + 1))⟩)))
 else none)
 else
 (some true))) ⟨0⟩)
def z6w:Con τ:={ args:=[.ty 28],L:=[],ret:=.ty 4,L':=[],R:=Bool,dflt:=default,F:=fun N a b=>z3m N a.1,of:=fun r=>(r,()) }
noncomputable def zr6:Dat τ:={ D:=D0,tbl:=tblOf [(61,z36)],lp:=lpsOf [(2,zpu)],k0:=0,mu:=[],un:=[] }
theorem zdo:ConOk E C 62 z6w :=
  zg (D:=zr6) ⟨d0Ok,eGood,z9 ⟨z6v,trivial⟩,fun _=>rfl⟩ z6w (fun a b=>a) none (fun _ _=>rfl) rfl (fun _ _ h=>nomatch h) 1000000 (fn:=Tryz.f62) Tryz.func62 rfl (by kernel_rfl) (by kernel_rfl) rfl (by intro N a b; kernel_rfl)
structure z5a where
  i:Int
def zcm:List Sl:=[.k,.k,.j,.sh (.ty 2),.j,.j,.j,.j,.j,.j,.j,.j,.j,.j,.j,.j,.j,.j,.j,.j,.j,.j,.j,.j,.j,.j,.j,.j,.j,.j,.j,.j,.j,.j,.k,.k,.k,.k,.k,.k,.k,.k]
def zcn:List ESh:=[.keep]
def zr7 (a:Sl.Ts τ zcm) (b:ESh.Ts τ zcn):z5a:=⟨a.2.2.2.1⟩
def zr8 (s:z5a):Sl.Ts τ zcm:=((),(),(),s.i,(),(),(),(),(),(),(),(),(),(),(),(),(),(),(),(),(),(),(),(),(),(),(),(),(),(),(),(),(),(),(),(),(),(),(),(),(),(),())
def zr9 (s:z5a):ESh.Ts τ zcn:=((),())
def zra:Lp τ:={ ts:=zcm,hs:=zcn,S:=z5a,to:=zr7,ot:=zr8,oh:=zr9,hk:=[2],tk:=[0,2],ot_to:=fun _ _=>rfl,oh_to:=fun _ _=>rfl }
def z62 (N:Nat) (e:z7):Option (Bool) :=
 (iter N (fun (s1:z5a) next2 =>
 (bif (decide (s1.i < 8)) then
 (bif (ibB s1.i 8) then
 (bif (!(!(decide ((vget e.States ((s1.i).toNat) default) < 0))) || (ibB s1.i 8)) then
 (bif (!(!((decide ((vget e.States ((s1.i).toNat) default) < 0)) || (decide (3 < (vget e.States ((s1.i).toNat) default))))) || (ibB s1.i 8)) then
 (bif (!(!(((decide ((vget e.States ((s1.i).toNat) default) < 0)) || (decide (3 < (vget e.States ((s1.i).toNat) default)))) || (decide ((vget e.Sponsor ((s1.i).toNat) default) < (-1))))) || (ibB s1.i 8)) then
 (bif ((((decide ((vget e.States ((s1.i).toNat) default) < 0)) || (decide (3 < (vget e.States ((s1.i).toNat) default)))) || (decide ((vget e.Sponsor ((s1.i).toNat) default) < (-1)))) || (decide (8≤(vget e.Sponsor ((s1.i).toNat) default)))) then
 (some false)
 else
 (next2 ⟨(IntKind.i64.wrap (s1.i + 1))⟩))
 else none)
 else none)
 else none)
 else none)
 else
 ((zq N e.Number).bind fun r3 =>
 ((bif r3 then z3m N e.Seals else some default).bind fun r4 =>
 (some (r3&&r4)))))) ⟨0⟩)
def z9y:Con τ:={ args:=[.ty 30],L:=[],ret:=.ty 4,L':=[],R:=Bool,dflt:=default,F:=fun N a b=>z62 N a.1,of:=fun r=>(r,()) }
noncomputable def zsm:Dat τ:={ D:=D0,tbl:=tblOf [(61,z36),(62,z6w)],lp:=lpsOf [(2,zra)],k0:=0,mu:=[],un:=[] }
theorem zmk:ConOk E C 24 z9y :=
  zg (D:=zsm) ⟨d0Ok,eGood,z9 ⟨z6v,⟨zdo,trivial⟩⟩,fun _=>rfl⟩ z9y (fun a b=>a) none (fun _ _=>rfl) rfl (fun _ _ h=>nomatch h) 1000000 (fn:=Tryz.f24) Tryz.func24 rfl (by kernel_rfl) (by kernel_rfl) rfl (by intro N a b; kernel_rfl)
def z55 (N:Nat) (p:GPart):Option (Bool) :=
 ((zq N p.Snap).bind fun r1 =>
 (some (((((r1&&(decide (1≤p.Many)))&&(decide (p.Many≤4096)))&&(decide (0≤p.Index)))&&(decide (p.Index < p.Many)))&&(decide (((p.Data).length:Int)≤16384)))))
def zay:Con τ:={ args:=[.ty 62],L:=[],ret:=.ty 4,L':=[],R:=Bool,dflt:=default,F:=fun N a b=>z55 N a.1,of:=fun r=>(r,()) }
noncomputable def zu2:Dat τ:={ D:=D0,tbl:=tblOf [(61,z36)],lp:=lpsOf [],k0:=0,mu:=[],un:=[] }
theorem znl:ConOk E C 80 zay :=
  zg (D:=zu2) ⟨d0Ok,eGood,z9 ⟨z6v,trivial⟩,fun _=>rfl⟩ zay (fun a b=>a) none (fun _ _=>rfl) rfl (fun _ _ h=>nomatch h) 1000000 (fn:=Tryz.f80) Tryz.func80 rfl (by kernel_rfl) (by kernel_rfl) rfl (by intro N a b; kernel_rfl)
def z1g (N:Nat) (e:z6):Option (Bool) :=
 ((zpq N e).bind fun r1 =>
 ((bif (!(!r1.2)) then z19 N e r1.1 else some default).bind fun r2 =>
 (bif ((!r1.2) || (!r2)) then
 (some false)
 else
 (bif (e.Kind==1) then
 ((zq N e.Session).bind fun r3 =>
 ((bif (r3&&(decide (0 < e.Session))) then zq N e.Request else some default).bind fun r4 =>
 ((bif (((r3&&(decide (0 < e.Session)))&&r4)&&(decide (0 < e.Request))) then z9l N e.Op else some default).bind fun r5 =>
 (some ((((r3&&(decide (0 < e.Session)))&&r4)&&(decide (0 < e.Request)))&&r5)))))
 else
 (bif (e.Kind==2) then
 ((z15 N e.Origin).bind fun r6 =>
 ((bif r6 then zq N e.Seq else some default).bind fun r7 =>
 ((bif (r6&&r7) then zdn N e.Ops else some default).bind fun r8 =>
 (some ((r6&&r7)&&r8)))))
 else
 (bif (e.Kind==3) then
 ((z62 N e.Epoch).bind fun r9 =>
 (some r9))
 else
 (bif (e.Kind==4) then
 ((zq N e.Seq).bind fun r10 =>
 ((bif r10 then z15 N e.From else some default).bind fun r11 =>
 ((bif (r10&&r11) then z3m N e.Vector_ else some default).bind fun r12 =>
 ((bif ((r10&&r11)&&r12) then zq N e.Clock else some default).bind fun r13 =>
 (some (((r10&&r11)&&r12)&&r13))))))
 else
 (bif (e.Kind==5) then
 ((z55 N e.Part).bind fun r14 =>
 (some r14))
 else
 ((z15 N e.Site).bind fun r15 =>
 ((bif r15 then z15 N e.Sponsor else some default).bind fun r16 =>
 ((bif (r15&&r16) then zq N e.Length else some default).bind fun r17 =>
 (some ((r15&&r16)&&r17)))))))))))))
def z9z:Con τ:={ args:=[.ty 64],L:=[],ret:=.ty 4,L':=[],R:=Bool,dflt:=default,F:=fun N a b=>z1g N a.1,of:=fun r=>(r,()) }
noncomputable def zsn:Dat τ:={ D:=D0,tbl:=tblOf [(77,zlu),(31,z6u),(61,z36),(21,zdx),(78,zcl),(79,zhz),(24,z9y),(62,z6w),(80,zay)],lp:=lpsOf [],k0:=0,mu:=[],un:=[] }
theorem zml:ConOk E C 32 z9z :=
  zg (D:=zsn) ⟨d0Ok,eGood,z9 ⟨z10d,⟨zdl,⟨z6v,⟨zr5,⟨znk,⟨zvl,⟨zmk,⟨zdo,⟨znl,trivial⟩⟩⟩⟩⟩⟩⟩⟩⟩,fun _=>rfl⟩ z9z (fun a b=>a) none (fun _ _=>rfl) rfl (fun _ _ h=>nomatch h) 1000000 (fn:=Tryz.f32) Tryz.func32 rfl (by kernel_rfl) (by kernel_rfl) rfl (by intro N a b; kernel_rfl)
structure z87 where
  t7:Int
def zco:List Sl:=[.k,.k,.j,.k,.j,.k,.k,.sh (.ty 2),.j,.j,.j,.j,.j,.j,.j,.j,.j,.j,.j,.j,.j,.j,.j,.j,.j,.j,.j,.j,.j,.j]
def zcp:List ESh:=[]
def zrb (a:Sl.Ts τ zco) (b:ESh.Ts τ zcp):z87:=⟨a.2.2.2.2.2.2.2.1⟩
def zrc (s:z87):Sl.Ts τ zco:=((),(),(),(),(),(),(),s.t7,(),(),(),(),(),(),(),(),(),(),(),(),(),(),(),(),(),(),(),(),(),(),())
def zrd (s:z87):ESh.Ts τ zcp:=()
def zre:Lp τ:={ ts:=zco,hs:=zcp,S:=z87,to:=zrb,ot:=zrc,oh:=zrd,hk:=[],tk:=[],ot_to:=fun _ _=>rfl,oh_to:=fun _ _=>rfl }
def z17 (N:Nat) (l:List (GAddr)):Option (Bool) :=
 (iter N (fun (s1:z87) next2 =>
 (bif (decide (s1.t7 < ((l).length:Int))) then
 (bif (ibB s1.t7 ((l).length:Int)) then
 (bif ((((decide (((lget l s1.t7 default).Group) < 0)) || (decide (9≤((lget l s1.t7 default).Group)))) || (decide (((lget l s1.t7 default).Replica) < 0))) || (decide (5≤((lget l s1.t7 default).Replica)))) then
 (some false)
 else
 (next2 ⟨(IntKind.i64.wrap (s1.t7 + 1))⟩))
 else none)
 else
 (some true))) ⟨0⟩)
def zdp:Con τ:={ args:=[.ty 190],L:=[],ret:=.ty 4,L':=[],R:=Bool,dflt:=default,F:=fun N a b=>z17 N a.1,of:=fun r=>(r,()) }
noncomputable def zso:Dat τ:={ D:=D0,tbl:=tblOf [],lp:=lpsOf [(2,zre)],k0:=0,mu:=[],un:=[] }
theorem zu3:ConOk E C 115 zdp :=
  zg (D:=zso) ⟨d0Ok,eGood,z9 trivial,fun _=>rfl⟩ zdp (fun a b=>a) none (fun _ _=>rfl) rfl (fun _ _ h=>nomatch h) 1000000 (fn:=Tryz.f115) Tryz.func115 rfl (by kernel_rfl) (by kernel_rfl) rfl (by intro N a b; kernel_rfl)
def z88 (N:Nat) (b:zc):Option (Bool) :=
 ((z12 N [b.Round]).bind fun r1 =>
 (some ((r1&&(decide (0≤b.Replica)))&&(decide (b.Replica < 5)))))
def z8p:Con τ:={ args:=[.ty 68],L:=[],ret:=.ty 4,L':=[],R:=Bool,dflt:=default,F:=fun N a b=>z88 N a.1,of:=fun r=>(r,()) }
noncomputable def zpv:Dat τ:={ D:=D0,tbl:=tblOf [(106,z3b)],lp:=lpsOf [],k0:=0,mu:=[],un:=[] }
theorem zi0:ConOk E C 116 z8p :=
  zg (D:=zpv) ⟨d0Ok,eGood,z9 ⟨z7q,trivial⟩,fun _=>rfl⟩ z8p (fun a b=>a) none (fun _ _=>rfl) rfl (fun _ _ h=>nomatch h) 1000000 (fn:=Tryz.f116) Tryz.func116 rfl (by kernel_rfl) (by kernel_rfl) rfl (by intro N a b; kernel_rfl)
def z4o (N:Nat) (x:zd):Option (Bool) :=
 ((z12 N [x.Slot]).bind fun r1 =>
 ((bif (!(!r1)) then z88 N x.Ballot else some default).bind fun r2 =>
 ((bif (!((!r1) || (!r2))) then zy N x.Entry else some default).bind fun r3 =>
 (some (((!r1) || (!r2)) || (!(r3==0)))))))
def z93:Con τ:={ args:=[.ty 178],L:=[],ret:=.ty 4,L':=[],R:=Bool,dflt:=default,F:=fun N a b=>z4o N a.1,of:=fun r=>(r,()) }
noncomputable def zmw:Dat τ:={ D:=D0,tbl:=tblOf [(106,z3b),(116,z8p),(64,z3j)],lp:=lpsOf [],k0:=0,mu:=[],un:=[] }
theorem znm:ConOk E C 148 z93 :=
  zg (D:=zmw) ⟨d0Ok,eGood,z9 ⟨z7q,⟨zi0,⟨z8k,trivial⟩⟩⟩,fun _=>rfl⟩ z93 (fun a b=>a) none (fun _ _=>rfl) rfl (fun _ _ h=>nomatch h) 1000000 (fn:=Tryz.f148) Tryz.func148 rfl (by kernel_rfl) (by kernel_rfl) rfl (by intro N a b; kernel_rfl)
structure z1j where
  t8:Int
def z3n:List Sl:=[.k,.k,.k,.k,.j,.j,.k,.k,.sh (.ty 2),.j,.j,.j,.j,.j,.j,.j,.j,.j,.j]
def z3o:List ESh:=[]
def zcw (a:Sl.Ts τ z3n) (b:ESh.Ts τ z3o):z1j:=⟨a.2.2.2.2.2.2.2.2.1⟩
def zcx (s:z1j):Sl.Ts τ z3n:=((),(),(),(),(),(),(),(),s.t8,(),(),(),(),(),(),(),(),(),(),())
def zcy (s:z1j):ESh.Ts τ z3o:=()
def zcz:Lp τ:={ ts:=z3n,hs:=z3o,S:=z1j,to:=zcw,ot:=zcx,oh:=zcy,hk:=[],tk:=[],ot_to:=fun _ _=>rfl,oh_to:=fun _ _=>rfl }
def z2v (N:Nat) (s:List (zd)):Option (Int) :=
 (iter N (fun (s1:z1j) next2 =>
 (bif (decide (s1.t8 < ((s).length:Int))) then
 (bif (ibB s1.t8 ((s).length:Int)) then
 ((z4o N (⟨(lget s s1.t8 default).Slot,((lget s s1.t8 default).Ballot),(⟨((lget s s1.t8 default).Entry).Kind,((lget s s1.t8 default).Entry).Session,((lget s s1.t8 default).Entry).Request,(⟨((((lget s s1.t8 default).Entry).Op).Stamp),(((lget s s1.t8 default).Entry).Op).Kind,(((lget s s1.t8 default).Entry).Op).Node,(((lget s s1.t8 default).Entry).Op).Parent,(((lget s s1.t8 default).Entry).Op).Name,(((lget s s1.t8 default).Entry).Op).Key,(((lget s s1.t8 default).Entry).Op).Value⟩:GOp),((lget s s1.t8 default).Entry).Origin,((lget s s1.t8 default).Entry).Seq,((lget s s1.t8 default).Entry).Ops,(((lget s s1.t8 default).Entry).Epoch),((lget s s1.t8 default).Entry).From,((lget s s1.t8 default).Entry).Vector_,((lget s s1.t8 default).Entry).Clock,(((lget s s1.t8 default).Entry).Part),((lget s s1.t8 default).Entry).Site,((lget s s1.t8 default).Entry).Sponsor,((lget s s1.t8 default).Entry).Length⟩:z6)⟩:zd)).bind fun r3 =>
 (bif r3 then
 (some s1.t8)
 else
 (next2 ⟨(IntKind.i64.wrap (s1.t8 + 1))⟩)))
 else none)
 else
 (some (-1)))) ⟨0⟩)
def z3x:Con τ:={ args:=[.ty 69,.fn 148 []],L:=[],ret:=.ty 3,L':=[],R:=Int,dflt:=default,F:=fun N a b=>z2v N a.1,of:=fun r=>(r,()) }
noncomputable def zdq:Dat τ:={ D:=D0,tbl:=tblOf [(148,z93)],lp:=lpsOf [(2,zcz)],k0:=0,mu:=[],un:=[] }
theorem ze4:ConOk E C 159 z3x :=
  zg (D:=zdq) ⟨d0Ok,eGood,z9 ⟨znm,trivial⟩,fun _=>rfl⟩ z3x (fun a b=>a) none (fun _ _=>rfl) rfl (fun _ _ h=>nomatch h) 1000000 (fn:=Tryz.f159) Tryz.func159 rfl (by kernel_rfl) (by kernel_rfl) rfl (by intro N a b; kernel_rfl)
def z2g (N:Nat) (s:List (zd)):Option (Bool) :=
 ((z2v N s).bind fun r1 =>
 (some (decide (0≤r1))))
def z33:Con τ:={ args:=[.ty 69,.fn 148 []],L:=[],ret:=.ty 4,L':=[],R:=Bool,dflt:=default,F:=fun N a b=>z2g N a.1,of:=fun r=>(r,()) }
noncomputable def zbn:Dat τ:={ D:=D0,tbl:=tblOf [(159,z3x)],lp:=lpsOf [],k0:=0,mu:=[],un:=[] }
theorem zcq:ConOk E C 147 z33 :=
  zg (D:=zbn) ⟨d0Ok,eGood,z9 ⟨ze4,trivial⟩,fun _=>rfl⟩ z33 (fun a b=>a) none (fun _ _=>rfl) rfl (fun _ _ h=>nomatch h) 1000000 (fn:=Tryz.f147) Tryz.func147 rfl (by kernel_rfl) (by kernel_rfl) rfl (by intro N a b; kernel_rfl)
def z6x (N:Nat) (l:List (zd)) (least:Int) (most:Int):Option (Bool) :=
 ((bif ((decide (least≤((l).length:Int)))&&(decide (((l).length:Int)≤most))) then z2g N l else some default).bind fun r1 =>
 (some (((decide (least≤((l).length:Int)))&&(decide (((l).length:Int)≤most)))&&(!r1))))
def zab:Con τ:={ args:=[.ty 69,.ty 3,.ty 3],L:=[],ret:=.ty 4,L':=[],R:=Bool,dflt:=default,F:=fun N a b=>z6x N a.1 a.2.1 a.2.2.1,of:=fun r=>(r,()) }
noncomputable def zon:Dat τ:={ D:=D0,tbl:=tblOf [(147,z33)],lp:=lpsOf [],k0:=0,mu:=[],un:=[] }
theorem zpw:ConOk E C 117 zab :=
  zg (D:=zon) ⟨d0Ok,eGood,z9 ⟨zcq,trivial⟩,fun _=>rfl⟩ zab (fun a b=>a) none (fun _ _=>rfl) rfl (fun _ _ h=>nomatch h) 1000000 (fn:=Tryz.f117) Tryz.func117 rfl (by kernel_rfl) (by kernel_rfl) rfl (by intro N a b; kernel_rfl)
def z63 (N:Nat) (a:zd) (b:zd):Option (Bool) :=
 ((bif ((a.Slot==b.Slot)&&((a.Ballot.Round==b.Ballot.Round)&&(a.Ballot.Replica==b.Ballot.Replica))) then zk N a.Entry b.Entry else some default).bind fun r1 =>
 (some (((a.Slot==b.Slot)&&((a.Ballot.Round==b.Ballot.Round)&&(a.Ballot.Replica==b.Ballot.Replica)))&&r1)))
def z9m:Con τ:={ args:=[.ty 178,.ty 178],L:=[],ret:=.ty 4,L':=[],R:=Bool,dflt:=default,F:=fun N a b=>z63 N a.1 a.2.1,of:=fun r=>(r,()) }
noncomputable def znn:Dat τ:={ D:=D0,tbl:=tblOf [(110,z5v)],lp:=lpsOf [],k0:=0,mu:=[],un:=[] }
theorem zoo:ConOk E C 150 z9m :=
  zg (D:=znn) ⟨d0Ok,eGood,z9 ⟨zcf,trivial⟩,fun _=>rfl⟩ z9m (fun a b=>a) none (fun _ _=>rfl) rfl (fun _ _ h=>nomatch h) 1000000 (fn:=Tryz.f150) Tryz.func150 rfl (by kernel_rfl) (by kernel_rfl) rfl (by intro N a b; kernel_rfl)
structure z1k where
  t17:Int
def z3p:List Sl:=[.k,.k,.k,.k,.k,.k,.j,.j,.j,.j,.k,.k,.k,.k,.k,.k,.k,.sh (.ty 2),.j,.j,.j,.j,.j,.j,.j,.j,.j,.j,.j,.j,.j,.j]
def z3q:List ESh:=[]
def zd0 (a:Sl.Ts τ z3p) (b:ESh.Ts τ z3q):z1k:=⟨a.2.2.2.2.2.2.2.2.2.2.2.2.2.2.2.2.2.1⟩
def zd1 (s:z1k):Sl.Ts τ z3p:=((),(),(),(),(),(),(),(),(),(),(),(),(),(),(),(),(),s.t17,(),(),(),(),(),(),(),(),(),(),(),(),(),(),())
def zd2 (s:z1k):ESh.Ts τ z3q:=()
def zd3:Lp τ:={ ts:=z3p,hs:=z3q,S:=z1k,to:=zd0,ot:=zd1,oh:=zd2,hk:=[],tk:=[],ot_to:=fun _ _=>rfl,oh_to:=fun _ _=>rfl }
def z2w (N:Nat) (s1_:List (zd)) (s2_:List (zd)):Option (Bool) :=
 (bif (!(((s1_).length:Int)==((s2_).length:Int))) then
 (some false)
 else
 (iter N (fun (s1:z1k) next2 =>
 (bif (decide (s1.t17 < ((s1_).length:Int))) then
 (bif (ibB s1.t17 ((s1_).length:Int)) then
 (bif (ibB s1.t17 ((s2_).length:Int)) then
 ((z63 N (⟨(lget s1_ s1.t17 default).Slot,((lget s1_ s1.t17 default).Ballot),(⟨((lget s1_ s1.t17 default).Entry).Kind,((lget s1_ s1.t17 default).Entry).Session,((lget s1_ s1.t17 default).Entry).Request,(⟨((((lget s1_ s1.t17 default).Entry).Op).Stamp),(((lget s1_ s1.t17 default).Entry).Op).Kind,(((lget s1_ s1.t17 default).Entry).Op).Node,(((lget s1_ s1.t17 default).Entry).Op).Parent,(((lget s1_ s1.t17 default).Entry).Op).Name,(((lget s1_ s1.t17 default).Entry).Op).Key,(((lget s1_ s1.t17 default).Entry).Op).Value⟩:GOp),((lget s1_ s1.t17 default).Entry).Origin,((lget s1_ s1.t17 default).Entry).Seq,((lget s1_ s1.t17 default).Entry).Ops,(((lget s1_ s1.t17 default).Entry).Epoch),((lget s1_ s1.t17 default).Entry).From,((lget s1_ s1.t17 default).Entry).Vector_,((lget s1_ s1.t17 default).Entry).Clock,(((lget s1_ s1.t17 default).Entry).Part),((lget s1_ s1.t17 default).Entry).Site,((lget s1_ s1.t17 default).Entry).Sponsor,((lget s1_ s1.t17 default).Entry).Length⟩:z6)⟩:zd) (⟨(lget s2_ s1.t17 default).Slot,((lget s2_ s1.t17 default).Ballot),(⟨((lget s2_ s1.t17 default).Entry).Kind,((lget s2_ s1.t17 default).Entry).Session,((lget s2_ s1.t17 default).Entry).Request,(⟨((((lget s2_ s1.t17 default).Entry).Op).Stamp),(((lget s2_ s1.t17 default).Entry).Op).Kind,(((lget s2_ s1.t17 default).Entry).Op).Node,(((lget s2_ s1.t17 default).Entry).Op).Parent,(((lget s2_ s1.t17 default).Entry).Op).Name,(((lget s2_ s1.t17 default).Entry).Op).Key,(((lget s2_ s1.t17 default).Entry).Op).Value⟩:GOp),((lget s2_ s1.t17 default).Entry).Origin,((lget s2_ s1.t17 default).Entry).Seq,((lget s2_ s1.t17 default).Entry).Ops,(((lget s2_ s1.t17 default).Entry).Epoch),((lget s2_ s1.t17 default).Entry).From,((lget s2_ s1.t17 default).Entry).Vector_,((lget s2_ s1.t17 default).Entry).Clock,(((lget s2_ s1.t17 default).Entry).Part),((lget s2_ s1.t17 default).Entry).Site,((lget s2_ s1.t17 default).Entry).Sponsor,((lget s2_ s1.t17 default).Entry).Length⟩:z6)⟩:zd)).bind fun r3 =>
 (bif (!r3) then
 (some false)
 else
 (next2 ⟨(IntKind.i64.wrap (s1.t17 + 1))⟩)))
 else none)
 else none)
 else
 (some true))) ⟨0⟩))
def z3y:Con τ:={ args:=[.ty 69,.ty 69,.fn 150 []],L:=[],ret:=.ty 4,L':=[],R:=Bool,dflt:=default,F:=fun N a b=>z2w N a.1 a.2.1,of:=fun r=>(r,()) }
noncomputable def zdr:Dat τ:={ D:=D0,tbl:=tblOf [(150,z9m)],lp:=lpsOf [(4,zd3)],k0:=0,mu:=[],un:=[] }
theorem ze5:ConOk E C 149 z3y :=
  zg (D:=zdr) ⟨d0Ok,eGood,z9 ⟨zoo,trivial⟩,fun _=>rfl⟩ z3y (fun a b=>a) none (fun _ _=>rfl) rfl (fun _ _ h=>nomatch h) 1000000 (fn:=Tryz.f149) Tryz.func149 rfl (by kernel_rfl) (by kernel_rfl) rfl (by intro N a b; kernel_rfl)
def z9n (N:Nat) (a:GMsg) (b:GMsg):Option (Bool) :=
 ((bif (((((a.Kind==b.Kind)&&((a.From.Group==b.From.Group)&&(a.From.Replica==b.From.Replica)))&&((a.To.Group==b.To.Group)&&(a.To.Replica==b.To.Replica)))&&((a.Ballot.Round==b.Ballot.Round)&&(a.Ballot.Replica==b.Ballot.Replica)))&&(a.Slot==b.Slot)) then z2w N a.List_ b.List_ else some default).bind fun r1 =>
 ((bif ((((((a.Kind==b.Kind)&&((a.From.Group==b.From.Group)&&(a.From.Replica==b.From.Replica)))&&((a.To.Group==b.To.Group)&&(a.To.Replica==b.To.Replica)))&&((a.Ballot.Round==b.Ballot.Round)&&(a.Ballot.Replica==b.Ballot.Replica)))&&(a.Slot==b.Slot))&&r1) then zk N a.Entry b.Entry else some default).bind fun r2 =>
 ((bif (((((((((((a.Kind==b.Kind)&&((a.From.Group==b.From.Group)&&(a.From.Replica==b.From.Replica)))&&((a.To.Group==b.To.Group)&&(a.To.Replica==b.To.Replica)))&&((a.Ballot.Round==b.Ballot.Round)&&(a.Ballot.Replica==b.Ballot.Replica)))&&(a.Slot==b.Slot))&&r1)&&r2)&&(a.Number==b.Number))&&(vbeq beq2 a.Vector_ b.Vector_))&&(a.Clock==b.Clock))&&(a.Origin==b.Origin)) then z8t N a.Ops b.Ops else some default).bind fun r3 =>
 ((bif (((((((((((((a.Kind==b.Kind)&&((a.From.Group==b.From.Group)&&(a.From.Replica==b.From.Replica)))&&((a.To.Group==b.To.Group)&&(a.To.Replica==b.To.Replica)))&&((a.Ballot.Round==b.Ballot.Round)&&(a.Ballot.Replica==b.Ballot.Replica)))&&(a.Slot==b.Slot))&&r1)&&r2)&&(a.Number==b.Number))&&(vbeq beq2 a.Vector_ b.Vector_))&&(a.Clock==b.Clock))&&(a.Origin==b.Origin))&&r3)&&((a.Epoch.Number==b.Epoch.Number)&&((vbeq beq3 a.Epoch.States b.Epoch.States)&&((vbeq beq2 a.Epoch.Seals b.Epoch.Seals)&&(vbeq beq3 a.Epoch.Sponsor b.Epoch.Sponsor))))) then z8u N a.Part b.Part else some default).bind fun r4 =>
 (some ((((((((((((((a.Kind==b.Kind)&&((a.From.Group==b.From.Group)&&(a.From.Replica==b.From.Replica)))&&((a.To.Group==b.To.Group)&&(a.To.Replica==b.To.Replica)))&&((a.Ballot.Round==b.Ballot.Round)&&(a.Ballot.Replica==b.Ballot.Replica)))&&(a.Slot==b.Slot))&&r1)&&r2)&&(a.Number==b.Number))&&(vbeq beq2 a.Vector_ b.Vector_))&&(a.Clock==b.Clock))&&(a.Origin==b.Origin))&&r3)&&((a.Epoch.Number==b.Epoch.Number)&&((vbeq beq3 a.Epoch.States b.Epoch.States)&&((vbeq beq2 a.Epoch.Seals b.Epoch.Seals)&&(vbeq beq3 a.Epoch.Sponsor b.Epoch.Sponsor)))))&&r4))))))
def zds:Con τ:={ args:=[.ty 71,.ty 71],L:=[],ret:=.ty 4,L':=[],R:=Bool,dflt:=default,F:=fun N a b=>z9n N a.1 a.2.1,of:=fun r=>(r,()) }
noncomputable def zsp:Dat τ:={ D:=D0,tbl:=tblOf [(149,z3y),(110,z5v),(144,z96),(145,z97)],lp:=lpsOf [],k0:=0,mu:=[],un:=[] }
theorem zu4:ConOk E C 118 zds :=
  zg (D:=zsp) ⟨d0Ok,eGood,z9 ⟨ze5,⟨zcf,⟨zkl,⟨zkm,trivial⟩⟩⟩⟩,fun _=>rfl⟩ zds (fun a b=>a) none (fun _ _=>rfl) rfl (fun _ _ h=>nomatch h) 1000000 (fn:=Tryz.f118) Tryz.func118 rfl (by kernel_rfl) (by kernel_rfl) rfl (by intro N a b; kernel_rfl)
structure z8 where
  ok:Bool
  b0:GMsg
  b1:GMsg
def zbb:List Sl:=[.k,.sh (.ptr 0 []),.j,.sh (.ptr 1 []),.sh (.ty 4),.j,.j,.j,.j,.j,.j,.j,.j,.j,.j,.j,.j,.j,.j,.j,.j,.j,.j,.j,.j,.j,.j,.j,.j,.j,.j,.j,.j,.j,.j,.j,.j,.j,.j,.j,.j,.j,.j,.j,.j,.j,.j,.j,.j,.j,.j,.j,.j,.j,.j,.j,.j,.j,.j,.j,.j,.j,.j,.j,.j,.j,.j,.j,.j,.j,.j,.j,.j,.j,.j,.j,.j,.j,.j,.j,.j,.j,.j,.j,.j,.j,.j,.j,.j,.j,.j,.j,.j,.j,.j,.j,.j,.j,.j,.j,.j,.j,.j,.j,.j,.j,.j,.j,.j,.j,.j,.j,.j,.j,.j,.j,.j,.j,.j,.j,.j,.j,.j,.j,.j,.j,.j,.j,.j,.j,.j,.j,.j,.j,.j,.j,.j,.j,.j,.j,.j,.j,.j,.j,.j,.j,.j,.j,.j,.j,.j,.j,.j,.j,.j,.j,.j,.j,.j,.j,.j,.j,.j,.j,.k,.k,.k,.k,.k,.k,.k,.k,.k,.k,.k,.k,.k,.k,.k,.k,.k,.k,.k,.k,.k,.k,.k,.k,.k,.k,.k,.k,.k,.k,.k,.k,.k,.k,.k,.k,.k,.k,.k]
def zbc:List ESh:=[.box (.ty 70),.box (.ty 70)]
def zpx (a:Sl.Ts τ zbb) (b:ESh.Ts τ zbc):z8:=⟨a.2.2.2.2.1,b.1,b.2.1⟩
def zpy (s:z8):Sl.Ts τ zbb:=((),(),(),(),s.ok,(),(),(),(),(),(),(),(),(),(),(),(),(),(),(),(),(),(),(),(),(),(),(),(),(),(),(),(),(),(),(),(),(),(),(),(),(),(),(),(),(),(),(),(),(),(),(),(),(),(),(),(),(),(),(),(),(),(),(),(),(),(),(),(),(),(),(),(),(),(),(),(),(),(),(),(),(),(),(),(),(),(),(),(),(),(),(),(),(),(),(),(),(),(),(),(),(),(),(),(),(),(),(),(),(),(),(),(),(),(),(),(),(),(),(),(),(),(),(),(),(),(),(),(),(),(),(),(),(),(),(),(),(),(),(),(),(),(),(),(),(),(),(),(),(),(),(),(),(),(),(),(),(),(),(),(),(),(),(),(),(),(),(),(),(),(),(),(),(),(),(),(),(),(),(),(),(),(),(),(),(),(),(),(),(),(),(),(),(),(),(),(),(),(),(),(),(),(),())
def zpz (s:z8):ESh.Ts τ zbc:=(s.b0,s.b1,())
def zq0:Lp τ:={ ts:=zbb,hs:=zbc,S:=z8,to:=zpx,ot:=zpy,oh:=zpz,hk:=[],tk:=[],ot_to:=fun _ _=>rfl,oh_to:=fun _ _=>rfl }
def z10 (N:Nat) (m:GMsg):Option (z8 ⊕ (Int)) :=
 ((z17 N [m.From,m.To]).bind fun r1 =>
 (bif (m.Kind==1) then
 (bif (m.Kind==1) then
 (some (.inl (⟨r1,m,(⟨m.Kind,m.From,m.To,m.Ballot,m.Slot,[],(⟨0,0,0,(⟨(⟨0,0⟩:zj),0,0,0,[],[],[]⟩:GOp),0,0,[],(⟨0,(Vector.replicate 8 (default:Int)),(Vector.replicate 8 (default:Int)),(Vector.replicate 8 (default:Int))⟩:z7),0,(Vector.replicate 8 (default:Int)),0,(⟨0,0,0,[]⟩:GPart),0,0,0⟩:z6),0,(Vector.replicate 8 (default:Int)),0,0,[],(⟨0,(Vector.replicate 8 (default:Int)),(Vector.replicate 8 (default:Int)),(Vector.replicate 8 (default:Int))⟩:z7),(⟨0,0,0,[]⟩:GPart)⟩:GMsg)⟩:z8)))
 else
 (bif (m.Kind==2) then
 (some (.inl (⟨r1,m,(⟨m.Kind,m.From,m.To,m.Ballot,m.Slot,m.List_,(⟨0,0,0,(⟨(⟨0,0⟩:zj),0,0,0,[],[],[]⟩:GOp),0,0,[],(⟨0,(Vector.replicate 8 (default:Int)),(Vector.replicate 8 (default:Int)),(Vector.replicate 8 (default:Int))⟩:z7),0,(Vector.replicate 8 (default:Int)),0,(⟨0,0,0,[]⟩:GPart),0,0,0⟩:z6),0,(Vector.replicate 8 (default:Int)),0,0,[],(⟨0,(Vector.replicate 8 (default:Int)),(Vector.replicate 8 (default:Int)),(Vector.replicate 8 (default:Int))⟩:z7),(⟨0,0,0,[]⟩:GPart)⟩:GMsg)⟩:z8)))
 else
 (bif (m.Kind==3) then
 (some (.inl (⟨(r1&&(((m.List_).length:Int)==1)),m,(⟨m.Kind,m.From,m.To,m.Ballot,0,m.List_,(⟨0,0,0,(⟨(⟨0,0⟩:zj),0,0,0,[],[],[]⟩:GOp),0,0,[],(⟨0,(Vector.replicate 8 (default:Int)),(Vector.replicate 8 (default:Int)),(Vector.replicate 8 (default:Int))⟩:z7),0,(Vector.replicate 8 (default:Int)),0,(⟨0,0,0,[]⟩:GPart),0,0,0⟩:z6),0,(Vector.replicate 8 (default:Int)),0,0,[],(⟨0,(Vector.replicate 8 (default:Int)),(Vector.replicate 8 (default:Int)),(Vector.replicate 8 (default:Int))⟩:z7),(⟨0,0,0,[]⟩:GPart)⟩:GMsg)⟩:z8)))
 else
 (bif (m.Kind==5) then
 (some (.inl (⟨r1,m,(⟨m.Kind,m.From,m.To,m.Ballot,0,[],(⟨0,0,0,(⟨(⟨0,0⟩:zj),0,0,0,[],[],[]⟩:GOp),0,0,[],(⟨0,(Vector.replicate 8 (default:Int)),(Vector.replicate 8 (default:Int)),(Vector.replicate 8 (default:Int))⟩:z7),0,(Vector.replicate 8 (default:Int)),0,(⟨0,0,0,[]⟩:GPart),0,0,0⟩:z6),0,(Vector.replicate 8 (default:Int)),0,0,[],(⟨0,(Vector.replicate 8 (default:Int)),(Vector.replicate 8 (default:Int)),(Vector.replicate 8 (default:Int))⟩:z7),(⟨0,0,0,[]⟩:GPart)⟩:GMsg)⟩:z8)))
 else
 (bif (m.Kind==6) then
 (some (.inl (⟨(r1&&(decide (1≤((m.List_).length:Int)))),m,(⟨m.Kind,m.From,m.To,(⟨0,0⟩:zc),0,m.List_,(⟨0,0,0,(⟨(⟨0,0⟩:zj),0,0,0,[],[],[]⟩:GOp),0,0,[],(⟨0,(Vector.replicate 8 (default:Int)),(Vector.replicate 8 (default:Int)),(Vector.replicate 8 (default:Int))⟩:z7),0,(Vector.replicate 8 (default:Int)),0,(⟨0,0,0,[]⟩:GPart),0,0,0⟩:z6),0,(Vector.replicate 8 (default:Int)),0,0,[],(⟨0,(Vector.replicate 8 (default:Int)),(Vector.replicate 8 (default:Int)),(Vector.replicate 8 (default:Int))⟩:z7),(⟨0,0,0,[]⟩:GPart)⟩:GMsg)⟩:z8)))
 else
 (bif (m.Kind==8) then
 (some (.inl (⟨r1,m,(⟨m.Kind,m.From,m.To,(⟨0,0⟩:zc),m.Slot,[],(⟨0,0,0,(⟨(⟨0,0⟩:zj),0,0,0,[],[],[]⟩:GOp),0,0,[],(⟨0,(Vector.replicate 8 (default:Int)),(Vector.replicate 8 (default:Int)),(Vector.replicate 8 (default:Int))⟩:z7),0,(Vector.replicate 8 (default:Int)),0,(⟨0,0,0,[]⟩:GPart),0,0,0⟩:z6),0,(Vector.replicate 8 (default:Int)),0,0,[],(⟨0,(Vector.replicate 8 (default:Int)),(Vector.replicate 8 (default:Int)),(Vector.replicate 8 (default:Int))⟩:z7),(⟨0,0,0,[]⟩:GPart)⟩:GMsg)⟩:z8)))
 else
 (bif (m.Kind==9) then
 (some (.inl (⟨r1,m,(⟨m.Kind,m.From,m.To,(⟨0,0⟩:zc),0,[],m.Entry,0,(Vector.replicate 8 (default:Int)),0,0,[],(⟨0,(Vector.replicate 8 (default:Int)),(Vector.replicate 8 (default:Int)),(Vector.replicate 8 (default:Int))⟩:z7),(⟨0,0,0,[]⟩:GPart)⟩:GMsg)⟩:z8)))
 else
 (bif (m.Kind==10) then
 (some (.inl (⟨r1,m,(⟨m.Kind,m.From,m.To,(⟨0,0⟩:zc),0,[],(⟨0,0,0,(⟨(⟨0,0⟩:zj),0,0,0,[],[],[]⟩:GOp),0,0,[],(⟨0,(Vector.replicate 8 (default:Int)),(Vector.replicate 8 (default:Int)),(Vector.replicate 8 (default:Int))⟩:z7),0,(Vector.replicate 8 (default:Int)),0,(⟨0,0,0,[]⟩:GPart),0,0,0⟩:z6),m.Number,m.Vector_,m.Clock,0,[],(⟨0,(Vector.replicate 8 (default:Int)),(Vector.replicate 8 (default:Int)),(Vector.replicate 8 (default:Int))⟩:z7),(⟨0,0,0,[]⟩:GPart)⟩:GMsg)⟩:z8)))
 else
 (bif (m.Kind==11) then
 ((bif r1 then z1n N [m.Origin] else some default).bind fun r2 =>
 ((bif (r1&&r2) then z42 N m.Ops 1 else some default).bind fun r3 =>
 (some (.inl (⟨((r1&&r2)&&r3),m,(⟨m.Kind,m.From,m.To,(⟨0,0⟩:zc),m.Slot,[],(⟨0,0,0,(⟨(⟨0,0⟩:zj),0,0,0,[],[],[]⟩:GOp),0,0,[],(⟨0,(Vector.replicate 8 (default:Int)),(Vector.replicate 8 (default:Int)),(Vector.replicate 8 (default:Int))⟩:z7),0,(Vector.replicate 8 (default:Int)),0,(⟨0,0,0,[]⟩:GPart),0,0,0⟩:z6),m.Number,(Vector.replicate 8 (default:Int)),0,m.Origin,m.Ops,(⟨0,(Vector.replicate 8 (default:Int)),(Vector.replicate 8 (default:Int)),(Vector.replicate 8 (default:Int))⟩:z7),(⟨0,0,0,[]⟩:GPart)⟩:GMsg)⟩:z8)))))
 else
 (bif (m.Kind==12) then
 ((bif r1 then z2u N m.Epoch else some default).bind fun r4 =>
 (some (.inl (⟨(r1&&r4),m,(⟨m.Kind,m.From,m.To,(⟨0,0⟩:zc),0,[],(⟨0,0,0,(⟨(⟨0,0⟩:zj),0,0,0,[],[],[]⟩:GOp),0,0,[],(⟨0,(Vector.replicate 8 (default:Int)),(Vector.replicate 8 (default:Int)),(Vector.replicate 8 (default:Int))⟩:z7),0,(Vector.replicate 8 (default:Int)),0,(⟨0,0,0,[]⟩:GPart),0,0,0⟩:z6),0,(Vector.replicate 8 (default:Int)),0,0,[],m.Epoch,(⟨0,0,0,[]⟩:GPart)⟩:GMsg)⟩:z8))))
 else
 (bif (m.Kind==13) then
 ((bif r1 then z1v N m.Part else some default).bind fun r5 =>
 (some (.inl (⟨(r1&&r5),m,(⟨m.Kind,m.From,m.To,(⟨0,0⟩:zc),0,[],(⟨0,0,0,(⟨(⟨0,0⟩:zj),0,0,0,[],[],[]⟩:GOp),0,0,[],(⟨0,(Vector.replicate 8 (default:Int)),(Vector.replicate 8 (default:Int)),(Vector.replicate 8 (default:Int))⟩:z7),0,(Vector.replicate 8 (default:Int)),0,(⟨0,0,0,[]⟩:GPart),0,0,0⟩:z6),0,(Vector.replicate 8 (default:Int)),0,0,[],(⟨0,(Vector.replicate 8 (default:Int)),(Vector.replicate 8 (default:Int)),(Vector.replicate 8 (default:Int))⟩:z7),m.Part⟩:GMsg)⟩:z8))))
 else
 (bif (m.Kind==14) then
 (some (.inl (⟨r1,m,(⟨m.Kind,m.From,m.To,(⟨0,0⟩:zc),0,[],(⟨0,0,0,(⟨(⟨0,0⟩:zj),0,0,0,[],[],[]⟩:GOp),0,0,[],(⟨0,(Vector.replicate 8 (default:Int)),(Vector.replicate 8 (default:Int)),(Vector.replicate 8 (default:Int))⟩:z7),0,(Vector.replicate 8 (default:Int)),0,(⟨0,0,0,[]⟩:GPart),0,0,0⟩:z6),m.Number,m.Vector_,0,0,[],(⟨0,(Vector.replicate 8 (default:Int)),(Vector.replicate 8 (default:Int)),(Vector.replicate 8 (default:Int))⟩:z7),(⟨0,0,0,[]⟩:GPart)⟩:GMsg)⟩:z8)))
 else
 (bif (m.Kind==15) then
 ((bif r1 then z1v N m.Part else some default).bind fun r6 =>
 (some (.inl (⟨(r1&&r6),m,(⟨m.Kind,m.From,m.To,(⟨0,0⟩:zc),m.Slot,[],(⟨0,0,0,(⟨(⟨0,0⟩:zj),0,0,0,[],[],[]⟩:GOp),0,0,[],(⟨0,(Vector.replicate 8 (default:Int)),(Vector.replicate 8 (default:Int)),(Vector.replicate 8 (default:Int))⟩:z7),0,(Vector.replicate 8 (default:Int)),0,(⟨0,0,0,[]⟩:GPart),0,0,0⟩:z6),0,(Vector.replicate 8 (default:Int)),0,0,[],(⟨0,(Vector.replicate 8 (default:Int)),(Vector.replicate 8 (default:Int)),(Vector.replicate 8 (default:Int))⟩:z7),m.Part⟩:GMsg)⟩:z8))))
 else
 (some (.inl (⟨false,m,(⟨m.Kind,m.From,m.To,(⟨0,0⟩:zc),0,[],(⟨0,0,0,(⟨(⟨0,0⟩:zj),0,0,0,[],[],[]⟩:GOp),0,0,[],(⟨0,(Vector.replicate 8 (default:Int)),(Vector.replicate 8 (default:Int)),(Vector.replicate 8 (default:Int))⟩:z7),0,(Vector.replicate 8 (default:Int)),0,(⟨0,0,0,[]⟩:GPart),0,0,0⟩:z6),0,(Vector.replicate 8 (default:Int)),0,0,[],(⟨0,(Vector.replicate 8 (default:Int)),(Vector.replicate 8 (default:Int)),(Vector.replicate 8 (default:Int))⟩:z7),(⟨0,0,0,[]⟩:GPart)⟩:GMsg)⟩:z8))))))))))))))))
 else
 (bif (m.Kind==4) then
 (bif (m.Kind==4) then
 (some (.inl (⟨r1,m,(⟨m.Kind,m.From,m.To,m.Ballot,m.Slot,[],(⟨0,0,0,(⟨(⟨0,0⟩:zj),0,0,0,[],[],[]⟩:GOp),0,0,[],(⟨0,(Vector.replicate 8 (default:Int)),(Vector.replicate 8 (default:Int)),(Vector.replicate 8 (default:Int))⟩:z7),0,(Vector.replicate 8 (default:Int)),0,(⟨0,0,0,[]⟩:GPart),0,0,0⟩:z6),0,(Vector.replicate 8 (default:Int)),0,0,[],(⟨0,(Vector.replicate 8 (default:Int)),(Vector.replicate 8 (default:Int)),(Vector.replicate 8 (default:Int))⟩:z7),(⟨0,0,0,[]⟩:GPart)⟩:GMsg)⟩:z8)))
 else
 (bif (m.Kind==2) then
 (some (.inl (⟨r1,m,(⟨m.Kind,m.From,m.To,m.Ballot,m.Slot,m.List_,(⟨0,0,0,(⟨(⟨0,0⟩:zj),0,0,0,[],[],[]⟩:GOp),0,0,[],(⟨0,(Vector.replicate 8 (default:Int)),(Vector.replicate 8 (default:Int)),(Vector.replicate 8 (default:Int))⟩:z7),0,(Vector.replicate 8 (default:Int)),0,(⟨0,0,0,[]⟩:GPart),0,0,0⟩:z6),0,(Vector.replicate 8 (default:Int)),0,0,[],(⟨0,(Vector.replicate 8 (default:Int)),(Vector.replicate 8 (default:Int)),(Vector.replicate 8 (default:Int))⟩:z7),(⟨0,0,0,[]⟩:GPart)⟩:GMsg)⟩:z8)))
 else
 (bif (m.Kind==3) then
 (some (.inl (⟨(r1&&(((m.List_).length:Int)==1)),m,(⟨m.Kind,m.From,m.To,m.Ballot,0,m.List_,(⟨0,0,0,(⟨(⟨0,0⟩:zj),0,0,0,[],[],[]⟩:GOp),0,0,[],(⟨0,(Vector.replicate 8 (default:Int)),(Vector.replicate 8 (default:Int)),(Vector.replicate 8 (default:Int))⟩:z7),0,(Vector.replicate 8 (default:Int)),0,(⟨0,0,0,[]⟩:GPart),0,0,0⟩:z6),0,(Vector.replicate 8 (default:Int)),0,0,[],(⟨0,(Vector.replicate 8 (default:Int)),(Vector.replicate 8 (default:Int)),(Vector.replicate 8 (default:Int))⟩:z7),(⟨0,0,0,[]⟩:GPart)⟩:GMsg)⟩:z8)))
 else
 (bif (m.Kind==5) then
 (some (.inl (⟨r1,m,(⟨m.Kind,m.From,m.To,m.Ballot,0,[],(⟨0,0,0,(⟨(⟨0,0⟩:zj),0,0,0,[],[],[]⟩:GOp),0,0,[],(⟨0,(Vector.replicate 8 (default:Int)),(Vector.replicate 8 (default:Int)),(Vector.replicate 8 (default:Int))⟩:z7),0,(Vector.replicate 8 (default:Int)),0,(⟨0,0,0,[]⟩:GPart),0,0,0⟩:z6),0,(Vector.replicate 8 (default:Int)),0,0,[],(⟨0,(Vector.replicate 8 (default:Int)),(Vector.replicate 8 (default:Int)),(Vector.replicate 8 (default:Int))⟩:z7),(⟨0,0,0,[]⟩:GPart)⟩:GMsg)⟩:z8)))
 else
 (bif (m.Kind==6) then
 (some (.inl (⟨(r1&&(decide (1≤((m.List_).length:Int)))),m,(⟨m.Kind,m.From,m.To,(⟨0,0⟩:zc),0,m.List_,(⟨0,0,0,(⟨(⟨0,0⟩:zj),0,0,0,[],[],[]⟩:GOp),0,0,[],(⟨0,(Vector.replicate 8 (default:Int)),(Vector.replicate 8 (default:Int)),(Vector.replicate 8 (default:Int))⟩:z7),0,(Vector.replicate 8 (default:Int)),0,(⟨0,0,0,[]⟩:GPart),0,0,0⟩:z6),0,(Vector.replicate 8 (default:Int)),0,0,[],(⟨0,(Vector.replicate 8 (default:Int)),(Vector.replicate 8 (default:Int)),(Vector.replicate 8 (default:Int))⟩:z7),(⟨0,0,0,[]⟩:GPart)⟩:GMsg)⟩:z8)))
 else
 (bif (m.Kind==8) then
 (some (.inl (⟨r1,m,(⟨m.Kind,m.From,m.To,(⟨0,0⟩:zc),m.Slot,[],(⟨0,0,0,(⟨(⟨0,0⟩:zj),0,0,0,[],[],[]⟩:GOp),0,0,[],(⟨0,(Vector.replicate 8 (default:Int)),(Vector.replicate 8 (default:Int)),(Vector.replicate 8 (default:Int))⟩:z7),0,(Vector.replicate 8 (default:Int)),0,(⟨0,0,0,[]⟩:GPart),0,0,0⟩:z6),0,(Vector.replicate 8 (default:Int)),0,0,[],(⟨0,(Vector.replicate 8 (default:Int)),(Vector.replicate 8 (default:Int)),(Vector.replicate 8 (default:Int))⟩:z7),(⟨0,0,0,[]⟩:GPart)⟩:GMsg)⟩:z8)))
 else
 (bif (m.Kind==9) then
 (some (.inl (⟨r1,m,(⟨m.Kind,m.From,m.To,(⟨0,0⟩:zc),0,[],m.Entry,0,(Vector.replicate 8 (default:Int)),0,0,[],(⟨0,(Vector.replicate 8 (default:Int)),(Vector.replicate 8 (default:Int)),(Vector.replicate 8 (default:Int))⟩:z7),(⟨0,0,0,[]⟩:GPart)⟩:GMsg)⟩:z8)))
 else
 (bif (m.Kind==10) then
 (some (.inl (⟨r1,m,(⟨m.Kind,m.From,m.To,(⟨0,0⟩:zc),0,[],(⟨0,0,0,(⟨(⟨0,0⟩:zj),0,0,0,[],[],[]⟩:GOp),0,0,[],(⟨0,(Vector.replicate 8 (default:Int)),(Vector.replicate 8 (default:Int)),(Vector.replicate 8 (default:Int))⟩:z7),0,(Vector.replicate 8 (default:Int)),0,(⟨0,0,0,[]⟩:GPart),0,0,0⟩:z6),m.Number,m.Vector_,m.Clock,0,[],(⟨0,(Vector.replicate 8 (default:Int)),(Vector.replicate 8 (default:Int)),(Vector.replicate 8 (default:Int))⟩:z7),(⟨0,0,0,[]⟩:GPart)⟩:GMsg)⟩:z8)))
 else
 (bif (m.Kind==11) then
 ((bif r1 then z1n N [m.Origin] else some default).bind fun r7 =>
 ((bif (r1&&r7) then z42 N m.Ops 1 else some default).bind fun r8 =>
 (some (.inl (⟨((r1&&r7)&&r8),m,(⟨m.Kind,m.From,m.To,(⟨0,0⟩:zc),m.Slot,[],(⟨0,0,0,(⟨(⟨0,0⟩:zj),0,0,0,[],[],[]⟩:GOp),0,0,[],(⟨0,(Vector.replicate 8 (default:Int)),(Vector.replicate 8 (default:Int)),(Vector.replicate 8 (default:Int))⟩:z7),0,(Vector.replicate 8 (default:Int)),0,(⟨0,0,0,[]⟩:GPart),0,0,0⟩:z6),m.Number,(Vector.replicate 8 (default:Int)),0,m.Origin,m.Ops,(⟨0,(Vector.replicate 8 (default:Int)),(Vector.replicate 8 (default:Int)),(Vector.replicate 8 (default:Int))⟩:z7),(⟨0,0,0,[]⟩:GPart)⟩:GMsg)⟩:z8)))))
 else
 (bif (m.Kind==12) then
 ((bif r1 then z2u N m.Epoch else some default).bind fun r9 =>
 (some (.inl (⟨(r1&&r9),m,(⟨m.Kind,m.From,m.To,(⟨0,0⟩:zc),0,[],(⟨0,0,0,(⟨(⟨0,0⟩:zj),0,0,0,[],[],[]⟩:GOp),0,0,[],(⟨0,(Vector.replicate 8 (default:Int)),(Vector.replicate 8 (default:Int)),(Vector.replicate 8 (default:Int))⟩:z7),0,(Vector.replicate 8 (default:Int)),0,(⟨0,0,0,[]⟩:GPart),0,0,0⟩:z6),0,(Vector.replicate 8 (default:Int)),0,0,[],m.Epoch,(⟨0,0,0,[]⟩:GPart)⟩:GMsg)⟩:z8))))
 else
 (bif (m.Kind==13) then
 ((bif r1 then z1v N m.Part else some default).bind fun r10 =>
 (some (.inl (⟨(r1&&r10),m,(⟨m.Kind,m.From,m.To,(⟨0,0⟩:zc),0,[],(⟨0,0,0,(⟨(⟨0,0⟩:zj),0,0,0,[],[],[]⟩:GOp),0,0,[],(⟨0,(Vector.replicate 8 (default:Int)),(Vector.replicate 8 (default:Int)),(Vector.replicate 8 (default:Int))⟩:z7),0,(Vector.replicate 8 (default:Int)),0,(⟨0,0,0,[]⟩:GPart),0,0,0⟩:z6),0,(Vector.replicate 8 (default:Int)),0,0,[],(⟨0,(Vector.replicate 8 (default:Int)),(Vector.replicate 8 (default:Int)),(Vector.replicate 8 (default:Int))⟩:z7),m.Part⟩:GMsg)⟩:z8))))
 else
 (bif (m.Kind==14) then
 (some (.inl (⟨r1,m,(⟨m.Kind,m.From,m.To,(⟨0,0⟩:zc),0,[],(⟨0,0,0,(⟨(⟨0,0⟩:zj),0,0,0,[],[],[]⟩:GOp),0,0,[],(⟨0,(Vector.replicate 8 (default:Int)),(Vector.replicate 8 (default:Int)),(Vector.replicate 8 (default:Int))⟩:z7),0,(Vector.replicate 8 (default:Int)),0,(⟨0,0,0,[]⟩:GPart),0,0,0⟩:z6),m.Number,m.Vector_,0,0,[],(⟨0,(Vector.replicate 8 (default:Int)),(Vector.replicate 8 (default:Int)),(Vector.replicate 8 (default:Int))⟩:z7),(⟨0,0,0,[]⟩:GPart)⟩:GMsg)⟩:z8)))
 else
 (bif (m.Kind==15) then
 ((bif r1 then z1v N m.Part else some default).bind fun r11 =>
 (some (.inl (⟨(r1&&r11),m,(⟨m.Kind,m.From,m.To,(⟨0,0⟩:zc),m.Slot,[],(⟨0,0,0,(⟨(⟨0,0⟩:zj),0,0,0,[],[],[]⟩:GOp),0,0,[],(⟨0,(Vector.replicate 8 (default:Int)),(Vector.replicate 8 (default:Int)),(Vector.replicate 8 (default:Int))⟩:z7),0,(Vector.replicate 8 (default:Int)),0,(⟨0,0,0,[]⟩:GPart),0,0,0⟩:z6),0,(Vector.replicate 8 (default:Int)),0,0,[],(⟨0,(Vector.replicate 8 (default:Int)),(Vector.replicate 8 (default:Int)),(Vector.replicate 8 (default:Int))⟩:z7),m.Part⟩:GMsg)⟩:z8))))
 else
 (some (.inl (⟨false,m,(⟨m.Kind,m.From,m.To,(⟨0,0⟩:zc),0,[],(⟨0,0,0,(⟨(⟨0,0⟩:zj),0,0,0,[],[],[]⟩:GOp),0,0,[],(⟨0,(Vector.replicate 8 (default:Int)),(Vector.replicate 8 (default:Int)),(Vector.replicate 8 (default:Int))⟩:z7),0,(Vector.replicate 8 (default:Int)),0,(⟨0,0,0,[]⟩:GPart),0,0,0⟩:z6),0,(Vector.replicate 8 (default:Int)),0,0,[],(⟨0,(Vector.replicate 8 (default:Int)),(Vector.replicate 8 (default:Int)),(Vector.replicate 8 (default:Int))⟩:z7),(⟨0,0,0,[]⟩:GPart)⟩:GMsg)⟩:z8))))))))))))))))
 else
 (bif (m.Kind==7) then
 (some (.inl (⟨r1,m,(⟨m.Kind,m.From,m.To,m.Ballot,m.Slot,[],(⟨0,0,0,(⟨(⟨0,0⟩:zj),0,0,0,[],[],[]⟩:GOp),0,0,[],(⟨0,(Vector.replicate 8 (default:Int)),(Vector.replicate 8 (default:Int)),(Vector.replicate 8 (default:Int))⟩:z7),0,(Vector.replicate 8 (default:Int)),0,(⟨0,0,0,[]⟩:GPart),0,0,0⟩:z6),0,(Vector.replicate 8 (default:Int)),0,0,[],(⟨0,(Vector.replicate 8 (default:Int)),(Vector.replicate 8 (default:Int)),(Vector.replicate 8 (default:Int))⟩:z7),(⟨0,0,0,[]⟩:GPart)⟩:GMsg)⟩:z8)))
 else
 (bif (m.Kind==2) then
 (some (.inl (⟨r1,m,(⟨m.Kind,m.From,m.To,m.Ballot,m.Slot,m.List_,(⟨0,0,0,(⟨(⟨0,0⟩:zj),0,0,0,[],[],[]⟩:GOp),0,0,[],(⟨0,(Vector.replicate 8 (default:Int)),(Vector.replicate 8 (default:Int)),(Vector.replicate 8 (default:Int))⟩:z7),0,(Vector.replicate 8 (default:Int)),0,(⟨0,0,0,[]⟩:GPart),0,0,0⟩:z6),0,(Vector.replicate 8 (default:Int)),0,0,[],(⟨0,(Vector.replicate 8 (default:Int)),(Vector.replicate 8 (default:Int)),(Vector.replicate 8 (default:Int))⟩:z7),(⟨0,0,0,[]⟩:GPart)⟩:GMsg)⟩:z8)))
 else
 (bif (m.Kind==3) then
 (some (.inl (⟨(r1&&(((m.List_).length:Int)==1)),m,(⟨m.Kind,m.From,m.To,m.Ballot,0,m.List_,(⟨0,0,0,(⟨(⟨0,0⟩:zj),0,0,0,[],[],[]⟩:GOp),0,0,[],(⟨0,(Vector.replicate 8 (default:Int)),(Vector.replicate 8 (default:Int)),(Vector.replicate 8 (default:Int))⟩:z7),0,(Vector.replicate 8 (default:Int)),0,(⟨0,0,0,[]⟩:GPart),0,0,0⟩:z6),0,(Vector.replicate 8 (default:Int)),0,0,[],(⟨0,(Vector.replicate 8 (default:Int)),(Vector.replicate 8 (default:Int)),(Vector.replicate 8 (default:Int))⟩:z7),(⟨0,0,0,[]⟩:GPart)⟩:GMsg)⟩:z8)))
 else
 (bif (m.Kind==5) then
 (some (.inl (⟨r1,m,(⟨m.Kind,m.From,m.To,m.Ballot,0,[],(⟨0,0,0,(⟨(⟨0,0⟩:zj),0,0,0,[],[],[]⟩:GOp),0,0,[],(⟨0,(Vector.replicate 8 (default:Int)),(Vector.replicate 8 (default:Int)),(Vector.replicate 8 (default:Int))⟩:z7),0,(Vector.replicate 8 (default:Int)),0,(⟨0,0,0,[]⟩:GPart),0,0,0⟩:z6),0,(Vector.replicate 8 (default:Int)),0,0,[],(⟨0,(Vector.replicate 8 (default:Int)),(Vector.replicate 8 (default:Int)),(Vector.replicate 8 (default:Int))⟩:z7),(⟨0,0,0,[]⟩:GPart)⟩:GMsg)⟩:z8)))
 else
 (bif (m.Kind==6) then
 (some (.inl (⟨(r1&&(decide (1≤((m.List_).length:Int)))),m,(⟨m.Kind,m.From,m.To,(⟨0,0⟩:zc),0,m.List_,(⟨0,0,0,(⟨(⟨0,0⟩:zj),0,0,0,[],[],[]⟩:GOp),0,0,[],(⟨0,(Vector.replicate 8 (default:Int)),(Vector.replicate 8 (default:Int)),(Vector.replicate 8 (default:Int))⟩:z7),0,(Vector.replicate 8 (default:Int)),0,(⟨0,0,0,[]⟩:GPart),0,0,0⟩:z6),0,(Vector.replicate 8 (default:Int)),0,0,[],(⟨0,(Vector.replicate 8 (default:Int)),(Vector.replicate 8 (default:Int)),(Vector.replicate 8 (default:Int))⟩:z7),(⟨0,0,0,[]⟩:GPart)⟩:GMsg)⟩:z8)))
 else
 (bif (m.Kind==8) then
 (some (.inl (⟨r1,m,(⟨m.Kind,m.From,m.To,(⟨0,0⟩:zc),m.Slot,[],(⟨0,0,0,(⟨(⟨0,0⟩:zj),0,0,0,[],[],[]⟩:GOp),0,0,[],(⟨0,(Vector.replicate 8 (default:Int)),(Vector.replicate 8 (default:Int)),(Vector.replicate 8 (default:Int))⟩:z7),0,(Vector.replicate 8 (default:Int)),0,(⟨0,0,0,[]⟩:GPart),0,0,0⟩:z6),0,(Vector.replicate 8 (default:Int)),0,0,[],(⟨0,(Vector.replicate 8 (default:Int)),(Vector.replicate 8 (default:Int)),(Vector.replicate 8 (default:Int))⟩:z7),(⟨0,0,0,[]⟩:GPart)⟩:GMsg)⟩:z8)))
 else
 (bif (m.Kind==9) then
 (some (.inl (⟨r1,m,(⟨m.Kind,m.From,m.To,(⟨0,0⟩:zc),0,[],m.Entry,0,(Vector.replicate 8 (default:Int)),0,0,[],(⟨0,(Vector.replicate 8 (default:Int)),(Vector.replicate 8 (default:Int)),(Vector.replicate 8 (default:Int))⟩:z7),(⟨0,0,0,[]⟩:GPart)⟩:GMsg)⟩:z8)))
 else
 (bif (m.Kind==10) then
 (some (.inl (⟨r1,m,(⟨m.Kind,m.From,m.To,(⟨0,0⟩:zc),0,[],(⟨0,0,0,(⟨(⟨0,0⟩:zj),0,0,0,[],[],[]⟩:GOp),0,0,[],(⟨0,(Vector.replicate 8 (default:Int)),(Vector.replicate 8 (default:Int)),(Vector.replicate 8 (default:Int))⟩:z7),0,(Vector.replicate 8 (default:Int)),0,(⟨0,0,0,[]⟩:GPart),0,0,0⟩:z6),m.Number,m.Vector_,m.Clock,0,[],(⟨0,(Vector.replicate 8 (default:Int)),(Vector.replicate 8 (default:Int)),(Vector.replicate 8 (default:Int))⟩:z7),(⟨0,0,0,[]⟩:GPart)⟩:GMsg)⟩:z8)))
 else
 (bif (m.Kind==11) then
 ((bif r1 then z1n N [m.Origin] else some default).bind fun r12 =>
 ((bif (r1&&r12) then z42 N m.Ops 1 else some default).bind fun r13 =>
 (some (.inl (⟨((r1&&r12)&&r13),m,(⟨m.Kind,m.From,m.To,(⟨0,0⟩:zc),m.Slot,[],(⟨0,0,0,(⟨(⟨0,0⟩:zj),0,0,0,[],[],[]⟩:GOp),0,0,[],(⟨0,(Vector.replicate 8 (default:Int)),(Vector.replicate 8 (default:Int)),(Vector.replicate 8 (default:Int))⟩:z7),0,(Vector.replicate 8 (default:Int)),0,(⟨0,0,0,[]⟩:GPart),0,0,0⟩:z6),m.Number,(Vector.replicate 8 (default:Int)),0,m.Origin,m.Ops,(⟨0,(Vector.replicate 8 (default:Int)),(Vector.replicate 8 (default:Int)),(Vector.replicate 8 (default:Int))⟩:z7),(⟨0,0,0,[]⟩:GPart)⟩:GMsg)⟩:z8)))))
 else
 (bif (m.Kind==12) then
 ((bif r1 then z2u N m.Epoch else some default).bind fun r14 =>
 (some (.inl (⟨(r1&&r14),m,(⟨m.Kind,m.From,m.To,(⟨0,0⟩:zc),0,[],(⟨0,0,0,(⟨(⟨0,0⟩:zj),0,0,0,[],[],[]⟩:GOp),0,0,[],(⟨0,(Vector.replicate 8 (default:Int)),(Vector.replicate 8 (default:Int)),(Vector.replicate 8 (default:Int))⟩:z7),0,(Vector.replicate 8 (default:Int)),0,(⟨0,0,0,[]⟩:GPart),0,0,0⟩:z6),0,(Vector.replicate 8 (default:Int)),0,0,[],m.Epoch,(⟨0,0,0,[]⟩:GPart)⟩:GMsg)⟩:z8))))
 else
 (bif (m.Kind==13) then
 ((bif r1 then z1v N m.Part else some default).bind fun r15 =>
 (some (.inl (⟨(r1&&r15),m,(⟨m.Kind,m.From,m.To,(⟨0,0⟩:zc),0,[],(⟨0,0,0,(⟨(⟨0,0⟩:zj),0,0,0,[],[],[]⟩:GOp),0,0,[],(⟨0,(Vector.replicate 8 (default:Int)),(Vector.replicate 8 (default:Int)),(Vector.replicate 8 (default:Int))⟩:z7),0,(Vector.replicate 8 (default:Int)),0,(⟨0,0,0,[]⟩:GPart),0,0,0⟩:z6),0,(Vector.replicate 8 (default:Int)),0,0,[],(⟨0,(Vector.replicate 8 (default:Int)),(Vector.replicate 8 (default:Int)),(Vector.replicate 8 (default:Int))⟩:z7),m.Part⟩:GMsg)⟩:z8))))
 else
 (bif (m.Kind==14) then
 (some (.inl (⟨r1,m,(⟨m.Kind,m.From,m.To,(⟨0,0⟩:zc),0,[],(⟨0,0,0,(⟨(⟨0,0⟩:zj),0,0,0,[],[],[]⟩:GOp),0,0,[],(⟨0,(Vector.replicate 8 (default:Int)),(Vector.replicate 8 (default:Int)),(Vector.replicate 8 (default:Int))⟩:z7),0,(Vector.replicate 8 (default:Int)),0,(⟨0,0,0,[]⟩:GPart),0,0,0⟩:z6),m.Number,m.Vector_,0,0,[],(⟨0,(Vector.replicate 8 (default:Int)),(Vector.replicate 8 (default:Int)),(Vector.replicate 8 (default:Int))⟩:z7),(⟨0,0,0,[]⟩:GPart)⟩:GMsg)⟩:z8)))
 else
 (bif (m.Kind==15) then
 ((bif r1 then z1v N m.Part else some default).bind fun r16 =>
 (some (.inl (⟨(r1&&r16),m,(⟨m.Kind,m.From,m.To,(⟨0,0⟩:zc),m.Slot,[],(⟨0,0,0,(⟨(⟨0,0⟩:zj),0,0,0,[],[],[]⟩:GOp),0,0,[],(⟨0,(Vector.replicate 8 (default:Int)),(Vector.replicate 8 (default:Int)),(Vector.replicate 8 (default:Int))⟩:z7),0,(Vector.replicate 8 (default:Int)),0,(⟨0,0,0,[]⟩:GPart),0,0,0⟩:z6),0,(Vector.replicate 8 (default:Int)),0,0,[],(⟨0,(Vector.replicate 8 (default:Int)),(Vector.replicate 8 (default:Int)),(Vector.replicate 8 (default:Int))⟩:z7),m.Part⟩:GMsg)⟩:z8))))
 else
 (some (.inl (⟨false,m,(⟨m.Kind,m.From,m.To,(⟨0,0⟩:zc),0,[],(⟨0,0,0,(⟨(⟨0,0⟩:zj),0,0,0,[],[],[]⟩:GOp),0,0,[],(⟨0,(Vector.replicate 8 (default:Int)),(Vector.replicate 8 (default:Int)),(Vector.replicate 8 (default:Int))⟩:z7),0,(Vector.replicate 8 (default:Int)),0,(⟨0,0,0,[]⟩:GPart),0,0,0⟩:z6),0,(Vector.replicate 8 (default:Int)),0,0,[],(⟨0,(Vector.replicate 8 (default:Int)),(Vector.replicate 8 (default:Int)),(Vector.replicate 8 (default:Int))⟩:z7),(⟨0,0,0,[]⟩:GPart)⟩:GMsg)⟩:z8)))))))))))))))))))
def z8v (N:Nat) (m:GMsg) (s:z8):Option (Int) :=
 ((bif s.ok then z88 N s.b1.Ballot else some default).bind fun r17 =>
 ((bif (s.ok&&r17) then z12 N [s.b1.Slot,s.b1.Number,s.b1.Clock] else some default).bind fun r18 =>
 (bif ((s.ok&&r17)&&r18) then
 ((bif ((s.ok&&r17)&&r18) then z12 N (s.b1.Vector_.toList) else some default).bind fun r19 =>
 ((bif (((s.ok&&r17)&&r18)&&r19) then z6x N s.b1.List_ 0 4096 else some default).bind fun r20 =>
 ((bif ((((s.ok&&r17)&&r18)&&r19)&&r20) then zy N s.b1.Entry else some default).bind fun r21 =>
 ((bif (((((s.ok&&r17)&&r18)&&r19)&&r20)&&(r21==0)) then z9n N s.b1 s.b0 else some default).bind fun r22 =>
 ((zw N ((((((s.ok&&r17)&&r18)&&r19)&&r20)&&(r21==0))&&r22)).bind fun r23 =>
 (some r23))))))
 else
 ((bif false then z6x N s.b1.List_ 0 4096 else some default).bind fun r24 =>
 ((bif false then zy N s.b1.Entry else some default).bind fun r25 =>
 ((bif false then z9n N s.b1 s.b0 else some default).bind fun r26 =>
 ((zw N false).bind fun r27 =>
 (some r27))))))))
def z6p (N:Nat) (m:GMsg):Option (Int) :=
 (z10 N m).bind fun z=>match z with | .inl s=>z8v N m s | .inr r=>some r
def z6y:Con τ:={ args:=[.ty 71],L:=[],ret:=.ty 35,L':=[],R:=Int,dflt:=default,F:=fun N a b=>z6p N a.1,of:=fun r=>(r,()) }
noncomputable def zrf:Dat τ:={ D:=D0,tbl:=tblOf [(115,zdp),(107,zao),(108,zaw),(97,z98),(109,z9v),(116,z8p),(106,z3b),(117,zab),(64,z3j),(118,zds),(89,z9t)],lp:=lpsOf [],k0:=0,mu:=[],un:=[] }
theorem zdt:ConOk E C 67 z6y :=
  con_cut (D:=zrf) ⟨d0Ok,eGood,z9 ⟨zu3,⟨zlj,⟨zni,⟨zkn,⟨zmh,⟨zi0,⟨z7q,⟨zpw,⟨z8k,⟨zu4,⟨zmg,trivial⟩⟩⟩⟩⟩⟩⟩⟩⟩⟩⟩,fun _=>rfl⟩ z6y (fun a b=>a) none (fun _ _=>rfl) rfl (fun _ _ h=>nomatch h) 1000000 [true,true,true,true,false] zq0 (fun N a b=>z10 N a.1) (fun N a b s=>z8v N a.1 s) (by intro N a b; kernel_rfl) (fn:=Tryz.f67) Tryz.func67 rfl (by kernel_rfl) (by kernel_rfl) rfl (by kernel_rfl) (by intro a b s; kernel_rfl) (by intro N a b; kernel_rfl) (by intro N a b s; kernel_rfl)
def z3e (N:Nat) (a:GAddr) (b0:Int) (b1:Bool) (b12:List (Int)):Option (Int×Bool×(List (Int))) :=
 ((zb N [a.Group,a.Replica] b0 b1 b12).bind fun r1 =>
 (some (r1.1,r1.2.1,r1.2.2)))
def z7u:Con τ:={ args:=[.ptr 0 [],.ty 66],L:=[.box (.agg [.ptr 1 [],.ty 35]),.box (.agg [.ty 4,.own 5 2]),.tail],ret:=.tup [],L':=[.box (.agg [.ptr 1 [],.ty 35]),.box (.agg [.ty 4,.own 5 3]),.dead,.tail],R:=Int×Bool×(List (Int)),dflt:=(default,default,default),F:=fun N a b=>z3e N a.2.1 b.1.2.1 b.2.1.1 b.2.1.2.1,of:=fun r=>((),(((),r.1,()),(r.2.1,r.2.2,()),(),(),())) }
noncomputable def zjs:Dat τ:={ D:=D0,tbl:=tblOf [(93,zz)],lp:=lpsOf [],k0:=3,mu:=[],un:=[] }
theorem zkw:ConOk E C 119 z7u :=
  zg (D:=zjs) ⟨d0Ok,eGood,z9 ⟨z1c,trivial⟩,fun _=>rfl⟩ z7u (fun a b=>(b.1.2.1,b.2.1.1,b.2.1.2.1)) none (fun _ _=>rfl) rfl (fun _ _ h=>nomatch h) 1000000 (fn:=Tryz.f119) Tryz.func119 rfl (by kernel_rfl) (by kernel_rfl) rfl (by intro N a b; kernel_rfl)
def zn (N:Nat) (b:zc) (b0:Int) (b1:Bool) (b12:List (Int)):Option (Int×Bool×(List (Int))) :=
 ((z5 N [b.Round] b0 b1 b12).bind fun r1 =>
 ((zb N [b.Replica] r1.1 r1.2.1 r1.2.2).bind fun r2 =>
 (some (r2.1,r2.2.1,r2.2.2))))
def z3f:Con τ:={ args:=[.ptr 0 [],.ty 68],L:=[.box (.agg [.ptr 1 [],.ty 35]),.box (.agg [.ty 4,.own 5 2]),.tail],ret:=.tup [],L':=[.box (.agg [.ptr 1 [],.ty 35]),.box (.agg [.ty 4,.own 5 3]),.dead,.tail],R:=Int×Bool×(List (Int)),dflt:=(default,default,default),F:=fun N a b=>zn N a.2.1 b.1.2.1 b.2.1.1 b.2.1.2.1,of:=fun r=>((),(((),r.1,()),(r.2.1,r.2.2,()),(),(),())) }
noncomputable def zgm:Dat τ:={ D:=D0,tbl:=tblOf [(92,z1d),(93,zz)],lp:=lpsOf [],k0:=3,mu:=[],un:=[] }
theorem za4:ConOk E C 120 z3f :=
  zg (D:=zgm) ⟨d0Ok,eGood,z9 ⟨z1w,⟨z1c,trivial⟩⟩,fun _=>rfl⟩ z3f (fun a b=>(b.1.2.1,b.2.1.1,b.2.1.2.1)) none (fun _ _=>rfl) rfl (fun _ _ h=>nomatch h) 1000000 (fn:=Tryz.f120) Tryz.func120 rfl (by kernel_rfl) (by kernel_rfl) rfl (by intro N a b; kernel_rfl)
structure z2a where
  t13:Int
  b0:Int
  b1:Bool
  b12:List (Int)
def z6m:List Sl:=[.k,.k,.k,.k,.k,.j,.k,.k,.k,.k,.k,.k,.k,.sh (.ty 2),.j,.j,.j,.j,.j,.j,.j,.j,.j,.j,.j,.j,.j,.j,.j,.j,.j]
def z6n:List ESh:=[.box (.agg [.ptr 1 [],.ty 2]),.box (.agg [.ty 4,.own 5 4]),.keep,.dead,.tail]
def zhp (a:Sl.Ts τ z6m) (b:ESh.Ts τ z6n):z2a:=⟨a.2.2.2.2.2.2.2.2.2.2.2.2.2.1,b.1.2.1,b.2.1.1,b.2.1.2.1⟩
def zhq (s:z2a):Sl.Ts τ z6m:=((),(),(),(),(),(),(),(),(),(),(),(),(),s.t13,(),(),(),(),(),(),(),(),(),(),(),(),(),(),(),(),(),())
def zhr (s:z2a):ESh.Ts τ z6n:=(((),s.b0,()),(s.b1,s.b12,()),(),(),(),())
def zhs:Lp τ:={ ts:=z6m,hs:=z6n,S:=z2a,to:=zhp,ot:=zhq,oh:=zhr,hk:=[2,2,1,5],tk:=[2,0,0,0,0,0,2],ot_to:=fun _ _=>rfl,oh_to:=fun _ _=>rfl }
def z13 (N:Nat) (l:List (zd)) (b0:Int) (b1:Bool) (b12:List (Int)):Option (Int×Bool×(List (Int))) :=
 ((zb N [((l).length:Int)] b0 b1 b12).bind fun r1 =>
 (iter N (fun (s2:z2a) next3 =>
 (bif (decide (s2.t13 < ((l).length:Int))) then
 (bif (ibB s2.t13 ((l).length:Int)) then
 ((z5 N [(lget l s2.t13 default).Slot] s2.b0 s2.b1 s2.b12).bind fun r4 =>
 ((zn N ((lget l s2.t13 default).Ballot) r4.1 r4.2.1 r4.2.2).bind fun r5 =>
 ((z1f N (⟨((lget l s2.t13 default).Entry).Kind,((lget l s2.t13 default).Entry).Session,((lget l s2.t13 default).Entry).Request,(⟨((((lget l s2.t13 default).Entry).Op).Stamp),(((lget l s2.t13 default).Entry).Op).Kind,(((lget l s2.t13 default).Entry).Op).Node,(((lget l s2.t13 default).Entry).Op).Parent,(((lget l s2.t13 default).Entry).Op).Name,(((lget l s2.t13 default).Entry).Op).Key,(((lget l s2.t13 default).Entry).Op).Value⟩:GOp),((lget l s2.t13 default).Entry).Origin,((lget l s2.t13 default).Entry).Seq,((lget l s2.t13 default).Entry).Ops,(((lget l s2.t13 default).Entry).Epoch),((lget l s2.t13 default).Entry).From,((lget l s2.t13 default).Entry).Vector_,((lget l s2.t13 default).Entry).Clock,(((lget l s2.t13 default).Entry).Part),((lget l s2.t13 default).Entry).Site,((lget l s2.t13 default).Entry).Sponsor,((lget l s2.t13 default).Entry).Length⟩:z6) r5.1 r5.2.1 r5.2.2).bind fun r6 =>
 (next3 ⟨(IntKind.i64.wrap (s2.t13 + 1)),r6.1,r6.2.1,r6.2.2⟩))))
 else none)
 else
 (some (s2.b0,s2.b1,s2.b12)))) ⟨0,r1.1,r1.2.1,r1.2.2⟩))
def z7v:Con τ:={ args:=[.ptr 0 [],.ty 69],L:=[.box (.agg [.ptr 1 [],.ty 35]),.box (.agg [.ty 4,.own 5 2]),.tail],ret:=.tup [],L':=[.box (.agg [.ptr 1 [],.ty 35]),.box (.agg [.ty 4,.own 5 3]),.dead,.tail],R:=Int×Bool×(List (Int)),dflt:=(default,default,default),F:=fun N a b=>z13 N a.2.1 b.1.2.1 b.2.1.1 b.2.1.2.1,of:=fun r=>((),(((),r.1,()),(r.2.1,r.2.2,()),(),(),())) }
noncomputable def zjt:Dat τ:={ D:=D0,tbl:=tblOf [(93,zz),(92,z1d),(120,z3f),(65,z2p)],lp:=lpsOf [(2,zhs)],k0:=3,mu:=[],un:=[] }
theorem zkx:ConOk E C 121 z7v :=
  zg (D:=zjt) ⟨d0Ok,eGood,z9 ⟨z1c,⟨z1w,⟨za4,⟨z7t,trivial⟩⟩⟩⟩,fun _=>rfl⟩ z7v (fun a b=>(b.1.2.1,b.2.1.1,b.2.1.2.1)) none (fun _ _=>rfl) rfl (fun _ _ h=>nomatch h) 1000000 (fn:=Tryz.f121) Tryz.func121 rfl (by kernel_rfl) (by kernel_rfl) rfl (by intro N a b; kernel_rfl)
def z6b (N:Nat) (m:GMsg) (b0:Int) (b1:Bool) (b12:List (Int)):Option (Int×Bool×(List (Int))) :=
 ((zb N [m.Kind] b0 b1 b12).bind fun r1 =>
 ((z3e N m.From r1.1 r1.2.1 r1.2.2).bind fun r2 =>
 ((z3e N m.To r2.1 r2.2.1 r2.2.2).bind fun r3 =>
 (bif (m.Kind==1) then
 (bif (m.Kind==1) then
 ((zn N m.Ballot r3.1 r3.2.1 r3.2.2).bind fun r4 =>
 ((z5 N [m.Slot] r4.1 r4.2.1 r4.2.2).bind fun r5 =>
 (some (r5.1,r5.2.1,r5.2.2))))
 else
 (bif (m.Kind==2) then
 ((zn N m.Ballot r3.1 r3.2.1 r3.2.2).bind fun r6 =>
 ((z5 N [m.Slot] r6.1 r6.2.1 r6.2.2).bind fun r7 =>
 ((z13 N m.List_ r7.1 r7.2.1 r7.2.2).bind fun r8 =>
 (some (r8.1,r8.2.1,r8.2.2)))))
 else
 (bif (m.Kind==3) then
 ((zn N m.Ballot r3.1 r3.2.1 r3.2.2).bind fun r9 =>
 ((z13 N m.List_ r9.1 r9.2.1 r9.2.2).bind fun r10 =>
 (some (r10.1,r10.2.1,r10.2.2))))
 else
 (bif (m.Kind==5) then
 ((zn N m.Ballot r3.1 r3.2.1 r3.2.2).bind fun r11 =>
 (some (r11.1,r11.2.1,r11.2.2)))
 else
 (bif (m.Kind==6) then
 ((z13 N m.List_ r3.1 r3.2.1 r3.2.2).bind fun r12 =>
 (some (r12.1,r12.2.1,r12.2.2)))
 else
 (bif (m.Kind==8) then
 ((z5 N [m.Slot] r3.1 r3.2.1 r3.2.2).bind fun r13 =>
 (some (r13.1,r13.2.1,r13.2.2)))
 else
 (bif (m.Kind==9) then
 ((z1f N m.Entry r3.1 r3.2.1 r3.2.2).bind fun r14 =>
 (some (r14.1,r14.2.1,r14.2.2)))
 else
 (bif (m.Kind==10) then
 ((z5 N [m.Number] r3.1 r3.2.1 r3.2.2).bind fun r15 =>
 ((z5 N (m.Vector_.toList) r15.1 r15.2.1 r15.2.2).bind fun r16 =>
 ((z5 N [m.Clock] r16.1 r16.2.1 r16.2.2).bind fun r17 =>
 (some (r17.1,r17.2.1,r17.2.2)))))
 else
 (bif (m.Kind==11) then
 ((z5 N [m.Number] r3.1 r3.2.1 r3.2.2).bind fun r18 =>
 ((zb N [m.Origin] r18.1 r18.2.1 r18.2.2).bind fun r19 =>
 ((z5 N [m.Slot] r19.1 r19.2.1 r19.2.2).bind fun r20 =>
 ((z2b N m.Ops r20.1 r20.2.1 r20.2.2).bind fun r21 =>
 (some (r21.1,r21.2.1,r21.2.2))))))
 else
 (bif (m.Kind==12) then
 ((z1x N m.Epoch r3.1 r3.2.1 r3.2.2).bind fun r22 =>
 (some (r22.1,r22.2.1,r22.2.2)))
 else
 (bif (m.Kind==13) then
 ((z1e N m.Part r3.1 r3.2.1 r3.2.2).bind fun r23 =>
 (some (r23.1,r23.2.1,r23.2.2)))
 else
 (bif (m.Kind==14) then
 ((z5 N [m.Number] r3.1 r3.2.1 r3.2.2).bind fun r24 =>
 ((z5 N (m.Vector_.toList) r24.1 r24.2.1 r24.2.2).bind fun r25 =>
 (some (r25.1,r25.2.1,r25.2.2))))
 else
 (bif (m.Kind==15) then
 ((z5 N [m.Slot] r3.1 r3.2.1 r3.2.2).bind fun r26 =>
 ((z1e N m.Part r26.1 r26.2.1 r26.2.2).bind fun r27 =>
 (some (r27.1,r27.2.1,r27.2.2))))
 else
 (some (r3.1,r3.2.1,r3.2.2)))))))))))))))
 else
 (bif (m.Kind==4) then
 (bif (m.Kind==4) then
 ((zn N m.Ballot r3.1 r3.2.1 r3.2.2).bind fun r28 =>
 ((z5 N [m.Slot] r28.1 r28.2.1 r28.2.2).bind fun r29 =>
 (some (r29.1,r29.2.1,r29.2.2))))
 else
 (bif (m.Kind==2) then
 ((zn N m.Ballot r3.1 r3.2.1 r3.2.2).bind fun r30 =>
 ((z5 N [m.Slot] r30.1 r30.2.1 r30.2.2).bind fun r31 =>
 ((z13 N m.List_ r31.1 r31.2.1 r31.2.2).bind fun r32 =>
 (some (r32.1,r32.2.1,r32.2.2)))))
 else
 (bif (m.Kind==3) then
 ((zn N m.Ballot r3.1 r3.2.1 r3.2.2).bind fun r33 =>
 ((z13 N m.List_ r33.1 r33.2.1 r33.2.2).bind fun r34 =>
 (some (r34.1,r34.2.1,r34.2.2))))
 else
 (bif (m.Kind==5) then
 ((zn N m.Ballot r3.1 r3.2.1 r3.2.2).bind fun r35 =>
 (some (r35.1,r35.2.1,r35.2.2)))
 else
 (bif (m.Kind==6) then
 ((z13 N m.List_ r3.1 r3.2.1 r3.2.2).bind fun r36 =>
 (some (r36.1,r36.2.1,r36.2.2)))
 else
 (bif (m.Kind==8) then
 ((z5 N [m.Slot] r3.1 r3.2.1 r3.2.2).bind fun r37 =>
 (some (r37.1,r37.2.1,r37.2.2)))
 else
 (bif (m.Kind==9) then
 ((z1f N m.Entry r3.1 r3.2.1 r3.2.2).bind fun r38 =>
 (some (r38.1,r38.2.1,r38.2.2)))
 else
 (bif (m.Kind==10) then
 ((z5 N [m.Number] r3.1 r3.2.1 r3.2.2).bind fun r39 =>
 ((z5 N (m.Vector_.toList) r39.1 r39.2.1 r39.2.2).bind fun r40 =>
 ((z5 N [m.Clock] r40.1 r40.2.1 r40.2.2).bind fun r41 =>
 (some (r41.1,r41.2.1,r41.2.2)))))
 else
 (bif (m.Kind==11) then
 ((z5 N [m.Number] r3.1 r3.2.1 r3.2.2).bind fun r42 =>
 ((zb N [m.Origin] r42.1 r42.2.1 r42.2.2).bind fun r43 =>
 ((z5 N [m.Slot] r43.1 r43.2.1 r43.2.2).bind fun r44 =>
 ((z2b N m.Ops r44.1 r44.2.1 r44.2.2).bind fun r45 =>
 (some (r45.1,r45.2.1,r45.2.2))))))
 else
 (bif (m.Kind==12) then
 ((z1x N m.Epoch r3.1 r3.2.1 r3.2.2).bind fun r46 =>
 (some (r46.1,r46.2.1,r46.2.2)))
 else
 (bif (m.Kind==13) then
 ((z1e N m.Part r3.1 r3.2.1 r3.2.2).bind fun r47 =>
 (some (r47.1,r47.2.1,r47.2.2)))
 else
 (bif (m.Kind==14) then
 ((z5 N [m.Number] r3.1 r3.2.1 r3.2.2).bind fun r48 =>
 ((z5 N (m.Vector_.toList) r48.1 r48.2.1 r48.2.2).bind fun r49 =>
 (some (r49.1,r49.2.1,r49.2.2))))
 else
 (bif (m.Kind==15) then
 ((z5 N [m.Slot] r3.1 r3.2.1 r3.2.2).bind fun r50 =>
 ((z1e N m.Part r50.1 r50.2.1 r50.2.2).bind fun r51 =>
 (some (r51.1,r51.2.1,r51.2.2))))
 else
 (some (r3.1,r3.2.1,r3.2.2)))))))))))))))
 else
 (bif (m.Kind==7) then
 ((zn N m.Ballot r3.1 r3.2.1 r3.2.2).bind fun r52 =>
 ((z5 N [m.Slot] r52.1 r52.2.1 r52.2.2).bind fun r53 =>
 (some (r53.1,r53.2.1,r53.2.2))))
 else
 (bif (m.Kind==2) then
 ((zn N m.Ballot r3.1 r3.2.1 r3.2.2).bind fun r54 =>
 ((z5 N [m.Slot] r54.1 r54.2.1 r54.2.2).bind fun r55 =>
 ((z13 N m.List_ r55.1 r55.2.1 r55.2.2).bind fun r56 =>
 (some (r56.1,r56.2.1,r56.2.2)))))
 else
 (bif (m.Kind==3) then
 ((zn N m.Ballot r3.1 r3.2.1 r3.2.2).bind fun r57 =>
 ((z13 N m.List_ r57.1 r57.2.1 r57.2.2).bind fun r58 =>
 (some (r58.1,r58.2.1,r58.2.2))))
 else
 (bif (m.Kind==5) then
 ((zn N m.Ballot r3.1 r3.2.1 r3.2.2).bind fun r59 =>
 (some (r59.1,r59.2.1,r59.2.2)))
 else
 (bif (m.Kind==6) then
 ((z13 N m.List_ r3.1 r3.2.1 r3.2.2).bind fun r60 =>
 (some (r60.1,r60.2.1,r60.2.2)))
 else
 (bif (m.Kind==8) then
 ((z5 N [m.Slot] r3.1 r3.2.1 r3.2.2).bind fun r61 =>
 (some (r61.1,r61.2.1,r61.2.2)))
 else
 (bif (m.Kind==9) then
 ((z1f N m.Entry r3.1 r3.2.1 r3.2.2).bind fun r62 =>
 (some (r62.1,r62.2.1,r62.2.2)))
 else
 (bif (m.Kind==10) then
 ((z5 N [m.Number] r3.1 r3.2.1 r3.2.2).bind fun r63 =>
 ((z5 N (m.Vector_.toList) r63.1 r63.2.1 r63.2.2).bind fun r64 =>
 ((z5 N [m.Clock] r64.1 r64.2.1 r64.2.2).bind fun r65 =>
 (some (r65.1,r65.2.1,r65.2.2)))))
 else
 (bif (m.Kind==11) then
 ((z5 N [m.Number] r3.1 r3.2.1 r3.2.2).bind fun r66 =>
 ((zb N [m.Origin] r66.1 r66.2.1 r66.2.2).bind fun r67 =>
 ((z5 N [m.Slot] r67.1 r67.2.1 r67.2.2).bind fun r68 =>
 ((z2b N m.Ops r68.1 r68.2.1 r68.2.2).bind fun r69 =>
 (some (r69.1,r69.2.1,r69.2.2))))))
 else
 (bif (m.Kind==12) then
 ((z1x N m.Epoch r3.1 r3.2.1 r3.2.2).bind fun r70 =>
 (some (r70.1,r70.2.1,r70.2.2)))
 else
 (bif (m.Kind==13) then
 ((z1e N m.Part r3.1 r3.2.1 r3.2.2).bind fun r71 =>
 (some (r71.1,r71.2.1,r71.2.2)))
 else
 (bif (m.Kind==14) then
 ((z5 N [m.Number] r3.1 r3.2.1 r3.2.2).bind fun r72 =>
 ((z5 N (m.Vector_.toList) r72.1 r72.2.1 r72.2.2).bind fun r73 =>
 (some (r73.1,r73.2.1,r73.2.2))))
 else
 (bif (m.Kind==15) then
 ((z5 N [m.Slot] r3.1 r3.2.1 r3.2.2).bind fun r74 =>
 ((z1e N m.Part r74.1 r74.2.1 r74.2.2).bind fun r75 =>
 (some (r75.1,r75.2.1,r75.2.2))))
 else
 (some (r3.1,r3.2.1,r3.2.2))))))))))))))))))))
def z89:Con τ:={ args:=[.ptr 0 [],.ty 71],L:=[.box (.agg [.ptr 1 [],.ty 35]),.box (.agg [.ty 4,.own 5 2]),.tail],ret:=.tup [],L':=[.box (.agg [.ptr 1 [],.ty 35]),.box (.agg [.ty 4,.own 5 3]),.dead,.tail],R:=Int×Bool×(List (Int)),dflt:=(default,default,default),F:=fun N a b=>z6b N a.2.1 b.1.2.1 b.2.1.1 b.2.1.2.1,of:=fun r=>((),(((),r.1,()),(r.2.1,r.2.2,()),(),(),())) }
noncomputable def zky:Dat τ:={ D:=D0,tbl:=tblOf [(93,zz),(119,z7u),(120,z3f),(92,z1d),(121,z7v),(65,z2p),(111,z4f),(46,z3s),(112,z43)],lp:=lpsOf [],k0:=3,mu:=[],un:=[] }
theorem zlz:ConOk E C 68 z89 :=
  zg (D:=zky) ⟨d0Ok,eGood,z9 ⟨z1c,⟨zkw,⟨za4,⟨z1w,⟨zkx,⟨z7t,⟨zck,⟨zas,⟨zbk,trivial⟩⟩⟩⟩⟩⟩⟩⟩⟩,fun _=>rfl⟩ z89 (fun a b=>(b.1.2.1,b.2.1.1,b.2.1.2.1)) none (fun _ _=>rfl) rfl (fun _ _ h=>nomatch h) 1000000 (fn:=Tryz.f68) Tryz.func68 rfl (by kernel_rfl) (by kernel_rfl) rfl (by intro N a b; kernel_rfl)
structure zdu where
  sum:Int
  t11:Int
def zno:List Sl:=[.k,.k,.k,.sh (.ty 167),.k,.j,.k,.j,.j,.k,.k,.sh (.ty 2),.j,.j,.j,.j,.j,.j,.j,.j,.j,.j,.j,.j,.j,.j,.j,.j,.j,.j,.j,.j,.j,.j,.j,.j,.j,.j,.k,.k]
def znp:List ESh:=[]
def z10g (a:Sl.Ts τ zno) (b:ESh.Ts τ znp):zdu:=⟨a.2.2.2.1,a.2.2.2.2.2.2.2.2.2.2.2.1⟩
def z10h (s:zdu):Sl.Ts τ zno:=((),(),(),s.sum,(),(),(),(),(),(),(),s.t11,(),(),(),(),(),(),(),(),(),(),(),(),(),(),(),(),(),(),(),(),(),(),(),(),(),(),(),(),())
def z10i (s:zdu):ESh.Ts τ znp:=()
def z10j:Lp τ:={ ts:=zno,hs:=znp,S:=zdu,to:=z10g,ot:=z10h,oh:=z10i,hk:=[],tk:=[],ot_to:=fun _ _=>rfl,oh_to:=fun _ _=>rfl }
structure zbd where
  sum:Int
  t17:Int
def znq:List Sl:=[.k,.k,.k,.sh (.ty 167),.k,.k,.k,.j,.j,.k,.k,.k,.k,.k,.k,.k,.k,.sh (.ty 2),.j,.j,.j,.j,.j,.j,.j,.j,.j,.j,.j,.j,.j,.j,.j,.j,.j,.j,.j,.k,.k,.k]
def znr:List ESh:=[]
def z10k (a:Sl.Ts τ znq) (b:ESh.Ts τ znr):zbd:=⟨a.2.2.2.1,a.2.2.2.2.2.2.2.2.2.2.2.2.2.2.2.2.2.1⟩
def z10l (s:zbd):Sl.Ts τ znq:=((),(),(),s.sum,(),(),(),(),(),(),(),(),(),(),(),(),(),s.t17,(),(),(),(),(),(),(),(),(),(),(),(),(),(),(),(),(),(),(),(),(),(),())
def z10m (s:zbd):ESh.Ts τ znr:=()
def z10n:Lp τ:={ ts:=znq,hs:=znr,S:=zbd,to:=z10k,ot:=z10l,oh:=z10m,hk:=[],tk:=[],ot_to:=fun _ _=>rfl,oh_to:=fun _ _=>rfl }
structure z6z where
  sum:Int
  t25:Int
def zm0:List Sl:=[.k,.k,.k,.sh (.ty 167),.k,.k,.k,.k,.j,.k,.k,.k,.k,.k,.k,.k,.k,.k,.k,.k,.k,.k,.k,.k,.k,.sh (.ty 2),.j,.j,.j,.j,.j,.j,.j,.j,.j,.j,.k,.k,.k,.k]
def zm1:List ESh:=[]
def zz2 (a:Sl.Ts τ zm0) (b:ESh.Ts τ zm1):z6z:=⟨a.2.2.2.1,a.2.2.2.2.2.2.2.2.2.2.2.2.2.2.2.2.2.2.2.2.2.2.2.2.2.1⟩
def zz3 (s:z6z):Sl.Ts τ zm0:=((),(),(),s.sum,(),(),(),(),(),(),(),(),(),(),(),(),(),(),(),(),(),(),(),(),(),s.t25,(),(),(),(),(),(),(),(),(),(),(),(),(),(),())
def zz4 (s:z6z):ESh.Ts τ zm1:=()
def zz5:Lp τ:={ ts:=zm0,hs:=zm1,S:=z6z,to:=zz2,ot:=zz3,oh:=zz4,hk:=[],tk:=[],ot_to:=fun _ _=>rfl,oh_to:=fun _ _=>rfl }
def zns (N:Nat) (l:List (List (Int))):Option (Int) :=
 (iter N (fun (s1:zdu) next2 =>
 (bif (decide (s1.t11 < ((l).length:Int))) then
 (bif (ibB s1.t11 ((l).length:Int)) then
 (iter N (fun (s3:zbd) next4 =>
 (bif (decide (s3.t17 < (((lget l s1.t11 default)).length:Int))) then
 (bif (ibB s3.t17 (((lget l s1.t11 default)).length:Int)) then
 (iter N (fun (s5:z6z) next6 =>
 (bif (decide (s5.t25 < 8)) then
 (bif ((bits .and .u32 s5.sum 1)==1) then
 (next6 ⟨(bits .xor .u32 (shr .u32 s5.sum 1) 3988292384),(IntKind.i64.wrap (s5.t25 + 1))⟩)
 else
 (next6 ⟨(shr .u32 s5.sum 1),(IntKind.i64.wrap (s5.t25 + 1))⟩))
 else
 (next4 ⟨s5.sum,(IntKind.i64.wrap (s3.t17 + 1))⟩))) ⟨(bits .xor .u32 s3.sum (IntKind.u32.wrap (lget (lget l s1.t11 default) s3.t17 default))),0⟩)
 else none)
 else
 (next2 ⟨s3.sum,(IntKind.i64.wrap (s1.t11 + 1))⟩))) ⟨s1.sum,0⟩)
 else none)
 else
 (some (bits .xor .u32 IntKind.u32.max s1.sum)))) ⟨4294967295,0⟩)
def zm2:Con τ:={ args:=[.ty 194],L:=[],ret:=.ty 167,L':=[],R:=Int,dflt:=default,F:=fun N a b=>zns N a.1,of:=fun r=>(r,()) }
noncomputable def z121:Dat τ:={ D:=D0,tbl:=tblOf [],lp:=lpsOf [(3,z10j),(6,z10n),(10,zz5)],k0:=0,mu:=[],un:=[] }
theorem zxt:ConOk E C 125 zm2 :=
  zg (D:=z121) ⟨d0Ok,eGood,z9 trivial,fun _=>rfl⟩ zm2 (fun a b=>a) none (fun _ _=>rfl) rfl (fun _ _ h=>nomatch h) 1000000 (fn:=Tryz.f125) Tryz.func125 rfl (by kernel_rfl) (by kernel_rfl) rfl (by intro N a b; kernel_rfl)
def zdv (N:Nat) (sum:Int):Option ((List (Int))) :=
 (some [(IntKind.u8.wrap sum),(IntKind.u8.wrap (shr .u32 sum 8)),(IntKind.u8.wrap (shr .u32 sum 16)),(IntKind.u8.wrap (shr .u32 sum 24))])
def ze6:Con τ:={ args:=[.ty 167],L:=[],ret:=.ty 31,L':=[],R:=(List (Int)),dflt:=default,F:=fun N a b=>zdv N a.1,of:=fun r=>(r,()) }
noncomputable def z10o:Dat τ:={ D:=D0,tbl:=tblOf [],lp:=lpsOf [],k0:=0,mu:=[],un:=[] }
theorem zq1:ConOk E C 124 ze6 :=
  zg (D:=z10o) ⟨d0Ok,eGood,z9 trivial,fun _=>rfl⟩ ze6 (fun a b=>a) none (fun _ _=>rfl) rfl (fun _ _ h=>nomatch h) 1000000 (fn:=Tryz.f124) Tryz.func124 rfl (by kernel_rfl) (by kernel_rfl) rfl (by intro N a b; kernel_rfl)
def z70 (N:Nat) (n:Int):Option (Nat×(List (Int))) :=
 (bif (decide (n < 0)) then
 none
 else
 (bif (decide (0 < (IntKind.i64.wrap (n - 0)))) then
 (bif (mkB (IntKind.i64.wrap (n - 0)) 1) then
 (bif (cutB 0 0 ((((IntKind.i64.wrap (n - 0))).toNat:Nat):Int)) then
 (some (0,(List.replicate (((IntKind.i64.wrap (n - 0))).toNat) 0)))
 else none)
 else none)
 else
 (some (0,[]))))
def z8q:Con τ:={ args:=[.nil .slice,.ty 3],L:=[],ret:=.msl 5 0,L':=[.gbx 5],R:=Nat×(List (Int)),dflt:=(default,default),F:=fun N a b=>z70 N a.2.1,of:=fun r=>(r.1,(r.2,())) }
noncomputable def zm3:Dat τ:={ D:=D0,tbl:=tblOf [],lp:=lpsOf [],k0:=0,mu:=[22],un:=[] }
theorem zmx:ConOk E C 151 z8q :=
  zg (D:=zm3) ⟨d0Ok,eGood,z9 trivial,fun _=>rfl⟩ z8q (fun a b=>(a,b.1)) none (fun _ _=>rfl) rfl (fun _ _ h=>nomatch h) 1000000 (fn:=Tryz.f151) Tryz.func151 rfl (by kernel_rfl) (by kernel_rfl) rfl (by intro N a b; kernel_rfl)
end Go.Proofs.YteinehkdjkobnaaGreat
