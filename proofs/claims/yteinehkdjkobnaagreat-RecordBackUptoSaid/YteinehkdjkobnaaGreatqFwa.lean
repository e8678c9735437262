/-
The functions of this seat,as plain functions over typed data,each with its contract. Printed by wip/tools/fngen.py.
-/
import Derived.Test.YteinehkdjkobnaaGreatqCod
import Derived.Test.YteinehkdjkobnaaGreatqTvX
import Derived.KernelRfl
set_option linter.unusedVariables false
set_option maxRecDepth 100000
namespace Go.Proofs.YteinehkdjkobnaaGreat
open Go Go.Ev
structure z4p where
  t13:Int
def zb3:List Sl:=[.k,.k,.k,.k,.j,.j,.k,.k,.k,.k,.k,.k,.k,.sh (.ty 2),.j,.j,.j,.j,.j,.j,.j,.j,.j,.j,.j,.j]
def zb4:List ESh:=[]
def zop (a:Sl.Ts τ zb3) (b:ESh.Ts τ zb4):z4p:=⟨a.2.2.2.2.2.2.2.2.2.2.2.2.2.1⟩
def zoq (s:z4p):Sl.Ts τ zb3:=((),(),(),(),(),(),(),(),(),(),(),(),(),s.t13,(),(),(),(),(),(),(),(),(),(),(),(),())
def zor (s:z4p):ESh.Ts τ zb4:=()
def zos:Lp τ:={ ts:=zb3,hs:=zb4,S:=z4p,to:=zop,ot:=zoq,oh:=zor,hk:=[],tk:=[],ot_to:=fun _ _=>rfl,oh_to:=fun _ _=>rfl }
def z93 (N:Nat) (s1_:List (GOp)) (s2_:List (GOp)):Option (Bool) :=
 (bif (!(((s1_).length:Int)==((s2_).length:Int))) then
 (some false)
 else
 (iter N (fun (s1:z4p) next2 =>
 (bif (decide (s1.t13 < ((s1_).length:Int))) then
 (bif (ibB s1.t13 ((s1_).length:Int)) then
 (bif (ibB s1.t13 ((s2_).length:Int)) then
 (bif (!((((((lget s1_ s1.t13 default).Stamp).Time)==(((lget s2_ s1.t13 default).Stamp).Time))&&((((lget s1_ s1.t13 default).Stamp).Site)==(((lget s2_ s1.t13 default).Stamp).Site)))&&((((lget s1_ s1.t13 default).Kind)==((lget s2_ s1.t13 default).Kind))&&((((lget s1_ s1.t13 default).Node)==((lget s2_ s1.t13 default).Node))&&((((lget s1_ s1.t13 default).Parent)==((lget s2_ s1.t13 default).Parent))&&((((lget s1_ s1.t13 default).Name)==((lget s2_ s1.t13 default).Name))&&((((lget s1_ s1.t13 default).Key)==((lget s2_ s1.t13 default).Key))&&(((lget s1_ s1.t13 default).Value)==((lget s2_ s1.t13 default).Value))))))))) then
 (some false)
 else
 (next2 ⟨(IntKind.i64.wrap (s1.t13 + 1))⟩))
 else none)
 else none)
 else
 (some true))) ⟨0⟩))
def z9i:Con τ:={ args:=[.ty 60,.ty 60],L:=[],ret:=.ty 4,L':=[],R:=Bool,dflt:=default,F:=fun N a b=>z93 N a.1 a.2.1,of:=fun r=>(r,()) }
noncomputable def zq4:Dat τ:={ D:=D0,tbl:=tblOf [],lp:=lpsOf [(4,zos)],k0:=0,mu:=[],un:=[] }
theorem zjz:ConOk E C 144 z9i :=
  zk (D:=zq4) ⟨d0Ok,eGood,zb trivial,fun _=>rfl⟩ z9i (fun a b=>a) none (fun _ _=>rfl) rfl (fun _ _ h=>nomatch h) 1000000 (fn:=Tryz.f144) Tryz.func144 rfl (by kernel_rfl) (by kernel_rfl) rfl (by intro N a b; kernel_rfl)
def z94 (N:Nat) (a:GPart) (b:GPart):Option (Bool) :=
 (some ((((a.Snap==b.Snap)&&(a.Index==b.Index))&&(a.Many==b.Many))&&((strI a.Data)==(strI b.Data))))
def z9j:Con τ:={ args:=[.ty 62,.ty 62],L:=[],ret:=.ty 4,L':=[],R:=Bool,dflt:=default,F:=fun N a b=>z94 N a.1 a.2.1,of:=fun r=>(r,()) }
noncomputable def zq5:Dat τ:={ D:=D0,tbl:=tblOf [],lp:=lpsOf [],k0:=0,mu:=[],un:=[] }
theorem zk0:ConOk E C 145 z9j :=
  zk (D:=zq5) ⟨d0Ok,eGood,zb trivial,fun _=>rfl⟩ z9j (fun a b=>a) none (fun _ _=>rfl) rfl (fun _ _ h=>nomatch h) 1000000 (fn:=Tryz.f145) Tryz.func145 rfl (by kernel_rfl) (by kernel_rfl) rfl (by intro N a b; kernel_rfl)
def zn (N:Nat) (a:z6) (b:z6):Option (Bool) :=
 ((bif ((((((a.Kind==b.Kind)&&(a.Session==b.Session))&&(a.Request==b.Request))&&(((a.Op.Stamp.Time==b.Op.Stamp.Time)&&(a.Op.Stamp.Site==b.Op.Stamp.Site))&&((a.Op.Kind==b.Op.Kind)&&((a.Op.Node==b.Op.Node)&&((a.Op.Parent==b.Op.Parent)&&((a.Op.Name==b.Op.Name)&&((a.Op.Key==b.Op.Key)&&(a.Op.Value==b.Op.Value))))))))&&(a.Origin==b.Origin))&&(a.Seq==b.Seq)) then z93 N a.Ops b.Ops else some default).bind fun r1 =>
 ((bif (((((((((((a.Kind==b.Kind)&&(a.Session==b.Session))&&(a.Request==b.Request))&&(((a.Op.Stamp.Time==b.Op.Stamp.Time)&&(a.Op.Stamp.Site==b.Op.Stamp.Site))&&((a.Op.Kind==b.Op.Kind)&&((a.Op.Node==b.Op.Node)&&((a.Op.Parent==b.Op.Parent)&&((a.Op.Name==b.Op.Name)&&((a.Op.Key==b.Op.Key)&&(a.Op.Value==b.Op.Value))))))))&&(a.Origin==b.Origin))&&(a.Seq==b.Seq))&&r1)&&((a.Epoch.Number==b.Epoch.Number)&&((vbeq beq3 a.Epoch.States b.Epoch.States)&&((vbeq beq2 a.Epoch.Seals b.Epoch.Seals)&&(vbeq beq3 a.Epoch.Sponsor b.Epoch.Sponsor)))))&&(a.From==b.From))&&(vbeq beq2 a.Vector_ b.Vector_))&&(a.Clock==b.Clock)) then z94 N a.Part b.Part else some default).bind fun r2 =>
 (some (((((((((((((((a.Kind==b.Kind)&&(a.Session==b.Session))&&(a.Request==b.Request))&&(((a.Op.Stamp.Time==b.Op.Stamp.Time)&&(a.Op.Stamp.Site==b.Op.Stamp.Site))&&((a.Op.Kind==b.Op.Kind)&&((a.Op.Node==b.Op.Node)&&((a.Op.Parent==b.Op.Parent)&&((a.Op.Name==b.Op.Name)&&((a.Op.Key==b.Op.Key)&&(a.Op.Value==b.Op.Value))))))))&&(a.Origin==b.Origin))&&(a.Seq==b.Seq))&&r1)&&((a.Epoch.Number==b.Epoch.Number)&&((vbeq beq3 a.Epoch.States b.Epoch.States)&&((vbeq beq2 a.Epoch.Seals b.Epoch.Seals)&&(vbeq beq3 a.Epoch.Sponsor b.Epoch.Sponsor)))))&&(a.From==b.From))&&(vbeq beq2 a.Vector_ b.Vector_))&&(a.Clock==b.Clock))&&r2)&&(a.Site==b.Site))&&(a.Sponsor==b.Sponsor))&&(a.Length==b.Length)))))
def z68:Con τ:={ args:=[.ty 64,.ty 64],L:=[],ret:=.ty 4,L':=[],R:=Bool,dflt:=default,F:=fun N a b=>zn N a.1 a.2.1,of:=fun r=>(r,()) }
noncomputable def zot:Dat τ:={ D:=D0,tbl:=tblOf [(144,z9i),(145,z9j)],lp:=lpsOf [],k0:=0,mu:=[],un:=[] }
theorem zc4:ConOk E C 110 z68 :=
  zk (D:=zot) ⟨d0Ok,eGood,zb ⟨zjz,⟨zk0,trivial⟩⟩,fun _=>rfl⟩ z68 (fun a b=>a) none (fun _ _=>rfl) rfl (fun _ _ h=>nomatch h) 1000000 (fn:=Tryz.f110) Tryz.func110 rfl (by kernel_rfl) (by kernel_rfl) rfl (by intro N a b; kernel_rfl)
def zw (N:Nat) (ok:Bool):Option (Int) :=
 (bif ok then
 (some 0)
 else
 (some 40))
def za4:Con τ:={ args:=[.ty 4],L:=[],ret:=.ty 35,L':=[],R:=Int,dflt:=default,F:=fun N a b=>zw N a.1,of:=fun r=>(r,()) }
noncomputable def zra:Dat τ:={ D:=D0,tbl:=tblOf [],lp:=lpsOf [],k0:=0,mu:=[],un:=[] }
theorem zlt:ConOk E C 89 za4 :=
  zk (D:=zra) ⟨d0Ok,eGood,zb trivial,fun _=>rfl⟩ za4 (fun a b=>a) none (fun _ _=>rfl) rfl (fun _ _ h=>nomatch h) 1000000 (fn:=Tryz.f89) Tryz.func89 rfl (by kernel_rfl) (by kernel_rfl) rfl (by intro N a b; kernel_rfl)
structure z87 where
  t7:Int
def zds:List Sl:=[.k,.k,.j,.k,.j,.k,.k,.sh (.ty 2),.j,.j,.j,.j,.j,.j,.j,.j,.j,.j]
def zdt:List ESh:=[]
def zsy (a:Sl.Ts τ zds) (b:ESh.Ts τ zdt):z87:=⟨a.2.2.2.2.2.2.2.1⟩
def zsz (s:z87):Sl.Ts τ zds:=((),(),(),(),(),(),(),s.t7,(),(),(),(),(),(),(),(),(),(),())
def zt0 (s:z87):ESh.Ts τ zdt:=()
def zt1:Lp τ:={ ts:=zds,hs:=zdt,S:=z87,to:=zsy,ot:=zsz,oh:=zt0,hk:=[],tk:=[],ot_to:=fun _ _=>rfl,oh_to:=fun _ _=>rfl }
def z17 (N:Nat) (l:List (Int)):Option (Bool) :=
 (iter N (fun (s1:z87) next2 =>
 (bif (decide (s1.t7 < ((l).length:Int))) then
 (bif (ibB s1.t7 ((l).length:Int)) then
 (bif ((decide ((lget l s1.t7 default) < 0)) || (decide (1099511627776 < (lget l s1.t7 default)))) then
 (some false)
 else
 (next2 ⟨(IntKind.i64.wrap (s1.t7 + 1))⟩))
 else none)
 else
 (some true))) ⟨0⟩)
def z3o:Con τ:={ args:=[.ty 143],L:=[],ret:=.ty 4,L':=[],R:=Bool,dflt:=default,F:=fun N a b=>z17 N a.1,of:=fun r=>(r,()) }
noncomputable def zu7:Dat τ:={ D:=D0,tbl:=tblOf [],lp:=lpsOf [(2,zt1)],k0:=0,mu:=[],un:=[] }
theorem z7y:ConOk E C 106 z3o :=
  zk (D:=zu7) ⟨d0Ok,eGood,zb trivial,fun _=>rfl⟩ z3o (fun a b=>a) none (fun _ _=>rfl) rfl (fun _ _ h=>nomatch h) 1000000 (fn:=Tryz.f106) Tryz.func106 rfl (by kernel_rfl) (by kernel_rfl) rfl (by intro N a b; kernel_rfl)
structure z99 where
  t7:Int
def zfe:List Sl:=[.k,.k,.j,.k,.j,.k,.k,.sh (.ty 2),.j,.j,.j,.j,.j,.j,.j,.j,.j,.j]
def zff:List ESh:=[]
def zu8 (a:Sl.Ts τ zfe) (b:ESh.Ts τ zff):z99:=⟨a.2.2.2.2.2.2.2.1⟩
def zu9 (s:z99):Sl.Ts τ zfe:=((),(),(),(),(),(),(),s.t7,(),(),(),(),(),(),(),(),(),(),())
def zua (s:z99):ESh.Ts τ zff:=()
def zub:Lp τ:={ ts:=zfe,hs:=zff,S:=z99,to:=zu8,ot:=zu9,oh:=zua,hk:=[],tk:=[],ot_to:=fun _ _=>rfl,oh_to:=fun _ _=>rfl }
def z1z (N:Nat) (l:List (Int)):Option (Bool) :=
 (iter N (fun (s1:z99) next2 =>
 (bif (decide (s1.t7 < ((l).length:Int))) then
 (bif (ibB s1.t7 ((l).length:Int)) then
 (bif ((decide ((lget l s1.t7 default) < 0)) || (decide (8≤(lget l s1.t7 default)))) then
 (some false)
 else
 (next2 ⟨(IntKind.i64.wrap (s1.t7 + 1))⟩))
 else none)
 else
 (some true))) ⟨0⟩)
def zao:Con τ:={ args:=[.ty 145],L:=[],ret:=.ty 4,L':=[],R:=Bool,dflt:=default,F:=fun N a b=>z1z N a.1,of:=fun r=>(r,()) }
noncomputable def zwi:Dat τ:={ D:=D0,tbl:=tblOf [],lp:=lpsOf [(2,zub)],k0:=0,mu:=[],un:=[] }
theorem zl0:ConOk E C 107 zao :=
  zk (D:=zwi) ⟨d0Ok,eGood,zb trivial,fun _=>rfl⟩ zao (fun a b=>a) none (fun _ _=>rfl) rfl (fun _ _ h=>nomatch h) 1000000 (fn:=Tryz.f107) Tryz.func107 rfl (by kernel_rfl) (by kernel_rfl) rfl (by intro N a b; kernel_rfl)
structure zap where
  t7:Int
def zfg:List Sl:=[.k,.k,.j,.k,.j,.k,.k,.sh (.ty 2),.j,.j,.j,.j,.j,.j,.j,.j,.j,.j]
def zfh:List ESh:=[]
def zuc (a:Sl.Ts τ zfg) (b:ESh.Ts τ zfh):zap:=⟨a.2.2.2.2.2.2.2.1⟩
def zud (s:zap):Sl.Ts τ zfg:=((),(),(),(),(),(),(),s.t7,(),(),(),(),(),(),(),(),(),(),())
def zue (s:zap):ESh.Ts τ zfh:=()
def zuf:Lp τ:={ ts:=zfg,hs:=zfh,S:=zap,to:=zuc,ot:=zud,oh:=zue,hk:=[],tk:=[],ot_to:=fun _ _=>rfl,oh_to:=fun _ _=>rfl }
def zhf (N:Nat) (l:List (Int)):Option (Bool) :=
 (iter N (fun (s1:zap) next2 =>
 (bif (decide (s1.t7 < ((l).length:Int))) then
 (bif (ibB s1.t7 ((l).length:Int)) then
 (bif ((decide ((lget l s1.t7 default) < 0)) || (decide (1125899906842624 < (lget l s1.t7 default)))) then
 (some false)
 else
 (next2 ⟨(IntKind.i64.wrap (s1.t7 + 1))⟩))
 else none)
 else
 (some true))) ⟨0⟩)
def ziu:Con τ:={ args:=[.ty 143],L:=[],ret:=.ty 4,L':=[],R:=Bool,dflt:=default,F:=fun N a b=>zhf N a.1,of:=fun r=>(r,()) }
noncomputable def zwj:Dat τ:={ D:=D0,tbl:=tblOf [],lp:=lpsOf [(2,zuf)],k0:=0,mu:=[],un:=[] }
theorem zy7:ConOk E C 135 ziu :=
  zk (D:=zwj) ⟨d0Ok,eGood,zb trivial,fun _=>rfl⟩ ziu (fun a b=>a) none (fun _ _=>rfl) rfl (fun _ _ h=>nomatch h) 1000000 (fn:=Tryz.f135) Tryz.func135 rfl (by kernel_rfl) (by kernel_rfl) rfl (by intro N a b; kernel_rfl)
structure zaq where
  t7:Int
def zfi:List Sl:=[.k,.k,.j,.k,.j,.k,.k,.sh (.ty 2),.j,.j,.j,.j,.j,.j,.j]
def zfj:List ESh:=[]
def zug (a:Sl.Ts τ zfi) (b:ESh.Ts τ zfj):zaq:=⟨a.2.2.2.2.2.2.2.1⟩
def zuh (s:zaq):Sl.Ts τ zfi:=((),(),(),(),(),(),(),s.t7,(),(),(),(),(),(),(),())
def zui (s:zaq):ESh.Ts τ zfj:=()
def zuj:Lp τ:={ ts:=zfi,hs:=zfj,S:=zaq,to:=zug,ot:=zuh,oh:=zui,hk:=[],tk:=[],ot_to:=fun _ _=>rfl,oh_to:=fun _ _=>rfl }
def zhg (N:Nat) (l:List (List UInt8)):Option (Bool) :=
 (iter N (fun (s1:zaq) next2 =>
 (bif (decide (s1.t7 < ((l).length:Int))) then
 (bif (ibB s1.t7 ((l).length:Int)) then
 (bif (decide (255 < (((lget l s1.t7 default)).length:Int))) then
 (some false)
 else
 (next2 ⟨(IntKind.i64.wrap (s1.t7 + 1))⟩))
 else none)
 else
 (some true))) ⟨0⟩)
def ziv:Con τ:={ args:=[.ty 181],L:=[],ret:=.ty 4,L':=[],R:=Bool,dflt:=default,F:=fun N a b=>zhg N a.1,of:=fun r=>(r,()) }
noncomputable def zwk:Dat τ:={ D:=D0,tbl:=tblOf [],lp:=lpsOf [(2,zuj)],k0:=0,mu:=[],un:=[] }
theorem zy8:ConOk E C 136 ziv :=
  zk (D:=zwk) ⟨d0Ok,eGood,zb trivial,fun _=>rfl⟩ ziv (fun a b=>a) none (fun _ _=>rfl) rfl (fun _ _ h=>nomatch h) 1000000 (fn:=Tryz.f136) Tryz.func136 rfl (by kernel_rfl) (by kernel_rfl) rfl (by intro N a b; kernel_rfl)
def za5 (N:Nat) (op:GOp):Option (Bool) :=
 ((z17 N [op.Stamp.Time]).bind fun r1 =>
 ((bif r1 then z1z N [op.Stamp.Site] else some default).bind fun r2 =>
 ((bif (((r1&&r2)&&(decide (1≤op.Kind)))&&(decide (op.Kind≤3))) then zhf N [op.Node,op.Parent] else some default).bind fun r3 =>
 ((bif ((((r1&&r2)&&(decide (1≤op.Kind)))&&(decide (op.Kind≤3)))&&r3) then zhg N [op.Name,op.Key,op.Value] else some default).bind fun r4 =>
 (some (((((r1&&r2)&&(decide (1≤op.Kind)))&&(decide (op.Kind≤3)))&&r3)&&r4))))))
def zc5:Con τ:={ args:=[.ty 25],L:=[],ret:=.ty 4,L':=[],R:=Bool,dflt:=default,F:=fun N a b=>za5 N a.1,of:=fun r=>(r,()) }
noncomputable def zuk:Dat τ:={ D:=D0,tbl:=tblOf [(106,z3o),(107,zao),(135,ziu),(136,ziv)],lp:=lpsOf [],k0:=0,mu:=[],un:=[] }
theorem zo2:ConOk E C 90 zc5 :=
  zk (D:=zuk) ⟨d0Ok,eGood,zb ⟨z7y,⟨zl0,⟨zy7,⟨zy8,trivial⟩⟩⟩⟩,fun _=>rfl⟩ zc5 (fun a b=>a) none (fun _ _=>rfl) rfl (fun _ _ h=>nomatch h) 1000000 (fn:=Tryz.f90) Tryz.func90 rfl (by kernel_rfl) (by kernel_rfl) rfl (by intro N a b; kernel_rfl)
def zav (N:Nat) (op:GOp):Option (Bool) :=
 ((za5 N op).bind fun r1 =>
 (some (!r1)))
def zc6:Con τ:={ args:=[.ty 25],L:=[],ret:=.ty 4,L':=[],R:=Bool,dflt:=default,F:=fun N a b=>zav N a.1,of:=fun r=>(r,()) }
noncomputable def zq6:Dat τ:={ D:=D0,tbl:=tblOf [(90,zc5)],lp:=lpsOf [],k0:=0,mu:=[],un:=[] }
theorem zrb:ConOk E C 143 zc6 :=
  zk (D:=zq6) ⟨d0Ok,eGood,zb ⟨zo2,trivial⟩,fun _=>rfl⟩ zc6 (fun a b=>a) none (fun _ _=>rfl) rfl (fun _ _ h=>nomatch h) 1000000 (fn:=Tryz.f143) Tryz.func143 rfl (by kernel_rfl) (by kernel_rfl) rfl (by intro N a b; kernel_rfl)
structure z2e where
  t8:Int
def z69:List Sl:=[.k,.k,.k,.k,.j,.j,.k,.k,.sh (.ty 2),.j,.j,.j,.j,.j,.j,.j,.j,.j,.j]
def z6a:List ESh:=[]
def zfk (a:Sl.Ts τ z69) (b:ESh.Ts τ z6a):z2e:=⟨a.2.2.2.2.2.2.2.2.1⟩
def zfl (s:z2e):Sl.Ts τ z69:=((),(),(),(),(),(),(),(),s.t8,(),(),(),(),(),(),(),(),(),(),())
def zfm (s:z2e):ESh.Ts τ z6a:=()
def zfn:Lp τ:={ ts:=z69,hs:=z6a,S:=z2e,to:=zfk,ot:=zfl,oh:=zfm,hk:=[],tk:=[],ot_to:=fun _ _=>rfl,oh_to:=fun _ _=>rfl }
def z4q (N:Nat) (s:List (GOp)):Option (Int) :=
 (iter N (fun (s1:z2e) next2 =>
 (bif (decide (s1.t8 < ((s).length:Int))) then
 (bif (ibB s1.t8 ((s).length:Int)) then
 ((zav N (⟨((lget s s1.t8 default).Stamp),(lget s s1.t8 default).Kind,(lget s s1.t8 default).Node,(lget s s1.t8 default).Parent,(lget s s1.t8 default).Name,(lget s s1.t8 default).Key,(lget s s1.t8 default).Value⟩:GOp)).bind fun r3 =>
 (bif r3 then
 (some s1.t8)
 else
 (next2 ⟨(IntKind.i64.wrap (s1.t8 + 1))⟩)))
 else none)
 else
 (some (-1)))) ⟨0⟩)
def z6r:Con τ:={ args:=[.ty 60,.fn 143 []],L:=[],ret:=.ty 3,L':=[],R:=Int,dflt:=default,F:=fun N a b=>z4q N a.1,of:=fun r=>(r,()) }
noncomputable def zgw:Dat τ:={ D:=D0,tbl:=tblOf [(143,zc6)],lp:=lpsOf [(2,zfn)],k0:=0,mu:=[],un:=[] }
theorem ziw:ConOk E C 158 z6r :=
  zk (D:=zgw) ⟨d0Ok,eGood,zb ⟨zrb,trivial⟩,fun _=>rfl⟩ z6r (fun a b=>a) none (fun _ _=>rfl) rfl (fun _ _ h=>nomatch h) 1000000 (fn:=Tryz.f158) Tryz.func158 rfl (by kernel_rfl) (by kernel_rfl) rfl (by intro N a b; kernel_rfl)
def z3p (N:Nat) (s:List (GOp)):Option (Bool) :=
 ((z4q N s).bind fun r1 =>
 (some (decide (0≤r1))))
def z4z:Con τ:={ args:=[.ty 60,.fn 143 []],L:=[],ret:=.ty 4,L':=[],R:=Bool,dflt:=default,F:=fun N a b=>z3p N a.1,of:=fun r=>(r,()) }
noncomputable def zdu:Dat τ:={ D:=D0,tbl:=tblOf [(158,z6r)],lp:=lpsOf [],k0:=0,mu:=[],un:=[] }
theorem zeg:ConOk E C 142 z4z :=
  zk (D:=zdu) ⟨d0Ok,eGood,zb ⟨ziw,trivial⟩,fun _=>rfl⟩ z4z (fun a b=>a) none (fun _ _=>rfl) rfl (fun _ _ h=>nomatch h) 1000000 (fn:=Tryz.f142) Tryz.func142 rfl (by kernel_rfl) (by kernel_rfl) rfl (by intro N a b; kernel_rfl)
def z4g (N:Nat) (l:List (GOp)) (least:Int):Option (Bool) :=
 ((bif ((decide (least≤((l).length:Int)))&&(decide (((l).length:Int)≤4096))) then z3p N l else some default).bind fun r1 =>
 (some (((decide (least≤((l).length:Int)))&&(decide (((l).length:Int)≤4096)))&&(!r1))))
def zaw:Con τ:={ args:=[.ty 60,.ty 3],L:=[],ret:=.ty 4,L':=[],R:=Bool,dflt:=default,F:=fun N a b=>z4g N a.1 a.2.1,of:=fun r=>(r,()) }
noncomputable def zt2:Dat τ:={ D:=D0,tbl:=tblOf [(142,z4z)],lp:=lpsOf [],k0:=0,mu:=[],un:=[] }
theorem zmw:ConOk E C 108 zaw :=
  zk (D:=zt2) ⟨d0Ok,eGood,zb ⟨zeg,trivial⟩,fun _=>rfl⟩ zaw (fun a b=>a) none (fun _ _=>rfl) rfl (fun _ _ h=>nomatch h) 1000000 (fn:=Tryz.f108) Tryz.func108 rfl (by kernel_rfl) (by kernel_rfl) rfl (by intro N a b; kernel_rfl)
structure z4r where
  ok:Bool
  t14:Int
def zb5:List Sl:=[.k,.k,.k,.sh (.ty 4),.j,.k,.k,.k,.k,.k,.j,.k,.j,.k,.sh (.ty 2),.j,.j,.j,.j,.j,.j,.j,.j,.j,.j,.j,.j,.j,.j,.j,.j,.j,.j,.j,.j,.j,.j,.j,.j,.j,.j,.j,.j,.j,.j,.j,.j,.k]
def zb6:List ESh:=[.keep]
def zou (a:Sl.Ts τ zb5) (b:ESh.Ts τ zb6):z4r:=⟨a.2.2.2.1,a.2.2.2.2.2.2.2.2.2.2.2.2.2.2.1⟩
def zov (s:z4r):Sl.Ts τ zb5:=((),(),(),s.ok,(),(),(),(),(),(),(),(),(),(),s.t14,(),(),(),(),(),(),(),(),(),(),(),(),(),(),(),(),(),(),(),(),(),(),(),(),(),(),(),(),(),(),(),(),(),())
def zow (s:z4r):ESh.Ts τ zb6:=((),())
def zox:Lp τ:={ ts:=zb5,hs:=zb6,S:=z4r,to:=zou,ot:=zov,oh:=zow,hk:=[3],tk:=[0,2,0,0,0,2],ot_to:=fun _ _=>rfl,oh_to:=fun _ _=>rfl }
structure z48 where
  ok:Bool
  t14:Int
def zaj:List Sl:=[.k,.k,.k,.sh (.ty 4),.j,.k,.k,.k,.k,.k,.j,.k,.k,.k,.sh (.ty 2),.j,.j,.j,.j,.j,.j,.j,.j,.j,.j,.j,.j,.j,.j,.j,.j,.j,.j,.j,.j,.j,.j,.j,.j,.j,.j,.j,.j,.j,.j,.j,.j,.k]
def zak:List ESh:=[.keep]
def znq (a:Sl.Ts τ zaj) (b:ESh.Ts τ zak):z48:=⟨a.2.2.2.1,a.2.2.2.2.2.2.2.2.2.2.2.2.2.2.1⟩
def znr (s:z48):Sl.Ts τ zaj:=((),(),(),s.ok,(),(),(),(),(),(),(),(),(),(),s.t14,(),(),(),(),(),(),(),(),(),(),(),(),(),(),(),(),(),(),(),(),(),(),(),(),(),(),(),(),(),(),(),(),(),())
def zns (s:z48):ESh.Ts τ zak:=((),())
def znt:Lp τ:={ ts:=zaj,hs:=zak,S:=z48,to:=znq,ot:=znr,oh:=zns,hk:=[2],tk:=[0,2,0,0,0,2],ot_to:=fun _ _=>rfl,oh_to:=fun _ _=>rfl }
def z36 (N:Nat) (e:z7):Option (Bool) :=
 ((z17 N [e.Number]).bind fun r1 =>
 (bif r1 then
 ((bif r1 then z17 N (e.Seals.toList) else some default).bind fun r2 =>
 (iter N (fun (s3:z4r) next4 =>
 (bif (decide (s3.t14 < 8)) then
 (bif (!s3.ok || (ibB s3.t14 8)) then
 (bif (!(s3.ok&&(decide (0≤(vget e.States ((s3.t14).toNat) default)))) || (ibB s3.t14 8)) then
 (bif (!((s3.ok&&(decide (0≤(vget e.States ((s3.t14).toNat) default))))&&(decide ((vget e.States ((s3.t14).toNat) default)≤3))) || (ibB s3.t14 8)) then
 (bif (!(((s3.ok&&(decide (0≤(vget e.States ((s3.t14).toNat) default))))&&(decide ((vget e.States ((s3.t14).toNat) default)≤3)))&&(decide ((-1)≤(vget e.Sponsor ((s3.t14).toNat) default)))) || (ibB s3.t14 8)) then
 (next4 ⟨((((s3.ok&&(decide (0≤(vget e.States ((s3.t14).toNat) default))))&&(decide ((vget e.States ((s3.t14).toNat) default)≤3)))&&(decide ((-1)≤(vget e.Sponsor ((s3.t14).toNat) default))))&&(decide ((vget e.Sponsor ((s3.t14).toNat) default) < 8))),(IntKind.i64.wrap (s3.t14 + 1))⟩)
 else none)
 else none)
 else none)
 else none)
 else
 (some s3.ok))) ⟨(r1&&r2),0⟩))
 else
 (iter N (fun (s5:z48) next6 =>
 (bif (decide (s5.t14 < 8)) then
 (bif (!s5.ok || (ibB s5.t14 8)) then
 (bif (!(s5.ok&&(decide (0≤(vget e.States ((s5.t14).toNat) default)))) || (ibB s5.t14 8)) then
 (bif (!((s5.ok&&(decide (0≤(vget e.States ((s5.t14).toNat) default))))&&(decide ((vget e.States ((s5.t14).toNat) default)≤3))) || (ibB s5.t14 8)) then
 (bif (!(((s5.ok&&(decide (0≤(vget e.States ((s5.t14).toNat) default))))&&(decide ((vget e.States ((s5.t14).toNat) default)≤3)))&&(decide ((-1)≤(vget e.Sponsor ((s5.t14).toNat) default)))) || (ibB s5.t14 8)) then
 (next6 ⟨((((s5.ok&&(decide (0≤(vget e.States ((s5.t14).toNat) default))))&&(decide ((vget e.States ((s5.t14).toNat) default)≤3)))&&(decide ((-1)≤(vget e.Sponsor ((s5.t14).toNat) default))))&&(decide ((vget e.Sponsor ((s5.t14).toNat) default) < 8))),(IntKind.i64.wrap (s5.t14 + 1))⟩)
 else none)
 else none)
 else none)
 else none)
 else
 (some s5.ok))) ⟨false,0⟩)))
def z9k:Con τ:={ args:=[.ty 30],L:=[],ret:=.ty 4,L':=[],R:=Bool,dflt:=default,F:=fun N a b=>z36 N a.1,of:=fun r=>(r,()) }
noncomputable def zq7:Dat τ:={ D:=D0,tbl:=tblOf [(106,z3o)],lp:=lpsOf [(3,zox),(3,znt)],k0:=0,mu:=[],un:=[] }
theorem zk1:ConOk E C 97 z9k :=
  zk (D:=zq7) ⟨d0Ok,eGood,zb ⟨z7y,trivial⟩,fun _=>rfl⟩ z9k (fun a b=>a) none (fun _ _=>rfl) rfl (fun _ _ h=>nomatch h) 1000000 (fn:=Tryz.f97) Tryz.func97 rfl (by kernel_rfl) (by kernel_rfl) rfl (by intro N a b; kernel_rfl)
def z29 (N:Nat) (p:GPart):Option (Bool) :=
 ((z17 N [p.Snap]).bind fun r1 =>
 (some (((((r1&&(decide (1≤p.Many)))&&(decide (p.Many≤4096)))&&(decide (0≤p.Index)))&&(decide (p.Index < p.Many)))&&(decide (((p.Data).length:Int)≤16384)))))
def za6:Con τ:={ args:=[.ty 62],L:=[],ret:=.ty 4,L':=[],R:=Bool,dflt:=default,F:=fun N a b=>z29 N a.1,of:=fun r=>(r,()) }
noncomputable def zrc:Dat τ:={ D:=D0,tbl:=tblOf [(106,z3o)],lp:=lpsOf [],k0:=0,mu:=[],un:=[] }
theorem zlu:ConOk E C 109 za6 :=
  zk (D:=zrc) ⟨d0Ok,eGood,zb ⟨z7y,trivial⟩,fun _=>rfl⟩ za6 (fun a b=>a) none (fun _ _=>rfl) rfl (fun _ _ h=>nomatch h) 1000000 (fn:=Tryz.f109) Tryz.func109 rfl (by kernel_rfl) (by kernel_rfl) rfl (by intro N a b; kernel_rfl)
def z12 (N:Nat) (e:z6):Option (Int) :=
 (bif (e.Kind==0) then
 ((zn N (⟨e.Kind,0,0,(⟨(⟨0,0⟩:zm),0,0,0,[],[],[]⟩:GOp),0,0,[],(⟨0,(Vector.replicate 8 (default:Int)),(Vector.replicate 8 (default:Int)),(Vector.replicate 8 (default:Int))⟩:z7),0,(Vector.replicate 8 (default:Int)),0,(⟨0,0,0,[]⟩:GPart),0,0,0⟩:z6) e).bind fun r1 =>
 ((zw N r1).bind fun r2 =>
 (some r2)))
 else
 (bif (e.Kind==1) then
 ((z17 N [e.Session,e.Request]).bind fun r3 =>
 ((bif ((r3&&(decide (0 < e.Session)))&&(decide (0 < e.Request))) then za5 N e.Op else some default).bind fun r4 =>
 ((bif (((r3&&(decide (0 < e.Session)))&&(decide (0 < e.Request)))&&r4) then zn N (⟨e.Kind,e.Session,e.Request,e.Op,0,0,[],(⟨0,(Vector.replicate 8 (default:Int)),(Vector.replicate 8 (default:Int)),(Vector.replicate 8 (default:Int))⟩:z7),0,(Vector.replicate 8 (default:Int)),0,(⟨0,0,0,[]⟩:GPart),0,0,0⟩:z6) e else some default).bind fun r5 =>
 ((zw N ((((r3&&(decide (0 < e.Session)))&&(decide (0 < e.Request)))&&r4)&&r5)).bind fun r6 =>
 (some r6)))))
 else
 (bif (e.Kind==2) then
 ((z1z N [e.Origin]).bind fun r7 =>
 ((bif r7 then z17 N [e.Seq] else some default).bind fun r8 =>
 ((bif (r7&&r8) then z4g N e.Ops 1 else some default).bind fun r9 =>
 ((bif ((r7&&r8)&&r9) then zn N (⟨e.Kind,0,0,(⟨(⟨0,0⟩:zm),0,0,0,[],[],[]⟩:GOp),e.Origin,e.Seq,e.Ops,(⟨0,(Vector.replicate 8 (default:Int)),(Vector.replicate 8 (default:Int)),(Vector.replicate 8 (default:Int))⟩:z7),0,(Vector.replicate 8 (default:Int)),0,(⟨0,0,0,[]⟩:GPart),0,0,0⟩:z6) e else some default).bind fun r10 =>
 ((zw N (((r7&&r8)&&r9)&&r10)).bind fun r11 =>
 (some r11))))))
 else
 (bif (e.Kind==3) then
 ((z36 N e.Epoch).bind fun r12 =>
 ((bif r12 then zn N (⟨e.Kind,0,0,(⟨(⟨0,0⟩:zm),0,0,0,[],[],[]⟩:GOp),0,0,[],e.Epoch,0,(Vector.replicate 8 (default:Int)),0,(⟨0,0,0,[]⟩:GPart),0,0,0⟩:z6) e else some default).bind fun r13 =>
 ((zw N (r12&&r13)).bind fun r14 =>
 (some r14))))
 else
 (bif (e.Kind==4) then
 ((z17 N [e.Seq,e.Clock]).bind fun r15 =>
 ((bif r15 then z1z N [e.From] else some default).bind fun r16 =>
 (bif (r15&&r16) then
 ((bif (r15&&r16) then z17 N (e.Vector_.toList) else some default).bind fun r17 =>
 ((bif ((r15&&r16)&&r17) then zn N (⟨e.Kind,0,0,(⟨(⟨0,0⟩:zm),0,0,0,[],[],[]⟩:GOp),0,e.Seq,[],(⟨0,(Vector.replicate 8 (default:Int)),(Vector.replicate 8 (default:Int)),(Vector.replicate 8 (default:Int))⟩:z7),e.From,e.Vector_,e.Clock,(⟨0,0,0,[]⟩:GPart),0,0,0⟩:z6) e else some default).bind fun r18 =>
 ((zw N (((r15&&r16)&&r17)&&r18)).bind fun r19 =>
 (some r19))))
 else
 ((bif false then zn N (⟨e.Kind,0,0,(⟨(⟨0,0⟩:zm),0,0,0,[],[],[]⟩:GOp),0,e.Seq,[],(⟨0,(Vector.replicate 8 (default:Int)),(Vector.replicate 8 (default:Int)),(Vector.replicate 8 (default:Int))⟩:z7),e.From,e.Vector_,e.Clock,(⟨0,0,0,[]⟩:GPart),0,0,0⟩:z6) e else some default).bind fun r20 =>
 ((zw N false).bind fun r21 =>
 (some r21))))))
 else
 (bif (e.Kind==5) then
 ((z29 N e.Part).bind fun r22 =>
 ((bif r22 then zn N (⟨e.Kind,0,0,(⟨(⟨0,0⟩:zm),0,0,0,[],[],[]⟩:GOp),0,0,[],(⟨0,(Vector.replicate 8 (default:Int)),(Vector.replicate 8 (default:Int)),(Vector.replicate 8 (default:Int))⟩:z7),0,(Vector.replicate 8 (default:Int)),0,e.Part,0,0,0⟩:z6) e else some default).bind fun r23 =>
 ((zw N (r22&&r23)).bind fun r24 =>
 (some r24))))
 else
 (bif (e.Kind==6) then
 ((z1z N [e.Site,e.Sponsor]).bind fun r25 =>
 ((bif r25 then zn N (⟨e.Kind,0,0,(⟨(⟨0,0⟩:zm),0,0,0,[],[],[]⟩:GOp),0,0,[],(⟨0,(Vector.replicate 8 (default:Int)),(Vector.replicate 8 (default:Int)),(Vector.replicate 8 (default:Int))⟩:z7),0,(Vector.replicate 8 (default:Int)),0,(⟨0,0,0,[]⟩:GPart),e.Site,e.Sponsor,0⟩:z6) e else some default).bind fun r26 =>
 ((zw N (r25&&r26)).bind fun r27 =>
 (some r27))))
 else
 (bif (e.Kind==7) then
 ((z1z N [e.Site]).bind fun r28 =>
 ((bif r28 then zn N (⟨e.Kind,0,0,(⟨(⟨0,0⟩:zm),0,0,0,[],[],[]⟩:GOp),0,0,[],(⟨0,(Vector.replicate 8 (default:Int)),(Vector.replicate 8 (default:Int)),(Vector.replicate 8 (default:Int))⟩:z7),0,(Vector.replicate 8 (default:Int)),0,(⟨0,0,0,[]⟩:GPart),e.Site,0,0⟩:z6) e else some default).bind fun r29 =>
 ((zw N (r28&&r29)).bind fun r30 =>
 (some r30))))
 else
 (bif (e.Kind==8) then
 ((z1z N [e.Site]).bind fun r31 =>
 ((bif r31 then z17 N [e.Length] else some default).bind fun r32 =>
 ((bif (r31&&r32) then zn N (⟨e.Kind,0,0,(⟨(⟨0,0⟩:zm),0,0,0,[],[],[]⟩:GOp),0,0,[],(⟨0,(Vector.replicate 8 (default:Int)),(Vector.replicate 8 (default:Int)),(Vector.replicate 8 (default:Int))⟩:z7),0,(Vector.replicate 8 (default:Int)),0,(⟨0,0,0,[]⟩:GPart),e.Site,0,e.Length⟩:z6) e else some default).bind fun r33 =>
 ((zw N ((r31&&r32)&&r33)).bind fun r34 =>
 (some r34)))))
 else
 ((bif false then zn N (⟨e.Kind,0,0,(⟨(⟨0,0⟩:zm),0,0,0,[],[],[]⟩:GOp),0,0,[],(⟨0,(Vector.replicate 8 (default:Int)),(Vector.replicate 8 (default:Int)),(Vector.replicate 8 (default:Int))⟩:z7),0,(Vector.replicate 8 (default:Int)),0,(⟨0,0,0,[]⟩:GPart),0,0,0⟩:z6) e else some default).bind fun r35 =>
 ((zw N false).bind fun r36 =>
 (some r36))))))))))))
def z3w:Con τ:={ args:=[.ty 64],L:=[],ret:=.ty 35,L':=[],R:=Int,dflt:=default,F:=fun N a b=>z12 N a.1,of:=fun r=>(r,()) }
noncomputable def znu:Dat τ:={ D:=D0,tbl:=tblOf [(110,z68),(89,za4),(106,z3o),(90,zc5),(107,zao),(108,zaw),(97,z9k),(109,za6)],lp:=lpsOf [],k0:=0,mu:=[],un:=[] }
theorem z8w:ConOk E C 64 z3w :=
  zk (D:=znu) ⟨d0Ok,eGood,zb ⟨zc4,⟨zlt,⟨z7y,⟨zo2,⟨zl0,⟨zmw,⟨zk1,⟨zlu,trivial⟩⟩⟩⟩⟩⟩⟩⟩,fun _=>rfl⟩ z3w (fun a b=>a) none (fun _ _=>rfl) rfl (fun _ _ h=>nomatch h) 1000000 (fn:=Tryz.f64) Tryz.func64 rfl (by kernel_rfl) (by kernel_rfl) rfl (by intro N a b; kernel_rfl)
def z9t (N:Nat)  : Option (Bool×(List (Int))) :=
 (some (true,[]))
def za7:Con τ:={ args:=[],L:=[],ret:=.ptr 0 [],L':=[.box (.agg [.ty 4,.own 5 1]),.tail],R:=Bool×(List (Int)),dflt:=(default,default),F:=fun N a b=>z9t N ,of:=fun r=>((),((r.1,r.2,()),(),())) }
noncomputable def zrd:Dat τ:={ D:=D0,tbl:=tblOf [],lp:=lpsOf [],k0:=0,mu:=[],un:=[] }
theorem zlv:ConOk E C 7 za7 :=
  zk (D:=zrd) ⟨d0Ok,eGood,zb trivial,fun _=>rfl⟩ za7 (fun a b=>(b.1.1,b.1.2.1)) none (fun _ _=>rfl) rfl (fun _ _ h=>nomatch h) 1000000 (fn:=Tryz.f7) Tryz.func7 rfl (by kernel_rfl) (by kernel_rfl) rfl (by intro N a b; kernel_rfl)
structure z5l where
  u:Int
  b:List (Int)
def zfo:List Sl:=[.k,.k,.k,.sh (.ty 12),.sh (.own 5 0),.k,.k,.k,.k,.k,.k,.k,.j,.j,.j,.j,.j,.j,.j,.j,.j,.j,.k,.k,.k,.k,.k]
def zfp:List ESh:=[.tail]
def zul (a:Sl.Ts τ zfo) (b:ESh.Ts τ zfp):z5l:=⟨a.2.2.2.1,a.2.2.2.2.1⟩
def zum (s:z5l):Sl.Ts τ zfo:=((),(),(),s.u,s.b,(),(),(),(),(),(),(),(),(),(),(),(),(),(),(),(),(),(),(),(),(),(),())
def zun (s:z5l):ESh.Ts τ zfp:=((),())
def zuo:Lp τ:={ ts:=zfo,hs:=zfp,S:=z5l,to:=zul,ot:=zum,oh:=zun,hk:=[],tk:=[],ot_to:=fun _ _=>rfl,oh_to:=fun _ _=>rfl }
def zbg (N:Nat) (n:Int):Option ((List (Int))) :=
 (bif (decide (n < 0)) then
 (iter N (fun (s1:z5l) next2 =>
 (bif (decide (128≤s1.u)) then
 (bif (lenB ((s1.b).length + ([(bits .or .u8 (IntKind.u8.wrap s1.u) 128)]).length) 1) then
 (next2 ⟨(shr .u64 s1.u 7),(s1.b++[(bits .or .u8 (IntKind.u8.wrap s1.u) 128)])⟩)
 else none)
 else
 (bif (lenB ((s1.b).length + ([(IntKind.u8.wrap s1.u)]).length) 1) then
 (some (s1.b++[(IntKind.u8.wrap s1.u)]))
 else none))) ⟨(bits .xor .u64 IntKind.u64.max (shl .u64 (IntKind.u64.wrap n) 1)),[]⟩)
 else
 (iter N (fun (s3:z5l) next4 =>
 (bif (decide (128≤s3.u)) then
 (bif (lenB ((s3.b).length + ([(bits .or .u8 (IntKind.u8.wrap s3.u) 128)]).length) 1) then
 (next4 ⟨(shr .u64 s3.u 7),(s3.b++[(bits .or .u8 (IntKind.u8.wrap s3.u) 128)])⟩)
 else none)
 else
 (bif (lenB ((s3.b).length + ([(IntKind.u8.wrap s3.u)]).length) 1) then
 (some (s3.b++[(IntKind.u8.wrap s3.u)]))
 else none))) ⟨(shl .u64 (IntKind.u64.wrap n) 1),[]⟩))
def zar:Con τ:={ args:=[.ty 2],L:=[],ret:=.own 5 0,L':=[.tail],R:=(List (Int)),dflt:=default,F:=fun N a b=>zbg N a.1,of:=fun r=>(r,((),())) }
noncomputable def zwl:Dat τ:={ D:=D0,tbl:=tblOf [],lp:=lpsOf [(5,zuo)],k0:=0,mu:=[],un:=[] }
theorem zl1:ConOk E C 123 zar :=
  zk (D:=zwl) ⟨d0Ok,eGood,zb trivial,fun _=>rfl⟩ zar (fun a b=>a) none (fun _ _=>rfl) rfl (fun _ _ h=>nomatch h) 1000000 (fn:=Tryz.f123) Tryz.func123 rfl (by kernel_rfl) (by kernel_rfl) rfl (by intro N a b; kernel_rfl)
def z4j (N:Nat) (b0:Bool) (b02:List (Int)):Option (Bool×Bool×(List (Int))) :=
 (some ((!b0),b0,b02))
def z5i:Con τ:={ args:=[.ptr 0 []],L:=[.box (.agg [.ty 4,.own 5 1]),.tail],ret:=.ty 4,L':=[.box (.agg [.ty 4,.own 5 1]),.tail],R:=Bool×Bool×(List (Int)),dflt:=(default,default,default),F:=fun N a b=>z4j N b.1.1 b.1.2.1,of:=fun r=>(r.1,((r.2.1,r.2.2,()),(),())) }
noncomputable def zl2:Dat τ:={ D:=D0,tbl:=tblOf [],lp:=lpsOf [],k0:=2,mu:=[],un:=[] }
theorem zcu:ConOk E C 48 z5i :=
  zk (D:=zl2) ⟨d0Ok,eGood,zb trivial,fun _=>rfl⟩ z5i (fun a b=>(a,b.1.1,b.1.2.1)) none (fun _ _=>rfl) rfl (fun _ _ h=>nomatch h) 1000000 (fn:=Tryz.f48) Tryz.func48 rfl (by kernel_rfl) (by kernel_rfl) rfl (by intro N a b; kernel_rfl)
structure z32 where
  n:Int
  t19:Int
def z8x:List Sl:=[.k,.k,.k,.k,.j,.sh (.ty 2),.k,.j,.k,.k,.k,.k,.k,.k,.k,.k,.k,.k,.k,.sh (.ty 2),.j,.j,.j,.j,.j,.j,.j,.j,.j,.j,.j,.j,.j,.k,.k,.k,.k,.k,.k,.k,.k,.k,.k,.k,.k,.k,.k,.k,.k]
def z8y:List ESh:=[.keep,.keep]
def zl3 (a:Sl.Ts τ z8x) (b:ESh.Ts τ z8y):z32:=⟨a.2.2.2.2.2.1,a.2.2.2.2.2.2.2.2.2.2.2.2.2.2.2.2.2.2.2.1⟩
def zl4 (s:z32):Sl.Ts τ z8x:=((),(),(),(),(),s.n,(),(),(),(),(),(),(),(),(),(),(),(),(),s.t19,(),(),(),(),(),(),(),(),(),(),(),(),(),(),(),(),(),(),(),(),(),(),(),(),(),(),(),(),(),())
def zl5 (s:z32):ESh.Ts τ z8y:=((),(),())
def zl6:Lp τ:={ ts:=z8x,hs:=z8y,S:=z32,to:=zl3,ot:=zl4,oh:=zl5,hk:=[2,5],tk:=[2,0,0,0,0,0,0,0,0,0,2,0,2,2,2],ot_to:=fun _ _=>rfl,oh_to:=fun _ _=>rfl }
structure z2i where
  t35:Int
  b0:Bool
  b02:List (Int)
def z88:List Sl:=[.k,.k,.k,.k,.k,.k,.k,.k,.k,.j,.k,.k,.k,.k,.k,.k,.k,.k,.k,.k,.k,.k,.k,.k,.k,.k,.k,.k,.k,.k,.k,.k,.k,.k,.k,.sh (.ty 2),.j,.j,.j,.j,.j,.j,.j,.j,.j,.j,.j,.j,.j]
def z89:List ESh:=[.box (.agg [.ty 4,.own 5 2]),.dead,.tail]
def zk2 (a:Sl.Ts τ z88) (b:ESh.Ts τ z89):z2i:=⟨a.2.2.2.2.2.2.2.2.2.2.2.2.2.2.2.2.2.2.2.2.2.2.2.2.2.2.2.2.2.2.2.2.2.2.2.1,b.1.1,b.1.2.1⟩
def zk3 (s:z2i):Sl.Ts τ z88:=((),(),(),(),(),(),(),(),(),(),(),(),(),(),(),(),(),(),(),(),(),(),(),(),(),(),(),(),(),(),(),(),(),(),(),s.t35,(),(),(),(),(),(),(),(),(),(),(),(),(),())
def zk4 (s:z2i):ESh.Ts τ z89:=((s.b0,s.b02,()),(),(),())
def zk5:Lp τ:={ ts:=z88,hs:=z89,S:=z2i,to:=zk2,ot:=zk3,oh:=zk4,hk:=[2,5],tk:=[2,0,0,0,0,0,0,0,0,0,2,0,2,2,2],ot_to:=fun _ _=>rfl,oh_to:=fun _ _=>rfl }
def z52 (N:Nat) (l:List (List (Int))) (b0:Bool) (b02:List (Int)):Option (Int×Bool×(List (Int))) :=
 ((z4j N b0 b02).bind fun r1 =>
 (bif r1.1 then
 (some (2,r1.2.1,r1.2.2))
 else
 (iter N (fun (s2:z32) next3 =>
 (bif (decide (s2.t19 < ((l).length:Int))) then
 (bif (ibB s2.t19 ((l).length:Int)) then
 (bif (decide ((IntKind.i64.wrap (1048576 - s2.n)) < (((lget l s2.t19 default)).length:Int))) then
 (some (3,r1.2.1,r1.2.2))
 else
 (next3 ⟨(IntKind.i64.wrap (s2.n + (((lget l s2.t19 default)).length:Int))),(IntKind.i64.wrap (s2.t19 + 1))⟩))
 else none)
 else
 (iter N (fun (s4:z2i) next5 =>
 (bif (decide (s4.t35 < ((l).length:Int))) then
 (bif (ibB s4.t35 ((l).length:Int)) then
 (bif (lenB ((s4.b02).length + ((lget l s4.t35 default)).length) 1) then
 (next5 ⟨(IntKind.i64.wrap (s4.t35 + 1)),s4.b0,(s4.b02++(lget l s4.t35 default))⟩)
 else none)
 else none)
 else
 (some (0,s4.b0,s4.b02)))) ⟨0,r1.2.1,r1.2.2⟩))) ⟨((r1.2.2).length:Int),0⟩)))
def z6i:Con τ:={ args:=[.ptr 0 [],.ty 194],L:=[.box (.agg [.ty 4,.own 5 1]),.tail],ret:=.ty 35,L':=[.box (.agg [.ty 4,.own 5 2]),.dead,.tail],R:=Int×Bool×(List (Int)),dflt:=(default,default,default),F:=fun N a b=>z52 N a.2.1 b.1.1 b.1.2.1,of:=fun r=>(r.1,((r.2.1,r.2.2,()),(),(),())) }
noncomputable def zm3:Dat τ:={ D:=D0,tbl:=tblOf [(48,z5i)],lp:=lpsOf [(5,zl6),(12,zk5)],k0:=2,mu:=[],un:=[] }
theorem zdk:ConOk E C 134 z6i :=
  zk (D:=zm3) ⟨d0Ok,eGood,zb ⟨zcu,trivial⟩,fun _=>rfl⟩ z6i (fun a b=>(a,b.1.1,b.1.2.1)) none (fun _ _=>rfl) rfl (fun _ _ h=>nomatch h) 1000000 (fn:=Tryz.f134) Tryz.func134 rfl (by kernel_rfl) (by kernel_rfl) rfl (by intro N a b; kernel_rfl)
def z53 (N:Nat) (n:Int) (b0:Bool) (b02:List (Int)):Option (Int×Bool×(List (Int))) :=
 ((zbg N n).bind fun r1 =>
 ((z52 N [r1] b0 b02).bind fun r2 =>
 (some (r2.1,r2.2.1,r2.2.2))))
def z6j:Con τ:={ args:=[.ptr 0 [],.ty 2],L:=[.box (.agg [.ty 4,.own 5 1]),.tail],ret:=.ty 35,L':=[.box (.agg [.ty 4,.own 5 2]),.dead,.tail],R:=Int×Bool×(List (Int)),dflt:=(default,default,default),F:=fun N a b=>z53 N a.2.1 b.1.1 b.1.2.1,of:=fun r=>(r.1,((r.2.1,r.2.2,()),(),(),())) }
noncomputable def zm4:Dat τ:={ D:=D0,tbl:=tblOf [(123,zar),(134,z6i)],lp:=lpsOf [],k0:=2,mu:=[],un:=[] }
theorem zdl:ConOk E C 88 z6j :=
  zk (D:=zm4) ⟨d0Ok,eGood,zb ⟨zl1,⟨zdk,trivial⟩⟩,fun _=>rfl⟩ z6j (fun a b=>(a,b.1.1,b.1.2.1)) none (fun _ _=>rfl) rfl (fun _ _ h=>nomatch h) 1000000 (fn:=Tryz.f88) Tryz.func88 rfl (by kernel_rfl) (by kernel_rfl) rfl (by intro N a b; kernel_rfl)
def z2j (N:Nat) (e:Int) (b0:Int) (b1:Bool) (b12:List (Int)):Option (Int×Bool×(List (Int))) :=
 (bif (b0==0) then
 (some (e,b1,b12))
 else
 (some (b0,b1,b12)))
def z2m:Con τ:={ args:=[.ptr 0 [],.ty 35],L:=[.box (.agg [.ptr 1 [],.ty 35]),.box (.agg [.ty 4,.own 5 2]),.tail],ret:=.tup [],L':=[.box (.agg [.ptr 1 [],.ty 35]),.box (.agg [.ty 4,.own 5 2]),.tail],R:=Int×Bool×(List (Int)),dflt:=(default,default,default),F:=fun N a b=>z2j N a.2.1 b.1.2.1 b.2.1.1 b.2.1.2.1,of:=fun r=>((),(((),r.1,()),(r.2.1,r.2.2,()),(),())) }
noncomputable def zix:Dat τ:={ D:=D0,tbl:=tblOf [],lp:=lpsOf [],k0:=3,mu:=[],un:=[] }
theorem z4s:ConOk E C 137 z2m :=
  zk (D:=zix) ⟨d0Ok,eGood,zb trivial,fun _=>rfl⟩ z2m (fun a b=>(b.1.2.1,b.2.1.1,b.2.1.2.1)) none (fun _ _=>rfl) rfl (fun _ _ h=>nomatch h) 1000000 (fn:=Tryz.f137) Tryz.func137 rfl (by kernel_rfl) (by kernel_rfl) rfl (by intro N a b; kernel_rfl)
structure z2f where
  t8:Int
  b0:Int
  b1:Bool
  b12:List (Int)
def z6b:List Sl:=[.k,.k,.k,.k,.k,.j,.k,.k,.sh (.ty 2),.j,.j,.j,.j,.j,.j,.j,.j,.j,.j,.j,.j]
def z6c:List ESh:=[.box (.agg [.ptr 1 [],.ty 2]),.box (.agg [.ty 4,.own 5 3]),.dead,.tail]
def zfq (a:Sl.Ts τ z6b) (b:ESh.Ts τ z6c):z2f:=⟨a.2.2.2.2.2.2.2.2.1,b.1.2.1,b.2.1.1,b.2.1.2.1⟩
def zfr (s:z2f):Sl.Ts τ z6b:=((),(),(),(),(),(),(),(),s.t8,(),(),(),(),(),(),(),(),(),(),(),(),())
def zfs (s:z2f):ESh.Ts τ z6c:=(((),s.b0,()),(s.b1,s.b12,()),(),(),())
def zft:Lp τ:={ ts:=z6b,hs:=z6c,S:=z2f,to:=zfq,ot:=zfr,oh:=zfs,hk:=[2,2,5],tk:=[2],ot_to:=fun _ _=>rfl,oh_to:=fun _ _=>rfl }
def zc (N:Nat) (l:List (Int)) (b0:Int) (b1:Bool) (b12:List (Int)):Option (Int×Bool×(List (Int))) :=
 (iter N (fun (s1:z2f) next2 =>
 (bif (decide (s1.t8 < ((l).length:Int))) then
 (bif (ibB s1.t8 ((l).length:Int)) then
 ((z53 N (lget l s1.t8 default) s1.b1 s1.b12).bind fun r3 =>
 ((z2j N r3.1 s1.b0 r3.2.1 r3.2.2).bind fun r4 =>
 (next2 ⟨(IntKind.i64.wrap (s1.t8 + 1)),r4.1,r4.2.1,r4.2.2⟩)))
 else none)
 else
 (some (s1.b0,s1.b1,s1.b12)))) ⟨0,b0,b1,b12⟩)
def z14:Con τ:={ args:=[.ptr 0 [],.ty 145],L:=[.box (.agg [.ptr 1 [],.ty 35]),.box (.agg [.ty 4,.own 5 2]),.tail],ret:=.tup [],L':=[.box (.agg [.ptr 1 [],.ty 35]),.box (.agg [.ty 4,.own 5 3]),.dead,.tail],R:=Int×Bool×(List (Int)),dflt:=(default,default,default),F:=fun N a b=>zc N a.2.1 b.1.2.1 b.2.1.1 b.2.1.2.1,of:=fun r=>((),(((),r.1,()),(r.2.1,r.2.2,()),(),(),())) }
noncomputable def zgx:Dat τ:={ D:=D0,tbl:=tblOf [(88,z6j),(137,z2m)],lp:=lpsOf [(1,zft)],k0:=3,mu:=[],un:=[] }
theorem z1k:ConOk E C 93 z14 :=
  zk (D:=zgx) ⟨d0Ok,eGood,zb ⟨zdl,⟨z4s,trivial⟩⟩,fun _=>rfl⟩ z14 (fun a b=>(b.1.2.1,b.2.1.1,b.2.1.2.1)) none (fun _ _=>rfl) rfl (fun _ _ h=>nomatch h) 1000000 (fn:=Tryz.f93) Tryz.func93 rfl (by kernel_rfl) (by kernel_rfl) rfl (by intro N a b; kernel_rfl)
structure z2n where
  t8:Int
  b0:Int
  b1:Bool
  b12:List (Int)
def z6s:List Sl:=[.k,.k,.k,.k,.k,.j,.k,.k,.sh (.ty 2),.j,.j,.j,.j,.j,.j,.j,.j,.j,.j,.j,.j]
def z6t:List ESh:=[.box (.agg [.ptr 1 [],.ty 2]),.box (.agg [.ty 4,.own 5 3]),.dead,.tail]
def zgy (a:Sl.Ts τ z6s) (b:ESh.Ts τ z6t):z2n:=⟨a.2.2.2.2.2.2.2.2.1,b.1.2.1,b.2.1.1,b.2.1.2.1⟩
def zgz (s:z2n):Sl.Ts τ z6s:=((),(),(),(),(),(),(),(),s.t8,(),(),(),(),(),(),(),(),(),(),(),(),())
def zh0 (s:z2n):ESh.Ts τ z6t:=(((),s.b0,()),(s.b1,s.b12,()),(),(),())
def zh1:Lp τ:={ ts:=z6s,hs:=z6t,S:=z2n,to:=zgy,ot:=zgz,oh:=zh0,hk:=[2,2,5],tk:=[2],ot_to:=fun _ _=>rfl,oh_to:=fun _ _=>rfl }
def z5 (N:Nat) (l:List (Int)) (b0:Int) (b1:Bool) (b12:List (Int)):Option (Int×Bool×(List (Int))) :=
 (iter N (fun (s1:z2n) next2 =>
 (bif (decide (s1.t8 < ((l).length:Int))) then
 (bif (ibB s1.t8 ((l).length:Int)) then
 ((z53 N (lget l s1.t8 default) s1.b1 s1.b12).bind fun r3 =>
 ((z2j N r3.1 s1.b0 r3.2.1 r3.2.2).bind fun r4 =>
 (next2 ⟨(IntKind.i64.wrap (s1.t8 + 1)),r4.1,r4.2.1,r4.2.2⟩)))
 else none)
 else
 (some (s1.b0,s1.b1,s1.b12)))) ⟨0,b0,b1,b12⟩)
def z1l:Con τ:={ args:=[.ptr 0 [],.ty 143],L:=[.box (.agg [.ptr 1 [],.ty 35]),.box (.agg [.ty 4,.own 5 2]),.tail],ret:=.tup [],L':=[.box (.agg [.ptr 1 [],.ty 35]),.box (.agg [.ty 4,.own 5 3]),.dead,.tail],R:=Int×Bool×(List (Int)),dflt:=(default,default,default),F:=fun N a b=>z5 N a.2.1 b.1.2.1 b.2.1.1 b.2.1.2.1,of:=fun r=>((),(((),r.1,()),(r.2.1,r.2.2,()),(),(),())) }
noncomputable def ziy:Dat τ:={ D:=D0,tbl:=tblOf [(88,z6j),(137,z2m)],lp:=lpsOf [(1,zh1)],k0:=3,mu:=[],un:=[] }
theorem z2a:ConOk E C 92 z1l :=
  zk (D:=ziy) ⟨d0Ok,eGood,zb ⟨zdl,⟨z4s,trivial⟩⟩,fun _=>rfl⟩ z1l (fun a b=>(b.1.2.1,b.2.1.1,b.2.1.2.1)) none (fun _ _=>rfl) rfl (fun _ _ h=>nomatch h) 1000000 (fn:=Tryz.f92) Tryz.func92 rfl (by kernel_rfl) (by kernel_rfl) rfl (by intro N a b; kernel_rfl)
def z47 (N:Nat) (b:List (Int)) (b0:Bool) (b02:List (Int)):Option (Int×Bool×(List (Int))) :=
 ((zbg N ((b).length:Int)).bind fun r1 =>
 ((z52 N [r1,b] b0 b02).bind fun r2 =>
 (some (r2.1,r2.2.1,r2.2.2))))
def z4t:Con τ:={ args:=[.ptr 0 [],.ty 31],L:=[.box (.agg [.ty 4,.own 5 1]),.tail],ret:=.ty 35,L':=[.box (.agg [.ty 4,.own 5 2]),.dead,.tail],R:=Int×Bool×(List (Int)),dflt:=(default,default,default),F:=fun N a b=>z47 N a.2.1 b.1.1 b.1.2.1,of:=fun r=>(r.1,((r.2.1,r.2.2,()),(),(),())) }
noncomputable def zk6:Dat τ:={ D:=D0,tbl:=tblOf [(123,zar),(134,z6i)],lp:=lpsOf [],k0:=2,mu:=[],un:=[] }
theorem zc7:ConOk E C 146 z4t :=
  zk (D:=zk6) ⟨d0Ok,eGood,zb ⟨zl1,⟨zdk,trivial⟩⟩,fun _=>rfl⟩ z4t (fun a b=>(a,b.1.1,b.1.2.1)) none (fun _ _=>rfl) rfl (fun _ _ h=>nomatch h) 1000000 (fn:=Tryz.f146) Tryz.func146 rfl (by kernel_rfl) (by kernel_rfl) rfl (by intro N a b; kernel_rfl)
def z70 (N:Nat) (s:List UInt8) (b0:Bool) (b02:List (Int)):Option (Int×Bool×(List (Int))) :=
 ((z47 N (zhq s) b0 b02).bind fun r1 =>
 (some (r1.1,r1.2.1,r1.2.2)))
def z8z:Con τ:={ args:=[.ptr 0 [],.ty 9],L:=[.box (.agg [.ty 4,.own 5 1]),.tail],ret:=.ty 35,L':=[.box (.agg [.ty 4,.own 5 2]),.dead,.tail],R:=Int×Bool×(List (Int)),dflt:=(default,default,default),F:=fun N a b=>z70 N a.2.1 b.1.1 b.1.2.1,of:=fun r=>(r.1,((r.2.1,r.2.2,()),(),(),())) }
noncomputable def zl7:Dat τ:={ D:=D0,tbl:=tblOf [(146,z4t)],lp:=lpsOf [],k0:=2,mu:=[],un:=[] }
theorem zm5:ConOk E C 138 z8z :=
  zk (D:=zl7) ⟨d0Ok,eGood,zb ⟨zc7,trivial⟩,fun _=>rfl⟩ z8z (fun a b=>(a,b.1.1,b.1.2.1)) none (fun _ _=>rfl) rfl (fun _ _ h=>nomatch h) 1000000 (fn:=Tryz.f138) Tryz.func138 rfl (by kernel_rfl) (by kernel_rfl) rfl (by intro N a b; kernel_rfl)
structure z2g where
  t8:Int
  b0:Int
  b1:Bool
  b12:List (Int)
def z6d:List Sl:=[.k,.k,.k,.k,.k,.j,.k,.k,.sh (.ty 2),.j,.j,.j,.j,.j,.j,.j,.j,.j,.j,.j,.j]
def z6e:List ESh:=[.box (.agg [.ptr 1 [],.ty 2]),.box (.agg [.ty 4,.own 5 3]),.dead,.tail]
def zfu (a:Sl.Ts τ z6d) (b:ESh.Ts τ z6e):z2g:=⟨a.2.2.2.2.2.2.2.2.1,b.1.2.1,b.2.1.1,b.2.1.2.1⟩
def zfv (s:z2g):Sl.Ts τ z6d:=((),(),(),(),(),(),(),(),s.t8,(),(),(),(),(),(),(),(),(),(),(),(),())
def zfw (s:z2g):ESh.Ts τ z6e:=(((),s.b0,()),(s.b1,s.b12,()),(),(),())
def zfx:Lp τ:={ ts:=z6d,hs:=z6e,S:=z2g,to:=zfu,ot:=zfv,oh:=zfw,hk:=[2,2,5],tk:=[2],ot_to:=fun _ _=>rfl,oh_to:=fun _ _=>rfl }
def z4u (N:Nat) (l:List (List UInt8)) (b0:Int) (b1:Bool) (b12:List (Int)):Option (Int×Bool×(List (Int))) :=
 (iter N (fun (s1:z2g) next2 =>
 (bif (decide (s1.t8 < ((l).length:Int))) then
 (bif (ibB s1.t8 ((l).length:Int)) then
 ((z70 N (lget l s1.t8 default) s1.b1 s1.b12).bind fun r3 =>
 ((z2j N r3.1 s1.b0 r3.2.1 r3.2.2).bind fun r4 =>
 (next2 ⟨(IntKind.i64.wrap (s1.t8 + 1)),r4.1,r4.2.1,r4.2.2⟩)))
 else none)
 else
 (some (s1.b0,s1.b1,s1.b12)))) ⟨0,b0,b1,b12⟩)
def z6u:Con τ:={ args:=[.ptr 0 [],.ty 181],L:=[.box (.agg [.ptr 1 [],.ty 35]),.box (.agg [.ty 4,.own 5 2]),.tail],ret:=.tup [],L':=[.box (.agg [.ptr 1 [],.ty 35]),.box (.agg [.ty 4,.own 5 3]),.dead,.tail],R:=Int×Bool×(List (Int)),dflt:=(default,default,default),F:=fun N a b=>z4u N a.2.1 b.1.2.1 b.2.1.1 b.2.1.2.1,of:=fun r=>((),(((),r.1,()),(r.2.1,r.2.2,()),(),(),())) }
noncomputable def zh2:Dat τ:={ D:=D0,tbl:=tblOf [(138,z8z),(137,z2m)],lp:=lpsOf [(1,zfx)],k0:=3,mu:=[],un:=[] }
theorem ziz:ConOk E C 94 z6u :=
  zk (D:=zh2) ⟨d0Ok,eGood,zb ⟨zm5,⟨z4s,trivial⟩⟩,fun _=>rfl⟩ z6u (fun a b=>(b.1.2.1,b.2.1.1,b.2.1.2.1)) none (fun _ _=>rfl) rfl (fun _ _ h=>nomatch h) 1000000 (fn:=Tryz.f94) Tryz.func94 rfl (by kernel_rfl) (by kernel_rfl) rfl (by intro N a b; kernel_rfl)
def z3b (N:Nat) (op:GOp) (b0:Int) (b1:Bool) (b12:List (Int)):Option (Int×Bool×(List (Int))) :=
 ((z5 N [op.Stamp.Time] b0 b1 b12).bind fun r1 =>
 ((zc N [op.Stamp.Site,op.Kind] r1.1 r1.2.1 r1.2.2).bind fun r2 =>
 ((z5 N [op.Node,op.Parent] r2.1 r2.2.1 r2.2.2).bind fun r3 =>
 ((z4u N [op.Name,op.Key,op.Value] r3.1 r3.2.1 r3.2.2).bind fun r4 =>
 (some (r4.1,r4.2.1,r4.2.2))))))
def z5j:Con τ:={ args:=[.ptr 0 [],.ty 25],L:=[.box (.agg [.ptr 1 [],.ty 35]),.box (.agg [.ty 4,.own 5 2]),.tail],ret:=.tup [],L':=[.box (.agg [.ptr 1 [],.ty 35]),.box (.agg [.ty 4,.own 5 3]),.dead,.tail],R:=Int×Bool×(List (Int)),dflt:=(default,default,default),F:=fun N a b=>z3b N a.2.1 b.1.2.1 b.2.1.1 b.2.1.2.1,of:=fun r=>((),(((),r.1,()),(r.2.1,r.2.2,()),(),(),())) }
noncomputable def zl8:Dat τ:={ D:=D0,tbl:=tblOf [(92,z1l),(93,z14),(94,z6u)],lp:=lpsOf [],k0:=3,mu:=[],un:=[] }
theorem zcv:ConOk E C 40 z5j :=
  zk (D:=zl8) ⟨d0Ok,eGood,zb ⟨z2a,⟨z1k,⟨ziz,trivial⟩⟩⟩,fun _=>rfl⟩ z5j (fun a b=>(b.1.2.1,b.2.1.1,b.2.1.2.1)) none (fun _ _=>rfl) rfl (fun _ _ h=>nomatch h) 1000000 (fn:=Tryz.f40) Tryz.func40 rfl (by kernel_rfl) (by kernel_rfl) rfl (by intro N a b; kernel_rfl)
structure z2v where
  t13:Int
  b0:Int
  b1:Bool
  b12:List (Int)
def z7z:List Sl:=[.k,.k,.k,.k,.k,.j,.k,.k,.k,.k,.k,.k,.k,.sh (.ty 2),.j,.j,.j,.j,.j,.j,.j]
def z80:List ESh:=[.box (.agg [.ptr 1 [],.ty 2]),.box (.agg [.ty 4,.own 5 4]),.keep,.dead,.tail]
def zj0 (a:Sl.Ts τ z7z) (b:ESh.Ts τ z80):z2v:=⟨a.2.2.2.2.2.2.2.2.2.2.2.2.2.1,b.1.2.1,b.2.1.1,b.2.1.2.1⟩
def zj1 (s:z2v):Sl.Ts τ z7z:=((),(),(),(),(),(),(),(),(),(),(),(),(),s.t13,(),(),(),(),(),(),(),())
def zj2 (s:z2v):ESh.Ts τ z80:=(((),s.b0,()),(s.b1,s.b12,()),(),(),(),())
def zj3:Lp τ:={ ts:=z7z,hs:=z80,S:=z2v,to:=zj0,ot:=zj1,oh:=zj2,hk:=[2,2,1,5],tk:=[2,0,0,0,0,0,2],ot_to:=fun _ _=>rfl,oh_to:=fun _ _=>rfl }
def z2r (N:Nat) (l:List (GOp)) (b0:Int) (b1:Bool) (b12:List (Int)):Option (Int×Bool×(List (Int))) :=
 ((zc N [((l).length:Int)] b0 b1 b12).bind fun r1 =>
 (iter N (fun (s2:z2v) next3 =>
 (bif (decide (s2.t13 < ((l).length:Int))) then
 (bif (ibB s2.t13 ((l).length:Int)) then
 ((z3b N (⟨((lget l s2.t13 default).Stamp),(lget l s2.t13 default).Kind,(lget l s2.t13 default).Node,(lget l s2.t13 default).Parent,(lget l s2.t13 default).Name,(lget l s2.t13 default).Key,(lget l s2.t13 default).Value⟩:GOp) s2.b0 s2.b1 s2.b12).bind fun r4 =>
 (next3 ⟨(IntKind.i64.wrap (s2.t13 + 1)),r4.1,r4.2.1,r4.2.2⟩))
 else none)
 else
 (some (s2.b0,s2.b1,s2.b12)))) ⟨0,r1.1,r1.2.1,r1.2.2⟩))
def z4v:Con τ:={ args:=[.ptr 0 [],.ty 60],L:=[.box (.agg [.ptr 1 [],.ty 35]),.box (.agg [.ty 4,.own 5 2]),.tail],ret:=.tup [],L':=[.box (.agg [.ptr 1 [],.ty 35]),.box (.agg [.ty 4,.own 5 3]),.dead,.tail],R:=Int×Bool×(List (Int)),dflt:=(default,default,default),F:=fun N a b=>z2r N a.2.1 b.1.2.1 b.2.1.1 b.2.1.2.1,of:=fun r=>((),(((),r.1,()),(r.2.1,r.2.2,()),(),(),())) }
noncomputable def zk7:Dat τ:={ D:=D0,tbl:=tblOf [(93,z14),(40,z5j)],lp:=lpsOf [(2,zj3)],k0:=3,mu:=[],un:=[] }
theorem zc8:ConOk E C 111 z4v :=
  zk (D:=zk7) ⟨d0Ok,eGood,zb ⟨z1k,⟨zcv,trivial⟩⟩,fun _=>rfl⟩ z4v (fun a b=>(b.1.2.1,b.2.1.1,b.2.1.2.1)) none (fun _ _=>rfl) rfl (fun _ _ h=>nomatch h) 1000000 (fn:=Tryz.f111) Tryz.func111 rfl (by kernel_rfl) (by kernel_rfl) rfl (by intro N a b; kernel_rfl)
def z2b (N:Nat) (e:z7) (b0:Int) (b1:Bool) (b12:List (Int)):Option (Int×Bool×(List (Int))) :=
 ((z5 N [e.Number] b0 b1 b12).bind fun r1 =>
 ((zc N (e.States.toList) r1.1 r1.2.1 r1.2.2).bind fun r2 =>
 ((z5 N (e.Seals.toList) r2.1 r2.2.1 r2.2.2).bind fun r3 =>
 ((zc N (e.Sponsor.toList) r3.1 r3.2.1 r3.2.2).bind fun r4 =>
 (some (r4.1,r4.2.1,r4.2.2))))))
def z45:Con τ:={ args:=[.ptr 0 [],.ty 30],L:=[.box (.agg [.ptr 1 [],.ty 35]),.box (.agg [.ty 4,.own 5 2]),.tail],ret:=.tup [],L':=[.box (.agg [.ptr 1 [],.ty 35]),.box (.agg [.ty 4,.own 5 3]),.dead,.tail],R:=Int×Bool×(List (Int)),dflt:=(default,default,default),F:=fun N a b=>z2b N a.2.1 b.1.2.1 b.2.1.1 b.2.1.2.1,of:=fun r=>((),(((),r.1,()),(r.2.1,r.2.2,()),(),(),())) }
noncomputable def zh3:Dat τ:={ D:=D0,tbl:=tblOf [(92,z1l),(93,z14)],lp:=lpsOf [],k0:=3,mu:=[],un:=[] }
theorem zas:ConOk E C 46 z45 :=
  zk (D:=zh3) ⟨d0Ok,eGood,zb ⟨z2a,⟨z1k,trivial⟩⟩,fun _=>rfl⟩ z45 (fun a b=>(b.1.2.1,b.2.1.1,b.2.1.2.1)) none (fun _ _=>rfl) rfl (fun _ _ h=>nomatch h) 1000000 (fn:=Tryz.f46) Tryz.func46 rfl (by kernel_rfl) (by kernel_rfl) rfl (by intro N a b; kernel_rfl)
def z1m (N:Nat) (p:GPart) (b0:Int) (b1:Bool) (b12:List (Int)):Option (Int×Bool×(List (Int))) :=
 ((z5 N [p.Snap] b0 b1 b12).bind fun r1 =>
 ((zc N [p.Index,p.Many] r1.1 r1.2.1 r1.2.2).bind fun r2 =>
 ((z47 N p.Data r2.2.1 r2.2.2).bind fun r3 =>
 ((z2j N r3.1 r2.1 r3.2.1 r3.2.2).bind fun r4 =>
 (some (r4.1,r4.2.1,r4.2.2))))))
def z4h:Con τ:={ args:=[.ptr 0 [],.ty 62],L:=[.box (.agg [.ptr 1 [],.ty 35]),.box (.agg [.ty 4,.own 5 2]),.tail],ret:=.tup [],L':=[.box (.agg [.ptr 1 [],.ty 35]),.box (.agg [.ty 4,.own 5 3]),.dead,.tail],R:=Int×Bool×(List (Int)),dflt:=(default,default,default),F:=fun N a b=>z1m N a.2.1 b.1.2.1 b.2.1.1 b.2.1.2.1,of:=fun r=>((),(((),r.1,()),(r.2.1,r.2.2,()),(),(),())) }
noncomputable def zj4:Dat τ:={ D:=D0,tbl:=tblOf [(92,z1l),(93,z14),(146,z4t),(137,z2m)],lp:=lpsOf [],k0:=3,mu:=[],un:=[] }
theorem zbh:ConOk E C 112 z4h :=
  zk (D:=zj4) ⟨d0Ok,eGood,zb ⟨z2a,⟨z1k,⟨zc7,⟨z4s,trivial⟩⟩⟩⟩,fun _=>rfl⟩ z4h (fun a b=>(b.1.2.1,b.2.1.1,b.2.1.2.1)) none (fun _ _=>rfl) rfl (fun _ _ h=>nomatch h) 1000000 (fn:=Tryz.f112) Tryz.func112 rfl (by kernel_rfl) (by kernel_rfl) rfl (by intro N a b; kernel_rfl)
def z1s (N:Nat) (e:z6) (b0:Int) (b1:Bool) (b12:List (Int)):Option (Int×Bool×(List (Int))) :=
 ((zc N [e.Kind] b0 b1 b12).bind fun r1 =>
 (bif (e.Kind==1) then
 ((z5 N [e.Session,e.Request] r1.1 r1.2.1 r1.2.2).bind fun r2 =>
 ((z3b N e.Op r2.1 r2.2.1 r2.2.2).bind fun r3 =>
 (some (r3.1,r3.2.1,r3.2.2))))
 else
 (bif (e.Kind==2) then
 ((zc N [e.Origin] r1.1 r1.2.1 r1.2.2).bind fun r4 =>
 ((z5 N [e.Seq] r4.1 r4.2.1 r4.2.2).bind fun r5 =>
 ((z2r N e.Ops r5.1 r5.2.1 r5.2.2).bind fun r6 =>
 (some (r6.1,r6.2.1,r6.2.2)))))
 else
 (bif (e.Kind==3) then
 ((z2b N e.Epoch r1.1 r1.2.1 r1.2.2).bind fun r7 =>
 (some (r7.1,r7.2.1,r7.2.2)))
 else
 (bif (e.Kind==4) then
 ((z5 N [e.Seq] r1.1 r1.2.1 r1.2.2).bind fun r8 =>
 ((zc N [e.From] r8.1 r8.2.1 r8.2.2).bind fun r9 =>
 ((z5 N (e.Vector_.toList) r9.1 r9.2.1 r9.2.2).bind fun r10 =>
 ((z5 N [e.Clock] r10.1 r10.2.1 r10.2.2).bind fun r11 =>
 (some (r11.1,r11.2.1,r11.2.2))))))
 else
 (bif (e.Kind==5) then
 ((z1m N e.Part r1.1 r1.2.1 r1.2.2).bind fun r12 =>
 (some (r12.1,r12.2.1,r12.2.2)))
 else
 (bif (e.Kind==6) then
 ((zc N [e.Site,e.Sponsor] r1.1 r1.2.1 r1.2.2).bind fun r13 =>
 (some (r13.1,r13.2.1,r13.2.2)))
 else
 (bif (e.Kind==7) then
 ((zc N [e.Site] r1.1 r1.2.1 r1.2.2).bind fun r14 =>
 (some (r14.1,r14.2.1,r14.2.2)))
 else
 (bif (e.Kind==8) then
 ((zc N [e.Site] r1.1 r1.2.1 r1.2.2).bind fun r15 =>
 ((z5 N [e.Length] r15.1 r15.2.1 r15.2.2).bind fun r16 =>
 (some (r16.1,r16.2.1,r16.2.2))))
 else
 (some (r1.1,r1.2.1,r1.2.2)))))))))))
def z31:Con τ:={ args:=[.ptr 0 [],.ty 64],L:=[.box (.agg [.ptr 1 [],.ty 35]),.box (.agg [.ty 4,.own 5 2]),.tail],ret:=.tup [],L':=[.box (.agg [.ptr 1 [],.ty 35]),.box (.agg [.ty 4,.own 5 3]),.dead,.tail],R:=Int×Bool×(List (Int)),dflt:=(default,default,default),F:=fun N a b=>z1s N a.2.1 b.1.2.1 b.2.1.1 b.2.1.2.1,of:=fun r=>((),(((),r.1,()),(r.2.1,r.2.2,()),(),(),())) }
noncomputable def zh4:Dat τ:={ D:=D0,tbl:=tblOf [(93,z14),(92,z1l),(40,z5j),(111,z4v),(46,z45),(112,z4h)],lp:=lpsOf [],k0:=3,mu:=[],un:=[] }
theorem z81:ConOk E C 65 z31 :=
  zk (D:=zh4) ⟨d0Ok,eGood,zb ⟨z1k,⟨z2a,⟨zcv,⟨zc8,⟨zas,⟨zbh,trivial⟩⟩⟩⟩⟩⟩,fun _=>rfl⟩ z31 (fun a b=>(b.1.2.1,b.2.1.1,b.2.1.2.1)) none (fun _ _=>rfl) rfl (fun _ _ h=>nomatch h) 1000000 (fn:=Tryz.f65) Tryz.func65 rfl (by kernel_rfl) (by kernel_rfl) rfl (by intro N a b; kernel_rfl)
def z9e (N:Nat) (s:List (Int)):Option ((List (Int))) :=
 (bif (lenB (0 + (s).length) 1) then
 (some ([]++s))
 else none)
def zbi:Con τ:={ args:=[.nn 5],L:=[],ret:=.ty 31,L':=[],R:=(List (Int)),dflt:=default,F:=fun N a b=>z9e N a.1,of:=fun r=>(r,()) }
noncomputable def zk8:Dat τ:={ D:=D0,tbl:=tblOf [],lp:=lpsOf [],k0:=0,mu:=[],un:=[] }
theorem zl9:ConOk E C 49 zbi :=
  zk (D:=zk8) ⟨d0Ok,eGood,zb trivial,fun _=>rfl⟩ zbi (fun a b=>a) none (fun _ _=>rfl) rfl (fun _ _ h=>nomatch h) 1000000 (fn:=Tryz.f49) Tryz.func49 rfl (by kernel_rfl) (by kernel_rfl) rfl (by intro N a b; kernel_rfl)
def zm6 (N:Nat)  : Option ((List (Int))) :=
 (some [])
def z8a:Con τ:={ args:=[.nil .slice],L:=[],ret:=.ty 31,L':=[],R:=(List (Int)),dflt:=default,F:=fun N a b=>zm6 N ,of:=fun r=>(r,()) }
noncomputable def zk9:Dat τ:={ D:=D0,tbl:=tblOf [],lp:=lpsOf [],k0:=0,mu:=[],un:=[] }
theorem zla:ConOk E C 49 z8a :=
  zk (D:=zk9) ⟨d0Ok,eGood,zb trivial,fun _=>rfl⟩ z8a (fun a b=>a) none (fun _ _=>rfl) rfl (fun _ _ h=>nomatch h) 1000000 (fn:=Tryz.f49) Tryz.func49 rfl (by kernel_rfl) (by kernel_rfl) rfl (by intro N a b; kernel_rfl)
def z3q (N:Nat) (s:List (Int)):Option ((List (Int))):=z9e N s
def z3x:Con τ:={ args:=[.ty 31],L:=[],ret:=.ty 31,L':=[],R:=(List (Int)),dflt:=default,F:=fun N a b=>z3q N a.1,of:=fun r=>(r,()) }
theorem z90:ConOk E C 49 z3x:=by
  intro N a b r h
  obtain ⟨x0,u⟩:=a
  refine FnSpec.split (pre:=[]) (post:=[]) (fun h0=>?_) (zl9 N (x0,u) b r h)
  have h0:x0=[]:=List.map_eq_nil_iff.1 h0
  subst h0
  exact zla N ((),u) b r ((show z8a.F N ((),u) b=z3x.F N ([],u) b from by kernel_rfl).trans h)
def z54 (N:Nat) (b0:Bool) (b02:List (Int)):Option ((List (Int))×Bool×(List (Int))) :=
 ((z4j N b0 b02).bind fun r1 =>
 (bif r1.1 then
 (some ([],r1.2.1,r1.2.2))
 else
 ((z3q N r1.2.2).bind fun r2 =>
 (some (r2,r1.2.1,r1.2.2)))))
def z6k:Con τ:={ args:=[.ptr 0 []],L:=[.box (.agg [.ty 4,.own 5 1]),.tail],ret:=.ty 31,L':=[.box (.agg [.ty 4,.own 5 1]),.tail],R:=(List (Int))×Bool×(List (Int)),dflt:=(default,default,default),F:=fun N a b=>z54 N b.1.1 b.1.2.1,of:=fun r=>(r.1,((r.2.1,r.2.2,()),(),())) }
noncomputable def zm7:Dat τ:={ D:=D0,tbl:=tblOf [(48,z5i),(49,z3x)],lp:=lpsOf [],k0:=2,mu:=[],un:=[] }
theorem zdm:ConOk E C 16 z6k :=
  zk (D:=zm7) ⟨d0Ok,eGood,zb ⟨zcu,⟨z90,trivial⟩⟩,fun _=>rfl⟩ z6k (fun a b=>(a,b.1.1,b.1.2.1)) none (fun _ _=>rfl) rfl (fun _ _ h=>nomatch h) 1000000 (fn:=Tryz.f16) Tryz.func16 rfl (by kernel_rfl) (by kernel_rfl) rfl (by intro N a b; kernel_rfl)
def z2t (N:Nat) (e:z6):Option ((List (Int))×Int) :=
 ((z12 N e).bind fun r1 =>
 (bif (!(r1==0)) then
 (some ([],r1))
 else
 ((z9t N).bind fun r2 =>
 ((z1s N e 0 r2.1 r2.2).bind fun r3 =>
 (bif (!(r3.1==0)) then
 (some ([],r3.1))
 else
 ((z54 N r3.2.1 r3.2.2).bind fun r4 =>
 (some (r4.1,0))))))))
def zc9:Con τ:={ args:=[.ty 64],L:=[],ret:=.tup [.ty 31,.ty 35],L':=[],R:=(List (Int))×Int,dflt:=(default,default),F:=fun N a b=>z2t N a.1,of:=fun r=>((r.1,r.2,()),()) }
noncomputable def zup:Dat τ:={ D:=D0,tbl:=tblOf [(64,z3w),(7,za7),(65,z31),(16,z6k)],lp:=lpsOf [],k0:=0,mu:=[],un:=[] }
theorem zo3:ConOk E C 26 zc9 :=
  zk (D:=zup) ⟨d0Ok,eGood,zb ⟨z8w,⟨zlv,⟨z81,⟨zdm,trivial⟩⟩⟩⟩,fun _=>rfl⟩ zc9 (fun a b=>(a.1,a.2.1)) none (fun _ _=>rfl) rfl (fun _ _ h=>nomatch h) 1000000 (fn:=Tryz.f26) Tryz.func26 rfl (by kernel_rfl) (by kernel_rfl) rfl (by intro N a b; kernel_rfl)
def zoy (N:Nat) (e:z6):Option (z6×Bool) :=
 (bif (e.Kind==0) then
 (some ((⟨e.Kind,0,0,(⟨(⟨0,0⟩:zm),0,0,0,[],[],[]⟩:GOp),0,0,[],(⟨0,(Vector.replicate 8 (default:Int)),(Vector.replicate 8 (default:Int)),(Vector.replicate 8 (default:Int))⟩:z7),0,(Vector.replicate 8 (default:Int)),0,(⟨0,0,0,[]⟩:GPart),0,0,0⟩:z6),true))
 else
 (bif (e.Kind==1) then
 (some ((⟨e.Kind,e.Session,e.Request,e.Op,0,0,[],(⟨0,(Vector.replicate 8 (default:Int)),(Vector.replicate 8 (default:Int)),(Vector.replicate 8 (default:Int))⟩:z7),0,(Vector.replicate 8 (default:Int)),0,(⟨0,0,0,[]⟩:GPart),0,0,0⟩:z6),true))
 else
 (bif (e.Kind==2) then
 (some ((⟨e.Kind,0,0,(⟨(⟨0,0⟩:zm),0,0,0,[],[],[]⟩:GOp),e.Origin,e.Seq,e.Ops,(⟨0,(Vector.replicate 8 (default:Int)),(Vector.replicate 8 (default:Int)),(Vector.replicate 8 (default:Int))⟩:z7),0,(Vector.replicate 8 (default:Int)),0,(⟨0,0,0,[]⟩:GPart),0,0,0⟩:z6),true))
 else
 (bif (e.Kind==3) then
 (some ((⟨e.Kind,0,0,(⟨(⟨0,0⟩:zm),0,0,0,[],[],[]⟩:GOp),0,0,[],e.Epoch,0,(Vector.replicate 8 (default:Int)),0,(⟨0,0,0,[]⟩:GPart),0,0,0⟩:z6),true))
 else
 (bif (e.Kind==4) then
 (some ((⟨e.Kind,0,0,(⟨(⟨0,0⟩:zm),0,0,0,[],[],[]⟩:GOp),0,e.Seq,[],(⟨0,(Vector.replicate 8 (default:Int)),(Vector.replicate 8 (default:Int)),(Vector.replicate 8 (default:Int))⟩:z7),e.From,e.Vector_,e.Clock,(⟨0,0,0,[]⟩:GPart),0,0,0⟩:z6),true))
 else
 (bif (e.Kind==5) then
 (some ((⟨e.Kind,0,0,(⟨(⟨0,0⟩:zm),0,0,0,[],[],[]⟩:GOp),0,0,[],(⟨0,(Vector.replicate 8 (default:Int)),(Vector.replicate 8 (default:Int)),(Vector.replicate 8 (default:Int))⟩:z7),0,(Vector.replicate 8 (default:Int)),0,e.Part,0,0,0⟩:z6),true))
 else
 (bif (e.Kind==6) then
 (some ((⟨e.Kind,0,0,(⟨(⟨0,0⟩:zm),0,0,0,[],[],[]⟩:GOp),0,0,[],(⟨0,(Vector.replicate 8 (default:Int)),(Vector.replicate 8 (default:Int)),(Vector.replicate 8 (default:Int))⟩:z7),0,(Vector.replicate 8 (default:Int)),0,(⟨0,0,0,[]⟩:GPart),e.Site,e.Sponsor,0⟩:z6),true))
 else
 (bif (e.Kind==7) then
 (some ((⟨e.Kind,0,0,(⟨(⟨0,0⟩:zm),0,0,0,[],[],[]⟩:GOp),0,0,[],(⟨0,(Vector.replicate 8 (default:Int)),(Vector.replicate 8 (default:Int)),(Vector.replicate 8 (default:Int))⟩:z7),0,(Vector.replicate 8 (default:Int)),0,(⟨0,0,0,[]⟩:GPart),e.Site,0,0⟩:z6),true))
 else
 (bif (e.Kind==8) then
 (some ((⟨e.Kind,0,0,(⟨(⟨0,0⟩:zm),0,0,0,[],[],[]⟩:GOp),0,0,[],(⟨0,(Vector.replicate 8 (default:Int)),(Vector.replicate 8 (default:Int)),(Vector.replicate 8 (default:Int))⟩:z7),0,(Vector.replicate 8 (default:Int)),0,(⟨0,0,0,[]⟩:GPart),e.Site,0,e.Length⟩:z6),true))
 else
 (some ((⟨e.Kind,0,0,(⟨(⟨0,0⟩:zm),0,0,0,[],[],[]⟩:GOp),0,0,[],(⟨0,(Vector.replicate 8 (default:Int)),(Vector.replicate 8 (default:Int)),(Vector.replicate 8 (default:Int))⟩:z7),0,(Vector.replicate 8 (default:Int)),0,(⟨0,0,0,[]⟩:GPart),0,0,0⟩:z6),false)))))))))))
def zlb:Con τ:={ args:=[.ty 64],L:=[],ret:=.tup [.ty 64,.ty 4],L':=[],R:=z6×Bool,dflt:=(default,default),F:=fun N a b=>zoy N a.1,of:=fun r=>((r.1,r.2,()),()) }
noncomputable def zy9:Dat τ:={ D:=D0,tbl:=tblOf [],lp:=lpsOf [],k0:=0,mu:=[],un:=[] }
theorem zzx:ConOk E C 77 zlb :=
  zk (D:=zy9) ⟨d0Ok,eGood,zb trivial,fun _=>rfl⟩ zlb (fun a b=>(a.1,a.2.1)) none (fun _ _=>rfl) rfl (fun _ _ h=>nomatch h) 1000000 (fn:=Tryz.f77) Tryz.func77 rfl (by kernel_rfl) (by kernel_rfl) rfl (by intro N a b; kernel_rfl)
structure z6x where
  i:Int
def zd6:List Sl:=[.k,.k,.k,.k,.j,.sh (.ty 2),.k,.k,.k,.k,.k,.j,.j,.j,.j,.j,.j,.j,.j,.j,.j,.j,.j,.j,.j,.j]
def zd7:List ESh:=[]
def zre (a:Sl.Ts τ zd6) (b:ESh.Ts τ zd7):z6x:=⟨a.2.2.2.2.2.1⟩
def zrf (s:z6x):Sl.Ts τ zd6:=((),(),(),(),(),s.i,(),(),(),(),(),(),(),(),(),(),(),(),(),(),(),(),(),(),(),(),())
def zrg (s:z6x):ESh.Ts τ zd7:=()
def zrh:Lp τ:={ ts:=zd6,hs:=zd7,S:=z6x,to:=zre,ot:=zrf,oh:=zrg,hk:=[],tk:=[],ot_to:=fun _ _=>rfl,oh_to:=fun _ _=>rfl }
def zat (N:Nat) (a:List (GOp)) (b:List (GOp)):Option (Bool) :=
 (bif (!(((a).length:Int)==((b).length:Int))) then
 (some false)
 else
 (iter N (fun (s1:z6x) next2 =>
 (bif (decide (s1.i < ((a).length:Int))) then
 (bif (ibB s1.i ((a).length:Int)) then
 (bif (ibB s1.i ((b).length:Int)) then
 (bif (!((((((lget a s1.i default).Stamp).Time)==(((lget b s1.i default).Stamp).Time))&&((((lget a s1.i default).Stamp).Site)==(((lget b s1.i default).Stamp).Site)))&&((((lget a s1.i default).Kind)==((lget b s1.i default).Kind))&&((((lget a s1.i default).Node)==((lget b s1.i default).Node))&&((((lget a s1.i default).Parent)==((lget b s1.i default).Parent))&&((((lget a s1.i default).Name)==((lget b s1.i default).Name))&&((((lget a s1.i default).Key)==((lget b s1.i default).Key))&&(((lget a s1.i default).Value)==((lget b s1.i default).Value))))))))) then
 (some false)
 else
 (next2 ⟨(IntKind.i64.wrap (s1.i + 1))⟩))
 else none)
 else none)
 else
 (some true))) ⟨0⟩))
def zax:Con τ:={ args:=[.ty 60,.ty 60],L:=[],ret:=.ty 4,L':=[],R:=Bool,dflt:=default,F:=fun N a b=>zat N a.1 a.2.1,of:=fun r=>(r,()) }
noncomputable def zt3:Dat τ:={ D:=D0,tbl:=tblOf [],lp:=lpsOf [(4,zrh)],k0:=0,mu:=[],un:=[] }
theorem zmx:ConOk E C 75 zax :=
  zk (D:=zt3) ⟨d0Ok,eGood,zb trivial,fun _=>rfl⟩ zax (fun a b=>a) none (fun _ _=>rfl) rfl (fun _ _ h=>nomatch h) 1000000 (fn:=Tryz.f75) Tryz.func75 rfl (by kernel_rfl) (by kernel_rfl) rfl (by intro N a b; kernel_rfl)
def z9u (N:Nat) (a:GPart) (b:GPart):Option (Bool) :=
 (some ((((a.Snap==b.Snap)&&(a.Index==b.Index))&&(a.Many==b.Many))&&((strI a.Data)==(strI b.Data))))
def za8:Con τ:={ args:=[.ty 62,.ty 62],L:=[],ret:=.ty 4,L':=[],R:=Bool,dflt:=default,F:=fun N a b=>z9u N a.1 a.2.1,of:=fun r=>(r,()) }
noncomputable def zri:Dat τ:={ D:=D0,tbl:=tblOf [],lp:=lpsOf [],k0:=0,mu:=[],un:=[] }
theorem zlw:ConOk E C 76 za8 :=
  zk (D:=zri) ⟨d0Ok,eGood,zb trivial,fun _=>rfl⟩ za8 (fun a b=>a) none (fun _ _=>rfl) rfl (fun _ _ h=>nomatch h) 1000000 (fn:=Tryz.f76) Tryz.func76 rfl (by kernel_rfl) (by kernel_rfl) rfl (by intro N a b; kernel_rfl)
def z1g (N:Nat) (a:z6) (b:z6):Option (Bool) :=
 ((bif ((((((a.Kind==b.Kind)&&(a.Session==b.Session))&&(a.Request==b.Request))&&(((a.Op.Stamp.Time==b.Op.Stamp.Time)&&(a.Op.Stamp.Site==b.Op.Stamp.Site))&&((a.Op.Kind==b.Op.Kind)&&((a.Op.Node==b.Op.Node)&&((a.Op.Parent==b.Op.Parent)&&((a.Op.Name==b.Op.Name)&&((a.Op.Key==b.Op.Key)&&(a.Op.Value==b.Op.Value))))))))&&(a.Origin==b.Origin))&&(a.Seq==b.Seq)) then zat N a.Ops b.Ops else some default).bind fun r1 =>
 ((bif (((((((((((a.Kind==b.Kind)&&(a.Session==b.Session))&&(a.Request==b.Request))&&(((a.Op.Stamp.Time==b.Op.Stamp.Time)&&(a.Op.Stamp.Site==b.Op.Stamp.Site))&&((a.Op.Kind==b.Op.Kind)&&((a.Op.Node==b.Op.Node)&&((a.Op.Parent==b.Op.Parent)&&((a.Op.Name==b.Op.Name)&&((a.Op.Key==b.Op.Key)&&(a.Op.Value==b.Op.Value))))))))&&(a.Origin==b.Origin))&&(a.Seq==b.Seq))&&r1)&&((a.Epoch.Number==b.Epoch.Number)&&((vbeq beq3 a.Epoch.States b.Epoch.States)&&((vbeq beq2 a.Epoch.Seals b.Epoch.Seals)&&(vbeq beq3 a.Epoch.Sponsor b.Epoch.Sponsor)))))&&(a.From==b.From))&&(vbeq beq2 a.Vector_ b.Vector_))&&(a.Clock==b.Clock)) then z9u N a.Part b.Part else some default).bind fun r2 =>
 (some (((((((((((((((a.Kind==b.Kind)&&(a.Session==b.Session))&&(a.Request==b.Request))&&(((a.Op.Stamp.Time==b.Op.Stamp.Time)&&(a.Op.Stamp.Site==b.Op.Stamp.Site))&&((a.Op.Kind==b.Op.Kind)&&((a.Op.Node==b.Op.Node)&&((a.Op.Parent==b.Op.Parent)&&((a.Op.Name==b.Op.Name)&&((a.Op.Key==b.Op.Key)&&(a.Op.Value==b.Op.Value))))))))&&(a.Origin==b.Origin))&&(a.Seq==b.Seq))&&r1)&&((a.Epoch.Number==b.Epoch.Number)&&((vbeq beq3 a.Epoch.States b.Epoch.States)&&((vbeq beq2 a.Epoch.Seals b.Epoch.Seals)&&(vbeq beq3 a.Epoch.Sponsor b.Epoch.Sponsor)))))&&(a.From==b.From))&&(vbeq beq2 a.Vector_ b.Vector_))&&(a.Clock==b.Clock))&&r2)&&(a.Site==b.Site))&&(a.Sponsor==b.Sponsor))&&(a.Length==b.Length)))))
def z4w:Con τ:={ args:=[.ty 64,.ty 64],L:=[],ret:=.ty 4,L':=[],R:=Bool,dflt:=default,F:=fun N a b=>z1g N a.1 a.2.1,of:=fun r=>(r,()) }
noncomputable def zq8:Dat τ:={ D:=D0,tbl:=tblOf [(75,zax),(76,za8)],lp:=lpsOf [],k0:=0,mu:=[],un:=[] }
theorem za9:ConOk E C 31 z4w :=
  zk (D:=zq8) ⟨d0Ok,eGood,zb ⟨zmx,⟨zlw,trivial⟩⟩,fun _=>rfl⟩ z4w (fun a b=>a) none (fun _ _=>rfl) rfl (fun _ _ h=>nomatch h) 1000000 (fn:=Tryz.f31) Tryz.func31 rfl (by kernel_rfl) (by kernel_rfl) rfl (by intro N a b; kernel_rfl)
def zt (N:Nat) (n:Int):Option (Bool) :=
 (some ((decide (0≤n))&&(decide (n≤1099511627776))))
def z3g:Con τ:={ args:=[.ty 2],L:=[],ret:=.ty 4,L':=[],R:=Bool,dflt:=default,F:=fun N a b=>zt N a.1,of:=fun r=>(r,()) }
noncomputable def zwm:Dat τ:={ D:=D0,tbl:=tblOf [],lp:=lpsOf [],k0:=0,mu:=[],un:=[] }
theorem z71:ConOk E C 61 z3g :=
  zk (D:=zwm) ⟨d0Ok,eGood,zb trivial,fun _=>rfl⟩ z3g (fun a b=>a) none (fun _ _=>rfl) rfl (fun _ _ h=>nomatch h) 1000000 (fn:=Tryz.f61) Tryz.func61 rfl (by kernel_rfl) (by kernel_rfl) rfl (by intro N a b; kernel_rfl)
def z1b (N:Nat) (n:Int):Option (Bool) :=
 (some ((decide (0≤n))&&(decide (n < 8))))
def zca:Con τ:={ args:=[.ty 3],L:=[],ret:=.ty 4,L':=[],R:=Bool,dflt:=default,F:=fun N a b=>z1b N a.1,of:=fun r=>(r,()) }
noncomputable def zya:Dat τ:={ D:=D0,tbl:=tblOf [],lp:=lpsOf [],k0:=0,mu:=[],un:=[] }
theorem zmy:ConOk E C 78 zca :=
  zk (D:=zya) ⟨d0Ok,eGood,zb trivial,fun _=>rfl⟩ zca (fun a b=>a) none (fun _ _=>rfl) rfl (fun _ _ h=>nomatch h) 1000000 (fn:=Tryz.f78) Tryz.func78 rfl (by kernel_rfl) (by kernel_rfl) rfl (by intro N a b; kernel_rfl)
def zfy (N:Nat) (s:zm):Option (Bool) :=
 ((zt N s.Time).bind fun r1 =>
 ((bif r1 then z1b N s.Site else some default).bind fun r2 =>
 (some (r1&&r2))))
def zd8:Con τ:={ args:=[.ty 23],L:=[],ret:=.ty 4,L':=[],R:=Bool,dflt:=default,F:=fun N a b=>zfy N a.1,of:=fun r=>(r,()) }
noncomputable def zrj:Dat τ:={ D:=D0,tbl:=tblOf [(61,z3g),(78,zca)],lp:=lpsOf [],k0:=0,mu:=[],un:=[] }
theorem zt4:ConOk E C 56 zd8 :=
  zk (D:=zrj) ⟨d0Ok,eGood,zb ⟨z71,⟨zmy,trivial⟩⟩,fun _=>rfl⟩ zd8 (fun a b=>a) none (fun _ _=>rfl) rfl (fun _ _ h=>nomatch h) 1000000 (fn:=Tryz.f56) Tryz.func56 rfl (by kernel_rfl) (by kernel_rfl) rfl (by intro N a b; kernel_rfl)
def zlc (N:Nat) (n:Int):Option (Bool) :=
 (some ((decide (0≤n))&&(decide (n≤1125899906842624))))
def zld:Con τ:={ args:=[.ty 2],L:=[],ret:=.ty 4,L':=[],R:=Bool,dflt:=default,F:=fun N a b=>zlc N a.1,of:=fun r=>(r,()) }
noncomputable def zyb:Dat τ:={ D:=D0,tbl:=tblOf [],lp:=lpsOf [],k0:=0,mu:=[],un:=[] }
theorem zzy:ConOk E C 57 zld :=
  zk (D:=zyb) ⟨d0Ok,eGood,zb trivial,fun _=>rfl⟩ zld (fun a b=>a) none (fun _ _=>rfl) rfl (fun _ _ h=>nomatch h) 1000000 (fn:=Tryz.f57) Tryz.func57 rfl (by kernel_rfl) (by kernel_rfl) rfl (by intro N a b; kernel_rfl)
def z9v (N:Nat) (op:GOp):Option (Bool) :=
 ((zfy N op.Stamp).bind fun r1 =>
 ((bif ((r1&&(decide (1≤op.Kind)))&&(decide (op.Kind≤3))) then zlc N op.Node else some default).bind fun r2 =>
 ((bif (((r1&&(decide (1≤op.Kind)))&&(decide (op.Kind≤3)))&&r2) then zlc N op.Parent else some default).bind fun r3 =>
 (some (((((((r1&&(decide (1≤op.Kind)))&&(decide (op.Kind≤3)))&&r2)&&r3)&&(decide (((op.Name).length:Int)≤255)))&&(decide (((op.Key).length:Int)≤255)))&&(decide (((op.Value).length:Int)≤255)))))))
def zdh:Con τ:={ args:=[.ty 25],L:=[],ret:=.ty 4,L':=[],R:=Bool,dflt:=default,F:=fun N a b=>z9v N a.1,of:=fun r=>(r,()) }
noncomputable def zwn:Dat τ:={ D:=D0,tbl:=tblOf [(56,zd8),(57,zld)],lp:=lpsOf [],k0:=0,mu:=[],un:=[] }
theorem zq9:ConOk E C 21 zdh :=
  zk (D:=zwn) ⟨d0Ok,eGood,zb ⟨zt4,⟨zzy,trivial⟩⟩,fun _=>rfl⟩ zdh (fun a b=>a) none (fun _ _=>rfl) rfl (fun _ _ h=>nomatch h) 1000000 (fn:=Tryz.f21) Tryz.func21 rfl (by kernel_rfl) (by kernel_rfl) rfl (by intro N a b; kernel_rfl)
structure zbj where
  i:Int
def zle:List Sl:=[.k,.k,.j,.sh (.ty 2),.j,.j,.j,.j,.j,.j,.j,.j,.j,.j,.j,.j,.k,.k,.k,.k,.k,.k,.k,.k]
def zlf:List ESh:=[]
def zyc (a:Sl.Ts τ zle) (b:ESh.Ts τ zlf):zbj:=⟨a.2.2.2.1⟩
def zyd (s:zbj):Sl.Ts τ zle:=((),(),(),s.i,(),(),(),(),(),(),(),(),(),(),(),(),(),(),(),(),(),(),(),(),())
def zye (s:zbj):ESh.Ts τ zlf:=()
def zyf:Lp τ:={ ts:=zle,hs:=zlf,S:=zbj,to:=zyc,ot:=zyd,oh:=zye,hk:=[],tk:=[],ot_to:=fun _ _=>rfl,oh_to:=fun _ _=>rfl }
def zd9 (N:Nat) (l:List (GOp)):Option (Bool) :=
 (iter N (fun (s1:zbj) next2 =>
 (bif (decide (s1.i < ((l).length:Int))) then
 (bif (ibB s1.i ((l).length:Int)) then
 ((z9v N (⟨((lget l s1.i default).Stamp),(lget l s1.i default).Kind,(lget l s1.i default).Node,(lget l s1.i default).Parent,(lget l s1.i default).Name,(lget l s1.i default).Key,(lget l s1.i default).Value⟩:GOp)).bind fun r3 =>
 (bif (!r3) then
 (some false)
 else
 (next2 ⟨(IntKind.i64.wrap (s1.i + 1))⟩)))
 else none)
 else
 (some ((decide (0 < ((l).length:Int)))&&(decide (((l).length:Int)≤4096)))))) ⟨0⟩)
def zhh:Con τ:={ args:=[.ty 60],L:=[],ret:=.ty 4,L':=[],R:=Bool,dflt:=default,F:=fun N a b=>zd9 N a.1,of:=fun r=>(r,()) }
noncomputable def zzz:Dat τ:={ D:=D0,tbl:=tblOf [(21,zdh)],lp:=lpsOf [(2,zyf)],k0:=0,mu:=[],un:=[] }
theorem zuq:ConOk E C 79 zhh :=
  zk (D:=zzz) ⟨d0Ok,eGood,zb ⟨zq9,trivial⟩,fun _=>rfl⟩ zhh (fun a b=>a) none (fun _ _=>rfl) rfl (fun _ _ h=>nomatch h) 1000000 (fn:=Tryz.f79) Tryz.func79 rfl (by kernel_rfl) (by kernel_rfl) rfl (by intro N a b; kernel_rfl)
structure z4x where
  i:Int
def zb7:List Sl:=[.k,.k,.j,.sh (.ty 2),.j,.j,.j,.j,.j,.j,.j,.j,.j]
def zb8:List ESh:=[.keep]
def zoz (a:Sl.Ts τ zb7) (b:ESh.Ts τ zb8):z4x:=⟨a.2.2.2.1⟩
def zp0 (s:z4x):Sl.Ts τ zb7:=((),(),(),s.i,(),(),(),(),(),(),(),(),(),())
def zp1 (s:z4x):ESh.Ts τ zb8:=((),())
def zp2:Lp τ:={ ts:=zb7,hs:=zb8,S:=z4x,to:=zoz,ot:=zp0,oh:=zp1,hk:=[2],tk:=[0,2],ot_to:=fun _ _=>rfl,oh_to:=fun _ _=>rfl }
def z3y (N:Nat) (v:Vector (Int) 8):Option (Bool) :=
 (iter N (fun (s1:z4x) next2 =>
 (bif (decide (s1.i < 8)) then
 (bif (ibB s1.i 8) then
 ((zt N (vget v ((s1.i).toNat) default)).bind fun r3 =>
 (bif (!r3) then
 (some false)
 else
 (next2 ⟨(IntKind.i64.wrap (s1.i + 1))⟩)))
 else none)
 else
 (some true))) ⟨0⟩)
def z72:Con τ:={ args:=[.ty 28],L:=[],ret:=.ty 4,L':=[],R:=Bool,dflt:=default,F:=fun N a b=>z3y N a.1,of:=fun r=>(r,()) }
noncomputable def zqa:Dat τ:={ D:=D0,tbl:=tblOf [(61,z3g)],lp:=lpsOf [(2,zp2)],k0:=0,mu:=[],un:=[] }
theorem zda:ConOk E C 62 z72 :=
  zk (D:=zqa) ⟨d0Ok,eGood,zb ⟨z71,trivial⟩,fun _=>rfl⟩ z72 (fun a b=>a) none (fun _ _=>rfl) rfl (fun _ _ h=>nomatch h) 1000000 (fn:=Tryz.f62) Tryz.func62 rfl (by kernel_rfl) (by kernel_rfl) rfl (by intro N a b; kernel_rfl)
structure z5o where
  i:Int
def zcb:List Sl:=[.k,.k,.j,.sh (.ty 2),.j,.j,.j,.j,.j,.j,.j,.j,.j,.j,.j,.j,.j,.j,.j,.j,.j,.j,.j,.j,.j,.j,.j,.j,.j,.j,.j,.j,.j,.j,.k,.k,.k,.k,.k,.k,.k,.k]
def zcc:List ESh:=[.keep]
def zqb (a:Sl.Ts τ zcb) (b:ESh.Ts τ zcc):z5o:=⟨a.2.2.2.1⟩
def zqc (s:z5o):Sl.Ts τ zcb:=((),(),(),s.i,(),(),(),(),(),(),(),(),(),(),(),(),(),(),(),(),(),(),(),(),(),(),(),(),(),(),(),(),(),(),(),(),(),(),(),(),(),(),())
def zqd (s:z5o):ESh.Ts τ zcc:=((),())
def zqe:Lp τ:={ ts:=zcb,hs:=zcc,S:=z5o,to:=zqb,ot:=zqc,oh:=zqd,hk:=[2],tk:=[0,2],ot_to:=fun _ _=>rfl,oh_to:=fun _ _=>rfl }
def z6f (N:Nat) (e:z7):Option (Bool) :=
 (iter N (fun (s1:z5o) next2 =>
 (bif (decide (s1.i < 8)) then
 (bif (ibB s1.i 8) then
 (bif (!(!(decide ((vget e.States ((s1.i).toNat) default) < 0))) || (ibB s1.i 8)) then
 (bif (!(!((decide ((vget e.States ((s1.i).toNat) default) < 0)) || (decide (3 < (vget e.States ((s1.i).toNat) default))))) || (ibB s1.i 8)) then
 (bif (!(!(((decide ((vget e.States ((s1.i).toNat) default) < 0)) || (decide (3 < (vget e.States ((s1.i).toNat) default)))) || (decide ((vget e.Sponsor ((s1.i).toNat) default) < (-1))))) || (ibB s1.i 8)) then
 (bif ((((decide ((vget e.States ((s1.i).toNat) default) < 0)) || (decide (3 < (vget e.States ((s1.i).toNat) default)))) || (decide ((vget e.Sponsor ((s1.i).toNat) default) < (-1)))) || (decide (8≤(vget e.Sponsor ((s1.i).toNat) default)))) then
 (some false)
 else
 (next2 ⟨(IntKind.i64.wrap (s1.i + 1))⟩))
 else none)
 else none)
 else none)
 else none)
 else
 ((zt N e.Number).bind fun r3 =>
 ((bif r3 then z3y N e.Seals else some default).bind fun r4 =>
 (some (r3&&r4)))))) ⟨0⟩)
def zaa:Con τ:={ args:=[.ty 30],L:=[],ret:=.ty 4,L':=[],R:=Bool,dflt:=default,F:=fun N a b=>z6f N a.1,of:=fun r=>(r,()) }
noncomputable def zrk:Dat τ:={ D:=D0,tbl:=tblOf [(61,z3g),(62,z72)],lp:=lpsOf [(2,zqe)],k0:=0,mu:=[],un:=[] }
theorem zlx:ConOk E C 24 zaa :=
  zk (D:=zrk) ⟨d0Ok,eGood,zb ⟨z71,⟨zda,trivial⟩⟩,fun _=>rfl⟩ zaa (fun a b=>a) none (fun _ _=>rfl) rfl (fun _ _ h=>nomatch h) 1000000 (fn:=Tryz.f24) Tryz.func24 rfl (by kernel_rfl) (by kernel_rfl) rfl (by intro N a b; kernel_rfl)
def z5m (N:Nat) (p:GPart):Option (Bool) :=
 ((zt N p.Snap).bind fun r1 =>
 (some (((((r1&&(decide (1≤p.Many)))&&(decide (p.Many≤4096)))&&(decide (0≤p.Index)))&&(decide (p.Index < p.Many)))&&(decide (((p.Data).length:Int)≤16384)))))
def zay:Con τ:={ args:=[.ty 62],L:=[],ret:=.ty 4,L':=[],R:=Bool,dflt:=default,F:=fun N a b=>z5m N a.1,of:=fun r=>(r,()) }
noncomputable def zt5:Dat τ:={ D:=D0,tbl:=tblOf [(61,z3g)],lp:=lpsOf [],k0:=0,mu:=[],un:=[] }
theorem zmz:ConOk E C 80 zay :=
  zk (D:=zt5) ⟨d0Ok,eGood,zb ⟨z71,trivial⟩,fun _=>rfl⟩ zay (fun a b=>a) none (fun _ _=>rfl) rfl (fun _ _ h=>nomatch h) 1000000 (fn:=Tryz.f80) Tryz.func80 rfl (by kernel_rfl) (by kernel_rfl) rfl (by intro N a b; kernel_rfl)
def z1r (N:Nat) (e:z6):Option (Bool) :=
 ((zoy N e).bind fun r1 =>
 ((bif (!(!r1.2)) then z1g N e r1.1 else some default).bind fun r2 =>
 (bif ((!r1.2) || (!r2)) then
 (some false)
 else
 (bif (e.Kind==1) then
 ((zt N e.Session).bind fun r3 =>
 ((bif (r3&&(decide (0 < e.Session))) then zt N e.Request else some default).bind fun r4 =>
 ((bif (((r3&&(decide (0 < e.Session)))&&r4)&&(decide (0 < e.Request))) then z9v N e.Op else some default).bind fun r5 =>
 (some ((((r3&&(decide (0 < e.Session)))&&r4)&&(decide (0 < e.Request)))&&r5)))))
 else
 (bif (e.Kind==2) then
 ((z1b N e.Origin).bind fun r6 =>
 ((bif r6 then zt N e.Seq else some default).bind fun r7 =>
 ((bif (r6&&r7) then zd9 N e.Ops else some default).bind fun r8 =>
 (some ((r6&&r7)&&r8)))))
 else
 (bif (e.Kind==3) then
 ((z6f N e.Epoch).bind fun r9 =>
 (some r9))
 else
 (bif (e.Kind==4) then
 ((zt N e.Seq).bind fun r10 =>
 ((bif r10 then z1b N e.From else some default).bind fun r11 =>
 ((bif (r10&&r11) then z3y N e.Vector_ else some default).bind fun r12 =>
 ((bif ((r10&&r11)&&r12) then zt N e.Clock else some default).bind fun r13 =>
 (some (((r10&&r11)&&r12)&&r13))))))
 else
 (bif (e.Kind==5) then
 ((z5m N e.Part).bind fun r14 =>
 (some r14))
 else
 ((z1b N e.Site).bind fun r15 =>
 ((bif r15 then z1b N e.Sponsor else some default).bind fun r16 =>
 ((bif (r15&&r16) then zt N e.Length else some default).bind fun r17 =>
 (some ((r15&&r16)&&r17)))))))))))))
def z8b:Con τ:={ args:=[.ty 64],L:=[],ret:=.ty 4,L':=[],R:=Bool,dflt:=default,F:=fun N a b=>z1r N a.1,of:=fun r=>(r,()) }
noncomputable def zrl:Dat τ:={ D:=D0,tbl:=tblOf [(77,zlb),(31,z4w),(61,z3g),(21,zdh),(78,zca),(79,zhh),(24,zaa),(62,z72),(80,zay)],lp:=lpsOf [],k0:=0,mu:=[],un:=[] }
theorem zdv:ConOk E C 32 z8b :=
  zk (D:=zrl) ⟨d0Ok,eGood,zb ⟨zzx,⟨za9,⟨z71,⟨zq9,⟨zmy,⟨zuq,⟨zlx,⟨zda,⟨zmz,trivial⟩⟩⟩⟩⟩⟩⟩⟩⟩,fun _=>rfl⟩ z8b (fun a b=>a) none (fun _ _=>rfl) rfl (fun _ _ h=>nomatch h) 1000000 (fn:=Tryz.f32) Tryz.func32 rfl (by kernel_rfl) (by kernel_rfl) rfl (by intro N a b; kernel_rfl)
structure z8c where
  t7:Int
def zcd:List Sl:=[.k,.k,.j,.k,.j,.k,.k,.sh (.ty 2),.j,.j,.j,.j,.j,.j,.j,.j,.j,.j,.j,.j,.j,.j,.j,.j,.j,.j,.j,.j,.j,.j]
def zce:List ESh:=[]
def zqf (a:Sl.Ts τ zcd) (b:ESh.Ts τ zce):z8c:=⟨a.2.2.2.2.2.2.2.1⟩
def zqg (s:z8c):Sl.Ts τ zcd:=((),(),(),(),(),(),(),s.t7,(),(),(),(),(),(),(),(),(),(),(),(),(),(),(),(),(),(),(),(),(),(),())
def zqh (s:z8c):ESh.Ts τ zce:=()
def zqi:Lp τ:={ ts:=zcd,hs:=zce,S:=z8c,to:=zqf,ot:=zqg,oh:=zqh,hk:=[],tk:=[],ot_to:=fun _ _=>rfl,oh_to:=fun _ _=>rfl }
def z1e (N:Nat) (l:List (GAddr)):Option (Bool) :=
 (iter N (fun (s1:z8c) next2 =>
 (bif (decide (s1.t7 < ((l).length:Int))) then
 (bif (ibB s1.t7 ((l).length:Int)) then
 (bif ((((decide (((lget l s1.t7 default).Group) < 0)) || (decide (9≤((lget l s1.t7 default).Group)))) || (decide (((lget l s1.t7 default).Replica) < 0))) || (decide (5≤((lget l s1.t7 default).Replica)))) then
 (some false)
 else
 (next2 ⟨(IntKind.i64.wrap (s1.t7 + 1))⟩))
 else none)
 else
 (some true))) ⟨0⟩)
def zdb:Con τ:={ args:=[.ty 190],L:=[],ret:=.ty 4,L':=[],R:=Bool,dflt:=default,F:=fun N a b=>z1e N a.1,of:=fun r=>(r,()) }
noncomputable def zrm:Dat τ:={ D:=D0,tbl:=tblOf [],lp:=lpsOf [(2,zqi)],k0:=0,mu:=[],un:=[] }
theorem zt6:ConOk E C 115 zdb :=
  zk (D:=zrm) ⟨d0Ok,eGood,zb trivial,fun _=>rfl⟩ zdb (fun a b=>a) none (fun _ _=>rfl) rfl (fun _ _ h=>nomatch h) 1000000 (fn:=Tryz.f115) Tryz.func115 rfl (by kernel_rfl) (by kernel_rfl) rfl (by intro N a b; kernel_rfl)
def z8d (N:Nat) (b:zh):Option (Bool) :=
 ((z17 N [b.Round]).bind fun r1 =>
 (some ((r1&&(decide (0≤b.Replica)))&&(decide (b.Replica < 5)))))
def z91:Con τ:={ args:=[.ty 68],L:=[],ret:=.ty 4,L':=[],R:=Bool,dflt:=default,F:=fun N a b=>z8d N a.1,of:=fun r=>(r,()) }
noncomputable def zp3:Dat τ:={ D:=D0,tbl:=tblOf [(106,z3o)],lp:=lpsOf [],k0:=0,mu:=[],un:=[] }
theorem zhi:ConOk E C 116 z91 :=
  zk (D:=zp3) ⟨d0Ok,eGood,zb ⟨z7y,trivial⟩,fun _=>rfl⟩ z91 (fun a b=>a) none (fun _ _=>rfl) rfl (fun _ _ h=>nomatch h) 1000000 (fn:=Tryz.f116) Tryz.func116 rfl (by kernel_rfl) (by kernel_rfl) rfl (by intro N a b; kernel_rfl)
def z55 (N:Nat) (x:zd):Option (Bool) :=
 ((z17 N [x.Slot]).bind fun r1 =>
 ((bif (!(!r1)) then z8d N x.Ballot else some default).bind fun r2 =>
 ((bif (!((!r1) || (!r2))) then z12 N x.Entry else some default).bind fun r3 =>
 (some (((!r1) || (!r2)) || (!(r3==0)))))))
def z9f:Con τ:={ args:=[.ty 178],L:=[],ret:=.ty 4,L':=[],R:=Bool,dflt:=default,F:=fun N a b=>z55 N a.1,of:=fun r=>(r,()) }
noncomputable def zm8:Dat τ:={ D:=D0,tbl:=tblOf [(106,z3o),(116,z91),(64,z3w)],lp:=lpsOf [],k0:=0,mu:=[],un:=[] }
theorem zn0:ConOk E C 148 z9f :=
  zk (D:=zm8) ⟨d0Ok,eGood,zb ⟨z7y,⟨zhi,⟨z8w,trivial⟩⟩⟩,fun _=>rfl⟩ z9f (fun a b=>a) none (fun _ _=>rfl) rfl (fun _ _ h=>nomatch h) 1000000 (fn:=Tryz.f148) Tryz.func148 rfl (by kernel_rfl) (by kernel_rfl) rfl (by intro N a b; kernel_rfl)
structure z1v where
  t8:Int
def z3z:List Sl:=[.k,.k,.k,.k,.j,.j,.k,.k,.sh (.ty 2),.j,.j,.j,.j,.j,.j,.j,.j,.j,.j]
def z40:List ESh:=[]
def zcl (a:Sl.Ts τ z3z) (b:ESh.Ts τ z40):z1v:=⟨a.2.2.2.2.2.2.2.2.1⟩
def zcm (s:z1v):Sl.Ts τ z3z:=((),(),(),(),(),(),(),(),s.t8,(),(),(),(),(),(),(),(),(),(),())
def zcn (s:z1v):ESh.Ts τ z40:=()
def zco:Lp τ:={ ts:=z3z,hs:=z40,S:=z1v,to:=zcl,ot:=zcm,oh:=zcn,hk:=[],tk:=[],ot_to:=fun _ _=>rfl,oh_to:=fun _ _=>rfl }
def z37 (N:Nat) (s:List (zd)):Option (Int) :=
 (iter N (fun (s1:z1v) next2 =>
 (bif (decide (s1.t8 < ((s).length:Int))) then
 (bif (ibB s1.t8 ((s).length:Int)) then
 ((z55 N (⟨(lget s s1.t8 default).Slot,((lget s s1.t8 default).Ballot),(⟨((lget s s1.t8 default).Entry).Kind,((lget s s1.t8 default).Entry).Session,((lget s s1.t8 default).Entry).Request,(⟨((((lget s s1.t8 default).Entry).Op).Stamp),(((lget s s1.t8 default).Entry).Op).Kind,(((lget s s1.t8 default).Entry).Op).Node,(((lget s s1.t8 default).Entry).Op).Parent,(((lget s s1.t8 default).Entry).Op).Name,(((lget s s1.t8 default).Entry).Op).Key,(((lget s s1.t8 default).Entry).Op).Value⟩:GOp),((lget s s1.t8 default).Entry).Origin,((lget s s1.t8 default).Entry).Seq,((lget s s1.t8 default).Entry).Ops,(((lget s s1.t8 default).Entry).Epoch),((lget s s1.t8 default).Entry).From,((lget s s1.t8 default).Entry).Vector_,((lget s s1.t8 default).Entry).Clock,(((lget s s1.t8 default).Entry).Part),((lget s s1.t8 default).Entry).Site,((lget s s1.t8 default).Entry).Sponsor,((lget s s1.t8 default).Entry).Length⟩:z6)⟩:zd)).bind fun r3 =>
 (bif r3 then
 (some s1.t8)
 else
 (next2 ⟨(IntKind.i64.wrap (s1.t8 + 1))⟩)))
 else none)
 else
 (some (-1)))) ⟨0⟩)
def z49:Con τ:={ args:=[.ty 69,.fn 148 []],L:=[],ret:=.ty 3,L':=[],R:=Int,dflt:=default,F:=fun N a b=>z37 N a.1,of:=fun r=>(r,()) }
noncomputable def zdc:Dat τ:={ D:=D0,tbl:=tblOf [(148,z9f)],lp:=lpsOf [(2,zco)],k0:=0,mu:=[],un:=[] }
theorem zdn:ConOk E C 159 z49 :=
  zk (D:=zdc) ⟨d0Ok,eGood,zb ⟨zn0,trivial⟩,fun _=>rfl⟩ z49 (fun a b=>a) none (fun _ _=>rfl) rfl (fun _ _ h=>nomatch h) 1000000 (fn:=Tryz.f159) Tryz.func159 rfl (by kernel_rfl) (by kernel_rfl) rfl (by intro N a b; kernel_rfl)
def z2w (N:Nat) (s:List (zd)):Option (Bool) :=
 ((z37 N s).bind fun r1 =>
 (some (decide (0≤r1))))
def z3e:Con τ:={ args:=[.ty 69,.fn 148 []],L:=[],ret:=.ty 4,L':=[],R:=Bool,dflt:=default,F:=fun N a b=>z2w N a.1,of:=fun r=>(r,()) }
noncomputable def zbo:Dat τ:={ D:=D0,tbl:=tblOf [(159,z49)],lp:=lpsOf [],k0:=0,mu:=[],un:=[] }
theorem zcf:ConOk E C 147 z3e :=
  zk (D:=zbo) ⟨d0Ok,eGood,zb ⟨zdn,trivial⟩,fun _=>rfl⟩ z3e (fun a b=>a) none (fun _ _=>rfl) rfl (fun _ _ h=>nomatch h) 1000000 (fn:=Tryz.f147) Tryz.func147 rfl (by kernel_rfl) (by kernel_rfl) rfl (by intro N a b; kernel_rfl)
def z73 (N:Nat) (l:List (zd)) (least:Int) (most:Int):Option (Bool) :=
 ((bif ((decide (least≤((l).length:Int)))&&(decide (((l).length:Int)≤most))) then z2w N l else some default).bind fun r1 =>
 (some (((decide (least≤((l).length:Int)))&&(decide (((l).length:Int)≤most)))&&(!r1))))
def zal:Con τ:={ args:=[.ty 69,.ty 3,.ty 3],L:=[],ret:=.ty 4,L':=[],R:=Bool,dflt:=default,F:=fun N a b=>z73 N a.1 a.2.1 a.2.2.1,of:=fun r=>(r,()) }
noncomputable def znv:Dat τ:={ D:=D0,tbl:=tblOf [(147,z3e)],lp:=lpsOf [],k0:=0,mu:=[],un:=[] }
theorem zp4:ConOk E C 117 zal :=
  zk (D:=znv) ⟨d0Ok,eGood,zb ⟨zcf,trivial⟩,fun _=>rfl⟩ zal (fun a b=>a) none (fun _ _=>rfl) rfl (fun _ _ h=>nomatch h) 1000000 (fn:=Tryz.f117) Tryz.func117 rfl (by kernel_rfl) (by kernel_rfl) rfl (by intro N a b; kernel_rfl)
def z6g (N:Nat) (a:zd) (b:zd):Option (Bool) :=
 ((bif ((a.Slot==b.Slot)&&((a.Ballot.Round==b.Ballot.Round)&&(a.Ballot.Replica==b.Ballot.Replica))) then zn N a.Entry b.Entry else some default).bind fun r1 =>
 (some (((a.Slot==b.Slot)&&((a.Ballot.Round==b.Ballot.Round)&&(a.Ballot.Replica==b.Ballot.Replica)))&&r1)))
def z9w:Con τ:={ args:=[.ty 178,.ty 178],L:=[],ret:=.ty 4,L':=[],R:=Bool,dflt:=default,F:=fun N a b=>z6g N a.1 a.2.1,of:=fun r=>(r,()) }
noncomputable def zn1:Dat τ:={ D:=D0,tbl:=tblOf [(110,z68)],lp:=lpsOf [],k0:=0,mu:=[],un:=[] }
theorem znw:ConOk E C 150 z9w :=
  zk (D:=zn1) ⟨d0Ok,eGood,zb ⟨zc4,trivial⟩,fun _=>rfl⟩ z9w (fun a b=>a) none (fun _ _=>rfl) rfl (fun _ _ h=>nomatch h) 1000000 (fn:=Tryz.f150) Tryz.func150 rfl (by kernel_rfl) (by kernel_rfl) rfl (by intro N a b; kernel_rfl)
structure z1w where
  t17:Int
def z41:List Sl:=[.k,.k,.k,.k,.k,.k,.j,.j,.j,.j,.k,.k,.k,.k,.k,.k,.k,.sh (.ty 2),.j,.j,.j,.j,.j,.j,.j,.j,.j,.j,.j,.j,.j,.j]
def z42:List ESh:=[]
def zcp (a:Sl.Ts τ z41) (b:ESh.Ts τ z42):z1w:=⟨a.2.2.2.2.2.2.2.2.2.2.2.2.2.2.2.2.2.1⟩
def zcq (s:z1w):Sl.Ts τ z41:=((),(),(),(),(),(),(),(),(),(),(),(),(),(),(),(),(),s.t17,(),(),(),(),(),(),(),(),(),(),(),(),(),(),())
def zcr (s:z1w):ESh.Ts τ z42:=()
def zcs:Lp τ:={ ts:=z41,hs:=z42,S:=z1w,to:=zcp,ot:=zcq,oh:=zcr,hk:=[],tk:=[],ot_to:=fun _ _=>rfl,oh_to:=fun _ _=>rfl }
def z38 (N:Nat) (s1_:List (zd)) (s2_:List (zd)):Option (Bool) :=
 (bif (!(((s1_).length:Int)==((s2_).length:Int))) then
 (some false)
 else
 (iter N (fun (s1:z1w) next2 =>
 (bif (decide (s1.t17 < ((s1_).length:Int))) then
 (bif (ibB s1.t17 ((s1_).length:Int)) then
 (bif (ibB s1.t17 ((s2_).length:Int)) then
 ((z6g N (⟨(lget s1_ s1.t17 default).Slot,((lget s1_ s1.t17 default).Ballot),(⟨((lget s1_ s1.t17 default).Entry).Kind,((lget s1_ s1.t17 default).Entry).Session,((lget s1_ s1.t17 default).Entry).Request,(⟨((((lget s1_ s1.t17 default).Entry).Op).Stamp),(((lget s1_ s1.t17 default).Entry).Op).Kind,(((lget s1_ s1.t17 default).Entry).Op).Node,(((lget s1_ s1.t17 default).Entry).Op).Parent,(((lget s1_ s1.t17 default).Entry).Op).Name,(((lget s1_ s1.t17 default).Entry).Op).Key,(((lget s1_ s1.t17 default).Entry).Op).Value⟩:GOp),((lget s1_ s1.t17 default).Entry).Origin,((lget s1_ s1.t17 default).Entry).Seq,((lget s1_ s1.t17 default).Entry).Ops,(((lget s1_ s1.t17 default).Entry).Epoch),((lget s1_ s1.t17 default).Entry).From,((lget s1_ s1.t17 default).Entry).Vector_,((lget s1_ s1.t17 default).Entry).Clock,(((lget s1_ s1.t17 default).Entry).Part),((lget s1_ s1.t17 default).Entry).Site,((lget s1_ s1.t17 default).Entry).Sponsor,((lget s1_ s1.t17 default).Entry).Length⟩:z6)⟩:zd) (⟨(lget s2_ s1.t17 default).Slot,((lget s2_ s1.t17 default).Ballot),(⟨((lget s2_ s1.t17 default).Entry).Kind,((lget s2_ s1.t17 default).Entry).Session,((lget s2_ s1.t17 default).Entry).Request,(⟨((((lget s2_ s1.t17 default).Entry).Op).Stamp),(((lget s2_ s1.t17 default).Entry).Op).Kind,(((lget s2_ s1.t17 default).Entry).Op).Node,(((lget s2_ s1.t17 default).Entry).Op).Parent,(((lget s2_ s1.t17 default).Entry).Op).Name,(((lget s2_ s1.t17 default).Entry).Op).Key,(((lget s2_ s1.t17 default).Entry).Op).Value⟩:GOp),((lget s2_ s1.t17 default).Entry).Origin,((lget s2_ s1.t17 default).Entry).Seq,((lget s2_ s1.t17 default).Entry).Ops,(((lget s2_ s1.t17 default).Entry).Epoch),((lget s2_ s1.t17 default).Entry).From,((lget s2_ s1.t17 default).Entry).Vector_,((lget s2_ s1.t17 default).Entry).Clock,(((lget s2_ s1.t17 default).Entry).Part),((lget s2_ s1.t17 default).Entry).Site,((lget s2_ s1.t17 default).Entry).Sponsor,((lget s2_ s1.t17 default).Entry).Length⟩:z6)⟩:zd)).bind fun r3 =>
 (bif (!r3) then
 (some false)
 else
 (next2 ⟨(IntKind.i64.wrap (s1.t17 + 1))⟩)))
 else none)
 else none)
 else
 (some true))) ⟨0⟩))
def z4a:Con τ:={ args:=[.ty 69,.ty 69,.fn 150 []],L:=[],ret:=.ty 4,L':=[],R:=Bool,dflt:=default,F:=fun N a b=>z38 N a.1 a.2.1,of:=fun r=>(r,()) }
noncomputable def zdd:Dat τ:={ D:=D0,tbl:=tblOf [(150,z9w)],lp:=lpsOf [(4,zcs)],k0:=0,mu:=[],un:=[] }
theorem zdo:ConOk E C 149 z4a :=
  zk (D:=zdd) ⟨d0Ok,eGood,zb ⟨znw,trivial⟩,fun _=>rfl⟩ z4a (fun a b=>a) none (fun _ _=>rfl) rfl (fun _ _ h=>nomatch h) 1000000 (fn:=Tryz.f149) Tryz.func149 rfl (by kernel_rfl) (by kernel_rfl) rfl (by intro N a b; kernel_rfl)
def z9x (N:Nat) (a:GMsg) (b:GMsg):Option (Bool) :=
 ((bif (((((a.Kind==b.Kind)&&((a.From.Group==b.From.Group)&&(a.From.Replica==b.From.Replica)))&&((a.To.Group==b.To.Group)&&(a.To.Replica==b.To.Replica)))&&((a.Ballot.Round==b.Ballot.Round)&&(a.Ballot.Replica==b.Ballot.Replica)))&&(a.Slot==b.Slot)) then z38 N a.List_ b.List_ else some default).bind fun r1 =>
 ((bif ((((((a.Kind==b.Kind)&&((a.From.Group==b.From.Group)&&(a.From.Replica==b.From.Replica)))&&((a.To.Group==b.To.Group)&&(a.To.Replica==b.To.Replica)))&&((a.Ballot.Round==b.Ballot.Round)&&(a.Ballot.Replica==b.Ballot.Replica)))&&(a.Slot==b.Slot))&&r1) then zn N a.Entry b.Entry else some default).bind fun r2 =>
 ((bif (((((((((((a.Kind==b.Kind)&&((a.From.Group==b.From.Group)&&(a.From.Replica==b.From.Replica)))&&((a.To.Group==b.To.Group)&&(a.To.Replica==b.To.Replica)))&&((a.Ballot.Round==b.Ballot.Round)&&(a.Ballot.Replica==b.Ballot.Replica)))&&(a.Slot==b.Slot))&&r1)&&r2)&&(a.Number==b.Number))&&(vbeq beq2 a.Vector_ b.Vector_))&&(a.Clock==b.Clock))&&(a.Origin==b.Origin)) then z93 N a.Ops b.Ops else some default).bind fun r3 =>
 ((bif (((((((((((((a.Kind==b.Kind)&&((a.From.Group==b.From.Group)&&(a.From.Replica==b.From.Replica)))&&((a.To.Group==b.To.Group)&&(a.To.Replica==b.To.Replica)))&&((a.Ballot.Round==b.Ballot.Round)&&(a.Ballot.Replica==b.Ballot.Replica)))&&(a.Slot==b.Slot))&&r1)&&r2)&&(a.Number==b.Number))&&(vbeq beq2 a.Vector_ b.Vector_))&&(a.Clock==b.Clock))&&(a.Origin==b.Origin))&&r3)&&((a.Epoch.Number==b.Epoch.Number)&&((vbeq beq3 a.Epoch.States b.Epoch.States)&&((vbeq beq2 a.Epoch.Seals b.Epoch.Seals)&&(vbeq beq3 a.Epoch.Sponsor b.Epoch.Sponsor))))) then z94 N a.Part b.Part else some default).bind fun r4 =>
 (some ((((((((((((((a.Kind==b.Kind)&&((a.From.Group==b.From.Group)&&(a.From.Replica==b.From.Replica)))&&((a.To.Group==b.To.Group)&&(a.To.Replica==b.To.Replica)))&&((a.Ballot.Round==b.Ballot.Round)&&(a.Ballot.Replica==b.Ballot.Replica)))&&(a.Slot==b.Slot))&&r1)&&r2)&&(a.Number==b.Number))&&(vbeq beq2 a.Vector_ b.Vector_))&&(a.Clock==b.Clock))&&(a.Origin==b.Origin))&&r3)&&((a.Epoch.Number==b.Epoch.Number)&&((vbeq beq3 a.Epoch.States b.Epoch.States)&&((vbeq beq2 a.Epoch.Seals b.Epoch.Seals)&&(vbeq beq3 a.Epoch.Sponsor b.Epoch.Sponsor)))))&&r4))))))
def zde:Con τ:={ args:=[.ty 71,.ty 71],L:=[],ret:=.ty 4,L':=[],R:=Bool,dflt:=default,F:=fun N a b=>z9x N a.1 a.2.1,of:=fun r=>(r,()) }
noncomputable def zrn:Dat τ:={ D:=D0,tbl:=tblOf [(149,z4a),(110,z68),(144,z9i),(145,z9j)],lp:=lpsOf [],k0:=0,mu:=[],un:=[] }
theorem zt7:ConOk E C 118 zde :=
  zk (D:=zrn) ⟨d0Ok,eGood,zb ⟨zdo,⟨zc4,⟨zjz,⟨zk0,trivial⟩⟩⟩⟩,fun _=>rfl⟩ zde (fun a b=>a) none (fun _ _=>rfl) rfl (fun _ _ h=>nomatch h) 1000000 (fn:=Tryz.f118) Tryz.func118 rfl (by kernel_rfl) (by kernel_rfl) rfl (by intro N a b; kernel_rfl)
structure z9 where
  ok:Bool
  b0:GMsg
  b1:GMsg
def zb9:List Sl:=[.k,.sh (.ptr 0 []),.j,.sh (.ptr 1 []),.sh (.ty 4),.j,.j,.j,.j,.j,.j,.j,.j,.j,.j,.j,.j,.j,.j,.j,.j,.j,.j,.j,.j,.j,.j,.j,.j,.j,.j,.j,.j,.j,.j,.j,.j,.j,.j,.j,.j,.j,.j,.j,.j,.j,.j,.j,.j,.j,.j,.j,.j,.j,.j,.j,.j,.j,.j,.j,.j,.j,.j,.j,.j,.j,.j,.j,.j,.j,.j,.j,.j,.j,.j,.j,.j,.j,.j,.j,.j,.j,.j,.j,.j,.j,.j,.j,.j,.j,.j,.j,.j,.j,.j,.j,.j,.j,.j,.j,.j,.j,.j,.j,.j,.j,.j,.j,.j,.j,.j,.j,.j,.j,.j,.j,.j,.j,.j,.j,.j,.j,.j,.j,.j,.j,.j,.j,.j,.j,.j,.j,.j,.j,.j,.j,.j,.j,.j,.j,.j,.j,.j,.j,.j,.j,.j,.j,.j,.j,.j,.j,.j,.j,.j,.j,.j,.j,.j,.j,.j,.j,.j,.j,.k,.k,.k,.k,.k,.k,.k,.k,.k,.k,.k,.k,.k,.k,.k,.k,.k,.k,.k,.k,.k,.k,.k,.k,.k,.k,.k,.k,.k,.k,.k,.k,.k,.k,.k,.k,.k,.k,.k]
def zba:List ESh:=[.box (.ty 70),.box (.ty 70)]
def zp5 (a:Sl.Ts τ zb9) (b:ESh.Ts τ zba):z9:=⟨a.2.2.2.2.1,b.1,b.2.1⟩
def zp6 (s:z9):Sl.Ts τ zb9:=((),(),(),(),s.ok,(),(),(),(),(),(),(),(),(),(),(),(),(),(),(),(),(),(),(),(),(),(),(),(),(),(),(),(),(),(),(),(),(),(),(),(),(),(),(),(),(),(),(),(),(),(),(),(),(),(),(),(),(),(),(),(),(),(),(),(),(),(),(),(),(),(),(),(),(),(),(),(),(),(),(),(),(),(),(),(),(),(),(),(),(),(),(),(),(),(),(),(),(),(),(),(),(),(),(),(),(),(),(),(),(),(),(),(),(),(),(),(),(),(),(),(),(),(),(),(),(),(),(),(),(),(),(),(),(),(),(),(),(),(),(),(),(),(),(),(),(),(),(),(),(),(),(),(),(),(),(),(),(),(),(),(),(),(),(),(),(),(),(),(),(),(),(),(),(),(),(),(),(),(),(),(),(),(),(),(),(),(),(),(),(),(),(),(),(),(),(),(),(),(),(),(),(),(),())
def zp7 (s:z9):ESh.Ts τ zba:=(s.b0,s.b1,())
def zp8:Lp τ:={ ts:=zb9,hs:=zba,S:=z9,to:=zp5,ot:=zp6,oh:=zp7,hk:=[],tk:=[],ot_to:=fun _ _=>rfl,oh_to:=fun _ _=>rfl }
def z15 (N:Nat) (m:GMsg):Option (z9 ⊕ (Int)) :=
 ((z1e N [m.From,m.To]).bind fun r1 =>
 (bif (m.Kind==1) then
 (bif (m.Kind==1) then
 (some (.inl (⟨r1,m,(⟨m.Kind,m.From,m.To,m.Ballot,m.Slot,[],(⟨0,0,0,(⟨(⟨0,0⟩:zm),0,0,0,[],[],[]⟩:GOp),0,0,[],(⟨0,(Vector.replicate 8 (default:Int)),(Vector.replicate 8 (default:Int)),(Vector.replicate 8 (default:Int))⟩:z7),0,(Vector.replicate 8 (default:Int)),0,(⟨0,0,0,[]⟩:GPart),0,0,0⟩:z6),0,(Vector.replicate 8 (default:Int)),0,0,[],(⟨0,(Vector.replicate 8 (default:Int)),(Vector.replicate 8 (default:Int)),(Vector.replicate 8 (default:Int))⟩:z7),(⟨0,0,0,[]⟩:GPart)⟩:GMsg)⟩:z9)))
 else
 (bif (m.Kind==2) then
 (some (.inl (⟨r1,m,(⟨m.Kind,m.From,m.To,m.Ballot,m.Slot,m.List_,(⟨0,0,0,(⟨(⟨0,0⟩:zm),0,0,0,[],[],[]⟩:GOp),0,0,[],(⟨0,(Vector.replicate 8 (default:Int)),(Vector.replicate 8 (default:Int)),(Vector.replicate 8 (default:Int))⟩:z7),0,(Vector.replicate 8 (default:Int)),0,(⟨0,0,0,[]⟩:GPart),0,0,0⟩:z6),0,(Vector.replicate 8 (default:Int)),0,0,[],(⟨0,(Vector.replicate 8 (default:Int)),(Vector.replicate 8 (default:Int)),(Vector.replicate 8 (default:Int))⟩:z7),(⟨0,0,0,[]⟩:GPart)⟩:GMsg)⟩:z9)))
 else
 (bif (m.Kind==3) then
 (some (.inl (⟨(r1&&(((m.List_).length:Int)==1)),m,(⟨m.Kind,m.From,m.To,m.Ballot,0,m.List_,(⟨0,0,0,(⟨(⟨0,0⟩:zm),0,0,0,[],[],[]⟩:GOp),0,0,[],(⟨0,(Vector.replicate 8 (default:Int)),(Vector.replicate 8 (default:Int)),(Vector.replicate 8 (default:Int))⟩:z7),0,(Vector.replicate 8 (default:Int)),0,(⟨0,0,0,[]⟩:GPart),0,0,0⟩:z6),0,(Vector.replicate 8 (default:Int)),0,0,[],(⟨0,(Vector.replicate 8 (default:Int)),(Vector.replicate 8 (default:Int)),(Vector.replicate 8 (default:Int))⟩:z7),(⟨0,0,0,[]⟩:GPart)⟩:GMsg)⟩:z9)))
 else
 (bif (m.Kind==5) then
 (some (.inl (⟨r1,m,(⟨m.Kind,m.From,m.To,m.Ballot,0,[],(⟨0,0,0,(⟨(⟨0,0⟩:zm),0,0,0,[],[],[]⟩:GOp),0,0,[],(⟨0,(Vector.replicate 8 (default:Int)),(Vector.replicate 8 (default:Int)),(Vector.replicate 8 (default:Int))⟩:z7),0,(Vector.replicate 8 (default:Int)),0,(⟨0,0,0,[]⟩:GPart),0,0,0⟩:z6),0,(Vector.replicate 8 (default:Int)),0,0,[],(⟨0,(Vector.replicate 8 (default:Int)),(Vector.replicate 8 (default:Int)),(Vector.replicate 8 (default:Int))⟩:z7),(⟨0,0,0,[]⟩:GPart)⟩:GMsg)⟩:z9)))
 else
 (bif (m.Kind==6) then
 (some (.inl (⟨(r1&&(decide (1≤((m.List_).length:Int)))),m,(⟨m.Kind,m.From,m.To,(⟨0,0⟩:zh),0,m.List_,(⟨0,0,0,(⟨(⟨0,0⟩:zm),0,0,0,[],[],[]⟩:GOp),0,0,[],(⟨0,(Vector.replicate 8 (default:Int)),(Vector.replicate 8 (default:Int)),(Vector.replicate 8 (default:Int))⟩:z7),0,(Vector.replicate 8 (default:Int)),0,(⟨0,0,0,[]⟩:GPart),0,0,0⟩:z6),0,(Vector.replicate 8 (default:Int)),0,0,[],(⟨0,(Vector.replicate 8 (default:Int)),(Vector.replicate 8 (default:Int)),(Vector.replicate 8 (default:Int))⟩:z7),(⟨0,0,0,[]⟩:GPart)⟩:GMsg)⟩:z9)))
 else
 (bif (m.Kind==8) then
 (some (.inl (⟨r1,m,(⟨m.Kind,m.From,m.To,(⟨0,0⟩:zh),m.Slot,[],(⟨0,0,0,(⟨(⟨0,0⟩:zm),0,0,0,[],[],[]⟩:GOp),0,0,[],(⟨0,(Vector.replicate 8 (default:Int)),(Vector.replicate 8 (default:Int)),(Vector.replicate 8 (default:Int))⟩:z7),0,(Vector.replicate 8 (default:Int)),0,(⟨0,0,0,[]⟩:GPart),0,0,0⟩:z6),0,(Vector.replicate 8 (default:Int)),0,0,[],(⟨0,(Vector.replicate 8 (default:Int)),(Vector.replicate 8 (default:Int)),(Vector.replicate 8 (default:Int))⟩:z7),(⟨0,0,0,[]⟩:GPart)⟩:GMsg)⟩:z9)))
 else
 (bif (m.Kind==9) then
 (some (.inl (⟨r1,m,(⟨m.Kind,m.From,m.To,(⟨0,0⟩:zh),0,[],m.Entry,0,(Vector.replicate 8 (default:Int)),0,0,[],(⟨0,(Vector.replicate 8 (default:Int)),(Vector.replicate 8 (default:Int)),(Vector.replicate 8 (default:Int))⟩:z7),(⟨0,0,0,[]⟩:GPart)⟩:GMsg)⟩:z9)))
 else
 (bif (m.Kind==10) then
 (some (.inl (⟨r1,m,(⟨m.Kind,m.From,m.To,(⟨0,0⟩:zh),0,[],(⟨0,0,0,(⟨(⟨0,0⟩:zm),0,0,0,[],[],[]⟩:GOp),0,0,[],(⟨0,(Vector.replicate 8 (default:Int)),(Vector.replicate 8 (default:Int)),(Vector.replicate 8 (default:Int))⟩:z7),0,(Vector.replicate 8 (default:Int)),0,(⟨0,0,0,[]⟩:GPart),0,0,0⟩:z6),m.Number,m.Vector_,m.Clock,0,[],(⟨0,(Vector.replicate 8 (default:Int)),(Vector.replicate 8 (default:Int)),(Vector.replicate 8 (default:Int))⟩:z7),(⟨0,0,0,[]⟩:GPart)⟩:GMsg)⟩:z9)))
 else
 (bif (m.Kind==11) then
 ((bif r1 then z1z N [m.Origin] else some default).bind fun r2 =>
 ((bif (r1&&r2) then z4g N m.Ops 1 else some default).bind fun r3 =>
 (some (.inl (⟨((r1&&r2)&&r3),m,(⟨m.Kind,m.From,m.To,(⟨0,0⟩:zh),m.Slot,[],(⟨0,0,0,(⟨(⟨0,0⟩:zm),0,0,0,[],[],[]⟩:GOp),0,0,[],(⟨0,(Vector.replicate 8 (default:Int)),(Vector.replicate 8 (default:Int)),(Vector.replicate 8 (default:Int))⟩:z7),0,(Vector.replicate 8 (default:Int)),0,(⟨0,0,0,[]⟩:GPart),0,0,0⟩:z6),m.Number,(Vector.replicate 8 (default:Int)),0,m.Origin,m.Ops,(⟨0,(Vector.replicate 8 (default:Int)),(Vector.replicate 8 (default:Int)),(Vector.replicate 8 (default:Int))⟩:z7),(⟨0,0,0,[]⟩:GPart)⟩:GMsg)⟩:z9)))))
 else
 (bif (m.Kind==12) then
 ((bif r1 then z36 N m.Epoch else some default).bind fun r4 =>
 (some (.inl (⟨(r1&&r4),m,(⟨m.Kind,m.From,m.To,(⟨0,0⟩:zh),0,[],(⟨0,0,0,(⟨(⟨0,0⟩:zm),0,0,0,[],[],[]⟩:GOp),0,0,[],(⟨0,(Vector.replicate 8 (default:Int)),(Vector.replicate 8 (default:Int)),(Vector.replicate 8 (default:Int))⟩:z7),0,(Vector.replicate 8 (default:Int)),0,(⟨0,0,0,[]⟩:GPart),0,0,0⟩:z6),0,(Vector.replicate 8 (default:Int)),0,0,[],m.Epoch,(⟨0,0,0,[]⟩:GPart)⟩:GMsg)⟩:z9))))
 else
 (bif (m.Kind==13) then
 ((bif r1 then z29 N m.Part else some default).bind fun r5 =>
 (some (.inl (⟨(r1&&r5),m,(⟨m.Kind,m.From,m.To,(⟨0,0⟩:zh),0,[],(⟨0,0,0,(⟨(⟨0,0⟩:zm),0,0,0,[],[],[]⟩:GOp),0,0,[],(⟨0,(Vector.replicate 8 (default:Int)),(Vector.replicate 8 (default:Int)),(Vector.replicate 8 (default:Int))⟩:z7),0,(Vector.replicate 8 (default:Int)),0,(⟨0,0,0,[]⟩:GPart),0,0,0⟩:z6),0,(Vector.replicate 8 (default:Int)),0,0,[],(⟨0,(Vector.replicate 8 (default:Int)),(Vector.replicate 8 (default:Int)),(Vector.replicate 8 (default:Int))⟩:z7),m.Part⟩:GMsg)⟩:z9))))
 else
 (bif (m.Kind==14) then
 (some (.inl (⟨r1,m,(⟨m.Kind,m.From,m.To,(⟨0,0⟩:zh),0,[],(⟨0,0,0,(⟨(⟨0,0⟩:zm),0,0,0,[],[],[]⟩:GOp),0,0,[],(⟨0,(Vector.replicate 8 (default:Int)),(Vector.replicate 8 (default:Int)),(Vector.replicate 8 (default:Int))⟩:z7),0,(Vector.replicate 8 (default:Int)),0,(⟨0,0,0,[]⟩:GPart),0,0,0⟩:z6),m.Number,m.Vector_,0,0,[],(⟨0,(Vector.replicate 8 (default:Int)),(Vector.replicate 8 (default:Int)),(Vector.replicate 8 (default:Int))⟩:z7),(⟨0,0,0,[]⟩:GPart)⟩:GMsg)⟩:z9)))
 else
 (bif (m.Kind==15) then
 ((bif r1 then z29 N m.Part else some default).bind fun r6 =>
 (some (.inl (⟨(r1&&r6),m,(⟨m.Kind,m.From,m.To,(⟨0,0⟩:zh),m.Slot,[],(⟨0,0,0,(⟨(⟨0,0⟩:zm),0,0,0,[],[],[]⟩:GOp),0,0,[],(⟨0,(Vector.replicate 8 (default:Int)),(Vector.replicate 8 (default:Int)),(Vector.replicate 8 (default:Int))⟩:z7),0,(Vector.replicate 8 (default:Int)),0,(⟨0,0,0,[]⟩:GPart),0,0,0⟩:z6),0,(Vector.replicate 8 (default:Int)),0,0,[],(⟨0,(Vector.replicate 8 (default:Int)),(Vector.replicate 8 (default:Int)),(Vector.replicate 8 (default:Int))⟩:z7),m.Part⟩:GMsg)⟩:z9))))
 else
 (some (.inl (⟨false,m,(⟨m.Kind,m.From,m.To,(⟨0,0⟩:zh),0,[],(⟨0,0,0,(⟨(⟨0,0⟩:zm),0,0,0,[],[],[]⟩:GOp),0,0,[],(⟨0,(Vector.replicate 8 (default:Int)),(Vector.replicate 8 (default:Int)),(Vector.replicate 8 (default:Int))⟩:z7),0,(Vector.replicate 8 (default:Int)),0,(⟨0,0,0,[]⟩:GPart),0,0,0⟩:z6),0,(Vector.replicate 8 (default:Int)),0,0,[],(⟨0,(Vector.replicate 8 (default:Int)),(Vector.replicate 8 (default:Int)),(Vector.replicate 8 (default:Int))⟩:z7),(⟨0,0,0,[]⟩:GPart)⟩:GMsg)⟩:z9))))))))))))))))
 else
 (bif (m.Kind==4) then
 (bif (m.Kind==4) then
 (some (.inl (⟨r1,m,(⟨m.Kind,m.From,m.To,m.Ballot,m.Slot,[],(⟨0,0,0,(⟨(⟨0,0⟩:zm),0,0,0,[],[],[]⟩:GOp),0,0,[],(⟨0,(Vector.replicate 8 (default:Int)),(Vector.replicate 8 (default:Int)),(Vector.replicate 8 (default:Int))⟩:z7),0,(Vector.replicate 8 (default:Int)),0,(⟨0,0,0,[]⟩:GPart),0,0,0⟩:z6),0,(Vector.replicate 8 (default:Int)),0,0,[],(⟨0,(Vector.replicate 8 (default:Int)),(Vector.replicate 8 (default:Int)),(Vector.replicate 8 (default:Int))⟩:z7),(⟨0,0,0,[]⟩:GPart)⟩:GMsg)⟩:z9)))
 else
 (bif (m.Kind==2) then
 (some (.inl (⟨r1,m,(⟨m.Kind,m.From,m.To,m.Ballot,m.Slot,m.List_,(⟨0,0,0,(⟨(⟨0,0⟩:zm),0,0,0,[],[],[]⟩:GOp),0,0,[],(⟨0,(Vector.replicate 8 (default:Int)),(Vector.replicate 8 (default:Int)),(Vector.replicate 8 (default:Int))⟩:z7),0,(Vector.replicate 8 (default:Int)),0,(⟨0,0,0,[]⟩:GPart),0,0,0⟩:z6),0,(Vector.replicate 8 (default:Int)),0,0,[],(⟨0,(Vector.replicate 8 (default:Int)),(Vector.replicate 8 (default:Int)),(Vector.replicate 8 (default:Int))⟩:z7),(⟨0,0,0,[]⟩:GPart)⟩:GMsg)⟩:z9)))
 else
 (bif (m.Kind==3) then
 (some (.inl (⟨(r1&&(((m.List_).length:Int)==1)),m,(⟨m.Kind,m.From,m.To,m.Ballot,0,m.List_,(⟨0,0,0,(⟨(⟨0,0⟩:zm),0,0,0,[],[],[]⟩:GOp),0,0,[],(⟨0,(Vector.replicate 8 (default:Int)),(Vector.replicate 8 (default:Int)),(Vector.replicate 8 (default:Int))⟩:z7),0,(Vector.replicate 8 (default:Int)),0,(⟨0,0,0,[]⟩:GPart),0,0,0⟩:z6),0,(Vector.replicate 8 (default:Int)),0,0,[],(⟨0,(Vector.replicate 8 (default:Int)),(Vector.replicate 8 (default:Int)),(Vector.replicate 8 (default:Int))⟩:z7),(⟨0,0,0,[]⟩:GPart)⟩:GMsg)⟩:z9)))
 else
 (bif (m.Kind==5) then
 (some (.inl (⟨r1,m,(⟨m.Kind,m.From,m.To,m.Ballot,0,[],(⟨0,0,0,(⟨(⟨0,0⟩:zm),0,0,0,[],[],[]⟩:GOp),0,0,[],(⟨0,(Vector.replicate 8 (default:Int)),(Vector.replicate 8 (default:Int)),(Vector.replicate 8 (default:Int))⟩:z7),0,(Vector.replicate 8 (default:Int)),0,(⟨0,0,0,[]⟩:GPart),0,0,0⟩:z6),0,(Vector.replicate 8 (default:Int)),0,0,[],(⟨0,(Vector.replicate 8 (default:Int)),(Vector.replicate 8 (default:Int)),(Vector.replicate 8 (default:Int))⟩:z7),(⟨0,0,0,[]⟩:GPart)⟩:GMsg)⟩:z9)))
 else
 (bif (m.Kind==6) then
 (some (.inl (⟨(r1&&(decide (1≤((m.List_).length:Int)))),m,(⟨m.Kind,m.From,m.To,(⟨0,0⟩:zh),0,m.List_,(⟨0,0,0,(⟨(⟨0,0⟩:zm),0,0,0,[],[],[]⟩:GOp),0,0,[],(⟨0,(Vector.replicate 8 (default:Int)),(Vector.replicate 8 (default:Int)),(Vector.replicate 8 (default:Int))⟩:z7),0,(Vector.replicate 8 (default:Int)),0,(⟨0,0,0,[]⟩:GPart),0,0,0⟩:z6),0,(Vector.replicate 8 (default:Int)),0,0,[],(⟨0,(Vector.replicate 8 (default:Int)),(Vector.replicate 8 (default:Int)),(Vector.replicate 8 (default:Int))⟩:z7),(⟨0,0,0,[]⟩:GPart)⟩:GMsg)⟩:z9)))
 else
 (bif (m.Kind==8) then
 (some (.inl (⟨r1,m,(⟨m.Kind,m.From,m.To,(⟨0,0⟩:zh),m.Slot,[],(⟨0,0,0,(⟨(⟨0,0⟩:zm),0,0,0,[],[],[]⟩:GOp),0,0,[],(⟨0,(Vector.replicate 8 (default:Int)),(Vector.replicate 8 (default:Int)),(Vector.replicate 8 (default:Int))⟩:z7),0,(Vector.replicate 8 (default:Int)),0,(⟨0,0,0,[]⟩:GPart),0,0,0⟩:z6),0,(Vector.replicate 8 (default:Int)),0,0,[],(⟨0,(Vector.replicate 8 (default:Int)),(Vector.replicate 8 (default:Int)),(Vector.replicate 8 (default:Int))⟩:z7),(⟨0,0,0,[]⟩:GPart)⟩:GMsg)⟩:z9)))
 else
 (bif (m.Kind==9) then
 (some (.inl (⟨r1,m,(⟨m.Kind,m.From,m.To,(⟨0,0⟩:zh),0,[],m.Entry,0,(Vector.replicate 8 (default:Int)),0,0,[],(⟨0,(Vector.replicate 8 (default:Int)),(Vector.replicate 8 (default:Int)),(Vector.replicate 8 (default:Int))⟩:z7),(⟨0,0,0,[]⟩:GPart)⟩:GMsg)⟩:z9)))
 else
 (bif (m.Kind==10) then
 (some (.inl (⟨r1,m,(⟨m.Kind,m.From,m.To,(⟨0,0⟩:zh),0,[],(⟨0,0,0,(⟨(⟨0,0⟩:zm),0,0,0,[],[],[]⟩:GOp),0,0,[],(⟨0,(Vector.replicate 8 (default:Int)),(Vector.replicate 8 (default:Int)),(Vector.replicate 8 (default:Int))⟩:z7),0,(Vector.replicate 8 (default:Int)),0,(⟨0,0,0,[]⟩:GPart),0,0,0⟩:z6),m.Number,m.Vector_,m.Clock,0,[],(⟨0,(Vector.replicate 8 (default:Int)),(Vector.replicate 8 (default:Int)),(Vector.replicate 8 (default:Int))⟩:z7),(⟨0,0,0,[]⟩:GPart)⟩:GMsg)⟩:z9)))
 else
 (bif (m.Kind==11) then
 ((bif r1 then z1z N [m.Origin] else some default).bind fun r7 =>
 ((bif (r1&&r7) then z4g N m.Ops 1 else some default).bind fun r8 =>
 (some (.inl (⟨((r1&&r7)&&r8),m,(⟨m.Kind,m.From,m.To,(⟨0,0⟩:zh),m.Slot,[],(⟨0,0,0,(⟨(⟨0,0⟩:zm),0,0,0,[],[],[]⟩:GOp),0,0,[],(⟨0,(Vector.replicate 8 (default:Int)),(Vector.replicate 8 (default:Int)),(Vector.replicate 8 (default:Int))⟩:z7),0,(Vector.replicate 8 (default:Int)),0,(⟨0,0,0,[]⟩:GPart),0,0,0⟩:z6),m.Number,(Vector.replicate 8 (default:Int)),0,m.Origin,m.Ops,(⟨0,(Vector.replicate 8 (default:Int)),(Vector.replicate 8 (default:Int)),(Vector.replicate 8 (default:Int))⟩:z7),(⟨0,0,0,[]⟩:GPart)⟩:GMsg)⟩:z9)))))
 else
 (bif (m.Kind==12) then
 ((bif r1 then z36 N m.Epoch else some default).bind fun r9 =>
 (some (.inl (⟨(r1&&r9),m,(⟨m.Kind,m.From,m.To,(⟨0,0⟩:zh),0,[],(⟨0,0,0,(⟨(⟨0,0⟩:zm),0,0,0,[],[],[]⟩:GOp),0,0,[],(⟨0,(Vector.replicate 8 (default:Int)),(Vector.replicate 8 (default:Int)),(Vector.replicate 8 (default:Int))⟩:z7),0,(Vector.replicate 8 (default:Int)),0,(⟨0,0,0,[]⟩:GPart),0,0,0⟩:z6),0,(Vector.replicate 8 (default:Int)),0,0,[],m.Epoch,(⟨0,0,0,[]⟩:GPart)⟩:GMsg)⟩:z9))))
 else
 (bif (m.Kind==13) then
 ((bif r1 then z29 N m.Part else some default).bind fun r10 =>
 (some (.inl (⟨(r1&&r10),m,(⟨m.Kind,m.From,m.To,(⟨0,0⟩:zh),0,[],(⟨0,0,0,(⟨(⟨0,0⟩:zm),0,0,0,[],[],[]⟩:GOp),0,0,[],(⟨0,(Vector.replicate 8 (default:Int)),(Vector.replicate 8 (default:Int)),(Vector.replicate 8 (default:Int))⟩:z7),0,(Vector.replicate 8 (default:Int)),0,(⟨0,0,0,[]⟩:GPart),0,0,0⟩:z6),0,(Vector.replicate 8 (default:Int)),0,0,[],(⟨0,(Vector.replicate 8 (default:Int)),(Vector.replicate 8 (default:Int)),(Vector.replicate 8 (default:Int))⟩:z7),m.Part⟩:GMsg)⟩:z9))))
 else
 (bif (m.Kind==14) then
 (some (.inl (⟨r1,m,(⟨m.Kind,m.From,m.To,(⟨0,0⟩:zh),0,[],(⟨0,0,0,(⟨(⟨0,0⟩:zm),0,0,0,[],[],[]⟩:GOp),0,0,[],(⟨0,(Vector.replicate 8 (default:Int)),(Vector.replicate 8 (default:Int)),(Vector.replicate 8 (default:Int))⟩:z7),0,(Vector.replicate 8 (default:Int)),0,(⟨0,0,0,[]⟩:GPart),0,0,0⟩:z6),m.Number,m.Vector_,0,0,[],(⟨0,(Vector.replicate 8 (default:Int)),(Vector.replicate 8 (default:Int)),(Vector.replicate 8 (default:Int))⟩:z7),(⟨0,0,0,[]⟩:GPart)⟩:GMsg)⟩:z9)))
 else
 (bif (m.Kind==15) then
 ((bif r1 then z29 N m.Part else some default).bind fun r11 =>
 (some (.inl (⟨(r1&&r11),m,(⟨m.Kind,m.From,m.To,(⟨0,0⟩:zh),m.Slot,[],(⟨0,0,0,(⟨(⟨0,0⟩:zm),0,0,0,[],[],[]⟩:GOp),0,0,[],(⟨0,(Vector.replicate 8 (default:Int)),(Vector.replicate 8 (default:Int)),(Vector.replicate 8 (default:Int))⟩:z7),0,(Vector.replicate 8 (default:Int)),0,(⟨0,0,0,[]⟩:GPart),0,0,0⟩:z6),0,(Vector.replicate 8 (default:Int)),0,0,[],(⟨0,(Vector.replicate 8 (default:Int)),(Vector.replicate 8 (default:Int)),(Vector.replicate 8 (default:Int))⟩:z7),m.Part⟩:GMsg)⟩:z9))))
 else
 (some (.inl (⟨false,m,(⟨m.Kind,m.From,m.To,(⟨0,0⟩:zh),0,[],(⟨0,0,0,(⟨(⟨0,0⟩:zm),0,0,0,[],[],[]⟩:GOp),0,0,[],(⟨0,(Vector.replicate 8 (default:Int)),(Vector.replicate 8 (default:Int)),(Vector.replicate 8 (default:Int))⟩:z7),0,(Vector.replicate 8 (default:Int)),0,(⟨0,0,0,[]⟩:GPart),0,0,0⟩:z6),0,(Vector.replicate 8 (default:Int)),0,0,[],(⟨0,(Vector.replicate 8 (default:Int)),(Vector.replicate 8 (default:Int)),(Vector.replicate 8 (default:Int))⟩:z7),(⟨0,0,0,[]⟩:GPart)⟩:GMsg)⟩:z9))))))))))))))))
 else
 (bif (m.Kind==7) then
 (some (.inl (⟨r1,m,(⟨m.Kind,m.From,m.To,m.Ballot,m.Slot,[],(⟨0,0,0,(⟨(⟨0,0⟩:zm),0,0,0,[],[],[]⟩:GOp),0,0,[],(⟨0,(Vector.replicate 8 (default:Int)),(Vector.replicate 8 (default:Int)),(Vector.replicate 8 (default:Int))⟩:z7),0,(Vector.replicate 8 (default:Int)),0,(⟨0,0,0,[]⟩:GPart),0,0,0⟩:z6),0,(Vector.replicate 8 (default:Int)),0,0,[],(⟨0,(Vector.replicate 8 (default:Int)),(Vector.replicate 8 (default:Int)),(Vector.replicate 8 (default:Int))⟩:z7),(⟨0,0,0,[]⟩:GPart)⟩:GMsg)⟩:z9)))
 else
 (bif (m.Kind==2) then
 (some (.inl (⟨r1,m,(⟨m.Kind,m.From,m.To,m.Ballot,m.Slot,m.List_,(⟨0,0,0,(⟨(⟨0,0⟩:zm),0,0,0,[],[],[]⟩:GOp),0,0,[],(⟨0,(Vector.replicate 8 (default:Int)),(Vector.replicate 8 (default:Int)),(Vector.replicate 8 (default:Int))⟩:z7),0,(Vector.replicate 8 (default:Int)),0,(⟨0,0,0,[]⟩:GPart),0,0,0⟩:z6),0,(Vector.replicate 8 (default:Int)),0,0,[],(⟨0,(Vector.replicate 8 (default:Int)),(Vector.replicate 8 (default:Int)),(Vector.replicate 8 (default:Int))⟩:z7),(⟨0,0,0,[]⟩:GPart)⟩:GMsg)⟩:z9)))
 else
 (bif (m.Kind==3) then
 (some (.inl (⟨(r1&&(((m.List_).length:Int)==1)),m,(⟨m.Kind,m.From,m.To,m.Ballot,0,m.List_,(⟨0,0,0,(⟨(⟨0,0⟩:zm),0,0,0,[],[],[]⟩:GOp),0,0,[],(⟨0,(Vector.replicate 8 (default:Int)),(Vector.replicate 8 (default:Int)),(Vector.replicate 8 (default:Int))⟩:z7),0,(Vector.replicate 8 (default:Int)),0,(⟨0,0,0,[]⟩:GPart),0,0,0⟩:z6),0,(Vector.replicate 8 (default:Int)),0,0,[],(⟨0,(Vector.replicate 8 (default:Int)),(Vector.replicate 8 (default:Int)),(Vector.replicate 8 (default:Int))⟩:z7),(⟨0,0,0,[]⟩:GPart)⟩:GMsg)⟩:z9)))
 else
 (bif (m.Kind==5) then
 (some (.inl (⟨r1,m,(⟨m.Kind,m.From,m.To,m.Ballot,0,[],(⟨0,0,0,(⟨(⟨0,0⟩:zm),0,0,0,[],[],[]⟩:GOp),0,0,[],(⟨0,(Vector.replicate 8 (default:Int)),(Vector.replicate 8 (default:Int)),(Vector.replicate 8 (default:Int))⟩:z7),0,(Vector.replicate 8 (default:Int)),0,(⟨0,0,0,[]⟩:GPart),0,0,0⟩:z6),0,(Vector.replicate 8 (default:Int)),0,0,[],(⟨0,(Vector.replicate 8 (default:Int)),(Vector.replicate 8 (default:Int)),(Vector.replicate 8 (default:Int))⟩:z7),(⟨0,0,0,[]⟩:GPart)⟩:GMsg)⟩:z9)))
 else
 (bif (m.Kind==6) then
 (some (.inl (⟨(r1&&(decide (1≤((m.List_).length:Int)))),m,(⟨m.Kind,m.From,m.To,(⟨0,0⟩:zh),0,m.List_,(⟨0,0,0,(⟨(⟨0,0⟩:zm),0,0,0,[],[],[]⟩:GOp),0,0,[],(⟨0,(Vector.replicate 8 (default:Int)),(Vector.replicate 8 (default:Int)),(Vector.replicate 8 (default:Int))⟩:z7),0,(Vector.replicate 8 (default:Int)),0,(⟨0,0,0,[]⟩:GPart),0,0,0⟩:z6),0,(Vector.replicate 8 (default:Int)),0,0,[],(⟨0,(Vector.replicate 8 (default:Int)),(Vector.replicate 8 (default:Int)),(Vector.replicate 8 (default:Int))⟩:z7),(⟨0,0,0,[]⟩:GPart)⟩:GMsg)⟩:z9)))
 else
 (bif (m.Kind==8) then
 (some (.inl (⟨r1,m,(⟨m.Kind,m.From,m.To,(⟨0,0⟩:zh),m.Slot,[],(⟨0,0,0,(⟨(⟨0,0⟩:zm),0,0,0,[],[],[]⟩:GOp),0,0,[],(⟨0,(Vector.replicate 8 (default:Int)),(Vector.replicate 8 (default:Int)),(Vector.replicate 8 (default:Int))⟩:z7),0,(Vector.replicate 8 (default:Int)),0,(⟨0,0,0,[]⟩:GPart),0,0,0⟩:z6),0,(Vector.replicate 8 (default:Int)),0,0,[],(⟨0,(Vector.replicate 8 (default:Int)),(Vector.replicate 8 (default:Int)),(Vector.replicate 8 (default:Int))⟩:z7),(⟨0,0,0,[]⟩:GPart)⟩:GMsg)⟩:z9)))
 else
 (bif (m.Kind==9) then
 (some (.inl (⟨r1,m,(⟨m.Kind,m.From,m.To,(⟨0,0⟩:zh),0,[],m.Entry,0,(Vector.replicate 8 (default:Int)),0,0,[],(⟨0,(Vector.replicate 8 (default:Int)),(Vector.replicate 8 (default:Int)),(Vector.replicate 8 (default:Int))⟩:z7),(⟨0,0,0,[]⟩:GPart)⟩:GMsg)⟩:z9)))
 else
 (bif (m.Kind==10) then
 (some (.inl (⟨r1,m,(⟨m.Kind,m.From,m.To,(⟨0,0⟩:zh),0,[],(⟨0,0,0,(⟨(⟨0,0⟩:zm),0,0,0,[],[],[]⟩:GOp),0,0,[],(⟨0,(Vector.replicate 8 (default:Int)),(Vector.replicate 8 (default:Int)),(Vector.replicate 8 (default:Int))⟩:z7),0,(Vector.replicate 8 (default:Int)),0,(⟨0,0,0,[]⟩:GPart),0,0,0⟩:z6),m.Number,m.Vector_,m.Clock,0,[],(⟨0,(Vector.replicate 8 (default:Int)),(Vector.replicate 8 (default:Int)),(Vector.replicate 8 (default:Int))⟩:z7),(⟨0,0,0,[]⟩:GPart)⟩:GMsg)⟩:z9)))
 else
 (bif (m.Kind==11) then
 ((bif r1 then z1z N [m.Origin] else some default).bind fun r12 =>
 ((bif (r1&&r12) then z4g N m.Ops 1 else some default).bind fun r13 =>
 (some (.inl (⟨((r1&&r12)&&r13),m,(⟨m.Kind,m.From,m.To,(⟨0,0⟩:zh),m.Slot,[],(⟨0,0,0,(⟨(⟨0,0⟩:zm),0,0,0,[],[],[]⟩:GOp),0,0,[],(⟨0,(Vector.replicate 8 (default:Int)),(Vector.replicate 8 (default:Int)),(Vector.replicate 8 (default:Int))⟩:z7),0,(Vector.replicate 8 (default:Int)),0,(⟨0,0,0,[]⟩:GPart),0,0,0⟩:z6),m.Number,(Vector.replicate 8 (default:Int)),0,m.Origin,m.Ops,(⟨0,(Vector.replicate 8 (default:Int)),(Vector.replicate 8 (default:Int)),(Vector.replicate 8 (default:Int))⟩:z7),(⟨0,0,0,[]⟩:GPart)⟩:GMsg)⟩:z9)))))
 else
 (bif (m.Kind==12) then
 ((bif r1 then z36 N m.Epoch else some default).bind fun r14 =>
 (some (.inl (⟨(r1&&r14),m,(⟨m.Kind,m.From,m.To,(⟨0,0⟩:zh),0,[],(⟨0,0,0,(⟨(⟨0,0⟩:zm),0,0,0,[],[],[]⟩:GOp),0,0,[],(⟨0,(Vector.replicate 8 (default:Int)),(Vector.replicate 8 (default:Int)),(Vector.replicate 8 (default:Int))⟩:z7),0,(Vector.replicate 8 (default:Int)),0,(⟨0,0,0,[]⟩:GPart),0,0,0⟩:z6),0,(Vector.replicate 8 (default:Int)),0,0,[],m.Epoch,(⟨0,0,0,[]⟩:GPart)⟩:GMsg)⟩:z9))))
 else
 (bif (m.Kind==13) then
 ((bif r1 then z29 N m.Part else some default).bind fun r15 =>
 (some (.inl (⟨(r1&&r15),m,(⟨m.Kind,m.From,m.To,(⟨0,0⟩:zh),0,[],(⟨0,0,0,(⟨(⟨0,0⟩:zm),0,0,0,[],[],[]⟩:GOp),0,0,[],(⟨0,(Vector.replicate 8 (default:Int)),(Vector.replicate 8 (default:Int)),(Vector.replicate 8 (default:Int))⟩:z7),0,(Vector.replicate 8 (default:Int)),0,(⟨0,0,0,[]⟩:GPart),0,0,0⟩:z6),0,(Vector.replicate 8 (default:Int)),0,0,[],(⟨0,(Vector.replicate 8 (default:Int)),(Vector.replicate 8 (default:Int)),(Vector.replicate 8 (default:Int))⟩:z7),m.Part⟩:GMsg)⟩:z9))))
 else
 (bif (m.Kind==14) then
 (some (.inl (⟨r1,m,(⟨m.Kind,m.From,m.To,(⟨0,0⟩:zh),0,[],(⟨0,0,0,(⟨(⟨0,0⟩:zm),0,0,0,[],[],[]⟩:GOp),0,0,[],(⟨0,(Vector.replicate 8 (default:Int)),(Vector.replicate 8 (default:Int)),(Vector.replicate 8 (default:Int))⟩:z7),0,(Vector.replicate 8 (default:Int)),0,(⟨0,0,0,[]⟩:GPart),0,0,0⟩:z6),m.Number,m.Vector_,0,0,[],(⟨0,(Vector.replicate 8 (default:Int)),(Vector.replicate 8 (default:Int)),(Vector.replicate 8 (default:Int))⟩:z7),(⟨0,0,0,[]⟩:GPart)⟩:GMsg)⟩:z9)))
 else
 (bif (m.Kind==15) then
 ((bif r1 then z29 N m.Part else some default).bind fun r16 =>
 (some (.inl (⟨(r1&&r16),m,(⟨m.Kind,m.From,m.To,(⟨0,0⟩:zh),m.Slot,[],(⟨0,0,0,(⟨(⟨0,0⟩:zm),0,0,0,[],[],[]⟩:GOp),0,0,[],(⟨0,(Vector.replicate 8 (default:Int)),(Vector.replicate 8 (default:Int)),(Vector.replicate 8 (default:Int))⟩:z7),0,(Vector.replicate 8 (default:Int)),0,(⟨0,0,0,[]⟩:GPart),0,0,0⟩:z6),0,(Vector.replicate 8 (default:Int)),0,0,[],(⟨0,(Vector.replicate 8 (default:Int)),(Vector.replicate 8 (default:Int)),(Vector.replicate 8 (default:Int))⟩:z7),m.Part⟩:GMsg)⟩:z9))))
 else
 (some (.inl (⟨false,m,(⟨m.Kind,m.From,m.To,(⟨0,0⟩:zh),0,[],(⟨0,0,0,(⟨(⟨0,0⟩:zm),0,0,0,[],[],[]⟩:GOp),0,0,[],(⟨0,(Vector.replicate 8 (default:Int)),(Vector.replicate 8 (default:Int)),(Vector.replicate 8 (default:Int))⟩:z7),0,(Vector.replicate 8 (default:Int)),0,(⟨0,0,0,[]⟩:GPart),0,0,0⟩:z6),0,(Vector.replicate 8 (default:Int)),0,0,[],(⟨0,(Vector.replicate 8 (default:Int)),(Vector.replicate 8 (default:Int)),(Vector.replicate 8 (default:Int))⟩:z7),(⟨0,0,0,[]⟩:GPart)⟩:GMsg)⟩:z9)))))))))))))))))))
def z95 (N:Nat) (m:GMsg) (s:z9):Option (Int) :=
 ((bif s.ok then z8d N s.b1.Ballot else some default).bind fun r17 =>
 ((bif (s.ok&&r17) then z17 N [s.b1.Slot,s.b1.Number,s.b1.Clock] else some default).bind fun r18 =>
 (bif ((s.ok&&r17)&&r18) then
 ((bif ((s.ok&&r17)&&r18) then z17 N (s.b1.Vector_.toList) else some default).bind fun r19 =>
 ((bif (((s.ok&&r17)&&r18)&&r19) then z73 N s.b1.List_ 0 4096 else some default).bind fun r20 =>
 ((bif ((((s.ok&&r17)&&r18)&&r19)&&r20) then z12 N s.b1.Entry else some default).bind fun r21 =>
 ((bif (((((s.ok&&r17)&&r18)&&r19)&&r20)&&(r21==0)) then z9x N s.b1 s.b0 else some default).bind fun r22 =>
 ((zw N ((((((s.ok&&r17)&&r18)&&r19)&&r20)&&(r21==0))&&r22)).bind fun r23 =>
 (some r23))))))
 else
 ((bif false then z73 N s.b1.List_ 0 4096 else some default).bind fun r24 =>
 ((bif false then z12 N s.b1.Entry else some default).bind fun r25 =>
 ((bif false then z9x N s.b1 s.b0 else some default).bind fun r26 =>
 ((zw N false).bind fun r27 =>
 (some r27))))))))
def z96 (N:Nat) (m:GMsg):Option (Int) :=
 (z15 N m).bind fun z=>match z with | .inl s=>z95 N m s | .inr r=>some r
def z9l:Con τ:={ args:=[.ty 71],L:=[],ret:=.ty 35,L':=[],R:=Int,dflt:=default,F:=fun N a b=>z96 N a.1,of:=fun r=>(r,()) }
noncomputable def zqj:Dat τ:={ D:=D0,tbl:=tblOf [(115,zdb),(107,zao),(108,zaw),(97,z9k),(109,za6),(116,z91),(106,z3o),(117,zal),(64,z3w),(118,zde),(89,za4)],lp:=lpsOf [],k0:=0,mu:=[],un:=[] }
theorem zka:ConOk E C 67 z9l :=
  con_cut (D:=zqj) ⟨d0Ok,eGood,zb ⟨zt6,⟨zl0,⟨zmw,⟨zk1,⟨zlu,⟨zhi,⟨z7y,⟨zp4,⟨z8w,⟨zt7,⟨zlt,trivial⟩⟩⟩⟩⟩⟩⟩⟩⟩⟩⟩,fun _=>rfl⟩ z9l (fun a b=>a) none (fun _ _=>rfl) rfl (fun _ _ h=>nomatch h) 1000000 [true,true,true,true,false] zp8 (fun N a b=>z15 N a.1) (fun N a b s=>z95 N a.1 s) (by intro N a b; kernel_rfl) (fn:=Tryz.f67) Tryz.func67 rfl (by kernel_rfl) (by kernel_rfl) rfl (by kernel_rfl) (by intro a b s; kernel_rfl) (by intro N a b; kernel_rfl) (by intro N a b s; kernel_rfl)
def z3r (N:Nat) (a:GAddr) (b0:Int) (b1:Bool) (b12:List (Int)):Option (Int×Bool×(List (Int))) :=
 ((zc N [a.Group,a.Replica] b0 b1 b12).bind fun r1 =>
 (some (r1.1,r1.2.1,r1.2.2)))
def z82:Con τ:={ args:=[.ptr 0 [],.ty 66],L:=[.box (.agg [.ptr 1 [],.ty 35]),.box (.agg [.ty 4,.own 5 2]),.tail],ret:=.tup [],L':=[.box (.agg [.ptr 1 [],.ty 35]),.box (.agg [.ty 4,.own 5 3]),.dead,.tail],R:=Int×Bool×(List (Int)),dflt:=(default,default,default),F:=fun N a b=>z3r N a.2.1 b.1.2.1 b.2.1.1 b.2.1.2.1,of:=fun r=>((),(((),r.1,()),(r.2.1,r.2.2,()),(),(),())) }
noncomputable def zj5:Dat τ:={ D:=D0,tbl:=tblOf [(93,z14)],lp:=lpsOf [],k0:=3,mu:=[],un:=[] }
theorem zkb:ConOk E C 119 z82 :=
  zk (D:=zj5) ⟨d0Ok,eGood,zb ⟨z1k,trivial⟩,fun _=>rfl⟩ z82 (fun a b=>(b.1.2.1,b.2.1.1,b.2.1.2.1)) none (fun _ _=>rfl) rfl (fun _ _ h=>nomatch h) 1000000 (fn:=Tryz.f119) Tryz.func119 rfl (by kernel_rfl) (by kernel_rfl) rfl (by intro N a b; kernel_rfl)
def zq (N:Nat) (b:zh) (b0:Int) (b1:Bool) (b12:List (Int)):Option (Int×Bool×(List (Int))) :=
 ((z5 N [b.Round] b0 b1 b12).bind fun r1 =>
 ((zc N [b.Replica] r1.1 r1.2.1 r1.2.2).bind fun r2 =>
 (some (r2.1,r2.2.1,r2.2.2))))
def z3s:Con τ:={ args:=[.ptr 0 [],.ty 68],L:=[.box (.agg [.ptr 1 [],.ty 35]),.box (.agg [.ty 4,.own 5 2]),.tail],ret:=.tup [],L':=[.box (.agg [.ptr 1 [],.ty 35]),.box (.agg [.ty 4,.own 5 3]),.dead,.tail],R:=Int×Bool×(List (Int)),dflt:=(default,default,default),F:=fun N a b=>zq N a.2.1 b.1.2.1 b.2.1.1 b.2.1.2.1,of:=fun r=>((),(((),r.1,()),(r.2.1,r.2.2,()),(),(),())) }
noncomputable def zfz:Dat τ:={ D:=D0,tbl:=tblOf [(92,z1l),(93,z14)],lp:=lpsOf [],k0:=3,mu:=[],un:=[] }
theorem zae:ConOk E C 120 z3s :=
  zk (D:=zfz) ⟨d0Ok,eGood,zb ⟨z2a,⟨z1k,trivial⟩⟩,fun _=>rfl⟩ z3s (fun a b=>(b.1.2.1,b.2.1.1,b.2.1.2.1)) none (fun _ _=>rfl) rfl (fun _ _ h=>nomatch h) 1000000 (fn:=Tryz.f120) Tryz.func120 rfl (by kernel_rfl) (by kernel_rfl) rfl (by intro N a b; kernel_rfl)
structure z2o where
  t13:Int
  b0:Int
  b1:Bool
  b12:List (Int)
def z6v:List Sl:=[.k,.k,.k,.k,.k,.j,.k,.k,.k,.k,.k,.k,.k,.sh (.ty 2),.j,.j,.j,.j,.j,.j,.j,.j,.j,.j,.j,.j,.j,.j,.j,.j,.j]
def z6w:List ESh:=[.box (.agg [.ptr 1 [],.ty 2]),.box (.agg [.ty 4,.own 5 4]),.keep,.dead,.tail]
def zh5 (a:Sl.Ts τ z6v) (b:ESh.Ts τ z6w):z2o:=⟨a.2.2.2.2.2.2.2.2.2.2.2.2.2.1,b.1.2.1,b.2.1.1,b.2.1.2.1⟩
def zh6 (s:z2o):Sl.Ts τ z6v:=((),(),(),(),(),(),(),(),(),(),(),(),(),s.t13,(),(),(),(),(),(),(),(),(),(),(),(),(),(),(),(),(),())
def zh7 (s:z2o):ESh.Ts τ z6w:=(((),s.b0,()),(s.b1,s.b12,()),(),(),(),())
def zh8:Lp τ:={ ts:=z6v,hs:=z6w,S:=z2o,to:=zh5,ot:=zh6,oh:=zh7,hk:=[2,2,1,5],tk:=[2,0,0,0,0,0,2],ot_to:=fun _ _=>rfl,oh_to:=fun _ _=>rfl }
def z18 (N:Nat) (l:List (zd)) (b0:Int) (b1:Bool) (b12:List (Int)):Option (Int×Bool×(List (Int))) :=
 ((zc N [((l).length:Int)] b0 b1 b12).bind fun r1 =>
 (iter N (fun (s2:z2o) next3 =>
 (bif (decide (s2.t13 < ((l).length:Int))) then
 (bif (ibB s2.t13 ((l).length:Int)) then
 ((z5 N [(lget l s2.t13 default).Slot] s2.b0 s2.b1 s2.b12).bind fun r4 =>
 ((zq N ((lget l s2.t13 default).Ballot) r4.1 r4.2.1 r4.2.2).bind fun r5 =>
 ((z1s N (⟨((lget l s2.t13 default).Entry).Kind,((lget l s2.t13 default).Entry).Session,((lget l s2.t13 default).Entry).Request,(⟨((((lget l s2.t13 default).Entry).Op).Stamp),(((lget l s2.t13 default).Entry).Op).Kind,(((lget l s2.t13 default).Entry).Op).Node,(((lget l s2.t13 default).Entry).Op).Parent,(((lget l s2.t13 default).Entry).Op).Name,(((lget l s2.t13 default).Entry).Op).Key,(((lget l s2.t13 default).Entry).Op).Value⟩:GOp),((lget l s2.t13 default).Entry).Origin,((lget l s2.t13 default).Entry).Seq,((lget l s2.t13 default).Entry).Ops,(((lget l s2.t13 default).Entry).Epoch),((lget l s2.t13 default).Entry).From,((lget l s2.t13 default).Entry).Vector_,((lget l s2.t13 default).Entry).Clock,(((lget l s2.t13 default).Entry).Part),((lget l s2.t13 default).Entry).Site,((lget l s2.t13 default).Entry).Sponsor,((lget l s2.t13 default).Entry).Length⟩:z6) r5.1 r5.2.1 r5.2.2).bind fun r6 =>
 (next3 ⟨(IntKind.i64.wrap (s2.t13 + 1)),r6.1,r6.2.1,r6.2.2⟩))))
 else none)
 else
 (some (s2.b0,s2.b1,s2.b12)))) ⟨0,r1.1,r1.2.1,r1.2.2⟩))
def z83:Con τ:={ args:=[.ptr 0 [],.ty 69],L:=[.box (.agg [.ptr 1 [],.ty 35]),.box (.agg [.ty 4,.own 5 2]),.tail],ret:=.tup [],L':=[.box (.agg [.ptr 1 [],.ty 35]),.box (.agg [.ty 4,.own 5 3]),.dead,.tail],R:=Int×Bool×(List (Int)),dflt:=(default,default,default),F:=fun N a b=>z18 N a.2.1 b.1.2.1 b.2.1.1 b.2.1.2.1,of:=fun r=>((),(((),r.1,()),(r.2.1,r.2.2,()),(),(),())) }
noncomputable def zj6:Dat τ:={ D:=D0,tbl:=tblOf [(93,z14),(92,z1l),(120,z3s),(65,z31)],lp:=lpsOf [(2,zh8)],k0:=3,mu:=[],un:=[] }
theorem zkc:ConOk E C 121 z83 :=
  zk (D:=zj6) ⟨d0Ok,eGood,zb ⟨z1k,⟨z2a,⟨zae,⟨z81,trivial⟩⟩⟩⟩,fun _=>rfl⟩ z83 (fun a b=>(b.1.2.1,b.2.1.1,b.2.1.2.1)) none (fun _ _=>rfl) rfl (fun _ _ h=>nomatch h) 1000000 (fn:=Tryz.f121) Tryz.func121 rfl (by kernel_rfl) (by kernel_rfl) rfl (by intro N a b; kernel_rfl)
def z6l (N:Nat) (m:GMsg) (b0:Int) (b1:Bool) (b12:List (Int)):Option (Int×Bool×(List (Int))) :=
 ((zc N [m.Kind] b0 b1 b12).bind fun r1 =>
 ((z3r N m.From r1.1 r1.2.1 r1.2.2).bind fun r2 =>
 ((z3r N m.To r2.1 r2.2.1 r2.2.2).bind fun r3 =>
 (bif (m.Kind==1) then
 (bif (m.Kind==1) then
 ((zq N m.Ballot r3.1 r3.2.1 r3.2.2).bind fun r4 =>
 ((z5 N [m.Slot] r4.1 r4.2.1 r4.2.2).bind fun r5 =>
 (some (r5.1,r5.2.1,r5.2.2))))
 else
 (bif (m.Kind==2) then
 ((zq N m.Ballot r3.1 r3.2.1 r3.2.2).bind fun r6 =>
 ((z5 N [m.Slot] r6.1 r6.2.1 r6.2.2).bind fun r7 =>
 ((z18 N m.List_ r7.1 r7.2.1 r7.2.2).bind fun r8 =>
 (some (r8.1,r8.2.1,r8.2.2)))))
 else
 (bif (m.Kind==3) then
 ((zq N m.Ballot r3.1 r3.2.1 r3.2.2).bind fun r9 =>
 ((z18 N m.List_ r9.1 r9.2.1 r9.2.2).bind fun r10 =>
 (some (r10.1,r10.2.1,r10.2.2))))
 else
 (bif (m.Kind==5) then
 ((zq N m.Ballot r3.1 r3.2.1 r3.2.2).bind fun r11 =>
 (some (r11.1,r11.2.1,r11.2.2)))
 else
 (bif (m.Kind==6) then
 ((z18 N m.List_ r3.1 r3.2.1 r3.2.2).bind fun r12 =>
 (some (r12.1,r12.2.1,r12.2.2)))
 else
 (bif (m.Kind==8) then
 ((z5 N [m.Slot] r3.1 r3.2.1 r3.2.2).bind fun r13 =>
 (some (r13.1,r13.2.1,r13.2.2)))
 else
 (bif (m.Kind==9) then
 ((z1s N m.Entry r3.1 r3.2.1 r3.2.2).bind fun r14 =>
 (some (r14.1,r14.2.1,r14.2.2)))
 else
 (bif (m.Kind==10) then
 ((z5 N [m.Number] r3.1 r3.2.1 r3.2.2).bind fun r15 =>
 ((z5 N (m.Vector_.toList) r15.1 r15.2.1 r15.2.2).bind fun r16 =>
 ((z5 N [m.Clock] r16.1 r16.2.1 r16.2.2).bind fun r17 =>
 (some (r17.1,r17.2.1,r17.2.2)))))
 else
 (bif (m.Kind==11) then
 ((z5 N [m.Number] r3.1 r3.2.1 r3.2.2).bind fun r18 =>
 ((zc N [m.Origin] r18.1 r18.2.1 r18.2.2).bind fun r19 =>
 ((z5 N [m.Slot] r19.1 r19.2.1 r19.2.2).bind fun r20 =>
 ((z2r N m.Ops r20.1 r20.2.1 r20.2.2).bind fun r21 =>
 (some (r21.1,r21.2.1,r21.2.2))))))
 else
 (bif (m.Kind==12) then
 ((z2b N m.Epoch r3.1 r3.2.1 r3.2.2).bind fun r22 =>
 (some (r22.1,r22.2.1,r22.2.2)))
 else
 (bif (m.Kind==13) then
 ((z1m N m.Part r3.1 r3.2.1 r3.2.2).bind fun r23 =>
 (some (r23.1,r23.2.1,r23.2.2)))
 else
 (bif (m.Kind==14) then
 ((z5 N [m.Number] r3.1 r3.2.1 r3.2.2).bind fun r24 =>
 ((z5 N (m.Vector_.toList) r24.1 r24.2.1 r24.2.2).bind fun r25 =>
 (some (r25.1,r25.2.1,r25.2.2))))
 else
 (bif (m.Kind==15) then
 ((z5 N [m.Slot] r3.1 r3.2.1 r3.2.2).bind fun r26 =>
 ((z1m N m.Part r26.1 r26.2.1 r26.2.2).bind fun r27 =>
 (some (r27.1,r27.2.1,r27.2.2))))
 else
 (some (r3.1,r3.2.1,r3.2.2)))))))))))))))
 else
 (bif (m.Kind==4) then
 (bif (m.Kind==4) then
 ((zq N m.Ballot r3.1 r3.2.1 r3.2.2).bind fun r28 =>
 ((z5 N [m.Slot] r28.1 r28.2.1 r28.2.2).bind fun r29 =>
 (some (r29.1,r29.2.1,r29.2.2))))
 else
 (bif (m.Kind==2) then
 ((zq N m.Ballot r3.1 r3.2.1 r3.2.2).bind fun r30 =>
 ((z5 N [m.Slot] r30.1 r30.2.1 r30.2.2).bind fun r31 =>
 ((z18 N m.List_ r31.1 r31.2.1 r31.2.2).bind fun r32 =>
 (some (r32.1,r32.2.1,r32.2.2)))))
 else
 (bif (m.Kind==3) then
 ((zq N m.Ballot r3.1 r3.2.1 r3.2.2).bind fun r33 =>
 ((z18 N m.List_ r33.1 r33.2.1 r33.2.2).bind fun r34 =>
 (some (r34.1,r34.2.1,r34.2.2))))
 else
 (bif (m.Kind==5) then
 ((zq N m.Ballot r3.1 r3.2.1 r3.2.2).bind fun r35 =>
 (some (r35.1,r35.2.1,r35.2.2)))
 else
 (bif (m.Kind==6) then
 ((z18 N m.List_ r3.1 r3.2.1 r3.2.2).bind fun r36 =>
 (some (r36.1,r36.2.1,r36.2.2)))
 else
 (bif (m.Kind==8) then
 ((z5 N [m.Slot] r3.1 r3.2.1 r3.2.2).bind fun r37 =>
 (some (r37.1,r37.2.1,r37.2.2)))
 else
 (bif (m.Kind==9) then
 ((z1s N m.Entry r3.1 r3.2.1 r3.2.2).bind fun r38 =>
 (some (r38.1,r38.2.1,r38.2.2)))
 else
 (bif (m.Kind==10) then
 ((z5 N [m.Number] r3.1 r3.2.1 r3.2.2).bind fun r39 =>
 ((z5 N (m.Vector_.toList) r39.1 r39.2.1 r39.2.2).bind fun r40 =>
 ((z5 N [m.Clock] r40.1 r40.2.1 r40.2.2).bind fun r41 =>
 (some (r41.1,r41.2.1,r41.2.2)))))
 else
 (bif (m.Kind==11) then
 ((z5 N [m.Number] r3.1 r3.2.1 r3.2.2).bind fun r42 =>
 ((zc N [m.Origin] r42.1 r42.2.1 r42.2.2).bind fun r43 =>
 ((z5 N [m.Slot] r43.1 r43.2.1 r43.2.2).bind fun r44 =>
 ((z2r N m.Ops r44.1 r44.2.1 r44.2.2).bind fun r45 =>
 (some (r45.1,r45.2.1,r45.2.2))))))
 else
 (bif (m.Kind==12) then
 ((z2b N m.Epoch r3.1 r3.2.1 r3.2.2).bind fun r46 =>
 (some (r46.1,r46.2.1,r46.2.2)))
 else
 (bif (m.Kind==13) then
 ((z1m N m.Part r3.1 r3.2.1 r3.2.2).bind fun r47 =>
 (some (r47.1,r47.2.1,r47.2.2)))
 else
 (bif (m.Kind==14) then
 ((z5 N [m.Number] r3.1 r3.2.1 r3.2.2).bind fun r48 =>
 ((z5 N (m.Vector_.toList) r48.1 r48.2.1 r48.2.2).bind fun r49 =>
 (some (r49.1,r49.2.1,r49.2.2))))
 else
 (bif (m.Kind==15) then
 ((z5 N [m.Slot] r3.1 r3.2.1 r3.2.2).bind fun r50 =>
 ((z1m N m.Part r50.1 r50.2.1 r50.2.2).bind fun r51 =>
 (some (r51.1,r51.2.1,r51.2.2))))
 else
 (some (r3.1,r3.2.1,r3.2.2)))))))))))))))
 else
 (bif (m.Kind==7) then
 ((zq N m.Ballot r3.1 r3.2.1 r3.2.2).bind fun r52 =>
 ((z5 N [m.Slot] r52.1 r52.2.1 r52.2.2).bind fun r53 =>
 (some (r53.1,r53.2.1,r53.2.2))))
 else
 (bif (m.Kind==2) then
 ((zq N m.Ballot r3.1 r3.2.1 r3.2.2).bind fun r54 =>
 ((z5 N [m.Slot] r54.1 r54.2.1 r54.2.2).bind fun r55 =>
 ((z18 N m.List_ r55.1 r55.2.1 r55.2.2).bind fun r56 =>
 (some (r56.1,r56.2.1,r56.2.2)))))
 else
 (bif (m.Kind==3) then
 ((zq N m.Ballot r3.1 r3.2.1 r3.2.2).bind fun r57 =>
 ((z18 N m.List_ r57.1 r57.2.1 r57.2.2).bind fun r58 =>
 (some (r58.1,r58.2.1,r58.2.2))))
 else
 (bif (m.Kind==5) then
 ((zq N m.Ballot r3.1 r3.2.1 r3.2.2).bind fun r59 =>
 (some (r59.1,r59.2.1,r59.2.2)))
 else
 (bif (m.Kind==6) then
 ((z18 N m.List_ r3.1 r3.2.1 r3.2.2).bind fun r60 =>
 (some (r60.1,r60.2.1,r60.2.2)))
 else
 (bif (m.Kind==8) then
 ((z5 N [m.Slot] r3.1 r3.2.1 r3.2.2).bind fun r61 =>
 (some (r61.1,r61.2.1,r61.2.2)))
 else
 (bif (m.Kind==9) then
 ((z1s N m.Entry r3.1 r3.2.1 r3.2.2).bind fun r62 =>
 (some (r62.1,r62.2.1,r62.2.2)))
 else
 (bif (m.Kind==10) then
 ((z5 N [m.Number] r3.1 r3.2.1 r3.2.2).bind fun r63 =>
 ((z5 N (m.Vector_.toList) r63.1 r63.2.1 r63.2.2).bind fun r64 =>
 ((z5 N [m.Clock] r64.1 r64.2.1 r64.2.2).bind fun r65 =>
 (some (r65.1,r65.2.1,r65.2.2)))))
 else
 (bif (m.Kind==11) then
 ((z5 N [m.Number] r3.1 r3.2.1 r3.2.2).bind fun r66 =>
 ((zc N [m.Origin] r66.1 r66.2.1 r66.2.2).bind fun r67 =>
 ((z5 N [m.Slot] r67.1 r67.2.1 r67.2.2).bind fun r68 =>
 ((z2r N m.Ops r68.1 r68.2.1 r68.2.2).bind fun r69 =>
 (some (r69.1,r69.2.1,r69.2.2))))))
 else
 (bif (m.Kind==12) then
 ((z2b N m.Epoch r3.1 r3.2.1 r3.2.2).bind fun r70 =>
 (some (r70.1,r70.2.1,r70.2.2)))
 else
 (bif (m.Kind==13) then
 ((z1m N m.Part r3.1 r3.2.1 r3.2.2).bind fun r71 =>
 (some (r71.1,r71.2.1,r71.2.2)))
 else
 (bif (m.Kind==14) then
 ((z5 N [m.Number] r3.1 r3.2.1 r3.2.2).bind fun r72 =>
 ((z5 N (m.Vector_.toList) r72.1 r72.2.1 r72.2.2).bind fun r73 =>
 (some (r73.1,r73.2.1,r73.2.2))))
 else
 (bif (m.Kind==15) then
 ((z5 N [m.Slot] r3.1 r3.2.1 r3.2.2).bind fun r74 =>
 ((z1m N m.Part r74.1 r74.2.1 r74.2.2).bind fun r75 =>
 (some (r75.1,r75.2.1,r75.2.2))))
 else
 (some (r3.1,r3.2.1,r3.2.2))))))))))))))))))))
def z8e:Con τ:={ args:=[.ptr 0 [],.ty 71],L:=[.box (.agg [.ptr 1 [],.ty 35]),.box (.agg [.ty 4,.own 5 2]),.tail],ret:=.tup [],L':=[.box (.agg [.ptr 1 [],.ty 35]),.box (.agg [.ty 4,.own 5 3]),.dead,.tail],R:=Int×Bool×(List (Int)),dflt:=(default,default,default),F:=fun N a b=>z6l N a.2.1 b.1.2.1 b.2.1.1 b.2.1.2.1,of:=fun r=>((),(((),r.1,()),(r.2.1,r.2.2,()),(),(),())) }
noncomputable def zkd:Dat τ:={ D:=D0,tbl:=tblOf [(93,z14),(119,z82),(120,z3s),(92,z1l),(121,z83),(65,z31),(111,z4v),(46,z45),(112,z4h)],lp:=lpsOf [],k0:=3,mu:=[],un:=[] }
theorem zlg:ConOk E C 68 z8e :=
  zk (D:=zkd) ⟨d0Ok,eGood,zb ⟨z1k,⟨zkb,⟨zae,⟨z2a,⟨zkc,⟨z81,⟨zc8,⟨zas,⟨zbh,trivial⟩⟩⟩⟩⟩⟩⟩⟩⟩,fun _=>rfl⟩ z8e (fun a b=>(b.1.2.1,b.2.1.1,b.2.1.2.1)) none (fun _ _=>rfl) rfl (fun _ _ h=>nomatch h) 1000000 (fn:=Tryz.f68) Tryz.func68 rfl (by kernel_rfl) (by kernel_rfl) rfl (by intro N a b; kernel_rfl)
end Go.Proofs.YteinehkdjkobnaaGreat
