/-
The functions of this seat,as plain functions over typed data,each with its contract. Printed by wip/tools/fngen.py.
-/
import Derived.Test.YtddpmkmgbdedlaaGreatqCod
import Derived.Test.YtddpmkmgbdedlaaGreatqTvX
import Derived.KernelRfl
set_option linter.unusedVariables false
set_option maxRecDepth 100000
namespace Go.Proofs.YtddpmkmgbdedlaaGreat
open Go Go.Ev
def zux (N:Nat)  : Option (Nat×Int×Bool×(List (GSent))) :=
 (some (0,0,true,[]))
def zor:Con τ:={ args:=[],L:=[],ret:=.ptr 0 [],L':=[.box (.agg [.agg [.msl 65 1,.ty 2],.ty 4]),.gbx 65],R:=Nat×Int×Bool×(List (GSent)),dflt:=(default,default,default,default),F:=fun N a b=>zux N ,of:=fun r=>((),(((r.1,r.2.1,()),r.2.2.1,()),r.2.2.2,())) }
noncomputable def z14m:Dat τ:={ D:=D0,tbl:=tblOf [],lp:=lpsOf [],k0:=0,mu:=[],un:=[] }
theorem z10r:ConOk E C 8 zor :=
  zj (D:=z14m) ⟨d0Ok,eGood,z7 trivial,fun _=>rfl⟩ zor (fun a b=>(b.1.1.1,b.1.1.2.1,b.1.2.1,b.2.1)) none (fun _ _=>rfl) rfl (fun _ _ h=>nomatch h) 1000000 (fn:=Tryz.f8) Tryz.func8 rfl (by kernel_rfl) (by kernel_rfl) rfl (by intro N a b; kernel_rfl)
def zqb (N:Nat) (slot:Int):Option (GMsg) :=
 (some (⟨7,(⟨1,0⟩:GAddr),(⟨1,1⟩:GAddr),(⟨1,0⟩:zu),slot,[],(⟨0,0,0,(⟨(⟨0,0⟩:z1a),0,0,0,[],[],[]⟩:GOp),0,0,[],(⟨0,(Vector.replicate 8 (default:Int)),(Vector.replicate 8 (default:Int)),(Vector.replicate 8 (default:Int))⟩:za),0,(Vector.replicate 8 (default:Int)),0,(⟨0,0,0,[]⟩:GPart),0,0,0⟩:z9),0,(Vector.replicate 8 (default:Int)),0,0,[],(⟨0,(Vector.replicate 8 (default:Int)),(Vector.replicate 8 (default:Int)),(Vector.replicate 8 (default:Int))⟩:za),(⟨0,0,0,[]⟩:GPart)⟩:GMsg))
def zlw:Con τ:={ args:=[.ty 2],L:=[],ret:=.ty 43,L':=[],R:=GMsg,dflt:=default,F:=fun N a b=>zqb N a.1,of:=fun r=>(r,()) }
noncomputable def zzb:Dat τ:={ D:=D0,tbl:=tblOf [],lp:=lpsOf [],k0:=0,mu:=[],un:=[] }
theorem z10s:ConOk E C 24 zlw :=
  zj (D:=zzb) ⟨d0Ok,eGood,z7 trivial,fun _=>rfl⟩ zlw (fun a b=>a) none (fun _ _=>rfl) rfl (fun _ _ h=>nomatch h) 1000000 (fn:=Tryz.f24) Tryz.func24 rfl (by kernel_rfl) (by kernel_rfl) rfl (by intro N a b; kernel_rfl)
def z2m (N:Nat) (b0:Nat) (b02:Int) (b03:Bool) (g1:List (GSent)):Option (Bool×Nat×Int×Bool×(List (GSent))) :=
 (some ((!b03),b0,b02,b03,g1))
def z3b:Con τ:={ args:=[.ptr 0 []],L:=[.box (.agg [.agg [.msl 65 1,.ty 2],.ty 4]),.gbx 65],ret:=.ty 4,L':=[.box (.agg [.agg [.msl 65 1,.ty 2],.ty 4]),.gbx 65],R:=Bool×Nat×Int×Bool×(List (GSent)),dflt:=(default,default,default,default,default),F:=fun N a b=>z2m N b.1.1.1 b.1.1.2.1 b.1.2.1 b.2.1,of:=fun r=>(r.1,(((r.2.1,r.2.2.1,()),r.2.2.2.1,()),r.2.2.2.2,())) }
noncomputable def zqc:Dat τ:={ D:=D0,tbl:=tblOf [],lp:=lpsOf [],k0:=2,mu:=[],un:=[] }
theorem z7a:ConOk E C 25 z3b :=
  zj (D:=zqc) ⟨d0Ok,eGood,z7 trivial,fun _=>rfl⟩ z3b (fun a b=>(a,b.1.1.1,b.1.1.2.1,b.1.2.1,b.2.1)) none (fun _ _=>rfl) rfl (fun _ _ h=>nomatch h) 1000000 (fn:=Tryz.f25) Tryz.func25 rfl (by kernel_rfl) (by kernel_rfl) rfl (by intro N a b; kernel_rfl)
structure z8n where
  t7:Int
def zcv:List Sl:=[.k,.k,.j,.k,.j,.k,.k,.sh (.ty 2),.j,.j,.j,.j,.j,.j,.j,.j,.j,.j,.j,.j,.j,.j,.j,.j,.j,.j,.j,.j,.j,.j]
def zcw:List ESh:=[]
def zru (a:Sl.Ts τ zcv) (b:ESh.Ts τ zcw):z8n:=⟨a.2.2.2.2.2.2.2.1⟩
def zrv (s:z8n):Sl.Ts τ zcv:=((),(),(),(),(),(),(),s.t7,(),(),(),(),(),(),(),(),(),(),(),(),(),(),(),(),(),(),(),(),(),(),())
def zrw (s:z8n):ESh.Ts τ zcw:=()
def zrx:Lp τ:={ ts:=zcv,hs:=zcw,S:=z8n,to:=zru,ot:=zrv,oh:=zrw,hk:=[],tk:=[],ot_to:=fun _ _=>rfl,oh_to:=fun _ _=>rfl }
def z1d (N:Nat) (l:List (GAddr)):Option (Bool) :=
 (iter N (fun (s1:z8n) next2 =>
 (bif (decide (s1.t7 < ((l).length:Int))) then
 (bif (ibB s1.t7 ((l).length:Int)) then
 (bif ((((decide (((lget l s1.t7 default).Group) < 0)) || (decide (9≤((lget l s1.t7 default).Group)))) || (decide (((lget l s1.t7 default).Replica) < 0))) || (decide (5≤((lget l s1.t7 default).Replica)))) then
 (some false)
 else
 (next2 ⟨(IntKind.i64.wrap (s1.t7+1))⟩))
 else none)
 else
 (some true))) ⟨0⟩)
def zdv:Con τ:={ args:=[.ty 70],L:=[],ret:=.ty 4,L':=[],R:=Bool,dflt:=default,F:=fun N a b=>z1d N a.1,of:=fun r=>(r,()) }
noncomputable def zt2:Dat τ:={ D:=D0,tbl:=tblOf [],lp:=lpsOf [(2,zrx)],k0:=0,mu:=[],un:=[] }
theorem zuk:ConOk E C 89 zdv :=
  zj (D:=zt2) ⟨d0Ok,eGood,z7 trivial,fun _=>rfl⟩ zdv (fun a b=>a) none (fun _ _=>rfl) rfl (fun _ _ h=>nomatch h) 1000000 (fn:=Tryz.f89) Tryz.func89 rfl (by kernel_rfl) (by kernel_rfl) rfl (by intro N a b; kernel_rfl)
structure z8o where
  t7:Int
def zei:List Sl:=[.k,.k,.j,.k,.j,.k,.k,.sh (.ty 2),.j,.j,.j,.j,.j,.j,.j,.j,.j,.j]
def zej:List ESh:=[]
def zul (a:Sl.Ts τ zei) (b:ESh.Ts τ zej):z8o:=⟨a.2.2.2.2.2.2.2.1⟩
def zum (s:z8o):Sl.Ts τ zei:=((),(),(),(),(),(),(),s.t7,(),(),(),(),(),(),(),(),(),(),())
def zun (s:z8o):ESh.Ts τ zej:=()
def zuo:Lp τ:={ ts:=zei,hs:=zej,S:=z8o,to:=zul,ot:=zum,oh:=zun,hk:=[],tk:=[],ot_to:=fun _ _=>rfl,oh_to:=fun _ _=>rfl }
def z14 (N:Nat) (l:List (Int)):Option (Bool) :=
 (iter N (fun (s1:z8o) next2 =>
 (bif (decide (s1.t7 < ((l).length:Int))) then
 (bif (ibB s1.t7 ((l).length:Int)) then
 (bif ((decide ((lget l s1.t7 default) < 0)) || (decide (1099511627776 < (lget l s1.t7 default)))) then
 (some false)
 else
 (next2 ⟨(IntKind.i64.wrap (s1.t7+1))⟩))
 else none)
 else
 (some true))) ⟨0⟩)
def z3r:Con τ:={ args:=[.ty 60],L:=[],ret:=.ty 4,L':=[],R:=Bool,dflt:=default,F:=fun N a b=>z14 N a.1,of:=fun r=>(r,()) }
noncomputable def zvu:Dat τ:={ D:=D0,tbl:=tblOf [],lp:=lpsOf [(2,zuo)],k0:=0,mu:=[],un:=[] }
theorem z87:ConOk E C 95 z3r :=
  zj (D:=zvu) ⟨d0Ok,eGood,z7 trivial,fun _=>rfl⟩ z3r (fun a b=>a) none (fun _ _=>rfl) rfl (fun _ _ h=>nomatch h) 1000000 (fn:=Tryz.f95) Tryz.func95 rfl (by kernel_rfl) (by kernel_rfl) rfl (by intro N a b; kernel_rfl)
def z8p (N:Nat) (b:zu):Option (Bool) :=
 ((z14 N [b.Round]).bind fun r1 =>
 (some ((r1&&(decide (0≤b.Replica)))&&(decide (b.Replica < 5)))))
def z98:Con τ:={ args:=[.ty 25],L:=[],ret:=.ty 4,L':=[],R:=Bool,dflt:=default,F:=fun N a b=>z8p N a.1,of:=fun r=>(r,()) }
noncomputable def zqd:Dat τ:={ D:=D0,tbl:=tblOf [(95,z3r)],lp:=lpsOf [],k0:=0,mu:=[],un:=[] }
theorem zic:ConOk E C 94 z98 :=
  zj (D:=zqd) ⟨d0Ok,eGood,z7 ⟨z87,trivial⟩,fun _=>rfl⟩ z98 (fun a b=>a) none (fun _ _=>rfl) rfl (fun _ _ h=>nomatch h) 1000000 (fn:=Tryz.f94) Tryz.func94 rfl (by kernel_rfl) (by kernel_rfl) rfl (by intro N a b; kernel_rfl)
structure z4u where
  t13:Int
def zbw:List Sl:=[.k,.k,.k,.k,.j,.j,.k,.k,.k,.k,.k,.k,.k,.sh (.ty 2),.j,.j,.j,.j,.j,.j,.j,.j,.j,.j,.j,.j]
def zbx:List ESh:=[]
def zqe (a:Sl.Ts τ zbw) (b:ESh.Ts τ zbx):z4u:=⟨a.2.2.2.2.2.2.2.2.2.2.2.2.2.1⟩
def zqf (s:z4u):Sl.Ts τ zbw:=((),(),(),(),(),(),(),(),(),(),(),(),(),s.t13,(),(),(),(),(),(),(),(),(),(),(),(),())
def zqg (s:z4u):ESh.Ts τ zbx:=()
def zqh:Lp τ:={ ts:=zbw,hs:=zbx,S:=z4u,to:=zqe,ot:=zqf,oh:=zqg,hk:=[],tk:=[],ot_to:=fun _ _=>rfl,oh_to:=fun _ _=>rfl }
def z9l (N:Nat) (s1_:List (GOp)) (s2_:List (GOp)):Option (Bool) :=
 (bif (!(((s1_).length:Int)==((s2_).length:Int))) then
 (some false)
 else
 (iter N (fun (s1:z4u) next2 =>
 (bif (decide (s1.t13 < ((s1_).length:Int))) then
 (bif (ibB s1.t13 ((s1_).length:Int)) then
 (bif (ibB s1.t13 ((s2_).length:Int)) then
 (bif (!((((((lget s1_ s1.t13 default).Stamp).Time)==(((lget s2_ s1.t13 default).Stamp).Time))&&((((lget s1_ s1.t13 default).Stamp).Site)==(((lget s2_ s1.t13 default).Stamp).Site)))&&((((lget s1_ s1.t13 default).Kind)==((lget s2_ s1.t13 default).Kind))&&((((lget s1_ s1.t13 default).Node)==((lget s2_ s1.t13 default).Node))&&((((lget s1_ s1.t13 default).Parent)==((lget s2_ s1.t13 default).Parent))&&((((lget s1_ s1.t13 default).Name)==((lget s2_ s1.t13 default).Name))&&((((lget s1_ s1.t13 default).Key)==((lget s2_ s1.t13 default).Key))&&(((lget s1_ s1.t13 default).Value)==((lget s2_ s1.t13 default).Value))))))))) then
 (some false)
 else
 (next2 ⟨(IntKind.i64.wrap (s1.t13+1))⟩))
 else none)
 else none)
 else
 (some true))) ⟨0⟩))
def za3:Con τ:={ args:=[.ty 31,.ty 31],L:=[],ret:=.ty 4,L':=[],R:=Bool,dflt:=default,F:=fun N a b=>z9l N a.1 a.2.1,of:=fun r=>(r,()) }
noncomputable def zry:Dat τ:={ D:=D0,tbl:=tblOf [],lp:=lpsOf [(4,zqh)],k0:=0,mu:=[],un:=[] }
theorem zkv:ConOk E C 136 za3 :=
  zj (D:=zry) ⟨d0Ok,eGood,z7 trivial,fun _=>rfl⟩ za3 (fun a b=>a) none (fun _ _=>rfl) rfl (fun _ _ h=>nomatch h) 1000000 (fn:=Tryz.f136) Tryz.func136 rfl (by kernel_rfl) (by kernel_rfl) rfl (by intro N a b; kernel_rfl)
def z9m (N:Nat) (a:GPart) (b:GPart):Option (Bool) :=
 (some ((((a.Snap==b.Snap)&&(a.Index==b.Index))&&(a.Many==b.Many))&&((strI a.Data)==(strI b.Data))))
def za4:Con τ:={ args:=[.ty 39,.ty 39],L:=[],ret:=.ty 4,L':=[],R:=Bool,dflt:=default,F:=fun N a b=>z9m N a.1 a.2.1,of:=fun r=>(r,()) }
noncomputable def zrz:Dat τ:={ D:=D0,tbl:=tblOf [],lp:=lpsOf [],k0:=0,mu:=[],un:=[] }
theorem zkw:ConOk E C 137 za4 :=
  zj (D:=zrz) ⟨d0Ok,eGood,z7 trivial,fun _=>rfl⟩ za4 (fun a b=>a) none (fun _ _=>rfl) rfl (fun _ _ h=>nomatch h) 1000000 (fn:=Tryz.f137) Tryz.func137 rfl (by kernel_rfl) (by kernel_rfl) rfl (by intro N a b; kernel_rfl)
def zk (N:Nat) (a:z9) (b:z9):Option (Bool) :=
 ((bif ((((((a.Kind==b.Kind)&&(a.Session==b.Session))&&(a.Request==b.Request))&&(((a.Op.Stamp.Time==b.Op.Stamp.Time)&&(a.Op.Stamp.Site==b.Op.Stamp.Site))&&((a.Op.Kind==b.Op.Kind)&&((a.Op.Node==b.Op.Node)&&((a.Op.Parent==b.Op.Parent)&&((a.Op.Name==b.Op.Name)&&((a.Op.Key==b.Op.Key)&&(a.Op.Value==b.Op.Value))))))))&&(a.Origin==b.Origin))&&(a.Seq==b.Seq)) then z9l N a.Ops b.Ops else some default).bind fun r1 =>
 ((bif (((((((((((a.Kind==b.Kind)&&(a.Session==b.Session))&&(a.Request==b.Request))&&(((a.Op.Stamp.Time==b.Op.Stamp.Time)&&(a.Op.Stamp.Site==b.Op.Stamp.Site))&&((a.Op.Kind==b.Op.Kind)&&((a.Op.Node==b.Op.Node)&&((a.Op.Parent==b.Op.Parent)&&((a.Op.Name==b.Op.Name)&&((a.Op.Key==b.Op.Key)&&(a.Op.Value==b.Op.Value))))))))&&(a.Origin==b.Origin))&&(a.Seq==b.Seq))&&r1)&&((a.Epoch.Number==b.Epoch.Number)&&((vbeq beq3 a.Epoch.States b.Epoch.States)&&((vbeq beq2 a.Epoch.Seals b.Epoch.Seals)&&(vbeq beq3 a.Epoch.Sponsor b.Epoch.Sponsor)))))&&(a.From==b.From))&&(vbeq beq2 a.Vector_ b.Vector_))&&(a.Clock==b.Clock)) then z9m N a.Part b.Part else some default).bind fun r2 =>
 (some (((((((((((((((a.Kind==b.Kind)&&(a.Session==b.Session))&&(a.Request==b.Request))&&(((a.Op.Stamp.Time==b.Op.Stamp.Time)&&(a.Op.Stamp.Site==b.Op.Stamp.Site))&&((a.Op.Kind==b.Op.Kind)&&((a.Op.Node==b.Op.Node)&&((a.Op.Parent==b.Op.Parent)&&((a.Op.Name==b.Op.Name)&&((a.Op.Key==b.Op.Key)&&(a.Op.Value==b.Op.Value))))))))&&(a.Origin==b.Origin))&&(a.Seq==b.Seq))&&r1)&&((a.Epoch.Number==b.Epoch.Number)&&((vbeq beq3 a.Epoch.States b.Epoch.States)&&((vbeq beq2 a.Epoch.Seals b.Epoch.Seals)&&(vbeq beq3 a.Epoch.Sponsor b.Epoch.Sponsor)))))&&(a.From==b.From))&&(vbeq beq2 a.Vector_ b.Vector_))&&(a.Clock==b.Clock))&&r2)&&(a.Site==b.Site))&&(a.Sponsor==b.Sponsor))&&(a.Length==b.Length)))))
def z6e:Con τ:={ args:=[.ty 41,.ty 41],L:=[],ret:=.ty 4,L':=[],R:=Bool,dflt:=default,F:=fun N a b=>zk N a.1 a.2.1,of:=fun r=>(r,()) }
noncomputable def zqi:Dat τ:={ D:=D0,tbl:=tblOf [(136,za3),(137,za4)],lp:=lpsOf [],k0:=0,mu:=[],un:=[] }
theorem zcx:ConOk E C 133 z6e :=
  zj (D:=zqi) ⟨d0Ok,eGood,z7 ⟨zkv,⟨zkw,trivial⟩⟩,fun _=>rfl⟩ z6e (fun a b=>a) none (fun _ _=>rfl) rfl (fun _ _ h=>nomatch h) 1000000 (fn:=Tryz.f133) Tryz.func133 rfl (by kernel_rfl) (by kernel_rfl) rfl (by intro N a b; kernel_rfl)
def zv (N:Nat) (ok:Bool):Option (Int) :=
 (bif ok then
 (some 0)
 else
 (some 40))
def zat:Con τ:={ args:=[.ty 4],L:=[],ret:=.ty 48,L':=[],R:=Int,dflt:=default,F:=fun N a b=>zv N a.1,of:=fun r=>(r,()) }
noncomputable def zt3:Dat τ:={ D:=D0,tbl:=tblOf [],lp:=lpsOf [],k0:=0,mu:=[],un:=[] }
theorem zmr:ConOk E C 98 zat :=
  zj (D:=zt3) ⟨d0Ok,eGood,z7 trivial,fun _=>rfl⟩ zat (fun a b=>a) none (fun _ _=>rfl) rfl (fun _ _ h=>nomatch h) 1000000 (fn:=Tryz.f98) Tryz.func98 rfl (by kernel_rfl) (by kernel_rfl) rfl (by intro N a b; kernel_rfl)
structure z9q where
  t7:Int
def zg4:List Sl:=[.k,.k,.j,.k,.j,.k,.k,.sh (.ty 2),.j,.j,.j,.j,.j,.j,.j,.j,.j,.j]
def zg5:List ESh:=[]
def zvv (a:Sl.Ts τ zg4) (b:ESh.Ts τ zg5):z9q:=⟨a.2.2.2.2.2.2.2.1⟩
def zvw (s:z9q):Sl.Ts τ zg4:=((),(),(),(),(),(),(),s.t7,(),(),(),(),(),(),(),(),(),(),())
def zvx (s:z9q):ESh.Ts τ zg5:=()
def zvy:Lp τ:={ ts:=zg4,hs:=zg5,S:=z9q,to:=zvv,ot:=zvw,oh:=zvx,hk:=[],tk:=[],ot_to:=fun _ _=>rfl,oh_to:=fun _ _=>rfl }
def z1w (N:Nat) (l:List (Int)):Option (Bool) :=
 (iter N (fun (s1:z9q) next2 =>
 (bif (decide (s1.t7 < ((l).length:Int))) then
 (bif (ibB s1.t7 ((l).length:Int)) then
 (bif ((decide ((lget l s1.t7 default) < 0)) || (decide (8≤(lget l s1.t7 default)))) then
 (some false)
 else
 (next2 ⟨(IntKind.i64.wrap (s1.t7+1))⟩))
 else none)
 else
 (some true))) ⟨0⟩)
def zbf:Con τ:={ args:=[.ty 194],L:=[],ret:=.ty 4,L':=[],R:=Bool,dflt:=default,F:=fun N a b=>z1w N a.1,of:=fun r=>(r,()) }
noncomputable def zxq:Dat τ:={ D:=D0,tbl:=tblOf [],lp:=lpsOf [(2,zvy)],k0:=0,mu:=[],un:=[] }
theorem zlx:ConOk E C 90 zbf :=
  zj (D:=zxq) ⟨d0Ok,eGood,z7 trivial,fun _=>rfl⟩ zbf (fun a b=>a) none (fun _ _=>rfl) rfl (fun _ _ h=>nomatch h) 1000000 (fn:=Tryz.f90) Tryz.func90 rfl (by kernel_rfl) (by kernel_rfl) rfl (by intro N a b; kernel_rfl)
structure zbg where
  t7:Int
def zg6:List Sl:=[.k,.k,.j,.k,.j,.k,.k,.sh (.ty 2),.j,.j,.j,.j,.j,.j,.j,.j,.j,.j]
def zg7:List ESh:=[]
def zvz (a:Sl.Ts τ zg6) (b:ESh.Ts τ zg7):zbg:=⟨a.2.2.2.2.2.2.2.1⟩
def zw0 (s:zbg):Sl.Ts τ zg6:=((),(),(),(),(),(),(),s.t7,(),(),(),(),(),(),(),(),(),(),())
def zw1 (s:zbg):ESh.Ts τ zg7:=()
def zw2:Lp τ:={ ts:=zg6,hs:=zg7,S:=zbg,to:=zvz,ot:=zw0,oh:=zw1,hk:=[],tk:=[],ot_to:=fun _ _=>rfl,oh_to:=fun _ _=>rfl }
def zid (N:Nat) (l:List (Int)):Option (Bool) :=
 (iter N (fun (s1:zbg) next2 =>
 (bif (decide (s1.t7 < ((l).length:Int))) then
 (bif (ibB s1.t7 ((l).length:Int)) then
 (bif ((decide ((lget l s1.t7 default) < 0)) || (decide (1125899906842624 < (lget l s1.t7 default)))) then
 (some false)
 else
 (next2 ⟨(IntKind.i64.wrap (s1.t7+1))⟩))
 else none)
 else
 (some true))) ⟨0⟩)
def zjl:Con τ:={ args:=[.ty 60],L:=[],ret:=.ty 4,L':=[],R:=Bool,dflt:=default,F:=fun N a b=>zid N a.1,of:=fun r=>(r,()) }
noncomputable def zxr:Dat τ:={ D:=D0,tbl:=tblOf [],lp:=lpsOf [(2,zw2)],k0:=0,mu:=[],un:=[] }
theorem zzc:ConOk E C 167 zjl :=
  zj (D:=zxr) ⟨d0Ok,eGood,z7 trivial,fun _=>rfl⟩ zjl (fun a b=>a) none (fun _ _=>rfl) rfl (fun _ _ h=>nomatch h) 1000000 (fn:=Tryz.f167) Tryz.func167 rfl (by kernel_rfl) (by kernel_rfl) rfl (by intro N a b; kernel_rfl)
structure zbh where
  t7:Int
def zg8:List Sl:=[.k,.k,.j,.k,.j,.k,.k,.sh (.ty 2),.j,.j,.j,.j,.j,.j,.j]
def zg9:List ESh:=[]
def zw3 (a:Sl.Ts τ zg8) (b:ESh.Ts τ zg9):zbh:=⟨a.2.2.2.2.2.2.2.1⟩
def zw4 (s:zbh):Sl.Ts τ zg8:=((),(),(),(),(),(),(),s.t7,(),(),(),(),(),(),(),())
def zw5 (s:zbh):ESh.Ts τ zg9:=()
def zw6:Lp τ:={ ts:=zg8,hs:=zg9,S:=zbh,to:=zw3,ot:=zw4,oh:=zw5,hk:=[],tk:=[],ot_to:=fun _ _=>rfl,oh_to:=fun _ _=>rfl }
def zie (N:Nat) (l:List (List UInt8)):Option (Bool) :=
 (iter N (fun (s1:zbh) next2 =>
 (bif (decide (s1.t7 < ((l).length:Int))) then
 (bif (ibB s1.t7 ((l).length:Int)) then
 (bif (decide (255 < (((lget l s1.t7 default)).length:Int))) then
 (some false)
 else
 (next2 ⟨(IntKind.i64.wrap (s1.t7+1))⟩))
 else none)
 else
 (some true))) ⟨0⟩)
def zjm:Con τ:={ args:=[.ty 229],L:=[],ret:=.ty 4,L':=[],R:=Bool,dflt:=default,F:=fun N a b=>zie N a.1,of:=fun r=>(r,()) }
noncomputable def zxs:Dat τ:={ D:=D0,tbl:=tblOf [],lp:=lpsOf [(2,zw6)],k0:=0,mu:=[],un:=[] }
theorem zzd:ConOk E C 168 zjm :=
  zj (D:=zxs) ⟨d0Ok,eGood,z7 trivial,fun _=>rfl⟩ zjm (fun a b=>a) none (fun _ _=>rfl) rfl (fun _ _ h=>nomatch h) 1000000 (fn:=Tryz.f168) Tryz.func168 rfl (by kernel_rfl) (by kernel_rfl) rfl (by intro N a b; kernel_rfl)
def zau (N:Nat) (op:GOp):Option (Bool) :=
 ((z14 N [op.Stamp.Time]).bind fun r1 =>
 ((bif r1 then z1w N [op.Stamp.Site] else some default).bind fun r2 =>
 ((bif (((r1&&r2)&&(decide (1≤op.Kind)))&&(decide (op.Kind≤3))) then zid N [op.Node,op.Parent] else some default).bind fun r3 =>
 ((bif ((((r1&&r2)&&(decide (1≤op.Kind)))&&(decide (op.Kind≤3)))&&r3) then zie N [op.Name,op.Key,op.Value] else some default).bind fun r4 =>
 (some (((((r1&&r2)&&(decide (1≤op.Kind)))&&(decide (op.Kind≤3)))&&r3)&&r4))))))
def zcy:Con τ:={ args:=[.ty 30],L:=[],ret:=.ty 4,L':=[],R:=Bool,dflt:=default,F:=fun N a b=>zau N a.1,of:=fun r=>(r,()) }
noncomputable def zw7:Dat τ:={ D:=D0,tbl:=tblOf [(95,z3r),(90,zbf),(167,zjl),(168,zjm)],lp:=lpsOf [],k0:=0,mu:=[],un:=[] }
theorem zpn:ConOk E C 130 zcy :=
  zj (D:=zw7) ⟨d0Ok,eGood,z7 ⟨z87,⟨zlx,⟨zzc,⟨zzd,trivial⟩⟩⟩⟩,fun _=>rfl⟩ zcy (fun a b=>a) none (fun _ _=>rfl) rfl (fun _ _ h=>nomatch h) 1000000 (fn:=Tryz.f130) Tryz.func130 rfl (by kernel_rfl) (by kernel_rfl) rfl (by intro N a b; kernel_rfl)
def zbq (N:Nat) (op:GOp):Option (Bool) :=
 ((zau N op).bind fun r1 =>
 (some (!r1)))
def zcz:Con τ:={ args:=[.ty 30],L:=[],ret:=.ty 4,L':=[],R:=Bool,dflt:=default,F:=fun N a b=>zbq N a.1,of:=fun r=>(r,()) }
noncomputable def zs0:Dat τ:={ D:=D0,tbl:=tblOf [(130,zcy)],lp:=lpsOf [],k0:=0,mu:=[],un:=[] }
theorem zt4:ConOk E C 129 zcz :=
  zj (D:=zs0) ⟨d0Ok,eGood,z7 ⟨zpn,trivial⟩,fun _=>rfl⟩ zcz (fun a b=>a) none (fun _ _=>rfl) rfl (fun _ _ h=>nomatch h) 1000000 (fn:=Tryz.f129) Tryz.func129 rfl (by kernel_rfl) (by kernel_rfl) rfl (by intro N a b; kernel_rfl)
structure z2b where
  t8:Int
def z6f:List Sl:=[.k,.k,.k,.k,.j,.j,.k,.k,.sh (.ty 2),.j,.j,.j,.j,.j,.j,.j,.j,.j,.j]
def z6g:List ESh:=[]
def zga (a:Sl.Ts τ z6f) (b:ESh.Ts τ z6g):z2b:=⟨a.2.2.2.2.2.2.2.2.1⟩
def zgb (s:z2b):Sl.Ts τ z6f:=((),(),(),(),(),(),(),(),s.t8,(),(),(),(),(),(),(),(),(),(),())
def zgc (s:z2b):ESh.Ts τ z6g:=()
def zgd:Lp τ:={ ts:=z6f,hs:=z6g,S:=z2b,to:=zga,ot:=zgb,oh:=zgc,hk:=[],tk:=[],ot_to:=fun _ _=>rfl,oh_to:=fun _ _=>rfl }
def z4v (N:Nat) (s:List (GOp)):Option (Int) :=
 (iter N (fun (s1:z2b) next2 =>
 (bif (decide (s1.t8 < ((s).length:Int))) then
 (bif (ibB s1.t8 ((s).length:Int)) then
 ((zbq N (⟨((lget s s1.t8 default).Stamp),(lget s s1.t8 default).Kind,(lget s s1.t8 default).Node,(lget s s1.t8 default).Parent,(lget s s1.t8 default).Name,(lget s s1.t8 default).Key,(lget s s1.t8 default).Value⟩:GOp)).bind fun r3 =>
 (bif r3 then
 (some s1.t8)
 else
 (next2 ⟨(IntKind.i64.wrap (s1.t8+1))⟩)))
 else none)
 else
 (some (-1)))) ⟨0⟩)
def z70:Con τ:={ args:=[.ty 31,.fn 129 []],L:=[],ret:=.ty 3,L':=[],R:=Int,dflt:=default,F:=fun N a b=>z4v N a.1,of:=fun r=>(r,()) }
noncomputable def zhp:Dat τ:={ D:=D0,tbl:=tblOf [(129,zcz)],lp:=lpsOf [(2,zgd)],k0:=0,mu:=[],un:=[] }
theorem zjn:ConOk E C 166 z70 :=
  zj (D:=zhp) ⟨d0Ok,eGood,z7 ⟨zt4,trivial⟩,fun _=>rfl⟩ z70 (fun a b=>a) none (fun _ _=>rfl) rfl (fun _ _ h=>nomatch h) 1000000 (fn:=Tryz.f166) Tryz.func166 rfl (by kernel_rfl) (by kernel_rfl) rfl (by intro N a b; kernel_rfl)
def z3s (N:Nat) (s:List (GOp)):Option (Bool) :=
 ((z4v N s).bind fun r1 =>
 (some (decide (0≤r1))))
def z52:Con τ:={ args:=[.ty 31,.fn 129 []],L:=[],ret:=.ty 4,L':=[],R:=Bool,dflt:=default,F:=fun N a b=>z3s N a.1,of:=fun r=>(r,()) }
noncomputable def zek:Dat τ:={ D:=D0,tbl:=tblOf [(166,z70)],lp:=lpsOf [],k0:=0,mu:=[],un:=[] }
theorem zfd:ConOk E C 128 z52 :=
  zj (D:=zek) ⟨d0Ok,eGood,z7 ⟨zjn,trivial⟩,fun _=>rfl⟩ z52 (fun a b=>a) none (fun _ _=>rfl) rfl (fun _ _ h=>nomatch h) 1000000 (fn:=Tryz.f128) Tryz.func128 rfl (by kernel_rfl) (by kernel_rfl) rfl (by intro N a b; kernel_rfl)
def z4j (N:Nat) (l:List (GOp)) (least:Int):Option (Bool) :=
 ((bif ((decide (least≤((l).length:Int)))&&(decide (((l).length:Int)≤4096))) then z3s N l else some default).bind fun r1 =>
 (some (((decide (least≤((l).length:Int)))&&(decide (((l).length:Int)≤4096)))&&(!r1))))
def zbr:Con τ:={ args:=[.ty 31,.ty 3],L:=[],ret:=.ty 4,L':=[],R:=Bool,dflt:=default,F:=fun N a b=>z4j N a.1 a.2.1,of:=fun r=>(r,()) }
noncomputable def zup:Dat τ:={ D:=D0,tbl:=tblOf [(128,z52)],lp:=lpsOf [],k0:=0,mu:=[],un:=[] }
theorem znr:ConOk E C 91 zbr :=
  zj (D:=zup) ⟨d0Ok,eGood,z7 ⟨zfd,trivial⟩,fun _=>rfl⟩ zbr (fun a b=>a) none (fun _ _=>rfl) rfl (fun _ _ h=>nomatch h) 1000000 (fn:=Tryz.f91) Tryz.func91 rfl (by kernel_rfl) (by kernel_rfl) rfl (by intro N a b; kernel_rfl)
structure z4w where
  ok:Bool
  t14:Int
def zby:List Sl:=[.k,.k,.k,.sh (.ty 4),.j,.k,.k,.k,.k,.k,.j,.k,.j,.k,.sh (.ty 2),.j,.j,.j,.j,.j,.j,.j,.j,.j,.j,.j,.j,.j,.j,.j,.j,.j,.j,.j,.j,.j,.j,.j,.j,.j,.j,.j,.j,.j,.j,.j,.j,.k]
def zbz:List ESh:=[.keep]
def zqj (a:Sl.Ts τ zby) (b:ESh.Ts τ zbz):z4w:=⟨a.2.2.2.1,a.2.2.2.2.2.2.2.2.2.2.2.2.2.2.1⟩
def zqk (s:z4w):Sl.Ts τ zby:=((),(),(),s.ok,(),(),(),(),(),(),(),(),(),(),s.t14,(),(),(),(),(),(),(),(),(),(),(),(),(),(),(),(),(),(),(),(),(),(),(),(),(),(),(),(),(),(),(),(),(),())
def zql (s:z4w):ESh.Ts τ zbz:=((),())
def zqm:Lp τ:={ ts:=zby,hs:=zbz,S:=z4w,to:=zqj,ot:=zqk,oh:=zql,hk:=[3],tk:=[0,2,0,0,0,2],ot_to:=fun _ _=>rfl,oh_to:=fun _ _=>rfl }
structure z4a where
  ok:Bool
  t14:Int
def zb5:List Sl:=[.k,.k,.k,.sh (.ty 4),.j,.k,.k,.k,.k,.k,.j,.k,.k,.k,.sh (.ty 2),.j,.j,.j,.j,.j,.j,.j,.j,.j,.j,.j,.j,.j,.j,.j,.j,.j,.j,.j,.j,.j,.j,.j,.j,.j,.j,.j,.j,.j,.j,.j,.j,.k]
def zb6:List ESh:=[.keep]
def zp3 (a:Sl.Ts τ zb5) (b:ESh.Ts τ zb6):z4a:=⟨a.2.2.2.1,a.2.2.2.2.2.2.2.2.2.2.2.2.2.2.1⟩
def zp4 (s:z4a):Sl.Ts τ zb5:=((),(),(),s.ok,(),(),(),(),(),(),(),(),(),(),s.t14,(),(),(),(),(),(),(),(),(),(),(),(),(),(),(),(),(),(),(),(),(),(),(),(),(),(),(),(),(),(),(),(),(),())
def zp5 (s:z4a):ESh.Ts τ zb6:=((),())
def zp6:Lp τ:={ ts:=zb5,hs:=zb6,S:=z4a,to:=zp3,ot:=zp4,oh:=zp5,hk:=[2],tk:=[0,2,0,0,0,2],ot_to:=fun _ _=>rfl,oh_to:=fun _ _=>rfl }
def z38 (N:Nat) (e:za):Option (Bool) :=
 ((z14 N [e.Number]).bind fun r1 =>
 (bif r1 then
 ((bif r1 then z14 N (e.Seals.toList) else some default).bind fun r2 =>
 (iter N (fun (s3:z4w) next4 =>
 (bif (decide (s3.t14 < 8)) then
 (bif (!s3.ok || (ibB s3.t14 8)) then
 (bif (!(s3.ok&&(decide (0≤(vget e.States ((s3.t14).toNat) default)))) || (ibB s3.t14 8)) then
 (bif (!((s3.ok&&(decide (0≤(vget e.States ((s3.t14).toNat) default))))&&(decide ((vget e.States ((s3.t14).toNat) default)≤3))) || (ibB s3.t14 8)) then
 (bif (!(((s3.ok&&(decide (0≤(vget e.States ((s3.t14).toNat) default))))&&(decide ((vget e.States ((s3.t14).toNat) default)≤3)))&&(decide ((-1)≤(vget e.Sponsor ((s3.t14).toNat) default)))) || (ibB s3.t14 8)) then
 (next4 ⟨((((s3.ok&&(decide (0≤(vget e.States ((s3.t14).toNat) default))))&&(decide ((vget e.States ((s3.t14).toNat) default)≤3)))&&(decide ((-1)≤(vget e.Sponsor ((s3.t14).toNat) default))))&&(decide ((vget e.Sponsor ((s3.t14).toNat) default) < 8))),(IntKind.i64.wrap (s3.t14+1))⟩)
 else none)
 else none)
 else none)
 else none)
 else
 (some s3.ok))) ⟨(r1&&r2),0⟩))
 else
 (iter N (fun (s5:z4a) next6 =>
 (bif (decide (s5.t14 < 8)) then
 (bif (!s5.ok || (ibB s5.t14 8)) then
 (bif (!(s5.ok&&(decide (0≤(vget e.States ((s5.t14).toNat) default)))) || (ibB s5.t14 8)) then
 (bif (!((s5.ok&&(decide (0≤(vget e.States ((s5.t14).toNat) default))))&&(decide ((vget e.States ((s5.t14).toNat) default)≤3))) || (ibB s5.t14 8)) then
 (bif (!(((s5.ok&&(decide (0≤(vget e.States ((s5.t14).toNat) default))))&&(decide ((vget e.States ((s5.t14).toNat) default)≤3)))&&(decide ((-1)≤(vget e.Sponsor ((s5.t14).toNat) default)))) || (ibB s5.t14 8)) then
 (next6 ⟨((((s5.ok&&(decide (0≤(vget e.States ((s5.t14).toNat) default))))&&(decide ((vget e.States ((s5.t14).toNat) default)≤3)))&&(decide ((-1)≤(vget e.Sponsor ((s5.t14).toNat) default))))&&(decide ((vget e.Sponsor ((s5.t14).toNat) default) < 8))),(IntKind.i64.wrap (s5.t14+1))⟩)
 else none)
 else none)
 else none)
 else none)
 else
 (some s5.ok))) ⟨false,0⟩)))
def za5:Con τ:={ args:=[.ty 36],L:=[],ret:=.ty 4,L':=[],R:=Bool,dflt:=default,F:=fun N a b=>z38 N a.1,of:=fun r=>(r,()) }
noncomputable def zs1:Dat τ:={ D:=D0,tbl:=tblOf [(95,z3r)],lp:=lpsOf [(3,zqm),(3,zp6)],k0:=0,mu:=[],un:=[] }
theorem zkx:ConOk E C 92 za5 :=
  zj (D:=zs1) ⟨d0Ok,eGood,z7 ⟨z87,trivial⟩,fun _=>rfl⟩ za5 (fun a b=>a) none (fun _ _=>rfl) rfl (fun _ _ h=>nomatch h) 1000000 (fn:=Tryz.f92) Tryz.func92 rfl (by kernel_rfl) (by kernel_rfl) rfl (by intro N a b; kernel_rfl)
def z25 (N:Nat) (p:GPart):Option (Bool) :=
 ((z14 N [p.Snap]).bind fun r1 =>
 (some (((((r1&&(decide (1≤p.Many)))&&(decide (p.Many≤4096)))&&(decide (0≤p.Index)))&&(decide (p.Index < p.Many)))&&(decide (((p.Data).length:Int)≤16384)))))
def zav:Con τ:={ args:=[.ty 39],L:=[],ret:=.ty 4,L':=[],R:=Bool,dflt:=default,F:=fun N a b=>z25 N a.1,of:=fun r=>(r,()) }
noncomputable def zt5:Dat τ:={ D:=D0,tbl:=tblOf [(95,z3r)],lp:=lpsOf [],k0:=0,mu:=[],un:=[] }
theorem zms:ConOk E C 93 zav :=
  zj (D:=zt5) ⟨d0Ok,eGood,z7 ⟨z87,trivial⟩,fun _=>rfl⟩ zav (fun a b=>a) none (fun _ _=>rfl) rfl (fun _ _ h=>nomatch h) 1000000 (fn:=Tryz.f93) Tryz.func93 rfl (by kernel_rfl) (by kernel_rfl) rfl (by intro N a b; kernel_rfl)
def z19 (N:Nat) (e:z9):Option (Int) :=
 (bif (e.Kind==0) then
 ((zk N (⟨e.Kind,0,0,(⟨(⟨0,0⟩:z1a),0,0,0,[],[],[]⟩:GOp),0,0,[],(⟨0,(Vector.replicate 8 (default:Int)),(Vector.replicate 8 (default:Int)),(Vector.replicate 8 (default:Int))⟩:za),0,(Vector.replicate 8 (default:Int)),0,(⟨0,0,0,[]⟩:GPart),0,0,0⟩:z9) e).bind fun r1 =>
 ((zv N r1).bind fun r2 =>
 (some r2)))
 else
 (bif (e.Kind==1) then
 ((z14 N [e.Session,e.Request]).bind fun r3 =>
 ((bif ((r3&&(decide (0 < e.Session)))&&(decide (0 < e.Request))) then zau N e.Op else some default).bind fun r4 =>
 ((bif (((r3&&(decide (0 < e.Session)))&&(decide (0 < e.Request)))&&r4) then zk N (⟨e.Kind,e.Session,e.Request,e.Op,0,0,[],(⟨0,(Vector.replicate 8 (default:Int)),(Vector.replicate 8 (default:Int)),(Vector.replicate 8 (default:Int))⟩:za),0,(Vector.replicate 8 (default:Int)),0,(⟨0,0,0,[]⟩:GPart),0,0,0⟩:z9) e else some default).bind fun r5 =>
 ((zv N ((((r3&&(decide (0 < e.Session)))&&(decide (0 < e.Request)))&&r4)&&r5)).bind fun r6 =>
 (some r6)))))
 else
 (bif (e.Kind==2) then
 ((z1w N [e.Origin]).bind fun r7 =>
 ((bif r7 then z14 N [e.Seq] else some default).bind fun r8 =>
 ((bif (r7&&r8) then z4j N e.Ops 1 else some default).bind fun r9 =>
 ((bif ((r7&&r8)&&r9) then zk N (⟨e.Kind,0,0,(⟨(⟨0,0⟩:z1a),0,0,0,[],[],[]⟩:GOp),e.Origin,e.Seq,e.Ops,(⟨0,(Vector.replicate 8 (default:Int)),(Vector.replicate 8 (default:Int)),(Vector.replicate 8 (default:Int))⟩:za),0,(Vector.replicate 8 (default:Int)),0,(⟨0,0,0,[]⟩:GPart),0,0,0⟩:z9) e else some default).bind fun r10 =>
 ((zv N (((r7&&r8)&&r9)&&r10)).bind fun r11 =>
 (some r11))))))
 else
 (bif (e.Kind==3) then
 ((z38 N e.Epoch).bind fun r12 =>
 ((bif r12 then zk N (⟨e.Kind,0,0,(⟨(⟨0,0⟩:z1a),0,0,0,[],[],[]⟩:GOp),0,0,[],e.Epoch,0,(Vector.replicate 8 (default:Int)),0,(⟨0,0,0,[]⟩:GPart),0,0,0⟩:z9) e else some default).bind fun r13 =>
 ((zv N (r12&&r13)).bind fun r14 =>
 (some r14))))
 else
 (bif (e.Kind==4) then
 ((z14 N [e.Seq,e.Clock]).bind fun r15 =>
 ((bif r15 then z1w N [e.From] else some default).bind fun r16 =>
 (bif (r15&&r16) then
 ((bif (r15&&r16) then z14 N (e.Vector_.toList) else some default).bind fun r17 =>
 ((bif ((r15&&r16)&&r17) then zk N (⟨e.Kind,0,0,(⟨(⟨0,0⟩:z1a),0,0,0,[],[],[]⟩:GOp),0,e.Seq,[],(⟨0,(Vector.replicate 8 (default:Int)),(Vector.replicate 8 (default:Int)),(Vector.replicate 8 (default:Int))⟩:za),e.From,e.Vector_,e.Clock,(⟨0,0,0,[]⟩:GPart),0,0,0⟩:z9) e else some default).bind fun r18 =>
 ((zv N (((r15&&r16)&&r17)&&r18)).bind fun r19 =>
 (some r19))))
 else
 ((bif false then zk N (⟨e.Kind,0,0,(⟨(⟨0,0⟩:z1a),0,0,0,[],[],[]⟩:GOp),0,e.Seq,[],(⟨0,(Vector.replicate 8 (default:Int)),(Vector.replicate 8 (default:Int)),(Vector.replicate 8 (default:Int))⟩:za),e.From,e.Vector_,e.Clock,(⟨0,0,0,[]⟩:GPart),0,0,0⟩:z9) e else some default).bind fun r20 =>
 ((zv N false).bind fun r21 =>
 (some r21))))))
 else
 (bif (e.Kind==5) then
 ((z25 N e.Part).bind fun r22 =>
 ((bif r22 then zk N (⟨e.Kind,0,0,(⟨(⟨0,0⟩:z1a),0,0,0,[],[],[]⟩:GOp),0,0,[],(⟨0,(Vector.replicate 8 (default:Int)),(Vector.replicate 8 (default:Int)),(Vector.replicate 8 (default:Int))⟩:za),0,(Vector.replicate 8 (default:Int)),0,e.Part,0,0,0⟩:z9) e else some default).bind fun r23 =>
 ((zv N (r22&&r23)).bind fun r24 =>
 (some r24))))
 else
 (bif (e.Kind==6) then
 ((z1w N [e.Site,e.Sponsor]).bind fun r25 =>
 ((bif r25 then zk N (⟨e.Kind,0,0,(⟨(⟨0,0⟩:z1a),0,0,0,[],[],[]⟩:GOp),0,0,[],(⟨0,(Vector.replicate 8 (default:Int)),(Vector.replicate 8 (default:Int)),(Vector.replicate 8 (default:Int))⟩:za),0,(Vector.replicate 8 (default:Int)),0,(⟨0,0,0,[]⟩:GPart),e.Site,e.Sponsor,0⟩:z9) e else some default).bind fun r26 =>
 ((zv N (r25&&r26)).bind fun r27 =>
 (some r27))))
 else
 (bif (e.Kind==7) then
 ((z1w N [e.Site]).bind fun r28 =>
 ((bif r28 then zk N (⟨e.Kind,0,0,(⟨(⟨0,0⟩:z1a),0,0,0,[],[],[]⟩:GOp),0,0,[],(⟨0,(Vector.replicate 8 (default:Int)),(Vector.replicate 8 (default:Int)),(Vector.replicate 8 (default:Int))⟩:za),0,(Vector.replicate 8 (default:Int)),0,(⟨0,0,0,[]⟩:GPart),e.Site,0,0⟩:z9) e else some default).bind fun r29 =>
 ((zv N (r28&&r29)).bind fun r30 =>
 (some r30))))
 else
 (bif (e.Kind==8) then
 ((z1w N [e.Site]).bind fun r31 =>
 ((bif r31 then z14 N [e.Length] else some default).bind fun r32 =>
 ((bif (r31&&r32) then zk N (⟨e.Kind,0,0,(⟨(⟨0,0⟩:z1a),0,0,0,[],[],[]⟩:GOp),0,0,[],(⟨0,(Vector.replicate 8 (default:Int)),(Vector.replicate 8 (default:Int)),(Vector.replicate 8 (default:Int))⟩:za),0,(Vector.replicate 8 (default:Int)),0,(⟨0,0,0,[]⟩:GPart),e.Site,0,e.Length⟩:z9) e else some default).bind fun r33 =>
 ((zv N ((r31&&r32)&&r33)).bind fun r34 =>
 (some r34)))))
 else
 ((bif false then zk N (⟨e.Kind,0,0,(⟨(⟨0,0⟩:z1a),0,0,0,[],[],[]⟩:GOp),0,0,[],(⟨0,(Vector.replicate 8 (default:Int)),(Vector.replicate 8 (default:Int)),(Vector.replicate 8 (default:Int))⟩:za),0,(Vector.replicate 8 (default:Int)),0,(⟨0,0,0,[]⟩:GPart),0,0,0⟩:z9) e else some default).bind fun r35 =>
 ((zv N false).bind fun r36 =>
 (some r36))))))))))))
def z8g:Con τ:={ args:=[.ty 41],L:=[],ret:=.ty 48,L':=[],R:=Int,dflt:=default,F:=fun N a b=>z19 N a.1,of:=fun r=>(r,()) }
noncomputable def zp7:Dat τ:={ D:=D0,tbl:=tblOf [(133,z6e),(98,zat),(95,z3r),(130,zcy),(90,zbf),(91,zbr),(92,za5),(93,zav)],lp:=lpsOf [],k0:=0,mu:=[],un:=[] }
theorem zge:ConOk E C 97 z8g :=
  zj (D:=zp7) ⟨d0Ok,eGood,z7 ⟨zcx,⟨zmr,⟨z87,⟨zpn,⟨zlx,⟨znr,⟨zkx,⟨zms,trivial⟩⟩⟩⟩⟩⟩⟩⟩,fun _=>rfl⟩ z8g (fun a b=>a) none (fun _ _=>rfl) rfl (fun _ _ h=>nomatch h) 1000000 (fn:=Tryz.f97) Tryz.func97 rfl (by kernel_rfl) (by kernel_rfl) rfl (by intro N a b; kernel_rfl)
def z57 (N:Nat) (x:zc):Option (Bool) :=
 ((z14 N [x.Slot]).bind fun r1 =>
 ((bif (!(!r1)) then z8p N x.Ballot else some default).bind fun r2 =>
 ((bif (!((!r1) || (!r2))) then z19 N x.Entry else some default).bind fun r3 =>
 (some (((!r1) || (!r2)) || (!(r3==0)))))))
def z9w:Con τ:={ args:=[.ty 155],L:=[],ret:=.ty 4,L':=[],R:=Bool,dflt:=default,F:=fun N a b=>z57 N a.1,of:=fun r=>(r,()) }
noncomputable def zn1:Dat τ:={ D:=D0,tbl:=tblOf [(95,z3r),(94,z98),(97,z8g)],lp:=lpsOf [],k0:=0,mu:=[],un:=[] }
theorem zns:ConOk E C 132 z9w :=
  zj (D:=zn1) ⟨d0Ok,eGood,z7 ⟨z87,⟨zic,⟨zge,trivial⟩⟩⟩,fun _=>rfl⟩ z9w (fun a b=>a) none (fun _ _=>rfl) rfl (fun _ _ h=>nomatch h) 1000000 (fn:=Tryz.f132) Tryz.func132 rfl (by kernel_rfl) (by kernel_rfl) rfl (by intro N a b; kernel_rfl)
structure z1t where
  t8:Int
def z3y:List Sl:=[.k,.k,.k,.k,.j,.j,.k,.k,.sh (.ty 2),.j,.j,.j,.j,.j,.j,.j,.j,.j,.j]
def z3z:List ESh:=[]
def zd9 (a:Sl.Ts τ z3y) (b:ESh.Ts τ z3z):z1t:=⟨a.2.2.2.2.2.2.2.2.1⟩
def zda (s:z1t):Sl.Ts τ z3y:=((),(),(),(),(),(),(),(),s.t8,(),(),(),(),(),(),(),(),(),(),())
def zdb (s:z1t):ESh.Ts τ z3z:=()
def zdc:Lp τ:={ ts:=z3y,hs:=z3z,S:=z1t,to:=zd9,ot:=zda,oh:=zdb,hk:=[],tk:=[],ot_to:=fun _ _=>rfl,oh_to:=fun _ _=>rfl }
def z39 (N:Nat) (s:List (zc)):Option (Int) :=
 (iter N (fun (s1:z1t) next2 =>
 (bif (decide (s1.t8 < ((s).length:Int))) then
 (bif (ibB s1.t8 ((s).length:Int)) then
 ((z57 N (⟨(lget s s1.t8 default).Slot,((lget s s1.t8 default).Ballot),(⟨((lget s s1.t8 default).Entry).Kind,((lget s s1.t8 default).Entry).Session,((lget s s1.t8 default).Entry).Request,(⟨((((lget s s1.t8 default).Entry).Op).Stamp),(((lget s s1.t8 default).Entry).Op).Kind,(((lget s s1.t8 default).Entry).Op).Node,(((lget s s1.t8 default).Entry).Op).Parent,(((lget s s1.t8 default).Entry).Op).Name,(((lget s s1.t8 default).Entry).Op).Key,(((lget s s1.t8 default).Entry).Op).Value⟩:GOp),((lget s s1.t8 default).Entry).Origin,((lget s s1.t8 default).Entry).Seq,((lget s s1.t8 default).Entry).Ops,(((lget s s1.t8 default).Entry).Epoch),((lget s s1.t8 default).Entry).From,((lget s s1.t8 default).Entry).Vector_,((lget s s1.t8 default).Entry).Clock,(((lget s s1.t8 default).Entry).Part),((lget s s1.t8 default).Entry).Site,((lget s s1.t8 default).Entry).Sponsor,((lget s s1.t8 default).Entry).Length⟩:z9)⟩:zc)).bind fun r3 =>
 (bif r3 then
 (some s1.t8)
 else
 (next2 ⟨(IntKind.i64.wrap (s1.t8+1))⟩)))
 else none)
 else
 (some (-1)))) ⟨0⟩)
def z4b:Con τ:={ args:=[.ty 26,.fn 132 []],L:=[],ret:=.ty 3,L':=[],R:=Int,dflt:=default,F:=fun N a b=>z39 N a.1,of:=fun r=>(r,()) }
noncomputable def zdw:Dat τ:={ D:=D0,tbl:=tblOf [(132,z9w)],lp:=lpsOf [(2,zdc)],k0:=0,mu:=[],un:=[] }
theorem ze8:ConOk E C 169 z4b :=
  zj (D:=zdw) ⟨d0Ok,eGood,z7 ⟨zns,trivial⟩,fun _=>rfl⟩ z4b (fun a b=>a) none (fun _ _=>rfl) rfl (fun _ _ h=>nomatch h) 1000000 (fn:=Tryz.f169) Tryz.func169 rfl (by kernel_rfl) (by kernel_rfl) rfl (by intro N a b; kernel_rfl)
def z2y (N:Nat) (s:List (zc)):Option (Bool) :=
 ((z39 N s).bind fun r1 =>
 (some (decide (0≤r1))))
def z3h:Con τ:={ args:=[.ty 26,.fn 132 []],L:=[],ret:=.ty 4,L':=[],R:=Bool,dflt:=default,F:=fun N a b=>z2y N a.1,of:=fun r=>(r,()) }
noncomputable def zcc:Dat τ:={ D:=D0,tbl:=tblOf [(169,z4b)],lp:=lpsOf [],k0:=0,mu:=[],un:=[] }
theorem zd0:ConOk E C 131 z3h :=
  zj (D:=zcc) ⟨d0Ok,eGood,z7 ⟨ze8,trivial⟩,fun _=>rfl⟩ z3h (fun a b=>a) none (fun _ _=>rfl) rfl (fun _ _ h=>nomatch h) 1000000 (fn:=Tryz.f131) Tryz.func131 rfl (by kernel_rfl) (by kernel_rfl) rfl (by intro N a b; kernel_rfl)
def z7b (N:Nat) (l:List (zc)) (least:Int) (most:Int):Option (Bool) :=
 ((bif ((decide (least≤((l).length:Int)))&&(decide (((l).length:Int)≤most))) then z2y N l else some default).bind fun r1 =>
 (some (((decide (least≤((l).length:Int)))&&(decide (((l).length:Int)≤most)))&&(!r1))))
def zb7:Con τ:={ args:=[.ty 26,.ty 3,.ty 3],L:=[],ret:=.ty 4,L':=[],R:=Bool,dflt:=default,F:=fun N a b=>z7b N a.1 a.2.1 a.2.2.1,of:=fun r=>(r,()) }
noncomputable def zp8:Dat τ:={ D:=D0,tbl:=tblOf [(131,z3h)],lp:=lpsOf [],k0:=0,mu:=[],un:=[] }
theorem zqn:ConOk E C 96 zb7 :=
  zj (D:=zp8) ⟨d0Ok,eGood,z7 ⟨zd0,trivial⟩,fun _=>rfl⟩ zb7 (fun a b=>a) none (fun _ _=>rfl) rfl (fun _ _ h=>nomatch h) 1000000 (fn:=Tryz.f96) Tryz.func96 rfl (by kernel_rfl) (by kernel_rfl) rfl (by intro N a b; kernel_rfl)
def z6h (N:Nat) (a:zc) (b:zc):Option (Bool) :=
 ((bif ((a.Slot==b.Slot)&&((a.Ballot.Round==b.Ballot.Round)&&(a.Ballot.Replica==b.Ballot.Replica))) then zk N a.Entry b.Entry else some default).bind fun r1 =>
 (some (((a.Slot==b.Slot)&&((a.Ballot.Round==b.Ballot.Round)&&(a.Ballot.Replica==b.Ballot.Replica)))&&r1)))
def zaj:Con τ:={ args:=[.ty 155,.ty 155],L:=[],ret:=.ty 4,L':=[],R:=Bool,dflt:=default,F:=fun N a b=>z6h N a.1 a.2.1,of:=fun r=>(r,()) }
noncomputable def znt:Dat τ:={ D:=D0,tbl:=tblOf [(133,z6e)],lp:=lpsOf [],k0:=0,mu:=[],un:=[] }
theorem zp9:ConOk E C 135 zaj :=
  zj (D:=znt) ⟨d0Ok,eGood,z7 ⟨zcx,trivial⟩,fun _=>rfl⟩ zaj (fun a b=>a) none (fun _ _=>rfl) rfl (fun _ _ h=>nomatch h) 1000000 (fn:=Tryz.f135) Tryz.func135 rfl (by kernel_rfl) (by kernel_rfl) rfl (by intro N a b; kernel_rfl)
structure z1u where
  t17:Int
def z40:List Sl:=[.k,.k,.k,.k,.k,.k,.j,.j,.j,.j,.k,.k,.k,.k,.k,.k,.k,.sh (.ty 2),.j,.j,.j,.j,.j,.j,.j,.j,.j,.j,.j,.j,.j,.j]
def z41:List ESh:=[]
def zdd (a:Sl.Ts τ z40) (b:ESh.Ts τ z41):z1u:=⟨a.2.2.2.2.2.2.2.2.2.2.2.2.2.2.2.2.2.1⟩
def zde (s:z1u):Sl.Ts τ z40:=((),(),(),(),(),(),(),(),(),(),(),(),(),(),(),(),(),s.t17,(),(),(),(),(),(),(),(),(),(),(),(),(),(),())
def zdf (s:z1u):ESh.Ts τ z41:=()
def zdg:Lp τ:={ ts:=z40,hs:=z41,S:=z1u,to:=zdd,ot:=zde,oh:=zdf,hk:=[],tk:=[],ot_to:=fun _ _=>rfl,oh_to:=fun _ _=>rfl }
def z3a (N:Nat) (s1_:List (zc)) (s2_:List (zc)):Option (Bool) :=
 (bif (!(((s1_).length:Int)==((s2_).length:Int))) then
 (some false)
 else
 (iter N (fun (s1:z1u) next2 =>
 (bif (decide (s1.t17 < ((s1_).length:Int))) then
 (bif (ibB s1.t17 ((s1_).length:Int)) then
 (bif (ibB s1.t17 ((s2_).length:Int)) then
 ((z6h N (⟨(lget s1_ s1.t17 default).Slot,((lget s1_ s1.t17 default).Ballot),(⟨((lget s1_ s1.t17 default).Entry).Kind,((lget s1_ s1.t17 default).Entry).Session,((lget s1_ s1.t17 default).Entry).Request,(⟨((((lget s1_ s1.t17 default).Entry).Op).Stamp),(((lget s1_ s1.t17 default).Entry).Op).Kind,(((lget s1_ s1.t17 default).Entry).Op).Node,(((lget s1_ s1.t17 default).Entry).Op).Parent,(((lget s1_ s1.t17 default).Entry).Op).Name,(((lget s1_ s1.t17 default).Entry).Op).Key,(((lget s1_ s1.t17 default).Entry).Op).Value⟩:GOp),((lget s1_ s1.t17 default).Entry).Origin,((lget s1_ s1.t17 default).Entry).Seq,((lget s1_ s1.t17 default).Entry).Ops,(((lget s1_ s1.t17 default).Entry).Epoch),((lget s1_ s1.t17 default).Entry).From,((lget s1_ s1.t17 default).Entry).Vector_,((lget s1_ s1.t17 default).Entry).Clock,(((lget s1_ s1.t17 default).Entry).Part),((lget s1_ s1.t17 default).Entry).Site,((lget s1_ s1.t17 default).Entry).Sponsor,((lget s1_ s1.t17 default).Entry).Length⟩:z9)⟩:zc) (⟨(lget s2_ s1.t17 default).Slot,((lget s2_ s1.t17 default).Ballot),(⟨((lget s2_ s1.t17 default).Entry).Kind,((lget s2_ s1.t17 default).Entry).Session,((lget s2_ s1.t17 default).Entry).Request,(⟨((((lget s2_ s1.t17 default).Entry).Op).Stamp),(((lget s2_ s1.t17 default).Entry).Op).Kind,(((lget s2_ s1.t17 default).Entry).Op).Node,(((lget s2_ s1.t17 default).Entry).Op).Parent,(((lget s2_ s1.t17 default).Entry).Op).Name,(((lget s2_ s1.t17 default).Entry).Op).Key,(((lget s2_ s1.t17 default).Entry).Op).Value⟩:GOp),((lget s2_ s1.t17 default).Entry).Origin,((lget s2_ s1.t17 default).Entry).Seq,((lget s2_ s1.t17 default).Entry).Ops,(((lget s2_ s1.t17 default).Entry).Epoch),((lget s2_ s1.t17 default).Entry).From,((lget s2_ s1.t17 default).Entry).Vector_,((lget s2_ s1.t17 default).Entry).Clock,(((lget s2_ s1.t17 default).Entry).Part),((lget s2_ s1.t17 default).Entry).Site,((lget s2_ s1.t17 default).Entry).Sponsor,((lget s2_ s1.t17 default).Entry).Length⟩:z9)⟩:zc)).bind fun r3 =>
 (bif (!r3) then
 (some false)
 else
 (next2 ⟨(IntKind.i64.wrap (s1.t17+1))⟩)))
 else none)
 else none)
 else
 (some true))) ⟨0⟩))
def z4c:Con τ:={ args:=[.ty 26,.ty 26,.fn 135 []],L:=[],ret:=.ty 4,L':=[],R:=Bool,dflt:=default,F:=fun N a b=>z3a N a.1 a.2.1,of:=fun r=>(r,()) }
noncomputable def zdx:Dat τ:={ D:=D0,tbl:=tblOf [(135,zaj)],lp:=lpsOf [(4,zdg)],k0:=0,mu:=[],un:=[] }
theorem ze9:ConOk E C 134 z4c :=
  zj (D:=zdx) ⟨d0Ok,eGood,z7 ⟨zp9,trivial⟩,fun _=>rfl⟩ z4c (fun a b=>a) none (fun _ _=>rfl) rfl (fun _ _ h=>nomatch h) 1000000 (fn:=Tryz.f134) Tryz.func134 rfl (by kernel_rfl) (by kernel_rfl) rfl (by intro N a b; kernel_rfl)
def zak (N:Nat) (a:GMsg) (b:GMsg):Option (Bool) :=
 ((bif (((((a.Kind==b.Kind)&&((a.From.Group==b.From.Group)&&(a.From.Replica==b.From.Replica)))&&((a.To.Group==b.To.Group)&&(a.To.Replica==b.To.Replica)))&&((a.Ballot.Round==b.Ballot.Round)&&(a.Ballot.Replica==b.Ballot.Replica)))&&(a.Slot==b.Slot)) then z3a N a.List_ b.List_ else some default).bind fun r1 =>
 ((bif ((((((a.Kind==b.Kind)&&((a.From.Group==b.From.Group)&&(a.From.Replica==b.From.Replica)))&&((a.To.Group==b.To.Group)&&(a.To.Replica==b.To.Replica)))&&((a.Ballot.Round==b.Ballot.Round)&&(a.Ballot.Replica==b.Ballot.Replica)))&&(a.Slot==b.Slot))&&r1) then zk N a.Entry b.Entry else some default).bind fun r2 =>
 ((bif (((((((((((a.Kind==b.Kind)&&((a.From.Group==b.From.Group)&&(a.From.Replica==b.From.Replica)))&&((a.To.Group==b.To.Group)&&(a.To.Replica==b.To.Replica)))&&((a.Ballot.Round==b.Ballot.Round)&&(a.Ballot.Replica==b.Ballot.Replica)))&&(a.Slot==b.Slot))&&r1)&&r2)&&(a.Number==b.Number))&&(vbeq beq2 a.Vector_ b.Vector_))&&(a.Clock==b.Clock))&&(a.Origin==b.Origin)) then z9l N a.Ops b.Ops else some default).bind fun r3 =>
 ((bif (((((((((((((a.Kind==b.Kind)&&((a.From.Group==b.From.Group)&&(a.From.Replica==b.From.Replica)))&&((a.To.Group==b.To.Group)&&(a.To.Replica==b.To.Replica)))&&((a.Ballot.Round==b.Ballot.Round)&&(a.Ballot.Replica==b.Ballot.Replica)))&&(a.Slot==b.Slot))&&r1)&&r2)&&(a.Number==b.Number))&&(vbeq beq2 a.Vector_ b.Vector_))&&(a.Clock==b.Clock))&&(a.Origin==b.Origin))&&r3)&&((a.Epoch.Number==b.Epoch.Number)&&((vbeq beq3 a.Epoch.States b.Epoch.States)&&((vbeq beq2 a.Epoch.Seals b.Epoch.Seals)&&(vbeq beq3 a.Epoch.Sponsor b.Epoch.Sponsor))))) then z9m N a.Part b.Part else some default).bind fun r4 =>
 (some ((((((((((((((a.Kind==b.Kind)&&((a.From.Group==b.From.Group)&&(a.From.Replica==b.From.Replica)))&&((a.To.Group==b.To.Group)&&(a.To.Replica==b.To.Replica)))&&((a.Ballot.Round==b.Ballot.Round)&&(a.Ballot.Replica==b.Ballot.Replica)))&&(a.Slot==b.Slot))&&r1)&&r2)&&(a.Number==b.Number))&&(vbeq beq2 a.Vector_ b.Vector_))&&(a.Clock==b.Clock))&&(a.Origin==b.Origin))&&r3)&&((a.Epoch.Number==b.Epoch.Number)&&((vbeq beq3 a.Epoch.States b.Epoch.States)&&((vbeq beq2 a.Epoch.Seals b.Epoch.Seals)&&(vbeq beq3 a.Epoch.Sponsor b.Epoch.Sponsor)))))&&r4))))))
def zdy:Con τ:={ args:=[.ty 43,.ty 43],L:=[],ret:=.ty 4,L':=[],R:=Bool,dflt:=default,F:=fun N a b=>zak N a.1 a.2.1,of:=fun r=>(r,()) }
noncomputable def zt6:Dat τ:={ D:=D0,tbl:=tblOf [(134,z4c),(133,z6e),(136,za3),(137,za4)],lp:=lpsOf [],k0:=0,mu:=[],un:=[] }
theorem zuq:ConOk E C 99 zdy :=
  zj (D:=zt6) ⟨d0Ok,eGood,z7 ⟨ze9,⟨zcx,⟨zkv,⟨zkw,trivial⟩⟩⟩⟩,fun _=>rfl⟩ zdy (fun a b=>a) none (fun _ _=>rfl) rfl (fun _ _ h=>nomatch h) 1000000 (fn:=Tryz.f99) Tryz.func99 rfl (by kernel_rfl) (by kernel_rfl) rfl (by intro N a b; kernel_rfl)
structure z6 where
  ok:Bool
  b0:GMsg
  b1:GMsg
def zc0:List Sl:=[.k,.sh (.ptr 0 []),.j,.sh (.ptr 1 []),.sh (.ty 4),.j,.j,.j,.j,.j,.j,.j,.j,.j,.j,.j,.j,.j,.j,.j,.j,.j,.j,.j,.j,.j,.j,.j,.j,.j,.j,.j,.j,.j,.j,.j,.j,.j,.j,.j,.j,.j,.j,.j,.j,.j,.j,.j,.j,.j,.j,.j,.j,.j,.j,.j,.j,.j,.j,.j,.j,.j,.j,.j,.j,.j,.j,.j,.j,.j,.j,.j,.j,.j,.j,.j,.j,.j,.j,.j,.j,.j,.j,.j,.j,.j,.j,.j,.j,.j,.j,.j,.j,.j,.j,.j,.j,.j,.j,.j,.j,.j,.j,.j,.j,.j,.j,.j,.j,.j,.j,.j,.j,.j,.j,.j,.j,.j,.j,.j,.j,.j,.j,.j,.j,.j,.j,.j,.j,.j,.j,.j,.j,.j,.j,.j,.j,.j,.j,.j,.j,.j,.j,.j,.j,.j,.j,.j,.j,.j,.j,.j,.j,.j,.j,.j,.j,.j,.j,.j,.j,.j,.j,.j,.k,.k,.k,.k,.k,.k,.k,.k,.k,.k,.k,.k,.k,.k,.k,.k,.k,.k,.k,.k,.k,.k,.k,.k,.k,.k,.k,.k,.k,.k,.k,.k,.k,.k,.k,.k,.k,.k,.k]
def zc1:List ESh:=[.box (.ty 42),.box (.ty 42)]
def zqo (a:Sl.Ts τ zc0) (b:ESh.Ts τ zc1):z6:=⟨a.2.2.2.2.1,b.1,b.2.1⟩
def zqp (s:z6):Sl.Ts τ zc0:=((),(),(),(),s.ok,(),(),(),(),(),(),(),(),(),(),(),(),(),(),(),(),(),(),(),(),(),(),(),(),(),(),(),(),(),(),(),(),(),(),(),(),(),(),(),(),(),(),(),(),(),(),(),(),(),(),(),(),(),(),(),(),(),(),(),(),(),(),(),(),(),(),(),(),(),(),(),(),(),(),(),(),(),(),(),(),(),(),(),(),(),(),(),(),(),(),(),(),(),(),(),(),(),(),(),(),(),(),(),(),(),(),(),(),(),(),(),(),(),(),(),(),(),(),(),(),(),(),(),(),(),(),(),(),(),(),(),(),(),(),(),(),(),(),(),(),(),(),(),(),(),(),(),(),(),(),(),(),(),(),(),(),(),(),(),(),(),(),(),(),(),(),(),(),(),(),(),(),(),(),(),(),(),(),(),(),(),(),(),(),(),(),(),(),(),(),(),(),(),(),(),(),(),(),())
def zqq (s:z6):ESh.Ts τ zc1:=(s.b0,s.b1,())
def zqr:Lp τ:={ ts:=zc0,hs:=zc1,S:=z6,to:=zqo,ot:=zqp,oh:=zqq,hk:=[],tk:=[],ot_to:=fun _ _=>rfl,oh_to:=fun _ _=>rfl }
def z11 (N:Nat) (m:GMsg):Option (z6 ⊕ (Int)) :=
 ((z1d N [m.From,m.To]).bind fun r1 =>
 (bif (m.Kind==1) then
 (bif (m.Kind==1) then
 (some (.inl (⟨r1,m,(⟨m.Kind,m.From,m.To,m.Ballot,m.Slot,[],(⟨0,0,0,(⟨(⟨0,0⟩:z1a),0,0,0,[],[],[]⟩:GOp),0,0,[],(⟨0,(Vector.replicate 8 (default:Int)),(Vector.replicate 8 (default:Int)),(Vector.replicate 8 (default:Int))⟩:za),0,(Vector.replicate 8 (default:Int)),0,(⟨0,0,0,[]⟩:GPart),0,0,0⟩:z9),0,(Vector.replicate 8 (default:Int)),0,0,[],(⟨0,(Vector.replicate 8 (default:Int)),(Vector.replicate 8 (default:Int)),(Vector.replicate 8 (default:Int))⟩:za),(⟨0,0,0,[]⟩:GPart)⟩:GMsg)⟩:z6)))
 else
 (bif (m.Kind==2) then
 (some (.inl (⟨r1,m,(⟨m.Kind,m.From,m.To,m.Ballot,m.Slot,m.List_,(⟨0,0,0,(⟨(⟨0,0⟩:z1a),0,0,0,[],[],[]⟩:GOp),0,0,[],(⟨0,(Vector.replicate 8 (default:Int)),(Vector.replicate 8 (default:Int)),(Vector.replicate 8 (default:Int))⟩:za),0,(Vector.replicate 8 (default:Int)),0,(⟨0,0,0,[]⟩:GPart),0,0,0⟩:z9),0,(Vector.replicate 8 (default:Int)),0,0,[],(⟨0,(Vector.replicate 8 (default:Int)),(Vector.replicate 8 (default:Int)),(Vector.replicate 8 (default:Int))⟩:za),(⟨0,0,0,[]⟩:GPart)⟩:GMsg)⟩:z6)))
 else
 (bif (m.Kind==3) then
 (some (.inl (⟨(r1&&(((m.List_).length:Int)==1)),m,(⟨m.Kind,m.From,m.To,m.Ballot,0,m.List_,(⟨0,0,0,(⟨(⟨0,0⟩:z1a),0,0,0,[],[],[]⟩:GOp),0,0,[],(⟨0,(Vector.replicate 8 (default:Int)),(Vector.replicate 8 (default:Int)),(Vector.replicate 8 (default:Int))⟩:za),0,(Vector.replicate 8 (default:Int)),0,(⟨0,0,0,[]⟩:GPart),0,0,0⟩:z9),0,(Vector.replicate 8 (default:Int)),0,0,[],(⟨0,(Vector.replicate 8 (default:Int)),(Vector.replicate 8 (default:Int)),(Vector.replicate 8 (default:Int))⟩:za),(⟨0,0,0,[]⟩:GPart)⟩:GMsg)⟩:z6)))
 else
 (bif (m.Kind==5) then
 (some (.inl (⟨r1,m,(⟨m.Kind,m.From,m.To,m.Ballot,0,[],(⟨0,0,0,(⟨(⟨0,0⟩:z1a),0,0,0,[],[],[]⟩:GOp),0,0,[],(⟨0,(Vector.replicate 8 (default:Int)),(Vector.replicate 8 (default:Int)),(Vector.replicate 8 (default:Int))⟩:za),0,(Vector.replicate 8 (default:Int)),0,(⟨0,0,0,[]⟩:GPart),0,0,0⟩:z9),0,(Vector.replicate 8 (default:Int)),0,0,[],(⟨0,(Vector.replicate 8 (default:Int)),(Vector.replicate 8 (default:Int)),(Vector.replicate 8 (default:Int))⟩:za),(⟨0,0,0,[]⟩:GPart)⟩:GMsg)⟩:z6)))
 else
 (bif (m.Kind==6) then
 (some (.inl (⟨(r1&&(decide (1≤((m.List_).length:Int)))),m,(⟨m.Kind,m.From,m.To,(⟨0,0⟩:zu),0,m.List_,(⟨0,0,0,(⟨(⟨0,0⟩:z1a),0,0,0,[],[],[]⟩:GOp),0,0,[],(⟨0,(Vector.replicate 8 (default:Int)),(Vector.replicate 8 (default:Int)),(Vector.replicate 8 (default:Int))⟩:za),0,(Vector.replicate 8 (default:Int)),0,(⟨0,0,0,[]⟩:GPart),0,0,0⟩:z9),0,(Vector.replicate 8 (default:Int)),0,0,[],(⟨0,(Vector.replicate 8 (default:Int)),(Vector.replicate 8 (default:Int)),(Vector.replicate 8 (default:Int))⟩:za),(⟨0,0,0,[]⟩:GPart)⟩:GMsg)⟩:z6)))
 else
 (bif (m.Kind==8) then
 (some (.inl (⟨r1,m,(⟨m.Kind,m.From,m.To,(⟨0,0⟩:zu),m.Slot,[],(⟨0,0,0,(⟨(⟨0,0⟩:z1a),0,0,0,[],[],[]⟩:GOp),0,0,[],(⟨0,(Vector.replicate 8 (default:Int)),(Vector.replicate 8 (default:Int)),(Vector.replicate 8 (default:Int))⟩:za),0,(Vector.replicate 8 (default:Int)),0,(⟨0,0,0,[]⟩:GPart),0,0,0⟩:z9),0,(Vector.replicate 8 (default:Int)),0,0,[],(⟨0,(Vector.replicate 8 (default:Int)),(Vector.replicate 8 (default:Int)),(Vector.replicate 8 (default:Int))⟩:za),(⟨0,0,0,[]⟩:GPart)⟩:GMsg)⟩:z6)))
 else
 (bif (m.Kind==9) then
 (some (.inl (⟨r1,m,(⟨m.Kind,m.From,m.To,(⟨0,0⟩:zu),0,[],m.Entry,0,(Vector.replicate 8 (default:Int)),0,0,[],(⟨0,(Vector.replicate 8 (default:Int)),(Vector.replicate 8 (default:Int)),(Vector.replicate 8 (default:Int))⟩:za),(⟨0,0,0,[]⟩:GPart)⟩:GMsg)⟩:z6)))
 else
 (bif (m.Kind==10) then
 (some (.inl (⟨r1,m,(⟨m.Kind,m.From,m.To,(⟨0,0⟩:zu),0,[],(⟨0,0,0,(⟨(⟨0,0⟩:z1a),0,0,0,[],[],[]⟩:GOp),0,0,[],(⟨0,(Vector.replicate 8 (default:Int)),(Vector.replicate 8 (default:Int)),(Vector.replicate 8 (default:Int))⟩:za),0,(Vector.replicate 8 (default:Int)),0,(⟨0,0,0,[]⟩:GPart),0,0,0⟩:z9),m.Number,m.Vector_,m.Clock,0,[],(⟨0,(Vector.replicate 8 (default:Int)),(Vector.replicate 8 (default:Int)),(Vector.replicate 8 (default:Int))⟩:za),(⟨0,0,0,[]⟩:GPart)⟩:GMsg)⟩:z6)))
 else
 (bif (m.Kind==11) then
 ((bif r1 then z1w N [m.Origin] else some default).bind fun r2 =>
 ((bif (r1&&r2) then z4j N m.Ops 1 else some default).bind fun r3 =>
 (some (.inl (⟨((r1&&r2)&&r3),m,(⟨m.Kind,m.From,m.To,(⟨0,0⟩:zu),m.Slot,[],(⟨0,0,0,(⟨(⟨0,0⟩:z1a),0,0,0,[],[],[]⟩:GOp),0,0,[],(⟨0,(Vector.replicate 8 (default:Int)),(Vector.replicate 8 (default:Int)),(Vector.replicate 8 (default:Int))⟩:za),0,(Vector.replicate 8 (default:Int)),0,(⟨0,0,0,[]⟩:GPart),0,0,0⟩:z9),m.Number,(Vector.replicate 8 (default:Int)),0,m.Origin,m.Ops,(⟨0,(Vector.replicate 8 (default:Int)),(Vector.replicate 8 (default:Int)),(Vector.replicate 8 (default:Int))⟩:za),(⟨0,0,0,[]⟩:GPart)⟩:GMsg)⟩:z6)))))
 else
 (bif (m.Kind==12) then
 ((bif r1 then z38 N m.Epoch else some default).bind fun r4 =>
 (some (.inl (⟨(r1&&r4),m,(⟨m.Kind,m.From,m.To,(⟨0,0⟩:zu),0,[],(⟨0,0,0,(⟨(⟨0,0⟩:z1a),0,0,0,[],[],[]⟩:GOp),0,0,[],(⟨0,(Vector.replicate 8 (default:Int)),(Vector.replicate 8 (default:Int)),(Vector.replicate 8 (default:Int))⟩:za),0,(Vector.replicate 8 (default:Int)),0,(⟨0,0,0,[]⟩:GPart),0,0,0⟩:z9),0,(Vector.replicate 8 (default:Int)),0,0,[],m.Epoch,(⟨0,0,0,[]⟩:GPart)⟩:GMsg)⟩:z6))))
 else
 (bif (m.Kind==13) then
 ((bif r1 then z25 N m.Part else some default).bind fun r5 =>
 (some (.inl (⟨(r1&&r5),m,(⟨m.Kind,m.From,m.To,(⟨0,0⟩:zu),0,[],(⟨0,0,0,(⟨(⟨0,0⟩:z1a),0,0,0,[],[],[]⟩:GOp),0,0,[],(⟨0,(Vector.replicate 8 (default:Int)),(Vector.replicate 8 (default:Int)),(Vector.replicate 8 (default:Int))⟩:za),0,(Vector.replicate 8 (default:Int)),0,(⟨0,0,0,[]⟩:GPart),0,0,0⟩:z9),0,(Vector.replicate 8 (default:Int)),0,0,[],(⟨0,(Vector.replicate 8 (default:Int)),(Vector.replicate 8 (default:Int)),(Vector.replicate 8 (default:Int))⟩:za),m.Part⟩:GMsg)⟩:z6))))
 else
 (bif (m.Kind==14) then
 (some (.inl (⟨r1,m,(⟨m.Kind,m.From,m.To,(⟨0,0⟩:zu),0,[],(⟨0,0,0,(⟨(⟨0,0⟩:z1a),0,0,0,[],[],[]⟩:GOp),0,0,[],(⟨0,(Vector.replicate 8 (default:Int)),(Vector.replicate 8 (default:Int)),(Vector.replicate 8 (default:Int))⟩:za),0,(Vector.replicate 8 (default:Int)),0,(⟨0,0,0,[]⟩:GPart),0,0,0⟩:z9),m.Number,m.Vector_,0,0,[],(⟨0,(Vector.replicate 8 (default:Int)),(Vector.replicate 8 (default:Int)),(Vector.replicate 8 (default:Int))⟩:za),(⟨0,0,0,[]⟩:GPart)⟩:GMsg)⟩:z6)))
 else
 (bif (m.Kind==15) then
 ((bif r1 then z25 N m.Part else some default).bind fun r6 =>
 (some (.inl (⟨(r1&&r6),m,(⟨m.Kind,m.From,m.To,(⟨0,0⟩:zu),m.Slot,[],(⟨0,0,0,(⟨(⟨0,0⟩:z1a),0,0,0,[],[],[]⟩:GOp),0,0,[],(⟨0,(Vector.replicate 8 (default:Int)),(Vector.replicate 8 (default:Int)),(Vector.replicate 8 (default:Int))⟩:za),0,(Vector.replicate 8 (default:Int)),0,(⟨0,0,0,[]⟩:GPart),0,0,0⟩:z9),0,(Vector.replicate 8 (default:Int)),0,0,[],(⟨0,(Vector.replicate 8 (default:Int)),(Vector.replicate 8 (default:Int)),(Vector.replicate 8 (default:Int))⟩:za),m.Part⟩:GMsg)⟩:z6))))
 else
 (some (.inl (⟨false,m,(⟨m.Kind,m.From,m.To,(⟨0,0⟩:zu),0,[],(⟨0,0,0,(⟨(⟨0,0⟩:z1a),0,0,0,[],[],[]⟩:GOp),0,0,[],(⟨0,(Vector.replicate 8 (default:Int)),(Vector.replicate 8 (default:Int)),(Vector.replicate 8 (default:Int))⟩:za),0,(Vector.replicate 8 (default:Int)),0,(⟨0,0,0,[]⟩:GPart),0,0,0⟩:z9),0,(Vector.replicate 8 (default:Int)),0,0,[],(⟨0,(Vector.replicate 8 (default:Int)),(Vector.replicate 8 (default:Int)),(Vector.replicate 8 (default:Int))⟩:za),(⟨0,0,0,[]⟩:GPart)⟩:GMsg)⟩:z6))))))))))))))))
 else
 (bif (m.Kind==4) then
 (bif (m.Kind==4) then
 (some (.inl (⟨r1,m,(⟨m.Kind,m.From,m.To,m.Ballot,m.Slot,[],(⟨0,0,0,(⟨(⟨0,0⟩:z1a),0,0,0,[],[],[]⟩:GOp),0,0,[],(⟨0,(Vector.replicate 8 (default:Int)),(Vector.replicate 8 (default:Int)),(Vector.replicate 8 (default:Int))⟩:za),0,(Vector.replicate 8 (default:Int)),0,(⟨0,0,0,[]⟩:GPart),0,0,0⟩:z9),0,(Vector.replicate 8 (default:Int)),0,0,[],(⟨0,(Vector.replicate 8 (default:Int)),(Vector.replicate 8 (default:Int)),(Vector.replicate 8 (default:Int))⟩:za),(⟨0,0,0,[]⟩:GPart)⟩:GMsg)⟩:z6)))
 else
 (bif (m.Kind==2) then
 (some (.inl (⟨r1,m,(⟨m.Kind,m.From,m.To,m.Ballot,m.Slot,m.List_,(⟨0,0,0,(⟨(⟨0,0⟩:z1a),0,0,0,[],[],[]⟩:GOp),0,0,[],(⟨0,(Vector.replicate 8 (default:Int)),(Vector.replicate 8 (default:Int)),(Vector.replicate 8 (default:Int))⟩:za),0,(Vector.replicate 8 (default:Int)),0,(⟨0,0,0,[]⟩:GPart),0,0,0⟩:z9),0,(Vector.replicate 8 (default:Int)),0,0,[],(⟨0,(Vector.replicate 8 (default:Int)),(Vector.replicate 8 (default:Int)),(Vector.replicate 8 (default:Int))⟩:za),(⟨0,0,0,[]⟩:GPart)⟩:GMsg)⟩:z6)))
 else
 (bif (m.Kind==3) then
 (some (.inl (⟨(r1&&(((m.List_).length:Int)==1)),m,(⟨m.Kind,m.From,m.To,m.Ballot,0,m.List_,(⟨0,0,0,(⟨(⟨0,0⟩:z1a),0,0,0,[],[],[]⟩:GOp),0,0,[],(⟨0,(Vector.replicate 8 (default:Int)),(Vector.replicate 8 (default:Int)),(Vector.replicate 8 (default:Int))⟩:za),0,(Vector.replicate 8 (default:Int)),0,(⟨0,0,0,[]⟩:GPart),0,0,0⟩:z9),0,(Vector.replicate 8 (default:Int)),0,0,[],(⟨0,(Vector.replicate 8 (default:Int)),(Vector.replicate 8 (default:Int)),(Vector.replicate 8 (default:Int))⟩:za),(⟨0,0,0,[]⟩:GPart)⟩:GMsg)⟩:z6)))
 else
 (bif (m.Kind==5) then
 (some (.inl (⟨r1,m,(⟨m.Kind,m.From,m.To,m.Ballot,0,[],(⟨0,0,0,(⟨(⟨0,0⟩:z1a),0,0,0,[],[],[]⟩:GOp),0,0,[],(⟨0,(Vector.replicate 8 (default:Int)),(Vector.replicate 8 (default:Int)),(Vector.replicate 8 (default:Int))⟩:za),0,(Vector.replicate 8 (default:Int)),0,(⟨0,0,0,[]⟩:GPart),0,0,0⟩:z9),0,(Vector.replicate 8 (default:Int)),0,0,[],(⟨0,(Vector.replicate 8 (default:Int)),(Vector.replicate 8 (default:Int)),(Vector.replicate 8 (default:Int))⟩:za),(⟨0,0,0,[]⟩:GPart)⟩:GMsg)⟩:z6)))
 else
 (bif (m.Kind==6) then
 (some (.inl (⟨(r1&&(decide (1≤((m.List_).length:Int)))),m,(⟨m.Kind,m.From,m.To,(⟨0,0⟩:zu),0,m.List_,(⟨0,0,0,(⟨(⟨0,0⟩:z1a),0,0,0,[],[],[]⟩:GOp),0,0,[],(⟨0,(Vector.replicate 8 (default:Int)),(Vector.replicate 8 (default:Int)),(Vector.replicate 8 (default:Int))⟩:za),0,(Vector.replicate 8 (default:Int)),0,(⟨0,0,0,[]⟩:GPart),0,0,0⟩:z9),0,(Vector.replicate 8 (default:Int)),0,0,[],(⟨0,(Vector.replicate 8 (default:Int)),(Vector.replicate 8 (default:Int)),(Vector.replicate 8 (default:Int))⟩:za),(⟨0,0,0,[]⟩:GPart)⟩:GMsg)⟩:z6)))
 else
 (bif (m.Kind==8) then
 (some (.inl (⟨r1,m,(⟨m.Kind,m.From,m.To,(⟨0,0⟩:zu),m.Slot,[],(⟨0,0,0,(⟨(⟨0,0⟩:z1a),0,0,0,[],[],[]⟩:GOp),0,0,[],(⟨0,(Vector.replicate 8 (default:Int)),(Vector.replicate 8 (default:Int)),(Vector.replicate 8 (default:Int))⟩:za),0,(Vector.replicate 8 (default:Int)),0,(⟨0,0,0,[]⟩:GPart),0,0,0⟩:z9),0,(Vector.replicate 8 (default:Int)),0,0,[],(⟨0,(Vector.replicate 8 (default:Int)),(Vector.replicate 8 (default:Int)),(Vector.replicate 8 (default:Int))⟩:za),(⟨0,0,0,[]⟩:GPart)⟩:GMsg)⟩:z6)))
 else
 (bif (m.Kind==9) then
 (some (.inl (⟨r1,m,(⟨m.Kind,m.From,m.To,(⟨0,0⟩:zu),0,[],m.Entry,0,(Vector.replicate 8 (default:Int)),0,0,[],(⟨0,(Vector.replicate 8 (default:Int)),(Vector.replicate 8 (default:Int)),(Vector.replicate 8 (default:Int))⟩:za),(⟨0,0,0,[]⟩:GPart)⟩:GMsg)⟩:z6)))
 else
 (bif (m.Kind==10) then
 (some (.inl (⟨r1,m,(⟨m.Kind,m.From,m.To,(⟨0,0⟩:zu),0,[],(⟨0,0,0,(⟨(⟨0,0⟩:z1a),0,0,0,[],[],[]⟩:GOp),0,0,[],(⟨0,(Vector.replicate 8 (default:Int)),(Vector.replicate 8 (default:Int)),(Vector.replicate 8 (default:Int))⟩:za),0,(Vector.replicate 8 (default:Int)),0,(⟨0,0,0,[]⟩:GPart),0,0,0⟩:z9),m.Number,m.Vector_,m.Clock,0,[],(⟨0,(Vector.replicate 8 (default:Int)),(Vector.replicate 8 (default:Int)),(Vector.replicate 8 (default:Int))⟩:za),(⟨0,0,0,[]⟩:GPart)⟩:GMsg)⟩:z6)))
 else
 (bif (m.Kind==11) then
 ((bif r1 then z1w N [m.Origin] else some default).bind fun r7 =>
 ((bif (r1&&r7) then z4j N m.Ops 1 else some default).bind fun r8 =>
 (some (.inl (⟨((r1&&r7)&&r8),m,(⟨m.Kind,m.From,m.To,(⟨0,0⟩:zu),m.Slot,[],(⟨0,0,0,(⟨(⟨0,0⟩:z1a),0,0,0,[],[],[]⟩:GOp),0,0,[],(⟨0,(Vector.replicate 8 (default:Int)),(Vector.replicate 8 (default:Int)),(Vector.replicate 8 (default:Int))⟩:za),0,(Vector.replicate 8 (default:Int)),0,(⟨0,0,0,[]⟩:GPart),0,0,0⟩:z9),m.Number,(Vector.replicate 8 (default:Int)),0,m.Origin,m.Ops,(⟨0,(Vector.replicate 8 (default:Int)),(Vector.replicate 8 (default:Int)),(Vector.replicate 8 (default:Int))⟩:za),(⟨0,0,0,[]⟩:GPart)⟩:GMsg)⟩:z6)))))
 else
 (bif (m.Kind==12) then
 ((bif r1 then z38 N m.Epoch else some default).bind fun r9 =>
 (some (.inl (⟨(r1&&r9),m,(⟨m.Kind,m.From,m.To,(⟨0,0⟩:zu),0,[],(⟨0,0,0,(⟨(⟨0,0⟩:z1a),0,0,0,[],[],[]⟩:GOp),0,0,[],(⟨0,(Vector.replicate 8 (default:Int)),(Vector.replicate 8 (default:Int)),(Vector.replicate 8 (default:Int))⟩:za),0,(Vector.replicate 8 (default:Int)),0,(⟨0,0,0,[]⟩:GPart),0,0,0⟩:z9),0,(Vector.replicate 8 (default:Int)),0,0,[],m.Epoch,(⟨0,0,0,[]⟩:GPart)⟩:GMsg)⟩:z6))))
 else
 (bif (m.Kind==13) then
 ((bif r1 then z25 N m.Part else some default).bind fun r10 =>
 (some (.inl (⟨(r1&&r10),m,(⟨m.Kind,m.From,m.To,(⟨0,0⟩:zu),0,[],(⟨0,0,0,(⟨(⟨0,0⟩:z1a),0,0,0,[],[],[]⟩:GOp),0,0,[],(⟨0,(Vector.replicate 8 (default:Int)),(Vector.replicate 8 (default:Int)),(Vector.replicate 8 (default:Int))⟩:za),0,(Vector.replicate 8 (default:Int)),0,(⟨0,0,0,[]⟩:GPart),0,0,0⟩:z9),0,(Vector.replicate 8 (default:Int)),0,0,[],(⟨0,(Vector.replicate 8 (default:Int)),(Vector.replicate 8 (default:Int)),(Vector.replicate 8 (default:Int))⟩:za),m.Part⟩:GMsg)⟩:z6))))
 else
 (bif (m.Kind==14) then
 (some (.inl (⟨r1,m,(⟨m.Kind,m.From,m.To,(⟨0,0⟩:zu),0,[],(⟨0,0,0,(⟨(⟨0,0⟩:z1a),0,0,0,[],[],[]⟩:GOp),0,0,[],(⟨0,(Vector.replicate 8 (default:Int)),(Vector.replicate 8 (default:Int)),(Vector.replicate 8 (default:Int))⟩:za),0,(Vector.replicate 8 (default:Int)),0,(⟨0,0,0,[]⟩:GPart),0,0,0⟩:z9),m.Number,m.Vector_,0,0,[],(⟨0,(Vector.replicate 8 (default:Int)),(Vector.replicate 8 (default:Int)),(Vector.replicate 8 (default:Int))⟩:za),(⟨0,0,0,[]⟩:GPart)⟩:GMsg)⟩:z6)))
 else
 (bif (m.Kind==15) then
 ((bif r1 then z25 N m.Part else some default).bind fun r11 =>
 (some (.inl (⟨(r1&&r11),m,(⟨m.Kind,m.From,m.To,(⟨0,0⟩:zu),m.Slot,[],(⟨0,0,0,(⟨(⟨0,0⟩:z1a),0,0,0,[],[],[]⟩:GOp),0,0,[],(⟨0,(Vector.replicate 8 (default:Int)),(Vector.replicate 8 (default:Int)),(Vector.replicate 8 (default:Int))⟩:za),0,(Vector.replicate 8 (default:Int)),0,(⟨0,0,0,[]⟩:GPart),0,0,0⟩:z9),0,(Vector.replicate 8 (default:Int)),0,0,[],(⟨0,(Vector.replicate 8 (default:Int)),(Vector.replicate 8 (default:Int)),(Vector.replicate 8 (default:Int))⟩:za),m.Part⟩:GMsg)⟩:z6))))
 else
 (some (.inl (⟨false,m,(⟨m.Kind,m.From,m.To,(⟨0,0⟩:zu),0,[],(⟨0,0,0,(⟨(⟨0,0⟩:z1a),0,0,0,[],[],[]⟩:GOp),0,0,[],(⟨0,(Vector.replicate 8 (default:Int)),(Vector.replicate 8 (default:Int)),(Vector.replicate 8 (default:Int))⟩:za),0,(Vector.replicate 8 (default:Int)),0,(⟨0,0,0,[]⟩:GPart),0,0,0⟩:z9),0,(Vector.replicate 8 (default:Int)),0,0,[],(⟨0,(Vector.replicate 8 (default:Int)),(Vector.replicate 8 (default:Int)),(Vector.replicate 8 (default:Int))⟩:za),(⟨0,0,0,[]⟩:GPart)⟩:GMsg)⟩:z6))))))))))))))))
 else
 (bif (m.Kind==7) then
 (some (.inl (⟨r1,m,(⟨m.Kind,m.From,m.To,m.Ballot,m.Slot,[],(⟨0,0,0,(⟨(⟨0,0⟩:z1a),0,0,0,[],[],[]⟩:GOp),0,0,[],(⟨0,(Vector.replicate 8 (default:Int)),(Vector.replicate 8 (default:Int)),(Vector.replicate 8 (default:Int))⟩:za),0,(Vector.replicate 8 (default:Int)),0,(⟨0,0,0,[]⟩:GPart),0,0,0⟩:z9),0,(Vector.replicate 8 (default:Int)),0,0,[],(⟨0,(Vector.replicate 8 (default:Int)),(Vector.replicate 8 (default:Int)),(Vector.replicate 8 (default:Int))⟩:za),(⟨0,0,0,[]⟩:GPart)⟩:GMsg)⟩:z6)))
 else
 (bif (m.Kind==2) then
 (some (.inl (⟨r1,m,(⟨m.Kind,m.From,m.To,m.Ballot,m.Slot,m.List_,(⟨0,0,0,(⟨(⟨0,0⟩:z1a),0,0,0,[],[],[]⟩:GOp),0,0,[],(⟨0,(Vector.replicate 8 (default:Int)),(Vector.replicate 8 (default:Int)),(Vector.replicate 8 (default:Int))⟩:za),0,(Vector.replicate 8 (default:Int)),0,(⟨0,0,0,[]⟩:GPart),0,0,0⟩:z9),0,(Vector.replicate 8 (default:Int)),0,0,[],(⟨0,(Vector.replicate 8 (default:Int)),(Vector.replicate 8 (default:Int)),(Vector.replicate 8 (default:Int))⟩:za),(⟨0,0,0,[]⟩:GPart)⟩:GMsg)⟩:z6)))
 else
 (bif (m.Kind==3) then
 (some (.inl (⟨(r1&&(((m.List_).length:Int)==1)),m,(⟨m.Kind,m.From,m.To,m.Ballot,0,m.List_,(⟨0,0,0,(⟨(⟨0,0⟩:z1a),0,0,0,[],[],[]⟩:GOp),0,0,[],(⟨0,(Vector.replicate 8 (default:Int)),(Vector.replicate 8 (default:Int)),(Vector.replicate 8 (default:Int))⟩:za),0,(Vector.replicate 8 (default:Int)),0,(⟨0,0,0,[]⟩:GPart),0,0,0⟩:z9),0,(Vector.replicate 8 (default:Int)),0,0,[],(⟨0,(Vector.replicate 8 (default:Int)),(Vector.replicate 8 (default:Int)),(Vector.replicate 8 (default:Int))⟩:za),(⟨0,0,0,[]⟩:GPart)⟩:GMsg)⟩:z6)))
 else
 (bif (m.Kind==5) then
 (some (.inl (⟨r1,m,(⟨m.Kind,m.From,m.To,m.Ballot,0,[],(⟨0,0,0,(⟨(⟨0,0⟩:z1a),0,0,0,[],[],[]⟩:GOp),0,0,[],(⟨0,(Vector.replicate 8 (default:Int)),(Vector.replicate 8 (default:Int)),(Vector.replicate 8 (default:Int))⟩:za),0,(Vector.replicate 8 (default:Int)),0,(⟨0,0,0,[]⟩:GPart),0,0,0⟩:z9),0,(Vector.replicate 8 (default:Int)),0,0,[],(⟨0,(Vector.replicate 8 (default:Int)),(Vector.replicate 8 (default:Int)),(Vector.replicate 8 (default:Int))⟩:za),(⟨0,0,0,[]⟩:GPart)⟩:GMsg)⟩:z6)))
 else
 (bif (m.Kind==6) then
 (some (.inl (⟨(r1&&(decide (1≤((m.List_).length:Int)))),m,(⟨m.Kind,m.From,m.To,(⟨0,0⟩:zu),0,m.List_,(⟨0,0,0,(⟨(⟨0,0⟩:z1a),0,0,0,[],[],[]⟩:GOp),0,0,[],(⟨0,(Vector.replicate 8 (default:Int)),(Vector.replicate 8 (default:Int)),(Vector.replicate 8 (default:Int))⟩:za),0,(Vector.replicate 8 (default:Int)),0,(⟨0,0,0,[]⟩:GPart),0,0,0⟩:z9),0,(Vector.replicate 8 (default:Int)),0,0,[],(⟨0,(Vector.replicate 8 (default:Int)),(Vector.replicate 8 (default:Int)),(Vector.replicate 8 (default:Int))⟩:za),(⟨0,0,0,[]⟩:GPart)⟩:GMsg)⟩:z6)))
 else
 (bif (m.Kind==8) then
 (some (.inl (⟨r1,m,(⟨m.Kind,m.From,m.To,(⟨0,0⟩:zu),m.Slot,[],(⟨0,0,0,(⟨(⟨0,0⟩:z1a),0,0,0,[],[],[]⟩:GOp),0,0,[],(⟨0,(Vector.replicate 8 (default:Int)),(Vector.replicate 8 (default:Int)),(Vector.replicate 8 (default:Int))⟩:za),0,(Vector.replicate 8 (default:Int)),0,(⟨0,0,0,[]⟩:GPart),0,0,0⟩:z9),0,(Vector.replicate 8 (default:Int)),0,0,[],(⟨0,(Vector.replicate 8 (default:Int)),(Vector.replicate 8 (default:Int)),(Vector.replicate 8 (default:Int))⟩:za),(⟨0,0,0,[]⟩:GPart)⟩:GMsg)⟩:z6)))
 else
 (bif (m.Kind==9) then
 (some (.inl (⟨r1,m,(⟨m.Kind,m.From,m.To,(⟨0,0⟩:zu),0,[],m.Entry,0,(Vector.replicate 8 (default:Int)),0,0,[],(⟨0,(Vector.replicate 8 (default:Int)),(Vector.replicate 8 (default:Int)),(Vector.replicate 8 (default:Int))⟩:za),(⟨0,0,0,[]⟩:GPart)⟩:GMsg)⟩:z6)))
 else
 (bif (m.Kind==10) then
 (some (.inl (⟨r1,m,(⟨m.Kind,m.From,m.To,(⟨0,0⟩:zu),0,[],(⟨0,0,0,(⟨(⟨0,0⟩:z1a),0,0,0,[],[],[]⟩:GOp),0,0,[],(⟨0,(Vector.replicate 8 (default:Int)),(Vector.replicate 8 (default:Int)),(Vector.replicate 8 (default:Int))⟩:za),0,(Vector.replicate 8 (default:Int)),0,(⟨0,0,0,[]⟩:GPart),0,0,0⟩:z9),m.Number,m.Vector_,m.Clock,0,[],(⟨0,(Vector.replicate 8 (default:Int)),(Vector.replicate 8 (default:Int)),(Vector.replicate 8 (default:Int))⟩:za),(⟨0,0,0,[]⟩:GPart)⟩:GMsg)⟩:z6)))
 else
 (bif (m.Kind==11) then
 ((bif r1 then z1w N [m.Origin] else some default).bind fun r12 =>
 ((bif (r1&&r12) then z4j N m.Ops 1 else some default).bind fun r13 =>
 (some (.inl (⟨((r1&&r12)&&r13),m,(⟨m.Kind,m.From,m.To,(⟨0,0⟩:zu),m.Slot,[],(⟨0,0,0,(⟨(⟨0,0⟩:z1a),0,0,0,[],[],[]⟩:GOp),0,0,[],(⟨0,(Vector.replicate 8 (default:Int)),(Vector.replicate 8 (default:Int)),(Vector.replicate 8 (default:Int))⟩:za),0,(Vector.replicate 8 (default:Int)),0,(⟨0,0,0,[]⟩:GPart),0,0,0⟩:z9),m.Number,(Vector.replicate 8 (default:Int)),0,m.Origin,m.Ops,(⟨0,(Vector.replicate 8 (default:Int)),(Vector.replicate 8 (default:Int)),(Vector.replicate 8 (default:Int))⟩:za),(⟨0,0,0,[]⟩:GPart)⟩:GMsg)⟩:z6)))))
 else
 (bif (m.Kind==12) then
 ((bif r1 then z38 N m.Epoch else some default).bind fun r14 =>
 (some (.inl (⟨(r1&&r14),m,(⟨m.Kind,m.From,m.To,(⟨0,0⟩:zu),0,[],(⟨0,0,0,(⟨(⟨0,0⟩:z1a),0,0,0,[],[],[]⟩:GOp),0,0,[],(⟨0,(Vector.replicate 8 (default:Int)),(Vector.replicate 8 (default:Int)),(Vector.replicate 8 (default:Int))⟩:za),0,(Vector.replicate 8 (default:Int)),0,(⟨0,0,0,[]⟩:GPart),0,0,0⟩:z9),0,(Vector.replicate 8 (default:Int)),0,0,[],m.Epoch,(⟨0,0,0,[]⟩:GPart)⟩:GMsg)⟩:z6))))
 else
 (bif (m.Kind==13) then
 ((bif r1 then z25 N m.Part else some default).bind fun r15 =>
 (some (.inl (⟨(r1&&r15),m,(⟨m.Kind,m.From,m.To,(⟨0,0⟩:zu),0,[],(⟨0,0,0,(⟨(⟨0,0⟩:z1a),0,0,0,[],[],[]⟩:GOp),0,0,[],(⟨0,(Vector.replicate 8 (default:Int)),(Vector.replicate 8 (default:Int)),(Vector.replicate 8 (default:Int))⟩:za),0,(Vector.replicate 8 (default:Int)),0,(⟨0,0,0,[]⟩:GPart),0,0,0⟩:z9),0,(Vector.replicate 8 (default:Int)),0,0,[],(⟨0,(Vector.replicate 8 (default:Int)),(Vector.replicate 8 (default:Int)),(Vector.replicate 8 (default:Int))⟩:za),m.Part⟩:GMsg)⟩:z6))))
 else
 (bif (m.Kind==14) then
 (some (.inl (⟨r1,m,(⟨m.Kind,m.From,m.To,(⟨0,0⟩:zu),0,[],(⟨0,0,0,(⟨(⟨0,0⟩:z1a),0,0,0,[],[],[]⟩:GOp),0,0,[],(⟨0,(Vector.replicate 8 (default:Int)),(Vector.replicate 8 (default:Int)),(Vector.replicate 8 (default:Int))⟩:za),0,(Vector.replicate 8 (default:Int)),0,(⟨0,0,0,[]⟩:GPart),0,0,0⟩:z9),m.Number,m.Vector_,0,0,[],(⟨0,(Vector.replicate 8 (default:Int)),(Vector.replicate 8 (default:Int)),(Vector.replicate 8 (default:Int))⟩:za),(⟨0,0,0,[]⟩:GPart)⟩:GMsg)⟩:z6)))
 else
 (bif (m.Kind==15) then
 ((bif r1 then z25 N m.Part else some default).bind fun r16 =>
 (some (.inl (⟨(r1&&r16),m,(⟨m.Kind,m.From,m.To,(⟨0,0⟩:zu),m.Slot,[],(⟨0,0,0,(⟨(⟨0,0⟩:z1a),0,0,0,[],[],[]⟩:GOp),0,0,[],(⟨0,(Vector.replicate 8 (default:Int)),(Vector.replicate 8 (default:Int)),(Vector.replicate 8 (default:Int))⟩:za),0,(Vector.replicate 8 (default:Int)),0,(⟨0,0,0,[]⟩:GPart),0,0,0⟩:z9),0,(Vector.replicate 8 (default:Int)),0,0,[],(⟨0,(Vector.replicate 8 (default:Int)),(Vector.replicate 8 (default:Int)),(Vector.replicate 8 (default:Int))⟩:za),m.Part⟩:GMsg)⟩:z6))))
 else
 (some (.inl (⟨false,m,(⟨m.Kind,m.From,m.To,(⟨0,0⟩:zu),0,[],(⟨0,0,0,(⟨(⟨0,0⟩:z1a),0,0,0,[],[],[]⟩:GOp),0,0,[],(⟨0,(Vector.replicate 8 (default:Int)),(Vector.replicate 8 (default:Int)),(Vector.replicate 8 (default:Int))⟩:za),0,(Vector.replicate 8 (default:Int)),0,(⟨0,0,0,[]⟩:GPart),0,0,0⟩:z9),0,(Vector.replicate 8 (default:Int)),0,0,[],(⟨0,(Vector.replicate 8 (default:Int)),(Vector.replicate 8 (default:Int)),(Vector.replicate 8 (default:Int))⟩:za),(⟨0,0,0,[]⟩:GPart)⟩:GMsg)⟩:z6)))))))))))))))))))
def z9n (N:Nat) (m:GMsg) (s:z6):Option (Int) :=
 ((bif s.ok then z8p N s.b1.Ballot else some default).bind fun r17 =>
 ((bif (s.ok&&r17) then z14 N [s.b1.Slot,s.b1.Number,s.b1.Clock] else some default).bind fun r18 =>
 (bif ((s.ok&&r17)&&r18) then
 ((bif ((s.ok&&r17)&&r18) then z14 N (s.b1.Vector_.toList) else some default).bind fun r19 =>
 ((bif (((s.ok&&r17)&&r18)&&r19) then z7b N s.b1.List_ 0 4096 else some default).bind fun r20 =>
 ((bif ((((s.ok&&r17)&&r18)&&r19)&&r20) then z19 N s.b1.Entry else some default).bind fun r21 =>
 ((bif (((((s.ok&&r17)&&r18)&&r19)&&r20)&&(r21==0)) then zak N s.b1 s.b0 else some default).bind fun r22 =>
 ((zv N ((((((s.ok&&r17)&&r18)&&r19)&&r20)&&(r21==0))&&r22)).bind fun r23 =>
 (some r23))))))
 else
 ((bif false then z7b N s.b1.List_ 0 4096 else some default).bind fun r24 =>
 ((bif false then z19 N s.b1.Entry else some default).bind fun r25 =>
 ((bif false then zak N s.b1 s.b0 else some default).bind fun r26 =>
 ((zv N false).bind fun r27 =>
 (some r27))))))))
def z9o (N:Nat) (m:GMsg):Option (Int) :=
 (z11 N m).bind fun z=>match z with | .inl s=>z9n N m s | .inr r=>some r
def za6:Con τ:={ args:=[.ty 43],L:=[],ret:=.ty 48,L':=[],R:=Int,dflt:=default,F:=fun N a b=>z9o N a.1,of:=fun r=>(r,()) }
noncomputable def zs2:Dat τ:={ D:=D0,tbl:=tblOf [(89,zdv),(90,zbf),(91,zbr),(92,za5),(93,zav),(94,z98),(95,z3r),(96,zb7),(97,z8g),(99,zdy),(98,zat)],lp:=lpsOf [],k0:=0,mu:=[],un:=[] }
theorem zky:ConOk E C 51 za6 :=
  con_cut (D:=zs2) ⟨d0Ok,eGood,z7 ⟨zuk,⟨zlx,⟨znr,⟨zkx,⟨zms,⟨zic,⟨z87,⟨zqn,⟨zge,⟨zuq,⟨zmr,trivial⟩⟩⟩⟩⟩⟩⟩⟩⟩⟩⟩,fun _=>rfl⟩ za6 (fun a b=>a) none (fun _ _=>rfl) rfl (fun _ _ h=>nomatch h) 1000000 [true,true,true,true,false] zqr (fun N a b=>z11 N a.1) (fun N a b s=>z9n N a.1 s) (by intro N a b; kernel_rfl) (fn:=Tryz.f51) Tryz.func51 rfl (by kernel_rfl) (by kernel_rfl) rfl (by kernel_rfl) (by intro a b s; kernel_rfl) (by intro N a b; kernel_rfl) (by intro N a b s; kernel_rfl)
def zgf (N:Nat)  : Option (Bool×(List (Int))) :=
 (some (true,[]))
def zdz:Con τ:={ args:=[],L:=[],ret:=.ptr 0 [],L':=[.box (.agg [.ty 4,.own 5 1]),.tail],R:=Bool×(List (Int)),dflt:=(default,default),F:=fun N a b=>zgf N ,of:=fun r=>((),((r.1,r.2,()),(),())) }
noncomputable def zt7:Dat τ:={ D:=D0,tbl:=tblOf [],lp:=lpsOf [],k0:=0,mu:=[],un:=[] }
theorem zur:ConOk E C 52 zdz :=
  zj (D:=zt7) ⟨d0Ok,eGood,z7 trivial,fun _=>rfl⟩ zdz (fun a b=>(b.1.1,b.1.2.1)) none (fun _ _=>rfl) rfl (fun _ _ h=>nomatch h) 1000000 (fn:=Tryz.f52) Tryz.func52 rfl (by kernel_rfl) (by kernel_rfl) rfl (by intro N a b; kernel_rfl)
structure z5s where
  u:Int
  b:List (Int)
def zgg:List Sl:=[.k,.k,.k,.sh (.ty 12),.sh (.own 5 0),.k,.k,.k,.k,.k,.k,.k,.j,.j,.j,.j,.j,.j,.j,.j,.j,.j,.k,.k,.k,.k,.k]
def zgh:List ESh:=[.tail]
def zw8 (a:Sl.Ts τ zgg) (b:ESh.Ts τ zgh):z5s:=⟨a.2.2.2.1,a.2.2.2.2.1⟩
def zw9 (s:z5s):Sl.Ts τ zgg:=((),(),(),s.u,s.b,(),(),(),(),(),(),(),(),(),(),(),(),(),(),(),(),(),(),(),(),(),(),())
def zwa (s:z5s):ESh.Ts τ zgh:=((),())
def zwb:Lp τ:={ ts:=zgg,hs:=zgh,S:=z5s,to:=zw8,ot:=zw9,oh:=zwa,hk:=[],tk:=[],ot_to:=fun _ _=>rfl,oh_to:=fun _ _=>rfl }
def zc9 (N:Nat) (n:Int):Option ((List (Int))) :=
 (bif (decide (n < 0)) then
 (iter N (fun (s1:z5s) next2 =>
 (bif (decide (128≤s1.u)) then
 (bif (lenB ((s1.b).length+([(bits .or .u8 (IntKind.u8.wrap s1.u) 128)]).length) 1) then
 (next2 ⟨(shr .u64 s1.u 7),(s1.b++[(bits .or .u8 (IntKind.u8.wrap s1.u) 128)])⟩)
 else none)
 else
 (bif (lenB ((s1.b).length+([(IntKind.u8.wrap s1.u)]).length) 1) then
 (some (s1.b++[(IntKind.u8.wrap s1.u)]))
 else none))) ⟨(bits .xor .u64 IntKind.u64.max (shl .u64 (IntKind.u64.wrap n) 1)),[]⟩)
 else
 (iter N (fun (s3:z5s) next4 =>
 (bif (decide (128≤s3.u)) then
 (bif (lenB ((s3.b).length+([(bits .or .u8 (IntKind.u8.wrap s3.u) 128)]).length) 1) then
 (next4 ⟨(shr .u64 s3.u 7),(s3.b++[(bits .or .u8 (IntKind.u8.wrap s3.u) 128)])⟩)
 else none)
 else
 (bif (lenB ((s3.b).length+([(IntKind.u8.wrap s3.u)]).length) 1) then
 (some (s3.b++[(IntKind.u8.wrap s3.u)]))
 else none))) ⟨(shl .u64 (IntKind.u64.wrap n) 1),[]⟩))
def zbi:Con τ:={ args:=[.ty 2],L:=[],ret:=.own 5 0,L':=[.tail],R:=(List (Int)),dflt:=default,F:=fun N a b=>zc9 N a.1,of:=fun r=>(r,((),())) }
noncomputable def zxt:Dat τ:={ D:=D0,tbl:=tblOf [],lp:=lpsOf [(5,zwb)],k0:=0,mu:=[],un:=[] }
theorem zly:ConOk E C 110 zbi :=
  zj (D:=zxt) ⟨d0Ok,eGood,z7 trivial,fun _=>rfl⟩ zbi (fun a b=>a) none (fun _ _=>rfl) rfl (fun _ _ h=>nomatch h) 1000000 (fn:=Tryz.f110) Tryz.func110 rfl (by kernel_rfl) (by kernel_rfl) rfl (by intro N a b; kernel_rfl)
def z4n (N:Nat) (b0:Bool) (b02:List (Int)):Option (Bool×Bool×(List (Int))) :=
 (some ((!b0),b0,b02))
def z5l:Con τ:={ args:=[.ptr 0 []],L:=[.box (.agg [.ty 4,.own 5 1]),.tail],ret:=.ty 4,L':=[.box (.agg [.ty 4,.own 5 1]),.tail],R:=Bool×Bool×(List (Int)),dflt:=(default,default,default),F:=fun N a b=>z4n N b.1.1 b.1.2.1,of:=fun r=>(r.1,((r.2.1,r.2.2,()),(),())) }
noncomputable def zlz:Dat τ:={ D:=D0,tbl:=tblOf [],lp:=lpsOf [],k0:=2,mu:=[],un:=[] }
theorem zdi:ConOk E C 113 z5l :=
  zj (D:=zlz) ⟨d0Ok,eGood,z7 trivial,fun _=>rfl⟩ z5l (fun a b=>(a,b.1.1,b.1.2.1)) none (fun _ _=>rfl) rfl (fun _ _ h=>nomatch h) 1000000 (fn:=Tryz.f113) Tryz.func113 rfl (by kernel_rfl) (by kernel_rfl) rfl (by intro N a b; kernel_rfl)
structure z34 where
  n:Int
  t19:Int
def z99:List Sl:=[.k,.k,.k,.k,.j,.sh (.ty 2),.k,.j,.k,.k,.k,.k,.k,.k,.k,.k,.k,.k,.k,.sh (.ty 2),.j,.j,.j,.j,.j,.j,.j,.j,.j,.j,.j,.j,.j,.k,.k,.k,.k,.k,.k,.k,.k,.k,.k,.k,.k,.k,.k,.k,.k]
def z9a:List ESh:=[.keep,.keep]
def zm0 (a:Sl.Ts τ z99) (b:ESh.Ts τ z9a):z34:=⟨a.2.2.2.2.2.1,a.2.2.2.2.2.2.2.2.2.2.2.2.2.2.2.2.2.2.2.1⟩
def zm1 (s:z34):Sl.Ts τ z99:=((),(),(),(),(),s.n,(),(),(),(),(),(),(),(),(),(),(),(),(),s.t19,(),(),(),(),(),(),(),(),(),(),(),(),(),(),(),(),(),(),(),(),(),(),(),(),(),(),(),(),(),())
def zm2 (s:z34):ESh.Ts τ z9a:=((),(),())
def zm3:Lp τ:={ ts:=z99,hs:=z9a,S:=z34,to:=zm0,ot:=zm1,oh:=zm2,hk:=[2,5],tk:=[2,0,0,0,0,0,0,0,0,0,2,0,2,2,2],ot_to:=fun _ _=>rfl,oh_to:=fun _ _=>rfl }
structure z2g where
  t35:Int
  b0:Bool
  b02:List (Int)
def z8q:List Sl:=[.k,.k,.k,.k,.k,.k,.k,.k,.k,.j,.k,.k,.k,.k,.k,.k,.k,.k,.k,.k,.k,.k,.k,.k,.k,.k,.k,.k,.k,.k,.k,.k,.k,.k,.k,.sh (.ty 2),.j,.j,.j,.j,.j,.j,.j,.j,.j,.j,.j,.j,.j]
def z8r:List ESh:=[.box (.agg [.ty 4,.own 5 2]),.dead,.tail]
def zkz (a:Sl.Ts τ z8q) (b:ESh.Ts τ z8r):z2g:=⟨a.2.2.2.2.2.2.2.2.2.2.2.2.2.2.2.2.2.2.2.2.2.2.2.2.2.2.2.2.2.2.2.2.2.2.2.1,b.1.1,b.1.2.1⟩
def zl0 (s:z2g):Sl.Ts τ z8q:=((),(),(),(),(),(),(),(),(),(),(),(),(),(),(),(),(),(),(),(),(),(),(),(),(),(),(),(),(),(),(),(),(),(),(),s.t35,(),(),(),(),(),(),(),(),(),(),(),(),(),())
def zl1 (s:z2g):ESh.Ts τ z8r:=((s.b0,s.b02,()),(),(),())
def zl2:Lp τ:={ ts:=z8q,hs:=z8r,S:=z2g,to:=zkz,ot:=zl0,oh:=zl1,hk:=[2,5],tk:=[2,0,0,0,0,0,0,0,0,0,2,0,2,2,2],ot_to:=fun _ _=>rfl,oh_to:=fun _ _=>rfl }
def z58 (N:Nat) (l:List (List (Int))) (b0:Bool) (b02:List (Int)):Option (Int×Bool×(List (Int))) :=
 ((z4n N b0 b02).bind fun r1 =>
 (bif r1.1 then
 (some (2,r1.2.1,r1.2.2))
 else
 (iter N (fun (s2:z34) next3 =>
 (bif (decide (s2.t19 < ((l).length:Int))) then
 (bif (ibB s2.t19 ((l).length:Int)) then
 (bif (decide ((IntKind.i64.wrap (1048576 - s2.n)) < (((lget l s2.t19 default)).length:Int))) then
 (some (3,r1.2.1,r1.2.2))
 else
 (next3 ⟨(IntKind.i64.wrap (s2.n+(((lget l s2.t19 default)).length:Int))),(IntKind.i64.wrap (s2.t19+1))⟩))
 else none)
 else
 (iter N (fun (s4:z2g) next5 =>
 (bif (decide (s4.t35 < ((l).length:Int))) then
 (bif (ibB s4.t35 ((l).length:Int)) then
 (bif (lenB ((s4.b02).length+((lget l s4.t35 default)).length) 1) then
 (next5 ⟨(IntKind.i64.wrap (s4.t35+1)),s4.b0,(s4.b02++(lget l s4.t35 default))⟩)
 else none)
 else none)
 else
 (some (0,s4.b0,s4.b02)))) ⟨0,r1.2.1,r1.2.2⟩))) ⟨((r1.2.2).length:Int),0⟩)))
def z6t:Con τ:={ args:=[.ptr 0 [],.ty 201],L:=[.box (.agg [.ty 4,.own 5 1]),.tail],ret:=.ty 48,L':=[.box (.agg [.ty 4,.own 5 2]),.dead,.tail],R:=Int×Bool×(List (Int)),dflt:=(default,default,default),F:=fun N a b=>z58 N a.2.1 b.1.1 b.1.2.1,of:=fun r=>(r.1,((r.2.1,r.2.2,()),(),(),())) }
noncomputable def zn2:Dat τ:={ D:=D0,tbl:=tblOf [(113,z5l)],lp:=lpsOf [(5,zm3),(12,zl2)],k0:=2,mu:=[],un:=[] }
theorem zea:ConOk E C 170 z6t :=
  zj (D:=zn2) ⟨d0Ok,eGood,z7 ⟨zdi,trivial⟩,fun _=>rfl⟩ z6t (fun a b=>(a,b.1.1,b.1.2.1)) none (fun _ _=>rfl) rfl (fun _ _ h=>nomatch h) 1000000 (fn:=Tryz.f170) Tryz.func170 rfl (by kernel_rfl) (by kernel_rfl) rfl (by intro N a b; kernel_rfl)
def z59 (N:Nat) (n:Int) (b0:Bool) (b02:List (Int)):Option (Int×Bool×(List (Int))) :=
 ((zc9 N n).bind fun r1 =>
 ((z58 N [r1] b0 b02).bind fun r2 =>
 (some (r2.1,r2.2.1,r2.2.2))))
def z6u:Con τ:={ args:=[.ptr 0 [],.ty 2],L:=[.box (.agg [.ty 4,.own 5 1]),.tail],ret:=.ty 48,L':=[.box (.agg [.ty 4,.own 5 2]),.dead,.tail],R:=Int×Bool×(List (Int)),dflt:=(default,default,default),F:=fun N a b=>z59 N a.2.1 b.1.1 b.1.2.1,of:=fun r=>(r.1,((r.2.1,r.2.2,()),(),(),())) }
noncomputable def zn3:Dat τ:={ D:=D0,tbl:=tblOf [(110,zbi),(170,z6t)],lp:=lpsOf [],k0:=2,mu:=[],un:=[] }
theorem zeb:ConOk E C 139 z6u :=
  zj (D:=zn3) ⟨d0Ok,eGood,z7 ⟨zly,⟨zea,trivial⟩⟩,fun _=>rfl⟩ z6u (fun a b=>(a,b.1.1,b.1.2.1)) none (fun _ _=>rfl) rfl (fun _ _ h=>nomatch h) 1000000 (fn:=Tryz.f139) Tryz.func139 rfl (by kernel_rfl) (by kernel_rfl) rfl (by intro N a b; kernel_rfl)
def z2h (N:Nat) (e:Int) (b0:Int) (b1:Bool) (b12:List (Int)):Option (Int×Bool×(List (Int))) :=
 (bif (b0==0) then
 (some (e,b1,b12))
 else
 (some (b0,b1,b12)))
def z2n:Con τ:={ args:=[.ptr 0 [],.ty 48],L:=[.box (.agg [.ptr 1 [],.ty 48]),.box (.agg [.ty 4,.own 5 2]),.tail],ret:=.tup [],L':=[.box (.agg [.ptr 1 [],.ty 48]),.box (.agg [.ty 4,.own 5 2]),.tail],R:=Int×Bool×(List (Int)),dflt:=(default,default,default),F:=fun N a b=>z2h N a.2.1 b.1.2.1 b.2.1.1 b.2.1.2.1,of:=fun r=>((),(((),r.1,()),(r.2.1,r.2.2,()),(),())) }
noncomputable def zjo:Dat τ:={ D:=D0,tbl:=tblOf [],lp:=lpsOf [],k0:=3,mu:=[],un:=[] }
theorem z4x:ConOk E C 138 z2n :=
  zj (D:=zjo) ⟨d0Ok,eGood,z7 trivial,fun _=>rfl⟩ z2n (fun a b=>(b.1.2.1,b.2.1.1,b.2.1.2.1)) none (fun _ _=>rfl) rfl (fun _ _ h=>nomatch h) 1000000 (fn:=Tryz.f138) Tryz.func138 rfl (by kernel_rfl) (by kernel_rfl) rfl (by intro N a b; kernel_rfl)
structure z2c where
  t8:Int
  b0:Int
  b1:Bool
  b12:List (Int)
def z6i:List Sl:=[.k,.k,.k,.k,.k,.j,.k,.k,.sh (.ty 2),.j,.j,.j,.j,.j,.j,.j,.j,.j,.j,.j,.j]
def z6j:List ESh:=[.box (.agg [.ptr 1 [],.ty 2]),.box (.agg [.ty 4,.own 5 3]),.dead,.tail]
def zgi (a:Sl.Ts τ z6i) (b:ESh.Ts τ z6j):z2c:=⟨a.2.2.2.2.2.2.2.2.1,b.1.2.1,b.2.1.1,b.2.1.2.1⟩
def zgj (s:z2c):Sl.Ts τ z6i:=((),(),(),(),(),(),(),(),s.t8,(),(),(),(),(),(),(),(),(),(),(),(),())
def zgk (s:z2c):ESh.Ts τ z6j:=(((),s.b0,()),(s.b1,s.b12,()),(),(),())
def zgl:Lp τ:={ ts:=z6i,hs:=z6j,S:=z2c,to:=zgi,ot:=zgj,oh:=zgk,hk:=[2,2,5],tk:=[2],ot_to:=fun _ _=>rfl,oh_to:=fun _ _=>rfl }
def zb (N:Nat) (l:List (Int)) (b0:Int) (b1:Bool) (b12:List (Int)):Option (Int×Bool×(List (Int))) :=
 (iter N (fun (s1:z2c) next2 =>
 (bif (decide (s1.t8 < ((l).length:Int))) then
 (bif (ibB s1.t8 ((l).length:Int)) then
 ((z59 N (lget l s1.t8 default) s1.b1 s1.b12).bind fun r3 =>
 ((z2h N r3.1 s1.b0 r3.2.1 r3.2.2).bind fun r4 =>
 (next2 ⟨(IntKind.i64.wrap (s1.t8+1)),r4.1,r4.2.1,r4.2.2⟩)))
 else none)
 else
 (some (s1.b0,s1.b1,s1.b12)))) ⟨0,b0,b1,b12⟩)
def z10:Con τ:={ args:=[.ptr 0 [],.ty 194],L:=[.box (.agg [.ptr 1 [],.ty 48]),.box (.agg [.ty 4,.own 5 2]),.tail],ret:=.tup [],L':=[.box (.agg [.ptr 1 [],.ty 48]),.box (.agg [.ty 4,.own 5 3]),.dead,.tail],R:=Int×Bool×(List (Int)),dflt:=(default,default,default),F:=fun N a b=>zb N a.2.1 b.1.2.1 b.2.1.1 b.2.1.2.1,of:=fun r=>((),(((),r.1,()),(r.2.1,r.2.2,()),(),(),())) }
noncomputable def zhq:Dat τ:={ D:=D0,tbl:=tblOf [(139,z6u),(138,z2n)],lp:=lpsOf [(1,zgl)],k0:=3,mu:=[],un:=[] }
theorem z1k:ConOk E C 100 z10 :=
  zj (D:=zhq) ⟨d0Ok,eGood,z7 ⟨zeb,⟨z4x,trivial⟩⟩,fun _=>rfl⟩ z10 (fun a b=>(b.1.2.1,b.2.1.1,b.2.1.2.1)) none (fun _ _=>rfl) rfl (fun _ _ h=>nomatch h) 1000000 (fn:=Tryz.f100) Tryz.func100 rfl (by kernel_rfl) (by kernel_rfl) rfl (by intro N a b; kernel_rfl)
def z3t (N:Nat) (a:GAddr) (b0:Int) (b1:Bool) (b12:List (Int)):Option (Int×Bool×(List (Int))) :=
 ((zb N [a.Group,a.Replica] b0 b1 b12).bind fun r1 =>
 (some (r1.1,r1.2.1,r1.2.2)))
def z88:Con τ:={ args:=[.ptr 0 [],.ty 23],L:=[.box (.agg [.ptr 1 [],.ty 48]),.box (.agg [.ty 4,.own 5 2]),.tail],ret:=.tup [],L':=[.box (.agg [.ptr 1 [],.ty 48]),.box (.agg [.ty 4,.own 5 3]),.dead,.tail],R:=Int×Bool×(List (Int)),dflt:=(default,default,default),F:=fun N a b=>z3t N a.2.1 b.1.2.1 b.2.1.1 b.2.1.2.1,of:=fun r=>((),(((),r.1,()),(r.2.1,r.2.2,()),(),(),())) }
noncomputable def zjp:Dat τ:={ D:=D0,tbl:=tblOf [(100,z10)],lp:=lpsOf [],k0:=3,mu:=[],un:=[] }
theorem zl3:ConOk E C 101 z88 :=
  zj (D:=zjp) ⟨d0Ok,eGood,z7 ⟨z1k,trivial⟩,fun _=>rfl⟩ z88 (fun a b=>(b.1.2.1,b.2.1.1,b.2.1.2.1)) none (fun _ _=>rfl) rfl (fun _ _ h=>nomatch h) 1000000 (fn:=Tryz.f101) Tryz.func101 rfl (by kernel_rfl) (by kernel_rfl) rfl (by intro N a b; kernel_rfl)
structure z2o where
  t8:Int
  b0:Int
  b1:Bool
  b12:List (Int)
def z71:List Sl:=[.k,.k,.k,.k,.k,.j,.k,.k,.sh (.ty 2),.j,.j,.j,.j,.j,.j,.j,.j,.j,.j,.j,.j]
def z72:List ESh:=[.box (.agg [.ptr 1 [],.ty 2]),.box (.agg [.ty 4,.own 5 3]),.dead,.tail]
def zhr (a:Sl.Ts τ z71) (b:ESh.Ts τ z72):z2o:=⟨a.2.2.2.2.2.2.2.2.1,b.1.2.1,b.2.1.1,b.2.1.2.1⟩
def zhs (s:z2o):Sl.Ts τ z71:=((),(),(),(),(),(),(),(),s.t8,(),(),(),(),(),(),(),(),(),(),(),(),())
def zht (s:z2o):ESh.Ts τ z72:=(((),s.b0,()),(s.b1,s.b12,()),(),(),())
def zhu:Lp τ:={ ts:=z71,hs:=z72,S:=z2o,to:=zhr,ot:=zhs,oh:=zht,hk:=[2,2,5],tk:=[2],ot_to:=fun _ _=>rfl,oh_to:=fun _ _=>rfl }
def z5 (N:Nat) (l:List (Int)) (b0:Int) (b1:Bool) (b12:List (Int)):Option (Int×Bool×(List (Int))) :=
 (iter N (fun (s1:z2o) next2 =>
 (bif (decide (s1.t8 < ((l).length:Int))) then
 (bif (ibB s1.t8 ((l).length:Int)) then
 ((z59 N (lget l s1.t8 default) s1.b1 s1.b12).bind fun r3 =>
 ((z2h N r3.1 s1.b0 r3.2.1 r3.2.2).bind fun r4 =>
 (next2 ⟨(IntKind.i64.wrap (s1.t8+1)),r4.1,r4.2.1,r4.2.2⟩)))
 else none)
 else
 (some (s1.b0,s1.b1,s1.b12)))) ⟨0,b0,b1,b12⟩)
def z1l:Con τ:={ args:=[.ptr 0 [],.ty 60],L:=[.box (.agg [.ptr 1 [],.ty 48]),.box (.agg [.ty 4,.own 5 2]),.tail],ret:=.tup [],L':=[.box (.agg [.ptr 1 [],.ty 48]),.box (.agg [.ty 4,.own 5 3]),.dead,.tail],R:=Int×Bool×(List (Int)),dflt:=(default,default,default),F:=fun N a b=>z5 N a.2.1 b.1.2.1 b.2.1.1 b.2.1.2.1,of:=fun r=>((),(((),r.1,()),(r.2.1,r.2.2,()),(),(),())) }
noncomputable def zjq:Dat τ:={ D:=D0,tbl:=tblOf [(139,z6u),(138,z2n)],lp:=lpsOf [(1,zhu)],k0:=3,mu:=[],un:=[] }
theorem z26:ConOk E C 103 z1l :=
  zj (D:=zjq) ⟨d0Ok,eGood,z7 ⟨zeb,⟨z4x,trivial⟩⟩,fun _=>rfl⟩ z1l (fun a b=>(b.1.2.1,b.2.1.1,b.2.1.2.1)) none (fun _ _=>rfl) rfl (fun _ _ h=>nomatch h) 1000000 (fn:=Tryz.f103) Tryz.func103 rfl (by kernel_rfl) (by kernel_rfl) rfl (by intro N a b; kernel_rfl)
def zp (N:Nat) (b:zu) (b0:Int) (b1:Bool) (b12:List (Int)):Option (Int×Bool×(List (Int))) :=
 ((z5 N [b.Round] b0 b1 b12).bind fun r1 =>
 ((zb N [b.Replica] r1.1 r1.2.1 r1.2.2).bind fun r2 =>
 (some (r2.1,r2.2.1,r2.2.2))))
def z3u:Con τ:={ args:=[.ptr 0 [],.ty 25],L:=[.box (.agg [.ptr 1 [],.ty 48]),.box (.agg [.ty 4,.own 5 2]),.tail],ret:=.tup [],L':=[.box (.agg [.ptr 1 [],.ty 48]),.box (.agg [.ty 4,.own 5 3]),.dead,.tail],R:=Int×Bool×(List (Int)),dflt:=(default,default,default),F:=fun N a b=>zp N a.2.1 b.1.2.1 b.2.1.1 b.2.1.2.1,of:=fun r=>((),(((),r.1,()),(r.2.1,r.2.2,()),(),(),())) }
noncomputable def zgm:Dat τ:={ D:=D0,tbl:=tblOf [(103,z1l),(100,z10)],lp:=lpsOf [],k0:=3,mu:=[],un:=[] }
theorem zaz:ConOk E C 102 z3u :=
  zj (D:=zgm) ⟨d0Ok,eGood,z7 ⟨z26,⟨z1k,trivial⟩⟩,fun _=>rfl⟩ z3u (fun a b=>(b.1.2.1,b.2.1.1,b.2.1.2.1)) none (fun _ _=>rfl) rfl (fun _ _ h=>nomatch h) 1000000 (fn:=Tryz.f102) Tryz.func102 rfl (by kernel_rfl) (by kernel_rfl) rfl (by intro N a b; kernel_rfl)
def z48 (N:Nat) (b:List (Int)) (b0:Bool) (b02:List (Int)):Option (Int×Bool×(List (Int))) :=
 ((zc9 N ((b).length:Int)).bind fun r1 =>
 ((z58 N [r1,b] b0 b02).bind fun r2 =>
 (some (r2.1,r2.2.1,r2.2.2))))
def z4y:Con τ:={ args:=[.ptr 0 [],.ty 37],L:=[.box (.agg [.ty 4,.own 5 1]),.tail],ret:=.ty 48,L':=[.box (.agg [.ty 4,.own 5 2]),.dead,.tail],R:=Int×Bool×(List (Int)),dflt:=(default,default,default),F:=fun N a b=>z48 N a.2.1 b.1.1 b.1.2.1,of:=fun r=>(r.1,((r.2.1,r.2.2,()),(),(),())) }
noncomputable def zl4:Dat τ:={ D:=D0,tbl:=tblOf [(110,zbi),(170,z6t)],lp:=lpsOf [],k0:=2,mu:=[],un:=[] }
theorem zd1:ConOk E C 141 z4y :=
  zj (D:=zl4) ⟨d0Ok,eGood,z7 ⟨zly,⟨zea,trivial⟩⟩,fun _=>rfl⟩ z4y (fun a b=>(a,b.1.1,b.1.2.1)) none (fun _ _=>rfl) rfl (fun _ _ h=>nomatch h) 1000000 (fn:=Tryz.f141) Tryz.func141 rfl (by kernel_rfl) (by kernel_rfl) rfl (by intro N a b; kernel_rfl)
def z7c (N:Nat) (s:List UInt8) (b0:Bool) (b02:List (Int)):Option (Int×Bool×(List (Int))) :=
 ((z48 N (zio s) b0 b02).bind fun r1 =>
 (some (r1.1,r1.2.1,r1.2.2)))
def z9b:Con τ:={ args:=[.ptr 0 [],.ty 9],L:=[.box (.agg [.ty 4,.own 5 1]),.tail],ret:=.ty 48,L':=[.box (.agg [.ty 4,.own 5 2]),.dead,.tail],R:=Int×Bool×(List (Int)),dflt:=(default,default,default),F:=fun N a b=>z7c N a.2.1 b.1.1 b.1.2.1,of:=fun r=>(r.1,((r.2.1,r.2.2,()),(),(),())) }
noncomputable def zm4:Dat τ:={ D:=D0,tbl:=tblOf [(141,z4y)],lp:=lpsOf [],k0:=2,mu:=[],un:=[] }
theorem zn4:ConOk E C 179 z9b :=
  zj (D:=zm4) ⟨d0Ok,eGood,z7 ⟨zd1,trivial⟩,fun _=>rfl⟩ z9b (fun a b=>(a,b.1.1,b.1.2.1)) none (fun _ _=>rfl) rfl (fun _ _ h=>nomatch h) 1000000 (fn:=Tryz.f179) Tryz.func179 rfl (by kernel_rfl) (by kernel_rfl) rfl (by intro N a b; kernel_rfl)
structure z2d where
  t8:Int
  b0:Int
  b1:Bool
  b12:List (Int)
def z6k:List Sl:=[.k,.k,.k,.k,.k,.j,.k,.k,.sh (.ty 2),.j,.j,.j,.j,.j,.j,.j,.j,.j,.j,.j,.j]
def z6l:List ESh:=[.box (.agg [.ptr 1 [],.ty 2]),.box (.agg [.ty 4,.own 5 3]),.dead,.tail]
def zgn (a:Sl.Ts τ z6k) (b:ESh.Ts τ z6l):z2d:=⟨a.2.2.2.2.2.2.2.2.1,b.1.2.1,b.2.1.1,b.2.1.2.1⟩
def zgo (s:z2d):Sl.Ts τ z6k:=((),(),(),(),(),(),(),(),s.t8,(),(),(),(),(),(),(),(),(),(),(),(),())
def zgp (s:z2d):ESh.Ts τ z6l:=(((),s.b0,()),(s.b1,s.b12,()),(),(),())
def zgq:Lp τ:={ ts:=z6k,hs:=z6l,S:=z2d,to:=zgn,ot:=zgo,oh:=zgp,hk:=[2,2,5],tk:=[2],ot_to:=fun _ _=>rfl,oh_to:=fun _ _=>rfl }
def z4z (N:Nat) (l:List (List UInt8)) (b0:Int) (b1:Bool) (b12:List (Int)):Option (Int×Bool×(List (Int))) :=
 (iter N (fun (s1:z2d) next2 =>
 (bif (decide (s1.t8 < ((l).length:Int))) then
 (bif (ibB s1.t8 ((l).length:Int)) then
 ((z7c N (lget l s1.t8 default) s1.b1 s1.b12).bind fun r3 =>
 ((z2h N r3.1 s1.b0 r3.2.1 r3.2.2).bind fun r4 =>
 (next2 ⟨(IntKind.i64.wrap (s1.t8+1)),r4.1,r4.2.1,r4.2.2⟩)))
 else none)
 else
 (some (s1.b0,s1.b1,s1.b12)))) ⟨0,b0,b1,b12⟩)
def z73:Con τ:={ args:=[.ptr 0 [],.ty 229],L:=[.box (.agg [.ptr 1 [],.ty 48]),.box (.agg [.ty 4,.own 5 2]),.tail],ret:=.tup [],L':=[.box (.agg [.ptr 1 [],.ty 48]),.box (.agg [.ty 4,.own 5 3]),.dead,.tail],R:=Int×Bool×(List (Int)),dflt:=(default,default,default),F:=fun N a b=>z4z N a.2.1 b.1.2.1 b.2.1.1 b.2.1.2.1,of:=fun r=>((),(((),r.1,()),(r.2.1,r.2.2,()),(),(),())) }
noncomputable def zhv:Dat τ:={ D:=D0,tbl:=tblOf [(179,z9b),(138,z2n)],lp:=lpsOf [(1,zgq)],k0:=3,mu:=[],un:=[] }
theorem zjr:ConOk E C 171 z73 :=
  zj (D:=zhv) ⟨d0Ok,eGood,z7 ⟨zn4,⟨z4x,trivial⟩⟩,fun _=>rfl⟩ z73 (fun a b=>(b.1.2.1,b.2.1.1,b.2.1.2.1)) none (fun _ _=>rfl) rfl (fun _ _ h=>nomatch h) 1000000 (fn:=Tryz.f171) Tryz.func171 rfl (by kernel_rfl) (by kernel_rfl) rfl (by intro N a b; kernel_rfl)
def z3e (N:Nat) (op:GOp) (b0:Int) (b1:Bool) (b12:List (Int)):Option (Int×Bool×(List (Int))) :=
 ((z5 N [op.Stamp.Time] b0 b1 b12).bind fun r1 =>
 ((zb N [op.Stamp.Site,op.Kind] r1.1 r1.2.1 r1.2.2).bind fun r2 =>
 ((z5 N [op.Node,op.Parent] r2.1 r2.2.1 r2.2.2).bind fun r3 =>
 ((z4z N [op.Name,op.Key,op.Value] r3.1 r3.2.1 r3.2.2).bind fun r4 =>
 (some (r4.1,r4.2.1,r4.2.2))))))
def z5m:Con τ:={ args:=[.ptr 0 [],.ty 30],L:=[.box (.agg [.ptr 1 [],.ty 48]),.box (.agg [.ty 4,.own 5 2]),.tail],ret:=.tup [],L':=[.box (.agg [.ptr 1 [],.ty 48]),.box (.agg [.ty 4,.own 5 3]),.dead,.tail],R:=Int×Bool×(List (Int)),dflt:=(default,default,default),F:=fun N a b=>z3e N a.2.1 b.1.2.1 b.2.1.1 b.2.1.2.1,of:=fun r=>((),(((),r.1,()),(r.2.1,r.2.2,()),(),(),())) }
noncomputable def zm5:Dat τ:={ D:=D0,tbl:=tblOf [(103,z1l),(100,z10),(171,z73)],lp:=lpsOf [],k0:=3,mu:=[],un:=[] }
theorem zdj:ConOk E C 140 z5m :=
  zj (D:=zm5) ⟨d0Ok,eGood,z7 ⟨z26,⟨z1k,⟨zjr,trivial⟩⟩⟩,fun _=>rfl⟩ z5m (fun a b=>(b.1.2.1,b.2.1.1,b.2.1.2.1)) none (fun _ _=>rfl) rfl (fun _ _ h=>nomatch h) 1000000 (fn:=Tryz.f140) Tryz.func140 rfl (by kernel_rfl) (by kernel_rfl) rfl (by intro N a b; kernel_rfl)
structure z2x where
  t13:Int
  b0:Int
  b1:Bool
  b12:List (Int)
def z89:List Sl:=[.k,.k,.k,.k,.k,.j,.k,.k,.k,.k,.k,.k,.k,.sh (.ty 2),.j,.j,.j,.j,.j,.j,.j]
def z8a:List ESh:=[.box (.agg [.ptr 1 [],.ty 2]),.box (.agg [.ty 4,.own 5 4]),.keep,.dead,.tail]
def zjs (a:Sl.Ts τ z89) (b:ESh.Ts τ z8a):z2x:=⟨a.2.2.2.2.2.2.2.2.2.2.2.2.2.1,b.1.2.1,b.2.1.1,b.2.1.2.1⟩
def zjt (s:z2x):Sl.Ts τ z89:=((),(),(),(),(),(),(),(),(),(),(),(),(),s.t13,(),(),(),(),(),(),(),())
def zju (s:z2x):ESh.Ts τ z8a:=(((),s.b0,()),(s.b1,s.b12,()),(),(),(),())
def zjv:Lp τ:={ ts:=z89,hs:=z8a,S:=z2x,to:=zjs,ot:=zjt,oh:=zju,hk:=[2,2,1,5],tk:=[2,0,0,0,0,0,2],ot_to:=fun _ _=>rfl,oh_to:=fun _ _=>rfl }
def z2t (N:Nat) (l:List (GOp)) (b0:Int) (b1:Bool) (b12:List (Int)):Option (Int×Bool×(List (Int))) :=
 ((zb N [((l).length:Int)] b0 b1 b12).bind fun r1 =>
 (iter N (fun (s2:z2x) next3 =>
 (bif (decide (s2.t13 < ((l).length:Int))) then
 (bif (ibB s2.t13 ((l).length:Int)) then
 ((z3e N (⟨((lget l s2.t13 default).Stamp),(lget l s2.t13 default).Kind,(lget l s2.t13 default).Node,(lget l s2.t13 default).Parent,(lget l s2.t13 default).Name,(lget l s2.t13 default).Key,(lget l s2.t13 default).Value⟩:GOp) s2.b0 s2.b1 s2.b12).bind fun r4 =>
 (next3 ⟨(IntKind.i64.wrap (s2.t13+1)),r4.1,r4.2.1,r4.2.2⟩))
 else none)
 else
 (some (s2.b0,s2.b1,s2.b12)))) ⟨0,r1.1,r1.2.1,r1.2.2⟩))
def z50:Con τ:={ args:=[.ptr 0 [],.ty 31],L:=[.box (.agg [.ptr 1 [],.ty 48]),.box (.agg [.ty 4,.own 5 2]),.tail],ret:=.tup [],L':=[.box (.agg [.ptr 1 [],.ty 48]),.box (.agg [.ty 4,.own 5 3]),.dead,.tail],R:=Int×Bool×(List (Int)),dflt:=(default,default,default),F:=fun N a b=>z2t N a.2.1 b.1.2.1 b.2.1.1 b.2.1.2.1,of:=fun r=>((),(((),r.1,()),(r.2.1,r.2.2,()),(),(),())) }
noncomputable def zl5:Dat τ:={ D:=D0,tbl:=tblOf [(100,z10),(140,z5m)],lp:=lpsOf [(2,zjv)],k0:=3,mu:=[],un:=[] }
theorem zd2:ConOk E C 106 z50 :=
  zj (D:=zl5) ⟨d0Ok,eGood,z7 ⟨z1k,⟨zdj,trivial⟩⟩,fun _=>rfl⟩ z50 (fun a b=>(b.1.2.1,b.2.1.1,b.2.1.2.1)) none (fun _ _=>rfl) rfl (fun _ _ h=>nomatch h) 1000000 (fn:=Tryz.f106) Tryz.func106 rfl (by kernel_rfl) (by kernel_rfl) rfl (by intro N a b; kernel_rfl)
def z27 (N:Nat) (e:za) (b0:Int) (b1:Bool) (b12:List (Int)):Option (Int×Bool×(List (Int))) :=
 ((z5 N [e.Number] b0 b1 b12).bind fun r1 =>
 ((zb N (e.States.toList) r1.1 r1.2.1 r1.2.2).bind fun r2 =>
 ((z5 N (e.Seals.toList) r2.1 r2.2.1 r2.2.2).bind fun r3 =>
 ((zb N (e.Sponsor.toList) r3.1 r3.2.1 r3.2.2).bind fun r4 =>
 (some (r4.1,r4.2.1,r4.2.2))))))
def z45:Con τ:={ args:=[.ptr 0 [],.ty 36],L:=[.box (.agg [.ptr 1 [],.ty 48]),.box (.agg [.ty 4,.own 5 2]),.tail],ret:=.tup [],L':=[.box (.agg [.ptr 1 [],.ty 48]),.box (.agg [.ty 4,.own 5 3]),.dead,.tail],R:=Int×Bool×(List (Int)),dflt:=(default,default,default),F:=fun N a b=>z27 N a.2.1 b.1.2.1 b.2.1.1 b.2.1.2.1,of:=fun r=>((),(((),r.1,()),(r.2.1,r.2.2,()),(),(),())) }
noncomputable def zhw:Dat τ:={ D:=D0,tbl:=tblOf [(103,z1l),(100,z10)],lp:=lpsOf [],k0:=3,mu:=[],un:=[] }
theorem zbj:ConOk E C 107 z45 :=
  zj (D:=zhw) ⟨d0Ok,eGood,z7 ⟨z26,⟨z1k,trivial⟩⟩,fun _=>rfl⟩ z45 (fun a b=>(b.1.2.1,b.2.1.1,b.2.1.2.1)) none (fun _ _=>rfl) rfl (fun _ _ h=>nomatch h) 1000000 (fn:=Tryz.f107) Tryz.func107 rfl (by kernel_rfl) (by kernel_rfl) rfl (by intro N a b; kernel_rfl)
def z1m (N:Nat) (p:GPart) (b0:Int) (b1:Bool) (b12:List (Int)):Option (Int×Bool×(List (Int))) :=
 ((z5 N [p.Snap] b0 b1 b12).bind fun r1 =>
 ((zb N [p.Index,p.Many] r1.1 r1.2.1 r1.2.2).bind fun r2 =>
 ((z48 N p.Data r2.2.1 r2.2.2).bind fun r3 =>
 ((z2h N r3.1 r2.1 r3.2.1 r3.2.2).bind fun r4 =>
 (some (r4.1,r4.2.1,r4.2.2))))))
def z4k:Con τ:={ args:=[.ptr 0 [],.ty 39],L:=[.box (.agg [.ptr 1 [],.ty 48]),.box (.agg [.ty 4,.own 5 2]),.tail],ret:=.tup [],L':=[.box (.agg [.ptr 1 [],.ty 48]),.box (.agg [.ty 4,.own 5 3]),.dead,.tail],R:=Int×Bool×(List (Int)),dflt:=(default,default,default),F:=fun N a b=>z1m N a.2.1 b.1.2.1 b.2.1.1 b.2.1.2.1,of:=fun r=>((),(((),r.1,()),(r.2.1,r.2.2,()),(),(),())) }
noncomputable def zjw:Dat τ:={ D:=D0,tbl:=tblOf [(103,z1l),(100,z10),(141,z4y),(138,z2n)],lp:=lpsOf [],k0:=3,mu:=[],un:=[] }
theorem zca:ConOk E C 108 z4k :=
  zj (D:=zjw) ⟨d0Ok,eGood,z7 ⟨z26,⟨z1k,⟨zd1,⟨z4x,trivial⟩⟩⟩⟩,fun _=>rfl⟩ z4k (fun a b=>(b.1.2.1,b.2.1.1,b.2.1.2.1)) none (fun _ _=>rfl) rfl (fun _ _ h=>nomatch h) 1000000 (fn:=Tryz.f108) Tryz.func108 rfl (by kernel_rfl) (by kernel_rfl) rfl (by intro N a b; kernel_rfl)
def z1x (N:Nat) (e:z9) (b0:Int) (b1:Bool) (b12:List (Int)):Option (Int×Bool×(List (Int))) :=
 ((zb N [e.Kind] b0 b1 b12).bind fun r1 =>
 (bif (e.Kind==1) then
 ((z5 N [e.Session,e.Request] r1.1 r1.2.1 r1.2.2).bind fun r2 =>
 ((z3e N e.Op r2.1 r2.2.1 r2.2.2).bind fun r3 =>
 (some (r3.1,r3.2.1,r3.2.2))))
 else
 (bif (e.Kind==2) then
 ((zb N [e.Origin] r1.1 r1.2.1 r1.2.2).bind fun r4 =>
 ((z5 N [e.Seq] r4.1 r4.2.1 r4.2.2).bind fun r5 =>
 ((z2t N e.Ops r5.1 r5.2.1 r5.2.2).bind fun r6 =>
 (some (r6.1,r6.2.1,r6.2.2)))))
 else
 (bif (e.Kind==3) then
 ((z27 N e.Epoch r1.1 r1.2.1 r1.2.2).bind fun r7 =>
 (some (r7.1,r7.2.1,r7.2.2)))
 else
 (bif (e.Kind==4) then
 ((z5 N [e.Seq] r1.1 r1.2.1 r1.2.2).bind fun r8 =>
 ((zb N [e.From] r8.1 r8.2.1 r8.2.2).bind fun r9 =>
 ((z5 N (e.Vector_.toList) r9.1 r9.2.1 r9.2.2).bind fun r10 =>
 ((z5 N [e.Clock] r10.1 r10.2.1 r10.2.2).bind fun r11 =>
 (some (r11.1,r11.2.1,r11.2.2))))))
 else
 (bif (e.Kind==5) then
 ((z1m N e.Part r1.1 r1.2.1 r1.2.2).bind fun r12 =>
 (some (r12.1,r12.2.1,r12.2.2)))
 else
 (bif (e.Kind==6) then
 ((zb N [e.Site,e.Sponsor] r1.1 r1.2.1 r1.2.2).bind fun r13 =>
 (some (r13.1,r13.2.1,r13.2.2)))
 else
 (bif (e.Kind==7) then
 ((zb N [e.Site] r1.1 r1.2.1 r1.2.2).bind fun r14 =>
 (some (r14.1,r14.2.1,r14.2.2)))
 else
 (bif (e.Kind==8) then
 ((zb N [e.Site] r1.1 r1.2.1 r1.2.2).bind fun r15 =>
 ((z5 N [e.Length] r15.1 r15.2.1 r15.2.2).bind fun r16 =>
 (some (r16.1,r16.2.1,r16.2.2))))
 else
 (some (r1.1,r1.2.1,r1.2.2)))))))))))
def z46:Con τ:={ args:=[.ptr 0 [],.ty 41],L:=[.box (.agg [.ptr 1 [],.ty 48]),.box (.agg [.ty 4,.own 5 2]),.tail],ret:=.tup [],L':=[.box (.agg [.ptr 1 [],.ty 48]),.box (.agg [.ty 4,.own 5 3]),.dead,.tail],R:=Int×Bool×(List (Int)),dflt:=(default,default,default),F:=fun N a b=>z1x N a.2.1 b.1.2.1 b.2.1.1 b.2.1.2.1,of:=fun r=>((),(((),r.1,()),(r.2.1,r.2.2,()),(),(),())) }
noncomputable def zhx:Dat τ:={ D:=D0,tbl:=tblOf [(100,z10),(103,z1l),(140,z5m),(106,z50),(107,z45),(108,z4k)],lp:=lpsOf [],k0:=3,mu:=[],un:=[] }
theorem zbk:ConOk E C 105 z46 :=
  zj (D:=zhx) ⟨d0Ok,eGood,z7 ⟨z1k,⟨z26,⟨zdj,⟨zd2,⟨zbj,⟨zca,trivial⟩⟩⟩⟩⟩⟩,fun _=>rfl⟩ z46 (fun a b=>(b.1.2.1,b.2.1.1,b.2.1.2.1)) none (fun _ _=>rfl) rfl (fun _ _ h=>nomatch h) 1000000 (fn:=Tryz.f105) Tryz.func105 rfl (by kernel_rfl) (by kernel_rfl) rfl (by intro N a b; kernel_rfl)
structure z2p where
  t13:Int
  b0:Int
  b1:Bool
  b12:List (Int)
def z74:List Sl:=[.k,.k,.k,.k,.k,.j,.k,.k,.k,.k,.k,.k,.k,.sh (.ty 2),.j,.j,.j,.j,.j,.j,.j,.j,.j,.j,.j,.j,.j,.j,.j,.j,.j]
def z75:List ESh:=[.box (.agg [.ptr 1 [],.ty 2]),.box (.agg [.ty 4,.own 5 4]),.keep,.dead,.tail]
def zhy (a:Sl.Ts τ z74) (b:ESh.Ts τ z75):z2p:=⟨a.2.2.2.2.2.2.2.2.2.2.2.2.2.1,b.1.2.1,b.2.1.1,b.2.1.2.1⟩
def zhz (s:z2p):Sl.Ts τ z74:=((),(),(),(),(),(),(),(),(),(),(),(),(),s.t13,(),(),(),(),(),(),(),(),(),(),(),(),(),(),(),(),(),())
def zi0 (s:z2p):ESh.Ts τ z75:=(((),s.b0,()),(s.b1,s.b12,()),(),(),(),())
def zi1:Lp τ:={ ts:=z74,hs:=z75,S:=z2p,to:=zhy,ot:=zhz,oh:=zi0,hk:=[2,2,1,5],tk:=[2,0,0,0,0,0,2],ot_to:=fun _ _=>rfl,oh_to:=fun _ _=>rfl }
def z15 (N:Nat) (l:List (zc)) (b0:Int) (b1:Bool) (b12:List (Int)):Option (Int×Bool×(List (Int))) :=
 ((zb N [((l).length:Int)] b0 b1 b12).bind fun r1 =>
 (iter N (fun (s2:z2p) next3 =>
 (bif (decide (s2.t13 < ((l).length:Int))) then
 (bif (ibB s2.t13 ((l).length:Int)) then
 ((z5 N [(lget l s2.t13 default).Slot] s2.b0 s2.b1 s2.b12).bind fun r4 =>
 ((zp N ((lget l s2.t13 default).Ballot) r4.1 r4.2.1 r4.2.2).bind fun r5 =>
 ((z1x N (⟨((lget l s2.t13 default).Entry).Kind,((lget l s2.t13 default).Entry).Session,((lget l s2.t13 default).Entry).Request,(⟨((((lget l s2.t13 default).Entry).Op).Stamp),(((lget l s2.t13 default).Entry).Op).Kind,(((lget l s2.t13 default).Entry).Op).Node,(((lget l s2.t13 default).Entry).Op).Parent,(((lget l s2.t13 default).Entry).Op).Name,(((lget l s2.t13 default).Entry).Op).Key,(((lget l s2.t13 default).Entry).Op).Value⟩:GOp),((lget l s2.t13 default).Entry).Origin,((lget l s2.t13 default).Entry).Seq,((lget l s2.t13 default).Entry).Ops,(((lget l s2.t13 default).Entry).Epoch),((lget l s2.t13 default).Entry).From,((lget l s2.t13 default).Entry).Vector_,((lget l s2.t13 default).Entry).Clock,(((lget l s2.t13 default).Entry).Part),((lget l s2.t13 default).Entry).Site,((lget l s2.t13 default).Entry).Sponsor,((lget l s2.t13 default).Entry).Length⟩:z9) r5.1 r5.2.1 r5.2.2).bind fun r6 =>
 (next3 ⟨(IntKind.i64.wrap (s2.t13+1)),r6.1,r6.2.1,r6.2.2⟩))))
 else none)
 else
 (some (s2.b0,s2.b1,s2.b12)))) ⟨0,r1.1,r1.2.1,r1.2.2⟩))
def z8b:Con τ:={ args:=[.ptr 0 [],.ty 26],L:=[.box (.agg [.ptr 1 [],.ty 48]),.box (.agg [.ty 4,.own 5 2]),.tail],ret:=.tup [],L':=[.box (.agg [.ptr 1 [],.ty 48]),.box (.agg [.ty 4,.own 5 3]),.dead,.tail],R:=Int×Bool×(List (Int)),dflt:=(default,default,default),F:=fun N a b=>z15 N a.2.1 b.1.2.1 b.2.1.1 b.2.1.2.1,of:=fun r=>((),(((),r.1,()),(r.2.1,r.2.2,()),(),(),())) }
noncomputable def zjx:Dat τ:={ D:=D0,tbl:=tblOf [(100,z10),(103,z1l),(102,z3u),(105,z46)],lp:=lpsOf [(2,zi1)],k0:=3,mu:=[],un:=[] }
theorem zl6:ConOk E C 104 z8b :=
  zj (D:=zjx) ⟨d0Ok,eGood,z7 ⟨z1k,⟨z26,⟨zaz,⟨zbk,trivial⟩⟩⟩⟩,fun _=>rfl⟩ z8b (fun a b=>(b.1.2.1,b.2.1.1,b.2.1.2.1)) none (fun _ _=>rfl) rfl (fun _ _ h=>nomatch h) 1000000 (fn:=Tryz.f104) Tryz.func104 rfl (by kernel_rfl) (by kernel_rfl) rfl (by intro N a b; kernel_rfl)
def z6v (N:Nat) (m:GMsg) (b0:Int) (b1:Bool) (b12:List (Int)):Option (Int×Bool×(List (Int))) :=
 ((zb N [m.Kind] b0 b1 b12).bind fun r1 =>
 ((z3t N m.From r1.1 r1.2.1 r1.2.2).bind fun r2 =>
 ((z3t N m.To r2.1 r2.2.1 r2.2.2).bind fun r3 =>
 (bif (m.Kind==1) then
 (bif (m.Kind==1) then
 ((zp N m.Ballot r3.1 r3.2.1 r3.2.2).bind fun r4 =>
 ((z5 N [m.Slot] r4.1 r4.2.1 r4.2.2).bind fun r5 =>
 (some (r5.1,r5.2.1,r5.2.2))))
 else
 (bif (m.Kind==2) then
 ((zp N m.Ballot r3.1 r3.2.1 r3.2.2).bind fun r6 =>
 ((z5 N [m.Slot] r6.1 r6.2.1 r6.2.2).bind fun r7 =>
 ((z15 N m.List_ r7.1 r7.2.1 r7.2.2).bind fun r8 =>
 (some (r8.1,r8.2.1,r8.2.2)))))
 else
 (bif (m.Kind==3) then
 ((zp N m.Ballot r3.1 r3.2.1 r3.2.2).bind fun r9 =>
 ((z15 N m.List_ r9.1 r9.2.1 r9.2.2).bind fun r10 =>
 (some (r10.1,r10.2.1,r10.2.2))))
 else
 (bif (m.Kind==5) then
 ((zp N m.Ballot r3.1 r3.2.1 r3.2.2).bind fun r11 =>
 (some (r11.1,r11.2.1,r11.2.2)))
 else
 (bif (m.Kind==6) then
 ((z15 N m.List_ r3.1 r3.2.1 r3.2.2).bind fun r12 =>
 (some (r12.1,r12.2.1,r12.2.2)))
 else
 (bif (m.Kind==8) then
 ((z5 N [m.Slot] r3.1 r3.2.1 r3.2.2).bind fun r13 =>
 (some (r13.1,r13.2.1,r13.2.2)))
 else
 (bif (m.Kind==9) then
 ((z1x N m.Entry r3.1 r3.2.1 r3.2.2).bind fun r14 =>
 (some (r14.1,r14.2.1,r14.2.2)))
 else
 (bif (m.Kind==10) then
 ((z5 N [m.Number] r3.1 r3.2.1 r3.2.2).bind fun r15 =>
 ((z5 N (m.Vector_.toList) r15.1 r15.2.1 r15.2.2).bind fun r16 =>
 ((z5 N [m.Clock] r16.1 r16.2.1 r16.2.2).bind fun r17 =>
 (some (r17.1,r17.2.1,r17.2.2)))))
 else
 (bif (m.Kind==11) then
 ((z5 N [m.Number] r3.1 r3.2.1 r3.2.2).bind fun r18 =>
 ((zb N [m.Origin] r18.1 r18.2.1 r18.2.2).bind fun r19 =>
 ((z5 N [m.Slot] r19.1 r19.2.1 r19.2.2).bind fun r20 =>
 ((z2t N m.Ops r20.1 r20.2.1 r20.2.2).bind fun r21 =>
 (some (r21.1,r21.2.1,r21.2.2))))))
 else
 (bif (m.Kind==12) then
 ((z27 N m.Epoch r3.1 r3.2.1 r3.2.2).bind fun r22 =>
 (some (r22.1,r22.2.1,r22.2.2)))
 else
 (bif (m.Kind==13) then
 ((z1m N m.Part r3.1 r3.2.1 r3.2.2).bind fun r23 =>
 (some (r23.1,r23.2.1,r23.2.2)))
 else
 (bif (m.Kind==14) then
 ((z5 N [m.Number] r3.1 r3.2.1 r3.2.2).bind fun r24 =>
 ((z5 N (m.Vector_.toList) r24.1 r24.2.1 r24.2.2).bind fun r25 =>
 (some (r25.1,r25.2.1,r25.2.2))))
 else
 (bif (m.Kind==15) then
 ((z5 N [m.Slot] r3.1 r3.2.1 r3.2.2).bind fun r26 =>
 ((z1m N m.Part r26.1 r26.2.1 r26.2.2).bind fun r27 =>
 (some (r27.1,r27.2.1,r27.2.2))))
 else
 (some (r3.1,r3.2.1,r3.2.2)))))))))))))))
 else
 (bif (m.Kind==4) then
 (bif (m.Kind==4) then
 ((zp N m.Ballot r3.1 r3.2.1 r3.2.2).bind fun r28 =>
 ((z5 N [m.Slot] r28.1 r28.2.1 r28.2.2).bind fun r29 =>
 (some (r29.1,r29.2.1,r29.2.2))))
 else
 (bif (m.Kind==2) then
 ((zp N m.Ballot r3.1 r3.2.1 r3.2.2).bind fun r30 =>
 ((z5 N [m.Slot] r30.1 r30.2.1 r30.2.2).bind fun r31 =>
 ((z15 N m.List_ r31.1 r31.2.1 r31.2.2).bind fun r32 =>
 (some (r32.1,r32.2.1,r32.2.2)))))
 else
 (bif (m.Kind==3) then
 ((zp N m.Ballot r3.1 r3.2.1 r3.2.2).bind fun r33 =>
 ((z15 N m.List_ r33.1 r33.2.1 r33.2.2).bind fun r34 =>
 (some (r34.1,r34.2.1,r34.2.2))))
 else
 (bif (m.Kind==5) then
 ((zp N m.Ballot r3.1 r3.2.1 r3.2.2).bind fun r35 =>
 (some (r35.1,r35.2.1,r35.2.2)))
 else
 (bif (m.Kind==6) then
 ((z15 N m.List_ r3.1 r3.2.1 r3.2.2).bind fun r36 =>
 (some (r36.1,r36.2.1,r36.2.2)))
 else
 (bif (m.Kind==8) then
 ((z5 N [m.Slot] r3.1 r3.2.1 r3.2.2).bind fun r37 =>
 (some (r37.1,r37.2.1,r37.2.2)))
 else
 (bif (m.Kind==9) then
 ((z1x N m.Entry r3.1 r3.2.1 r3.2.2).bind fun r38 =>
 (some (r38.1,r38.2.1,r38.2.2)))
 else
 (bif (m.Kind==10) then
 ((z5 N [m.Number] r3.1 r3.2.1 r3.2.2).bind fun r39 =>
 ((z5 N (m.Vector_.toList) r39.1 r39.2.1 r39.2.2).bind fun r40 =>
 ((z5 N [m.Clock] r40.1 r40.2.1 r40.2.2).bind fun r41 =>
 (some (r41.1,r41.2.1,r41.2.2)))))
 else
 (bif (m.Kind==11) then
 ((z5 N [m.Number] r3.1 r3.2.1 r3.2.2).bind fun r42 =>
 ((zb N [m.Origin] r42.1 r42.2.1 r42.2.2).bind fun r43 =>
 ((z5 N [m.Slot] r43.1 r43.2.1 r43.2.2).bind fun r44 =>
 ((z2t N m.Ops r44.1 r44.2.1 r44.2.2).bind fun r45 =>
 (some (r45.1,r45.2.1,r45.2.2))))))
 else
 (bif (m.Kind==12) then
 ((z27 N m.Epoch r3.1 r3.2.1 r3.2.2).bind fun r46 =>
 (some (r46.1,r46.2.1,r46.2.2)))
 else
 (bif (m.Kind==13) then
 ((z1m N m.Part r3.1 r3.2.1 r3.2.2).bind fun r47 =>
 (some (r47.1,r47.2.1,r47.2.2)))
 else
 (bif (m.Kind==14) then
 ((z5 N [m.Number] r3.1 r3.2.1 r3.2.2).bind fun r48 =>
 ((z5 N (m.Vector_.toList) r48.1 r48.2.1 r48.2.2).bind fun r49 =>
 (some (r49.1,r49.2.1,r49.2.2))))
 else
 (bif (m.Kind==15) then
 ((z5 N [m.Slot] r3.1 r3.2.1 r3.2.2).bind fun r50 =>
 ((z1m N m.Part r50.1 r50.2.1 r50.2.2).bind fun r51 =>
 (some (r51.1,r51.2.1,r51.2.2))))
 else
 (some (r3.1,r3.2.1,r3.2.2)))))))))))))))
 else
 (bif (m.Kind==7) then
 ((zp N m.Ballot r3.1 r3.2.1 r3.2.2).bind fun r52 =>
 ((z5 N [m.Slot] r52.1 r52.2.1 r52.2.2).bind fun r53 =>
 (some (r53.1,r53.2.1,r53.2.2))))
 else
 (bif (m.Kind==2) then
 ((zp N m.Ballot r3.1 r3.2.1 r3.2.2).bind fun r54 =>
 ((z5 N [m.Slot] r54.1 r54.2.1 r54.2.2).bind fun r55 =>
 ((z15 N m.List_ r55.1 r55.2.1 r55.2.2).bind fun r56 =>
 (some (r56.1,r56.2.1,r56.2.2)))))
 else
 (bif (m.Kind==3) then
 ((zp N m.Ballot r3.1 r3.2.1 r3.2.2).bind fun r57 =>
 ((z15 N m.List_ r57.1 r57.2.1 r57.2.2).bind fun r58 =>
 (some (r58.1,r58.2.1,r58.2.2))))
 else
 (bif (m.Kind==5) then
 ((zp N m.Ballot r3.1 r3.2.1 r3.2.2).bind fun r59 =>
 (some (r59.1,r59.2.1,r59.2.2)))
 else
 (bif (m.Kind==6) then
 ((z15 N m.List_ r3.1 r3.2.1 r3.2.2).bind fun r60 =>
 (some (r60.1,r60.2.1,r60.2.2)))
 else
 (bif (m.Kind==8) then
 ((z5 N [m.Slot] r3.1 r3.2.1 r3.2.2).bind fun r61 =>
 (some (r61.1,r61.2.1,r61.2.2)))
 else
 (bif (m.Kind==9) then
 ((z1x N m.Entry r3.1 r3.2.1 r3.2.2).bind fun r62 =>
 (some (r62.1,r62.2.1,r62.2.2)))
 else
 (bif (m.Kind==10) then
 ((z5 N [m.Number] r3.1 r3.2.1 r3.2.2).bind fun r63 =>
 ((z5 N (m.Vector_.toList) r63.1 r63.2.1 r63.2.2).bind fun r64 =>
 ((z5 N [m.Clock] r64.1 r64.2.1 r64.2.2).bind fun r65 =>
 (some (r65.1,r65.2.1,r65.2.2)))))
 else
 (bif (m.Kind==11) then
 ((z5 N [m.Number] r3.1 r3.2.1 r3.2.2).bind fun r66 =>
 ((zb N [m.Origin] r66.1 r66.2.1 r66.2.2).bind fun r67 =>
 ((z5 N [m.Slot] r67.1 r67.2.1 r67.2.2).bind fun r68 =>
 ((z2t N m.Ops r68.1 r68.2.1 r68.2.2).bind fun r69 =>
 (some (r69.1,r69.2.1,r69.2.2))))))
 else
 (bif (m.Kind==12) then
 ((z27 N m.Epoch r3.1 r3.2.1 r3.2.2).bind fun r70 =>
 (some (r70.1,r70.2.1,r70.2.2)))
 else
 (bif (m.Kind==13) then
 ((z1m N m.Part r3.1 r3.2.1 r3.2.2).bind fun r71 =>
 (some (r71.1,r71.2.1,r71.2.2)))
 else
 (bif (m.Kind==14) then
 ((z5 N [m.Number] r3.1 r3.2.1 r3.2.2).bind fun r72 =>
 ((z5 N (m.Vector_.toList) r72.1 r72.2.1 r72.2.2).bind fun r73 =>
 (some (r73.1,r73.2.1,r73.2.2))))
 else
 (bif (m.Kind==15) then
 ((z5 N [m.Slot] r3.1 r3.2.1 r3.2.2).bind fun r74 =>
 ((z1m N m.Part r74.1 r74.2.1 r74.2.2).bind fun r75 =>
 (some (r75.1,r75.2.1,r75.2.2))))
 else
 (some (r3.1,r3.2.1,r3.2.2))))))))))))))))))))
def z8s:Con τ:={ args:=[.ptr 0 [],.ty 43],L:=[.box (.agg [.ptr 1 [],.ty 48]),.box (.agg [.ty 4,.own 5 2]),.tail],ret:=.tup [],L':=[.box (.agg [.ptr 1 [],.ty 48]),.box (.agg [.ty 4,.own 5 3]),.dead,.tail],R:=Int×Bool×(List (Int)),dflt:=(default,default,default),F:=fun N a b=>z6v N a.2.1 b.1.2.1 b.2.1.1 b.2.1.2.1,of:=fun r=>((),(((),r.1,()),(r.2.1,r.2.2,()),(),(),())) }
noncomputable def zl7:Dat τ:={ D:=D0,tbl:=tblOf [(100,z10),(101,z88),(102,z3u),(103,z1l),(104,z8b),(105,z46),(106,z50),(107,z45),(108,z4k)],lp:=lpsOf [],k0:=3,mu:=[],un:=[] }
theorem zm6:ConOk E C 53 z8s :=
  zj (D:=zl7) ⟨d0Ok,eGood,z7 ⟨z1k,⟨zl3,⟨zaz,⟨z26,⟨zl6,⟨zbk,⟨zd2,⟨zbj,⟨zca,trivial⟩⟩⟩⟩⟩⟩⟩⟩⟩,fun _=>rfl⟩ z8s (fun a b=>(b.1.2.1,b.2.1.1,b.2.1.2.1)) none (fun _ _=>rfl) rfl (fun _ _ h=>nomatch h) 1000000 (fn:=Tryz.f53) Tryz.func53 rfl (by kernel_rfl) (by kernel_rfl) rfl (by intro N a b; kernel_rfl)
def z9x (N:Nat) (s:List (Int)):Option ((List (Int))) :=
 (bif (lenB (0+(s).length) 1) then
 (some ([]++s))
 else none)
def zcb:Con τ:={ args:=[.nn 5],L:=[],ret:=.ty 37,L':=[],R:=(List (Int)),dflt:=default,F:=fun N a b=>z9x N a.1,of:=fun r=>(r,()) }
noncomputable def zl8:Dat τ:={ D:=D0,tbl:=tblOf [],lp:=lpsOf [],k0:=0,mu:=[],un:=[] }
theorem zm7:ConOk E C 40 zcb :=
  zj (D:=zl8) ⟨d0Ok,eGood,z7 trivial,fun _=>rfl⟩ zcb (fun a b=>a) none (fun _ _=>rfl) rfl (fun _ _ h=>nomatch h) 1000000 (fn:=Tryz.f40) Tryz.func40 rfl (by kernel_rfl) (by kernel_rfl) rfl (by intro N a b; kernel_rfl)
def zn5 (N:Nat)  : Option ((List (Int))) :=
 (some [])
def z8t:Con τ:={ args:=[.nil .slice],L:=[],ret:=.ty 37,L':=[],R:=(List (Int)),dflt:=default,F:=fun N a b=>zn5 N ,of:=fun r=>(r,()) }
noncomputable def zl9:Dat τ:={ D:=D0,tbl:=tblOf [],lp:=lpsOf [],k0:=0,mu:=[],un:=[] }
theorem zm8:ConOk E C 40 z8t :=
  zj (D:=zl9) ⟨d0Ok,eGood,z7 trivial,fun _=>rfl⟩ z8t (fun a b=>a) none (fun _ _=>rfl) rfl (fun _ _ h=>nomatch h) 1000000 (fn:=Tryz.f40) Tryz.func40 rfl (by kernel_rfl) (by kernel_rfl) rfl (by intro N a b; kernel_rfl)
def z2u (N:Nat) (s:List (Int)):Option ((List (Int))):=z9x N s
def z2r:Con τ:={ args:=[.ty 37],L:=[],ret:=.ty 37,L':=[],R:=(List (Int)),dflt:=default,F:=fun N a b=>z2u N a.1,of:=fun r=>(r,()) }
theorem z4d:ConOk E C 40 z2r:=by
  intro N a b r h
  obtain ⟨x0,u⟩:=a
  refine FnSpec.split (pre:=[]) (post:=[]) (fun h0=>?_) (zm7 N (x0,u) b r h)
  have h0:x0=[]:=List.map_eq_nil_iff.1 h0
  subst h0
  exact zm8 N ((),u) b r ((show z8t.F N ((),u) b=z2r.F N ([],u) b from by kernel_rfl).trans h)
def z8h (N:Nat) (b0:Bool) (b02:List (Int)):Option ((List (Int))×Bool×(List (Int))) :=
 ((z4n N b0 b02).bind fun r1 =>
 (bif r1.1 then
 (some ([],r1.2.1,r1.2.2))
 else
 ((z2u N r1.2.2).bind fun r2 =>
 (some (r2,r1.2.1,r1.2.2)))))
def z9y:Con τ:={ args:=[.ptr 0 []],L:=[.box (.agg [.ty 4,.own 5 1]),.tail],ret:=.ty 37,L':=[.box (.agg [.ty 4,.own 5 1]),.tail],R:=(List (Int))×Bool×(List (Int)),dflt:=(default,default,default),F:=fun N a b=>z8h N b.1.1 b.1.2.1,of:=fun r=>(r.1,((r.2.1,r.2.2,()),(),())) }
noncomputable def zn6:Dat τ:={ D:=D0,tbl:=tblOf [(113,z5l),(40,z2r)],lp:=lpsOf [],k0:=2,mu:=[],un:=[] }
theorem znu:ConOk E C 55 z9y :=
  zj (D:=zn6) ⟨d0Ok,eGood,z7 ⟨zdi,⟨z4d,trivial⟩⟩,fun _=>rfl⟩ z9y (fun a b=>(a,b.1.1,b.1.2.1)) none (fun _ _=>rfl) rfl (fun _ _ h=>nomatch h) 1000000 (fn:=Tryz.f55) Tryz.func55 rfl (by kernel_rfl) (by kernel_rfl) rfl (by intro N a b; kernel_rfl)
structure ze0 where
  sum:Int
  t11:Int
def znv:List Sl:=[.k,.k,.k,.sh (.ty 138),.k,.j,.k,.j,.j,.k,.k,.sh (.ty 2),.j,.j,.j,.j,.j,.j,.j,.j,.j,.j,.j,.j,.j,.j,.j,.j,.j,.j,.j,.j,.j,.j,.j,.j,.j,.j,.k,.k]
def znw:List ESh:=[]
def z10t (a:Sl.Ts τ znv) (b:ESh.Ts τ znw):ze0:=⟨a.2.2.2.1,a.2.2.2.2.2.2.2.2.2.2.2.1⟩
def z10u (s:ze0):Sl.Ts τ znv:=((),(),(),s.sum,(),(),(),(),(),(),(),s.t11,(),(),(),(),(),(),(),(),(),(),(),(),(),(),(),(),(),(),(),(),(),(),(),(),(),(),(),(),())
def z10v (s:ze0):ESh.Ts τ znw:=()
def z10w:Lp τ:={ ts:=znv,hs:=znw,S:=ze0,to:=z10t,ot:=z10u,oh:=z10v,hk:=[],tk:=[],ot_to:=fun _ _=>rfl,oh_to:=fun _ _=>rfl }
structure zc2 where
  sum:Int
  t17:Int
def znx:List Sl:=[.k,.k,.k,.sh (.ty 138),.k,.k,.k,.j,.j,.k,.k,.k,.k,.k,.k,.k,.k,.sh (.ty 2),.j,.j,.j,.j,.j,.j,.j,.j,.j,.j,.j,.j,.j,.j,.j,.j,.j,.j,.j,.k,.k,.k]
def zny:List ESh:=[]
def z10x (a:Sl.Ts τ znx) (b:ESh.Ts τ zny):zc2:=⟨a.2.2.2.1,a.2.2.2.2.2.2.2.2.2.2.2.2.2.2.2.2.2.1⟩
def z10y (s:zc2):Sl.Ts τ znx:=((),(),(),s.sum,(),(),(),(),(),(),(),(),(),(),(),(),(),s.t17,(),(),(),(),(),(),(),(),(),(),(),(),(),(),(),(),(),(),(),(),(),(),())
def z10z (s:zc2):ESh.Ts τ zny:=()
def z110:Lp τ:={ ts:=znx,hs:=zny,S:=zc2,to:=z10x,ot:=z10y,oh:=z10z,hk:=[],tk:=[],ot_to:=fun _ _=>rfl,oh_to:=fun _ _=>rfl }
structure z8u where
  sum:Int
  t25:Int
def zm9:List Sl:=[.k,.k,.k,.sh (.ty 138),.k,.k,.k,.k,.j,.k,.k,.k,.k,.k,.k,.k,.k,.k,.k,.k,.k,.k,.k,.k,.k,.sh (.ty 2),.j,.j,.j,.j,.j,.j,.j,.j,.j,.j,.k,.k,.k,.k]
def zma:List ESh:=[]
def zze (a:Sl.Ts τ zm9) (b:ESh.Ts τ zma):z8u:=⟨a.2.2.2.1,a.2.2.2.2.2.2.2.2.2.2.2.2.2.2.2.2.2.2.2.2.2.2.2.2.2.1⟩
def zzf (s:z8u):Sl.Ts τ zm9:=((),(),(),s.sum,(),(),(),(),(),(),(),(),(),(),(),(),(),(),(),(),(),(),(),(),(),s.t25,(),(),(),(),(),(),(),(),(),(),(),(),(),(),())
def zzg (s:z8u):ESh.Ts τ zma:=()
def zzh:Lp τ:={ ts:=zm9,hs:=zma,S:=z8u,to:=zze,ot:=zzf,oh:=zzg,hk:=[],tk:=[],ot_to:=fun _ _=>rfl,oh_to:=fun _ _=>rfl }
def znz (N:Nat) (l:List (List (Int))):Option (Int) :=
 (iter N (fun (s1:ze0) next2 =>
 (bif (decide (s1.t11 < ((l).length:Int))) then
 (bif (ibB s1.t11 ((l).length:Int)) then
 (iter N (fun (s3:zc2) next4 =>
 (bif (decide (s3.t17 < (((lget l s1.t11 default)).length:Int))) then
 (bif (ibB s3.t17 (((lget l s1.t11 default)).length:Int)) then
 (iter N (fun (s5:z8u) next6 =>
 (bif (decide (s5.t25 < 8)) then
 (bif ((bits .and .u32 s5.sum 1)==1) then
 (next6 ⟨(bits .xor .u32 (shr .u32 s5.sum 1) 3988292384),(IntKind.i64.wrap (s5.t25+1))⟩)
 else
 (next6 ⟨(shr .u32 s5.sum 1),(IntKind.i64.wrap (s5.t25+1))⟩))
 else
 (next4 ⟨s5.sum,(IntKind.i64.wrap (s3.t17+1))⟩))) ⟨(bits .xor .u32 s3.sum (IntKind.u32.wrap (lget (lget l s1.t11 default) s3.t17 default))),0⟩)
 else none)
 else
 (next2 ⟨s3.sum,(IntKind.i64.wrap (s1.t11+1))⟩))) ⟨s1.sum,0⟩)
 else none)
 else
 (some (bits .xor .u32 IntKind.u32.max s1.sum)))) ⟨4294967295,0⟩)
def zmb:Con τ:={ args:=[.ty 201],L:=[],ret:=.ty 138,L':=[],R:=Int,dflt:=default,F:=fun N a b=>znz N a.1,of:=fun r=>(r,()) }
noncomputable def z12o:Dat τ:={ D:=D0,tbl:=tblOf [],lp:=lpsOf [(3,z10w),(6,z110),(10,zzh)],k0:=0,mu:=[],un:=[] }
theorem zya:ConOk E C 112 zmb :=
  zj (D:=z12o) ⟨d0Ok,eGood,z7 trivial,fun _=>rfl⟩ zmb (fun a b=>a) none (fun _ _=>rfl) rfl (fun _ _ h=>nomatch h) 1000000 (fn:=Tryz.f112) Tryz.func112 rfl (by kernel_rfl) (by kernel_rfl) rfl (by intro N a b; kernel_rfl)
def zla (N:Nat) (sum:Int):Option ((List (Int))) :=
 (some [(IntKind.u8.wrap sum),(IntKind.u8.wrap (shr .u32 sum 8)),(IntKind.u8.wrap (shr .u32 sum 16)),(IntKind.u8.wrap (shr .u32 sum 24))])
def zif:Con τ:={ args:=[.ty 138],L:=[],ret:=.ty 37,L':=[],R:=(List (Int)),dflt:=default,F:=fun N a b=>zla N a.1,of:=fun r=>(r,()) }
noncomputable def z111:Dat τ:={ D:=D0,tbl:=tblOf [],lp:=lpsOf [],k0:=0,mu:=[],un:=[] }
theorem zwc:ConOk E C 111 zif :=
  zj (D:=z111) ⟨d0Ok,eGood,z7 trivial,fun _=>rfl⟩ zif (fun a b=>a) none (fun _ _=>rfl) rfl (fun _ _ h=>nomatch h) 1000000 (fn:=Tryz.f111) Tryz.func111 rfl (by kernel_rfl) (by kernel_rfl) rfl (by intro N a b; kernel_rfl)
def z7d (N:Nat) (n:Int):Option (Nat×(List (Int))) :=
 (bif (decide (n < 0)) then
 none
 else
 (bif (decide (0 < (IntKind.i64.wrap (n - 0)))) then
 (bif (mkB (IntKind.i64.wrap (n - 0)) 1) then
 (bif (cutB 0 0 ((((IntKind.i64.wrap (n - 0))).toNat:Nat):Int)) then
 (some (0,(List.replicate (((IntKind.i64.wrap (n - 0))).toNat) 0)))
 else none)
 else none)
 else
 (some (0,[]))))
def z9c:Con τ:={ args:=[.nil .slice,.ty 3],L:=[],ret:=.msl 5 0,L':=[.gbx 5],R:=Nat×(List (Int)),dflt:=(default,default),F:=fun N a b=>z7d N a.2.1,of:=fun r=>(r.1,(r.2,())) }
noncomputable def zmc:Dat τ:={ D:=D0,tbl:=tblOf [],lp:=lpsOf [],k0:=0,mu:=[22],un:=[] }
theorem zn7:ConOk E C 142 z9c :=
  zj (D:=zmc) ⟨d0Ok,eGood,z7 trivial,fun _=>rfl⟩ z9c (fun a b=>(a,b.1)) none (fun _ _=>rfl) rfl (fun _ _ h=>nomatch h) 1000000 (fn:=Tryz.f142) Tryz.func142 rfl (by kernel_rfl) (by kernel_rfl) rfl (by intro N a b; kernel_rfl)
structure z2q where
  size:Int
  t11:Int
def z76:List Sl:=[.k,.k,.k,.sh (.ty 2),.k,.j,.k,.k,.k,.k,.k,.sh (.ty 2),.j,.j,.j,.j,.j,.j,.j,.j,.j,.j,.j,.k,.k,.k,.k,.k,.k,.k,.k,.k,.k,.k,.k,.k]
def z77:List ESh:=[]
def zi2 (a:Sl.Ts τ z76) (b:ESh.Ts τ z77):z2q:=⟨a.2.2.2.1,a.2.2.2.2.2.2.2.2.2.2.2.1⟩
def zi3 (s:z2q):Sl.Ts τ z76:=((),(),(),s.size,(),(),(),(),(),(),(),s.t11,(),(),(),(),(),(),(),(),(),(),(),(),(),(),(),(),(),(),(),(),(),(),(),(),())
def zi4 (s:z2q):ESh.Ts τ z77:=()
def zi5:Lp τ:={ ts:=z76,hs:=z77,S:=z2q,to:=zi2,ot:=zi3,oh:=zi4,hk:=[],tk:=[],ot_to:=fun _ _=>rfl,oh_to:=fun _ _=>rfl }
structure z2e where
  newslice:Nat
  t27:Int
  g1:List (Int)
def z6m:List Sl:=[.k,.k,.k,.k,.k,.k,.sh (.msl 5 1),.k,.j,.k,.k,.k,.k,.k,.k,.k,.k,.k,.k,.k,.k,.k,.k,.k,.k,.k,.k,.sh (.ty 2),.j,.j,.j,.j,.j,.j,.j,.k]
def z6n:List ESh:=[.dead,.gbx 5]
def zgr (a:Sl.Ts τ z6m) (b:ESh.Ts τ z6n):z2e:=⟨a.2.2.2.2.2.2.1,a.2.2.2.2.2.2.2.2.2.2.2.2.2.2.2.2.2.2.2.2.2.2.2.2.2.2.2.1,b.2.1⟩
def zgs (s:z2e):Sl.Ts τ z6m:=((),(),(),(),(),(),s.newslice,(),(),(),(),(),(),(),(),(),(),(),(),(),(),(),(),(),(),(),(),s.t27,(),(),(),(),(),(),(),(),())
def zgt (s:z2e):ESh.Ts τ z6n:=((),s.g1,())
def zgu:Lp τ:={ ts:=z6m,hs:=z6n,S:=z2e,to:=zgr,ot:=zgs,oh:=zgt,hk:=[4],tk:=[],ot_to:=fun _ _=>rfl,oh_to:=fun _ _=>rfl }
def z5n (N:Nat) (slices:List (List (Int))):Option (Nat×(List (Int))) :=
 (iter N (fun (s1:z2q) next2 =>
 (bif (decide (s1.t11 < ((slices).length:Int))) then
 (bif (ibB s1.t11 ((slices).length:Int)) then
 (bif (decide ((IntKind.i64.wrap (s1.size+(((lget slices s1.t11 default)).length:Int))) < 0)) then
 none
 else
 (next2 ⟨(IntKind.i64.wrap (s1.size+(((lget slices s1.t11 default)).length:Int))),(IntKind.i64.wrap (s1.t11+1))⟩))
 else none)
 else
 ((z7d N s1.size).bind fun r3 =>
 (iter N (fun (s4:z2e) next5 =>
 (bif (decide (s4.t27 < ((slices).length:Int))) then
 (bif (ibB s4.t27 ((slices).length:Int)) then
 (bif ((lenB (s4.newslice+((lget slices s4.t27 default)).length) 1)&&(Nat.ble s4.newslice (s4.g1).length)) then
 (next5 ⟨(s4.newslice+((lget slices s4.t27 default)).length),(IntKind.i64.wrap (s4.t27+1)),(s4.g1.take s4.newslice++(lget slices s4.t27 default))⟩)
 else none)
 else none)
 else
 (some (s4.newslice,s4.g1)))) ⟨r3.1,0,r3.2⟩)))) ⟨0,0⟩)
def z8c:Con τ:={ args:=[.ty 201],L:=[],ret:=.msl 5 0,L':=[.gbx 5],R:=Nat×(List (Int)),dflt:=(default,default),F:=fun N a b=>z5n N a.1,of:=fun r=>(r.1,(r.2,())) }
noncomputable def zjy:Dat τ:={ D:=D0,tbl:=tblOf [(142,z9c)],lp:=lpsOf [(3,zi5),(11,zgu)],k0:=0,mu:=[33],un:=[] }
theorem zlb:ConOk E C 109 z8c :=
  zj (D:=zjy) ⟨d0Ok,eGood,z7 ⟨zn7,trivial⟩,fun _=>rfl⟩ z8c (fun a b=>(a,b.1)) none (fun _ _=>rfl) rfl (fun _ _ h=>nomatch h) 1000000 (fn:=Tryz.f109) Tryz.func109 rfl (by kernel_rfl) (by kernel_rfl) rfl (by intro N a b; kernel_rfl)
def z51 (N:Nat) (slices:List (List (Int))):Option ((List (Int))):=(z5n N slices).bind fun r=>bif Nat.ble r.1 (r.2).length then some ((r.2).take r.1) else none
def zb0:Con τ:={ args:=[.ty 201],L:=[],ret:=.ty 37,L':=[.dead],R:=(List (Int)),dflt:=default,F:=fun N a b=>z51 N a.1,of:=fun r=>(r,((),())) }
theorem zjz:ConOk E C 109 zb0:=by
  intro N a b r h
  have h:(z8c.F N a b).bind (fun r=>bif Nat.ble r.1 (r.2).length then some ((r.2).take r.1) else none)=some r:=h
  obtain ⟨q,h0,h1⟩:=Option.bind_eq_some_iff.1 h
  cases hb:Nat.ble q.1 (q.2).length with
  | false=>rw [hb] at h1; cases h1
  | true =>
    rw [hb] at h1
    have h2:(q.2).take q.1=r:=Option.some.inj h1
    subst h2
    exact FnSpec.msl (ents:=[.gbx 5 q.2]) (id:=0) cOk (zlb N a b q h0) rfl (Nat.le_of_ble_eq_true hb)
def zgv (N:Nat) (b:List (Int)):Option ((List (Int))×Int) :=
 (bif (decide (1048576 < ((b).length:Int))) then
 (some ([],3))
 else
 ((zc9 N ((b).length:Int)).bind fun r1 =>
 ((znz N [b]).bind fun r2 =>
 ((zla N r2).bind fun r3 =>
 ((z51 N [r1,b,r3]).bind fun r4 =>
 (some (r4,0)))))))
def zmd:Con τ:={ args:=[.ty 37],L:=[],ret:=.tup [.ty 37,.ty 48],L':=[],R:=(List (Int))×Int,dflt:=(default,default),F:=fun N a b=>zgv N a.1,of:=fun r=>((r.1,r.2,()),()) }
noncomputable def zzi:Dat τ:={ D:=D0,tbl:=tblOf [(110,zbi),(112,zmb),(111,zif),(109,zb0)],lp:=lpsOf [],k0:=0,mu:=[],un:=[] }
theorem z112:ConOk E C 54 zmd :=
  zj (D:=zzi) ⟨d0Ok,eGood,z7 ⟨zly,⟨zya,⟨zwc,⟨zjz,trivial⟩⟩⟩⟩,fun _=>rfl⟩ zmd (fun a b=>(a.1,a.2.1)) none (fun _ _=>rfl) rfl (fun _ _ h=>nomatch h) 1000000 (fn:=Tryz.f54) Tryz.func54 rfl (by kernel_rfl) (by kernel_rfl) rfl (by intro N a b; kernel_rfl)
def z4o (N:Nat) (m:GMsg):Option ((List (Int))×Int) :=
 ((z9o N m).bind fun r1 =>
 (bif (!(r1==0)) then
 (some ([],r1))
 else
 ((zgf N).bind fun r2 =>
 ((z6v N m 0 r2.1 r2.2).bind fun r3 =>
 (bif (!(r3.1==0)) then
 (some ([],r3.1))
 else
 ((z8h N r3.2.1 r3.2.2).bind fun r4 =>
 ((zgv N r4.1).bind fun r5 =>
 (some (r5.1,r5.2)))))))))
def ze1:Con τ:={ args:=[.ty 43],L:=[],ret:=.tup [.ty 37,.ty 48],L':=[],R:=(List (Int))×Int,dflt:=(default,default),F:=fun N a b=>z4o N a.1,of:=fun r=>((r.1,r.2,()),()) }
noncomputable def zt8:Dat τ:={ D:=D0,tbl:=tblOf [(51,za6),(52,zdz),(53,z8s),(55,z9y),(54,zmd)],lp:=lpsOf [],k0:=0,mu:=[],un:=[] }
theorem zus:ConOk E C 26 ze1 :=
  zj (D:=zt8) ⟨d0Ok,eGood,z7 ⟨zky,⟨zur,⟨zm6,⟨znu,⟨z112,trivial⟩⟩⟩⟩⟩,fun _=>rfl⟩ ze1 (fun a b=>(a.1,a.2.1)) none (fun _ _=>rfl) rfl (fun _ _ h=>nomatch h) 1000000 (fn:=Tryz.f26) Tryz.func26 rfl (by kernel_rfl) (by kernel_rfl) rfl (by intro N a b; kernel_rfl)
def z6o (N:Nat) (from_:GAddr) (to:GAddr) (data:List (Int)) (b0:Nat) (b02:Int) (b03:Bool) (g1:List (GSent)):Option (Int×Nat×Int×Bool×(List (GSent))) :=
 (bif ((lenB (b0+([(⟨(IntKind.i64.wrap (b02+1)),from_,to,data⟩:GSent)]).length) 64)&&(Nat.ble b0 (g1).length)) then
 (some ((IntKind.i64.wrap (b02+1)),(b0+([(⟨(IntKind.i64.wrap (b02+1)),from_,to,data⟩:GSent)]).length),(IntKind.i64.wrap (b02+1)),b03,(g1.take b0++[(⟨(IntKind.i64.wrap (b02+1)),from_,to,data⟩:GSent)])))
 else none)
def z7e:Con τ:={ args:=[.ptr 0 [.fld 0 0],.ty 23,.ty 23,.ty 37],L:=[.box (.agg [.agg [.msl 65 1,.ty 2],.ty 4]),.gbx 65],ret:=.ty 2,L':=[.box (.agg [.agg [.msl 65 2,.ty 2],.ty 4]),.dead,.gbx 65],R:=Int×Nat×Int×Bool×(List (GSent)),dflt:=(default,default,default,default,default),F:=fun N a b=>z6o N a.2.1 a.2.2.1 a.2.2.2.1 b.1.1.1 b.1.1.2.1 b.1.2.1 b.2.1,of:=fun r=>(r.1,(((r.2.1,r.2.2.1,()),r.2.2.2.1,()),(),r.2.2.2.2,())) }
noncomputable def zo0:Dat τ:={ D:=D0,tbl:=tblOf [],lp:=lpsOf [],k0:=2,mu:=[30],un:=[] }
theorem zes:ConOk E C 27 z7e :=
  zj (D:=zo0) ⟨d0Ok,eGood,z7 trivial,fun _=>rfl⟩ z7e (fun a b=>(a,b.1.1.1,b.1.1.2.1,b.1.2.1,b.2.2.1)) none (fun _ _=>rfl) rfl (fun _ _ h=>nomatch h) 1000000 (fn:=Tryz.f27) Tryz.func27 rfl (by kernel_rfl) (by kernel_rfl) rfl (by intro N a b; kernel_rfl)
structure z6p where
  many:Int
  t15:Int
  b0:Nat
  b02:Int
  b03:Bool
  g2:List (GSent)
def zb8:List Sl:=[.k,.k,.k,.k,.k,.k,.sh (.ty 2),.k,.j,.j,.j,.k,.k,.k,.k,.sh (.ty 2),.j,.j,.j,.j,.j,.j,.j,.j,.j,.j,.j,.j,.j,.j,.j,.j,.j,.j,.j,.j,.j,.j,.j,.j,.j,.j,.j,.j,.j,.j,.j,.k]
def zb9:List ESh:=[.box (.agg [.agg [.msl 65 2,.ty 2],.ty 4]),.dead,.gbx 65]
def zpa (a:Sl.Ts τ zb8) (b:ESh.Ts τ zb9):z6p:=⟨a.2.2.2.2.2.2.1,a.2.2.2.2.2.2.2.2.2.2.2.2.2.2.2.1,b.1.1.1,b.1.1.2.1,b.1.2.1,b.2.2.1⟩
def zpb (s:z6p):Sl.Ts τ zb8:=((),(),(),(),(),(),s.many,(),(),(),(),(),(),(),(),s.t15,(),(),(),(),(),(),(),(),(),(),(),(),(),(),(),(),(),(),(),(),(),(),(),(),(),(),(),(),(),(),(),(),())
def zpc (s:z6p):ESh.Ts τ zb9:=(((s.b0,s.b02,()),s.b03,()),(),s.g2,())
def zpd:Lp τ:={ ts:=zb8,hs:=zb9,S:=z6p,to:=zpa,ot:=zpb,oh:=zpc,hk:=[2,4],tk:=[2,0,0,0,0,0,0,0,0,0,0,2],ot_to:=fun _ _=>rfl,oh_to:=fun _ _=>rfl }
def z4e (N:Nat) (l:List (GMsg)) (b0:Nat) (b02:Int) (b03:Bool) (g1:List (GSent)):Option (Int×Int×Nat×Int×Bool×(List (GSent))) :=
 ((z2m N b0 b02 b03 g1).bind fun r1 =>
 (bif r1.1 then
 (some (0,2,r1.2.1,r1.2.2.1,r1.2.2.2.1,r1.2.2.2.2))
 else
 (iter N (fun (s2:z6p) next3 =>
 (bif (decide (s2.t15 < ((l).length:Int))) then
 (bif (ibB s2.t15 ((l).length:Int)) then
 ((z4o N (⟨(lget l s2.t15 default).Kind,((lget l s2.t15 default).From),((lget l s2.t15 default).To),((lget l s2.t15 default).Ballot),(lget l s2.t15 default).Slot,(lget l s2.t15 default).List_,(⟨((lget l s2.t15 default).Entry).Kind,((lget l s2.t15 default).Entry).Session,((lget l s2.t15 default).Entry).Request,(⟨((((lget l s2.t15 default).Entry).Op).Stamp),(((lget l s2.t15 default).Entry).Op).Kind,(((lget l s2.t15 default).Entry).Op).Node,(((lget l s2.t15 default).Entry).Op).Parent,(((lget l s2.t15 default).Entry).Op).Name,(((lget l s2.t15 default).Entry).Op).Key,(((lget l s2.t15 default).Entry).Op).Value⟩:GOp),((lget l s2.t15 default).Entry).Origin,((lget l s2.t15 default).Entry).Seq,((lget l s2.t15 default).Entry).Ops,(((lget l s2.t15 default).Entry).Epoch),((lget l s2.t15 default).Entry).From,((lget l s2.t15 default).Entry).Vector_,((lget l s2.t15 default).Entry).Clock,(((lget l s2.t15 default).Entry).Part),((lget l s2.t15 default).Entry).Site,((lget l s2.t15 default).Entry).Sponsor,((lget l s2.t15 default).Entry).Length⟩:z9),(lget l s2.t15 default).Number,(lget l s2.t15 default).Vector_,(lget l s2.t15 default).Clock,(lget l s2.t15 default).Origin,(lget l s2.t15 default).Ops,((lget l s2.t15 default).Epoch),((lget l s2.t15 default).Part)⟩:GMsg)).bind fun r4 =>
 (bif ((!(r4.2==0)) || (decide (16384≤((s2.b0:Nat):Int)))) then
 (next3 ⟨s2.many,(IntKind.i64.wrap (s2.t15+1)),s2.b0,s2.b02,s2.b03,s2.g2⟩)
 else
 ((z6o N ((lget l s2.t15 default).From) ((lget l s2.t15 default).To) r4.1 s2.b0 s2.b02 s2.b03 s2.g2).bind fun r5 =>
 (next3 ⟨(IntKind.i64.wrap (s2.many+1)),(IntKind.i64.wrap (s2.t15+1)),r5.2.1,r5.2.2.1,r5.2.2.2.1,r5.2.2.2.2⟩))))
 else none)
 else
 (some (s2.many,0,s2.b0,s2.b02,s2.b03,s2.g2)))) ⟨0,0,r1.2.1,r1.2.2.1,r1.2.2.2.1,r1.2.2.2.2⟩)))
def z9d:Con τ:={ args:=[.ptr 0 [],.ty 59],L:=[.box (.agg [.agg [.msl 65 1,.ty 2],.ty 4]),.gbx 65],ret:=.tup [.ty 3,.ty 48],L':=[.box (.agg [.agg [.msl 65 2,.ty 2],.ty 4]),.dead,.gbx 65],R:=Int×Int×Nat×Int×Bool×(List (GSent)),dflt:=(default,default,default,default,default,default),F:=fun N a b=>z4e N a.2.1 b.1.1.1 b.1.1.2.1 b.1.2.1 b.2.1,of:=fun r=>((r.1,r.2.1,()),(((r.2.2.1,r.2.2.2.1,()),r.2.2.2.2.1,()),(),r.2.2.2.2.2,())) }
noncomputable def zqs:Dat τ:={ D:=D0,tbl:=tblOf [(25,z3b),(26,ze1),(27,z7e)],lp:=lpsOf [(5,zpd)],k0:=2,mu:=[],un:=[] }
theorem zih:ConOk E C 10 z9d :=
  zj (D:=zqs) ⟨d0Ok,eGood,z7 ⟨z7a,⟨zus,⟨zes,trivial⟩⟩⟩,fun _=>rfl⟩ z9d (fun a b=>(a.1,a.2.1,b.1.1.1,b.1.1.2.1,b.1.2.1,b.2.2.1)) none (fun _ _=>rfl) rfl (fun _ _ h=>nomatch h) 1000000 (fn:=Tryz.f10) Tryz.func10 rfl (by kernel_rfl) (by kernel_rfl) rfl (by intro N a b; kernel_rfl)
def z7f (N:Nat) (s:GSent) (b0:Int):Option (Bool×Int) :=
 (some ((s.Number==b0),b0))
def z9e:Con τ:={ args:=[.ty 65,.ptr 0 []],L:=[.box (.ty 2)],ret:=.ty 4,L':=[.box (.ty 2)],R:=Bool×Int,dflt:=(default,default),F:=fun N a b=>z7f N a.1 b.1,of:=fun r=>(r.1,(r.2,())) }
noncomputable def zme:Dat τ:={ D:=D0,tbl:=tblOf [],lp:=lpsOf [],k0:=1,mu:=[],un:=[] }
theorem zn8:ConOk E C 118 z9e :=
  zj (D:=zme) ⟨d0Ok,eGood,z7 trivial,fun _=>rfl⟩ z9e (fun a b=>(a,b.1)) none (fun _ _=>rfl) rfl (fun _ _ h=>nomatch h) 1000000 (fn:=Tryz.f118) Tryz.func118 rfl (by kernel_rfl) (by kernel_rfl) rfl (by intro N a b; kernel_rfl)
structure z2v where
  t8:Int
  b1:Int
def z53:List Sl:=[.k,.k,.k,.k,.j,.j,.k,.k,.sh (.ty 2),.j,.j,.j,.j,.j,.j,.j,.j,.j,.j]
def z54:List ESh:=[.keep,.box (.ty 2)]
def zel (a:Sl.Ts τ z53) (b:ESh.Ts τ z54):z2v:=⟨a.2.2.2.2.2.2.2.2.1,b.2.1⟩
def zem (s:z2v):Sl.Ts τ z53:=((),(),(),(),(),(),(),(),s.t8,(),(),(),(),(),(),(),(),(),(),())
def zen (s:z2v):ESh.Ts τ z54:=((),s.b1,())
def zeo:Lp τ:={ ts:=z53,hs:=z54,S:=z2v,to:=zel,ot:=zem,oh:=zen,hk:=[4,2],tk:=[],ot_to:=fun _ _=>rfl,oh_to:=fun _ _=>rfl }
def z2f (N:Nat) (s:Nat) (g0:List (GSent)) (b1:Int):Option (Int×(List (GSent))×Int) :=
 (iter N (fun (s1:z2v) next2 =>
 (bif (decide (s1.t8 < ((s:Nat):Int))) then
 (bif (ibB s1.t8 ((s:Nat):Int)) then
 (bif (decide ((s1.t8).toNat < (g0).length)) then
 ((z7f N (⟨(g0.getD ((s1.t8).toNat) default).Number,((g0.getD ((s1.t8).toNat) default).From),((g0.getD ((s1.t8).toNat) default).To),(g0.getD ((s1.t8).toNat) default).Data⟩:GSent) s1.b1).bind fun r3 =>
 (bif r3.1 then
 (some (s1.t8,g0,r3.2))
 else
 (next2 ⟨(IntKind.i64.wrap (s1.t8+1)),r3.2⟩)))
 else none)
 else none)
 else
 (some ((-1),g0,s1.b1)))) ⟨0,b1⟩)
def z5o:Con τ:={ args:=[.msl 65 0,.fn 118 [.ptr 1 []]],L:=[.gbx 65,.box (.ty 2)],ret:=.ty 3,L':=[.gbx 65,.box (.ty 2)],R:=Int×(List (GSent))×Int,dflt:=(default,default,default),F:=fun N a b=>z2f N a.1 b.1 b.2.1,of:=fun r=>(r.1,(r.2.1,r.2.2,())) }
noncomputable def zfe:Dat τ:={ D:=D0,tbl:=tblOf [(118,z9e)],lp:=lpsOf [(2,zeo)],k0:=2,mu:=[],un:=[] }
theorem zgw:ConOk E C 87 z5o :=
  zj (D:=zfe) ⟨d0Ok,eGood,z7 ⟨zn8,trivial⟩,fun _=>rfl⟩ z5o (fun a b=>(a,b.1,b.2.1)) none (fun _ _=>rfl) rfl (fun _ _ h=>nomatch h) 1000000 (fn:=Tryz.f87) Tryz.func87 rfl (by kernel_rfl) (by kernel_rfl) rfl (by intro N a b; kernel_rfl)
def z9f (N:Nat) (number:Int) (b0:Nat) (b02:Int) (b03:Bool) (g1:List (GSent)):Option (Int×Bool×Nat×Int×Bool×(List (GSent))) :=
 ((z2f N b0 g1 number).bind fun r1 =>
 (some (r1.1,(decide (0≤r1.1)),b0,b02,b03,r1.2.1)))
def zal:Con τ:={ args:=[.ptr 0 [.fld 0 0],.ty 2],L:=[.box (.agg [.agg [.msl 65 1,.ty 2],.ty 4]),.gbx 65],ret:=.tup [.ty 3,.ty 4],L':=[.box (.agg [.agg [.msl 65 1,.ty 2],.ty 4]),.gbx 65],R:=Int×Bool×Nat×Int×Bool×(List (GSent)),dflt:=(default,default,default,default,default,default),F:=fun N a b=>z9f N a.2.1 b.1.1.1 b.1.1.2.1 b.1.2.1 b.2.1,of:=fun r=>((r.1,r.2.1,()),(((r.2.2.1,r.2.2.2.1,()),r.2.2.2.2.1,()),r.2.2.2.2.2,())) }
noncomputable def zo1:Dat τ:={ D:=D0,tbl:=tblOf [(87,z5o)],lp:=lpsOf [],k0:=2,mu:=[],un:=[] }
theorem zpe:ConOk E C 76 zal :=
  zj (D:=zo1) ⟨d0Ok,eGood,z7 ⟨zgw,trivial⟩,fun _=>rfl⟩ zal (fun a b=>(a.1,a.2.1,b.1.1.1,b.1.1.2.1,b.1.2.1,b.2.1)) none (fun _ _=>rfl) rfl (fun _ _ h=>nomatch h) 1000000 (fn:=Tryz.f76) Tryz.func76 rfl (by kernel_rfl) (by kernel_rfl) rfl (by intro N a b; kernel_rfl)
def z6q (N:Nat) (number:Int) (b0:Nat) (b02:Int) (b03:Bool) (g1:List (GSent)):Option (Int×Int×Nat×Int×Bool×(List (GSent))) :=
 ((z2m N b0 b02 b03 g1).bind fun r1 =>
 (bif r1.1 then
 (some (0,2,r1.2.1,r1.2.2.1,r1.2.2.2.1,r1.2.2.2.2))
 else
 ((z9f N number r1.2.1 r1.2.2.1 r1.2.2.2.1 r1.2.2.2.2).bind fun r2 =>
 (bif (!r2.2.1) then
 (some (0,4,r2.2.2.1,r2.2.2.2.1,r2.2.2.2.2.1,r2.2.2.2.2.2))
 else
 (some (r2.1,0,r2.2.2.1,r2.2.2.2.1,r2.2.2.2.2.1,r2.2.2.2.2.2))))))
def zaw:Con τ:={ args:=[.ptr 0 [],.ty 2],L:=[.box (.agg [.agg [.msl 65 1,.ty 2],.ty 4]),.gbx 65],ret:=.tup [.ty 3,.ty 48],L':=[.box (.agg [.agg [.msl 65 1,.ty 2],.ty 4]),.gbx 65],R:=Int×Int×Nat×Int×Bool×(List (GSent)),dflt:=(default,default,default,default,default,default),F:=fun N a b=>z6q N a.2.1 b.1.1.1 b.1.1.2.1 b.1.2.1 b.2.1,of:=fun r=>((r.1,r.2.1,()),(((r.2.2.1,r.2.2.2.1,()),r.2.2.2.2.1,()),r.2.2.2.2.2,())) }
noncomputable def zt9:Dat τ:={ D:=D0,tbl:=tblOf [(25,z3b),(76,zal)],lp:=lpsOf [],k0:=2,mu:=[],un:=[] }
theorem zmt:ConOk E C 31 zaw :=
  zj (D:=zt9) ⟨d0Ok,eGood,z7 ⟨z7a,⟨zpe,trivial⟩⟩,fun _=>rfl⟩ zaw (fun a b=>(a.1,a.2.1,b.1.1.1,b.1.1.2.1,b.1.2.1,b.2.1)) none (fun _ _=>rfl) rfl (fun _ _ h=>nomatch h) 1000000 (fn:=Tryz.f31) Tryz.func31 rfl (by kernel_rfl) (by kernel_rfl) rfl (by intro N a b; kernel_rfl)
def z5p (N:Nat) (s:Nat) (i:Int) (j:Int) (g0:List (GSent)):Option (Nat×(List (GSent))) :=
 (bif (cutW i j ((s:Nat):Int) ((s:Nat):Int)) then
 (bif (i==j) then
 (some (s,g0))
 else
 (bif (cutW 0 i ((s:Nat):Int) ((s:Nat):Int)) then
 (bif (cutW j ((s:Nat):Int) ((s:Nat):Int) ((s:Nat):Int)) then
 (bif (((lenB ((i).toNat+(((g0.drop (0+(j).toNat)).take (s - (j).toNat))).length) 64)&&(Nat.ble ((i).toNat) (g0).length))&&(Nat.ble ((0+(j).toNat)+(s - (j).toNat)) (g0).length)) then
 (bif (cutW ((((i).toNat+(((g0.drop (0+(j).toNat)).take (s - (j).toNat))).length):Nat):Int) ((s:Nat):Int) (((max s ((i).toNat+(((g0.drop (0+(j).toNat)).take (s - (j).toNat))).length)):Nat):Int) (((max s ((i).toNat+(((g0.drop (0+(j).toNat)).take (s - (j).toNat))).length)):Nat):Int)) then
 (some (((i).toNat+(((g0.drop (0+(j).toNat)).take (s - (j).toNat))).length),(zu0 (g0.take ((i).toNat)++((g0.drop (0+(j).toNat)).take (s - (j).toNat))) (0+(((((i).toNat+(((g0.drop (0+(j).toNat)).take (s - (j).toNat))).length):Nat):Int)).toNat) ((((s:Nat):Int)).toNat - (((((i).toNat+(((g0.drop (0+(j).toNat)).take (s - (j).toNat))).length):Nat):Int)).toNat) (⟨0,(⟨0,0⟩:GAddr),(⟨0,0⟩:GAddr),[]⟩:GSent))))
 else none)
 else none)
 else none)
 else none))
 else none)
def z8d:Con τ:={ args:=[.msl 65 0,.ty 3,.ty 3],L:=[.gbx 65],ret:=.msl 65 1,L':=[.dead,.gbx 65],R:=Nat×(List (GSent)),dflt:=(default,default),F:=fun N a b=>z5p N a.1 a.2.1 a.2.2.1 b.1,of:=fun r=>(r.1,((),r.2,())) }
noncomputable def zk0:Dat τ:={ D:=D0,tbl:=tblOf [],lp:=lpsOf [],k0:=1,mu:=[13,22,25,26,31],un:=[] }
theorem zlc:ConOk E C 32 z8d :=
  zj (D:=zk0) ⟨d0Ok,eGood,z7 trivial,fun _=>rfl⟩ z8d (fun a b=>(a,b.2.1)) none (fun _ _=>rfl) rfl (fun _ _ h=>nomatch h) 1000000 (fn:=Tryz.f32) Tryz.func32 rfl (by kernel_rfl) (by kernel_rfl) rfl (by intro N a b; kernel_rfl)
structure zax where
  u:Int
  t8:Int
def zk1:List Sl:=[.k,.k,.j,.j,.j,.sh (.ty 12),.j,.j,.sh (.ty 2),.j,.j,.j,.j,.j,.j,.j,.j,.j,.j,.j,.j,.j,.j,.j,.j,.j,.j,.j,.j,.j,.j,.j,.j,.j,.j,.j,.j,.j,.j,.j,.j,.j,.j,.j,.j,.j,.j,.j,.j,.j,.j,.j,.j,.j,.j,.j,.j,.j]
def zk2:List ESh:=[]
def zxu (a:Sl.Ts τ zk1) (b:ESh.Ts τ zk2):zax:=⟨a.2.2.2.2.2.1,a.2.2.2.2.2.2.2.2.1⟩
def zxv (s:zax):Sl.Ts τ zk1:=((),(),(),(),(),s.u,(),(),s.t8,(),(),(),(),(),(),(),(),(),(),(),(),(),(),(),(),(),(),(),(),(),(),(),(),(),(),(),(),(),(),(),(),(),(),(),(),(),(),(),(),(),(),(),(),(),(),(),(),(),())
def zxw (s:zax):ESh.Ts τ zk2:=()
def zxx:Lp τ:={ ts:=zk1,hs:=zk2,S:=zax,to:=zxu,ot:=zxv,oh:=zxw,hk:=[],tk:=[],ot_to:=fun _ _=>rfl,oh_to:=fun _ _=>rfl }
def ze2 (N:Nat) (b:List (Int)):Option (Int×Int×Int) :=
 (iter N (fun (s1:zax) next2 =>
 (bif (decide (s1.t8 < 10)) then
 (bif (decide (((b).length:Int)≤s1.t8)) then
 (some (0,0,10))
 else
 (bif (ibB s1.t8 ((b).length:Int)) then
 (bif (((s1.t8==9)&&(decide (1 < (lget b s1.t8 default)))) || (((lget b s1.t8 default)==0)&&(decide (0 < s1.t8)))) then
 (some (0,0,11))
 else
 (bif (decide (0≤(IntKind.i64.wrap (7 * s1.t8)))) then
 (bif (decide ((lget b s1.t8 default) < 128)) then
 (bif ((bits .and .u64 (bits .or .u64 s1.u (shl .u64 (IntKind.u64.wrap (bits .and .u8 (lget b s1.t8 default) 127)) (IntKind.i64.wrap (7 * s1.t8)))) 1)==1) then
 (some ((IntKind.i64.wrap (bits .xor .u64 IntKind.u64.max (shr .u64 (bits .or .u64 s1.u (shl .u64 (IntKind.u64.wrap (bits .and .u8 (lget b s1.t8 default) 127)) (IntKind.i64.wrap (7 * s1.t8)))) 1))),(IntKind.i64.wrap (s1.t8+1)),0))
 else
 (some ((IntKind.i64.wrap (shr .u64 (bits .or .u64 s1.u (shl .u64 (IntKind.u64.wrap (bits .and .u8 (lget b s1.t8 default) 127)) (IntKind.i64.wrap (7 * s1.t8)))) 1)),(IntKind.i64.wrap (s1.t8+1)),0)))
 else
 (next2 ⟨(bits .or .u64 s1.u (shl .u64 (IntKind.u64.wrap (bits .and .u8 (lget b s1.t8 default) 127)) (IntKind.i64.wrap (7 * s1.t8)))),(IntKind.i64.wrap (s1.t8+1))⟩))
 else none))
 else none))
 else
 (some (0,0,11)))) ⟨0,0⟩)
def zd3:Con τ:={ args:=[.ty 37],L:=[],ret:=.tup [.ty 2,.ty 3,.ty 48],L':=[],R:=Int×Int×Int,dflt:=(default,default,default),F:=fun N a b=>ze2 N a.1,of:=fun r=>((r.1,r.2.1,r.2.2,()),()) }
noncomputable def zzj:Dat τ:={ D:=D0,tbl:=tblOf [],lp:=lpsOf [(3,zxx)],k0:=0,mu:=[],un:=[] }
theorem zo2:ConOk E C 119 zd3 :=
  zj (D:=zzj) ⟨d0Ok,eGood,z7 trivial,fun _=>rfl⟩ zd3 (fun a b=>(a.1,a.2.1,a.2.2.1)) none (fun _ _=>rfl) rfl (fun _ _ h=>nomatch h) 1000000 (fn:=Tryz.f119) Tryz.func119 rfl (by kernel_rfl) (by kernel_rfl) rfl (by intro N a b; kernel_rfl)
structure z3v where
  t13:Int
def zam:List Sl:=[.k,.k,.k,.k,.j,.j,.k,.k,.k,.k,.k,.k,.k,.sh (.ty 2),.j,.j,.j,.j,.j,.j,.j,.j,.j,.j,.j,.j]
def zan:List ESh:=[]
def zo3 (a:Sl.Ts τ zam) (b:ESh.Ts τ zan):z3v:=⟨a.2.2.2.2.2.2.2.2.2.2.2.2.2.1⟩
def zo4 (s:z3v):Sl.Ts τ zam:=((),(),(),(),(),(),(),(),(),(),(),(),(),s.t13,(),(),(),(),(),(),(),(),(),(),(),(),())
def zo5 (s:z3v):ESh.Ts τ zan:=()
def zo6:Lp τ:={ ts:=zam,hs:=zan,S:=z3v,to:=zo3,ot:=zo4,oh:=zo5,hk:=[],tk:=[],ot_to:=fun _ _=>rfl,oh_to:=fun _ _=>rfl }
def za7 (N:Nat) (s1_:List (Int)) (s2_:List (Int)):Option (Bool) :=
 (bif (!(((s1_).length:Int)==((s2_).length:Int))) then
 (some false)
 else
 (iter N (fun (s1:z3v) next2 =>
 (bif (decide (s1.t13 < ((s1_).length:Int))) then
 (bif (ibB s1.t13 ((s1_).length:Int)) then
 (bif (ibB s1.t13 ((s2_).length:Int)) then
 (bif (!((lget s1_ s1.t13 default)==(lget s2_ s1.t13 default))) then
 (some false)
 else
 (next2 ⟨(IntKind.i64.wrap (s1.t13+1))⟩))
 else none)
 else none)
 else
 (some true))) ⟨0⟩))
def zba:Con τ:={ args:=[.ty 37,.ty 37],L:=[],ret:=.ty 4,L':=[],R:=Bool,dflt:=default,F:=fun N a b=>za7 N a.1 a.2.1,of:=fun r=>(r,()) }
noncomputable def zpf:Dat τ:={ D:=D0,tbl:=tblOf [],lp:=lpsOf [(4,zo6)],k0:=0,mu:=[],un:=[] }
theorem zqt:ConOk E C 120 zba :=
  zj (D:=zpf) ⟨d0Ok,eGood,z7 trivial,fun _=>rfl⟩ zba (fun a b=>a) none (fun _ _=>rfl) rfl (fun _ _ h=>nomatch h) 1000000 (fn:=Tryz.f120) Tryz.func120 rfl (by kernel_rfl) (by kernel_rfl) rfl (by intro N a b; kernel_rfl)
end Go.Proofs.YtddpmkmgbdedlaaGreat
