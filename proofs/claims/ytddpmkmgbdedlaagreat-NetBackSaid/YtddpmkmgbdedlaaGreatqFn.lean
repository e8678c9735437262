/-
The functions of this seat,as plain functions over typed data,each with its contract. Printed by wip/tools/fngen.py.
-/
import Derived.Test.YtddpmkmgbdedlaaGreatqFna
import Derived.Test.YtddpmkmgbdedlaaGreatqTvX
import Derived.KernelRfl
set_option linter.unusedVariables false
set_option maxRecDepth 100000
namespace Go.Proofs.YtddpmkmgbdedlaaGreat
open Go Go.Ev
def zev (N:Nat) (b:List (Int)):Option ((List (Int))×Int×Int) :=
 ((ze2 N b).bind fun r1 =>
 (bif (!(r1.2.2==0)) then
 (some ([],0,r1.2.2))
 else
 (bif (decide (r1.1 < 0)) then
 (some ([],0,11))
 else
 (bif (decide (1048576 < r1.1)) then
 (some ([],0,3))
 else
 (bif (decide ((IntKind.i64.wrap (((b).length:Int) - r1.2.1)) < (IntKind.i64.wrap (r1.1+4)))) then
 (some ([],0,10))
 else
 (bif (cutB (IntKind.i64.wrap (r1.2.1+r1.1)) (IntKind.i64.wrap ((IntKind.i64.wrap (r1.2.1+r1.1))+4)) ((b).length:Int)) then
 (bif (cutB r1.2.1 (IntKind.i64.wrap (r1.2.1+r1.1)) ((b).length:Int)) then
 ((znz N [(cut b r1.2.1 (IntKind.i64.wrap (r1.2.1+r1.1)))]).bind fun r2 =>
 ((zla N r2).bind fun r3 =>
 ((za7 N (cut b (IntKind.i64.wrap (r1.2.1+r1.1)) (IntKind.i64.wrap ((IntKind.i64.wrap (r1.2.1+r1.1))+4))) r3).bind fun r4 =>
 (bif (!r4) then
 (some ([],0,12))
 else
 (bif (cutB r1.2.1 (IntKind.i64.wrap (r1.2.1+r1.1)) ((b).length:Int)) then
 ((z2u N (cut b r1.2.1 (IntKind.i64.wrap (r1.2.1+r1.1)))).bind fun r5 =>
 (some (r5,(IntKind.i64.wrap ((IntKind.i64.wrap (r1.2.1+r1.1))+4)),0)))
 else none)))))
 else none)
 else none))))))
def zfj:Con τ:={ args:=[.ty 37],L:=[],ret:=.tup [.ty 37,.ty 3,.ty 48],L':=[],R:=(List (Int))×Int×Int,dflt:=(default,default,default),F:=fun N a b=>zev N a.1,of:=fun r=>((r.1,r.2.1,r.2.2,()),()) }
noncomputable def zvq:Dat τ:={ D:=D0,tbl:=tblOf [(119,zd3),(112,zmb),(111,zif),(120,zba),(40,z2r)],lp:=lpsOf [],k0:=0,mu:=[],un:=[] }
theorem zxp:ConOk E C 77 zfj :=
  zj (D:=zvq) ⟨d0Ok,eGood,z7 ⟨zo2,⟨zya,⟨zwc,⟨zqt,⟨z4d,trivial⟩⟩⟩⟩⟩,fun _=>rfl⟩ zfj (fun a b=>(a.1,a.2.1,a.2.2.1)) none (fun _ _=>rfl) rfl (fun _ _ h=>nomatch h) 1000000 (fn:=Tryz.f77) Tryz.func77 rfl (by kernel_rfl) (by kernel_rfl) rfl (by intro N a b; kernel_rfl)
def zch (N:Nat) (b:List (Int)):Option (z4) :=
 ((z2u N b).bind fun r1 =>
 (some (⟨true,r1⟩:z4)))
def zdp:Con τ:={ args:=[.ty 37],L:=[],ret:=.ptr 0 [],L':=[.box (.ty 186)],R:=z4,dflt:=default,F:=fun N a b=>zch N a.1,of:=fun r=>((),(r,())) }
noncomputable def zsq:Dat τ:={ D:=D0,tbl:=tblOf [(40,z2r)],lp:=lpsOf [],k0:=0,mu:=[],un:=[] }
theorem zub:ConOk E C 78 zdp :=
  zj (D:=zsq) ⟨d0Ok,eGood,z7 ⟨z4d,trivial⟩,fun _=>rfl⟩ zdp (fun a b=>b.1) none (fun _ _=>rfl) rfl (fun _ _ h=>nomatch h) 1000000 (fn:=Tryz.f78) Tryz.func78 rfl (by kernel_rfl) (by kernel_rfl) rfl (by intro N a b; kernel_rfl)
def z2z (N:Nat) (b0:z4):Option (Bool×z4) :=
 (some ((!b0.made),b0))
def z3l:Con τ:={ args:=[.ptr 0 []],L:=[.box (.ty 186)],ret:=.ty 4,L':=[.box (.ty 186)],R:=Bool×z4,dflt:=(default,default),F:=fun N a b=>z2z N b.1,of:=fun r=>(r.1,(r.2,())) }
noncomputable def zlp:Dat τ:={ D:=D0,tbl:=tblOf [],lp:=lpsOf [],k0:=1,mu:=[],un:=[] }
theorem z9r:ConOk E C 123 z3l :=
  zj (D:=zlp) ⟨d0Ok,eGood,z7 trivial,fun _=>rfl⟩ z3l (fun a b=>(a,b.1)) none (fun _ _=>rfl) rfl (fun _ _ h=>nomatch h) 1000000 (fn:=Tryz.f123) Tryz.func123 rfl (by kernel_rfl) (by kernel_rfl) rfl (by intro N a b; kernel_rfl)
def z8e (N:Nat) (b0:z4):Option (Int×Int×z4) :=
 ((z2z N b0).bind fun r1 =>
 (bif r1.1 then
 (some (0,2,r1.2))
 else
 ((ze2 N r1.2.b).bind fun r2 =>
 (bif (cutB r2.2.1 ((r1.2.b).length:Int) ((r1.2.b).length:Int)) then
 (some (r2.1,r2.2.2,(⟨r1.2.made,(cut r1.2.b r2.2.1 ((r1.2.b).length:Int))⟩:z4)))
 else none))))
def z9s:Con τ:={ args:=[.ptr 0 []],L:=[.box (.ty 186)],ret:=.tup [.ty 2,.ty 48],L':=[.box (.ty 186)],R:=Int×Int×z4,dflt:=(default,default,default),F:=fun N a b=>z8e N b.1,of:=fun r=>((r.1,r.2.1,()),(r.2.2,())) }
noncomputable def zmx:Dat τ:={ D:=D0,tbl:=tblOf [(123,z3l),(119,zd3)],lp:=lpsOf [],k0:=1,mu:=[],un:=[] }
theorem znj:ConOk E C 180 z9s :=
  zj (D:=zmx) ⟨d0Ok,eGood,z7 ⟨z9r,⟨zo2,trivial⟩⟩,fun _=>rfl⟩ z9s (fun a b=>(a.1,a.2.1,b.1)) none (fun _ _=>rfl) rfl (fun _ _ h=>nomatch h) 1000000 (fn:=Tryz.f180) Tryz.func180 rfl (by kernel_rfl) (by kernel_rfl) rfl (by intro N a b; kernel_rfl)
def z1h (N:Nat) (e:Int) (b0:Int) (b1:z4):Option (Int×z4) :=
 (bif (b0==0) then
 (some (e,b1))
 else
 (some (b0,b1)))
def z2k:Con τ:={ args:=[.ptr 0 [],.ty 48],L:=[.box (.agg [.ptr 1 [],.ty 48]),.box (.ty 186)],ret:=.tup [],L':=[.box (.agg [.ptr 1 [],.ty 48]),.box (.ty 186)],R:=Int×z4,dflt:=(default,default),F:=fun N a b=>z1h N a.2.1 b.1.2.1 b.2.1,of:=fun r=>((),(((),r.1,()),r.2,())) }
noncomputable def zix:Dat τ:={ D:=D0,tbl:=tblOf [],lp:=lpsOf [],k0:=2,mu:=[],un:=[] }
theorem z4q:ConOk E C 80 z2k :=
  zj (D:=zix) ⟨d0Ok,eGood,z7 trivial,fun _=>rfl⟩ z2k (fun a b=>(b.1.2.1,b.2.1)) none (fun _ _=>rfl) rfl (fun _ _ h=>nomatch h) 1000000 (fn:=Tryz.f80) Tryz.func80 rfl (by kernel_rfl) (by kernel_rfl) rfl (by intro N a b; kernel_rfl)
def zd (N:Nat) (b0:Int) (b1:z4):Option (Int×Int×z4) :=
 (bif (!(b0==0)) then
 (some (0,b0,b1))
 else
 ((z8e N b1).bind fun r1 =>
 ((z1h N r1.2.1 b0 r1.2.2).bind fun r2 =>
 (some (r1.1,r2.1,r2.2)))))
def zi:Con τ:={ args:=[.ptr 0 []],L:=[.box (.agg [.ptr 1 [],.ty 48]),.box (.ty 186)],ret:=.ty 2,L':=[.box (.agg [.ptr 1 [],.ty 48]),.box (.ty 186)],R:=Int×Int×z4,dflt:=(default,default,default),F:=fun N a b=>zd N b.1.2.1 b.2.1,of:=fun r=>(r.1,(((),r.2.1,()),r.2.2,())) }
noncomputable def zk8:Dat τ:={ D:=D0,tbl:=tblOf [(180,z9s),(80,z2k)],lp:=lpsOf [],k0:=2,mu:=[],un:=[] }
theorem zn:ConOk E C 172 zi :=
  zj (D:=zk8) ⟨d0Ok,eGood,z7 ⟨znj,⟨z4q,trivial⟩⟩,fun _=>rfl⟩ zi (fun a b=>(a,b.1.2.1,b.2.1)) none (fun _ _=>rfl) rfl (fun _ _ h=>nomatch h) 1000000 (fn:=Tryz.f172) Tryz.func172 rfl (by kernel_rfl) (by kernel_rfl) rfl (by intro N a b; kernel_rfl)
def ze (N:Nat) (b0:Int) (b1:z4):Option (Int×Int×z4) :=
 ((zd N b0 b1).bind fun r1 =>
 (bif (!(r1.1==(IntKind.i64.wrap (IntKind.i32.wrap r1.1)))) then
 (some ((-2),r1.2.1,r1.2.2))
 else
 (some (r1.1,r1.2.1,r1.2.2))))
def zt:Con τ:={ args:=[.ptr 0 []],L:=[.box (.agg [.ptr 1 [],.ty 48]),.box (.ty 186)],ret:=.ty 3,L':=[.box (.agg [.ptr 1 [],.ty 48]),.box (.ty 186)],R:=Int×Int×z4,dflt:=(default,default,default),F:=fun N a b=>ze N b.1.2.1 b.2.1,of:=fun r=>(r.1,(((),r.2.1,()),r.2.2,())) }
noncomputable def zh3:Dat τ:={ D:=D0,tbl:=tblOf [(172,zi)],lp:=lpsOf [],k0:=2,mu:=[],un:=[] }
theorem zy:ConOk E C 146 zt :=
  zj (D:=zh3) ⟨d0Ok,eGood,z7 ⟨zn,trivial⟩,fun _=>rfl⟩ zt (fun a b=>(a,b.1.2.1,b.2.1)) none (fun _ _=>rfl) rfl (fun _ _ h=>nomatch h) 1000000 (fn:=Tryz.f146) Tryz.func146 rfl (by kernel_rfl) (by kernel_rfl) rfl (by intro N a b; kernel_rfl)
def z7h (N:Nat) (b0:Int) (b1:GMsg) (b2:z4):Option (Int×GMsg×z4) :=
 ((ze N b0 b2).bind fun r1 =>
 (some (r1.2.1,(⟨r1.1,b1.From,b1.To,b1.Ballot,b1.Slot,b1.List_,b1.Entry,b1.Number,b1.Vector_,b1.Clock,b1.Origin,b1.Ops,b1.Epoch,b1.Part⟩:GMsg),r1.2.2)))
def z5y:Con τ:={ args:=[.ptr 0 [],.ls 1 [.ptr 1 [.fld 0 0]]],L:=[.box (.agg [.ptr 2 [],.ty 48]),.box (.ty 43),.box (.ty 186)],ret:=.tup [],L':=[.box (.agg [.ptr 2 [],.ty 48]),.box (.ty 43),.box (.ty 186)],R:=Int×GMsg×z4,dflt:=(default,default,default),F:=fun N a b=>z7h N b.1.2.1 b.2.1 b.2.2.1,of:=fun r=>((),(((),r.1,()),r.2.1,r.2.2,())) }
noncomputable def zfk:Dat τ:={ D:=D0,tbl:=tblOf [(146,zt)],lp:=lpsOf [],k0:=3,mu:=[],un:=[(1,3)] }
theorem zh4:ConOk E C 121 z5y :=
  zj (D:=zfk) ⟨d0Ok,eGood,z7 ⟨zy,trivial⟩,fun _=>rfl⟩ z5y (fun a b=>(b.1.2.1,b.2.1,b.2.2.1)) none (fun _ _=>rfl) rfl (fun _ _ h=>nomatch h) 1000000 (fn:=Tryz.f121) Tryz.func121 rfl (by kernel_rfl) (by kernel_rfl) rfl (by intro N a b; kernel_rfl)
def z1z (N:Nat) (b0:Int) (b1:GMsg) (b2:z4):Option (Int×GMsg×z4) :=
 ((ze N b0 b2).bind fun r1 =>
 ((ze N r1.2.1 r1.2.2).bind fun r2 =>
 ((ze N r2.2.1 r2.2.2).bind fun r3 =>
 ((ze N r3.2.1 r3.2.2).bind fun r4 =>
 (some (r4.2.1,(⟨b1.Kind,(⟨r1.1,r2.1⟩:GAddr),(⟨r3.1,r4.1⟩:GAddr),b1.Ballot,b1.Slot,b1.List_,b1.Entry,b1.Number,b1.Vector_,b1.Clock,b1.Origin,b1.Ops,b1.Epoch,b1.Part⟩:GMsg),r4.2.2))))))
def z5z:Con τ:={ args:=[.ptr 0 [],.ls 1 [.ptr 1 [.fld 1 1,.fld 0 0],.ptr 1 [.fld 1 1,.fld 1 1],.ptr 1 [.fld 2 3,.fld 0 0],.ptr 1 [.fld 2 3,.fld 1 1]]],L:=[.box (.agg [.ptr 2 [],.ty 48]),.box (.ty 43),.box (.ty 186)],ret:=.tup [],L':=[.box (.agg [.ptr 2 [],.ty 48]),.box (.ty 43),.box (.ty 186)],R:=Int×GMsg×z4,dflt:=(default,default,default),F:=fun N a b=>z1z N b.1.2.1 b.2.1 b.2.2.1,of:=fun r=>((),(((),r.1,()),r.2.1,r.2.2,())) }
noncomputable def zfl:Dat τ:={ D:=D0,tbl:=tblOf [(146,zt)],lp:=lpsOf [],k0:=3,mu:=[],un:=[(1,6)] }
theorem zh5:ConOk E C 121 z5z :=
  zj (D:=zfl) ⟨d0Ok,eGood,z7 ⟨zy,trivial⟩,fun _=>rfl⟩ z5z (fun a b=>(b.1.2.1,b.2.1,b.2.2.1)) none (fun _ _=>rfl) rfl (fun _ _ h=>nomatch h) 1000000 (fn:=Tryz.f121) Tryz.func121 rfl (by kernel_rfl) (by kernel_rfl) rfl (by intro N a b; kernel_rfl)
def z8x (N:Nat) (b0:Int) (b1:zu) (b2:z4):Option (Int×zu×z4) :=
 ((zd N b0 b2).bind fun r1 =>
 (some (r1.2.1,(⟨r1.1,b1.Replica⟩:zu),r1.2.2)))
def z7i:Con τ:={ args:=[.ptr 0 [],.ls 1 [.ptr 1 [.fld 0 0]]],L:=[.box (.agg [.ptr 2 [],.ty 48]),.box (.ty 25),.box (.ty 186)],ret:=.tup [],L':=[.box (.agg [.ptr 2 [],.ty 48]),.box (.ty 25),.box (.ty 186)],R:=Int×zu×z4,dflt:=(default,default,default),F:=fun N a b=>z8x N b.1.2.1 b.2.1 b.2.2.1,of:=fun r=>((),(((),r.1,()),r.2.1,r.2.2,())) }
noncomputable def ziy:Dat τ:={ D:=D0,tbl:=tblOf [(172,zi)],lp:=lpsOf [],k0:=3,mu:=[],un:=[(1,3)] }
theorem zk9:ConOk E C 148 z7i :=
  zj (D:=ziy) ⟨d0Ok,eGood,z7 ⟨zn,trivial⟩,fun _=>rfl⟩ z7i (fun a b=>(b.1.2.1,b.2.1,b.2.2.1)) none (fun _ _=>rfl) rfl (fun _ _ h=>nomatch h) 1000000 (fn:=Tryz.f148) Tryz.func148 rfl (by kernel_rfl) (by kernel_rfl) rfl (by intro N a b; kernel_rfl)
def z7j (N:Nat) (b0:Int) (b1:zu) (b2:z4):Option (Int×zu×z4) :=
 ((ze N b0 b2).bind fun r1 =>
 (some (r1.2.1,(⟨b1.Round,r1.1⟩:zu),r1.2.2)))
def z60:Con τ:={ args:=[.ptr 0 [],.ls 1 [.ptr 1 [.fld 1 1]]],L:=[.box (.agg [.ptr 2 [],.ty 48]),.box (.ty 25),.box (.ty 186)],ret:=.tup [],L':=[.box (.agg [.ptr 2 [],.ty 48]),.box (.ty 25),.box (.ty 186)],R:=Int×zu×z4,dflt:=(default,default,default),F:=fun N a b=>z7j N b.1.2.1 b.2.1 b.2.2.1,of:=fun r=>((),(((),r.1,()),r.2.1,r.2.2,())) }
noncomputable def zfm:Dat τ:={ D:=D0,tbl:=tblOf [(146,zt)],lp:=lpsOf [],k0:=3,mu:=[],un:=[(1,3)] }
theorem zh6:ConOk E C 121 z60 :=
  zj (D:=zfm) ⟨d0Ok,eGood,z7 ⟨zy,trivial⟩,fun _=>rfl⟩ z60 (fun a b=>(b.1.2.1,b.2.1,b.2.2.1)) none (fun _ _=>rfl) rfl (fun _ _ h=>nomatch h) 1000000 (fn:=Tryz.f121) Tryz.func121 rfl (by kernel_rfl) (by kernel_rfl) rfl (by intro N a b; kernel_rfl)
def zo (N:Nat) (b0:Int) (b1:z4):Option (zu×Int×z4) :=
 ((z8x N b0 (⟨0,0⟩:zu) b1).bind fun r1 =>
 ((z7j N r1.1 r1.2.1 r1.2.2).bind fun r2 =>
 (some (r2.2.1,r2.1,r2.2.2))))
def z3m:Con τ:={ args:=[.ptr 0 []],L:=[.box (.agg [.ptr 1 [],.ty 48]),.box (.ty 186)],ret:=.ty 25,L':=[.box (.agg [.ptr 1 [],.ty 48]),.box (.ty 186)],R:=zu×Int×z4,dflt:=(default,default,default),F:=fun N a b=>zo N b.1.2.1 b.2.1,of:=fun r=>(r.1,(((),r.2.1,()),r.2.2,())) }
noncomputable def zfn:Dat τ:={ D:=D0,tbl:=tblOf [(148,z7i),(121,z60)],lp:=lpsOf [],k0:=2,mu:=[],un:=[] }
theorem zay:ConOk E C 147 z3m :=
  zj (D:=zfn) ⟨d0Ok,eGood,z7 ⟨zk9,⟨zh6,trivial⟩⟩,fun _=>rfl⟩ z3m (fun a b=>(a,b.1.2.1,b.2.1)) none (fun _ _=>rfl) rfl (fun _ _ h=>nomatch h) 1000000 (fn:=Tryz.f147) Tryz.func147 rfl (by kernel_rfl) (by kernel_rfl) rfl (by intro N a b; kernel_rfl)
def zf (N:Nat) (b0:Int) (b1:GMsg) (b2:z4):Option (Int×GMsg×z4) :=
 ((zd N b0 b2).bind fun r1 =>
 (some (r1.2.1,(⟨b1.Kind,b1.From,b1.To,b1.Ballot,r1.1,b1.List_,b1.Entry,b1.Number,b1.Vector_,b1.Clock,b1.Origin,b1.Ops,b1.Epoch,b1.Part⟩:GMsg),r1.2.2)))
def z7k:Con τ:={ args:=[.ptr 0 [],.ls 1 [.ptr 1 [.fld 4 7]]],L:=[.box (.agg [.ptr 2 [],.ty 48]),.box (.ty 43),.box (.ty 186)],ret:=.tup [],L':=[.box (.agg [.ptr 2 [],.ty 48]),.box (.ty 43),.box (.ty 186)],R:=Int×GMsg×z4,dflt:=(default,default,default),F:=fun N a b=>zf N b.1.2.1 b.2.1 b.2.2.1,of:=fun r=>((),(((),r.1,()),r.2.1,r.2.2,())) }
noncomputable def ziz:Dat τ:={ D:=D0,tbl:=tblOf [(172,zi)],lp:=lpsOf [],k0:=3,mu:=[],un:=[(1,3)] }
theorem zka:ConOk E C 148 z7k :=
  zj (D:=ziz) ⟨d0Ok,eGood,z7 ⟨zn,trivial⟩,fun _=>rfl⟩ z7k (fun a b=>(b.1.2.1,b.2.1,b.2.2.1)) none (fun _ _=>rfl) rfl (fun _ _ h=>nomatch h) 1000000 (fn:=Tryz.f148) Tryz.func148 rfl (by kernel_rfl) (by kernel_rfl) rfl (by intro N a b; kernel_rfl)
def z3n (N:Nat) (b0:Int) (b1:z4):Option (Int×Int×z4) :=
 ((zd N b0 b1).bind fun r1 =>
 (bif ((r1.2.1==0)&&((decide (r1.1 < 0)) || (decide (4096 < r1.1)))) then
 (some (0,40,r1.2.2))
 else
 (bif (!(r1.2.1==0)) then
 (some (0,r1.2.1,r1.2.2))
 else
 (some (r1.1,r1.2.1,r1.2.2)))))
def z4f:Con τ:={ args:=[.ptr 0 []],L:=[.box (.agg [.ptr 1 [],.ty 48]),.box (.ty 186)],ret:=.ty 3,L':=[.box (.agg [.ptr 1 [],.ty 48]),.box (.ty 186)],R:=Int×Int×z4,dflt:=(default,default,default),F:=fun N a b=>z3n N b.1.2.1 b.2.1,of:=fun r=>(r.1,(((),r.2.1,()),r.2.2,())) }
noncomputable def zj0:Dat τ:={ D:=D0,tbl:=tblOf [(172,zi)],lp:=lpsOf [],k0:=2,mu:=[],un:=[] }
theorem zc6:ConOk E C 173 z4f :=
  zj (D:=zj0) ⟨d0Ok,eGood,z7 ⟨zn,trivial⟩,fun _=>rfl⟩ z4f (fun a b=>(a,b.1.2.1,b.2.1)) none (fun _ _=>rfl) rfl (fun _ _ h=>nomatch h) 1000000 (fn:=Tryz.f173) Tryz.func173 rfl (by kernel_rfl) (by kernel_rfl) rfl (by intro N a b; kernel_rfl)
def z8y (N:Nat) (b0:Int) (b1:zc) (b2:z4):Option (Int×zc×z4) :=
 ((zd N b0 b2).bind fun r1 =>
 (some (r1.2.1,(⟨r1.1,b1.Ballot,b1.Entry⟩:zc),r1.2.2)))
def z7l:Con τ:={ args:=[.ptr 0 [],.ls 1 [.ptr 1 [.fld 0 0]]],L:=[.box (.agg [.ptr 2 [],.ty 48]),.box (.ty 155),.box (.ty 186)],ret:=.tup [],L':=[.box (.agg [.ptr 2 [],.ty 48]),.box (.ty 155),.box (.ty 186)],R:=Int×zc×z4,dflt:=(default,default,default),F:=fun N a b=>z8y N b.1.2.1 b.2.1 b.2.2.1,of:=fun r=>((),(((),r.1,()),r.2.1,r.2.2,())) }
noncomputable def zj1:Dat τ:={ D:=D0,tbl:=tblOf [(172,zi)],lp:=lpsOf [],k0:=3,mu:=[],un:=[(1,3)] }
theorem zkb:ConOk E C 148 z7l :=
  zj (D:=zj1) ⟨d0Ok,eGood,z7 ⟨zn,trivial⟩,fun _=>rfl⟩ z7l (fun a b=>(b.1.2.1,b.2.1,b.2.2.1)) none (fun _ _=>rfl) rfl (fun _ _ h=>nomatch h) 1000000 (fn:=Tryz.f148) Tryz.func148 rfl (by kernel_rfl) (by kernel_rfl) rfl (by intro N a b; kernel_rfl)
def z7m (N:Nat) (b0:Int) (b1:z9) (b2:z4):Option (Int×z9×z4) :=
 ((ze N b0 b2).bind fun r1 =>
 (some (r1.2.1,(⟨r1.1,b1.Session,b1.Request,b1.Op,b1.Origin,b1.Seq,b1.Ops,b1.Epoch,b1.From,b1.Vector_,b1.Clock,b1.Part,b1.Site,b1.Sponsor,b1.Length⟩:z9),r1.2.2)))
def z61:Con τ:={ args:=[.ptr 0 [],.ls 1 [.ptr 1 [.fld 0 0]]],L:=[.box (.agg [.ptr 2 [],.ty 48]),.box (.ty 41),.box (.ty 186)],ret:=.tup [],L':=[.box (.agg [.ptr 2 [],.ty 48]),.box (.ty 41),.box (.ty 186)],R:=Int×z9×z4,dflt:=(default,default,default),F:=fun N a b=>z7m N b.1.2.1 b.2.1 b.2.2.1,of:=fun r=>((),(((),r.1,()),r.2.1,r.2.2,())) }
noncomputable def zfo:Dat τ:={ D:=D0,tbl:=tblOf [(146,zt)],lp:=lpsOf [],k0:=3,mu:=[],un:=[(1,3)] }
theorem zh7:ConOk E C 121 z61 :=
  zj (D:=zfo) ⟨d0Ok,eGood,z7 ⟨zy,trivial⟩,fun _=>rfl⟩ z61 (fun a b=>(b.1.2.1,b.2.1,b.2.2.1)) none (fun _ _=>rfl) rfl (fun _ _ h=>nomatch h) 1000000 (fn:=Tryz.f121) Tryz.func121 rfl (by kernel_rfl) (by kernel_rfl) rfl (by intro N a b; kernel_rfl)
def z8z (N:Nat) (b0:Int) (b1:z9) (b2:z4):Option (Int×z9×z4) :=
 ((zd N b0 b2).bind fun r1 =>
 ((zd N r1.2.1 r1.2.2).bind fun r2 =>
 (some (r2.2.1,(⟨b1.Kind,r1.1,r2.1,b1.Op,b1.Origin,b1.Seq,b1.Ops,b1.Epoch,b1.From,b1.Vector_,b1.Clock,b1.Part,b1.Site,b1.Sponsor,b1.Length⟩:z9),r2.2.2))))
def z7n:Con τ:={ args:=[.ptr 0 [],.ls 1 [.ptr 1 [.fld 1 1],.ptr 1 [.fld 2 2]]],L:=[.box (.agg [.ptr 2 [],.ty 48]),.box (.ty 41),.box (.ty 186)],ret:=.tup [],L':=[.box (.agg [.ptr 2 [],.ty 48]),.box (.ty 41),.box (.ty 186)],R:=Int×z9×z4,dflt:=(default,default,default),F:=fun N a b=>z8z N b.1.2.1 b.2.1 b.2.2.1,of:=fun r=>((),(((),r.1,()),r.2.1,r.2.2,())) }
noncomputable def zj2:Dat τ:={ D:=D0,tbl:=tblOf [(172,zi)],lp:=lpsOf [],k0:=3,mu:=[],un:=[(1,4)] }
theorem zkc:ConOk E C 148 z7n :=
  zj (D:=zj2) ⟨d0Ok,eGood,z7 ⟨zn,trivial⟩,fun _=>rfl⟩ z7n (fun a b=>(b.1.2.1,b.2.1,b.2.2.1)) none (fun _ _=>rfl) rfl (fun _ _ h=>nomatch h) 1000000 (fn:=Tryz.f148) Tryz.func148 rfl (by kernel_rfl) (by kernel_rfl) rfl (by intro N a b; kernel_rfl)
def z90 (N:Nat) (b0:Int) (b1:GOp) (b2:z4):Option (Int×GOp×z4) :=
 ((zd N b0 b2).bind fun r1 =>
 (some (r1.2.1,(⟨(⟨r1.1,b1.Stamp.Site⟩:z1a),b1.Kind,b1.Node,b1.Parent,b1.Name,b1.Key,b1.Value⟩:GOp),r1.2.2)))
def z7o:Con τ:={ args:=[.ptr 0 [],.ls 1 [.ptr 1 [.fld 0 0,.fld 0 0]]],L:=[.box (.agg [.ptr 2 [],.ty 48]),.box (.ty 30),.box (.ty 186)],ret:=.tup [],L':=[.box (.agg [.ptr 2 [],.ty 48]),.box (.ty 30),.box (.ty 186)],R:=Int×GOp×z4,dflt:=(default,default,default),F:=fun N a b=>z90 N b.1.2.1 b.2.1 b.2.2.1,of:=fun r=>((),(((),r.1,()),r.2.1,r.2.2,())) }
noncomputable def zj3:Dat τ:={ D:=D0,tbl:=tblOf [(172,zi)],lp:=lpsOf [],k0:=3,mu:=[],un:=[(1,3)] }
theorem zkd:ConOk E C 148 z7o :=
  zj (D:=zj3) ⟨d0Ok,eGood,z7 ⟨zn,trivial⟩,fun _=>rfl⟩ z7o (fun a b=>(b.1.2.1,b.2.1,b.2.2.1)) none (fun _ _=>rfl) rfl (fun _ _ h=>nomatch h) 1000000 (fn:=Tryz.f148) Tryz.func148 rfl (by kernel_rfl) (by kernel_rfl) rfl (by intro N a b; kernel_rfl)
def z7p (N:Nat) (b0:Int) (b1:GOp) (b2:z4):Option (Int×GOp×z4) :=
 ((ze N b0 b2).bind fun r1 =>
 ((ze N r1.2.1 r1.2.2).bind fun r2 =>
 (some (r2.2.1,(⟨(⟨b1.Stamp.Time,r1.1⟩:z1a),r2.1,b1.Node,b1.Parent,b1.Name,b1.Key,b1.Value⟩:GOp),r2.2.2))))
def z62:Con τ:={ args:=[.ptr 0 [],.ls 1 [.ptr 1 [.fld 0 0,.fld 1 1],.ptr 1 [.fld 1 2]]],L:=[.box (.agg [.ptr 2 [],.ty 48]),.box (.ty 30),.box (.ty 186)],ret:=.tup [],L':=[.box (.agg [.ptr 2 [],.ty 48]),.box (.ty 30),.box (.ty 186)],R:=Int×GOp×z4,dflt:=(default,default,default),F:=fun N a b=>z7p N b.1.2.1 b.2.1 b.2.2.1,of:=fun r=>((),(((),r.1,()),r.2.1,r.2.2,())) }
noncomputable def zfp:Dat τ:={ D:=D0,tbl:=tblOf [(146,zt)],lp:=lpsOf [],k0:=3,mu:=[],un:=[(1,4)] }
theorem zh8:ConOk E C 121 z62 :=
  zj (D:=zfp) ⟨d0Ok,eGood,z7 ⟨zy,trivial⟩,fun _=>rfl⟩ z62 (fun a b=>(b.1.2.1,b.2.1,b.2.2.1)) none (fun _ _=>rfl) rfl (fun _ _ h=>nomatch h) 1000000 (fn:=Tryz.f121) Tryz.func121 rfl (by kernel_rfl) (by kernel_rfl) rfl (by intro N a b; kernel_rfl)
def z91 (N:Nat) (b0:Int) (b1:GOp) (b2:z4):Option (Int×GOp×z4) :=
 ((zd N b0 b2).bind fun r1 =>
 ((zd N r1.2.1 r1.2.2).bind fun r2 =>
 (some (r2.2.1,(⟨b1.Stamp,b1.Kind,r1.1,r2.1,b1.Name,b1.Key,b1.Value⟩:GOp),r2.2.2))))
def z7q:Con τ:={ args:=[.ptr 0 [],.ls 1 [.ptr 1 [.fld 2 3],.ptr 1 [.fld 3 4]]],L:=[.box (.agg [.ptr 2 [],.ty 48]),.box (.ty 30),.box (.ty 186)],ret:=.tup [],L':=[.box (.agg [.ptr 2 [],.ty 48]),.box (.ty 30),.box (.ty 186)],R:=Int×GOp×z4,dflt:=(default,default,default),F:=fun N a b=>z91 N b.1.2.1 b.2.1 b.2.2.1,of:=fun r=>((),(((),r.1,()),r.2.1,r.2.2,())) }
noncomputable def zj4:Dat τ:={ D:=D0,tbl:=tblOf [(172,zi)],lp:=lpsOf [],k0:=3,mu:=[],un:=[(1,4)] }
theorem zke:ConOk E C 148 z7q :=
  zj (D:=zj4) ⟨d0Ok,eGood,z7 ⟨zn,trivial⟩,fun _=>rfl⟩ z7q (fun a b=>(b.1.2.1,b.2.1,b.2.2.1)) none (fun _ _=>rfl) rfl (fun _ _ h=>nomatch h) 1000000 (fn:=Tryz.f148) Tryz.func148 rfl (by kernel_rfl) (by kernel_rfl) rfl (by intro N a b; kernel_rfl)
def z47 (N:Nat) (b0:z4):Option ((List (Int))×Int×z4) :=
 ((z2z N b0).bind fun r1 =>
 (bif r1.1 then
 (some ([],2,r1.2))
 else
 ((ze2 N r1.2.b).bind fun r2 =>
 (bif (!(r2.2.2==0)) then
 (some ([],r2.2.2,r1.2))
 else
 (bif (decide (r2.1 < 0)) then
 (some ([],11,r1.2))
 else
 (bif (decide ((IntKind.i64.wrap (((r1.2.b).length:Int) - r2.2.1)) < r2.1)) then
 (some ([],10,r1.2))
 else
 (bif (cutB r2.2.1 (IntKind.i64.wrap (r2.2.1+r2.1)) ((r1.2.b).length:Int)) then
 ((z2u N (cut r1.2.b r2.2.1 (IntKind.i64.wrap (r2.2.1+r2.1)))).bind fun r3 =>
 (bif (cutB (IntKind.i64.wrap (r2.2.1+r2.1)) ((r1.2.b).length:Int) ((r1.2.b).length:Int)) then
 (some (r3,0,(⟨r1.2.made,(cut r1.2.b (IntKind.i64.wrap (r2.2.1+r2.1)) ((r1.2.b).length:Int))⟩:z4)))
 else none))
 else none)))))))
def z4r:Con τ:={ args:=[.ptr 0 []],L:=[.box (.ty 186)],ret:=.tup [.ty 37,.ty 48],L':=[.box (.ty 186)],R:=(List (Int))×Int×z4,dflt:=(default,default,default),F:=fun N a b=>z47 N b.1,of:=fun r=>((r.1,r.2.1,()),(r.2.2,())) }
noncomputable def zkf:Dat τ:={ D:=D0,tbl:=tblOf [(123,z3l),(119,zd3),(40,z2r)],lp:=lpsOf [],k0:=1,mu:=[],un:=[] }
theorem zci:ConOk E C 182 z4r :=
  zj (D:=zkf) ⟨d0Ok,eGood,z7 ⟨z9r,⟨zo2,⟨z4d,trivial⟩⟩⟩,fun _=>rfl⟩ z4r (fun a b=>(a.1,a.2.1,b.1)) none (fun _ _=>rfl) rfl (fun _ _ h=>nomatch h) 1000000 (fn:=Tryz.f182) Tryz.func182 rfl (by kernel_rfl) (by kernel_rfl) rfl (by intro N a b; kernel_rfl)
def zad (N:Nat) (b0:z4):Option ((List UInt8)×Int×z4) :=
 ((z47 N b0).bind fun r1 =>
 (some ((strI r1.1),r1.2.1,r1.2.2)))
def z92:Con τ:={ args:=[.ptr 0 []],L:=[.box (.ty 186)],ret:=.tup [.ty 9,.ty 48],L':=[.box (.ty 186)],R:=(List UInt8)×Int×z4,dflt:=(default,default,default),F:=fun N a b=>zad N b.1,of:=fun r=>((r.1,r.2.1,()),(r.2.2,())) }
noncomputable def zlq:Dat τ:={ D:=D0,tbl:=tblOf [(182,z4r)],lp:=lpsOf [],k0:=1,mu:=[],un:=[] }
theorem zmy:ConOk E C 185 z92 :=
  zj (D:=zlq) ⟨d0Ok,eGood,z7 ⟨zci,trivial⟩,fun _=>rfl⟩ z92 (fun a b=>(a.1,a.2.1,b.1)) none (fun _ _=>rfl) rfl (fun _ _ h=>nomatch h) 1000000 (fn:=Tryz.f185) Tryz.func185 rfl (by kernel_rfl) (by kernel_rfl) rfl (by intro N a b; kernel_rfl)
def z31 (N:Nat) (b0:Int) (b1:z4):Option ((List UInt8)×Int×z4) :=
 (bif (!(b0==0)) then
 (some ([],b0,b1))
 else
 ((zad N b1).bind fun r1 =>
 ((z1h N r1.2.1 b0 r1.2.2).bind fun r2 =>
 (some (r1.1,r2.1,r2.2)))))
def z7r:Con τ:={ args:=[.ptr 0 []],L:=[.box (.agg [.ptr 1 [],.ty 48]),.box (.ty 186)],ret:=.ty 9,L':=[.box (.agg [.ptr 1 [],.ty 48]),.box (.ty 186)],R:=(List UInt8)×Int×z4,dflt:=(default,default,default),F:=fun N a b=>z31 N b.1.2.1 b.2.1,of:=fun r=>(r.1,(((),r.2.1,()),r.2.2,())) }
noncomputable def zj5:Dat τ:={ D:=D0,tbl:=tblOf [(185,z92),(80,z2k)],lp:=lpsOf [],k0:=2,mu:=[],un:=[] }
theorem zkg:ConOk E C 181 z7r :=
  zj (D:=zj5) ⟨d0Ok,eGood,z7 ⟨zmy,⟨z4q,trivial⟩⟩,fun _=>rfl⟩ z7r (fun a b=>(a,b.1.2.1,b.2.1)) none (fun _ _=>rfl) rfl (fun _ _ h=>nomatch h) 1000000 (fn:=Tryz.f181) Tryz.func181 rfl (by kernel_rfl) (by kernel_rfl) rfl (by intro N a b; kernel_rfl)
def z4m (N:Nat) (b0:Int) (b1:z4):Option (GOp×Int×z4) :=
 ((z90 N b0 (⟨(⟨0,0⟩:z1a),0,0,0,[],[],[]⟩:GOp) b1).bind fun r1 =>
 ((z7p N r1.1 r1.2.1 r1.2.2).bind fun r2 =>
 ((z91 N r2.1 r2.2.1 r2.2.2).bind fun r3 =>
 ((z31 N r3.1 r3.2.2).bind fun r4 =>
 ((z31 N r4.2.1 r4.2.2).bind fun r5 =>
 ((z31 N r5.2.1 r5.2.2).bind fun r6 =>
 (some ((⟨r3.2.1.Stamp,r3.2.1.Kind,r3.2.1.Node,r3.2.1.Parent,r4.1,r5.1,r6.1⟩:GOp),r6.2.1,r6.2.2))))))))
def z5b:Con τ:={ args:=[.ptr 0 []],L:=[.box (.agg [.ptr 1 [],.ty 48]),.box (.ty 186)],ret:=.ty 30,L':=[.box (.agg [.ptr 1 [],.ty 48]),.box (.ty 186)],R:=GOp×Int×z4,dflt:=(default,default,default),F:=fun N a b=>z4m N b.1.2.1 b.2.1,of:=fun r=>(r.1,(((),r.2.1,()),r.2.2,())) }
noncomputable def zlr:Dat τ:={ D:=D0,tbl:=tblOf [(148,z7o),(121,z62),(148,z7q),(181,z7r)],lp:=lpsOf [],k0:=2,mu:=[],un:=[] }
theorem zdh:ConOk E C 174 z5b :=
  zj (D:=zlr) ⟨d0Ok,eGood,z7 ⟨zkd,⟨zh8,⟨zke,⟨zkg,trivial⟩⟩⟩⟩,fun _=>rfl⟩ z5b (fun a b=>(a,b.1.2.1,b.2.1)) none (fun _ _=>rfl) rfl (fun _ _ h=>nomatch h) 1000000 (fn:=Tryz.f174) Tryz.func174 rfl (by kernel_rfl) (by kernel_rfl) rfl (by intro N a b; kernel_rfl)
def z7s (N:Nat) (b0:Int) (b1:z9) (b2:z4):Option (Int×z9×z4) :=
 ((ze N b0 b2).bind fun r1 =>
 (some (r1.2.1,(⟨b1.Kind,b1.Session,b1.Request,b1.Op,r1.1,b1.Seq,b1.Ops,b1.Epoch,b1.From,b1.Vector_,b1.Clock,b1.Part,b1.Site,b1.Sponsor,b1.Length⟩:z9),r1.2.2)))
def z63:Con τ:={ args:=[.ptr 0 [],.ls 1 [.ptr 1 [.fld 4 11]]],L:=[.box (.agg [.ptr 2 [],.ty 48]),.box (.ty 41),.box (.ty 186)],ret:=.tup [],L':=[.box (.agg [.ptr 2 [],.ty 48]),.box (.ty 41),.box (.ty 186)],R:=Int×z9×z4,dflt:=(default,default,default),F:=fun N a b=>z7s N b.1.2.1 b.2.1 b.2.2.1,of:=fun r=>((),(((),r.1,()),r.2.1,r.2.2,())) }
noncomputable def zfq:Dat τ:={ D:=D0,tbl:=tblOf [(146,zt)],lp:=lpsOf [],k0:=3,mu:=[],un:=[(1,3)] }
theorem zh9:ConOk E C 121 z63 :=
  zj (D:=zfq) ⟨d0Ok,eGood,z7 ⟨zy,trivial⟩,fun _=>rfl⟩ z63 (fun a b=>(b.1.2.1,b.2.1,b.2.2.1)) none (fun _ _=>rfl) rfl (fun _ _ h=>nomatch h) 1000000 (fn:=Tryz.f121) Tryz.func121 rfl (by kernel_rfl) (by kernel_rfl) rfl (by intro N a b; kernel_rfl)
def z3o (N:Nat) (b0:Int) (b1:z9) (b2:z4):Option (Int×z9×z4) :=
 ((zd N b0 b2).bind fun r1 =>
 (some (r1.2.1,(⟨b1.Kind,b1.Session,b1.Request,b1.Op,b1.Origin,r1.1,b1.Ops,b1.Epoch,b1.From,b1.Vector_,b1.Clock,b1.Part,b1.Site,b1.Sponsor,b1.Length⟩:z9),r1.2.2)))
def z7t:Con τ:={ args:=[.ptr 0 [],.ls 1 [.ptr 1 [.fld 5 12]]],L:=[.box (.agg [.ptr 2 [],.ty 48]),.box (.ty 41),.box (.ty 186)],ret:=.tup [],L':=[.box (.agg [.ptr 2 [],.ty 48]),.box (.ty 41),.box (.ty 186)],R:=Int×z9×z4,dflt:=(default,default,default),F:=fun N a b=>z3o N b.1.2.1 b.2.1 b.2.2.1,of:=fun r=>((),(((),r.1,()),r.2.1,r.2.2,())) }
noncomputable def zj6:Dat τ:={ D:=D0,tbl:=tblOf [(172,zi)],lp:=lpsOf [],k0:=3,mu:=[],un:=[(1,3)] }
theorem zkh:ConOk E C 148 z7t :=
  zj (D:=zj6) ⟨d0Ok,eGood,z7 ⟨zn,trivial⟩,fun _=>rfl⟩ z7t (fun a b=>(b.1.2.1,b.2.1,b.2.2.1)) none (fun _ _=>rfl) rfl (fun _ _ h=>nomatch h) 1000000 (fn:=Tryz.f148) Tryz.func148 rfl (by kernel_rfl) (by kernel_rfl) rfl (by intro N a b; kernel_rfl)
structure z2w where
  l:List (GOp)
  t6:Int
  b0:Int
  b1:z4
def z7u:List Sl:=[.k,.k,.j,.sh (.own 30 2),.k,.k,.sh (.ty 2),.j,.j,.j,.j,.j,.j,.j,.j,.j,.j,.j,.j,.k]
def z7v:List ESh:=[.box (.agg [.ptr 1 [],.ty 2]),.box (.ty 165),.tail]
def zj7 (a:Sl.Ts τ z7u) (b:ESh.Ts τ z7v):z2w:=⟨a.2.2.2.1,a.2.2.2.2.2.2.1,b.1.2.1,b.2.1⟩
def zj8 (s:z2w):Sl.Ts τ z7u:=((),(),(),s.l,(),(),s.t6,(),(),(),(),(),(),(),(),(),(),(),(),(),())
def zj9 (s:z2w):ESh.Ts τ z7v:=(((),s.b0,()),s.b1,(),())
def zja:Lp τ:={ ts:=z7u,hs:=z7v,S:=z2w,to:=zj7,ot:=zj8,oh:=zj9,hk:=[2,2],tk:=[2,0,0,0,2],ot_to:=fun _ _=>rfl,oh_to:=fun _ _=>rfl }
def z2s (N:Nat) (b0:Int) (b1:z4):Option ((List (GOp))×Int×z4) :=
 ((z3n N b0 b1).bind fun r1 =>
 (iter N (fun (s2:z2w) next3 =>
 (bif (decide (s2.t6 < r1.1)) then
 (bif (!(s2.b0==0)) then
 (some ([],s2.b0,s2.b1))
 else
 ((z4m N s2.b0 s2.b1).bind fun r4 =>
 (bif (lenB ((s2.l).length+([r4.1]).length) 88) then
 (next3 ⟨(s2.l++[r4.1]),(IntKind.i64.wrap (s2.t6+1)),r4.2.1,r4.2.2⟩)
 else none)))
 else
 (some (s2.l,s2.b0,s2.b1)))) ⟨[],0,r1.2.1,r1.2.2⟩))
def z4s:Con τ:={ args:=[.ptr 0 []],L:=[.box (.agg [.ptr 1 [],.ty 48]),.box (.ty 186)],ret:=.ty 31,L':=[.box (.agg [.ptr 1 [],.ty 48]),.box (.ty 186)],R:=(List (GOp))×Int×z4,dflt:=(default,default,default),F:=fun N a b=>z2s N b.1.2.1 b.2.1,of:=fun r=>(r.1,(((),r.2.1,()),r.2.2,())) }
noncomputable def zki:Dat τ:={ D:=D0,tbl:=tblOf [(173,z4f),(174,z5b)],lp:=lpsOf [(3,zja)],k0:=2,mu:=[],un:=[] }
theorem zcj:ConOk E C 152 z4s :=
  zj (D:=zki) ⟨d0Ok,eGood,z7 ⟨zc6,⟨zdh,trivial⟩⟩,fun _=>rfl⟩ z4s (fun a b=>(a,b.1.2.1,b.2.1)) none (fun _ _=>rfl) rfl (fun _ _ h=>nomatch h) 1000000 (fn:=Tryz.f152) Tryz.func152 rfl (by kernel_rfl) (by kernel_rfl) rfl (by intro N a b; kernel_rfl)
def z93 (N:Nat) (b0:Int) (b1:za) (b2:z4):Option (Int×za×z4) :=
 ((zd N b0 b2).bind fun r1 =>
 (some (r1.2.1,(⟨r1.1,b1.States,b1.Seals,b1.Sponsor⟩:za),r1.2.2)))
def z7w:Con τ:={ args:=[.ptr 0 [],.ls 1 [.ptr 1 [.fld 0 0]]],L:=[.box (.agg [.ptr 2 [],.ty 48]),.box (.ty 36),.box (.ty 186)],ret:=.tup [],L':=[.box (.agg [.ptr 2 [],.ty 48]),.box (.ty 36),.box (.ty 186)],R:=Int×za×z4,dflt:=(default,default,default),F:=fun N a b=>z93 N b.1.2.1 b.2.1 b.2.2.1,of:=fun r=>((),(((),r.1,()),r.2.1,r.2.2,())) }
noncomputable def zjb:Dat τ:={ D:=D0,tbl:=tblOf [(172,zi)],lp:=lpsOf [],k0:=3,mu:=[],un:=[(1,3)] }
theorem zkj:ConOk E C 148 z7w :=
  zj (D:=zjb) ⟨d0Ok,eGood,z7 ⟨zn,trivial⟩,fun _=>rfl⟩ z7w (fun a b=>(b.1.2.1,b.2.1,b.2.2.1)) none (fun _ _=>rfl) rfl (fun _ _ h=>nomatch h) 1000000 (fn:=Tryz.f148) Tryz.func148 rfl (by kernel_rfl) (by kernel_rfl) rfl (by intro N a b; kernel_rfl)
structure z1o where
  t5:Int
  b0:Int
  b1:za
  b2:z4
def z5c:List Sl:=[.k,.k,.k,.k,.j,.sh (.ty 2),.j,.j,.j,.j,.j,.j,.j,.j,.j]
def z5d:List ESh:=[.box (.agg [.ptr 2 [],.ty 2]),.box (.ty 35),.box (.ty 165)]
def zew (a:Sl.Ts τ z5c) (b:ESh.Ts τ z5d):z1o:=⟨a.2.2.2.2.2.1,b.1.2.1,b.2.1,b.2.2.1⟩
def zex (s:z1o):Sl.Ts τ z5c:=((),(),(),(),(),s.t5,(),(),(),(),(),(),(),(),(),())
def zey (s:z1o):ESh.Ts τ z5d:=(((),s.b0,()),s.b1,s.b2,())
def zez:Lp τ:={ ts:=z5c,hs:=z5d,S:=z1o,to:=zew,ot:=zex,oh:=zey,hk:=[2,2,2],tk:=[2,3],ot_to:=fun _ _=>rfl,oh_to:=fun _ _=>rfl }
def z4g (N:Nat) (b0:Int) (b1:za) (b2:z4):Option (Int×za×z4) :=
 (iter N (fun (s1:z1o) next2 =>
 (bif (decide (s1.t5 < 8)) then
 ((zd N s1.b0 s1.b2).bind fun r3 =>
 (bif (ibB s1.t5 8) then
 (next2 ⟨(IntKind.i64.wrap (s1.t5+1)),r3.2.1,(⟨s1.b1.Number,s1.b1.States,(vset s1.b1.Seals ((s1.t5).toNat) r3.1),s1.b1.Sponsor⟩:za),r3.2.2⟩)
 else none))
 else
 (some (s1.b0,s1.b1,s1.b2)))) ⟨0,b0,b1,b2⟩)
def z64:Con τ:={ args:=[.ptr 0 [],.ptr 1 [.fld 2 9]],L:=[.box (.agg [.ptr 2 [],.ty 48]),.box (.ty 36),.box (.ty 186)],ret:=.tup [],L':=[.box (.agg [.ptr 2 [],.ty 48]),.box (.ty 36),.box (.ty 186)],R:=Int×za×z4,dflt:=(default,default,default),F:=fun N a b=>z4g N b.1.2.1 b.2.1 b.2.2.1,of:=fun r=>((),(((),r.1,()),r.2.1,r.2.2,())) }
noncomputable def zfr:Dat τ:={ D:=D0,tbl:=tblOf [(172,zi)],lp:=lpsOf [(1,zez)],k0:=3,mu:=[],un:=[] }
theorem zha:ConOk E C 151 z64 :=
  zj (D:=zfr) ⟨d0Ok,eGood,z7 ⟨zn,trivial⟩,fun _=>rfl⟩ z64 (fun a b=>(b.1.2.1,b.2.1,b.2.2.1)) none (fun _ _=>rfl) rfl (fun _ _ h=>nomatch h) 1000000 (fn:=Tryz.f151) Tryz.func151 rfl (by kernel_rfl) (by kernel_rfl) rfl (by intro N a b; kernel_rfl)
structure z1s where
  t10:Int
  b0:Int
  b1:z4
  b3:za
def z65:List Sl:=[.k,.k,.k,.k,.j,.k,.k,.k,.k,.k,.sh (.ty 2),.j,.j,.j,.j,.j,.j,.j,.j,.k,.k,.k,.k,.k,.k,.k,.k,.k,.k,.k,.k,.k]
def z66:List ESh:=[.box (.agg [.ptr 1 [],.ty 2]),.box (.ty 165),.keep,.box (.ty 35)]
def zfs (a:Sl.Ts τ z65) (b:ESh.Ts τ z66):z1s:=⟨a.2.2.2.2.2.2.2.2.2.2.1,b.1.2.1,b.2.1,b.2.2.2.1⟩
def zft (s:z1s):Sl.Ts τ z65:=((),(),(),(),(),(),(),(),(),(),s.t10,(),(),(),(),(),(),(),(),(),(),(),(),(),(),(),(),(),(),(),(),(),())
def zfu (s:z1s):ESh.Ts τ z66:=(((),s.b0,()),s.b1,(),s.b3,())
def zfv:Lp τ:={ ts:=z65,hs:=z66,S:=z1s,to:=zfs,ot:=zft,oh:=zfu,hk:=[2,2,2,2],tk:=[2,0,4,5,0,0,2,5],ot_to:=fun _ _=>rfl,oh_to:=fun _ _=>rfl }
structure z1p where
  t22:Int
  b0:Int
  b1:z4
  b3:za
def z5e:List Sl:=[.k,.k,.k,.k,.k,.j,.k,.k,.k,.k,.k,.k,.k,.k,.k,.k,.k,.k,.k,.k,.k,.k,.sh (.ty 2),.j,.j,.j,.j,.j,.j,.j,.j,.k]
def z5f:List ESh:=[.box (.agg [.ptr 1 [],.ty 2]),.box (.ty 165),.keep,.box (.ty 35)]
def zf0 (a:Sl.Ts τ z5e) (b:ESh.Ts τ z5f):z1p:=⟨a.2.2.2.2.2.2.2.2.2.2.2.2.2.2.2.2.2.2.2.2.2.2.1,b.1.2.1,b.2.1,b.2.2.2.1⟩
def zf1 (s:z1p):Sl.Ts τ z5e:=((),(),(),(),(),(),(),(),(),(),(),(),(),(),(),(),(),(),(),(),(),(),s.t22,(),(),(),(),(),(),(),(),(),())
def zf2 (s:z1p):ESh.Ts τ z5f:=(((),s.b0,()),s.b1,(),s.b3,())
def zf3:Lp τ:={ ts:=z5e,hs:=z5f,S:=z1p,to:=zf0,ot:=zf1,oh:=zf2,hk:=[2,2,2,2],tk:=[2,0,4,5,0,0,2,5,0,0,0,0,0,0,0,0,0,0,0,2,5],ot_to:=fun _ _=>rfl,oh_to:=fun _ _=>rfl }
def z23 (N:Nat) (b0:Int) (b1:z4):Option (za×Int×z4) :=
 ((z93 N b0 (⟨0,(Vector.replicate 8 (default:Int)),(Vector.replicate 8 (default:Int)),(Vector.replicate 8 (default:Int))⟩:za) b1).bind fun r1 =>
 (iter N (fun (s2:z1s) next3 =>
 (bif (decide (s2.t10 < 8)) then
 ((ze N s2.b0 s2.b1).bind fun r4 =>
 (bif (ibB s2.t10 8) then
 (next3 ⟨(IntKind.i64.wrap (s2.t10+1)),r4.2.1,r4.2.2,(⟨s2.b3.Number,(vset s2.b3.States ((s2.t10).toNat) r4.1),s2.b3.Seals,s2.b3.Sponsor⟩:za)⟩)
 else none))
 else
 ((z4g N s2.b0 s2.b3 s2.b1).bind fun r5 =>
 (iter N (fun (s6:z1p) next7 =>
 (bif (decide (s6.t22 < 8)) then
 ((ze N s6.b0 s6.b1).bind fun r8 =>
 (bif (ibB s6.t22 8) then
 (next7 ⟨(IntKind.i64.wrap (s6.t22+1)),r8.2.1,r8.2.2,(⟨s6.b3.Number,s6.b3.States,s6.b3.Seals,(vset s6.b3.Sponsor ((s6.t22).toNat) r8.1)⟩:za)⟩)
 else none))
 else
 (some (s6.b3,s6.b0,s6.b1)))) ⟨0,r5.1,r5.2.2,r5.2.1⟩)))) ⟨0,r1.1,r1.2.2,r1.2.1⟩))
def z42:Con τ:={ args:=[.ptr 0 []],L:=[.box (.agg [.ptr 1 [],.ty 48]),.box (.ty 186)],ret:=.ty 36,L':=[.box (.agg [.ptr 1 [],.ty 48]),.box (.ty 186)],R:=za×Int×z4,dflt:=(default,default,default),F:=fun N a b=>z23 N b.1.2.1 b.2.1,of:=fun r=>(r.1,(((),r.2.1,()),r.2.2,())) }
noncomputable def zhb:Dat τ:={ D:=D0,tbl:=tblOf [(148,z7w),(146,zt),(151,z64)],lp:=lpsOf [(4,zfv),(10,zf3)],k0:=2,mu:=[],un:=[] }
theorem zbc:ConOk E C 153 z42 :=
  zj (D:=zhb) ⟨d0Ok,eGood,z7 ⟨zkj,⟨zy,⟨zha,trivial⟩⟩⟩,fun _=>rfl⟩ z42 (fun a b=>(a,b.1.2.1,b.2.1)) none (fun _ _=>rfl) rfl (fun _ _ h=>nomatch h) 1000000 (fn:=Tryz.f153) Tryz.func153 rfl (by kernel_rfl) (by kernel_rfl) rfl (by intro N a b; kernel_rfl)
def z7x (N:Nat) (b0:Int) (b1:z9) (b2:z4):Option (Int×z9×z4) :=
 ((ze N b0 b2).bind fun r1 =>
 (some (r1.2.1,(⟨b1.Kind,b1.Session,b1.Request,b1.Op,b1.Origin,b1.Seq,b1.Ops,b1.Epoch,r1.1,b1.Vector_,b1.Clock,b1.Part,b1.Site,b1.Sponsor,b1.Length⟩:z9),r1.2.2)))
def z67:Con τ:={ args:=[.ptr 0 [],.ls 1 [.ptr 1 [.fld 8 39]]],L:=[.box (.agg [.ptr 2 [],.ty 48]),.box (.ty 41),.box (.ty 186)],ret:=.tup [],L':=[.box (.agg [.ptr 2 [],.ty 48]),.box (.ty 41),.box (.ty 186)],R:=Int×z9×z4,dflt:=(default,default,default),F:=fun N a b=>z7x N b.1.2.1 b.2.1 b.2.2.1,of:=fun r=>((),(((),r.1,()),r.2.1,r.2.2,())) }
noncomputable def zfw:Dat τ:={ D:=D0,tbl:=tblOf [(146,zt)],lp:=lpsOf [],k0:=3,mu:=[],un:=[(1,3)] }
theorem zhc:ConOk E C 121 z67 :=
  zj (D:=zfw) ⟨d0Ok,eGood,z7 ⟨zy,trivial⟩,fun _=>rfl⟩ z67 (fun a b=>(b.1.2.1,b.2.1,b.2.2.1)) none (fun _ _=>rfl) rfl (fun _ _ h=>nomatch h) 1000000 (fn:=Tryz.f121) Tryz.func121 rfl (by kernel_rfl) (by kernel_rfl) rfl (by intro N a b; kernel_rfl)
structure z1q where
  t5:Int
  b0:Int
  b1:z9
  b2:z4
def z5g:List Sl:=[.k,.k,.k,.k,.j,.sh (.ty 2),.j,.j,.j,.j,.j,.j,.j,.j,.j]
def z5h:List ESh:=[.box (.agg [.ptr 2 [],.ty 2]),.box (.ty 40),.box (.ty 165)]
def zf4 (a:Sl.Ts τ z5g) (b:ESh.Ts τ z5h):z1q:=⟨a.2.2.2.2.2.1,b.1.2.1,b.2.1,b.2.2.1⟩
def zf5 (s:z1q):Sl.Ts τ z5g:=((),(),(),(),(),s.t5,(),(),(),(),(),(),(),(),(),())
def zf6 (s:z1q):ESh.Ts τ z5h:=(((),s.b0,()),s.b1,s.b2,())
def zf7:Lp τ:={ ts:=z5g,hs:=z5h,S:=z1q,to:=zf4,ot:=zf5,oh:=zf6,hk:=[2,2,2],tk:=[2,3],ot_to:=fun _ _=>rfl,oh_to:=fun _ _=>rfl }
def z4h (N:Nat) (b0:Int) (b1:z9) (b2:z4):Option (Int×z9×z4) :=
 (iter N (fun (s1:z1q) next2 =>
 (bif (decide (s1.t5 < 8)) then
 ((zd N s1.b0 s1.b2).bind fun r3 =>
 (bif (ibB s1.t5 8) then
 (next2 ⟨(IntKind.i64.wrap (s1.t5+1)),r3.2.1,(⟨s1.b1.Kind,s1.b1.Session,s1.b1.Request,s1.b1.Op,s1.b1.Origin,s1.b1.Seq,s1.b1.Ops,s1.b1.Epoch,s1.b1.From,(vset s1.b1.Vector_ ((s1.t5).toNat) r3.1),s1.b1.Clock,s1.b1.Part,s1.b1.Site,s1.b1.Sponsor,s1.b1.Length⟩:z9),r3.2.2⟩)
 else none))
 else
 (some (s1.b0,s1.b1,s1.b2)))) ⟨0,b0,b1,b2⟩)
def z68:Con τ:={ args:=[.ptr 0 [],.ptr 1 [.fld 9 40]],L:=[.box (.agg [.ptr 2 [],.ty 48]),.box (.ty 41),.box (.ty 186)],ret:=.tup [],L':=[.box (.agg [.ptr 2 [],.ty 48]),.box (.ty 41),.box (.ty 186)],R:=Int×z9×z4,dflt:=(default,default,default),F:=fun N a b=>z4h N b.1.2.1 b.2.1 b.2.2.1,of:=fun r=>((),(((),r.1,()),r.2.1,r.2.2,())) }
noncomputable def zfx:Dat τ:={ D:=D0,tbl:=tblOf [(172,zi)],lp:=lpsOf [(1,zf7)],k0:=3,mu:=[],un:=[] }
theorem zhd:ConOk E C 151 z68 :=
  zj (D:=zfx) ⟨d0Ok,eGood,z7 ⟨zn,trivial⟩,fun _=>rfl⟩ z68 (fun a b=>(b.1.2.1,b.2.1,b.2.2.1)) none (fun _ _=>rfl) rfl (fun _ _ h=>nomatch h) 1000000 (fn:=Tryz.f151) Tryz.func151 rfl (by kernel_rfl) (by kernel_rfl) rfl (by intro N a b; kernel_rfl)
def z94 (N:Nat) (b0:Int) (b1:z9) (b2:z4):Option (Int×z9×z4) :=
 ((zd N b0 b2).bind fun r1 =>
 (some (r1.2.1,(⟨b1.Kind,b1.Session,b1.Request,b1.Op,b1.Origin,b1.Seq,b1.Ops,b1.Epoch,b1.From,b1.Vector_,r1.1,b1.Part,b1.Site,b1.Sponsor,b1.Length⟩:z9),r1.2.2)))
def z7y:Con τ:={ args:=[.ptr 0 [],.ls 1 [.ptr 1 [.fld 10 48]]],L:=[.box (.agg [.ptr 2 [],.ty 48]),.box (.ty 41),.box (.ty 186)],ret:=.tup [],L':=[.box (.agg [.ptr 2 [],.ty 48]),.box (.ty 41),.box (.ty 186)],R:=Int×z9×z4,dflt:=(default,default,default),F:=fun N a b=>z94 N b.1.2.1 b.2.1 b.2.2.1,of:=fun r=>((),(((),r.1,()),r.2.1,r.2.2,())) }
noncomputable def zjc:Dat τ:={ D:=D0,tbl:=tblOf [(172,zi)],lp:=lpsOf [],k0:=3,mu:=[],un:=[(1,3)] }
theorem zkk:ConOk E C 148 z7y :=
  zj (D:=zjc) ⟨d0Ok,eGood,z7 ⟨zn,trivial⟩,fun _=>rfl⟩ z7y (fun a b=>(b.1.2.1,b.2.1,b.2.2.1)) none (fun _ _=>rfl) rfl (fun _ _ h=>nomatch h) 1000000 (fn:=Tryz.f148) Tryz.func148 rfl (by kernel_rfl) (by kernel_rfl) rfl (by intro N a b; kernel_rfl)
def z95 (N:Nat) (b0:Int) (b1:GPart) (b2:z4):Option (Int×GPart×z4) :=
 ((zd N b0 b2).bind fun r1 =>
 (some (r1.2.1,(⟨r1.1,b1.Index,b1.Many,b1.Data⟩:GPart),r1.2.2)))
def z7z:Con τ:={ args:=[.ptr 0 [],.ls 1 [.ptr 1 [.fld 0 0]]],L:=[.box (.agg [.ptr 2 [],.ty 48]),.box (.ty 39),.box (.ty 186)],ret:=.tup [],L':=[.box (.agg [.ptr 2 [],.ty 48]),.box (.ty 39),.box (.ty 186)],R:=Int×GPart×z4,dflt:=(default,default,default),F:=fun N a b=>z95 N b.1.2.1 b.2.1 b.2.2.1,of:=fun r=>((),(((),r.1,()),r.2.1,r.2.2,())) }
noncomputable def zjd:Dat τ:={ D:=D0,tbl:=tblOf [(172,zi)],lp:=lpsOf [],k0:=3,mu:=[],un:=[(1,3)] }
theorem zkl:ConOk E C 148 z7z :=
  zj (D:=zjd) ⟨d0Ok,eGood,z7 ⟨zn,trivial⟩,fun _=>rfl⟩ z7z (fun a b=>(b.1.2.1,b.2.1,b.2.2.1)) none (fun _ _=>rfl) rfl (fun _ _ h=>nomatch h) 1000000 (fn:=Tryz.f148) Tryz.func148 rfl (by kernel_rfl) (by kernel_rfl) rfl (by intro N a b; kernel_rfl)
def z80 (N:Nat) (b0:Int) (b1:GPart) (b2:z4):Option (Int×GPart×z4) :=
 ((ze N b0 b2).bind fun r1 =>
 ((ze N r1.2.1 r1.2.2).bind fun r2 =>
 (some (r2.2.1,(⟨b1.Snap,r1.1,r2.1,b1.Data⟩:GPart),r2.2.2))))
def z69:Con τ:={ args:=[.ptr 0 [],.ls 1 [.ptr 1 [.fld 1 1],.ptr 1 [.fld 2 2]]],L:=[.box (.agg [.ptr 2 [],.ty 48]),.box (.ty 39),.box (.ty 186)],ret:=.tup [],L':=[.box (.agg [.ptr 2 [],.ty 48]),.box (.ty 39),.box (.ty 186)],R:=Int×GPart×z4,dflt:=(default,default,default),F:=fun N a b=>z80 N b.1.2.1 b.2.1 b.2.2.1,of:=fun r=>((),(((),r.1,()),r.2.1,r.2.2,())) }
noncomputable def zfy:Dat τ:={ D:=D0,tbl:=tblOf [(146,zt)],lp:=lpsOf [],k0:=3,mu:=[],un:=[(1,4)] }
theorem zhe:ConOk E C 121 z69 :=
  zj (D:=zfy) ⟨d0Ok,eGood,z7 ⟨zy,trivial⟩,fun _=>rfl⟩ z69 (fun a b=>(b.1.2.1,b.2.1,b.2.2.1)) none (fun _ _=>rfl) rfl (fun _ _ h=>nomatch h) 1000000 (fn:=Tryz.f121) Tryz.func121 rfl (by kernel_rfl) (by kernel_rfl) rfl (by intro N a b; kernel_rfl)
def z4t (N:Nat) (b0:Int) (b1:z4):Option ((List (Int))×Int×z4) :=
 (bif (!(b0==0)) then
 (some ([],b0,b1))
 else
 ((z47 N b1).bind fun r1 =>
 ((z1h N r1.2.1 b0 r1.2.2).bind fun r2 =>
 (some (r1.1,r2.1,r2.2)))))
def z6x:Con τ:={ args:=[.ptr 0 []],L:=[.box (.agg [.ptr 1 [],.ty 48]),.box (.ty 186)],ret:=.ty 37,L':=[.box (.agg [.ptr 1 [],.ty 48]),.box (.ty 186)],R:=(List (Int))×Int×z4,dflt:=(default,default,default),F:=fun N a b=>z4t N b.1.2.1 b.2.1,of:=fun r=>(r.1,(((),r.2.1,()),r.2.2,())) }
noncomputable def zhf:Dat τ:={ D:=D0,tbl:=tblOf [(182,z4r),(80,z2k)],lp:=lpsOf [],k0:=2,mu:=[],un:=[] }
theorem zje:ConOk E C 175 z6x :=
  zj (D:=zhf) ⟨d0Ok,eGood,z7 ⟨zci,⟨z4q,trivial⟩⟩,fun _=>rfl⟩ z6x (fun a b=>(a,b.1.2.1,b.2.1)) none (fun _ _=>rfl) rfl (fun _ _ h=>nomatch h) 1000000 (fn:=Tryz.f175) Tryz.func175 rfl (by kernel_rfl) (by kernel_rfl) rfl (by intro N a b; kernel_rfl)
def z1i (N:Nat) (b0:Int) (b1:z4):Option (GPart×Int×z4) :=
 ((z95 N b0 (⟨0,0,0,[]⟩:GPart) b1).bind fun r1 =>
 ((z80 N r1.1 r1.2.1 r1.2.2).bind fun r2 =>
 ((z4t N r2.1 r2.2.2).bind fun r3 =>
 (some ((⟨r2.2.1.Snap,r2.2.1.Index,r2.2.1.Many,r3.1⟩:GPart),r3.2.1,r3.2.2)))))
def z4i:Con τ:={ args:=[.ptr 0 []],L:=[.box (.agg [.ptr 1 [],.ty 48]),.box (.ty 186)],ret:=.ty 39,L':=[.box (.agg [.ptr 1 [],.ty 48]),.box (.ty 186)],R:=GPart×Int×z4,dflt:=(default,default,default),F:=fun N a b=>z1i N b.1.2.1 b.2.1,of:=fun r=>(r.1,(((),r.2.1,()),r.2.2,())) }
noncomputable def zjf:Dat τ:={ D:=D0,tbl:=tblOf [(148,z7z),(121,z69),(175,z6x)],lp:=lpsOf [],k0:=2,mu:=[],un:=[] }
theorem zc7:ConOk E C 154 z4i :=
  zj (D:=zjf) ⟨d0Ok,eGood,z7 ⟨zkl,⟨zhe,⟨zje,trivial⟩⟩⟩,fun _=>rfl⟩ z4i (fun a b=>(a,b.1.2.1,b.2.1)) none (fun _ _=>rfl) rfl (fun _ _ h=>nomatch h) 1000000 (fn:=Tryz.f154) Tryz.func154 rfl (by kernel_rfl) (by kernel_rfl) rfl (by intro N a b; kernel_rfl)
def z81 (N:Nat) (b0:Int) (b1:z9) (b2:z4):Option (Int×z9×z4) :=
 ((ze N b0 b2).bind fun r1 =>
 ((ze N r1.2.1 r1.2.2).bind fun r2 =>
 (some (r2.2.1,(⟨b1.Kind,b1.Session,b1.Request,b1.Op,b1.Origin,b1.Seq,b1.Ops,b1.Epoch,b1.From,b1.Vector_,b1.Clock,b1.Part,r1.1,r2.1,b1.Length⟩:z9),r2.2.2))))
def z6a:Con τ:={ args:=[.ptr 0 [],.ls 1 [.ptr 1 [.fld 12 53],.ptr 1 [.fld 13 54]]],L:=[.box (.agg [.ptr 2 [],.ty 48]),.box (.ty 41),.box (.ty 186)],ret:=.tup [],L':=[.box (.agg [.ptr 2 [],.ty 48]),.box (.ty 41),.box (.ty 186)],R:=Int×z9×z4,dflt:=(default,default,default),F:=fun N a b=>z81 N b.1.2.1 b.2.1 b.2.2.1,of:=fun r=>((),(((),r.1,()),r.2.1,r.2.2,())) }
noncomputable def zfz:Dat τ:={ D:=D0,tbl:=tblOf [(146,zt)],lp:=lpsOf [],k0:=3,mu:=[],un:=[(1,4)] }
theorem zhg:ConOk E C 121 z6a :=
  zj (D:=zfz) ⟨d0Ok,eGood,z7 ⟨zy,trivial⟩,fun _=>rfl⟩ z6a (fun a b=>(b.1.2.1,b.2.1,b.2.2.1)) none (fun _ _=>rfl) rfl (fun _ _ h=>nomatch h) 1000000 (fn:=Tryz.f121) Tryz.func121 rfl (by kernel_rfl) (by kernel_rfl) rfl (by intro N a b; kernel_rfl)
def z35 (N:Nat) (b0:Int) (b1:z9) (b2:z4):Option (Int×z9×z4) :=
 ((ze N b0 b2).bind fun r1 =>
 (some (r1.2.1,(⟨b1.Kind,b1.Session,b1.Request,b1.Op,b1.Origin,b1.Seq,b1.Ops,b1.Epoch,b1.From,b1.Vector_,b1.Clock,b1.Part,r1.1,b1.Sponsor,b1.Length⟩:z9),r1.2.2)))
def z6b:Con τ:={ args:=[.ptr 0 [],.ls 1 [.ptr 1 [.fld 12 53]]],L:=[.box (.agg [.ptr 2 [],.ty 48]),.box (.ty 41),.box (.ty 186)],ret:=.tup [],L':=[.box (.agg [.ptr 2 [],.ty 48]),.box (.ty 41),.box (.ty 186)],R:=Int×z9×z4,dflt:=(default,default,default),F:=fun N a b=>z35 N b.1.2.1 b.2.1 b.2.2.1,of:=fun r=>((),(((),r.1,()),r.2.1,r.2.2,())) }
noncomputable def zg0:Dat τ:={ D:=D0,tbl:=tblOf [(146,zt)],lp:=lpsOf [],k0:=3,mu:=[],un:=[(1,3)] }
theorem zhh:ConOk E C 121 z6b :=
  zj (D:=zg0) ⟨d0Ok,eGood,z7 ⟨zy,trivial⟩,fun _=>rfl⟩ z6b (fun a b=>(b.1.2.1,b.2.1,b.2.2.1)) none (fun _ _=>rfl) rfl (fun _ _ h=>nomatch h) 1000000 (fn:=Tryz.f121) Tryz.func121 rfl (by kernel_rfl) (by kernel_rfl) rfl (by intro N a b; kernel_rfl)
def z96 (N:Nat) (b0:Int) (b1:z9) (b2:z4):Option (Int×z9×z4) :=
 ((zd N b0 b2).bind fun r1 =>
 (some (r1.2.1,(⟨b1.Kind,b1.Session,b1.Request,b1.Op,b1.Origin,b1.Seq,b1.Ops,b1.Epoch,b1.From,b1.Vector_,b1.Clock,b1.Part,b1.Site,b1.Sponsor,r1.1⟩:z9),r1.2.2)))
def z82:Con τ:={ args:=[.ptr 0 [],.ls 1 [.ptr 1 [.fld 14 55]]],L:=[.box (.agg [.ptr 2 [],.ty 48]),.box (.ty 41),.box (.ty 186)],ret:=.tup [],L':=[.box (.agg [.ptr 2 [],.ty 48]),.box (.ty 41),.box (.ty 186)],R:=Int×z9×z4,dflt:=(default,default,default),F:=fun N a b=>z96 N b.1.2.1 b.2.1 b.2.2.1,of:=fun r=>((),(((),r.1,()),r.2.1,r.2.2,())) }
noncomputable def zjg:Dat τ:={ D:=D0,tbl:=tblOf [(172,zi)],lp:=lpsOf [],k0:=3,mu:=[],un:=[(1,3)] }
theorem zkm:ConOk E C 148 z82 :=
  zj (D:=zjg) ⟨d0Ok,eGood,z7 ⟨zn,trivial⟩,fun _=>rfl⟩ z82 (fun a b=>(b.1.2.1,b.2.1,b.2.2.1)) none (fun _ _=>rfl) rfl (fun _ _ h=>nomatch h) 1000000 (fn:=Tryz.f148) Tryz.func148 rfl (by kernel_rfl) (by kernel_rfl) rfl (by intro N a b; kernel_rfl)
def z24 (N:Nat) (b0:Int) (b1:z4):Option (z9×Int×z4) :=
 ((z7m N b0 (⟨0,0,0,(⟨(⟨0,0⟩:z1a),0,0,0,[],[],[]⟩:GOp),0,0,[],(⟨0,(Vector.replicate 8 (default:Int)),(Vector.replicate 8 (default:Int)),(Vector.replicate 8 (default:Int))⟩:za),0,(Vector.replicate 8 (default:Int)),0,(⟨0,0,0,[]⟩:GPart),0,0,0⟩:z9) b1).bind fun r1 =>
 (bif (!(r1.1==0)) then
 (some (r1.2.1,r1.1,r1.2.2))
 else
 (bif (r1.2.1.Kind==0) then
 (some (r1.2.1,r1.1,r1.2.2))
 else
 (bif (r1.2.1.Kind==1) then
 ((z8z N r1.1 r1.2.1 r1.2.2).bind fun r2 =>
 ((z4m N r2.1 r2.2.2).bind fun r3 =>
 (some ((⟨r2.2.1.Kind,r2.2.1.Session,r2.2.1.Request,r3.1,r2.2.1.Origin,r2.2.1.Seq,r2.2.1.Ops,r2.2.1.Epoch,r2.2.1.From,r2.2.1.Vector_,r2.2.1.Clock,r2.2.1.Part,r2.2.1.Site,r2.2.1.Sponsor,r2.2.1.Length⟩:z9),r3.2.1,r3.2.2))))
 else
 (bif (r1.2.1.Kind==2) then
 ((z7s N r1.1 r1.2.1 r1.2.2).bind fun r4 =>
 ((z3o N r4.1 r4.2.1 r4.2.2).bind fun r5 =>
 ((z2s N r5.1 r5.2.2).bind fun r6 =>
 (some ((⟨r5.2.1.Kind,r5.2.1.Session,r5.2.1.Request,r5.2.1.Op,r5.2.1.Origin,r5.2.1.Seq,r6.1,r5.2.1.Epoch,r5.2.1.From,r5.2.1.Vector_,r5.2.1.Clock,r5.2.1.Part,r5.2.1.Site,r5.2.1.Sponsor,r5.2.1.Length⟩:z9),r6.2.1,r6.2.2)))))
 else
 (bif (r1.2.1.Kind==3) then
 ((z23 N r1.1 r1.2.2).bind fun r7 =>
 (some ((⟨r1.2.1.Kind,r1.2.1.Session,r1.2.1.Request,r1.2.1.Op,r1.2.1.Origin,r1.2.1.Seq,r1.2.1.Ops,r7.1,r1.2.1.From,r1.2.1.Vector_,r1.2.1.Clock,r1.2.1.Part,r1.2.1.Site,r1.2.1.Sponsor,r1.2.1.Length⟩:z9),r7.2.1,r7.2.2)))
 else
 (bif (r1.2.1.Kind==4) then
 ((z3o N r1.1 r1.2.1 r1.2.2).bind fun r8 =>
 ((z7x N r8.1 r8.2.1 r8.2.2).bind fun r9 =>
 ((z4h N r9.1 r9.2.1 r9.2.2).bind fun r10 =>
 ((z94 N r10.1 r10.2.1 r10.2.2).bind fun r11 =>
 (some (r11.2.1,r11.1,r11.2.2))))))
 else
 (bif (r1.2.1.Kind==5) then
 ((z1i N r1.1 r1.2.2).bind fun r12 =>
 (some ((⟨r1.2.1.Kind,r1.2.1.Session,r1.2.1.Request,r1.2.1.Op,r1.2.1.Origin,r1.2.1.Seq,r1.2.1.Ops,r1.2.1.Epoch,r1.2.1.From,r1.2.1.Vector_,r1.2.1.Clock,r12.1,r1.2.1.Site,r1.2.1.Sponsor,r1.2.1.Length⟩:z9),r12.2.1,r12.2.2)))
 else
 (bif (r1.2.1.Kind==6) then
 ((z81 N r1.1 r1.2.1 r1.2.2).bind fun r13 =>
 (some (r13.2.1,r13.1,r13.2.2)))
 else
 (bif (r1.2.1.Kind==7) then
 ((z35 N r1.1 r1.2.1 r1.2.2).bind fun r14 =>
 (some (r14.2.1,r14.1,r14.2.2)))
 else
 (bif (r1.2.1.Kind==8) then
 ((z35 N r1.1 r1.2.1 r1.2.2).bind fun r15 =>
 ((z96 N r15.1 r15.2.1 r15.2.2).bind fun r16 =>
 (some (r16.2.1,r16.1,r16.2.2))))
 else
 (some (r1.2.1,40,r1.2.2)))))))))))))
def z43:Con τ:={ args:=[.ptr 0 []],L:=[.box (.agg [.ptr 1 [],.ty 48]),.box (.ty 186)],ret:=.ty 41,L':=[.box (.agg [.ptr 1 [],.ty 48]),.box (.ty 186)],R:=z9×Int×z4,dflt:=(default,default,default),F:=fun N a b=>z24 N b.1.2.1 b.2.1,of:=fun r=>(r.1,(((),r.2.1,()),r.2.2,())) }
noncomputable def zhi:Dat τ:={ D:=D0,tbl:=tblOf [(121,z61),(148,z7n),(174,z5b),(121,z63),(148,z7t),(152,z4s),(153,z42),(121,z67),(151,z68),(148,z7y),(154,z4i),(121,z6a),(121,z6b),(148,z82)],lp:=lpsOf [],k0:=2,mu:=[],un:=[] }
theorem zbd:ConOk E C 150 z43 :=
  zj (D:=zhi) ⟨d0Ok,eGood,z7 ⟨zh7,⟨zkc,⟨zdh,⟨zh9,⟨zkh,⟨zcj,⟨zbc,⟨zhc,⟨zhd,⟨zkk,⟨zc7,⟨zhg,⟨zhh,⟨zkm,trivial⟩⟩⟩⟩⟩⟩⟩⟩⟩⟩⟩⟩⟩⟩,fun _=>rfl⟩ z43 (fun a b=>(a,b.1.2.1,b.2.1)) none (fun _ _=>rfl) rfl (fun _ _ h=>nomatch h) 1000000 (fn:=Tryz.f150) Tryz.func150 rfl (by kernel_rfl) (by kernel_rfl) rfl (by intro N a b; kernel_rfl)
structure z2l where
  l:List (zc)
  t7:Int
  b0:Int
  b1:z4
def z6y:List Sl:=[.k,.k,.j,.sh (.own 155 2),.j,.k,.k,.sh (.ty 2),.j,.j,.j,.j,.j,.j,.j,.j,.j,.j,.j,.j,.j,.j,.j,.j,.j,.j,.j,.j,.j,.k]
def z6z:List ESh:=[.box (.agg [.ptr 1 [],.ty 2]),.box (.ty 165),.tail]
def zhj (a:Sl.Ts τ z6y) (b:ESh.Ts τ z6z):z2l:=⟨a.2.2.2.1,a.2.2.2.2.2.2.2.1,b.1.2.1,b.2.1⟩
def zhk (s:z2l):Sl.Ts τ z6y:=((),(),(),s.l,(),(),(),s.t7,(),(),(),(),(),(),(),(),(),(),(),(),(),(),(),(),(),(),(),(),(),(),())
def zhl (s:z2l):ESh.Ts τ z6z:=(((),s.b0,()),s.b1,(),())
def zhm:Lp τ:={ ts:=z6y,hs:=z6z,S:=z2l,to:=zhj,ot:=zhk,oh:=zhl,hk:=[2,2],tk:=[2,0,0,0,0,2],ot_to:=fun _ _=>rfl,oh_to:=fun _ _=>rfl }
def z13 (N:Nat) (b0:Int) (b1:z4):Option ((List (zc))×Int×z4) :=
 ((z3n N b0 b1).bind fun r1 =>
 (iter N (fun (s2:z2l) next3 =>
 (bif (decide (s2.t7 < r1.1)) then
 (bif (!(s2.b0==0)) then
 (some ([],s2.b0,s2.b1))
 else
 ((z8y N s2.b0 (⟨0,(⟨0,0⟩:zu),(⟨0,0,0,(⟨(⟨0,0⟩:z1a),0,0,0,[],[],[]⟩:GOp),0,0,[],(⟨0,(Vector.replicate 8 (default:Int)),(Vector.replicate 8 (default:Int)),(Vector.replicate 8 (default:Int))⟩:za),0,(Vector.replicate 8 (default:Int)),0,(⟨0,0,0,[]⟩:GPart),0,0,0⟩:z9)⟩:zc) s2.b1).bind fun r4 =>
 ((zo N r4.1 r4.2.2).bind fun r5 =>
 ((z24 N r5.2.1 r5.2.2).bind fun r6 =>
 (bif (lenB ((s2.l).length+([(⟨r4.2.1.Slot,r5.1,r6.1⟩:zc)]).length) 528) then
 (next3 ⟨(s2.l++[(⟨r4.2.1.Slot,r5.1,r6.1⟩:zc)]),(IntKind.i64.wrap (s2.t7+1)),r6.2.1,r6.2.2⟩)
 else none)))))
 else
 (some (s2.l,s2.b0,s2.b1)))) ⟨[],0,r1.2.1,r1.2.2⟩))
def z83:Con τ:={ args:=[.ptr 0 []],L:=[.box (.agg [.ptr 1 [],.ty 48]),.box (.ty 186)],ret:=.ty 26,L':=[.box (.agg [.ptr 1 [],.ty 48]),.box (.ty 186)],R:=(List (zc))×Int×z4,dflt:=(default,default,default),F:=fun N a b=>z13 N b.1.2.1 b.2.1,of:=fun r=>(r.1,(((),r.2.1,()),r.2.2,())) }
noncomputable def zjh:Dat τ:={ D:=D0,tbl:=tblOf [(173,z4f),(148,z7l),(147,z3m),(150,z43)],lp:=lpsOf [(3,zhm)],k0:=2,mu:=[],un:=[] }
theorem zkn:ConOk E C 149 z83 :=
  zj (D:=zjh) ⟨d0Ok,eGood,z7 ⟨zc6,⟨zkb,⟨zay,⟨zbd,trivial⟩⟩⟩⟩,fun _=>rfl⟩ z83 (fun a b=>(a,b.1.2.1,b.2.1)) none (fun _ _=>rfl) rfl (fun _ _ h=>nomatch h) 1000000 (fn:=Tryz.f149) Tryz.func149 rfl (by kernel_rfl) (by kernel_rfl) rfl (by intro N a b; kernel_rfl)
def zz (N:Nat) (b0:Int) (b1:GMsg) (b2:z4):Option (Int×GMsg×z4) :=
 ((zd N b0 b2).bind fun r1 =>
 (some (r1.2.1,(⟨b1.Kind,b1.From,b1.To,b1.Ballot,b1.Slot,b1.List_,b1.Entry,r1.1,b1.Vector_,b1.Clock,b1.Origin,b1.Ops,b1.Epoch,b1.Part⟩:GMsg),r1.2.2)))
def z84:Con τ:={ args:=[.ptr 0 [],.ls 1 [.ptr 1 [.fld 7 65]]],L:=[.box (.agg [.ptr 2 [],.ty 48]),.box (.ty 43),.box (.ty 186)],ret:=.tup [],L':=[.box (.agg [.ptr 2 [],.ty 48]),.box (.ty 43),.box (.ty 186)],R:=Int×GMsg×z4,dflt:=(default,default,default),F:=fun N a b=>zz N b.1.2.1 b.2.1 b.2.2.1,of:=fun r=>((),(((),r.1,()),r.2.1,r.2.2,())) }
noncomputable def zji:Dat τ:={ D:=D0,tbl:=tblOf [(172,zi)],lp:=lpsOf [],k0:=3,mu:=[],un:=[(1,3)] }
theorem zko:ConOk E C 148 z84 :=
  zj (D:=zji) ⟨d0Ok,eGood,z7 ⟨zn,trivial⟩,fun _=>rfl⟩ z84 (fun a b=>(b.1.2.1,b.2.1,b.2.2.1)) none (fun _ _=>rfl) rfl (fun _ _ h=>nomatch h) 1000000 (fn:=Tryz.f148) Tryz.func148 rfl (by kernel_rfl) (by kernel_rfl) rfl (by intro N a b; kernel_rfl)
structure z1r where
  t5:Int
  b0:Int
  b1:GMsg
  b2:z4
def z5i:List Sl:=[.k,.k,.k,.k,.j,.sh (.ty 2),.j,.j,.j,.j,.j,.j,.j,.j,.j]
def z5j:List ESh:=[.box (.agg [.ptr 2 [],.ty 2]),.box (.ty 42),.box (.ty 165)]
def zf8 (a:Sl.Ts τ z5i) (b:ESh.Ts τ z5j):z1r:=⟨a.2.2.2.2.2.1,b.1.2.1,b.2.1,b.2.2.1⟩
def zf9 (s:z1r):Sl.Ts τ z5i:=((),(),(),(),(),s.t5,(),(),(),(),(),(),(),(),(),())
def zfa (s:z1r):ESh.Ts τ z5j:=(((),s.b0,()),s.b1,s.b2,())
def zfb:Lp τ:={ ts:=z5i,hs:=z5j,S:=z1r,to:=zf8,ot:=zf9,oh:=zfa,hk:=[2,2,2],tk:=[2,3],ot_to:=fun _ _=>rfl,oh_to:=fun _ _=>rfl }
def z1j (N:Nat) (b0:Int) (b1:GMsg) (b2:z4):Option (Int×GMsg×z4) :=
 (iter N (fun (s1:z1r) next2 =>
 (bif (decide (s1.t5 < 8)) then
 ((zd N s1.b0 s1.b2).bind fun r3 =>
 (bif (ibB s1.t5 8) then
 (next2 ⟨(IntKind.i64.wrap (s1.t5+1)),r3.2.1,(⟨s1.b1.Kind,s1.b1.From,s1.b1.To,s1.b1.Ballot,s1.b1.Slot,s1.b1.List_,s1.b1.Entry,s1.b1.Number,(vset s1.b1.Vector_ ((s1.t5).toNat) r3.1),s1.b1.Clock,s1.b1.Origin,s1.b1.Ops,s1.b1.Epoch,s1.b1.Part⟩:GMsg),r3.2.2⟩)
 else none))
 else
 (some (s1.b0,s1.b1,s1.b2)))) ⟨0,b0,b1,b2⟩)
def z6c:Con τ:={ args:=[.ptr 0 [],.ptr 1 [.fld 8 66]],L:=[.box (.agg [.ptr 2 [],.ty 48]),.box (.ty 43),.box (.ty 186)],ret:=.tup [],L':=[.box (.agg [.ptr 2 [],.ty 48]),.box (.ty 43),.box (.ty 186)],R:=Int×GMsg×z4,dflt:=(default,default,default),F:=fun N a b=>z1j N b.1.2.1 b.2.1 b.2.2.1,of:=fun r=>((),(((),r.1,()),r.2.1,r.2.2,())) }
noncomputable def zg1:Dat τ:={ D:=D0,tbl:=tblOf [(172,zi)],lp:=lpsOf [(1,zfb)],k0:=3,mu:=[],un:=[] }
theorem zhn:ConOk E C 151 z6c :=
  zj (D:=zg1) ⟨d0Ok,eGood,z7 ⟨zn,trivial⟩,fun _=>rfl⟩ z6c (fun a b=>(b.1.2.1,b.2.1,b.2.2.1)) none (fun _ _=>rfl) rfl (fun _ _ h=>nomatch h) 1000000 (fn:=Tryz.f151) Tryz.func151 rfl (by kernel_rfl) (by kernel_rfl) rfl (by intro N a b; kernel_rfl)
def z3p (N:Nat) (b0:Int) (b1:GMsg) (b2:z4):Option (Int×GMsg×z4) :=
 ((zd N b0 b2).bind fun r1 =>
 (some (r1.2.1,(⟨b1.Kind,b1.From,b1.To,b1.Ballot,b1.Slot,b1.List_,b1.Entry,b1.Number,b1.Vector_,r1.1,b1.Origin,b1.Ops,b1.Epoch,b1.Part⟩:GMsg),r1.2.2)))
def z85:Con τ:={ args:=[.ptr 0 [],.ls 1 [.ptr 1 [.fld 9 74]]],L:=[.box (.agg [.ptr 2 [],.ty 48]),.box (.ty 43),.box (.ty 186)],ret:=.tup [],L':=[.box (.agg [.ptr 2 [],.ty 48]),.box (.ty 43),.box (.ty 186)],R:=Int×GMsg×z4,dflt:=(default,default,default),F:=fun N a b=>z3p N b.1.2.1 b.2.1 b.2.2.1,of:=fun r=>((),(((),r.1,()),r.2.1,r.2.2,())) }
noncomputable def zjj:Dat τ:={ D:=D0,tbl:=tblOf [(172,zi)],lp:=lpsOf [],k0:=3,mu:=[],un:=[(1,3)] }
theorem zkp:ConOk E C 148 z85 :=
  zj (D:=zjj) ⟨d0Ok,eGood,z7 ⟨zn,trivial⟩,fun _=>rfl⟩ z85 (fun a b=>(b.1.2.1,b.2.1,b.2.2.1)) none (fun _ _=>rfl) rfl (fun _ _ h=>nomatch h) 1000000 (fn:=Tryz.f148) Tryz.func148 rfl (by kernel_rfl) (by kernel_rfl) rfl (by intro N a b; kernel_rfl)
def z36 (N:Nat) (b0:Int) (b1:GMsg) (b2:z4):Option (Int×GMsg×z4) :=
 ((ze N b0 b2).bind fun r1 =>
 (some (r1.2.1,(⟨b1.Kind,b1.From,b1.To,b1.Ballot,b1.Slot,b1.List_,b1.Entry,b1.Number,b1.Vector_,b1.Clock,r1.1,b1.Ops,b1.Epoch,b1.Part⟩:GMsg),r1.2.2)))
def z6d:Con τ:={ args:=[.ptr 0 [],.ls 1 [.ptr 1 [.fld 10 75]]],L:=[.box (.agg [.ptr 2 [],.ty 48]),.box (.ty 43),.box (.ty 186)],ret:=.tup [],L':=[.box (.agg [.ptr 2 [],.ty 48]),.box (.ty 43),.box (.ty 186)],R:=Int×GMsg×z4,dflt:=(default,default,default),F:=fun N a b=>z36 N b.1.2.1 b.2.1 b.2.2.1,of:=fun r=>((),(((),r.1,()),r.2.1,r.2.2,())) }
noncomputable def zg2:Dat τ:={ D:=D0,tbl:=tblOf [(146,zt)],lp:=lpsOf [],k0:=3,mu:=[],un:=[(1,3)] }
theorem zho:ConOk E C 121 z6d :=
  zj (D:=zg2) ⟨d0Ok,eGood,z7 ⟨zy,trivial⟩,fun _=>rfl⟩ z6d (fun a b=>(b.1.2.1,b.2.1,b.2.2.1)) none (fun _ _=>rfl) rfl (fun _ _ h=>nomatch h) 1000000 (fn:=Tryz.f121) Tryz.func121 rfl (by kernel_rfl) (by kernel_rfl) rfl (by intro N a b; kernel_rfl)
def z3q (N:Nat) (b0:Int) (b1:GMsg) (b2:z4):Option (Int×GMsg×z4) :=
 (bif (b1.Kind==1) then
 (bif (b1.Kind==1) then
 ((zo N b0 b2).bind fun r1 =>
 ((zf N r1.2.1 (⟨b1.Kind,b1.From,b1.To,r1.1,b1.Slot,b1.List_,b1.Entry,b1.Number,b1.Vector_,b1.Clock,b1.Origin,b1.Ops,b1.Epoch,b1.Part⟩:GMsg) r1.2.2).bind fun r2 =>
 (some (r2.1,r2.2.1,r2.2.2))))
 else
 (bif (b1.Kind==2) then
 ((zo N b0 b2).bind fun r3 =>
 ((zf N r3.2.1 (⟨b1.Kind,b1.From,b1.To,r3.1,b1.Slot,b1.List_,b1.Entry,b1.Number,b1.Vector_,b1.Clock,b1.Origin,b1.Ops,b1.Epoch,b1.Part⟩:GMsg) r3.2.2).bind fun r4 =>
 ((z13 N r4.1 r4.2.2).bind fun r5 =>
 (some (r5.2.1,(⟨r4.2.1.Kind,r4.2.1.From,r4.2.1.To,r4.2.1.Ballot,r4.2.1.Slot,r5.1,r4.2.1.Entry,r4.2.1.Number,r4.2.1.Vector_,r4.2.1.Clock,r4.2.1.Origin,r4.2.1.Ops,r4.2.1.Epoch,r4.2.1.Part⟩:GMsg),r5.2.2)))))
 else
 (bif (b1.Kind==3) then
 ((zo N b0 b2).bind fun r6 =>
 ((z13 N r6.2.1 r6.2.2).bind fun r7 =>
 (some (r7.2.1,(⟨b1.Kind,b1.From,b1.To,r6.1,b1.Slot,r7.1,b1.Entry,b1.Number,b1.Vector_,b1.Clock,b1.Origin,b1.Ops,b1.Epoch,b1.Part⟩:GMsg),r7.2.2))))
 else
 (bif (b1.Kind==5) then
 ((zo N b0 b2).bind fun r8 =>
 (some (r8.2.1,(⟨b1.Kind,b1.From,b1.To,r8.1,b1.Slot,b1.List_,b1.Entry,b1.Number,b1.Vector_,b1.Clock,b1.Origin,b1.Ops,b1.Epoch,b1.Part⟩:GMsg),r8.2.2)))
 else
 (bif (b1.Kind==6) then
 ((z13 N b0 b2).bind fun r9 =>
 (some (r9.2.1,(⟨b1.Kind,b1.From,b1.To,b1.Ballot,b1.Slot,r9.1,b1.Entry,b1.Number,b1.Vector_,b1.Clock,b1.Origin,b1.Ops,b1.Epoch,b1.Part⟩:GMsg),r9.2.2)))
 else
 (bif (b1.Kind==8) then
 ((zf N b0 b1 b2).bind fun r10 =>
 (some (r10.1,r10.2.1,r10.2.2)))
 else
 (bif (b1.Kind==9) then
 ((z24 N b0 b2).bind fun r11 =>
 (some (r11.2.1,(⟨b1.Kind,b1.From,b1.To,b1.Ballot,b1.Slot,b1.List_,r11.1,b1.Number,b1.Vector_,b1.Clock,b1.Origin,b1.Ops,b1.Epoch,b1.Part⟩:GMsg),r11.2.2)))
 else
 (bif (b1.Kind==10) then
 ((zz N b0 b1 b2).bind fun r12 =>
 ((z1j N r12.1 r12.2.1 r12.2.2).bind fun r13 =>
 ((z3p N r13.1 r13.2.1 r13.2.2).bind fun r14 =>
 (some (r14.1,r14.2.1,r14.2.2)))))
 else
 (bif (b1.Kind==11) then
 ((zz N b0 b1 b2).bind fun r15 =>
 ((z36 N r15.1 r15.2.1 r15.2.2).bind fun r16 =>
 ((zf N r16.1 r16.2.1 r16.2.2).bind fun r17 =>
 ((z2s N r17.1 r17.2.2).bind fun r18 =>
 (some (r18.2.1,(⟨r17.2.1.Kind,r17.2.1.From,r17.2.1.To,r17.2.1.Ballot,r17.2.1.Slot,r17.2.1.List_,r17.2.1.Entry,r17.2.1.Number,r17.2.1.Vector_,r17.2.1.Clock,r17.2.1.Origin,r18.1,r17.2.1.Epoch,r17.2.1.Part⟩:GMsg),r18.2.2))))))
 else
 (bif (b1.Kind==12) then
 ((z23 N b0 b2).bind fun r19 =>
 (some (r19.2.1,(⟨b1.Kind,b1.From,b1.To,b1.Ballot,b1.Slot,b1.List_,b1.Entry,b1.Number,b1.Vector_,b1.Clock,b1.Origin,b1.Ops,r19.1,b1.Part⟩:GMsg),r19.2.2)))
 else
 (bif (b1.Kind==13) then
 ((z1i N b0 b2).bind fun r20 =>
 (some (r20.2.1,(⟨b1.Kind,b1.From,b1.To,b1.Ballot,b1.Slot,b1.List_,b1.Entry,b1.Number,b1.Vector_,b1.Clock,b1.Origin,b1.Ops,b1.Epoch,r20.1⟩:GMsg),r20.2.2)))
 else
 (bif (b1.Kind==14) then
 ((zz N b0 b1 b2).bind fun r21 =>
 ((z1j N r21.1 r21.2.1 r21.2.2).bind fun r22 =>
 (some (r22.1,r22.2.1,r22.2.2))))
 else
 (bif (b1.Kind==15) then
 ((zf N b0 b1 b2).bind fun r23 =>
 ((z1i N r23.1 r23.2.2).bind fun r24 =>
 (some (r24.2.1,(⟨r23.2.1.Kind,r23.2.1.From,r23.2.1.To,r23.2.1.Ballot,r23.2.1.Slot,r23.2.1.List_,r23.2.1.Entry,r23.2.1.Number,r23.2.1.Vector_,r23.2.1.Clock,r23.2.1.Origin,r23.2.1.Ops,r23.2.1.Epoch,r24.1⟩:GMsg),r24.2.2))))
 else
 (some (b0,b1,b2)))))))))))))))
 else
 (bif (b1.Kind==4) then
 (bif (b1.Kind==4) then
 ((zo N b0 b2).bind fun r25 =>
 ((zf N r25.2.1 (⟨b1.Kind,b1.From,b1.To,r25.1,b1.Slot,b1.List_,b1.Entry,b1.Number,b1.Vector_,b1.Clock,b1.Origin,b1.Ops,b1.Epoch,b1.Part⟩:GMsg) r25.2.2).bind fun r26 =>
 (some (r26.1,r26.2.1,r26.2.2))))
 else
 (bif (b1.Kind==2) then
 ((zo N b0 b2).bind fun r27 =>
 ((zf N r27.2.1 (⟨b1.Kind,b1.From,b1.To,r27.1,b1.Slot,b1.List_,b1.Entry,b1.Number,b1.Vector_,b1.Clock,b1.Origin,b1.Ops,b1.Epoch,b1.Part⟩:GMsg) r27.2.2).bind fun r28 =>
 ((z13 N r28.1 r28.2.2).bind fun r29 =>
 (some (r29.2.1,(⟨r28.2.1.Kind,r28.2.1.From,r28.2.1.To,r28.2.1.Ballot,r28.2.1.Slot,r29.1,r28.2.1.Entry,r28.2.1.Number,r28.2.1.Vector_,r28.2.1.Clock,r28.2.1.Origin,r28.2.1.Ops,r28.2.1.Epoch,r28.2.1.Part⟩:GMsg),r29.2.2)))))
 else
 (bif (b1.Kind==3) then
 ((zo N b0 b2).bind fun r30 =>
 ((z13 N r30.2.1 r30.2.2).bind fun r31 =>
 (some (r31.2.1,(⟨b1.Kind,b1.From,b1.To,r30.1,b1.Slot,r31.1,b1.Entry,b1.Number,b1.Vector_,b1.Clock,b1.Origin,b1.Ops,b1.Epoch,b1.Part⟩:GMsg),r31.2.2))))
 else
 (bif (b1.Kind==5) then
 ((zo N b0 b2).bind fun r32 =>
 (some (r32.2.1,(⟨b1.Kind,b1.From,b1.To,r32.1,b1.Slot,b1.List_,b1.Entry,b1.Number,b1.Vector_,b1.Clock,b1.Origin,b1.Ops,b1.Epoch,b1.Part⟩:GMsg),r32.2.2)))
 else
 (bif (b1.Kind==6) then
 ((z13 N b0 b2).bind fun r33 =>
 (some (r33.2.1,(⟨b1.Kind,b1.From,b1.To,b1.Ballot,b1.Slot,r33.1,b1.Entry,b1.Number,b1.Vector_,b1.Clock,b1.Origin,b1.Ops,b1.Epoch,b1.Part⟩:GMsg),r33.2.2)))
 else
 (bif (b1.Kind==8) then
 ((zf N b0 b1 b2).bind fun r34 =>
 (some (r34.1,r34.2.1,r34.2.2)))
 else
 (bif (b1.Kind==9) then
 ((z24 N b0 b2).bind fun r35 =>
 (some (r35.2.1,(⟨b1.Kind,b1.From,b1.To,b1.Ballot,b1.Slot,b1.List_,r35.1,b1.Number,b1.Vector_,b1.Clock,b1.Origin,b1.Ops,b1.Epoch,b1.Part⟩:GMsg),r35.2.2)))
 else
 (bif (b1.Kind==10) then
 ((zz N b0 b1 b2).bind fun r36 =>
 ((z1j N r36.1 r36.2.1 r36.2.2).bind fun r37 =>
 ((z3p N r37.1 r37.2.1 r37.2.2).bind fun r38 =>
 (some (r38.1,r38.2.1,r38.2.2)))))
 else
 (bif (b1.Kind==11) then
 ((zz N b0 b1 b2).bind fun r39 =>
 ((z36 N r39.1 r39.2.1 r39.2.2).bind fun r40 =>
 ((zf N r40.1 r40.2.1 r40.2.2).bind fun r41 =>
 ((z2s N r41.1 r41.2.2).bind fun r42 =>
 (some (r42.2.1,(⟨r41.2.1.Kind,r41.2.1.From,r41.2.1.To,r41.2.1.Ballot,r41.2.1.Slot,r41.2.1.List_,r41.2.1.Entry,r41.2.1.Number,r41.2.1.Vector_,r41.2.1.Clock,r41.2.1.Origin,r42.1,r41.2.1.Epoch,r41.2.1.Part⟩:GMsg),r42.2.2))))))
 else
 (bif (b1.Kind==12) then
 ((z23 N b0 b2).bind fun r43 =>
 (some (r43.2.1,(⟨b1.Kind,b1.From,b1.To,b1.Ballot,b1.Slot,b1.List_,b1.Entry,b1.Number,b1.Vector_,b1.Clock,b1.Origin,b1.Ops,r43.1,b1.Part⟩:GMsg),r43.2.2)))
 else
 (bif (b1.Kind==13) then
 ((z1i N b0 b2).bind fun r44 =>
 (some (r44.2.1,(⟨b1.Kind,b1.From,b1.To,b1.Ballot,b1.Slot,b1.List_,b1.Entry,b1.Number,b1.Vector_,b1.Clock,b1.Origin,b1.Ops,b1.Epoch,r44.1⟩:GMsg),r44.2.2)))
 else
 (bif (b1.Kind==14) then
 ((zz N b0 b1 b2).bind fun r45 =>
 ((z1j N r45.1 r45.2.1 r45.2.2).bind fun r46 =>
 (some (r46.1,r46.2.1,r46.2.2))))
 else
 (bif (b1.Kind==15) then
 ((zf N b0 b1 b2).bind fun r47 =>
 ((z1i N r47.1 r47.2.2).bind fun r48 =>
 (some (r48.2.1,(⟨r47.2.1.Kind,r47.2.1.From,r47.2.1.To,r47.2.1.Ballot,r47.2.1.Slot,r47.2.1.List_,r47.2.1.Entry,r47.2.1.Number,r47.2.1.Vector_,r47.2.1.Clock,r47.2.1.Origin,r47.2.1.Ops,r47.2.1.Epoch,r48.1⟩:GMsg),r48.2.2))))
 else
 (some (b0,b1,b2)))))))))))))))
 else
 (bif (b1.Kind==7) then
 ((zo N b0 b2).bind fun r49 =>
 ((zf N r49.2.1 (⟨b1.Kind,b1.From,b1.To,r49.1,b1.Slot,b1.List_,b1.Entry,b1.Number,b1.Vector_,b1.Clock,b1.Origin,b1.Ops,b1.Epoch,b1.Part⟩:GMsg) r49.2.2).bind fun r50 =>
 (some (r50.1,r50.2.1,r50.2.2))))
 else
 (bif (b1.Kind==2) then
 ((zo N b0 b2).bind fun r51 =>
 ((zf N r51.2.1 (⟨b1.Kind,b1.From,b1.To,r51.1,b1.Slot,b1.List_,b1.Entry,b1.Number,b1.Vector_,b1.Clock,b1.Origin,b1.Ops,b1.Epoch,b1.Part⟩:GMsg) r51.2.2).bind fun r52 =>
 ((z13 N r52.1 r52.2.2).bind fun r53 =>
 (some (r53.2.1,(⟨r52.2.1.Kind,r52.2.1.From,r52.2.1.To,r52.2.1.Ballot,r52.2.1.Slot,r53.1,r52.2.1.Entry,r52.2.1.Number,r52.2.1.Vector_,r52.2.1.Clock,r52.2.1.Origin,r52.2.1.Ops,r52.2.1.Epoch,r52.2.1.Part⟩:GMsg),r53.2.2)))))
 else
 (bif (b1.Kind==3) then
 ((zo N b0 b2).bind fun r54 =>
 ((z13 N r54.2.1 r54.2.2).bind fun r55 =>
 (some (r55.2.1,(⟨b1.Kind,b1.From,b1.To,r54.1,b1.Slot,r55.1,b1.Entry,b1.Number,b1.Vector_,b1.Clock,b1.Origin,b1.Ops,b1.Epoch,b1.Part⟩:GMsg),r55.2.2))))
 else
 (bif (b1.Kind==5) then
 ((zo N b0 b2).bind fun r56 =>
 (some (r56.2.1,(⟨b1.Kind,b1.From,b1.To,r56.1,b1.Slot,b1.List_,b1.Entry,b1.Number,b1.Vector_,b1.Clock,b1.Origin,b1.Ops,b1.Epoch,b1.Part⟩:GMsg),r56.2.2)))
 else
 (bif (b1.Kind==6) then
 ((z13 N b0 b2).bind fun r57 =>
 (some (r57.2.1,(⟨b1.Kind,b1.From,b1.To,b1.Ballot,b1.Slot,r57.1,b1.Entry,b1.Number,b1.Vector_,b1.Clock,b1.Origin,b1.Ops,b1.Epoch,b1.Part⟩:GMsg),r57.2.2)))
 else
 (bif (b1.Kind==8) then
 ((zf N b0 b1 b2).bind fun r58 =>
 (some (r58.1,r58.2.1,r58.2.2)))
 else
 (bif (b1.Kind==9) then
 ((z24 N b0 b2).bind fun r59 =>
 (some (r59.2.1,(⟨b1.Kind,b1.From,b1.To,b1.Ballot,b1.Slot,b1.List_,r59.1,b1.Number,b1.Vector_,b1.Clock,b1.Origin,b1.Ops,b1.Epoch,b1.Part⟩:GMsg),r59.2.2)))
 else
 (bif (b1.Kind==10) then
 ((zz N b0 b1 b2).bind fun r60 =>
 ((z1j N r60.1 r60.2.1 r60.2.2).bind fun r61 =>
 ((z3p N r61.1 r61.2.1 r61.2.2).bind fun r62 =>
 (some (r62.1,r62.2.1,r62.2.2)))))
 else
 (bif (b1.Kind==11) then
 ((zz N b0 b1 b2).bind fun r63 =>
 ((z36 N r63.1 r63.2.1 r63.2.2).bind fun r64 =>
 ((zf N r64.1 r64.2.1 r64.2.2).bind fun r65 =>
 ((z2s N r65.1 r65.2.2).bind fun r66 =>
 (some (r66.2.1,(⟨r65.2.1.Kind,r65.2.1.From,r65.2.1.To,r65.2.1.Ballot,r65.2.1.Slot,r65.2.1.List_,r65.2.1.Entry,r65.2.1.Number,r65.2.1.Vector_,r65.2.1.Clock,r65.2.1.Origin,r66.1,r65.2.1.Epoch,r65.2.1.Part⟩:GMsg),r66.2.2))))))
 else
 (bif (b1.Kind==12) then
 ((z23 N b0 b2).bind fun r67 =>
 (some (r67.2.1,(⟨b1.Kind,b1.From,b1.To,b1.Ballot,b1.Slot,b1.List_,b1.Entry,b1.Number,b1.Vector_,b1.Clock,b1.Origin,b1.Ops,r67.1,b1.Part⟩:GMsg),r67.2.2)))
 else
 (bif (b1.Kind==13) then
 ((z1i N b0 b2).bind fun r68 =>
 (some (r68.2.1,(⟨b1.Kind,b1.From,b1.To,b1.Ballot,b1.Slot,b1.List_,b1.Entry,b1.Number,b1.Vector_,b1.Clock,b1.Origin,b1.Ops,b1.Epoch,r68.1⟩:GMsg),r68.2.2)))
 else
 (bif (b1.Kind==14) then
 ((zz N b0 b1 b2).bind fun r69 =>
 ((z1j N r69.1 r69.2.1 r69.2.2).bind fun r70 =>
 (some (r70.1,r70.2.1,r70.2.2))))
 else
 (bif (b1.Kind==15) then
 ((zf N b0 b1 b2).bind fun r71 =>
 ((z1i N r71.1 r71.2.2).bind fun r72 =>
 (some (r72.2.1,(⟨r71.2.1.Kind,r71.2.1.From,r71.2.1.To,r71.2.1.Ballot,r71.2.1.Slot,r71.2.1.List_,r71.2.1.Entry,r71.2.1.Number,r71.2.1.Vector_,r71.2.1.Clock,r71.2.1.Origin,r71.2.1.Ops,r71.2.1.Epoch,r72.1⟩:GMsg),r72.2.2))))
 else
 (some (b0,b1,b2)))))))))))))))))
def z86:Con τ:={ args:=[.ptr 0 [],.ptr 1 []],L:=[.box (.agg [.ptr 2 [],.ty 48]),.box (.ty 43),.box (.ty 186)],ret:=.tup [],L':=[.box (.agg [.ptr 2 [],.ty 48]),.box (.ty 43),.box (.ty 186)],R:=Int×GMsg×z4,dflt:=(default,default,default),F:=fun N a b=>z3q N b.1.2.1 b.2.1 b.2.2.1,of:=fun r=>((),(((),r.1,()),r.2.1,r.2.2,())) }
noncomputable def zjk:Dat τ:={ D:=D0,tbl:=tblOf [(147,z3m),(148,z7k),(149,z83),(150,z43),(148,z84),(151,z6c),(148,z85),(121,z6d),(152,z4s),(153,z42),(154,z4i)],lp:=lpsOf [],k0:=3,mu:=[],un:=[] }
theorem zkq:ConOk E C 122 z86 :=
  zj (D:=zjk) ⟨d0Ok,eGood,z7 ⟨zay,⟨zka,⟨zkn,⟨zbd,⟨zko,⟨zhn,⟨zkp,⟨zho,⟨zcj,⟨zbc,⟨zc7,trivial⟩⟩⟩⟩⟩⟩⟩⟩⟩⟩⟩,fun _=>rfl⟩ z86 (fun a b=>(b.1.2.1,b.2.1,b.2.2.1)) none (fun _ _=>rfl) rfl (fun _ _ h=>nomatch h) 1000000 (fn:=Tryz.f122) Tryz.func122 rfl (by kernel_rfl) (by kernel_rfl) rfl (by intro N a b; kernel_rfl)
def z44 (N:Nat) (b0:Int) (b1:z4):Option (GMsg×Int×z4) :=
 ((z7h N b0 (⟨0,(⟨0,0⟩:GAddr),(⟨0,0⟩:GAddr),(⟨0,0⟩:zu),0,[],(⟨0,0,0,(⟨(⟨0,0⟩:z1a),0,0,0,[],[],[]⟩:GOp),0,0,[],(⟨0,(Vector.replicate 8 (default:Int)),(Vector.replicate 8 (default:Int)),(Vector.replicate 8 (default:Int))⟩:za),0,(Vector.replicate 8 (default:Int)),0,(⟨0,0,0,[]⟩:GPart),0,0,0⟩:z9),0,(Vector.replicate 8 (default:Int)),0,0,[],(⟨0,(Vector.replicate 8 (default:Int)),(Vector.replicate 8 (default:Int)),(Vector.replicate 8 (default:Int))⟩:za),(⟨0,0,0,[]⟩:GPart)⟩:GMsg) b1).bind fun r1 =>
 (bif ((r1.1==0)&&((decide (r1.2.1.Kind < 1)) || (decide (15 < r1.2.1.Kind)))) then
 ((z1z N 40 r1.2.1 r1.2.2).bind fun r2 =>
 ((z3q N r2.1 r2.2.1 r2.2.2).bind fun r3 =>
 (some (r3.2.1,r3.1,r3.2.2))))
 else
 ((z1z N r1.1 r1.2.1 r1.2.2).bind fun r4 =>
 ((z3q N r4.1 r4.2.1 r4.2.2).bind fun r5 =>
 (some (r5.2.1,r5.1,r5.2.2))))))
def z5k:Con τ:={ args:=[.ptr 0 []],L:=[.box (.agg [.ptr 1 [],.ty 48]),.box (.ty 186)],ret:=.ty 43,L':=[.box (.agg [.ptr 1 [],.ty 48]),.box (.ty 186)],R:=GMsg×Int×z4,dflt:=(default,default,default),F:=fun N a b=>z44 N b.1.2.1 b.2.1,of:=fun r=>(r.1,(((),r.2.1,()),r.2.2,())) }
noncomputable def zfc:Dat τ:={ D:=D0,tbl:=tblOf [(121,z5y),(121,z5z),(122,z86)],lp:=lpsOf [],k0:=2,mu:=[],un:=[] }
theorem zg3:ConOk E C 79 z5k :=
  zj (D:=zfc) ⟨d0Ok,eGood,z7 ⟨zh4,⟨zh5,⟨zkq,trivial⟩⟩⟩,fun _=>rfl⟩ z5k (fun a b=>(a,b.1.2.1,b.2.1)) none (fun _ _=>rfl) rfl (fun _ _ h=>nomatch h) 1000000 (fn:=Tryz.f79) Tryz.func79 rfl (by kernel_rfl) (by kernel_rfl) rfl (by intro N a b; kernel_rfl)
def z8f (N:Nat) (b0:z4):Option (Int×z4) :=
 ((z2z N b0).bind fun r1 =>
 (bif r1.1 then
 (some (2,r1.2))
 else
 (bif (decide (0 < ((r1.2.b).length:Int))) then
 (some (13,r1.2))
 else
 (some (0,r1.2)))))
def z9t:Con τ:={ args:=[.ptr 0 []],L:=[.box (.ty 186)],ret:=.ty 48,L':=[.box (.ty 186)],R:=Int×z4,dflt:=(default,default),F:=fun N a b=>z8f N b.1,of:=fun r=>(r.1,(r.2,())) }
noncomputable def zmz:Dat τ:={ D:=D0,tbl:=tblOf [(123,z3l)],lp:=lpsOf [],k0:=1,mu:=[],un:=[] }
theorem znk:ConOk E C 81 z9t :=
  zj (D:=zmz) ⟨d0Ok,eGood,z7 ⟨z9r,trivial⟩,fun _=>rfl⟩ z9t (fun a b=>(a,b.1)) none (fun _ _=>rfl) rfl (fun _ _ h=>nomatch h) 1000000 (fn:=Tryz.f81) Tryz.func81 rfl (by kernel_rfl) (by kernel_rfl) rfl (by intro N a b; kernel_rfl)
def zar (N:Nat) (b:List (Int)):Option (GMsg×Int) :=
 ((zev N b).bind fun r1 =>
 (bif (!(r1.2.2==0)) then
 (some ((⟨0,(⟨0,0⟩:GAddr),(⟨0,0⟩:GAddr),(⟨0,0⟩:zu),0,[],(⟨0,0,0,(⟨(⟨0,0⟩:z1a),0,0,0,[],[],[]⟩:GOp),0,0,[],(⟨0,(Vector.replicate 8 (default:Int)),(Vector.replicate 8 (default:Int)),(Vector.replicate 8 (default:Int))⟩:za),0,(Vector.replicate 8 (default:Int)),0,(⟨0,0,0,[]⟩:GPart),0,0,0⟩:z9),0,(Vector.replicate 8 (default:Int)),0,0,[],(⟨0,(Vector.replicate 8 (default:Int)),(Vector.replicate 8 (default:Int)),(Vector.replicate 8 (default:Int))⟩:za),(⟨0,0,0,[]⟩:GPart)⟩:GMsg),r1.2.2))
 else
 (bif (decide (r1.2.1 < ((b).length:Int))) then
 (some ((⟨0,(⟨0,0⟩:GAddr),(⟨0,0⟩:GAddr),(⟨0,0⟩:zu),0,[],(⟨0,0,0,(⟨(⟨0,0⟩:z1a),0,0,0,[],[],[]⟩:GOp),0,0,[],(⟨0,(Vector.replicate 8 (default:Int)),(Vector.replicate 8 (default:Int)),(Vector.replicate 8 (default:Int))⟩:za),0,(Vector.replicate 8 (default:Int)),0,(⟨0,0,0,[]⟩:GPart),0,0,0⟩:z9),0,(Vector.replicate 8 (default:Int)),0,0,[],(⟨0,(Vector.replicate 8 (default:Int)),(Vector.replicate 8 (default:Int)),(Vector.replicate 8 (default:Int))⟩:za),(⟨0,0,0,[]⟩:GPart)⟩:GMsg),13))
 else
 ((zch N r1.1).bind fun r2 =>
 ((z44 N 0 r2).bind fun r3 =>
 ((z8f N r3.2.2).bind fun r4 =>
 ((z1h N r4.1 r3.2.1 r4.2).bind fun r5 =>
 (bif (r5.1==0) then
 ((z9o N r3.1).bind fun r6 =>
 (bif (!(r6==0)) then
 (some ((⟨0,(⟨0,0⟩:GAddr),(⟨0,0⟩:GAddr),(⟨0,0⟩:zu),0,[],(⟨0,0,0,(⟨(⟨0,0⟩:z1a),0,0,0,[],[],[]⟩:GOp),0,0,[],(⟨0,(Vector.replicate 8 (default:Int)),(Vector.replicate 8 (default:Int)),(Vector.replicate 8 (default:Int))⟩:za),0,(Vector.replicate 8 (default:Int)),0,(⟨0,0,0,[]⟩:GPart),0,0,0⟩:z9),0,(Vector.replicate 8 (default:Int)),0,0,[],(⟨0,(Vector.replicate 8 (default:Int)),(Vector.replicate 8 (default:Int)),(Vector.replicate 8 (default:Int))⟩:za),(⟨0,0,0,[]⟩:GPart)⟩:GMsg),r6))
 else
 (some (r3.1,0))))
 else
 (bif (!(r5.1==0)) then
 (some ((⟨0,(⟨0,0⟩:GAddr),(⟨0,0⟩:GAddr),(⟨0,0⟩:zu),0,[],(⟨0,0,0,(⟨(⟨0,0⟩:z1a),0,0,0,[],[],[]⟩:GOp),0,0,[],(⟨0,(Vector.replicate 8 (default:Int)),(Vector.replicate 8 (default:Int)),(Vector.replicate 8 (default:Int))⟩:za),0,(Vector.replicate 8 (default:Int)),0,(⟨0,0,0,[]⟩:GPart),0,0,0⟩:z9),0,(Vector.replicate 8 (default:Int)),0,0,[],(⟨0,(Vector.replicate 8 (default:Int)),(Vector.replicate 8 (default:Int)),(Vector.replicate 8 (default:Int))⟩:za),(⟨0,0,0,[]⟩:GPart)⟩:GMsg),r5.1))
 else
 (some (r3.1,0)))))))))))
def zbv:Con τ:={ args:=[.ty 37],L:=[],ret:=.tup [.ty 43,.ty 48],L':=[],R:=GMsg×Int,dflt:=(default,default),F:=fun N a b=>zar N a.1,of:=fun r=>((r.1,r.2,()),()) }
noncomputable def zq0:Dat τ:={ D:=D0,tbl:=tblOf [(77,zfj),(78,zdp),(79,z5k),(81,z9t),(80,z2k),(51,za6)],lp:=lpsOf [],k0:=0,mu:=[],un:=[] }
theorem zre:ConOk E C 33 zbv :=
  zj (D:=zq0) ⟨d0Ok,eGood,z7 ⟨zxp,⟨zub,⟨zg3,⟨znk,⟨z4q,⟨zky,trivial⟩⟩⟩⟩⟩⟩,fun _=>rfl⟩ zbv (fun a b=>(a.1,a.2.1)) none (fun _ _=>rfl) rfl (fun _ _ h=>nomatch h) 1000000 (fn:=Tryz.f33) Tryz.func33 rfl (by kernel_rfl) (by kernel_rfl) rfl (by intro N a b; kernel_rfl)
def z3d (N:Nat) (number:Int) (b0:Nat) (b02:Int) (b03:Bool) (g1:List (GSent)):Option (GMsg×Int×Nat×Int×Bool×(List (GSent))) :=
 ((z6q N number b0 b02 b03 g1).bind fun r1 =>
 (bif (!(r1.2.1==0)) then
 (some ((⟨0,(⟨0,0⟩:GAddr),(⟨0,0⟩:GAddr),(⟨0,0⟩:zu),0,[],(⟨0,0,0,(⟨(⟨0,0⟩:z1a),0,0,0,[],[],[]⟩:GOp),0,0,[],(⟨0,(Vector.replicate 8 (default:Int)),(Vector.replicate 8 (default:Int)),(Vector.replicate 8 (default:Int))⟩:za),0,(Vector.replicate 8 (default:Int)),0,(⟨0,0,0,[]⟩:GPart),0,0,0⟩:z9),0,(Vector.replicate 8 (default:Int)),0,0,[],(⟨0,(Vector.replicate 8 (default:Int)),(Vector.replicate 8 (default:Int)),(Vector.replicate 8 (default:Int))⟩:za),(⟨0,0,0,[]⟩:GPart)⟩:GMsg),r1.2.1,r1.2.2.1,r1.2.2.2.1,r1.2.2.2.2.1,r1.2.2.2.2.2))
 else
 (bif (ibB r1.1 ((r1.2.2.1:Nat):Int)) then
 (bif (decide ((r1.1).toNat < (r1.2.2.2.2.2).length)) then
 ((z5p N r1.2.2.1 r1.1 (IntKind.i64.wrap (r1.1+1)) r1.2.2.2.2.2).bind fun r2 =>
 ((zar N ((r1.2.2.2.2.2.getD ((r1.1).toNat) default).Data)).bind fun r3 =>
 (some (r3.1,r3.2,r2.1,r1.2.2.2.1,r1.2.2.2.2.1,r2.2))))
 else none)
 else none)))
def z97:Con τ:={ args:=[.ptr 0 [],.ty 2],L:=[.box (.agg [.agg [.msl 65 1,.ty 2],.ty 4]),.gbx 65],ret:=.tup [.ty 43,.ty 48],L':=[.box (.agg [.agg [.msl 65 2,.ty 2],.ty 4]),.dead,.gbx 65],R:=GMsg×Int×Nat×Int×Bool×(List (GSent)),dflt:=(default,default,default,default,default,default),F:=fun N a b=>z3d N a.2.1 b.1.1.1 b.1.1.2.1 b.1.2.1 b.2.1,of:=fun r=>((r.1,r.2.1,()),(((r.2.2.1,r.2.2.2.1,()),r.2.2.2.2.1,()),(),r.2.2.2.2.2,())) }
noncomputable def zq1:Dat τ:={ D:=D0,tbl:=tblOf [(31,zaw),(32,z8d),(33,zbv)],lp:=lpsOf [],k0:=2,mu:=[],un:=[] }
theorem zia:ConOk E C 13 z97 :=
  zj (D:=zq1) ⟨d0Ok,eGood,z7 ⟨zmt,⟨zlc,⟨zre,trivial⟩⟩⟩,fun _=>rfl⟩ z97 (fun a b=>(a.1,a.2.1,b.1.1.1,b.1.1.2.1,b.1.2.1,b.2.2.1)) none (fun _ _=>rfl) rfl (fun _ _ h=>nomatch h) 1000000 (fn:=Tryz.f13) Tryz.func13 rfl (by kernel_rfl) (by kernel_rfl) rfl (by intro N a b; kernel_rfl)
def zib (N:Nat) (b0:Nat) (b02:Int) (b03:Bool) (g1:List (GSent)):Option (Int×Bool×Nat×Int×Bool×(List (GSent))) :=
 ((z2m N b0 b02 b03 g1).bind fun r1 =>
 (bif (r1.1 || (((r1.2.1:Nat):Int)==0)) then
 (some (0,false,r1.2.1,r1.2.2.1,r1.2.2.2.1,r1.2.2.2.2))
 else
 (bif (ibB 0 ((r1.2.1:Nat):Int)) then
 (bif (decide (0 < (r1.2.2.2.2).length)) then
 (some ((r1.2.2.2.2.getD 0 default).Number,true,r1.2.1,r1.2.2.1,r1.2.2.2.1,r1.2.2.2.2))
 else none)
 else none)))
def zb2:Con τ:={ args:=[.ptr 0 []],L:=[.box (.agg [.agg [.msl 65 1,.ty 2],.ty 4]),.gbx 65],ret:=.tup [.ty 2,.ty 4],L':=[.box (.agg [.agg [.msl 65 1,.ty 2],.ty 4]),.gbx 65],R:=Int×Bool×Nat×Int×Bool×(List (GSent)),dflt:=(default,default,default,default,default,default),F:=fun N a b=>zib N b.1.1.1 b.1.1.2.1 b.1.2.1 b.2.1,of:=fun r=>((r.1,r.2.1,()),(((r.2.2.1,r.2.2.2.1,()),r.2.2.2.2.1,()),r.2.2.2.2.2,())) }
noncomputable def zoy:Dat τ:={ D:=D0,tbl:=tblOf [(25,z3b)],lp:=lpsOf [],k0:=2,mu:=[],un:=[] }
theorem zq2:ConOk E C 19 zb2 :=
  zj (D:=zoy) ⟨d0Ok,eGood,z7 ⟨z7a,trivial⟩,fun _=>rfl⟩ zb2 (fun a b=>(a.1,a.2.1,b.1.1.1,b.1.1.2.1,b.1.2.1,b.2.1)) none (fun _ _=>rfl) rfl (fun _ _ h=>nomatch h) 1000000 (fn:=Tryz.f19) Tryz.func19 rfl (by kernel_rfl) (by kernel_rfl) rfl (by intro N a b; kernel_rfl)
def z9i (N:Nat) (b0:Nat) (b02:Int) (b03:Bool) (g1:List (GSent)):Option (Int×Nat×Int×Bool×(List (GSent))) :=
 ((z2m N b0 b02 b03 g1).bind fun r1 =>
 (bif r1.1 then
 (some (0,r1.2.1,r1.2.2.1,r1.2.2.2.1,r1.2.2.2.2))
 else
 (some (((r1.2.1:Nat):Int),r1.2.1,r1.2.2.1,r1.2.2.2.1,r1.2.2.2.2))))
def za0:Con τ:={ args:=[.ptr 0 []],L:=[.box (.agg [.agg [.msl 65 1,.ty 2],.ty 4]),.gbx 65],ret:=.ty 3,L':=[.box (.agg [.agg [.msl 65 1,.ty 2],.ty 4]),.gbx 65],R:=Int×Nat×Int×Bool×(List (GSent)),dflt:=(default,default,default,default,default),F:=fun N a b=>z9i N b.1.1.1 b.1.1.2.1 b.1.2.1 b.2.1,of:=fun r=>(r.1,(((r.2.1,r.2.2.1,()),r.2.2.2.1,()),r.2.2.2.2,())) }
noncomputable def zrf:Dat τ:={ D:=D0,tbl:=tblOf [(25,z3b)],lp:=lpsOf [],k0:=2,mu:=[],un:=[] }
theorem zkr:ConOk E C 15 za0 :=
  zj (D:=zrf) ⟨d0Ok,eGood,z7 ⟨z7a,trivial⟩,fun _=>rfl⟩ za0 (fun a b=>(a,b.1.1.1,b.1.1.2.1,b.1.2.1,b.2.1)) none (fun _ _=>rfl) rfl (fun _ _ h=>nomatch h) 1000000 (fn:=Tryz.f15) Tryz.func15 rfl (by kernel_rfl) (by kernel_rfl) rfl (by intro N a b; kernel_rfl)
def zq3 (N:Nat)  : Option (Bool) :=
 ((zux N).bind fun r1 =>
 ((zqb N 5).bind fun r2 =>
 ((zqb N 6).bind fun r3 =>
 ((z4e N [r2,r3] r1.1 r1.2.1 r1.2.2.1 r1.2.2.2).bind fun r4 =>
 ((z3d N 2 r4.2.2.1 r4.2.2.2.1 r4.2.2.2.2.1 r4.2.2.2.2.2).bind fun r5 =>
 ((zib N r5.2.2.1 r5.2.2.2.1 r5.2.2.2.2.1 r5.2.2.2.2.2).bind fun r6 =>
 (bif ((((r4.1==2)&&(r4.2.1==0))&&(r5.2.1==0))&&(r5.1.Slot==6)) then
 ((z9i N r6.2.2.1 r6.2.2.2.1 r6.2.2.2.2.1 r6.2.2.2.2.2).bind fun r7 =>
 (some (((((((r4.1==2)&&(r4.2.1==0))&&(r5.2.1==0))&&(r5.1.Slot==6))&&(r7.1==1))&&r6.2.1)&&(r6.1==1))))
 else
 (some false))))))))
def zls:Con τ:={ args:=[],L:=[],ret:=.ty 4,L':=[],R:=Bool,dflt:=default,F:=fun N a b=>zq3 N ,of:=fun r=>(r,()) }
noncomputable def zza:Dat τ:={ D:=D0,tbl:=tblOf [(8,zor),(24,zlw),(10,z9d),(13,z97),(19,zb2),(15,za0)],lp:=lpsOf [],k0:=0,mu:=[],un:=[] }
theorem z10q:ConOk E C 9 zls :=
  zj (D:=zza) ⟨d0Ok,eGood,z7 ⟨z10r,⟨z10s,⟨zih,⟨zia,⟨zq2,⟨zkr,trivial⟩⟩⟩⟩⟩⟩,fun _=>rfl⟩ zls (fun a b=>a) none (fun _ _=>rfl) rfl (fun _ _ h=>nomatch h) 1000000 (fn:=Tryz.f9) Tryz.func9 rfl (by kernel_rfl) (by kernel_rfl) rfl (by intro N a b; kernel_rfl)
def z9u (N:Nat) (s:Nat) (s2:Nat) (s3:Nat) (s4:Bool) (g0:List (GSent)):Option (Nat×(List (GSent))×(List (GSent))) :=
 (bif (s4 || (Nat.blt 0 s2)) then
 (bif ((lenB ((((g0.drop s).take s2)).length) 64)&&(Nat.ble (s+s2) (g0).length)) then
 (some ((((g0.drop s).take s2)).length,g0,((g0.drop s).take s2)))
 else none)
 else none)
def zc8:Con τ:={ args:=[.wsl 65 0],L:=[.gbx 65],ret:=.msl 65 1,L':=[.gbx 65,.gbx 65],R:=Nat×(List (GSent))×(List (GSent)),dflt:=(default,default,default),F:=fun N a b=>z9u N a.1.1 a.1.2.1 a.1.2.2.1 a.1.2.2.2 b.1,of:=fun r=>(r.1,(r.2.1,r.2.2,())) }
noncomputable def zks:Dat τ:={ D:=D0,tbl:=tblOf [],lp:=lpsOf [],k0:=1,mu:=[7],un:=[] }
theorem zlt:ConOk E C 83 zc8 :=
  zj (D:=zks) ⟨d0Ok,eGood,z7 trivial,fun _=>rfl⟩ zc8 (fun a b=>(a,b.1,b.2.1)) none (fun _ _=>rfl) rfl (fun _ _ h=>nomatch h) 1000000 (fn:=Tryz.f83) Tryz.func83 rfl (by kernel_rfl) (by kernel_rfl) rfl (by intro N a b; kernel_rfl)
def zn0 (N:Nat) (g0:List (GSent)):Option (Nat×(List (GSent))×(List (GSent))) :=
 (some (0,g0,[]))
def z8j:Con τ:={ args:=[.nil .slice],L:=[.gbx 65],ret:=.msl 65 1,L':=[.gbx 65,.gbx 65],R:=Nat×(List (GSent))×(List (GSent)),dflt:=(default,default,default),F:=fun N a b=>zn0 N b.1,of:=fun r=>(r.1,(r.2.1,r.2.2,())) }
noncomputable def zkt:Dat τ:={ D:=D0,tbl:=tblOf [],lp:=lpsOf [],k0:=1,mu:=[7],un:=[] }
theorem zlu:ConOk E C 83 z8j :=
  zj (D:=zkt) ⟨d0Ok,eGood,z7 trivial,fun _=>rfl⟩ z8j (fun a b=>(a,b.1,b.2.1)) none (fun _ _=>rfl) rfl (fun _ _ h=>nomatch h) 1000000 (fn:=Tryz.f83) Tryz.func83 rfl (by kernel_rfl) (by kernel_rfl) rfl (by intro N a b; kernel_rfl)
def z9v (N:Nat) (s:Nat) (g0:List (GSent)):Option (Nat×(List (GSent))×(List (GSent))):=z9u N 0 s s true g0
def z8k:Con τ:={ args:=[.msl 65 0],L:=[.gbx 65],ret:=.msl 65 1,L':=[.gbx 65,.gbx 65],R:=Nat×(List (GSent))×(List (GSent)),dflt:=(default,default,default),F:=fun N a b=>z9v N a.1 b.1,of:=fun r=>(r.1,(r.2.1,r.2.2,())) }
theorem zlv:ConOk E C 83 z8k:=by
  intro N a b r h
  obtain ⟨x0,u⟩:=a
  refine FnSpec.splitM (pre:=[]) (post:=[]) (fun h0=>?_) (zlt N ((0,x0,x0,true),u) b r h)
  have h0:x0=(0:Nat):=h0
  subst h0
  have e:z8j.F N ((),u) b=z8k.F N ((0:Nat),u) b:=by
    obtain ⟨b0,v⟩:=b
    cases b0<;>kernel_rfl
  exact zlu N ((),u) b r (e.trans h)
structure zae where
  t8:Int
  g1:List (GSent)
def zef:List Sl:=[.k,.k,.k,.j,.k,.k,.k,.k,.sh (.ty 2),.j,.j,.j,.j,.j,.j,.j,.j,.j,.j,.j,.j,.j,.k]
def zeg:List ESh:=[.keep,.gbx 65]
def zuc (a:Sl.Ts τ zef) (b:ESh.Ts τ zeg):zae:=⟨a.2.2.2.2.2.2.2.2.1,b.2.1⟩
def zud (s:zae):Sl.Ts τ zef:=((),(),(),(),(),(),(),(),s.t8,(),(),(),(),(),(),(),(),(),(),(),(),(),(),())
def zue (s:zae):ESh.Ts τ zeg:=((),s.g1,())
def zuf:Lp τ:={ ts:=zef,hs:=zeg,S:=zae,to:=zuc,ot:=zud,oh:=zue,hk:=[4,4],tk:=[],ot_to:=fun _ _=>rfl,oh_to:=fun _ _=>rfl }
def zck (N:Nat) (l:Nat) (g0:List (GSent)):Option (Nat×(List (GSent))×(List (GSent))) :=
 ((z9v N l g0).bind fun r1 =>
 (iter N (fun (s2:zae) next3 =>
 (bif (decide (s2.t8 < ((r1.1:Nat):Int))) then
 (bif (ibB s2.t8 ((r1.1:Nat):Int)) then
 (bif (decide ((s2.t8).toNat < (s2.g1).length)) then
 ((z2u N ((s2.g1.getD ((s2.t8).toNat) default).Data)).bind fun r4 =>
 (bif (ibB s2.t8 ((r1.1:Nat):Int)) then
 (bif (decide ((s2.t8).toNat < (s2.g1).length)) then
 (next3 ⟨(IntKind.i64.wrap (s2.t8+1)),(s2.g1.set ((s2.t8).toNat) (⟨(s2.g1.getD ((s2.t8).toNat) default).Number,((s2.g1.getD ((s2.t8).toNat) default).From),((s2.g1.getD ((s2.t8).toNat) default).To),r4⟩:GSent))⟩)
 else none)
 else none))
 else none)
 else none)
 else
 (some (r1.1,r1.2.1,s2.g1)))) ⟨0,r1.2.2⟩))
def zcl:Con τ:={ args:=[.msl 65 0],L:=[.gbx 65],ret:=.msl 65 1,L':=[.gbx 65,.gbx 65],R:=Nat×(List (GSent))×(List (GSent)),dflt:=(default,default,default),F:=fun N a b=>zck N a.1 b.1,of:=fun r=>(r.1,(r.2.1,r.2.2,())) }
noncomputable def zvr:Dat τ:={ D:=D0,tbl:=tblOf [(83,z8k),(40,z2r)],lp:=lpsOf [(3,zuf)],k0:=1,mu:=[],un:=[] }
theorem zpm:ConOk E C 38 zcl :=
  zj (D:=zvr) ⟨d0Ok,eGood,z7 ⟨zlv,⟨z4d,trivial⟩⟩,fun _=>rfl⟩ zcl (fun a b=>(a,b.1,b.2.1)) none (fun _ _=>rfl) rfl (fun _ _ h=>nomatch h) 1000000 (fn:=Tryz.f38) Tryz.func38 rfl (by kernel_rfl) (by kernel_rfl) rfl (by intro N a b; kernel_rfl)
def zbo (N:Nat) (b0:Nat) (b02:Int) (b03:Bool) (g1:List (GSent)):Option (Nat×Int×Bool×(List (GSent))×Nat×(List (GSent))) :=
 ((z2m N b0 b02 b03 g1).bind fun r1 =>
 (bif (!r1.1) then
 ((zck N r1.2.1 r1.2.2.2.2).bind fun r2 =>
 (some (r1.2.1,r1.2.2.1,r1.2.2.2.1,r2.2.1,r2.1,r2.2.2)))
 else
 (some (r1.2.1,r1.2.2.1,r1.2.2.2.1,r1.2.2.2.2,0,[]))))
def zcm:Con τ:={ args:=[.ptr 0 []],L:=[.box (.agg [.agg [.msl 65 1,.ty 2],.ty 4]),.gbx 65],ret:=.fn 39 [.ptr 2 []],L':=[.box (.agg [.agg [.msl 65 1,.ty 2],.ty 4]),.gbx 65,.box (.msl 65 3),.gbx 65],R:=Nat×Int×Bool×(List (GSent))×Nat×(List (GSent)),dflt:=(default,default,default,default,default,default),F:=fun N a b=>zbo N b.1.1.1 b.1.1.2.1 b.1.2.1 b.2.1,of:=fun r=>(((),()),(((r.1,r.2.1,()),r.2.2.1,()),r.2.2.2.1,r.2.2.2.2.1,r.2.2.2.2.2,())) }
noncomputable def zrg:Dat τ:={ D:=D0,tbl:=tblOf [(25,z3b),(38,zcl)],lp:=lpsOf [],k0:=2,mu:=[],un:=[] }
theorem zsr:ConOk E C 16 zcm :=
  zj (D:=zrg) ⟨d0Ok,eGood,z7 ⟨z7a,⟨zpm,trivial⟩⟩,fun _=>rfl⟩ zcm (fun a b=>(b.1.1.1,b.1.1.2.1,b.1.2.1,b.2.1,b.2.2.1,b.2.2.2.1)) none (fun _ _=>rfl) rfl (fun _ _ h=>nomatch h) 1000000 (fn:=Tryz.f16) Tryz.func16 rfl (by kernel_rfl) (by kernel_rfl) rfl (by intro N a b; kernel_rfl)
def zcn (N:Nat) (x:GSent) (b1:Nat) (b2:List (Int)):Option (Nat×(List (Int))) :=
 (bif ((lenB (b1+([x.Number]).length) 8)&&(Nat.ble b1 (b2).length)) then
 (some ((b1+([x.Number]).length),(b2.take b1++[x.Number])))
 else none)
def zq4:List ESh:=[.rcd 4 15 [.junk,.junk,.junk,.junk,.junk,.junk,.junk,.junk,.junk,.junk,.junk,.ptr 1 [],.junk,.junk,.junk,.junk,.junk,.junk,.junk,.junk,.junk,.junk,.junk,.junk,.junk,.junk,.junk,.junk,.junk,.junk,.junk,.junk,.junk,.junk,.junk,.junk,.junk,.junk,.junk,.junk,.junk,.junk,.junk,.junk,.junk,.junk,.junk,.junk,.junk,.junk,.junk,.junk,.junk,.junk,.junk,.junk,.junk,.junk,.junk,.junk,.junk,.junk,.junk,.junk,.junk,.junk,.junk,.junk,.junk,.junk,.junk,.junk,.junk,.junk,.junk,.junk,.junk,.junk,.junk,.junk,.junk,.junk,.junk,.junk,.junk,.junk,.junk,.junk,.junk,.junk,.junk,.junk,.junk,.junk,.junk,.junk,.junk,.junk,.junk,.junk,.junk,.junk,.junk,.junk,.junk,.junk,.junk,.junk,.junk,.junk,.junk,.junk,.junk,.junk,.junk,.junk,.junk,.junk,.junk,.junk,.junk,.junk,.junk,.junk,.junk,.junk,.junk,.junk,.junk,.junk,.junk,.junk,.junk,.junk,.junk,.junk,.junk,.junk,.junk,.junk,.junk,.junk,.junk,.junk,.junk,.junk,.junk,.junk,.junk,.junk,.junk,.junk,.junk,.junk,.junk],.box (.msl 2 2),.gbx 2]
def zq5:List ESh:=[.rcd 4 15 [.junk,.junk,.junk,.junk,.junk,.junk,.junk,.junk,.junk,.junk,.junk,.ptr 1 [],.junk,.junk,.junk,.junk,.junk,.junk,.junk,.junk,.junk,.junk,.junk,.junk,.junk,.junk,.junk,.junk,.junk,.junk,.junk,.junk,.junk,.junk,.junk,.junk,.junk,.junk,.junk,.junk,.junk,.junk,.junk,.junk,.junk,.junk,.junk,.junk,.junk,.junk,.junk,.junk,.junk,.junk,.junk,.junk,.junk,.junk,.junk,.junk,.junk,.junk,.junk,.junk,.junk,.junk,.junk,.junk,.junk,.junk,.junk,.junk,.junk,.junk,.junk,.junk,.junk,.junk,.junk,.junk,.junk,.junk,.junk,.junk,.junk,.junk,.junk,.junk,.junk,.junk,.junk,.junk,.junk,.junk,.junk,.junk,.junk,.junk,.junk,.junk,.junk,.junk,.junk,.junk,.junk,.junk,.junk,.junk,.junk,.junk,.junk,.junk,.junk,.junk,.junk,.junk,.junk,.junk,.junk,.junk,.junk,.junk,.junk,.junk,.junk,.junk,.junk,.junk,.junk,.junk,.junk,.junk,.junk,.junk,.junk,.junk,.junk,.junk,.junk,.junk,.junk,.junk,.junk,.junk,.junk,.junk,.junk,.junk,.junk,.junk,.junk,.junk,.junk,.junk,.junk],.box (.msl 2 3),.dead,.gbx 2]
def zer:Con τ:={ args:=[.yld 0,.ty 64],L:=zq4,ret:=.bo true,L':=zq5,R:=Nat×(List (Int)),dflt:=(default,default),F:=fun N a b=>zcn N a.2.1 b.2.1 b.2.2.1,of:=fun r=>((),(((),(),(),(),(),(),(),(),(),(),(),(),(),(),(),(),(),(),(),(),(),(),(),(),(),(),(),(),(),(),(),(),(),(),(),(),(),(),(),(),(),(),(),(),(),(),(),(),(),(),(),(),(),(),(),(),(),(),(),(),(),(),(),(),(),(),(),(),(),(),(),(),(),(),(),(),(),(),(),(),(),(),(),(),(),(),(),(),(),(),(),(),(),(),(),(),(),(),(),(),(),(),(),(),(),(),(),(),(),(),(),(),(),(),(),(),(),(),(),(),(),(),(),(),(),(),(),(),(),(),(),(),(),(),(),(),(),(),(),(),(),(),(),(),(),(),(),(),(),(),(),(),(),(),(),()),r.1,(),r.2,())) }
noncomputable def zoz:Dat τ:={ D:=D0,tbl:=tblOf [],lp:=lpsOf [],k0:=3,mu:=[53,62,135,139,140,143,147,148],un:=[],fid:=4 }
theorem zq6:ConOk E C zet zer :=
  con_round (D:=zoz) ⟨d0Ok,eGood,z7 trivial,fun _=>rfl⟩ (f:=4) (k:=15) (ps:=[57]) (by kernel_rfl) rfl (fun a b=>(b.2.1,b.2.2.2.1)) none (fun _ _=>rfl) rfl (fun _ _ h=>nomatch h) 1000000 (by kernel_rfl) (by kernel_rfl) (by kernel_rfl) (by kernel_rfl) rfl (by intro l N a b; kernel_rfl)
structure z56 where
  t8:Int
  b2:Nat
  g5:List (Int)
def zaf:List Sl:=[.k,.k,.k,.k,.j,.k,.k,.k,.sh (.ty 2),.j,.j,.j,.j,.j,.j,.j,.j]
def zag:List ESh:=[.rcd 4 15 [.junk,.junk,.junk,.junk,.junk,.junk,.junk,.junk,.junk,.junk,.junk,.ptr 2 [],.junk,.junk,.junk,.junk,.junk,.junk,.junk,.junk,.junk,.junk,.junk,.junk,.junk,.junk,.junk,.junk,.junk,.junk,.junk,.junk,.junk,.junk,.junk,.junk,.junk,.junk,.junk,.junk,.junk,.junk,.junk,.junk,.junk,.junk,.junk,.junk,.junk,.junk,.junk,.junk,.junk,.junk,.junk,.junk,.junk,.junk,.junk,.junk,.junk,.junk,.junk,.junk,.junk,.junk,.junk,.junk,.junk,.junk,.junk,.junk,.junk,.junk,.junk,.junk,.junk,.junk,.junk,.junk,.junk,.junk,.junk,.junk,.junk,.junk,.junk,.junk,.junk,.junk,.junk,.junk,.junk,.junk,.junk,.junk,.junk,.junk,.junk,.junk,.junk,.junk,.junk,.junk,.junk,.junk,.junk,.junk,.junk,.junk,.junk,.junk,.junk,.junk,.junk,.junk,.junk,.junk,.junk,.junk,.junk,.junk,.junk,.junk,.junk,.junk,.junk,.junk,.junk,.junk,.junk,.junk,.junk,.junk,.junk,.junk,.junk,.junk,.junk,.junk,.junk,.junk,.junk,.junk,.junk,.junk,.junk,.junk,.junk,.junk,.junk,.junk,.junk,.junk,.junk],.keep,.box (.msl 2 5),.keep,.keep,.gbx 2]
def znl (a:Sl.Ts τ zaf) (b:ESh.Ts τ zag):z56:=⟨a.2.2.2.2.2.2.2.2.1,b.2.2.1,b.2.2.2.2.2.1⟩
def znm (s:z56):Sl.Ts τ zaf:=((),(),(),(),(),(),(),(),s.t8,(),(),(),(),(),(),(),(),())
def znn (s:z56):ESh.Ts τ zag:=(((),(),(),(),(),(),(),(),(),(),(),(),(),(),(),(),(),(),(),(),(),(),(),(),(),(),(),(),(),(),(),(),(),(),(),(),(),(),(),(),(),(),(),(),(),(),(),(),(),(),(),(),(),(),(),(),(),(),(),(),(),(),(),(),(),(),(),(),(),(),(),(),(),(),(),(),(),(),(),(),(),(),(),(),(),(),(),(),(),(),(),(),(),(),(),(),(),(),(),(),(),(),(),(),(),(),(),(),(),(),(),(),(),(),(),(),(),(),(),(),(),(),(),(),(),(),(),(),(),(),(),(),(),(),(),(),(),(),(),(),(),(),(),(),(),(),(),(),(),(),(),(),(),(),(),()),(),s.b2,(),(),s.g5,())
def zno:Lp τ:={ ts:=zaf,hs:=zag,S:=z56,to:=znl,ot:=znm,oh:=znn,hk:=[6,2,2,4,4],tk:=[0,3],ot_to:=fun _ _=>rfl,oh_to:=fun _ _=>rfl }
def za1 (N:Nat) (b1:Nat) (g3:List (GSent)):Option (Nat×Nat×(List (GSent))×(List (Int))) :=
 ((zck N b1 g3).bind fun r1 =>
 (iter N (fun (s2:z56) next3 =>
 (bif (decide (s2.t8 < ((r1.1:Nat):Int))) then
 (bif (ibB s2.t8 ((r1.1:Nat):Int)) then
 (bif (decide ((s2.t8).toNat < (r1.2.2).length)) then
 ((zcn N (⟨(r1.2.2.getD ((s2.t8).toNat) default).Number,((r1.2.2.getD ((s2.t8).toNat) default).From),((r1.2.2.getD ((s2.t8).toNat) default).To),(r1.2.2.getD ((s2.t8).toNat) default).Data⟩:GSent) s2.b2 s2.g5).bind fun r4 =>
 (next3 ⟨(IntKind.i64.wrap (s2.t8+1)),r4.1,r4.2⟩))
 else none)
 else none)
 else
 (some (b1,s2.b2,r1.2.1,s2.g5)))) ⟨0,0,[]⟩))
def zq7:List ESh:=[.rcd 4 15 [.junk,.junk,.junk,.junk,.junk,.junk,.junk,.junk,.junk,.junk,.junk,.ptr 2 [],.junk,.junk,.junk,.junk,.junk,.junk,.junk,.junk,.junk,.junk,.junk,.junk,.junk,.junk,.junk,.junk,.junk,.junk,.junk,.junk,.junk,.junk,.junk,.junk,.junk,.junk,.junk,.junk,.junk,.junk,.junk,.junk,.junk,.junk,.junk,.junk,.junk,.junk,.junk,.junk,.junk,.junk,.junk,.junk,.junk,.junk,.junk,.junk,.junk,.junk,.junk,.junk,.junk,.junk,.junk,.junk,.junk,.junk,.junk,.junk,.junk,.junk,.junk,.junk,.junk,.junk,.junk,.junk,.junk,.junk,.junk,.junk,.junk,.junk,.junk,.junk,.junk,.junk,.junk,.junk,.junk,.junk,.junk,.junk,.junk,.junk,.junk,.junk,.junk,.junk,.junk,.junk,.junk,.junk,.junk,.junk,.junk,.junk,.junk,.junk,.junk,.junk,.junk,.junk,.junk,.junk,.junk,.junk,.junk,.junk,.junk,.junk,.junk,.junk,.junk,.junk,.junk,.junk,.junk,.junk,.junk,.junk,.junk,.junk,.junk,.junk,.junk,.junk,.junk,.junk,.junk,.junk,.junk,.junk,.junk,.junk,.junk,.junk,.junk,.junk,.junk,.junk,.junk],.box (.msl 65 3),.box (.nil .slice),.gbx 65]
def zq8:List ESh:=[.rcd 4 15 [.junk,.junk,.junk,.junk,.junk,.junk,.junk,.junk,.junk,.junk,.junk,.ptr 2 [],.junk,.junk,.junk,.junk,.junk,.junk,.junk,.junk,.junk,.junk,.junk,.junk,.junk,.junk,.junk,.junk,.junk,.junk,.junk,.junk,.junk,.junk,.junk,.junk,.junk,.junk,.junk,.junk,.junk,.junk,.junk,.junk,.junk,.junk,.junk,.junk,.junk,.junk,.junk,.junk,.junk,.junk,.junk,.junk,.junk,.junk,.junk,.junk,.junk,.junk,.junk,.junk,.junk,.junk,.junk,.junk,.junk,.junk,.junk,.junk,.junk,.junk,.junk,.junk,.junk,.junk,.junk,.junk,.junk,.junk,.junk,.junk,.junk,.junk,.junk,.junk,.junk,.junk,.junk,.junk,.junk,.junk,.junk,.junk,.junk,.junk,.junk,.junk,.junk,.junk,.junk,.junk,.junk,.junk,.junk,.junk,.junk,.junk,.junk,.junk,.junk,.junk,.junk,.junk,.junk,.junk,.junk,.junk,.junk,.junk,.junk,.junk,.junk,.junk,.junk,.junk,.junk,.junk,.junk,.junk,.junk,.junk,.junk,.junk,.junk,.junk,.junk,.junk,.junk,.junk,.junk,.junk,.junk,.junk,.junk,.junk,.junk,.junk,.junk,.junk,.junk,.junk,.junk],.box (.msl 65 3),.box (.msl 2 4),.gbx 65,.gbx 2]
def zb3:Con τ:={ args:=[.yld 0,.ptr 1 []],L:=zq7,ret:=.tup [],L':=zq8,R:=Nat×Nat×(List (GSent))×(List (Int)),dflt:=(default,default,default,default),F:=fun N a b=>za1 N b.2.1 b.2.2.2.1,of:=fun r=>((),(((),(),(),(),(),(),(),(),(),(),(),(),(),(),(),(),(),(),(),(),(),(),(),(),(),(),(),(),(),(),(),(),(),(),(),(),(),(),(),(),(),(),(),(),(),(),(),(),(),(),(),(),(),(),(),(),(),(),(),(),(),(),(),(),(),(),(),(),(),(),(),(),(),(),(),(),(),(),(),(),(),(),(),(),(),(),(),(),(),(),(),(),(),(),(),(),(),(),(),(),(),(),(),(),(),(),(),(),(),(),(),(),(),(),(),(),(),(),(),(),(),(),(),(),(),(),(),(),(),(),(),(),(),(),(),(),(),(),(),(),(),(),(),(),(),(),(),(),(),(),(),(),(),(),(),()),r.1,r.2.1,r.2.2.1,r.2.2.2,())) }
noncomputable def zp0:Dat τ:={ D:=D0,tbl:=tblOf [(38,zcl),(1000000,zer)],lp:=lpsOf [(1,zno)],k0:=4,mu:=[],un:=[] }
theorem zq9:ConOk E C 39 zb3 :=
  zj (D:=zp0) ⟨d0Ok,eGood,z7 ⟨zpm,⟨zq6,trivial⟩⟩,fun _=>rfl⟩ zb3 (fun a b=>(b.2.1,b.2.2.1,b.2.2.2.1,b.2.2.2.2.1)) none (fun _ _=>rfl) rfl (fun _ _ h=>nomatch h) 1000000 (fn:=Tryz.f39) Tryz.func39 rfl (by kernel_rfl) (by kernel_rfl) rfl (by intro N a b; kernel_rfl)
def z49 (N:Nat) (number:Int) (b0:Nat) (b02:Int) (b03:Bool) (g1:List (GSent)):Option (Int×Int×Nat×Int×Bool×(List (GSent))) :=
 ((z6q N number b0 b02 b03 g1).bind fun r1 =>
 (bif (!(r1.2.1==0)) then
 (some (0,r1.2.1,r1.2.2.1,r1.2.2.2.1,r1.2.2.2.2.1,r1.2.2.2.2.2))
 else
 (bif (decide (16384≤((r1.2.2.1:Nat):Int))) then
 (some (0,6,r1.2.2.1,r1.2.2.2.1,r1.2.2.2.2.1,r1.2.2.2.2.2))
 else
 (bif (ibB r1.1 ((r1.2.2.1:Nat):Int)) then
 (bif (decide ((r1.1).toNat < (r1.2.2.2.2.2).length)) then
 ((z2u N ((r1.2.2.2.2.2.getD ((r1.1).toNat) default).Data)).bind fun r2 =>
 ((z6o N ((r1.2.2.2.2.2.getD ((r1.1).toNat) default).From) ((r1.2.2.2.2.2.getD ((r1.1).toNat) default).To) r2 r1.2.2.1 r1.2.2.2.1 r1.2.2.2.2.1 r1.2.2.2.2.2).bind fun r3 =>
 (some (r3.1,0,r3.2.1,r3.2.2.1,r3.2.2.2.1,r3.2.2.2.2))))
 else none)
 else none))))
def zah:Con τ:={ args:=[.ptr 0 [],.ty 2],L:=[.box (.agg [.agg [.msl 65 1,.ty 2],.ty 4]),.gbx 65],ret:=.tup [.ty 2,.ty 48],L':=[.box (.agg [.agg [.msl 65 2,.ty 2],.ty 4]),.dead,.gbx 65],R:=Int×Int×Nat×Int×Bool×(List (GSent)),dflt:=(default,default,default,default,default,default),F:=fun N a b=>z49 N a.2.1 b.1.1.1 b.1.1.2.1 b.1.2.1 b.2.1,of:=fun r=>((r.1,r.2.1,()),(((r.2.2.1,r.2.2.2.1,()),r.2.2.2.2.1,()),(),r.2.2.2.2.2,())) }
noncomputable def znp:Dat τ:={ D:=D0,tbl:=tblOf [(31,zaw),(40,z2r),(27,z7e)],lp:=lpsOf [],k0:=2,mu:=[],un:=[] }
theorem zp1:ConOk E C 17 zah :=
  zj (D:=znp) ⟨d0Ok,eGood,z7 ⟨zmt,⟨z4d,⟨zes,trivial⟩⟩⟩,fun _=>rfl⟩ zah (fun a b=>(a.1,a.2.1,b.1.1.1,b.1.1.2.1,b.1.2.1,b.2.2.1)) none (fun _ _=>rfl) rfl (fun _ _ h=>nomatch h) 1000000 (fn:=Tryz.f17) Tryz.func17 rfl (by kernel_rfl) (by kernel_rfl) rfl (by intro N a b; kernel_rfl)
structure z78 where
  i:Int
def zdq:List Sl:=[.k,.k,.k,.k,.j,.sh (.ty 2),.k,.k,.k,.k,.k,.j,.j,.j,.j,.j,.j,.j,.j,.j,.j,.j,.j,.j,.j,.j]
def zdr:List ESh:=[]
def zss (a:Sl.Ts τ zdq) (b:ESh.Ts τ zdr):z78:=⟨a.2.2.2.2.2.1⟩
def zst (s:z78):Sl.Ts τ zdq:=((),(),(),(),(),s.i,(),(),(),(),(),(),(),(),(),(),(),(),(),(),(),(),(),(),(),(),())
def zsu (s:z78):ESh.Ts τ zdr:=()
def zsv:Lp τ:={ ts:=zdq,hs:=zdr,S:=z78,to:=zss,ot:=zst,oh:=zsu,hk:=[],tk:=[],ot_to:=fun _ _=>rfl,oh_to:=fun _ _=>rfl }
def zbe (N:Nat) (a:List (GOp)) (b:List (GOp)):Option (Bool) :=
 (bif (!(((a).length:Int)==((b).length:Int))) then
 (some false)
 else
 (iter N (fun (s1:z78) next2 =>
 (bif (decide (s1.i < ((a).length:Int))) then
 (bif (ibB s1.i ((a).length:Int)) then
 (bif (ibB s1.i ((b).length:Int)) then
 (bif (!((((((lget a s1.i default).Stamp).Time)==(((lget b s1.i default).Stamp).Time))&&((((lget a s1.i default).Stamp).Site)==(((lget b s1.i default).Stamp).Site)))&&((((lget a s1.i default).Kind)==((lget b s1.i default).Kind))&&((((lget a s1.i default).Node)==((lget b s1.i default).Node))&&((((lget a s1.i default).Parent)==((lget b s1.i default).Parent))&&((((lget a s1.i default).Name)==((lget b s1.i default).Name))&&((((lget a s1.i default).Key)==((lget b s1.i default).Key))&&(((lget a s1.i default).Value)==((lget b s1.i default).Value))))))))) then
 (some false)
 else
 (next2 ⟨(IntKind.i64.wrap (s1.i+1))⟩))
 else none)
 else none)
 else
 (some true))) ⟨0⟩))
def zbp:Con τ:={ args:=[.ty 31,.ty 31],L:=[],ret:=.ty 4,L':=[],R:=Bool,dflt:=default,F:=fun N a b=>zbe N a.1 a.2.1,of:=fun r=>(r,()) }
noncomputable def zug:Dat τ:={ D:=D0,tbl:=tblOf [],lp:=lpsOf [(4,zsv)],k0:=0,mu:=[],un:=[] }
theorem znq:ConOk E C 36 zbp :=
  zj (D:=zug) ⟨d0Ok,eGood,z7 trivial,fun _=>rfl⟩ zbp (fun a b=>a) none (fun _ _=>rfl) rfl (fun _ _ h=>nomatch h) 1000000 (fn:=Tryz.f36) Tryz.func36 rfl (by kernel_rfl) (by kernel_rfl) rfl (by intro N a b; kernel_rfl)
def zai (N:Nat) (a:GPart) (b:GPart):Option (Bool) :=
 (some ((((a.Snap==b.Snap)&&(a.Index==b.Index))&&(a.Many==b.Many))&&((strI a.Data)==(strI b.Data))))
def zas:Con τ:={ args:=[.ty 39,.ty 39],L:=[],ret:=.ty 4,L':=[],R:=Bool,dflt:=default,F:=fun N a b=>zai N a.1 a.2.1,of:=fun r=>(r,()) }
noncomputable def zsw:Dat τ:={ D:=D0,tbl:=tblOf [],lp:=lpsOf [],k0:=0,mu:=[],un:=[] }
theorem zmp:ConOk E C 37 zas :=
  zj (D:=zsw) ⟨d0Ok,eGood,z7 trivial,fun _=>rfl⟩ zas (fun a b=>a) none (fun _ _=>rfl) rfl (fun _ _ h=>nomatch h) 1000000 (fn:=Tryz.f37) Tryz.func37 rfl (by kernel_rfl) (by kernel_rfl) rfl (by intro N a b; kernel_rfl)
def z9j (N:Nat) (a:z9) (b:z9):Option (Bool) :=
 ((bif ((((((a.Kind==b.Kind)&&(a.Session==b.Session))&&(a.Request==b.Request))&&(((a.Op.Stamp.Time==b.Op.Stamp.Time)&&(a.Op.Stamp.Site==b.Op.Stamp.Site))&&((a.Op.Kind==b.Op.Kind)&&((a.Op.Node==b.Op.Node)&&((a.Op.Parent==b.Op.Parent)&&((a.Op.Name==b.Op.Name)&&((a.Op.Key==b.Op.Key)&&(a.Op.Value==b.Op.Value))))))))&&(a.Origin==b.Origin))&&(a.Seq==b.Seq)) then zbe N a.Ops b.Ops else some default).bind fun r1 =>
 ((bif (((((((((((a.Kind==b.Kind)&&(a.Session==b.Session))&&(a.Request==b.Request))&&(((a.Op.Stamp.Time==b.Op.Stamp.Time)&&(a.Op.Stamp.Site==b.Op.Stamp.Site))&&((a.Op.Kind==b.Op.Kind)&&((a.Op.Node==b.Op.Node)&&((a.Op.Parent==b.Op.Parent)&&((a.Op.Name==b.Op.Name)&&((a.Op.Key==b.Op.Key)&&(a.Op.Value==b.Op.Value))))))))&&(a.Origin==b.Origin))&&(a.Seq==b.Seq))&&r1)&&((a.Epoch.Number==b.Epoch.Number)&&((vbeq beq3 a.Epoch.States b.Epoch.States)&&((vbeq beq2 a.Epoch.Seals b.Epoch.Seals)&&(vbeq beq3 a.Epoch.Sponsor b.Epoch.Sponsor)))))&&(a.From==b.From))&&(vbeq beq2 a.Vector_ b.Vector_))&&(a.Clock==b.Clock)) then zai N a.Part b.Part else some default).bind fun r2 =>
 (some (((((((((((((((a.Kind==b.Kind)&&(a.Session==b.Session))&&(a.Request==b.Request))&&(((a.Op.Stamp.Time==b.Op.Stamp.Time)&&(a.Op.Stamp.Site==b.Op.Stamp.Site))&&((a.Op.Kind==b.Op.Kind)&&((a.Op.Node==b.Op.Node)&&((a.Op.Parent==b.Op.Parent)&&((a.Op.Name==b.Op.Name)&&((a.Op.Key==b.Op.Key)&&(a.Op.Value==b.Op.Value))))))))&&(a.Origin==b.Origin))&&(a.Seq==b.Seq))&&r1)&&((a.Epoch.Number==b.Epoch.Number)&&((vbeq beq3 a.Epoch.States b.Epoch.States)&&((vbeq beq2 a.Epoch.Seals b.Epoch.Seals)&&(vbeq beq3 a.Epoch.Sponsor b.Epoch.Sponsor)))))&&(a.From==b.From))&&(vbeq beq2 a.Vector_ b.Vector_))&&(a.Clock==b.Clock))&&r2)&&(a.Site==b.Site))&&(a.Sponsor==b.Sponsor))&&(a.Length==b.Length)))))
def za2:Con τ:={ args:=[.ty 41,.ty 41],L:=[],ret:=.ty 4,L':=[],R:=Bool,dflt:=default,F:=fun N a b=>z9j N a.1 a.2.1,of:=fun r=>(r,()) }
noncomputable def zrh:Dat τ:={ D:=D0,tbl:=tblOf [(36,zbp),(37,zas)],lp:=lpsOf [],k0:=0,mu:=[],un:=[] }
theorem zku:ConOk E C 35 za2 :=
  zj (D:=zrh) ⟨d0Ok,eGood,z7 ⟨znq,⟨zmp,trivial⟩⟩,fun _=>rfl⟩ za2 (fun a b=>a) none (fun _ _=>rfl) rfl (fun _ _ h=>nomatch h) 1000000 (fn:=Tryz.f35) Tryz.func35 rfl (by kernel_rfl) (by kernel_rfl) rfl (by intro N a b; kernel_rfl)
def z79 (N:Nat) (a:zc) (b:zc):Option (Bool) :=
 ((bif ((a.Slot==b.Slot)&&((a.Ballot.Round==b.Ballot.Round)&&(a.Ballot.Replica==b.Ballot.Replica))) then z9j N a.Entry b.Entry else some default).bind fun r1 =>
 (some (((a.Slot==b.Slot)&&((a.Ballot.Round==b.Ballot.Round)&&(a.Ballot.Replica==b.Ballot.Replica)))&&r1)))
def zb4:Con τ:={ args:=[.ty 155,.ty 155],L:=[],ret:=.ty 4,L':=[],R:=Bool,dflt:=default,F:=fun N a b=>z79 N a.1 a.2.1,of:=fun r=>(r,()) }
noncomputable def zp2:Dat τ:={ D:=D0,tbl:=tblOf [(35,za2)],lp:=lpsOf [],k0:=0,mu:=[],un:=[] }
theorem zqa:ConOk E C 82 zb4 :=
  zj (D:=zp2) ⟨d0Ok,eGood,z7 ⟨zku,trivial⟩,fun _=>rfl⟩ zb4 (fun a b=>a) none (fun _ _=>rfl) rfl (fun _ _ h=>nomatch h) 1000000 (fn:=Tryz.f82) Tryz.func82 rfl (by kernel_rfl) (by kernel_rfl) rfl (by intro N a b; kernel_rfl)
structure z5v where
  i:Int
def zco:List Sl:=[.k,.k,.k,.k,.j,.sh (.ty 2),.k,.k,.k,.k,.k,.j,.j,.j,.j,.j,.j,.j,.j,.j,.j,.j,.j,.j,.j,.j,.j]
def zcp:List ESh:=[]
def zri (a:Sl.Ts τ zco) (b:ESh.Ts τ zcp):z5v:=⟨a.2.2.2.2.2.1⟩
def zrj (s:z5v):Sl.Ts τ zco:=((),(),(),(),(),s.i,(),(),(),(),(),(),(),(),(),(),(),(),(),(),(),(),(),(),(),(),(),())
def zrk (s:z5v):ESh.Ts τ zcp:=()
def zrl:Lp τ:={ ts:=zco,hs:=zcp,S:=z5v,to:=zri,ot:=zrj,oh:=zrk,hk:=[],tk:=[],ot_to:=fun _ _=>rfl,oh_to:=fun _ _=>rfl }
def zcq (N:Nat) (a:List (zc)) (b:List (zc)):Option (Bool) :=
 (bif (!(((a).length:Int)==((b).length:Int))) then
 (some false)
 else
 (iter N (fun (s1:z5v) next2 =>
 (bif (decide (s1.i < ((a).length:Int))) then
 (bif (ibB s1.i ((a).length:Int)) then
 (bif (ibB s1.i ((b).length:Int)) then
 ((z79 N (⟨(lget a s1.i default).Slot,((lget a s1.i default).Ballot),(⟨((lget a s1.i default).Entry).Kind,((lget a s1.i default).Entry).Session,((lget a s1.i default).Entry).Request,(⟨((((lget a s1.i default).Entry).Op).Stamp),(((lget a s1.i default).Entry).Op).Kind,(((lget a s1.i default).Entry).Op).Node,(((lget a s1.i default).Entry).Op).Parent,(((lget a s1.i default).Entry).Op).Name,(((lget a s1.i default).Entry).Op).Key,(((lget a s1.i default).Entry).Op).Value⟩:GOp),((lget a s1.i default).Entry).Origin,((lget a s1.i default).Entry).Seq,((lget a s1.i default).Entry).Ops,(((lget a s1.i default).Entry).Epoch),((lget a s1.i default).Entry).From,((lget a s1.i default).Entry).Vector_,((lget a s1.i default).Entry).Clock,(((lget a s1.i default).Entry).Part),((lget a s1.i default).Entry).Site,((lget a s1.i default).Entry).Sponsor,((lget a s1.i default).Entry).Length⟩:z9)⟩:zc) (⟨(lget b s1.i default).Slot,((lget b s1.i default).Ballot),(⟨((lget b s1.i default).Entry).Kind,((lget b s1.i default).Entry).Session,((lget b s1.i default).Entry).Request,(⟨((((lget b s1.i default).Entry).Op).Stamp),(((lget b s1.i default).Entry).Op).Kind,(((lget b s1.i default).Entry).Op).Node,(((lget b s1.i default).Entry).Op).Parent,(((lget b s1.i default).Entry).Op).Name,(((lget b s1.i default).Entry).Op).Key,(((lget b s1.i default).Entry).Op).Value⟩:GOp),((lget b s1.i default).Entry).Origin,((lget b s1.i default).Entry).Seq,((lget b s1.i default).Entry).Ops,(((lget b s1.i default).Entry).Epoch),((lget b s1.i default).Entry).From,((lget b s1.i default).Entry).Vector_,((lget b s1.i default).Entry).Clock,(((lget b s1.i default).Entry).Part),((lget b s1.i default).Entry).Site,((lget b s1.i default).Entry).Sponsor,((lget b s1.i default).Entry).Length⟩:z9)⟩:zc)).bind fun r3 =>
 (bif (!r3) then
 (some false)
 else
 (next2 ⟨(IntKind.i64.wrap (s1.i+1))⟩)))
 else none)
 else none)
 else
 (some true))) ⟨0⟩))
def zds:Con τ:={ args:=[.ty 26,.ty 26],L:=[],ret:=.ty 4,L':=[],R:=Bool,dflt:=default,F:=fun N a b=>zcq N a.1 a.2.1,of:=fun r=>(r,()) }
noncomputable def zsx:Dat τ:={ D:=D0,tbl:=tblOf [(82,zb4)],lp:=lpsOf [(4,zrl)],k0:=0,mu:=[],un:=[] }
theorem zuh:ConOk E C 34 zds :=
  zj (D:=zsx) ⟨d0Ok,eGood,z7 ⟨zqa,trivial⟩,fun _=>rfl⟩ zds (fun a b=>a) none (fun _ _=>rfl) rfl (fun _ _ h=>nomatch h) 1000000 (fn:=Tryz.f34) Tryz.func34 rfl (by kernel_rfl) (by kernel_rfl) rfl (by intro N a b; kernel_rfl)
def ze6 (N:Nat) (a:GMsg) (b:GMsg):Option (Bool) :=
 ((bif (((((a.Kind==b.Kind)&&((a.From.Group==b.From.Group)&&(a.From.Replica==b.From.Replica)))&&((a.To.Group==b.To.Group)&&(a.To.Replica==b.To.Replica)))&&((a.Ballot.Round==b.Ballot.Round)&&(a.Ballot.Replica==b.Ballot.Replica)))&&(a.Slot==b.Slot)) then zcq N a.List_ b.List_ else some default).bind fun r1 =>
 ((bif ((((((a.Kind==b.Kind)&&((a.From.Group==b.From.Group)&&(a.From.Replica==b.From.Replica)))&&((a.To.Group==b.To.Group)&&(a.To.Replica==b.To.Replica)))&&((a.Ballot.Round==b.Ballot.Round)&&(a.Ballot.Replica==b.Ballot.Replica)))&&(a.Slot==b.Slot))&&r1) then z9j N a.Entry b.Entry else some default).bind fun r2 =>
 ((bif (((((((((((a.Kind==b.Kind)&&((a.From.Group==b.From.Group)&&(a.From.Replica==b.From.Replica)))&&((a.To.Group==b.To.Group)&&(a.To.Replica==b.To.Replica)))&&((a.Ballot.Round==b.Ballot.Round)&&(a.Ballot.Replica==b.Ballot.Replica)))&&(a.Slot==b.Slot))&&r1)&&r2)&&(a.Number==b.Number))&&(vbeq beq2 a.Vector_ b.Vector_))&&(a.Clock==b.Clock))&&(a.Origin==b.Origin)) then zbe N a.Ops b.Ops else some default).bind fun r3 =>
 ((bif (((((((((((((a.Kind==b.Kind)&&((a.From.Group==b.From.Group)&&(a.From.Replica==b.From.Replica)))&&((a.To.Group==b.To.Group)&&(a.To.Replica==b.To.Replica)))&&((a.Ballot.Round==b.Ballot.Round)&&(a.Ballot.Replica==b.Ballot.Replica)))&&(a.Slot==b.Slot))&&r1)&&r2)&&(a.Number==b.Number))&&(vbeq beq2 a.Vector_ b.Vector_))&&(a.Clock==b.Clock))&&(a.Origin==b.Origin))&&r3)&&((a.Epoch.Number==b.Epoch.Number)&&((vbeq beq3 a.Epoch.States b.Epoch.States)&&((vbeq beq2 a.Epoch.Seals b.Epoch.Seals)&&(vbeq beq3 a.Epoch.Sponsor b.Epoch.Sponsor))))) then zai N a.Part b.Part else some default).bind fun r4 =>
 (some ((((((((((((((a.Kind==b.Kind)&&((a.From.Group==b.From.Group)&&(a.From.Replica==b.From.Replica)))&&((a.To.Group==b.To.Group)&&(a.To.Replica==b.To.Replica)))&&((a.Ballot.Round==b.Ballot.Round)&&(a.Ballot.Replica==b.Ballot.Replica)))&&(a.Slot==b.Slot))&&r1)&&r2)&&(a.Number==b.Number))&&(vbeq beq2 a.Vector_ b.Vector_))&&(a.Clock==b.Clock))&&(a.Origin==b.Origin))&&r3)&&((a.Epoch.Number==b.Epoch.Number)&&((vbeq beq3 a.Epoch.States b.Epoch.States)&&((vbeq beq2 a.Epoch.Seals b.Epoch.Seals)&&(vbeq beq3 a.Epoch.Sponsor b.Epoch.Sponsor)))))&&r4))))))
def zeh:Con τ:={ args:=[.ty 43,.ty 43],L:=[],ret:=.ty 4,L':=[],R:=Bool,dflt:=default,F:=fun N a b=>ze6 N a.1 a.2.1,of:=fun r=>(r,()) }
noncomputable def zui:Dat τ:={ D:=D0,tbl:=tblOf [(34,zds),(35,za2),(36,zbp),(37,zas)],lp:=lpsOf [],k0:=0,mu:=[],un:=[] }
theorem zvs:ConOk E C 14 zeh :=
  zj (D:=zui) ⟨d0Ok,eGood,z7 ⟨zuh,⟨zku,⟨znq,⟨zmp,trivial⟩⟩⟩⟩,fun _=>rfl⟩ zeh (fun a b=>a) none (fun _ _=>rfl) rfl (fun _ _ h=>nomatch h) 1000000 (fn:=Tryz.f14) Tryz.func14 rfl (by kernel_rfl) (by kernel_rfl) rfl (by intro N a b; kernel_rfl)
structure z9k where
  want:Nat
  t33:Int
  b0:Nat
  b02:Int
  b03:Bool
  g2:List (GMsg)
  g3:List (GSent)
def zdt:List Sl:=[.k,.k,.k,.k,.k,.k,.sh (.msl 43 2),.k,.j,.j,.j,.k,.k,.k,.k,.k,.k,.k,.k,.k,.k,.k,.k,.k,.k,.k,.k,.k,.j,.j,.k,.k,.k,.sh (.ty 2),.j,.j,.j,.j,.j,.j,.j,.j,.j,.j,.j,.j,.j,.j,.j,.j,.j,.j,.j,.j,.j,.k,.k,.k,.k,.k,.k,.k,.k,.k,.k,.k,.k,.k,.k,.k,.k,.k,.k,.k,.k,.k,.k,.k,.k,.k,.k,.k,.k,.k,.k,.k,.k,.k,.k,.k,.k,.k,.k,.k,.k,.k,.k,.k,.k,.k,.k,.k,.k,.k,.k,.k,.k,.k,.k,.k,.k,.k,.k,.k,.k,.k,.k,.k,.k,.k,.k,.k,.k,.k,.k,.k,.k,.k,.k,.k,.k,.k,.k,.k,.k,.k,.k,.k,.k,.k,.k,.k,.k,.k,.k,.k,.k,.k,.k,.k,.k,.k,.k,.k,.k]
def zdu:List ESh:=[.box (.agg [.agg [.msl 65 3,.ty 2],.ty 4]),.dead,.gbx 43,.gbx 65]
def zsy (a:Sl.Ts τ zdt) (b:ESh.Ts τ zdu):z9k:=⟨a.2.2.2.2.2.2.1,a.2.2.2.2.2.2.2.2.2.2.2.2.2.2.2.2.2.2.2.2.2.2.2.2.2.2.2.2.2.2.2.2.2.1,b.1.1.1,b.1.1.2.1,b.1.2.1,b.2.2.1,b.2.2.2.1⟩
def zsz (s:z9k):Sl.Ts τ zdt:=((),(),(),(),(),(),s.want,(),(),(),(),(),(),(),(),(),(),(),(),(),(),(),(),(),(),(),(),(),(),(),(),(),(),s.t33,(),(),(),(),(),(),(),(),(),(),(),(),(),(),(),(),(),(),(),(),(),(),(),(),(),(),(),(),(),(),(),(),(),(),(),(),(),(),(),(),(),(),(),(),(),(),(),(),(),(),(),(),(),(),(),(),(),(),(),(),(),(),(),(),(),(),(),(),(),(),(),(),(),(),(),(),(),(),(),(),(),(),(),(),(),(),(),(),(),(),(),(),(),(),(),(),(),(),(),(),(),(),(),(),(),(),(),(),(),(),(),(),(),(),(),(),(),(),(),(),(),())
def zt0 (s:z9k):ESh.Ts τ zdu:=(((s.b0,s.b02,()),s.b03,()),(),s.g2,s.g3,())
def zt1:Lp τ:={ ts:=zdt,hs:=zdu,S:=z9k,to:=zsy,ot:=zsz,oh:=zt0,hk:=[2,4],tk:=[0,0,0,0,0,2,0,0,0,0,0,0,0,0,0,0,0,0,0,0,0,0,0,0,2,2],ot_to:=fun _ _=>rfl,oh_to:=fun _ _=>rfl }
structure z8l where
  want:Nat
  t70:Int
  b0:Nat
  b02:Int
  b03:Bool
  b4:Nat
  g9:List (GMsg)
  g10:List (GSent)
  g11:List (Int)
def zcr:List Sl:=[.k,.k,.k,.k,.j,.k,.sh (.msl 43 9),.k,.k,.k,.k,.k,.k,.k,.j,.j,.j,.j,.k,.j,.j,.j,.j,.j,.k,.k,.k,.k,.k,.k,.k,.k,.k,.k,.k,.k,.k,.k,.k,.k,.k,.k,.k,.k,.k,.k,.k,.k,.k,.k,.k,.k,.k,.k,.k,.k,.k,.k,.k,.k,.k,.k,.k,.k,.k,.k,.k,.k,.k,.k,.sh (.ty 2),.j,.j,.j,.j,.j,.j,.j,.j,.j,.j,.j,.j,.j,.j,.j,.j,.j,.j,.j,.j,.j,.j,.j,.j,.j,.j,.j,.j,.j,.j,.j,.j,.j,.j,.j,.j,.j,.j,.j,.j,.j,.j,.j,.j,.j,.j,.j,.j,.j,.j,.j,.j,.j,.j,.j,.j,.j,.j,.j,.j,.j,.j,.j,.j,.j,.j,.j,.j,.j,.j,.j,.j,.j,.j,.j,.j,.j,.j,.j,.k,.k,.k,.k,.k]
def zcs:List ESh:=[.box (.agg [.agg [.msl 65 10,.ty 2],.ty 4]),.keep,.dead,.dead,.box (.msl 2 11),.keep,.keep,.keep,.dead,.gbx 43,.gbx 65,.gbx 2]
def zrm (a:Sl.Ts τ zcr) (b:ESh.Ts τ zcs):z8l:=⟨a.2.2.2.2.2.2.1,a.2.2.2.2.2.2.2.2.2.2.2.2.2.2.2.2.2.2.2.2.2.2.2.2.2.2.2.2.2.2.2.2.2.2.2.2.2.2.2.2.2.2.2.2.2.2.2.2.2.2.2.2.2.2.2.2.2.2.2.2.2.2.2.2.2.2.2.2.2.2.1,b.1.1.1,b.1.1.2.1,b.1.2.1,b.2.2.2.2.1,b.2.2.2.2.2.2.2.2.2.1,b.2.2.2.2.2.2.2.2.2.2.1,b.2.2.2.2.2.2.2.2.2.2.2.1⟩
def zrn (s:z8l):Sl.Ts τ zcr:=((),(),(),(),(),(),s.want,(),(),(),(),(),(),(),(),(),(),(),(),(),(),(),(),(),(),(),(),(),(),(),(),(),(),(),(),(),(),(),(),(),(),(),(),(),(),(),(),(),(),(),(),(),(),(),(),(),(),(),(),(),(),(),(),(),(),(),(),(),(),(),s.t70,(),(),(),(),(),(),(),(),(),(),(),(),(),(),(),(),(),(),(),(),(),(),(),(),(),(),(),(),(),(),(),(),(),(),(),(),(),(),(),(),(),(),(),(),(),(),(),(),(),(),(),(),(),(),(),(),(),(),(),(),(),(),(),(),(),(),(),(),(),(),(),(),(),(),(),(),(),(),(),(),(),(),(),(),())
def zro (s:z8l):ESh.Ts τ zcs:=(((s.b0,s.b02,()),s.b03,()),(),(),(),s.b4,(),(),(),(),s.g9,s.g10,s.g11,())
def zrp:Lp τ:={ ts:=zcr,hs:=zcs,S:=z8l,to:=zrm,ot:=zrn,oh:=zro,hk:=[2,1,4,4,2,2,4,1,4],tk:=[0,0,0,0,0,2,0,0,0,0,0,6,0,0,0,0,0,0,0,0,0,0,0,0,2,2,0,0,0,0,0,0,0,0,0,0,0,0,0,0,0,0,0,0,0,0,0,0,0,0,0,0,0,0,0,2],ot_to:=fun _ _=>rfl,oh_to:=fun _ _=>rfl }
structure z8m where
  t103:Int
  b0:Nat
  b02:Int
  b03:Bool
  g13:List (GSent)
def zct:List Sl:=[.k,.k,.k,.k,.j,.k,.k,.k,.k,.k,.k,.k,.k,.k,.k,.k,.k,.k,.k,.j,.j,.j,.j,.j,.k,.k,.k,.k,.k,.k,.k,.k,.k,.k,.k,.k,.k,.k,.k,.k,.k,.k,.k,.k,.k,.k,.k,.k,.k,.k,.k,.k,.k,.k,.k,.k,.k,.k,.k,.k,.k,.k,.k,.k,.k,.k,.k,.k,.k,.k,.k,.k,.k,.k,.k,.k,.k,.k,.k,.k,.k,.k,.k,.k,.k,.k,.k,.k,.k,.k,.k,.k,.k,.k,.k,.k,.k,.k,.k,.k,.k,.k,.k,.sh (.ty 2),.j,.j,.j,.j,.j,.j,.j,.j,.j,.j,.j,.j,.j,.j,.j,.j,.j,.j,.j,.j,.j,.j,.j,.j,.j,.j,.j,.j,.j,.k,.k,.k,.k,.k,.k,.k,.k,.k,.k,.k,.k,.k,.k,.k,.k,.k,.k,.k,.k,.k,.k]
def zcu:List ESh:=[.box (.agg [.agg [.msl 65 13,.ty 2],.ty 4]),.keep,.keep,.keep,.keep,.keep,.keep,.keep,.keep,.keep,.keep,.keep,.dead,.gbx 65]
def zrq (a:Sl.Ts τ zct) (b:ESh.Ts τ zcu):z8m:=⟨a.2.2.2.2.2.2.2.2.2.2.2.2.2.2.2.2.2.2.2.2.2.2.2.2.2.2.2.2.2.2.2.2.2.2.2.2.2.2.2.2.2.2.2.2.2.2.2.2.2.2.2.2.2.2.2.2.2.2.2.2.2.2.2.2.2.2.2.2.2.2.2.2.2.2.2.2.2.2.2.2.2.2.2.2.2.2.2.2.2.2.2.2.2.2.2.2.2.2.2.2.2.2.2.1,b.1.1.1,b.1.1.2.1,b.1.2.1,b.2.2.2.2.2.2.2.2.2.2.2.2.2.1⟩
def zrr (s:z8m):Sl.Ts τ zct:=((),(),(),(),(),(),(),(),(),(),(),(),(),(),(),(),(),(),(),(),(),(),(),(),(),(),(),(),(),(),(),(),(),(),(),(),(),(),(),(),(),(),(),(),(),(),(),(),(),(),(),(),(),(),(),(),(),(),(),(),(),(),(),(),(),(),(),(),(),(),(),(),(),(),(),(),(),(),(),(),(),(),(),(),(),(),(),(),(),(),(),(),(),(),(),(),(),(),(),(),(),(),(),s.t103,(),(),(),(),(),(),(),(),(),(),(),(),(),(),(),(),(),(),(),(),(),(),(),(),(),(),(),(),(),(),(),(),(),(),(),(),(),(),(),(),(),(),(),(),(),(),(),(),(),(),(),())
def zrs (s:z8m):ESh.Ts τ zcu:=(((s.b0,s.b02,()),s.b03,()),(),(),(),(),(),(),(),(),(),(),(),(),s.g13,())
def zrt:Lp τ:={ ts:=zct,hs:=zcu,S:=z8m,to:=zrq,ot:=zrr,oh:=zrs,hk:=[2,1,1,1,2,2,4,1,1,4,1,4,4],tk:=[0,0,0,0,0,2,0,0,0,0,0,6,0,0,0,0,0,0,0,0,0,0,0,0,2,2,0,0,0,0,0,0,0,0,0,0,0,0,0,0,0,0,0,0,0,0,0,0,0,0,0,0,0,0,0,2,0,0,0,0,0,0,0,0,0,0,0,0,0,0,0,0,0,0,0,0,0,0,0,0,0,0,0,2,0,0,13,0,0,0,0,0,0,0,0,0,0,0,0,13],ot_to:=fun _ _=>rfl,oh_to:=fun _ _=>rfl }
def ze7 (N:Nat) (l:List (GMsg)) (order:List (Int)):Option (Bool) :=
 ((zux N).bind fun r1 =>
 ((zq3 N).bind fun r2 =>
 (bif (!r2) then
 (some false)
 else
 (iter N (fun (s3:z9k) next4 =>
 (bif (decide (s3.t33 < ((l).length:Int))) then
 (bif (ibB s3.t33 ((l).length:Int)) then
 ((z4e N [(⟨(lget l s3.t33 default).Kind,((lget l s3.t33 default).From),((lget l s3.t33 default).To),((lget l s3.t33 default).Ballot),(lget l s3.t33 default).Slot,(lget l s3.t33 default).List_,(⟨((lget l s3.t33 default).Entry).Kind,((lget l s3.t33 default).Entry).Session,((lget l s3.t33 default).Entry).Request,(⟨((((lget l s3.t33 default).Entry).Op).Stamp),(((lget l s3.t33 default).Entry).Op).Kind,(((lget l s3.t33 default).Entry).Op).Node,(((lget l s3.t33 default).Entry).Op).Parent,(((lget l s3.t33 default).Entry).Op).Name,(((lget l s3.t33 default).Entry).Op).Key,(((lget l s3.t33 default).Entry).Op).Value⟩:GOp),((lget l s3.t33 default).Entry).Origin,((lget l s3.t33 default).Entry).Seq,((lget l s3.t33 default).Entry).Ops,(((lget l s3.t33 default).Entry).Epoch),((lget l s3.t33 default).Entry).From,((lget l s3.t33 default).Entry).Vector_,((lget l s3.t33 default).Entry).Clock,(((lget l s3.t33 default).Entry).Part),((lget l s3.t33 default).Entry).Site,((lget l s3.t33 default).Entry).Sponsor,((lget l s3.t33 default).Entry).Length⟩:z9),(lget l s3.t33 default).Number,(lget l s3.t33 default).Vector_,(lget l s3.t33 default).Clock,(lget l s3.t33 default).Origin,(lget l s3.t33 default).Ops,((lget l s3.t33 default).Epoch),((lget l s3.t33 default).Part)⟩:GMsg)] s3.b0 s3.b02 s3.b03 s3.g3).bind fun r5 =>
 (bif ((r5.2.1==0)&&(r5.1==1)) then
 (bif ((lenB (s3.want+([(⟨(lget l s3.t33 default).Kind,((lget l s3.t33 default).From),((lget l s3.t33 default).To),((lget l s3.t33 default).Ballot),(lget l s3.t33 default).Slot,(lget l s3.t33 default).List_,(⟨((lget l s3.t33 default).Entry).Kind,((lget l s3.t33 default).Entry).Session,((lget l s3.t33 default).Entry).Request,(⟨((((lget l s3.t33 default).Entry).Op).Stamp),(((lget l s3.t33 default).Entry).Op).Kind,(((lget l s3.t33 default).Entry).Op).Node,(((lget l s3.t33 default).Entry).Op).Parent,(((lget l s3.t33 default).Entry).Op).Name,(((lget l s3.t33 default).Entry).Op).Key,(((lget l s3.t33 default).Entry).Op).Value⟩:GOp),((lget l s3.t33 default).Entry).Origin,((lget l s3.t33 default).Entry).Seq,((lget l s3.t33 default).Entry).Ops,(((lget l s3.t33 default).Entry).Epoch),((lget l s3.t33 default).Entry).From,((lget l s3.t33 default).Entry).Vector_,((lget l s3.t33 default).Entry).Clock,(((lget l s3.t33 default).Entry).Part),((lget l s3.t33 default).Entry).Site,((lget l s3.t33 default).Entry).Sponsor,((lget l s3.t33 default).Entry).Length⟩:z9),(lget l s3.t33 default).Number,(lget l s3.t33 default).Vector_,(lget l s3.t33 default).Clock,(lget l s3.t33 default).Origin,(lget l s3.t33 default).Ops,((lget l s3.t33 default).Epoch),((lget l s3.t33 default).Part)⟩:GMsg)]).length) 952)&&(Nat.ble s3.want (s3.g2).length)) then
 (next4 ⟨(s3.want+([(⟨(lget l s3.t33 default).Kind,((lget l s3.t33 default).From),((lget l s3.t33 default).To),((lget l s3.t33 default).Ballot),(lget l s3.t33 default).Slot,(lget l s3.t33 default).List_,(⟨((lget l s3.t33 default).Entry).Kind,((lget l s3.t33 default).Entry).Session,((lget l s3.t33 default).Entry).Request,(⟨((((lget l s3.t33 default).Entry).Op).Stamp),(((lget l s3.t33 default).Entry).Op).Kind,(((lget l s3.t33 default).Entry).Op).Node,(((lget l s3.t33 default).Entry).Op).Parent,(((lget l s3.t33 default).Entry).Op).Name,(((lget l s3.t33 default).Entry).Op).Key,(((lget l s3.t33 default).Entry).Op).Value⟩:GOp),((lget l s3.t33 default).Entry).Origin,((lget l s3.t33 default).Entry).Seq,((lget l s3.t33 default).Entry).Ops,(((lget l s3.t33 default).Entry).Epoch),((lget l s3.t33 default).Entry).From,((lget l s3.t33 default).Entry).Vector_,((lget l s3.t33 default).Entry).Clock,(((lget l s3.t33 default).Entry).Part),((lget l s3.t33 default).Entry).Site,((lget l s3.t33 default).Entry).Sponsor,((lget l s3.t33 default).Entry).Length⟩:z9),(lget l s3.t33 default).Number,(lget l s3.t33 default).Vector_,(lget l s3.t33 default).Clock,(lget l s3.t33 default).Origin,(lget l s3.t33 default).Ops,((lget l s3.t33 default).Epoch),((lget l s3.t33 default).Part)⟩:GMsg)]).length),(IntKind.i64.wrap (s3.t33+1)),r5.2.2.1,r5.2.2.2.1,r5.2.2.2.2.1,(s3.g2.take s3.want++[(⟨(lget l s3.t33 default).Kind,((lget l s3.t33 default).From),((lget l s3.t33 default).To),((lget l s3.t33 default).Ballot),(lget l s3.t33 default).Slot,(lget l s3.t33 default).List_,(⟨((lget l s3.t33 default).Entry).Kind,((lget l s3.t33 default).Entry).Session,((lget l s3.t33 default).Entry).Request,(⟨((((lget l s3.t33 default).Entry).Op).Stamp),(((lget l s3.t33 default).Entry).Op).Kind,(((lget l s3.t33 default).Entry).Op).Node,(((lget l s3.t33 default).Entry).Op).Parent,(((lget l s3.t33 default).Entry).Op).Name,(((lget l s3.t33 default).Entry).Op).Key,(((lget l s3.t33 default).Entry).Op).Value⟩:GOp),((lget l s3.t33 default).Entry).Origin,((lget l s3.t33 default).Entry).Seq,((lget l s3.t33 default).Entry).Ops,(((lget l s3.t33 default).Entry).Epoch),((lget l s3.t33 default).Entry).From,((lget l s3.t33 default).Entry).Vector_,((lget l s3.t33 default).Entry).Clock,(((lget l s3.t33 default).Entry).Part),((lget l s3.t33 default).Entry).Site,((lget l s3.t33 default).Entry).Sponsor,((lget l s3.t33 default).Entry).Length⟩:z9),(lget l s3.t33 default).Number,(lget l s3.t33 default).Vector_,(lget l s3.t33 default).Clock,(lget l s3.t33 default).Origin,(lget l s3.t33 default).Ops,((lget l s3.t33 default).Epoch),((lget l s3.t33 default).Part)⟩:GMsg)]),r5.2.2.2.2.2⟩)
 else none)
 else
 (next4 ⟨s3.want,(IntKind.i64.wrap (s3.t33+1)),r5.2.2.1,r5.2.2.2.1,r5.2.2.2.2.1,s3.g2,r5.2.2.2.2.2⟩)))
 else none)
 else
 ((zbo N s3.b0 s3.b02 s3.b03 s3.g3).bind fun r6 =>
 ((za1 N r6.2.2.2.2.1 r6.2.2.2.2.2).bind fun r7 =>
 (bif (!(((r7.2.1:Nat):Int)==((s3.want:Nat):Int))) then
 (some false)
 else
 (iter N (fun (s8:z8l) next9 =>
 (bif (decide (s8.t70 < ((order).length:Int))) then
 (bif (ibB s8.t70 ((order).length:Int)) then
 (bif (((s8.b4:Nat):Int)==0) then
 ((z9i N s8.b0 s8.b02 s8.b03 s8.g10).bind fun r10 =>
 (some (r10.1==((s8.b4:Nat):Int))))
 else
 (bif (!(((s8.b4:Nat):Int)==0)) then
 (bif (ibB (Int.tmod (IntKind.i64.wrap (lget order s8.t70 default)) ((s8.b4:Nat):Int)) ((s8.b4:Nat):Int)) then
 (bif (decide (((Int.tmod (IntKind.i64.wrap (lget order s8.t70 default)) ((s8.b4:Nat):Int))).toNat < (s8.g11).length)) then
 ((z49 N (s8.g11.getD (((Int.tmod (IntKind.i64.wrap (lget order s8.t70 default)) ((s8.b4:Nat):Int))).toNat) default) s8.b0 s8.b02 s8.b03 s8.g10).bind fun r11 =>
 (bif (!(r11.2.1==0)) then
 (some (decide (16384≤((s8.b4:Nat):Int))))
 else
 (bif (ibB (Int.tmod (IntKind.i64.wrap (lget order s8.t70 default)) ((s8.b4:Nat):Int)) ((s8.b4:Nat):Int)) then
 (bif (decide (((Int.tmod (IntKind.i64.wrap (lget order s8.t70 default)) ((s8.b4:Nat):Int))).toNat < (s8.g11).length)) then
 (iter N (fun (s12:z8m) next13 =>
 (bif (decide (s12.t103 < (([r11.1,(s8.g11.getD (((Int.tmod (IntKind.i64.wrap (lget order s8.t70 default)) ((s8.b4:Nat):Int))).toNat) default)]).length:Int))) then
 (bif (ibB s12.t103 (([r11.1,(s8.g11.getD (((Int.tmod (IntKind.i64.wrap (lget order s8.t70 default)) ((s8.b4:Nat):Int))).toNat) default)]).length:Int)) then
 ((z3d N (lget [r11.1,(s8.g11.getD (((Int.tmod (IntKind.i64.wrap (lget order s8.t70 default)) ((s8.b4:Nat):Int))).toNat) default)] s12.t103 default) s12.b0 s12.b02 s12.b03 s12.g13).bind fun r14 =>
 (bif (!(!(!(r14.2.1==0))) || (ibB (Int.tmod (IntKind.i64.wrap (lget order s8.t70 default)) ((s8.b4:Nat):Int)) ((s8.want:Nat):Int))) then
 (bif (!(!(!(r14.2.1==0))) || (decide (((Int.tmod (IntKind.i64.wrap (lget order s8.t70 default)) ((s8.b4:Nat):Int))).toNat < (s8.g9).length))) then
 ((bif (!(!(r14.2.1==0))) then ze6 N r14.1 (⟨(s8.g9.getD (((Int.tmod (IntKind.i64.wrap (lget order s8.t70 default)) ((s8.b4:Nat):Int))).toNat) default).Kind,((s8.g9.getD (((Int.tmod (IntKind.i64.wrap (lget order s8.t70 default)) ((s8.b4:Nat):Int))).toNat) default).From),((s8.g9.getD (((Int.tmod (IntKind.i64.wrap (lget order s8.t70 default)) ((s8.b4:Nat):Int))).toNat) default).To),((s8.g9.getD (((Int.tmod (IntKind.i64.wrap (lget order s8.t70 default)) ((s8.b4:Nat):Int))).toNat) default).Ballot),(s8.g9.getD (((Int.tmod (IntKind.i64.wrap (lget order s8.t70 default)) ((s8.b4:Nat):Int))).toNat) default).Slot,(s8.g9.getD (((Int.tmod (IntKind.i64.wrap (lget order s8.t70 default)) ((s8.b4:Nat):Int))).toNat) default).List_,(⟨((s8.g9.getD (((Int.tmod (IntKind.i64.wrap (lget order s8.t70 default)) ((s8.b4:Nat):Int))).toNat) default).Entry).Kind,((s8.g9.getD (((Int.tmod (IntKind.i64.wrap (lget order s8.t70 default)) ((s8.b4:Nat):Int))).toNat) default).Entry).Session,((s8.g9.getD (((Int.tmod (IntKind.i64.wrap (lget order s8.t70 default)) ((s8.b4:Nat):Int))).toNat) default).Entry).Request,(⟨((((s8.g9.getD (((Int.tmod (IntKind.i64.wrap (lget order s8.t70 default)) ((s8.b4:Nat):Int))).toNat) default).Entry).Op).Stamp),(((s8.g9.getD (((Int.tmod (IntKind.i64.wrap (lget order s8.t70 default)) ((s8.b4:Nat):Int))).toNat) default).Entry).Op).Kind,(((s8.g9.getD (((Int.tmod (IntKind.i64.wrap (lget order s8.t70 default)) ((s8.b4:Nat):Int))).toNat) default).Entry).Op).Node,(((s8.g9.getD (((Int.tmod (IntKind.i64.wrap (lget order s8.t70 default)) ((s8.b4:Nat):Int))).toNat) default).Entry).Op).Parent,(((s8.g9.getD (((Int.tmod (IntKind.i64.wrap (lget order s8.t70 default)) ((s8.b4:Nat):Int))).toNat) default).Entry).Op).Name,(((s8.g9.getD (((Int.tmod (IntKind.i64.wrap (lget order s8.t70 default)) ((s8.b4:Nat):Int))).toNat) default).Entry).Op).Key,(((s8.g9.getD (((Int.tmod (IntKind.i64.wrap (lget order s8.t70 default)) ((s8.b4:Nat):Int))).toNat) default).Entry).Op).Value⟩:GOp),((s8.g9.getD (((Int.tmod (IntKind.i64.wrap (lget order s8.t70 default)) ((s8.b4:Nat):Int))).toNat) default).Entry).Origin,((s8.g9.getD (((Int.tmod (IntKind.i64.wrap (lget order s8.t70 default)) ((s8.b4:Nat):Int))).toNat) default).Entry).Seq,((s8.g9.getD (((Int.tmod (IntKind.i64.wrap (lget order s8.t70 default)) ((s8.b4:Nat):Int))).toNat) default).Entry).Ops,(((s8.g9.getD (((Int.tmod (IntKind.i64.wrap (lget order s8.t70 default)) ((s8.b4:Nat):Int))).toNat) default).Entry).Epoch),((s8.g9.getD (((Int.tmod (IntKind.i64.wrap (lget order s8.t70 default)) ((s8.b4:Nat):Int))).toNat) default).Entry).From,((s8.g9.getD (((Int.tmod (IntKind.i64.wrap (lget order s8.t70 default)) ((s8.b4:Nat):Int))).toNat) default).Entry).Vector_,((s8.g9.getD (((Int.tmod (IntKind.i64.wrap (lget order s8.t70 default)) ((s8.b4:Nat):Int))).toNat) default).Entry).Clock,(((s8.g9.getD (((Int.tmod (IntKind.i64.wrap (lget order s8.t70 default)) ((s8.b4:Nat):Int))).toNat) default).Entry).Part),((s8.g9.getD (((Int.tmod (IntKind.i64.wrap (lget order s8.t70 default)) ((s8.b4:Nat):Int))).toNat) default).Entry).Site,((s8.g9.getD (((Int.tmod (IntKind.i64.wrap (lget order s8.t70 default)) ((s8.b4:Nat):Int))).toNat) default).Entry).Sponsor,((s8.g9.getD (((Int.tmod (IntKind.i64.wrap (lget order s8.t70 default)) ((s8.b4:Nat):Int))).toNat) default).Entry).Length⟩:z9),(s8.g9.getD (((Int.tmod (IntKind.i64.wrap (lget order s8.t70 default)) ((s8.b4:Nat):Int))).toNat) default).Number,(s8.g9.getD (((Int.tmod (IntKind.i64.wrap (lget order s8.t70 default)) ((s8.b4:Nat):Int))).toNat) default).Vector_,(s8.g9.getD (((Int.tmod (IntKind.i64.wrap (lget order s8.t70 default)) ((s8.b4:Nat):Int))).toNat) default).Clock,(s8.g9.getD (((Int.tmod (IntKind.i64.wrap (lget order s8.t70 default)) ((s8.b4:Nat):Int))).toNat) default).Origin,(s8.g9.getD (((Int.tmod (IntKind.i64.wrap (lget order s8.t70 default)) ((s8.b4:Nat):Int))).toNat) default).Ops,((s8.g9.getD (((Int.tmod (IntKind.i64.wrap (lget order s8.t70 default)) ((s8.b4:Nat):Int))).toNat) default).Epoch),((s8.g9.getD (((Int.tmod (IntKind.i64.wrap (lget order s8.t70 default)) ((s8.b4:Nat):Int))).toNat) default).Part)⟩:GMsg) else some default).bind fun r15 =>
 (bif ((!(r14.2.1==0)) || (!r15)) then
 (some false)
 else
 ((z3d N (lget [r11.1,(s8.g11.getD (((Int.tmod (IntKind.i64.wrap (lget order s8.t70 default)) ((s8.b4:Nat):Int))).toNat) default)] s12.t103 default) r14.2.2.1 r14.2.2.2.1 r14.2.2.2.2.1 r14.2.2.2.2.2).bind fun r16 =>
 (bif (!(r16.2.1==4)) then
 (some false)
 else
 (next13 ⟨(IntKind.i64.wrap (s12.t103+1)),r16.2.2.1,r16.2.2.2.1,r16.2.2.2.2.1,r16.2.2.2.2.2⟩)))))
 else none)
 else none))
 else none)
 else
 (bif (cutW 0 (Int.tmod (IntKind.i64.wrap (lget order s8.t70 default)) ((s8.b4:Nat):Int)) ((s8.b4:Nat):Int) ((s8.b4:Nat):Int)) then
 (bif (cutW (IntKind.i64.wrap ((Int.tmod (IntKind.i64.wrap (lget order s8.t70 default)) ((s8.b4:Nat):Int))+1)) ((s8.b4:Nat):Int) ((s8.b4:Nat):Int) ((s8.b4:Nat):Int)) then
 (bif (((lenB (((Int.tmod (IntKind.i64.wrap (lget order s8.t70 default)) ((s8.b4:Nat):Int))).toNat+(((s8.g11.drop (0+((IntKind.i64.wrap ((Int.tmod (IntKind.i64.wrap (lget order s8.t70 default)) ((s8.b4:Nat):Int))+1))).toNat)).take (s8.b4 - ((IntKind.i64.wrap ((Int.tmod (IntKind.i64.wrap (lget order s8.t70 default)) ((s8.b4:Nat):Int))+1))).toNat))).length) 8)&&(Nat.ble (((Int.tmod (IntKind.i64.wrap (lget order s8.t70 default)) ((s8.b4:Nat):Int))).toNat) (s8.g11).length))&&(Nat.ble ((0+((IntKind.i64.wrap ((Int.tmod (IntKind.i64.wrap (lget order s8.t70 default)) ((s8.b4:Nat):Int))+1))).toNat)+(s8.b4 - ((IntKind.i64.wrap ((Int.tmod (IntKind.i64.wrap (lget order s8.t70 default)) ((s8.b4:Nat):Int))+1))).toNat)) (s8.g11).length)) then
 (bif (cutW 0 (Int.tmod (IntKind.i64.wrap (lget order s8.t70 default)) ((s8.b4:Nat):Int)) ((s8.want:Nat):Int) ((s8.want:Nat):Int)) then
 (bif (cutW (IntKind.i64.wrap ((Int.tmod (IntKind.i64.wrap (lget order s8.t70 default)) ((s8.b4:Nat):Int))+1)) ((s8.want:Nat):Int) ((s8.want:Nat):Int) ((s8.want:Nat):Int)) then
 (bif (((lenB (((Int.tmod (IntKind.i64.wrap (lget order s8.t70 default)) ((s8.b4:Nat):Int))).toNat+(((s8.g9.drop (0+((IntKind.i64.wrap ((Int.tmod (IntKind.i64.wrap (lget order s8.t70 default)) ((s8.b4:Nat):Int))+1))).toNat)).take (s8.want - ((IntKind.i64.wrap ((Int.tmod (IntKind.i64.wrap (lget order s8.t70 default)) ((s8.b4:Nat):Int))+1))).toNat))).length) 952)&&(Nat.ble (((Int.tmod (IntKind.i64.wrap (lget order s8.t70 default)) ((s8.b4:Nat):Int))).toNat) (s8.g9).length))&&(Nat.ble ((0+((IntKind.i64.wrap ((Int.tmod (IntKind.i64.wrap (lget order s8.t70 default)) ((s8.b4:Nat):Int))+1))).toNat)+(s8.want - ((IntKind.i64.wrap ((Int.tmod (IntKind.i64.wrap (lget order s8.t70 default)) ((s8.b4:Nat):Int))+1))).toNat)) (s8.g9).length)) then
 (next9 ⟨(((Int.tmod (IntKind.i64.wrap (lget order s8.t70 default)) ((s8.b4:Nat):Int))).toNat+(((s8.g9.drop (0+((IntKind.i64.wrap ((Int.tmod (IntKind.i64.wrap (lget order s8.t70 default)) ((s8.b4:Nat):Int))+1))).toNat)).take (s8.want - ((IntKind.i64.wrap ((Int.tmod (IntKind.i64.wrap (lget order s8.t70 default)) ((s8.b4:Nat):Int))+1))).toNat))).length),(IntKind.i64.wrap (s8.t70+1)),s12.b0,s12.b02,s12.b03,(((Int.tmod (IntKind.i64.wrap (lget order s8.t70 default)) ((s8.b4:Nat):Int))).toNat+(((s8.g11.drop (0+((IntKind.i64.wrap ((Int.tmod (IntKind.i64.wrap (lget order s8.t70 default)) ((s8.b4:Nat):Int))+1))).toNat)).take (s8.b4 - ((IntKind.i64.wrap ((Int.tmod (IntKind.i64.wrap (lget order s8.t70 default)) ((s8.b4:Nat):Int))+1))).toNat))).length),(s8.g9.take (((Int.tmod (IntKind.i64.wrap (lget order s8.t70 default)) ((s8.b4:Nat):Int))).toNat)++((s8.g9.drop (0+((IntKind.i64.wrap ((Int.tmod (IntKind.i64.wrap (lget order s8.t70 default)) ((s8.b4:Nat):Int))+1))).toNat)).take (s8.want - ((IntKind.i64.wrap ((Int.tmod (IntKind.i64.wrap (lget order s8.t70 default)) ((s8.b4:Nat):Int))+1))).toNat))),s12.g13,(s8.g11.take (((Int.tmod (IntKind.i64.wrap (lget order s8.t70 default)) ((s8.b4:Nat):Int))).toNat)++((s8.g11.drop (0+((IntKind.i64.wrap ((Int.tmod (IntKind.i64.wrap (lget order s8.t70 default)) ((s8.b4:Nat):Int))+1))).toNat)).take (s8.b4 - ((IntKind.i64.wrap ((Int.tmod (IntKind.i64.wrap (lget order s8.t70 default)) ((s8.b4:Nat):Int))+1))).toNat)))⟩)
 else none)
 else none)
 else none)
 else none)
 else none)
 else none))) ⟨0,r11.2.2.1,r11.2.2.2.1,r11.2.2.2.2.1,r11.2.2.2.2.2⟩)
 else none)
 else none)))
 else none)
 else none)
 else none))
 else none)
 else
 ((z9i N s8.b0 s8.b02 s8.b03 s8.g10).bind fun r17 =>
 (some (r17.1==((s8.b4:Nat):Int)))))) ⟨s3.want,0,r6.1,r6.2.1,r6.2.2.1,r7.2.1,s3.g2,r6.2.2.2.1,r7.2.2.2⟩)))))) ⟨0,0,r1.1,r1.2.1,r1.2.2.1,[],r1.2.2.2⟩))))
def zmq:Con τ:={ args:=[.ty 59,.ty 37],L:=[],ret:=.ty 4,L':=[],R:=Bool,dflt:=default,F:=fun N a b=>ze7 N a.1 a.2.1,of:=fun r=>(r,()) }
noncomputable def zuj:Dat τ:={ D:=D0,tbl:=tblOf [(8,zor),(9,zls),(10,z9d),(16,zcm),(39,zb3),(15,za0),(17,zah),(13,z97),(14,zeh)],lp:=lpsOf [(6,zt1),(19,zrp),(27,zrt)],k0:=0,mu:=[53,62,135,139,140,143,147,148],un:=[],fid:=4,ex:=[] }
theorem zvt:ConOk E C 4 zmq :=
  zj (D:=zuj) ⟨d0Ok,eGood,z7 ⟨z10r,⟨z10q,⟨zih,⟨zsr,⟨zq9,⟨zkr,⟨zp1,⟨zia,⟨zvs,trivial⟩⟩⟩⟩⟩⟩⟩⟩⟩,fun _=>rfl⟩ zmq (fun a b=>a) none (fun _ _=>rfl) rfl (fun _ _ h=>nomatch h) 1000000 (fn:=Tryz.f4) Tryz.func4 rfl (by kernel_rfl) (by kernel_rfl) rfl (by intro N a b; kernel_rfl) (hsub:=⟨z5q (by kernel_rfl),⟨z5q (by kernel_rfl),⟨z5q (by kernel_rfl),⟨z5q (by kernel_rfl),⟨z5q (by kernel_rfl),⟨z5q (by kernel_rfl),⟨⟨z5q (by kernel_rfl),(by show SiteP _ _ _ _; unfold SiteP; kernel_rfl)⟩,z5q (by kernel_rfl)⟩⟩⟩⟩⟩⟩⟩)
end Go.Proofs.YtddpmkmgbdedlaaGreat
