/-
The functions of this seat,as plain functions over typed data,each with its contract. Printed by wip/tools/fngen.py.
-/
import Derived.Test.YteinehkdjkobnaaGreatqFwa
import Derived.Test.YteinehkdjkobnaaGreatqTvX
import Derived.KernelRfl
set_option linter.unusedVariables false
set_option maxRecDepth 100000
namespace Go.Proofs.YteinehkdjkobnaaGreat
open Go Go.Ev
structure z27 where
  size:Int
  t11:Int
def z6c:List Sl:=[.k,.k,.k,.sh (.ty 2),.k,.j,.k,.k,.k,.k,.k,.sh (.ty 2),.j,.j,.j,.j,.j,.j,.j,.j,.j,.j,.j,.k,.k,.k,.k,.k,.k,.k,.k,.k,.k,.k,.k,.k]
def z6d:List ESh:=[]
def zgq (a:Sl.Ts τ z6c) (b:ESh.Ts τ z6d):z27:=⟨a.2.2.2.1,a.2.2.2.2.2.2.2.2.2.2.2.1⟩
def zgr (s:z27):Sl.Ts τ z6c:=((),(),(),s.size,(),(),(),(),(),(),(),s.t11,(),(),(),(),(),(),(),(),(),(),(),(),(),(),(),(),(),(),(),(),(),(),(),(),())
def zgs (s:z27):ESh.Ts τ z6d:=()
def zgt:Lp τ:={ ts:=z6c,hs:=z6d,S:=z27,to:=zgq,ot:=zgr,oh:=zgs,hk:=[],tk:=[],ot_to:=fun _ _=>rfl,oh_to:=fun _ _=>rfl }
structure z1z where
  newslice:Nat
  t27:Int
  g1:List (Int)
def z5d:List Sl:=[.k,.k,.k,.k,.k,.k,.sh (.msl 5 1),.k,.j,.k,.k,.k,.k,.k,.k,.k,.k,.k,.k,.k,.k,.k,.k,.k,.k,.k,.k,.sh (.ty 2),.j,.j,.j,.j,.j,.j,.j,.k]
def z5e:List ESh:=[.dead,.gbx 5]
def zf9 (a:Sl.Ts τ z5d) (b:ESh.Ts τ z5e):z1z:=⟨a.2.2.2.2.2.2.1,a.2.2.2.2.2.2.2.2.2.2.2.2.2.2.2.2.2.2.2.2.2.2.2.2.2.2.2.1,b.2.1⟩
def zfa (s:z1z):Sl.Ts τ z5d:=((),(),(),(),(),(),s.newslice,(),(),(),(),(),(),(),(),(),(),(),(),(),(),(),(),(),(),(),(),s.t27,(),(),(),(),(),(),(),(),())
def zfb (s:z1z):ESh.Ts τ z5e:=((),s.g1,())
def zfc:Lp τ:={ ts:=z5d,hs:=z5e,S:=z1z,to:=zf9,ot:=zfa,oh:=zfb,hk:=[4],tk:=[],ot_to:=fun _ _=>rfl,oh_to:=fun _ _=>rfl }
def z4p (N:Nat) (slices:List (List (Int))):Option (Nat×(List (Int))) :=
 (iter N (fun (s1:z27) next2 =>
 (bif (decide (s1.t11 < ((slices).length:Int))) then
 (bif (ibB s1.t11 ((slices).length:Int)) then
 (bif (decide ((IntKind.i64.wrap (s1.size + (((lget slices s1.t11 default)).length:Int))) < 0)) then
 none
 else
 (next2 ⟨(IntKind.i64.wrap (s1.size + (((lget slices s1.t11 default)).length:Int))),(IntKind.i64.wrap (s1.t11 + 1))⟩))
 else none)
 else
 ((z70 N s1.size).bind fun r3 =>
 (iter N (fun (s4:z1z) next5 =>
 (bif (decide (s4.t27 < ((slices).length:Int))) then
 (bif (ibB s4.t27 ((slices).length:Int)) then
 (bif ((lenB (s4.newslice + ((lget slices s4.t27 default)).length) 1)&&(Nat.ble s4.newslice (s4.g1).length)) then
 (next5 ⟨(s4.newslice + ((lget slices s4.t27 default)).length),(IntKind.i64.wrap (s4.t27 + 1)),(s4.g1.take s4.newslice++(lget slices s4.t27 default))⟩)
 else none)
 else none)
 else
 (some (s4.newslice,s4.g1)))) ⟨r3.1,0,r3.2⟩)))) ⟨0,0⟩)
def z71:Con τ:={ args:=[.ty 194],L:=[],ret:=.msl 5 0,L':=[.gbx 5],R:=Nat×(List (Int)),dflt:=(default,default),F:=fun N a b=>z4p N a.1,of:=fun r=>(r.1,(r.2,())) }
noncomputable def zie:Dat τ:={ D:=D0,tbl:=tblOf [(151,z8q)],lp:=lpsOf [(3,zgt),(11,zfc)],k0:=0,mu:=[33],un:=[] }
theorem zjy:ConOk E C 122 z71 :=
  zg (D:=zie) ⟨d0Ok,eGood,z9 ⟨zmx,trivial⟩,fun _=>rfl⟩ z71 (fun a b=>(a,b.1)) none (fun _ _=>rfl) rfl (fun _ _ h=>nomatch h) 1000000 (fn:=Tryz.f122) Tryz.func122 rfl (by kernel_rfl) (by kernel_rfl) rfl (by intro N a b; kernel_rfl)
def z46 (N:Nat) (slices:List (List (Int))):Option ((List (Int))):=(z4p N slices).bind fun r=>bif Nat.ble r.1 (r.2).length then some ((r.2).take r.1) else none
def za2:Con τ:={ args:=[.ty 194],L:=[],ret:=.ty 31,L':=[.dead],R:=(List (Int)),dflt:=default,F:=fun N a b=>z46 N a.1,of:=fun r=>(r,((),())) }
theorem zif:ConOk E C 122 za2:=by
  intro N a b r h
  have h:(z71.F N a b).bind (fun r=>bif Nat.ble r.1 (r.2).length then some ((r.2).take r.1) else none)=some r:=h
  obtain ⟨q,h0,h1⟩:=Option.bind_eq_some_iff.1 h
  cases hb:Nat.ble q.1 (q.2).length with
  | false=>rw [hb] at h1; cases h1
  | true =>
    rw [hb] at h1
    have h2:(q.2).take q.1=r:=Option.some.inj h1
    subst h2
    exact FnSpec.msl (ents:=[.gbx 5 q.2]) (id:=0) cOk (zjy N a b q h0) rfl (Nat.le_of_ble_eq_true hb)
def zfd (N:Nat) (b:List (Int)):Option ((List (Int))×Int) :=
 (bif (decide (1048576 < ((b).length:Int))) then
 (some ([],3))
 else
 ((zbj N ((b).length:Int)).bind fun r1 =>
 ((zns N [b]).bind fun r2 =>
 ((zdv N r2).bind fun r3 =>
 ((z46 N [r1,b,r3]).bind fun r4 =>
 (some (r4,0)))))))
def zlb:Con τ:={ args:=[.ty 31],L:=[],ret:=.tup [.ty 31,.ty 35],L':=[],R:=(List (Int))×Int,dflt:=(default,default),F:=fun N a b=>zfd N a.1,of:=fun r=>((r.1,r.2,()),()) }
noncomputable def zyn:Dat τ:={ D:=D0,tbl:=tblOf [(123,zar),(125,zm2),(124,ze6),(122,za2)],lp:=lpsOf [],k0:=0,mu:=[],un:=[] }
theorem z10b:ConOk E C 69 zlb :=
  zg (D:=zyn) ⟨d0Ok,eGood,z9 ⟨zlk,⟨zxt,⟨zq1,⟨zif,trivial⟩⟩⟩⟩,fun _=>rfl⟩ zlb (fun a b=>(a.1,a.2.1)) none (fun _ _=>rfl) rfl (fun _ _ h=>nomatch h) 1000000 (fn:=Tryz.f69) Tryz.func69 rfl (by kernel_rfl) (by kernel_rfl) rfl (by intro N a b; kernel_rfl)
def z7y (N:Nat) (m:GMsg):Option ((List (Int))×Int) :=
 ((z6p N m).bind fun r1 =>
 (bif (!(r1==0)) then
 (some ([],r1))
 else
 ((zci N).bind fun r2 =>
 ((z6b N m 0 r2.1 r2.2).bind fun r3 =>
 (bif (!(r3.1==0)) then
 (some ([],r3.1))
 else
 ((z4n N r3.2.1 r3.2.2).bind fun r4 =>
 ((zfd N r4.1).bind fun r5 =>
 (some (r5.1,r5.2)))))))))
def zdd:Con τ:={ args:=[.ty 71],L:=[],ret:=.tup [.ty 31,.ty 35],L':=[],R:=(List (Int))×Int,dflt:=(default,default),F:=fun N a b=>z7y N a.1,of:=fun r=>((r.1,r.2,()),()) }
noncomputable def zs4:Dat τ:={ D:=D0,tbl:=tblOf [(67,z6y),(7,z9w),(68,z89),(16,z6a),(69,zlb)],lp:=lpsOf [],k0:=0,mu:=[],un:=[] }
theorem ztm:ConOk E C 28 zdd :=
  zg (D:=zs4) ⟨d0Ok,eGood,z9 ⟨zdt,⟨zmi,⟨zlz,⟨ze3,⟨z10b,trivial⟩⟩⟩⟩⟩,fun _=>rfl⟩ zdd (fun a b=>(a.1,a.2.1)) none (fun _ _=>rfl) rfl (fun _ _ h=>nomatch h) 1000000 (fn:=Tryz.f28) Tryz.func28 rfl (by kernel_rfl) (by kernel_rfl) rfl (by intro N a b; kernel_rfl)
def zdy (N:Nat) (m:GMsg):Option (GMsg×Bool) :=
 (bif (m.Kind==1) then
 (bif (m.Kind==1) then
 (some ((⟨m.Kind,m.From,m.To,m.Ballot,m.Slot,[],(⟨0,0,0,(⟨(⟨0,0⟩:zj),0,0,0,[],[],[]⟩:GOp),0,0,[],(⟨0,(Vector.replicate 8 (default:Int)),(Vector.replicate 8 (default:Int)),(Vector.replicate 8 (default:Int))⟩:z7),0,(Vector.replicate 8 (default:Int)),0,(⟨0,0,0,[]⟩:GPart),0,0,0⟩:z6),0,(Vector.replicate 8 (default:Int)),0,0,[],(⟨0,(Vector.replicate 8 (default:Int)),(Vector.replicate 8 (default:Int)),(Vector.replicate 8 (default:Int))⟩:z7),(⟨0,0,0,[]⟩:GPart)⟩:GMsg),true))
 else
 (bif (m.Kind==2) then
 (some ((⟨m.Kind,m.From,m.To,m.Ballot,m.Slot,m.List_,(⟨0,0,0,(⟨(⟨0,0⟩:zj),0,0,0,[],[],[]⟩:GOp),0,0,[],(⟨0,(Vector.replicate 8 (default:Int)),(Vector.replicate 8 (default:Int)),(Vector.replicate 8 (default:Int))⟩:z7),0,(Vector.replicate 8 (default:Int)),0,(⟨0,0,0,[]⟩:GPart),0,0,0⟩:z6),0,(Vector.replicate 8 (default:Int)),0,0,[],(⟨0,(Vector.replicate 8 (default:Int)),(Vector.replicate 8 (default:Int)),(Vector.replicate 8 (default:Int))⟩:z7),(⟨0,0,0,[]⟩:GPart)⟩:GMsg),true))
 else
 (bif (m.Kind==3) then
 (some ((⟨m.Kind,m.From,m.To,m.Ballot,0,m.List_,(⟨0,0,0,(⟨(⟨0,0⟩:zj),0,0,0,[],[],[]⟩:GOp),0,0,[],(⟨0,(Vector.replicate 8 (default:Int)),(Vector.replicate 8 (default:Int)),(Vector.replicate 8 (default:Int))⟩:z7),0,(Vector.replicate 8 (default:Int)),0,(⟨0,0,0,[]⟩:GPart),0,0,0⟩:z6),0,(Vector.replicate 8 (default:Int)),0,0,[],(⟨0,(Vector.replicate 8 (default:Int)),(Vector.replicate 8 (default:Int)),(Vector.replicate 8 (default:Int))⟩:z7),(⟨0,0,0,[]⟩:GPart)⟩:GMsg),true))
 else
 (bif (m.Kind==5) then
 (some ((⟨m.Kind,m.From,m.To,m.Ballot,0,[],(⟨0,0,0,(⟨(⟨0,0⟩:zj),0,0,0,[],[],[]⟩:GOp),0,0,[],(⟨0,(Vector.replicate 8 (default:Int)),(Vector.replicate 8 (default:Int)),(Vector.replicate 8 (default:Int))⟩:z7),0,(Vector.replicate 8 (default:Int)),0,(⟨0,0,0,[]⟩:GPart),0,0,0⟩:z6),0,(Vector.replicate 8 (default:Int)),0,0,[],(⟨0,(Vector.replicate 8 (default:Int)),(Vector.replicate 8 (default:Int)),(Vector.replicate 8 (default:Int))⟩:z7),(⟨0,0,0,[]⟩:GPart)⟩:GMsg),true))
 else
 (bif (m.Kind==6) then
 (some ((⟨m.Kind,m.From,m.To,(⟨0,0⟩:zc),0,m.List_,(⟨0,0,0,(⟨(⟨0,0⟩:zj),0,0,0,[],[],[]⟩:GOp),0,0,[],(⟨0,(Vector.replicate 8 (default:Int)),(Vector.replicate 8 (default:Int)),(Vector.replicate 8 (default:Int))⟩:z7),0,(Vector.replicate 8 (default:Int)),0,(⟨0,0,0,[]⟩:GPart),0,0,0⟩:z6),0,(Vector.replicate 8 (default:Int)),0,0,[],(⟨0,(Vector.replicate 8 (default:Int)),(Vector.replicate 8 (default:Int)),(Vector.replicate 8 (default:Int))⟩:z7),(⟨0,0,0,[]⟩:GPart)⟩:GMsg),true))
 else
 (bif (m.Kind==8) then
 (some ((⟨m.Kind,m.From,m.To,(⟨0,0⟩:zc),m.Slot,[],(⟨0,0,0,(⟨(⟨0,0⟩:zj),0,0,0,[],[],[]⟩:GOp),0,0,[],(⟨0,(Vector.replicate 8 (default:Int)),(Vector.replicate 8 (default:Int)),(Vector.replicate 8 (default:Int))⟩:z7),0,(Vector.replicate 8 (default:Int)),0,(⟨0,0,0,[]⟩:GPart),0,0,0⟩:z6),0,(Vector.replicate 8 (default:Int)),0,0,[],(⟨0,(Vector.replicate 8 (default:Int)),(Vector.replicate 8 (default:Int)),(Vector.replicate 8 (default:Int))⟩:z7),(⟨0,0,0,[]⟩:GPart)⟩:GMsg),true))
 else
 (bif (m.Kind==9) then
 (some ((⟨m.Kind,m.From,m.To,(⟨0,0⟩:zc),0,[],m.Entry,0,(Vector.replicate 8 (default:Int)),0,0,[],(⟨0,(Vector.replicate 8 (default:Int)),(Vector.replicate 8 (default:Int)),(Vector.replicate 8 (default:Int))⟩:z7),(⟨0,0,0,[]⟩:GPart)⟩:GMsg),true))
 else
 (bif (m.Kind==10) then
 (some ((⟨m.Kind,m.From,m.To,(⟨0,0⟩:zc),0,[],(⟨0,0,0,(⟨(⟨0,0⟩:zj),0,0,0,[],[],[]⟩:GOp),0,0,[],(⟨0,(Vector.replicate 8 (default:Int)),(Vector.replicate 8 (default:Int)),(Vector.replicate 8 (default:Int))⟩:z7),0,(Vector.replicate 8 (default:Int)),0,(⟨0,0,0,[]⟩:GPart),0,0,0⟩:z6),m.Number,m.Vector_,m.Clock,0,[],(⟨0,(Vector.replicate 8 (default:Int)),(Vector.replicate 8 (default:Int)),(Vector.replicate 8 (default:Int))⟩:z7),(⟨0,0,0,[]⟩:GPart)⟩:GMsg),true))
 else
 (bif (m.Kind==11) then
 (some ((⟨m.Kind,m.From,m.To,(⟨0,0⟩:zc),m.Slot,[],(⟨0,0,0,(⟨(⟨0,0⟩:zj),0,0,0,[],[],[]⟩:GOp),0,0,[],(⟨0,(Vector.replicate 8 (default:Int)),(Vector.replicate 8 (default:Int)),(Vector.replicate 8 (default:Int))⟩:z7),0,(Vector.replicate 8 (default:Int)),0,(⟨0,0,0,[]⟩:GPart),0,0,0⟩:z6),m.Number,(Vector.replicate 8 (default:Int)),0,m.Origin,m.Ops,(⟨0,(Vector.replicate 8 (default:Int)),(Vector.replicate 8 (default:Int)),(Vector.replicate 8 (default:Int))⟩:z7),(⟨0,0,0,[]⟩:GPart)⟩:GMsg),true))
 else
 (bif (m.Kind==12) then
 (some ((⟨m.Kind,m.From,m.To,(⟨0,0⟩:zc),0,[],(⟨0,0,0,(⟨(⟨0,0⟩:zj),0,0,0,[],[],[]⟩:GOp),0,0,[],(⟨0,(Vector.replicate 8 (default:Int)),(Vector.replicate 8 (default:Int)),(Vector.replicate 8 (default:Int))⟩:z7),0,(Vector.replicate 8 (default:Int)),0,(⟨0,0,0,[]⟩:GPart),0,0,0⟩:z6),0,(Vector.replicate 8 (default:Int)),0,0,[],m.Epoch,(⟨0,0,0,[]⟩:GPart)⟩:GMsg),true))
 else
 (bif (m.Kind==13) then
 (some ((⟨m.Kind,m.From,m.To,(⟨0,0⟩:zc),0,[],(⟨0,0,0,(⟨(⟨0,0⟩:zj),0,0,0,[],[],[]⟩:GOp),0,0,[],(⟨0,(Vector.replicate 8 (default:Int)),(Vector.replicate 8 (default:Int)),(Vector.replicate 8 (default:Int))⟩:z7),0,(Vector.replicate 8 (default:Int)),0,(⟨0,0,0,[]⟩:GPart),0,0,0⟩:z6),0,(Vector.replicate 8 (default:Int)),0,0,[],(⟨0,(Vector.replicate 8 (default:Int)),(Vector.replicate 8 (default:Int)),(Vector.replicate 8 (default:Int))⟩:z7),m.Part⟩:GMsg),true))
 else
 (bif (m.Kind==14) then
 (some ((⟨m.Kind,m.From,m.To,(⟨0,0⟩:zc),0,[],(⟨0,0,0,(⟨(⟨0,0⟩:zj),0,0,0,[],[],[]⟩:GOp),0,0,[],(⟨0,(Vector.replicate 8 (default:Int)),(Vector.replicate 8 (default:Int)),(Vector.replicate 8 (default:Int))⟩:z7),0,(Vector.replicate 8 (default:Int)),0,(⟨0,0,0,[]⟩:GPart),0,0,0⟩:z6),m.Number,m.Vector_,0,0,[],(⟨0,(Vector.replicate 8 (default:Int)),(Vector.replicate 8 (default:Int)),(Vector.replicate 8 (default:Int))⟩:z7),(⟨0,0,0,[]⟩:GPart)⟩:GMsg),true))
 else
 (bif (m.Kind==15) then
 (some ((⟨m.Kind,m.From,m.To,(⟨0,0⟩:zc),m.Slot,[],(⟨0,0,0,(⟨(⟨0,0⟩:zj),0,0,0,[],[],[]⟩:GOp),0,0,[],(⟨0,(Vector.replicate 8 (default:Int)),(Vector.replicate 8 (default:Int)),(Vector.replicate 8 (default:Int))⟩:z7),0,(Vector.replicate 8 (default:Int)),0,(⟨0,0,0,[]⟩:GPart),0,0,0⟩:z6),0,(Vector.replicate 8 (default:Int)),0,0,[],(⟨0,(Vector.replicate 8 (default:Int)),(Vector.replicate 8 (default:Int)),(Vector.replicate 8 (default:Int))⟩:z7),m.Part⟩:GMsg),true))
 else
 (some ((⟨m.Kind,m.From,m.To,(⟨0,0⟩:zc),0,[],(⟨0,0,0,(⟨(⟨0,0⟩:zj),0,0,0,[],[],[]⟩:GOp),0,0,[],(⟨0,(Vector.replicate 8 (default:Int)),(Vector.replicate 8 (default:Int)),(Vector.replicate 8 (default:Int))⟩:z7),0,(Vector.replicate 8 (default:Int)),0,(⟨0,0,0,[]⟩:GPart),0,0,0⟩:z6),0,(Vector.replicate 8 (default:Int)),0,0,[],(⟨0,(Vector.replicate 8 (default:Int)),(Vector.replicate 8 (default:Int)),(Vector.replicate 8 (default:Int))⟩:z7),(⟨0,0,0,[]⟩:GPart)⟩:GMsg),false)))))))))))))))
 else
 (bif (m.Kind==4) then
 (bif (m.Kind==4) then
 (some ((⟨m.Kind,m.From,m.To,m.Ballot,m.Slot,[],(⟨0,0,0,(⟨(⟨0,0⟩:zj),0,0,0,[],[],[]⟩:GOp),0,0,[],(⟨0,(Vector.replicate 8 (default:Int)),(Vector.replicate 8 (default:Int)),(Vector.replicate 8 (default:Int))⟩:z7),0,(Vector.replicate 8 (default:Int)),0,(⟨0,0,0,[]⟩:GPart),0,0,0⟩:z6),0,(Vector.replicate 8 (default:Int)),0,0,[],(⟨0,(Vector.replicate 8 (default:Int)),(Vector.replicate 8 (default:Int)),(Vector.replicate 8 (default:Int))⟩:z7),(⟨0,0,0,[]⟩:GPart)⟩:GMsg),true))
 else
 (bif (m.Kind==2) then
 (some ((⟨m.Kind,m.From,m.To,m.Ballot,m.Slot,m.List_,(⟨0,0,0,(⟨(⟨0,0⟩:zj),0,0,0,[],[],[]⟩:GOp),0,0,[],(⟨0,(Vector.replicate 8 (default:Int)),(Vector.replicate 8 (default:Int)),(Vector.replicate 8 (default:Int))⟩:z7),0,(Vector.replicate 8 (default:Int)),0,(⟨0,0,0,[]⟩:GPart),0,0,0⟩:z6),0,(Vector.replicate 8 (default:Int)),0,0,[],(⟨0,(Vector.replicate 8 (default:Int)),(Vector.replicate 8 (default:Int)),(Vector.replicate 8 (default:Int))⟩:z7),(⟨0,0,0,[]⟩:GPart)⟩:GMsg),true))
 else
 (bif (m.Kind==3) then
 (some ((⟨m.Kind,m.From,m.To,m.Ballot,0,m.List_,(⟨0,0,0,(⟨(⟨0,0⟩:zj),0,0,0,[],[],[]⟩:GOp),0,0,[],(⟨0,(Vector.replicate 8 (default:Int)),(Vector.replicate 8 (default:Int)),(Vector.replicate 8 (default:Int))⟩:z7),0,(Vector.replicate 8 (default:Int)),0,(⟨0,0,0,[]⟩:GPart),0,0,0⟩:z6),0,(Vector.replicate 8 (default:Int)),0,0,[],(⟨0,(Vector.replicate 8 (default:Int)),(Vector.replicate 8 (default:Int)),(Vector.replicate 8 (default:Int))⟩:z7),(⟨0,0,0,[]⟩:GPart)⟩:GMsg),true))
 else
 (bif (m.Kind==5) then
 (some ((⟨m.Kind,m.From,m.To,m.Ballot,0,[],(⟨0,0,0,(⟨(⟨0,0⟩:zj),0,0,0,[],[],[]⟩:GOp),0,0,[],(⟨0,(Vector.replicate 8 (default:Int)),(Vector.replicate 8 (default:Int)),(Vector.replicate 8 (default:Int))⟩:z7),0,(Vector.replicate 8 (default:Int)),0,(⟨0,0,0,[]⟩:GPart),0,0,0⟩:z6),0,(Vector.replicate 8 (default:Int)),0,0,[],(⟨0,(Vector.replicate 8 (default:Int)),(Vector.replicate 8 (default:Int)),(Vector.replicate 8 (default:Int))⟩:z7),(⟨0,0,0,[]⟩:GPart)⟩:GMsg),true))
 else
 (bif (m.Kind==6) then
 (some ((⟨m.Kind,m.From,m.To,(⟨0,0⟩:zc),0,m.List_,(⟨0,0,0,(⟨(⟨0,0⟩:zj),0,0,0,[],[],[]⟩:GOp),0,0,[],(⟨0,(Vector.replicate 8 (default:Int)),(Vector.replicate 8 (default:Int)),(Vector.replicate 8 (default:Int))⟩:z7),0,(Vector.replicate 8 (default:Int)),0,(⟨0,0,0,[]⟩:GPart),0,0,0⟩:z6),0,(Vector.replicate 8 (default:Int)),0,0,[],(⟨0,(Vector.replicate 8 (default:Int)),(Vector.replicate 8 (default:Int)),(Vector.replicate 8 (default:Int))⟩:z7),(⟨0,0,0,[]⟩:GPart)⟩:GMsg),true))
 else
 (bif (m.Kind==8) then
 (some ((⟨m.Kind,m.From,m.To,(⟨0,0⟩:zc),m.Slot,[],(⟨0,0,0,(⟨(⟨0,0⟩:zj),0,0,0,[],[],[]⟩:GOp),0,0,[],(⟨0,(Vector.replicate 8 (default:Int)),(Vector.replicate 8 (default:Int)),(Vector.replicate 8 (default:Int))⟩:z7),0,(Vector.replicate 8 (default:Int)),0,(⟨0,0,0,[]⟩:GPart),0,0,0⟩:z6),0,(Vector.replicate 8 (default:Int)),0,0,[],(⟨0,(Vector.replicate 8 (default:Int)),(Vector.replicate 8 (default:Int)),(Vector.replicate 8 (default:Int))⟩:z7),(⟨0,0,0,[]⟩:GPart)⟩:GMsg),true))
 else
 (bif (m.Kind==9) then
 (some ((⟨m.Kind,m.From,m.To,(⟨0,0⟩:zc),0,[],m.Entry,0,(Vector.replicate 8 (default:Int)),0,0,[],(⟨0,(Vector.replicate 8 (default:Int)),(Vector.replicate 8 (default:Int)),(Vector.replicate 8 (default:Int))⟩:z7),(⟨0,0,0,[]⟩:GPart)⟩:GMsg),true))
 else
 (bif (m.Kind==10) then
 (some ((⟨m.Kind,m.From,m.To,(⟨0,0⟩:zc),0,[],(⟨0,0,0,(⟨(⟨0,0⟩:zj),0,0,0,[],[],[]⟩:GOp),0,0,[],(⟨0,(Vector.replicate 8 (default:Int)),(Vector.replicate 8 (default:Int)),(Vector.replicate 8 (default:Int))⟩:z7),0,(Vector.replicate 8 (default:Int)),0,(⟨0,0,0,[]⟩:GPart),0,0,0⟩:z6),m.Number,m.Vector_,m.Clock,0,[],(⟨0,(Vector.replicate 8 (default:Int)),(Vector.replicate 8 (default:Int)),(Vector.replicate 8 (default:Int))⟩:z7),(⟨0,0,0,[]⟩:GPart)⟩:GMsg),true))
 else
 (bif (m.Kind==11) then
 (some ((⟨m.Kind,m.From,m.To,(⟨0,0⟩:zc),m.Slot,[],(⟨0,0,0,(⟨(⟨0,0⟩:zj),0,0,0,[],[],[]⟩:GOp),0,0,[],(⟨0,(Vector.replicate 8 (default:Int)),(Vector.replicate 8 (default:Int)),(Vector.replicate 8 (default:Int))⟩:z7),0,(Vector.replicate 8 (default:Int)),0,(⟨0,0,0,[]⟩:GPart),0,0,0⟩:z6),m.Number,(Vector.replicate 8 (default:Int)),0,m.Origin,m.Ops,(⟨0,(Vector.replicate 8 (default:Int)),(Vector.replicate 8 (default:Int)),(Vector.replicate 8 (default:Int))⟩:z7),(⟨0,0,0,[]⟩:GPart)⟩:GMsg),true))
 else
 (bif (m.Kind==12) then
 (some ((⟨m.Kind,m.From,m.To,(⟨0,0⟩:zc),0,[],(⟨0,0,0,(⟨(⟨0,0⟩:zj),0,0,0,[],[],[]⟩:GOp),0,0,[],(⟨0,(Vector.replicate 8 (default:Int)),(Vector.replicate 8 (default:Int)),(Vector.replicate 8 (default:Int))⟩:z7),0,(Vector.replicate 8 (default:Int)),0,(⟨0,0,0,[]⟩:GPart),0,0,0⟩:z6),0,(Vector.replicate 8 (default:Int)),0,0,[],m.Epoch,(⟨0,0,0,[]⟩:GPart)⟩:GMsg),true))
 else
 (bif (m.Kind==13) then
 (some ((⟨m.Kind,m.From,m.To,(⟨0,0⟩:zc),0,[],(⟨0,0,0,(⟨(⟨0,0⟩:zj),0,0,0,[],[],[]⟩:GOp),0,0,[],(⟨0,(Vector.replicate 8 (default:Int)),(Vector.replicate 8 (default:Int)),(Vector.replicate 8 (default:Int))⟩:z7),0,(Vector.replicate 8 (default:Int)),0,(⟨0,0,0,[]⟩:GPart),0,0,0⟩:z6),0,(Vector.replicate 8 (default:Int)),0,0,[],(⟨0,(Vector.replicate 8 (default:Int)),(Vector.replicate 8 (default:Int)),(Vector.replicate 8 (default:Int))⟩:z7),m.Part⟩:GMsg),true))
 else
 (bif (m.Kind==14) then
 (some ((⟨m.Kind,m.From,m.To,(⟨0,0⟩:zc),0,[],(⟨0,0,0,(⟨(⟨0,0⟩:zj),0,0,0,[],[],[]⟩:GOp),0,0,[],(⟨0,(Vector.replicate 8 (default:Int)),(Vector.replicate 8 (default:Int)),(Vector.replicate 8 (default:Int))⟩:z7),0,(Vector.replicate 8 (default:Int)),0,(⟨0,0,0,[]⟩:GPart),0,0,0⟩:z6),m.Number,m.Vector_,0,0,[],(⟨0,(Vector.replicate 8 (default:Int)),(Vector.replicate 8 (default:Int)),(Vector.replicate 8 (default:Int))⟩:z7),(⟨0,0,0,[]⟩:GPart)⟩:GMsg),true))
 else
 (bif (m.Kind==15) then
 (some ((⟨m.Kind,m.From,m.To,(⟨0,0⟩:zc),m.Slot,[],(⟨0,0,0,(⟨(⟨0,0⟩:zj),0,0,0,[],[],[]⟩:GOp),0,0,[],(⟨0,(Vector.replicate 8 (default:Int)),(Vector.replicate 8 (default:Int)),(Vector.replicate 8 (default:Int))⟩:z7),0,(Vector.replicate 8 (default:Int)),0,(⟨0,0,0,[]⟩:GPart),0,0,0⟩:z6),0,(Vector.replicate 8 (default:Int)),0,0,[],(⟨0,(Vector.replicate 8 (default:Int)),(Vector.replicate 8 (default:Int)),(Vector.replicate 8 (default:Int))⟩:z7),m.Part⟩:GMsg),true))
 else
 (some ((⟨m.Kind,m.From,m.To,(⟨0,0⟩:zc),0,[],(⟨0,0,0,(⟨(⟨0,0⟩:zj),0,0,0,[],[],[]⟩:GOp),0,0,[],(⟨0,(Vector.replicate 8 (default:Int)),(Vector.replicate 8 (default:Int)),(Vector.replicate 8 (default:Int))⟩:z7),0,(Vector.replicate 8 (default:Int)),0,(⟨0,0,0,[]⟩:GPart),0,0,0⟩:z6),0,(Vector.replicate 8 (default:Int)),0,0,[],(⟨0,(Vector.replicate 8 (default:Int)),(Vector.replicate 8 (default:Int)),(Vector.replicate 8 (default:Int))⟩:z7),(⟨0,0,0,[]⟩:GPart)⟩:GMsg),false)))))))))))))))
 else
 (bif (m.Kind==7) then
 (some ((⟨m.Kind,m.From,m.To,m.Ballot,m.Slot,[],(⟨0,0,0,(⟨(⟨0,0⟩:zj),0,0,0,[],[],[]⟩:GOp),0,0,[],(⟨0,(Vector.replicate 8 (default:Int)),(Vector.replicate 8 (default:Int)),(Vector.replicate 8 (default:Int))⟩:z7),0,(Vector.replicate 8 (default:Int)),0,(⟨0,0,0,[]⟩:GPart),0,0,0⟩:z6),0,(Vector.replicate 8 (default:Int)),0,0,[],(⟨0,(Vector.replicate 8 (default:Int)),(Vector.replicate 8 (default:Int)),(Vector.replicate 8 (default:Int))⟩:z7),(⟨0,0,0,[]⟩:GPart)⟩:GMsg),true))
 else
 (bif (m.Kind==2) then
 (some ((⟨m.Kind,m.From,m.To,m.Ballot,m.Slot,m.List_,(⟨0,0,0,(⟨(⟨0,0⟩:zj),0,0,0,[],[],[]⟩:GOp),0,0,[],(⟨0,(Vector.replicate 8 (default:Int)),(Vector.replicate 8 (default:Int)),(Vector.replicate 8 (default:Int))⟩:z7),0,(Vector.replicate 8 (default:Int)),0,(⟨0,0,0,[]⟩:GPart),0,0,0⟩:z6),0,(Vector.replicate 8 (default:Int)),0,0,[],(⟨0,(Vector.replicate 8 (default:Int)),(Vector.replicate 8 (default:Int)),(Vector.replicate 8 (default:Int))⟩:z7),(⟨0,0,0,[]⟩:GPart)⟩:GMsg),true))
 else
 (bif (m.Kind==3) then
 (some ((⟨m.Kind,m.From,m.To,m.Ballot,0,m.List_,(⟨0,0,0,(⟨(⟨0,0⟩:zj),0,0,0,[],[],[]⟩:GOp),0,0,[],(⟨0,(Vector.replicate 8 (default:Int)),(Vector.replicate 8 (default:Int)),(Vector.replicate 8 (default:Int))⟩:z7),0,(Vector.replicate 8 (default:Int)),0,(⟨0,0,0,[]⟩:GPart),0,0,0⟩:z6),0,(Vector.replicate 8 (default:Int)),0,0,[],(⟨0,(Vector.replicate 8 (default:Int)),(Vector.replicate 8 (default:Int)),(Vector.replicate 8 (default:Int))⟩:z7),(⟨0,0,0,[]⟩:GPart)⟩:GMsg),true))
 else
 (bif (m.Kind==5) then
 (some ((⟨m.Kind,m.From,m.To,m.Ballot,0,[],(⟨0,0,0,(⟨(⟨0,0⟩:zj),0,0,0,[],[],[]⟩:GOp),0,0,[],(⟨0,(Vector.replicate 8 (default:Int)),(Vector.replicate 8 (default:Int)),(Vector.replicate 8 (default:Int))⟩:z7),0,(Vector.replicate 8 (default:Int)),0,(⟨0,0,0,[]⟩:GPart),0,0,0⟩:z6),0,(Vector.replicate 8 (default:Int)),0,0,[],(⟨0,(Vector.replicate 8 (default:Int)),(Vector.replicate 8 (default:Int)),(Vector.replicate 8 (default:Int))⟩:z7),(⟨0,0,0,[]⟩:GPart)⟩:GMsg),true))
 else
 (bif (m.Kind==6) then
 (some ((⟨m.Kind,m.From,m.To,(⟨0,0⟩:zc),0,m.List_,(⟨0,0,0,(⟨(⟨0,0⟩:zj),0,0,0,[],[],[]⟩:GOp),0,0,[],(⟨0,(Vector.replicate 8 (default:Int)),(Vector.replicate 8 (default:Int)),(Vector.replicate 8 (default:Int))⟩:z7),0,(Vector.replicate 8 (default:Int)),0,(⟨0,0,0,[]⟩:GPart),0,0,0⟩:z6),0,(Vector.replicate 8 (default:Int)),0,0,[],(⟨0,(Vector.replicate 8 (default:Int)),(Vector.replicate 8 (default:Int)),(Vector.replicate 8 (default:Int))⟩:z7),(⟨0,0,0,[]⟩:GPart)⟩:GMsg),true))
 else
 (bif (m.Kind==8) then
 (some ((⟨m.Kind,m.From,m.To,(⟨0,0⟩:zc),m.Slot,[],(⟨0,0,0,(⟨(⟨0,0⟩:zj),0,0,0,[],[],[]⟩:GOp),0,0,[],(⟨0,(Vector.replicate 8 (default:Int)),(Vector.replicate 8 (default:Int)),(Vector.replicate 8 (default:Int))⟩:z7),0,(Vector.replicate 8 (default:Int)),0,(⟨0,0,0,[]⟩:GPart),0,0,0⟩:z6),0,(Vector.replicate 8 (default:Int)),0,0,[],(⟨0,(Vector.replicate 8 (default:Int)),(Vector.replicate 8 (default:Int)),(Vector.replicate 8 (default:Int))⟩:z7),(⟨0,0,0,[]⟩:GPart)⟩:GMsg),true))
 else
 (bif (m.Kind==9) then
 (some ((⟨m.Kind,m.From,m.To,(⟨0,0⟩:zc),0,[],m.Entry,0,(Vector.replicate 8 (default:Int)),0,0,[],(⟨0,(Vector.replicate 8 (default:Int)),(Vector.replicate 8 (default:Int)),(Vector.replicate 8 (default:Int))⟩:z7),(⟨0,0,0,[]⟩:GPart)⟩:GMsg),true))
 else
 (bif (m.Kind==10) then
 (some ((⟨m.Kind,m.From,m.To,(⟨0,0⟩:zc),0,[],(⟨0,0,0,(⟨(⟨0,0⟩:zj),0,0,0,[],[],[]⟩:GOp),0,0,[],(⟨0,(Vector.replicate 8 (default:Int)),(Vector.replicate 8 (default:Int)),(Vector.replicate 8 (default:Int))⟩:z7),0,(Vector.replicate 8 (default:Int)),0,(⟨0,0,0,[]⟩:GPart),0,0,0⟩:z6),m.Number,m.Vector_,m.Clock,0,[],(⟨0,(Vector.replicate 8 (default:Int)),(Vector.replicate 8 (default:Int)),(Vector.replicate 8 (default:Int))⟩:z7),(⟨0,0,0,[]⟩:GPart)⟩:GMsg),true))
 else
 (bif (m.Kind==11) then
 (some ((⟨m.Kind,m.From,m.To,(⟨0,0⟩:zc),m.Slot,[],(⟨0,0,0,(⟨(⟨0,0⟩:zj),0,0,0,[],[],[]⟩:GOp),0,0,[],(⟨0,(Vector.replicate 8 (default:Int)),(Vector.replicate 8 (default:Int)),(Vector.replicate 8 (default:Int))⟩:z7),0,(Vector.replicate 8 (default:Int)),0,(⟨0,0,0,[]⟩:GPart),0,0,0⟩:z6),m.Number,(Vector.replicate 8 (default:Int)),0,m.Origin,m.Ops,(⟨0,(Vector.replicate 8 (default:Int)),(Vector.replicate 8 (default:Int)),(Vector.replicate 8 (default:Int))⟩:z7),(⟨0,0,0,[]⟩:GPart)⟩:GMsg),true))
 else
 (bif (m.Kind==12) then
 (some ((⟨m.Kind,m.From,m.To,(⟨0,0⟩:zc),0,[],(⟨0,0,0,(⟨(⟨0,0⟩:zj),0,0,0,[],[],[]⟩:GOp),0,0,[],(⟨0,(Vector.replicate 8 (default:Int)),(Vector.replicate 8 (default:Int)),(Vector.replicate 8 (default:Int))⟩:z7),0,(Vector.replicate 8 (default:Int)),0,(⟨0,0,0,[]⟩:GPart),0,0,0⟩:z6),0,(Vector.replicate 8 (default:Int)),0,0,[],m.Epoch,(⟨0,0,0,[]⟩:GPart)⟩:GMsg),true))
 else
 (bif (m.Kind==13) then
 (some ((⟨m.Kind,m.From,m.To,(⟨0,0⟩:zc),0,[],(⟨0,0,0,(⟨(⟨0,0⟩:zj),0,0,0,[],[],[]⟩:GOp),0,0,[],(⟨0,(Vector.replicate 8 (default:Int)),(Vector.replicate 8 (default:Int)),(Vector.replicate 8 (default:Int))⟩:z7),0,(Vector.replicate 8 (default:Int)),0,(⟨0,0,0,[]⟩:GPart),0,0,0⟩:z6),0,(Vector.replicate 8 (default:Int)),0,0,[],(⟨0,(Vector.replicate 8 (default:Int)),(Vector.replicate 8 (default:Int)),(Vector.replicate 8 (default:Int))⟩:z7),m.Part⟩:GMsg),true))
 else
 (bif (m.Kind==14) then
 (some ((⟨m.Kind,m.From,m.To,(⟨0,0⟩:zc),0,[],(⟨0,0,0,(⟨(⟨0,0⟩:zj),0,0,0,[],[],[]⟩:GOp),0,0,[],(⟨0,(Vector.replicate 8 (default:Int)),(Vector.replicate 8 (default:Int)),(Vector.replicate 8 (default:Int))⟩:z7),0,(Vector.replicate 8 (default:Int)),0,(⟨0,0,0,[]⟩:GPart),0,0,0⟩:z6),m.Number,m.Vector_,0,0,[],(⟨0,(Vector.replicate 8 (default:Int)),(Vector.replicate 8 (default:Int)),(Vector.replicate 8 (default:Int))⟩:z7),(⟨0,0,0,[]⟩:GPart)⟩:GMsg),true))
 else
 (bif (m.Kind==15) then
 (some ((⟨m.Kind,m.From,m.To,(⟨0,0⟩:zc),m.Slot,[],(⟨0,0,0,(⟨(⟨0,0⟩:zj),0,0,0,[],[],[]⟩:GOp),0,0,[],(⟨0,(Vector.replicate 8 (default:Int)),(Vector.replicate 8 (default:Int)),(Vector.replicate 8 (default:Int))⟩:z7),0,(Vector.replicate 8 (default:Int)),0,(⟨0,0,0,[]⟩:GPart),0,0,0⟩:z6),0,(Vector.replicate 8 (default:Int)),0,0,[],(⟨0,(Vector.replicate 8 (default:Int)),(Vector.replicate 8 (default:Int)),(Vector.replicate 8 (default:Int))⟩:z7),m.Part⟩:GMsg),true))
 else
 (some ((⟨m.Kind,m.From,m.To,(⟨0,0⟩:zc),0,[],(⟨0,0,0,(⟨(⟨0,0⟩:zj),0,0,0,[],[],[]⟩:GOp),0,0,[],(⟨0,(Vector.replicate 8 (default:Int)),(Vector.replicate 8 (default:Int)),(Vector.replicate 8 (default:Int))⟩:z7),0,(Vector.replicate 8 (default:Int)),0,(⟨0,0,0,[]⟩:GPart),0,0,0⟩:z6),0,(Vector.replicate 8 (default:Int)),0,0,[],(⟨0,(Vector.replicate 8 (default:Int)),(Vector.replicate 8 (default:Int)),(Vector.replicate 8 (default:Int))⟩:z7),(⟨0,0,0,[]⟩:GPart)⟩:GMsg),false)))))))))))))))))
def zih:Con τ:={ args:=[.ty 71],L:=[],ret:=.tup [.ty 71,.ty 4],L':=[],R:=GMsg×Bool,dflt:=(default,default),F:=fun N a b=>zdy N a.1,of:=fun r=>((r.1,r.2,()),()) }
noncomputable def zwt:Dat τ:={ D:=D0,tbl:=tblOf [],lp:=lpsOf [],k0:=0,mu:=[],un:=[] }
theorem zyo:ConOk E C 84 zih :=
  zg (D:=zwt) ⟨d0Ok,eGood,z9 trivial,fun _=>rfl⟩ zih (fun a b=>(a.1,a.2.1)) none (fun _ _=>rfl) rfl (fun _ _ h=>nomatch h) 1000000 (fn:=Tryz.f84) Tryz.func84 rfl (by kernel_rfl) (by kernel_rfl) rfl (by intro N a b; kernel_rfl)
def z6q (N:Nat) (a:zd) (b:zd):Option (Bool) :=
 ((bif ((a.Slot==b.Slot)&&((a.Ballot.Round==b.Ballot.Round)&&(a.Ballot.Replica==b.Ballot.Replica))) then z19 N a.Entry b.Entry else some default).bind fun r1 =>
 (some (((a.Slot==b.Slot)&&((a.Ballot.Round==b.Ballot.Round)&&(a.Ballot.Replica==b.Ballot.Replica)))&&r1)))
def za7:Con τ:={ args:=[.ty 178,.ty 178],L:=[],ret:=.ty 4,L':=[],R:=Bool,dflt:=default,F:=fun N a b=>z6q N a.1 a.2.1,of:=fun r=>(r,()) }
noncomputable def zof:Dat τ:={ D:=D0,tbl:=tblOf [(31,z6u)],lp:=lpsOf [],k0:=0,mu:=[],un:=[] }
theorem zpc:ConOk E C 133 za7 :=
  zg (D:=zof) ⟨d0Ok,eGood,z9 ⟨zdl,trivial⟩,fun _=>rfl⟩ za7 (fun a b=>a) none (fun _ _=>rfl) rfl (fun _ _ h=>nomatch h) 1000000 (fn:=Tryz.f133) Tryz.func133 rfl (by kernel_rfl) (by kernel_rfl) rfl (by intro N a b; kernel_rfl)
structure z58 where
  i:Int
def zbt:List Sl:=[.k,.k,.k,.k,.j,.sh (.ty 2),.k,.k,.k,.k,.k,.j,.j,.j,.j,.j,.j,.j,.j,.j,.j,.j,.j,.j,.j,.j,.j]
def zbu:List ESh:=[]
def zqo (a:Sl.Ts τ zbt) (b:ESh.Ts τ zbu):z58:=⟨a.2.2.2.2.2.1⟩
def zqp (s:z58):Sl.Ts τ zbt:=((),(),(),(),(),s.i,(),(),(),(),(),(),(),(),(),(),(),(),(),(),(),(),(),(),(),(),(),())
def zqq (s:z58):ESh.Ts τ zbu:=()
def zqr:Lp τ:={ ts:=zbt,hs:=zbu,S:=z58,to:=zqo,ot:=zqp,oh:=zqq,hk:=[],tk:=[],ot_to:=fun _ _=>rfl,oh_to:=fun _ _=>rfl }
def zbv (N:Nat) (a:List (zd)) (b:List (zd)):Option (Bool) :=
 (bif (!(((a).length:Int)==((b).length:Int))) then
 (some false)
 else
 (iter N (fun (s1:z58) next2 =>
 (bif (decide (s1.i < ((a).length:Int))) then
 (bif (ibB s1.i ((a).length:Int)) then
 (bif (ibB s1.i ((b).length:Int)) then
 ((z6q N (⟨(lget a s1.i default).Slot,((lget a s1.i default).Ballot),(⟨((lget a s1.i default).Entry).Kind,((lget a s1.i default).Entry).Session,((lget a s1.i default).Entry).Request,(⟨((((lget a s1.i default).Entry).Op).Stamp),(((lget a s1.i default).Entry).Op).Kind,(((lget a s1.i default).Entry).Op).Node,(((lget a s1.i default).Entry).Op).Parent,(((lget a s1.i default).Entry).Op).Name,(((lget a s1.i default).Entry).Op).Key,(((lget a s1.i default).Entry).Op).Value⟩:GOp),((lget a s1.i default).Entry).Origin,((lget a s1.i default).Entry).Seq,((lget a s1.i default).Entry).Ops,(((lget a s1.i default).Entry).Epoch),((lget a s1.i default).Entry).From,((lget a s1.i default).Entry).Vector_,((lget a s1.i default).Entry).Clock,(((lget a s1.i default).Entry).Part),((lget a s1.i default).Entry).Site,((lget a s1.i default).Entry).Sponsor,((lget a s1.i default).Entry).Length⟩:z6)⟩:zd) (⟨(lget b s1.i default).Slot,((lget b s1.i default).Ballot),(⟨((lget b s1.i default).Entry).Kind,((lget b s1.i default).Entry).Session,((lget b s1.i default).Entry).Request,(⟨((((lget b s1.i default).Entry).Op).Stamp),(((lget b s1.i default).Entry).Op).Kind,(((lget b s1.i default).Entry).Op).Node,(((lget b s1.i default).Entry).Op).Parent,(((lget b s1.i default).Entry).Op).Name,(((lget b s1.i default).Entry).Op).Key,(((lget b s1.i default).Entry).Op).Value⟩:GOp),((lget b s1.i default).Entry).Origin,((lget b s1.i default).Entry).Seq,((lget b s1.i default).Entry).Ops,(((lget b s1.i default).Entry).Epoch),((lget b s1.i default).Entry).From,((lget b s1.i default).Entry).Vector_,((lget b s1.i default).Entry).Clock,(((lget b s1.i default).Entry).Part),((lget b s1.i default).Entry).Site,((lget b s1.i default).Entry).Sponsor,((lget b s1.i default).Entry).Length⟩:z6)⟩:zd)).bind fun r3 =>
 (bif (!r3) then
 (some false)
 else
 (next2 ⟨(IntKind.i64.wrap (s1.i + 1))⟩)))
 else none)
 else none)
 else
 (some true))) ⟨0⟩))
def zde:Con τ:={ args:=[.ty 69,.ty 69],L:=[],ret:=.ty 4,L':=[],R:=Bool,dflt:=default,F:=fun N a b=>zbv N a.1 a.2.1,of:=fun r=>(r,()) }
noncomputable def zs5:Dat τ:={ D:=D0,tbl:=tblOf [(133,za7)],lp:=lpsOf [(4,zqr)],k0:=0,mu:=[],un:=[] }
theorem ztn:ConOk E C 83 zde :=
  zg (D:=zs5) ⟨d0Ok,eGood,z9 ⟨zpc,trivial⟩,fun _=>rfl⟩ zde (fun a b=>a) none (fun _ _=>rfl) rfl (fun _ _ h=>nomatch h) 1000000 (fn:=Tryz.f83) Tryz.func83 rfl (by kernel_rfl) (by kernel_rfl) rfl (by intro N a b; kernel_rfl)
def z72 (N:Nat) (a:GMsg) (b:GMsg):Option (Bool) :=
 ((bif (((((a.Kind==b.Kind)&&((a.From.Group==b.From.Group)&&(a.From.Replica==b.From.Replica)))&&((a.To.Group==b.To.Group)&&(a.To.Replica==b.To.Replica)))&&((a.Ballot.Round==b.Ballot.Round)&&(a.Ballot.Replica==b.Ballot.Replica)))&&(a.Slot==b.Slot)) then zbv N a.List_ b.List_ else some default).bind fun r1 =>
 ((bif ((((((a.Kind==b.Kind)&&((a.From.Group==b.From.Group)&&(a.From.Replica==b.From.Replica)))&&((a.To.Group==b.To.Group)&&(a.To.Replica==b.To.Replica)))&&((a.Ballot.Round==b.Ballot.Round)&&(a.Ballot.Replica==b.Ballot.Replica)))&&(a.Slot==b.Slot))&&r1) then z19 N a.Entry b.Entry else some default).bind fun r2 =>
 ((bif (((((((((((a.Kind==b.Kind)&&((a.From.Group==b.From.Group)&&(a.From.Replica==b.From.Replica)))&&((a.To.Group==b.To.Group)&&(a.To.Replica==b.To.Replica)))&&((a.Ballot.Round==b.Ballot.Round)&&(a.Ballot.Replica==b.Ballot.Replica)))&&(a.Slot==b.Slot))&&r1)&&r2)&&(a.Number==b.Number))&&(vbeq beq2 a.Vector_ b.Vector_))&&(a.Clock==b.Clock))&&(a.Origin==b.Origin)) then zat N a.Ops b.Ops else some default).bind fun r3 =>
 ((bif (((((((((((((a.Kind==b.Kind)&&((a.From.Group==b.From.Group)&&(a.From.Replica==b.From.Replica)))&&((a.To.Group==b.To.Group)&&(a.To.Replica==b.To.Replica)))&&((a.Ballot.Round==b.Ballot.Round)&&(a.Ballot.Replica==b.Ballot.Replica)))&&(a.Slot==b.Slot))&&r1)&&r2)&&(a.Number==b.Number))&&(vbeq beq2 a.Vector_ b.Vector_))&&(a.Clock==b.Clock))&&(a.Origin==b.Origin))&&r3)&&((a.Epoch.Number==b.Epoch.Number)&&((vbeq beq3 a.Epoch.States b.Epoch.States)&&((vbeq beq2 a.Epoch.Seals b.Epoch.Seals)&&(vbeq beq3 a.Epoch.Sponsor b.Epoch.Sponsor))))) then z9k N a.Part b.Part else some default).bind fun r4 =>
 (some ((((((((((((((a.Kind==b.Kind)&&((a.From.Group==b.From.Group)&&(a.From.Replica==b.From.Replica)))&&((a.To.Group==b.To.Group)&&(a.To.Replica==b.To.Replica)))&&((a.Ballot.Round==b.Ballot.Round)&&(a.Ballot.Replica==b.Ballot.Replica)))&&(a.Slot==b.Slot))&&r1)&&r2)&&(a.Number==b.Number))&&(vbeq beq2 a.Vector_ b.Vector_))&&(a.Clock==b.Clock))&&(a.Origin==b.Origin))&&r3)&&((a.Epoch.Number==b.Epoch.Number)&&((vbeq beq3 a.Epoch.States b.Epoch.States)&&((vbeq beq2 a.Epoch.Seals b.Epoch.Seals)&&(vbeq beq3 a.Epoch.Sponsor b.Epoch.Sponsor)))))&&r4))))))
def zau:Con τ:={ args:=[.ty 71,.ty 71],L:=[],ret:=.ty 4,L':=[],R:=Bool,dflt:=default,F:=fun N a b=>z72 N a.1 a.2.1,of:=fun r=>(r,()) }
noncomputable def zto:Dat τ:={ D:=D0,tbl:=tblOf [(83,zde),(31,z6u),(75,zax),(76,z9x)],lp:=lpsOf [],k0:=0,mu:=[],un:=[] }
theorem zn9:ConOk E C 34 zau :=
  zg (D:=zto) ⟨d0Ok,eGood,z9 ⟨ztn,⟨zdl,⟨znj,⟨zmj,trivial⟩⟩⟩⟩,fun _=>rfl⟩ zau (fun a b=>a) none (fun _ _=>rfl) rfl (fun _ _ h=>nomatch h) 1000000 (fn:=Tryz.f34) Tryz.func34 rfl (by kernel_rfl) (by kernel_rfl) rfl (by intro N a b; kernel_rfl)
def zac (N:Nat) (a:GAddr):Option (Bool) :=
 (some ((((decide (0≤a.Group))&&(decide (a.Group < 9)))&&(decide (0≤a.Replica)))&&(decide (a.Replica < 5))))
def ze9:Con τ:={ args:=[.ty 66],L:=[],ret:=.ty 4,L':=[],R:=Bool,dflt:=default,F:=fun N a b=>zac N a.1,of:=fun r=>(r,()) }
noncomputable def ztp:Dat τ:={ D:=D0,tbl:=tblOf [],lp:=lpsOf [],k0:=0,mu:=[],un:=[] }
theorem zux:ConOk E C 85 ze9 :=
  zg (D:=ztp) ⟨d0Ok,eGood,z9 trivial,fun _=>rfl⟩ ze9 (fun a b=>a) none (fun _ _=>rfl) rfl (fun _ _ h=>nomatch h) 1000000 (fn:=Tryz.f85) Tryz.func85 rfl (by kernel_rfl) (by kernel_rfl) rfl (by intro N a b; kernel_rfl)
def zbw (N:Nat) (b:zc):Option (Bool) :=
 ((zq N b.Round).bind fun r1 =>
 (some ((r1&&(decide (0≤b.Replica)))&&(decide (b.Replica < 5)))))
def zbx:Con τ:={ args:=[.ty 68],L:=[],ret:=.ty 4,L':=[],R:=Bool,dflt:=default,F:=fun N a b=>zbw N a.1,of:=fun r=>(r,()) }
noncomputable def zuy:Dat τ:={ D:=D0,tbl:=tblOf [(61,z36)],lp:=lpsOf [],k0:=0,mu:=[],un:=[] }
theorem zov:ConOk E C 86 zbx :=
  zg (D:=zuy) ⟨d0Ok,eGood,z9 ⟨z6v,trivial⟩,fun _=>rfl⟩ zbx (fun a b=>a) none (fun _ _=>rfl) rfl (fun _ _ h=>nomatch h) 1000000 (fn:=Tryz.f86) Tryz.func86 rfl (by kernel_rfl) (by kernel_rfl) rfl (by intro N a b; kernel_rfl)
structure z9q where
  i:Int
def zii:List Sl:=[.k,.k,.k,.k,.k,.k,.j,.sh (.ty 2),.j,.j,.j,.j,.j,.j,.j,.j,.j,.j,.j,.j,.j,.j,.j,.j,.j,.j,.j,.j,.j,.j,.j,.j,.j,.j,.j,.j,.j,.j,.j,.k,.k,.k,.k,.k,.k,.k,.k,.k,.k]
def zij:List ESh:=[]
def zwu (a:Sl.Ts τ zii) (b:ESh.Ts τ zij):z9q:=⟨a.2.2.2.2.2.2.2.1⟩
def zwv (s:z9q):Sl.Ts τ zii:=((),(),(),(),(),(),(),s.i,(),(),(),(),(),(),(),(),(),(),(),(),(),(),(),(),(),(),(),(),(),(),(),(),(),(),(),(),(),(),(),(),(),(),(),(),(),(),(),(),(),())
def zww (s:z9q):ESh.Ts τ zij:=()
def zwx:Lp τ:={ ts:=zii,hs:=zij,S:=z9q,to:=zwu,ot:=zwv,oh:=zww,hk:=[],tk:=[],ot_to:=fun _ _=>rfl,oh_to:=fun _ _=>rfl }
def zdf (N:Nat) (l:List (zd)) (least:Int) (most:Int):Option (Bool) :=
 (iter N (fun (s1:z9q) next2 =>
 (bif (decide (s1.i < ((l).length:Int))) then
 (bif (ibB s1.i ((l).length:Int)) then
 ((zq N ((lget l s1.i default).Slot)).bind fun r3 =>
 (bif (!(!(!r3)) || (ibB s1.i ((l).length:Int))) then
 ((bif (!(!r3)) then zbw N ((lget l s1.i default).Ballot) else some default).bind fun r4 =>
 (bif (!(!((!r3) || (!r4))) || (ibB s1.i ((l).length:Int))) then
 ((bif (!((!r3) || (!r4))) then z1g N (⟨((lget l s1.i default).Entry).Kind,((lget l s1.i default).Entry).Session,((lget l s1.i default).Entry).Request,(⟨((((lget l s1.i default).Entry).Op).Stamp),(((lget l s1.i default).Entry).Op).Kind,(((lget l s1.i default).Entry).Op).Node,(((lget l s1.i default).Entry).Op).Parent,(((lget l s1.i default).Entry).Op).Name,(((lget l s1.i default).Entry).Op).Key,(((lget l s1.i default).Entry).Op).Value⟩:GOp),((lget l s1.i default).Entry).Origin,((lget l s1.i default).Entry).Seq,((lget l s1.i default).Entry).Ops,(((lget l s1.i default).Entry).Epoch),((lget l s1.i default).Entry).From,((lget l s1.i default).Entry).Vector_,((lget l s1.i default).Entry).Clock,(((lget l s1.i default).Entry).Part),((lget l s1.i default).Entry).Site,((lget l s1.i default).Entry).Sponsor,((lget l s1.i default).Entry).Length⟩:z6) else some default).bind fun r5 =>
 (bif (((!r3) || (!r4)) || (!r5)) then
 (some false)
 else
 (next2 ⟨(IntKind.i64.wrap (s1.i + 1))⟩)))
 else none))
 else none))
 else none)
 else
 (some ((decide (least≤((l).length:Int)))&&(decide (((l).length:Int)≤most)))))) ⟨0⟩)
def zlc:Con τ:={ args:=[.ty 69,.ty 3,.ty 3],L:=[],ret:=.ty 4,L':=[],R:=Bool,dflt:=default,F:=fun N a b=>zdf N a.1 a.2.1 a.2.2.1,of:=fun r=>(r,()) }
noncomputable def zyp:Dat τ:={ D:=D0,tbl:=tblOf [(61,z36),(86,zbx),(32,z9z)],lp:=lpsOf [(2,zwx)],k0:=0,mu:=[],un:=[] }
theorem z10c:ConOk E C 87 zlc :=
  zg (D:=zyp) ⟨d0Ok,eGood,z9 ⟨z6v,⟨zov,⟨zml,trivial⟩⟩⟩,fun _=>rfl⟩ zlc (fun a b=>a) none (fun _ _=>rfl) rfl (fun _ _ h=>nomatch h) 1000000 (fn:=Tryz.f87) Tryz.func87 rfl (by kernel_rfl) (by kernel_rfl) rfl (by intro N a b; kernel_rfl)
def zby (N:Nat) (m:GMsg):Option (Bool) :=
 ((zdy N m).bind fun r1 =>
 ((bif (!(!r1.2)) then z72 N m r1.1 else some default).bind fun r2 =>
 ((bif (!((!r1.2) || (!r2))) then zac N m.From else some default).bind fun r3 =>
 ((bif (!(((!r1.2) || (!r2)) || (!r3))) then zac N m.To else some default).bind fun r4 =>
 (bif ((((!r1.2) || (!r2)) || (!r3)) || (!r4)) then
 (some false)
 else
 ((zbw N m.Ballot).bind fun r5 =>
 ((bif (!(!r5)) then zq N m.Slot else some default).bind fun r6 =>
 ((bif (!((!r5) || (!r6))) then zq N m.Number else some default).bind fun r7 =>
 ((bif (!(((!r5) || (!r6)) || (!r7))) then z3m N m.Vector_ else some default).bind fun r8 =>
 ((bif (!((((!r5) || (!r6)) || (!r7)) || (!r8))) then zq N m.Clock else some default).bind fun r9 =>
 (bif (((((!r5) || (!r6)) || (!r7)) || (!r8)) || (!r9)) then
 (some false)
 else
 (bif (m.Kind==2) then
 ((zdf N m.List_ 0 4096).bind fun r10 =>
 (some r10))
 else
 (bif (m.Kind==3) then
 ((zdf N m.List_ 1 1).bind fun r11 =>
 (some r11))
 else
 (bif (m.Kind==6) then
 ((zdf N m.List_ 1 4096).bind fun r12 =>
 (some r12))
 else
 (bif (m.Kind==9) then
 ((z1g N m.Entry).bind fun r13 =>
 (some r13))
 else
 (bif (m.Kind==11) then
 ((z15 N m.Origin).bind fun r14 =>
 ((bif r14 then zdn N m.Ops else some default).bind fun r15 =>
 (some (r14&&r15))))
 else
 (bif (m.Kind==12) then
 ((z62 N m.Epoch).bind fun r16 =>
 (some r16))
 else
 (bif (m.Kind==13) then
 (bif (m.Kind==13) then
 ((z55 N m.Part).bind fun r17 =>
 (some r17))
 else
 (some true))
 else
 (bif (m.Kind==15) then
 ((z55 N m.Part).bind fun r18 =>
 (some r18))
 else
 (some true))))))))))))))))))))
def zfe:Con τ:={ args:=[.ty 71],L:=[],ret:=.ty 4,L':=[],R:=Bool,dflt:=default,F:=fun N a b=>zby N a.1,of:=fun r=>(r,()) }
noncomputable def zuz:Dat τ:={ D:=D0,tbl:=tblOf [(84,zih),(34,zau),(85,ze9),(86,zbx),(61,z36),(62,z6w),(87,zlc),(32,z9z),(78,zcl),(79,zhz),(24,z9y),(80,zay)],lp:=lpsOf [],k0:=0,mu:=[],un:=[] }
theorem zwy:ConOk E C 35 zfe :=
  zg (D:=zuz) ⟨d0Ok,eGood,z9 ⟨zyo,⟨zn9,⟨zux,⟨zov,⟨z6v,⟨zdo,⟨z10c,⟨zml,⟨znk,⟨zvl,⟨zmk,⟨znl,trivial⟩⟩⟩⟩⟩⟩⟩⟩⟩⟩⟩⟩,fun _=>rfl⟩ zfe (fun a b=>a) none (fun _ _=>rfl) rfl (fun _ _ h=>nomatch h) 1000000 (fn:=Tryz.f35) Tryz.func35 rfl (by kernel_rfl) (by kernel_rfl) rfl (by intro N a b; kernel_rfl)
def zbz (N:Nat) (b:List (Int)):Option (z4) :=
 ((z3d N b).bind fun r1 =>
 (some (⟨true,r1⟩:z4)))
def z7z:Con τ:={ args:=[.ty 31],L:=[],ret:=.ptr 0 [],L':=[.box (.ty 99)],R:=z4,dflt:=default,F:=fun N a b=>zbz N a.1,of:=fun r=>((),(r,())) }
noncomputable def zs6:Dat τ:={ D:=D0,tbl:=tblOf [(49,z3k)],lp:=lpsOf [],k0:=0,mu:=[],un:=[] }
theorem zea:ConOk E C 17 z7z :=
  zg (D:=zs6) ⟨d0Ok,eGood,z9 ⟨z8o,trivial⟩,fun _=>rfl⟩ z7z (fun a b=>b.1) none (fun _ _=>rfl) rfl (fun _ _ h=>nomatch h) 1000000 (fn:=Tryz.f17) Tryz.func17 rfl (by kernel_rfl) (by kernel_rfl) rfl (by intro N a b; kernel_rfl)
def z6r (N:Nat) (b0:z4):Option (Bool×z4) :=
 (some ((!b0.made),b0))
def z39:Con τ:={ args:=[.ptr 0 []],L:=[.box (.ty 99)],ret:=.ty 4,L':=[.box (.ty 99)],R:=Bool×z4,dflt:=(default,default),F:=fun N a b=>z6r N b.1,of:=fun r=>(r.1,(r.2,())) }
noncomputable def zld:Dat τ:={ D:=D0,tbl:=tblOf [],lp:=lpsOf [],k0:=1,mu:=[],un:=[] }
theorem z8z:ConOk E C 63 z39 :=
  zg (D:=zld) ⟨d0Ok,eGood,z9 trivial,fun _=>rfl⟩ z39 (fun a b=>(a,b.1)) none (fun _ _=>rfl) rfl (fun _ _ h=>nomatch h) 1000000 (fn:=Tryz.f63) Tryz.func63 rfl (by kernel_rfl) (by kernel_rfl) rfl (by intro N a b; kernel_rfl)
structure z8d where
  u:Int
  t8:Int
def zik:List Sl:=[.k,.k,.j,.j,.j,.sh (.ty 12),.j,.j,.sh (.ty 2),.j,.j,.j,.j,.j,.j,.j,.j,.j,.j,.j,.j,.j,.j,.j,.j,.j,.j,.j,.j,.j,.j,.j,.j,.j,.j,.j,.j,.j,.j,.j,.j,.j,.j,.j,.j,.j,.j,.j,.j,.j,.j,.j,.j,.j,.j,.j,.j,.j]
def zil:List ESh:=[]
def zwz (a:Sl.Ts τ zik) (b:ESh.Ts τ zil):z8d:=⟨a.2.2.2.2.2.1,a.2.2.2.2.2.2.2.2.1⟩
def zx0 (s:z8d):Sl.Ts τ zik:=((),(),(),(),(),s.u,(),(),s.t8,(),(),(),(),(),(),(),(),(),(),(),(),(),(),(),(),(),(),(),(),(),(),(),(),(),(),(),(),(),(),(),(),(),(),(),(),(),(),(),(),(),(),(),(),(),(),(),(),(),())
def zx1 (s:z8d):ESh.Ts τ zil:=()
def zx2:Lp τ:={ ts:=zik,hs:=zil,S:=z8d,to:=zwz,ot:=zx0,oh:=zx1,hk:=[],tk:=[],ot_to:=fun _ _=>rfl,oh_to:=fun _ _=>rfl }
def z9e (N:Nat) (b:List (Int)):Option (Int×Int×Int) :=
 (iter N (fun (s1:z8d) next2 =>
 (bif (decide (s1.t8 < 10)) then
 (bif (decide (((b).length:Int)≤s1.t8)) then
 (some (0,0,10))
 else
 (bif (ibB s1.t8 ((b).length:Int)) then
 (bif (((s1.t8==9)&&(decide (1 < (lget b s1.t8 default)))) || (((lget b s1.t8 default)==0)&&(decide (0 < s1.t8)))) then
 (some (0,0,11))
 else
 (bif (decide (0≤(IntKind.i64.wrap (7 * s1.t8)))) then
 (bif (decide ((lget b s1.t8 default) < 128)) then
 (bif ((bits .and .u64 (bits .or .u64 s1.u (shl .u64 (IntKind.u64.wrap (bits .and .u8 (lget b s1.t8 default) 127)) (IntKind.i64.wrap (7 * s1.t8)))) 1)==1) then
 (some ((IntKind.i64.wrap (bits .xor .u64 IntKind.u64.max (shr .u64 (bits .or .u64 s1.u (shl .u64 (IntKind.u64.wrap (bits .and .u8 (lget b s1.t8 default) 127)) (IntKind.i64.wrap (7 * s1.t8)))) 1))),(IntKind.i64.wrap (s1.t8 + 1)),0))
 else
 (some ((IntKind.i64.wrap (shr .u64 (bits .or .u64 s1.u (shl .u64 (IntKind.u64.wrap (bits .and .u8 (lget b s1.t8 default) 127)) (IntKind.i64.wrap (7 * s1.t8)))) 1)),(IntKind.i64.wrap (s1.t8 + 1)),0)))
 else
 (next2 ⟨(bits .or .u64 s1.u (shl .u64 (IntKind.u64.wrap (bits .and .u8 (lget b s1.t8 default) 127)) (IntKind.i64.wrap (7 * s1.t8)))),(IntKind.i64.wrap (s1.t8 + 1))⟩))
 else none))
 else none))
 else
 (some (0,0,11)))) ⟨0,0⟩)
def zc0:Con τ:={ args:=[.ty 31],L:=[],ret:=.tup [.ty 2,.ty 3,.ty 35],L':=[],R:=Int×Int×Int,dflt:=(default,default,default),F:=fun N a b=>z9e N a.1,of:=fun r=>((r.1,r.2.1,r.2.2,()),()) }
noncomputable def zyq:Dat τ:={ D:=D0,tbl:=tblOf [],lp:=lpsOf [(3,zx2)],k0:=0,mu:=[],un:=[] }
theorem zna:ConOk E C 130 zc0 :=
  zg (D:=zyq) ⟨d0Ok,eGood,z9 trivial,fun _=>rfl⟩ zc0 (fun a b=>(a.1,a.2.1,a.2.2.1)) none (fun _ _=>rfl) rfl (fun _ _ h=>nomatch h) 1000000 (fn:=Tryz.f130) Tryz.func130 rfl (by kernel_rfl) (by kernel_rfl) rfl (by intro N a b; kernel_rfl)
def zei (N:Nat) (b0:z4):Option (Int×Int×z4) :=
 ((z6r N b0).bind fun r1 =>
 (bif r1.1 then
 (some (0,2,r1.2))
 else
 ((z9e N r1.2.b).bind fun r2 =>
 (bif (cutB r2.2.1 ((r1.2.b).length:Int) ((r1.2.b).length:Int)) then
 (some (r2.1,r2.2.2,(⟨r1.2.made,(cut r1.2.b r2.2.1 ((r1.2.b).length:Int))⟩:z4)))
 else none))))
def z90:Con τ:={ args:=[.ptr 0 []],L:=[.box (.ty 99)],ret:=.tup [.ty 2,.ty 35],L':=[.box (.ty 99)],R:=Int×Int×z4,dflt:=(default,default,default),F:=fun N a b=>zei N b.1,of:=fun r=>((r.1,r.2.1,()),(r.2.2,())) }
noncomputable def zmn:Dat τ:={ D:=D0,tbl:=tblOf [(63,z39),(130,zc0)],lp:=lpsOf [],k0:=1,mu:=[],un:=[] }
theorem znb:ConOk E C 156 z90 :=
  zg (D:=zmn) ⟨d0Ok,eGood,z9 ⟨z8z,⟨zna,trivial⟩⟩,fun _=>rfl⟩ z90 (fun a b=>(a.1,a.2.1,b.1)) none (fun _ _=>rfl) rfl (fun _ _ h=>nomatch h) 1000000 (fn:=Tryz.f156) Tryz.func156 rfl (by kernel_rfl) (by kernel_rfl) rfl (by intro N a b; kernel_rfl)
def z23 (N:Nat) (e:Int) (b0:Int) (b1:z4):Option (Int×z4) :=
 (bif (b0==0) then
 (some (e,b1))
 else
 (some (b0,b1)))
def z1i:Con τ:={ args:=[.ptr 0 [],.ty 35],L:=[.box (.agg [.ptr 1 [],.ty 35]),.box (.ty 99)],ret:=.tup [],L':=[.box (.agg [.ptr 1 [],.ty 35]),.box (.ty 99)],R:=Int×z4,dflt:=(default,default),F:=fun N a b=>z23 N a.2.1 b.1.2.1 b.2.1,of:=fun r=>((),(((),r.1,()),r.2,())) }
noncomputable def zim:Dat τ:={ D:=D0,tbl:=tblOf [],lp:=lpsOf [],k0:=2,mu:=[],un:=[] }
theorem z2c:ConOk E C 73 z1i :=
  zg (D:=zim) ⟨d0Ok,eGood,z9 trivial,fun _=>rfl⟩ z1i (fun a b=>(b.1.2.1,b.2.1)) none (fun _ _=>rfl) rfl (fun _ _ h=>nomatch h) 1000000 (fn:=Tryz.f73) Tryz.func73 rfl (by kernel_rfl) (by kernel_rfl) rfl (by intro N a b; kernel_rfl)
def zh (N:Nat) (b0:Int) (b1:z4):Option (Int×Int×z4) :=
 (bif (!(b0==0)) then
 (some (0,b0,b1))
 else
 ((zei N b1).bind fun r1 =>
 ((z23 N r1.2.1 b0 r1.2.2).bind fun r2 =>
 (some (r1.1,r2.1,r2.2)))))
def ze:Con τ:={ args:=[.ptr 0 []],L:=[.box (.agg [.ptr 1 [],.ty 35]),.box (.ty 99)],ret:=.ty 2,L':=[.box (.agg [.ptr 1 [],.ty 35]),.box (.ty 99)],R:=Int×Int×z4,dflt:=(default,default,default),F:=fun N a b=>zh N b.1.2.1 b.2.1,of:=fun r=>(r.1,(((),r.2.1,()),r.2.2,())) }
noncomputable def zjz:Dat τ:={ D:=D0,tbl:=tblOf [(156,z90),(73,z1i)],lp:=lpsOf [],k0:=2,mu:=[],un:=[] }
theorem zm:ConOk E C 139 ze :=
  zg (D:=zjz) ⟨d0Ok,eGood,z9 ⟨znb,⟨z2c,trivial⟩⟩,fun _=>rfl⟩ ze (fun a b=>(a,b.1.2.1,b.2.1)) none (fun _ _=>rfl) rfl (fun _ _ h=>nomatch h) 1000000 (fn:=Tryz.f139) Tryz.func139 rfl (by kernel_rfl) (by kernel_rfl) rfl (by intro N a b; kernel_rfl)
def zf (N:Nat) (b0:Int) (b1:z4):Option (Int×Int×z4) :=
 ((zh N b0 b1).bind fun r1 =>
 (bif (!(r1.1==(IntKind.i64.wrap (IntKind.i32.wrap r1.1)))) then
 (some ((-2),r1.2.1,r1.2.2))
 else
 (some (r1.1,r1.2.1,r1.2.2))))
def zt:Con τ:={ args:=[.ptr 0 []],L:=[.box (.agg [.ptr 1 [],.ty 35]),.box (.ty 99)],ret:=.ty 3,L':=[.box (.agg [.ptr 1 [],.ty 35]),.box (.ty 99)],R:=Int×Int×z4,dflt:=(default,default,default),F:=fun N a b=>zf N b.1.2.1 b.2.1,of:=fun r=>(r.1,(((),r.2.1,()),r.2.2,())) }
noncomputable def zgu:Dat τ:={ D:=D0,tbl:=tblOf [(139,ze)],lp:=lpsOf [],k0:=2,mu:=[],un:=[] }
theorem zx:ConOk E C 104 zt :=
  zg (D:=zgu) ⟨d0Ok,eGood,z9 ⟨zm,trivial⟩,fun _=>rfl⟩ zt (fun a b=>(a,b.1.2.1,b.2.1)) none (fun _ _=>rfl) rfl (fun _ _ h=>nomatch h) 1000000 (fn:=Tryz.f104) Tryz.func104 rfl (by kernel_rfl) (by kernel_rfl) rfl (by intro N a b; kernel_rfl)
def zad (N:Nat) (b0:Int) (b1:z6) (b2:z4):Option (Int×z6×z4) :=
 ((zf N b0 b2).bind fun r1 =>
 (some (r1.2.1,(⟨r1.1,b1.Session,b1.Request,b1.Op,b1.Origin,b1.Seq,b1.Ops,b1.Epoch,b1.From,b1.Vector_,b1.Clock,b1.Part,b1.Site,b1.Sponsor,b1.Length⟩:z6),r1.2.2)))
def z5f:Con τ:={ args:=[.ptr 0 [],.ls 1 [.ptr 1 [.fld 0 0]]],L:=[.box (.agg [.ptr 2 [],.ty 35]),.box (.ty 64),.box (.ty 99)],ret:=.tup [],L':=[.box (.agg [.ptr 2 [],.ty 35]),.box (.ty 64),.box (.ty 99)],R:=Int×z6×z4,dflt:=(default,default,default),F:=fun N a b=>zad N b.1.2.1 b.2.1 b.2.2.1,of:=fun r=>((),(((),r.1,()),r.2.1,r.2.2,())) }
noncomputable def zff:Dat τ:={ D:=D0,tbl:=tblOf [(104,zt)],lp:=lpsOf [],k0:=3,mu:=[],un:=[(1,3)] }
theorem zgv:ConOk E C 99 z5f :=
  zg (D:=zff) ⟨d0Ok,eGood,z9 ⟨zx,trivial⟩,fun _=>rfl⟩ z5f (fun a b=>(b.1.2.1,b.2.1,b.2.2.1)) none (fun _ _=>rfl) rfl (fun _ _ h=>nomatch h) 1000000 (fn:=Tryz.f99) Tryz.func99 rfl (by kernel_rfl) (by kernel_rfl) rfl (by intro N a b; kernel_rfl)
def zc1 (N:Nat) (b0:Int) (b1:z6) (b2:z4):Option (Int×z6×z4) :=
 ((zh N b0 b2).bind fun r1 =>
 ((zh N r1.2.1 r1.2.2).bind fun r2 =>
 (some (r2.2.1,(⟨b1.Kind,r1.1,r2.1,b1.Op,b1.Origin,b1.Seq,b1.Ops,b1.Epoch,b1.From,b1.Vector_,b1.Clock,b1.Part,b1.Site,b1.Sponsor,b1.Length⟩:z6),r2.2.2))))
def z73:Con τ:={ args:=[.ptr 0 [],.ls 1 [.ptr 1 [.fld 1 1],.ptr 1 [.fld 2 2]]],L:=[.box (.agg [.ptr 2 [],.ty 35]),.box (.ty 64),.box (.ty 99)],ret:=.tup [],L':=[.box (.agg [.ptr 2 [],.ty 35]),.box (.ty 64),.box (.ty 99)],R:=Int×z6×z4,dflt:=(default,default,default),F:=fun N a b=>zc1 N b.1.2.1 b.2.1 b.2.2.1,of:=fun r=>((),(((),r.1,()),r.2.1,r.2.2,())) }
noncomputable def zin:Dat τ:={ D:=D0,tbl:=tblOf [(139,ze)],lp:=lpsOf [],k0:=3,mu:=[],un:=[(1,4)] }
theorem zk0:ConOk E C 98 z73 :=
  zg (D:=zin) ⟨d0Ok,eGood,z9 ⟨zm,trivial⟩,fun _=>rfl⟩ z73 (fun a b=>(b.1.2.1,b.2.1,b.2.2.1)) none (fun _ _=>rfl) rfl (fun _ _ h=>nomatch h) 1000000 (fn:=Tryz.f98) Tryz.func98 rfl (by kernel_rfl) (by kernel_rfl) rfl (by intro N a b; kernel_rfl)
def zc2 (N:Nat) (b0:Int) (b1:GOp) (b2:z4):Option (Int×GOp×z4) :=
 ((zh N b0 b2).bind fun r1 =>
 (some (r1.2.1,(⟨(⟨r1.1,b1.Stamp.Site⟩:zj),b1.Kind,b1.Node,b1.Parent,b1.Name,b1.Key,b1.Value⟩:GOp),r1.2.2)))
def z74:Con τ:={ args:=[.ptr 0 [],.ls 1 [.ptr 1 [.fld 0 0,.fld 0 0]]],L:=[.box (.agg [.ptr 2 [],.ty 35]),.box (.ty 25),.box (.ty 99)],ret:=.tup [],L':=[.box (.agg [.ptr 2 [],.ty 35]),.box (.ty 25),.box (.ty 99)],R:=Int×GOp×z4,dflt:=(default,default,default),F:=fun N a b=>zc2 N b.1.2.1 b.2.1 b.2.2.1,of:=fun r=>((),(((),r.1,()),r.2.1,r.2.2,())) }
noncomputable def zio:Dat τ:={ D:=D0,tbl:=tblOf [(139,ze)],lp:=lpsOf [],k0:=3,mu:=[],un:=[(1,3)] }
theorem zk1:ConOk E C 98 z74 :=
  zg (D:=zio) ⟨d0Ok,eGood,z9 ⟨zm,trivial⟩,fun _=>rfl⟩ z74 (fun a b=>(b.1.2.1,b.2.1,b.2.2.1)) none (fun _ _=>rfl) rfl (fun _ _ h=>nomatch h) 1000000 (fn:=Tryz.f98) Tryz.func98 rfl (by kernel_rfl) (by kernel_rfl) rfl (by intro N a b; kernel_rfl)
def zae (N:Nat) (b0:Int) (b1:GOp) (b2:z4):Option (Int×GOp×z4) :=
 ((zf N b0 b2).bind fun r1 =>
 ((zf N r1.2.1 r1.2.2).bind fun r2 =>
 (some (r2.2.1,(⟨(⟨b1.Stamp.Time,r1.1⟩:zj),r2.1,b1.Node,b1.Parent,b1.Name,b1.Key,b1.Value⟩:GOp),r2.2.2))))
def z5g:Con τ:={ args:=[.ptr 0 [],.ls 1 [.ptr 1 [.fld 0 0,.fld 1 1],.ptr 1 [.fld 1 2]]],L:=[.box (.agg [.ptr 2 [],.ty 35]),.box (.ty 25),.box (.ty 99)],ret:=.tup [],L':=[.box (.agg [.ptr 2 [],.ty 35]),.box (.ty 25),.box (.ty 99)],R:=Int×GOp×z4,dflt:=(default,default,default),F:=fun N a b=>zae N b.1.2.1 b.2.1 b.2.2.1,of:=fun r=>((),(((),r.1,()),r.2.1,r.2.2,())) }
noncomputable def zfg:Dat τ:={ D:=D0,tbl:=tblOf [(104,zt)],lp:=lpsOf [],k0:=3,mu:=[],un:=[(1,4)] }
theorem zgw:ConOk E C 99 z5g :=
  zg (D:=zfg) ⟨d0Ok,eGood,z9 ⟨zx,trivial⟩,fun _=>rfl⟩ z5g (fun a b=>(b.1.2.1,b.2.1,b.2.2.1)) none (fun _ _=>rfl) rfl (fun _ _ h=>nomatch h) 1000000 (fn:=Tryz.f99) Tryz.func99 rfl (by kernel_rfl) (by kernel_rfl) rfl (by intro N a b; kernel_rfl)
def zc3 (N:Nat) (b0:Int) (b1:GOp) (b2:z4):Option (Int×GOp×z4) :=
 ((zh N b0 b2).bind fun r1 =>
 ((zh N r1.2.1 r1.2.2).bind fun r2 =>
 (some (r2.2.1,(⟨b1.Stamp,b1.Kind,r1.1,r2.1,b1.Name,b1.Key,b1.Value⟩:GOp),r2.2.2))))
def z75:Con τ:={ args:=[.ptr 0 [],.ls 1 [.ptr 1 [.fld 2 3],.ptr 1 [.fld 3 4]]],L:=[.box (.agg [.ptr 2 [],.ty 35]),.box (.ty 25),.box (.ty 99)],ret:=.tup [],L':=[.box (.agg [.ptr 2 [],.ty 35]),.box (.ty 25),.box (.ty 99)],R:=Int×GOp×z4,dflt:=(default,default,default),F:=fun N a b=>zc3 N b.1.2.1 b.2.1 b.2.2.1,of:=fun r=>((),(((),r.1,()),r.2.1,r.2.2,())) }
noncomputable def ziq:Dat τ:={ D:=D0,tbl:=tblOf [(139,ze)],lp:=lpsOf [],k0:=3,mu:=[],un:=[(1,4)] }
theorem zk2:ConOk E C 98 z75 :=
  zg (D:=ziq) ⟨d0Ok,eGood,z9 ⟨zm,trivial⟩,fun _=>rfl⟩ z75 (fun a b=>(b.1.2.1,b.2.1,b.2.2.1)) none (fun _ _=>rfl) rfl (fun _ _ h=>nomatch h) 1000000 (fn:=Tryz.f98) Tryz.func98 rfl (by kernel_rfl) (by kernel_rfl) rfl (by intro N a b; kernel_rfl)
def z91 (N:Nat) (b0:z4):Option ((List (Int))×Int×z4) :=
 ((z6r N b0).bind fun r1 =>
 (bif r1.1 then
 (some ([],2,r1.2))
 else
 ((z9e N r1.2.b).bind fun r2 =>
 (bif (!(r2.2.2==0)) then
 (some ([],r2.2.2,r1.2))
 else
 (bif (decide (r2.1 < 0)) then
 (some ([],11,r1.2))
 else
 (bif (decide ((IntKind.i64.wrap (((r1.2.b).length:Int) - r2.2.1)) < r2.1)) then
 (some ([],10,r1.2))
 else
 (bif (cutB r2.2.1 (IntKind.i64.wrap (r2.2.1 + r2.1)) ((r1.2.b).length:Int)) then
 ((z3d N (cut r1.2.b r2.2.1 (IntKind.i64.wrap (r2.2.1 + r2.1)))).bind fun r3 =>
 (bif (cutB (IntKind.i64.wrap (r2.2.1 + r2.1)) ((r1.2.b).length:Int) ((r1.2.b).length:Int)) then
 (some (r3,0,(⟨r1.2.made,(cut r1.2.b (IntKind.i64.wrap (r2.2.1 + r2.1)) ((r1.2.b).length:Int))⟩:z4)))
 else none))
 else none)))))))
def z47:Con τ:={ args:=[.ptr 0 []],L:=[.box (.ty 99)],ret:=.tup [.ty 31,.ty 35],L':=[.box (.ty 99)],R:=(List (Int))×Int×z4,dflt:=(default,default,default),F:=fun N a b=>z91 N b.1,of:=fun r=>((r.1,r.2.1,()),(r.2.2,())) }
noncomputable def zk3:Dat τ:={ D:=D0,tbl:=tblOf [(63,z39),(130,zc0),(49,z3k)],lp:=lpsOf [],k0:=1,mu:=[],un:=[] }
theorem zc4:ConOk E C 157 z47 :=
  zg (D:=zk3) ⟨d0Ok,eGood,z9 ⟨z8z,⟨zna,⟨z8o,trivial⟩⟩⟩,fun _=>rfl⟩ z47 (fun a b=>(a.1,a.2.1,b.1)) none (fun _ _=>rfl) rfl (fun _ _ h=>nomatch h) 1000000 (fn:=Tryz.f157) Tryz.func157 rfl (by kernel_rfl) (by kernel_rfl) rfl (by intro N a b; kernel_rfl)
def zdz (N:Nat) (b0:z4):Option ((List UInt8)×Int×z4) :=
 ((z91 N b0).bind fun r1 =>
 (some ((strI r1.1),r1.2.1,r1.2.2)))
def z8e:Con τ:={ args:=[.ptr 0 []],L:=[.box (.ty 99)],ret:=.tup [.ty 9,.ty 35],L':=[.box (.ty 99)],R:=(List UInt8)×Int×z4,dflt:=(default,default,default),F:=fun N a b=>zdz N b.1,of:=fun r=>((r.1,r.2.1,()),(r.2.2,())) }
noncomputable def zle:Dat τ:={ D:=D0,tbl:=tblOf [(157,z47)],lp:=lpsOf [],k0:=1,mu:=[],un:=[] }
theorem zmo:ConOk E C 140 z8e :=
  zg (D:=zle) ⟨d0Ok,eGood,z9 ⟨zc4,trivial⟩,fun _=>rfl⟩ z8e (fun a b=>(a.1,a.2.1,b.1)) none (fun _ _=>rfl) rfl (fun _ _ h=>nomatch h) 1000000 (fn:=Tryz.f140) Tryz.func140 rfl (by kernel_rfl) (by kernel_rfl) rfl (by intro N a b; kernel_rfl)
def z4q (N:Nat) (b0:Int) (b1:z4):Option ((List UInt8)×Int×z4) :=
 (bif (!(b0==0)) then
 (some ([],b0,b1))
 else
 ((zdz N b1).bind fun r1 =>
 ((z23 N r1.2.1 b0 r1.2.2).bind fun r2 =>
 (some (r1.1,r2.1,r2.2)))))
def z76:Con τ:={ args:=[.ptr 0 []],L:=[.box (.agg [.ptr 1 [],.ty 35]),.box (.ty 99)],ret:=.ty 9,L':=[.box (.agg [.ptr 1 [],.ty 35]),.box (.ty 99)],R:=(List UInt8)×Int×z4,dflt:=(default,default,default),F:=fun N a b=>z4q N b.1.2.1 b.2.1,of:=fun r=>(r.1,(((),r.2.1,()),r.2.2,())) }
noncomputable def zir:Dat τ:={ D:=D0,tbl:=tblOf [(140,z8e),(73,z1i)],lp:=lpsOf [],k0:=2,mu:=[],un:=[] }
theorem zk4:ConOk E C 100 z76 :=
  zg (D:=zir) ⟨d0Ok,eGood,z9 ⟨zmo,⟨z2c,trivial⟩⟩,fun _=>rfl⟩ z76 (fun a b=>(a,b.1.2.1,b.2.1)) none (fun _ _=>rfl) rfl (fun _ _ h=>nomatch h) 1000000 (fn:=Tryz.f100) Tryz.func100 rfl (by kernel_rfl) (by kernel_rfl) rfl (by intro N a b; kernel_rfl)
def z9f (N:Nat) (b0:Int) (b1:z4):Option (GOp×Int×z4) :=
 ((zc2 N b0 (⟨(⟨0,0⟩:zj),0,0,0,[],[],[]⟩:GOp) b1).bind fun r1 =>
 ((zae N r1.1 r1.2.1 r1.2.2).bind fun r2 =>
 ((zc3 N r2.1 r2.2.1 r2.2.2).bind fun r3 =>
 ((z4q N r3.1 r3.2.2).bind fun r4 =>
 ((z4q N r4.2.1 r4.2.2).bind fun r5 =>
 ((z4q N r5.2.1 r5.2.2).bind fun r6 =>
 (some ((⟨r3.2.1.Stamp,r3.2.1.Kind,r3.2.1.Node,r3.2.1.Parent,r4.1,r5.1,r6.1⟩:GOp),r6.2.1,r6.2.2))))))))
def z4r:Con τ:={ args:=[.ptr 0 []],L:=[.box (.agg [.ptr 1 [],.ty 35]),.box (.ty 99)],ret:=.ty 25,L':=[.box (.agg [.ptr 1 [],.ty 35]),.box (.ty 99)],R:=GOp×Int×z4,dflt:=(default,default,default),F:=fun N a b=>z9f N b.1.2.1 b.2.1,of:=fun r=>(r.1,(((),r.2.1,()),r.2.2,())) }
noncomputable def zlf:Dat τ:={ D:=D0,tbl:=tblOf [(98,z74),(99,z5g),(98,z75),(100,z76)],lp:=lpsOf [],k0:=2,mu:=[],un:=[] }
theorem zd4:ConOk E C 52 z4r :=
  zg (D:=zlf) ⟨d0Ok,eGood,z9 ⟨zk1,⟨zgw,⟨zk2,⟨zk4,trivial⟩⟩⟩⟩,fun _=>rfl⟩ z4r (fun a b=>(a,b.1.2.1,b.2.1)) none (fun _ _=>rfl) rfl (fun _ _ h=>nomatch h) 1000000 (fn:=Tryz.f52) Tryz.func52 rfl (by kernel_rfl) (by kernel_rfl) rfl (by intro N a b; kernel_rfl)
def zaf (N:Nat) (b0:Int) (b1:z6) (b2:z4):Option (Int×z6×z4) :=
 ((zf N b0 b2).bind fun r1 =>
 (some (r1.2.1,(⟨b1.Kind,b1.Session,b1.Request,b1.Op,r1.1,b1.Seq,b1.Ops,b1.Epoch,b1.From,b1.Vector_,b1.Clock,b1.Part,b1.Site,b1.Sponsor,b1.Length⟩:z6),r1.2.2)))
def z5h:Con τ:={ args:=[.ptr 0 [],.ls 1 [.ptr 1 [.fld 4 11]]],L:=[.box (.agg [.ptr 2 [],.ty 35]),.box (.ty 64),.box (.ty 99)],ret:=.tup [],L':=[.box (.agg [.ptr 2 [],.ty 35]),.box (.ty 64),.box (.ty 99)],R:=Int×z6×z4,dflt:=(default,default,default),F:=fun N a b=>zaf N b.1.2.1 b.2.1 b.2.2.1,of:=fun r=>((),(((),r.1,()),r.2.1,r.2.2,())) }
noncomputable def zfh:Dat τ:={ D:=D0,tbl:=tblOf [(104,zt)],lp:=lpsOf [],k0:=3,mu:=[],un:=[(1,3)] }
theorem zgx:ConOk E C 99 z5h :=
  zg (D:=zfh) ⟨d0Ok,eGood,z9 ⟨zx,trivial⟩,fun _=>rfl⟩ z5h (fun a b=>(b.1.2.1,b.2.1,b.2.2.1)) none (fun _ _=>rfl) rfl (fun _ _ h=>nomatch h) 1000000 (fn:=Tryz.f99) Tryz.func99 rfl (by kernel_rfl) (by kernel_rfl) rfl (by intro N a b; kernel_rfl)
def z8f (N:Nat) (b0:Int) (b1:z6) (b2:z4):Option (Int×z6×z4) :=
 ((zh N b0 b2).bind fun r1 =>
 (some (r1.2.1,(⟨b1.Kind,b1.Session,b1.Request,b1.Op,b1.Origin,r1.1,b1.Ops,b1.Epoch,b1.From,b1.Vector_,b1.Clock,b1.Part,b1.Site,b1.Sponsor,b1.Length⟩:z6),r1.2.2)))
def z77:Con τ:={ args:=[.ptr 0 [],.ls 1 [.ptr 1 [.fld 5 12]]],L:=[.box (.agg [.ptr 2 [],.ty 35]),.box (.ty 64),.box (.ty 99)],ret:=.tup [],L':=[.box (.agg [.ptr 2 [],.ty 35]),.box (.ty 64),.box (.ty 99)],R:=Int×z6×z4,dflt:=(default,default,default),F:=fun N a b=>z8f N b.1.2.1 b.2.1 b.2.2.1,of:=fun r=>((),(((),r.1,()),r.2.1,r.2.2,())) }
noncomputable def zis:Dat τ:={ D:=D0,tbl:=tblOf [(139,ze)],lp:=lpsOf [],k0:=3,mu:=[],un:=[(1,3)] }
theorem zk5:ConOk E C 98 z77 :=
  zg (D:=zis) ⟨d0Ok,eGood,z9 ⟨zm,trivial⟩,fun _=>rfl⟩ z77 (fun a b=>(b.1.2.1,b.2.1,b.2.2.1)) none (fun _ _=>rfl) rfl (fun _ _ h=>nomatch h) 1000000 (fn:=Tryz.f98) Tryz.func98 rfl (by kernel_rfl) (by kernel_rfl) rfl (by intro N a b; kernel_rfl)
def z8g (N:Nat) (b0:Int) (b1:z4):Option (Int×Int×z4) :=
 ((zh N b0 b1).bind fun r1 =>
 (bif ((r1.2.1==0)&&((decide (r1.1 < 0)) || (decide (4096 < r1.1)))) then
 (some (0,40,r1.2.2))
 else
 (bif (!(r1.2.1==0)) then
 (some (0,r1.2.1,r1.2.2))
 else
 (some (r1.1,r1.2.1,r1.2.2)))))
def z3z:Con τ:={ args:=[.ptr 0 []],L:=[.box (.agg [.ptr 1 [],.ty 35]),.box (.ty 99)],ret:=.ty 3,L':=[.box (.agg [.ptr 1 [],.ty 35]),.box (.ty 99)],R:=Int×Int×z4,dflt:=(default,default,default),F:=fun N a b=>z8g N b.1.2.1 b.2.1,of:=fun r=>(r.1,(((),r.2.1,()),r.2.2,())) }
noncomputable def zit:Dat τ:={ D:=D0,tbl:=tblOf [(139,ze)],lp:=lpsOf [],k0:=2,mu:=[],un:=[] }
theorem zbg:ConOk E C 152 z3z :=
  zg (D:=zit) ⟨d0Ok,eGood,z9 ⟨zm,trivial⟩,fun _=>rfl⟩ z3z (fun a b=>(a,b.1.2.1,b.2.1)) none (fun _ _=>rfl) rfl (fun _ _ h=>nomatch h) 1000000 (fn:=Tryz.f152) Tryz.func152 rfl (by kernel_rfl) (by kernel_rfl) rfl (by intro N a b; kernel_rfl)
structure z2x where
  l:List (GOp)
  t6:Int
  b0:Int
  b1:z4
def z78:List Sl:=[.k,.k,.j,.sh (.own 25 2),.k,.k,.sh (.ty 2),.j,.j,.j,.j,.j,.j,.j,.j,.j,.j,.j,.j,.k]
def z79:List ESh:=[.box (.agg [.ptr 1 [],.ty 2]),.box (.ty 86),.tail]
def ziu (a:Sl.Ts τ z78) (b:ESh.Ts τ z79):z2x:=⟨a.2.2.2.1,a.2.2.2.2.2.2.1,b.1.2.1,b.2.1⟩
def ziv (s:z2x):Sl.Ts τ z78:=((),(),(),s.l,(),(),s.t6,(),(),(),(),(),(),(),(),(),(),(),(),(),())
def ziw (s:z2x):ESh.Ts τ z79:=(((),s.b0,()),s.b1,(),())
def zix:Lp τ:={ ts:=z78,hs:=z79,S:=z2x,to:=ziu,ot:=ziv,oh:=ziw,hk:=[2,2],tk:=[2,0,0,0,2],ot_to:=fun _ _=>rfl,oh_to:=fun _ _=>rfl }
def z3t (N:Nat) (b0:Int) (b1:z4):Option ((List (GOp))×Int×z4) :=
 ((z8g N b0 b1).bind fun r1 =>
 (iter N (fun (s2:z2x) next3 =>
 (bif (decide (s2.t6 < r1.1)) then
 (bif (!(s2.b0==0)) then
 (some ([],s2.b0,s2.b1))
 else
 ((z9f N s2.b0 s2.b1).bind fun r4 =>
 (bif (lenB ((s2.l).length + ([r4.1]).length) 88) then
 (next3 ⟨(s2.l++[r4.1]),(IntKind.i64.wrap (s2.t6 + 1)),r4.2.1,r4.2.2⟩)
 else none)))
 else
 (some (s2.l,s2.b0,s2.b1)))) ⟨[],0,r1.2.1,r1.2.2⟩))
def z48:Con τ:={ args:=[.ptr 0 []],L:=[.box (.agg [.ptr 1 [],.ty 35]),.box (.ty 99)],ret:=.ty 60,L':=[.box (.agg [.ptr 1 [],.ty 35]),.box (.ty 99)],R:=(List (GOp))×Int×z4,dflt:=(default,default,default),F:=fun N a b=>z3t N b.1.2.1 b.2.1,of:=fun r=>(r.1,(((),r.2.1,()),r.2.2,())) }
noncomputable def zk6:Dat τ:={ D:=D0,tbl:=tblOf [(152,z3z),(52,z4r)],lp:=lpsOf [(3,zix)],k0:=2,mu:=[],un:=[] }
theorem zc5:ConOk E C 128 z48 :=
  zg (D:=zk6) ⟨d0Ok,eGood,z9 ⟨zbg,⟨zd4,trivial⟩⟩,fun _=>rfl⟩ z48 (fun a b=>(a,b.1.2.1,b.2.1)) none (fun _ _=>rfl) rfl (fun _ _ h=>nomatch h) 1000000 (fn:=Tryz.f128) Tryz.func128 rfl (by kernel_rfl) (by kernel_rfl) rfl (by intro N a b; kernel_rfl)
def zc6 (N:Nat) (b0:Int) (b1:z7) (b2:z4):Option (Int×z7×z4) :=
 ((zh N b0 b2).bind fun r1 =>
 (some (r1.2.1,(⟨r1.1,b1.States,b1.Seals,b1.Sponsor⟩:z7),r1.2.2)))
def z7a:Con τ:={ args:=[.ptr 0 [],.ls 1 [.ptr 1 [.fld 0 0]]],L:=[.box (.agg [.ptr 2 [],.ty 35]),.box (.ty 30),.box (.ty 99)],ret:=.tup [],L':=[.box (.agg [.ptr 2 [],.ty 35]),.box (.ty 30),.box (.ty 99)],R:=Int×z7×z4,dflt:=(default,default,default),F:=fun N a b=>zc6 N b.1.2.1 b.2.1 b.2.2.1,of:=fun r=>((),(((),r.1,()),r.2.1,r.2.2,())) }
noncomputable def ziy:Dat τ:={ D:=D0,tbl:=tblOf [(139,ze)],lp:=lpsOf [],k0:=3,mu:=[],un:=[(1,3)] }
theorem zk7:ConOk E C 98 z7a :=
  zg (D:=ziy) ⟨d0Ok,eGood,z9 ⟨zm,trivial⟩,fun _=>rfl⟩ z7a (fun a b=>(b.1.2.1,b.2.1,b.2.2.1)) none (fun _ _=>rfl) rfl (fun _ _ h=>nomatch h) 1000000 (fn:=Tryz.f98) Tryz.func98 rfl (by kernel_rfl) (by kernel_rfl) rfl (by intro N a b; kernel_rfl)
structure z2i where
  t5:Int
  b0:Int
  b1:z7
  b2:z4
def z4s:List Sl:=[.k,.k,.k,.k,.j,.sh (.ty 2),.j,.j,.j,.j,.j,.j,.j,.j,.j]
def z4t:List ESh:=[.box (.agg [.ptr 2 [],.ty 2]),.box (.ty 29),.box (.ty 86)]
def zej (a:Sl.Ts τ z4s) (b:ESh.Ts τ z4t):z2i:=⟨a.2.2.2.2.2.1,b.1.2.1,b.2.1,b.2.2.1⟩
def zek (s:z2i):Sl.Ts τ z4s:=((),(),(),(),(),s.t5,(),(),(),(),(),(),(),(),(),())
def zel (s:z2i):ESh.Ts τ z4t:=(((),s.b0,()),s.b1,s.b2,())
def zem:Lp τ:={ ts:=z4s,hs:=z4t,S:=z2i,to:=zej,ot:=zek,oh:=zel,hk:=[2,2,2],tk:=[2,3],ot_to:=fun _ _=>rfl,oh_to:=fun _ _=>rfl }
def zag (N:Nat) (b0:Int) (b1:z7) (b2:z4):Option (Int×z7×z4) :=
 (iter N (fun (s1:z2i) next2 =>
 (bif (decide (s1.t5 < 8)) then
 ((zh N s1.b0 s1.b2).bind fun r3 =>
 (bif (ibB s1.t5 8) then
 (next2 ⟨(IntKind.i64.wrap (s1.t5 + 1)),r3.2.1,(⟨s1.b1.Number,s1.b1.States,(vset s1.b1.Seals ((s1.t5).toNat) r3.1),s1.b1.Sponsor⟩:z7),r3.2.2⟩)
 else none))
 else
 (some (s1.b0,s1.b1,s1.b2)))) ⟨0,b0,b1,b2⟩)
def z5i:Con τ:={ args:=[.ptr 0 [],.ptr 1 [.fld 2 9]],L:=[.box (.agg [.ptr 2 [],.ty 35]),.box (.ty 30),.box (.ty 99)],ret:=.tup [],L':=[.box (.agg [.ptr 2 [],.ty 35]),.box (.ty 30),.box (.ty 99)],R:=Int×z7×z4,dflt:=(default,default,default),F:=fun N a b=>zag N b.1.2.1 b.2.1 b.2.2.1,of:=fun r=>((),(((),r.1,()),r.2.1,r.2.2,())) }
noncomputable def zfi:Dat τ:={ D:=D0,tbl:=tblOf [(139,ze)],lp:=lpsOf [(1,zem)],k0:=3,mu:=[],un:=[] }
theorem zgy:ConOk E C 105 z5i :=
  zg (D:=zfi) ⟨d0Ok,eGood,z9 ⟨zm,trivial⟩,fun _=>rfl⟩ z5i (fun a b=>(b.1.2.1,b.2.1,b.2.2.1)) none (fun _ _=>rfl) rfl (fun _ _ h=>nomatch h) 1000000 (fn:=Tryz.f105) Tryz.func105 rfl (by kernel_rfl) (by kernel_rfl) rfl (by intro N a b; kernel_rfl)
structure z2n where
  t10:Int
  b0:Int
  b1:z4
  b3:z7
def z5j:List Sl:=[.k,.k,.k,.k,.j,.k,.k,.k,.k,.k,.sh (.ty 2),.j,.j,.j,.j,.j,.j,.j,.j,.k,.k,.k,.k,.k,.k,.k,.k,.k,.k,.k,.k,.k]
def z5k:List ESh:=[.box (.agg [.ptr 1 [],.ty 2]),.box (.ty 86),.keep,.box (.ty 29)]
def zfj (a:Sl.Ts τ z5j) (b:ESh.Ts τ z5k):z2n:=⟨a.2.2.2.2.2.2.2.2.2.2.1,b.1.2.1,b.2.1,b.2.2.2.1⟩
def zfk (s:z2n):Sl.Ts τ z5j:=((),(),(),(),(),(),(),(),(),(),s.t10,(),(),(),(),(),(),(),(),(),(),(),(),(),(),(),(),(),(),(),(),(),())
def zfl (s:z2n):ESh.Ts τ z5k:=(((),s.b0,()),s.b1,(),s.b3,())
def zfm:Lp τ:={ ts:=z5j,hs:=z5k,S:=z2n,to:=zfj,ot:=zfk,oh:=zfl,hk:=[2,2,2,2],tk:=[2,0,4,5,0,0,2,5],ot_to:=fun _ _=>rfl,oh_to:=fun _ _=>rfl }
structure z2j where
  t22:Int
  b0:Int
  b1:z4
  b3:z7
def z4u:List Sl:=[.k,.k,.k,.k,.k,.j,.k,.k,.k,.k,.k,.k,.k,.k,.k,.k,.k,.k,.k,.k,.k,.k,.sh (.ty 2),.j,.j,.j,.j,.j,.j,.j,.j,.k]
def z4v:List ESh:=[.box (.agg [.ptr 1 [],.ty 2]),.box (.ty 86),.keep,.box (.ty 29)]
def zen (a:Sl.Ts τ z4u) (b:ESh.Ts τ z4v):z2j:=⟨a.2.2.2.2.2.2.2.2.2.2.2.2.2.2.2.2.2.2.2.2.2.2.1,b.1.2.1,b.2.1,b.2.2.2.1⟩
def zeo (s:z2j):Sl.Ts τ z4u:=((),(),(),(),(),(),(),(),(),(),(),(),(),(),(),(),(),(),(),(),(),(),s.t22,(),(),(),(),(),(),(),(),(),())
def zep (s:z2j):ESh.Ts τ z4v:=(((),s.b0,()),s.b1,(),s.b3,())
def zeq:Lp τ:={ ts:=z4u,hs:=z4v,S:=z2j,to:=zen,ot:=zeo,oh:=zep,hk:=[2,2,2,2],tk:=[2,0,4,5,0,0,2,5,0,0,0,0,0,0,0,0,0,0,0,2,5],ot_to:=fun _ _=>rfl,oh_to:=fun _ _=>rfl }
def z2y (N:Nat) (b0:Int) (b1:z4):Option (z7×Int×z4) :=
 ((zc6 N b0 (⟨0,(Vector.replicate 8 (default:Int)),(Vector.replicate 8 (default:Int)),(Vector.replicate 8 (default:Int))⟩:z7) b1).bind fun r1 =>
 (iter N (fun (s2:z2n) next3 =>
 (bif (decide (s2.t10 < 8)) then
 ((zf N s2.b0 s2.b1).bind fun r4 =>
 (bif (ibB s2.t10 8) then
 (next3 ⟨(IntKind.i64.wrap (s2.t10 + 1)),r4.2.1,r4.2.2,(⟨s2.b3.Number,(vset s2.b3.States ((s2.t10).toNat) r4.1),s2.b3.Seals,s2.b3.Sponsor⟩:z7)⟩)
 else none))
 else
 ((zag N s2.b0 s2.b3 s2.b1).bind fun r5 =>
 (iter N (fun (s6:z2j) next7 =>
 (bif (decide (s6.t22 < 8)) then
 ((zf N s6.b0 s6.b1).bind fun r8 =>
 (bif (ibB s6.t22 8) then
 (next7 ⟨(IntKind.i64.wrap (s6.t22 + 1)),r8.2.1,r8.2.2,(⟨s6.b3.Number,s6.b3.States,s6.b3.Seals,(vset s6.b3.Sponsor ((s6.t22).toNat) r8.1)⟩:z7)⟩)
 else none))
 else
 (some (s6.b3,s6.b0,s6.b1)))) ⟨0,r5.1,r5.2.2,r5.2.1⟩)))) ⟨0,r1.1,r1.2.2,r1.2.1⟩))
def z3r:Con τ:={ args:=[.ptr 0 []],L:=[.box (.agg [.ptr 1 [],.ty 35]),.box (.ty 99)],ret:=.ty 30,L':=[.box (.agg [.ptr 1 [],.ty 35]),.box (.ty 99)],R:=z7×Int×z4,dflt:=(default,default,default),F:=fun N a b=>z2y N b.1.2.1 b.2.1,of:=fun r=>(r.1,(((),r.2.1,()),r.2.2,())) }
noncomputable def zgz:Dat τ:={ D:=D0,tbl:=tblOf [(98,z7a),(104,zt),(105,z5i)],lp:=lpsOf [(4,zfm),(10,zeq)],k0:=2,mu:=[],un:=[] }
theorem zah:ConOk E C 59 z3r :=
  zg (D:=zgz) ⟨d0Ok,eGood,z9 ⟨zk7,⟨zx,⟨zgy,trivial⟩⟩⟩,fun _=>rfl⟩ z3r (fun a b=>(a,b.1.2.1,b.2.1)) none (fun _ _=>rfl) rfl (fun _ _ h=>nomatch h) 1000000 (fn:=Tryz.f59) Tryz.func59 rfl (by kernel_rfl) (by kernel_rfl) rfl (by intro N a b; kernel_rfl)
def zai (N:Nat) (b0:Int) (b1:z6) (b2:z4):Option (Int×z6×z4) :=
 ((zf N b0 b2).bind fun r1 =>
 (some (r1.2.1,(⟨b1.Kind,b1.Session,b1.Request,b1.Op,b1.Origin,b1.Seq,b1.Ops,b1.Epoch,r1.1,b1.Vector_,b1.Clock,b1.Part,b1.Site,b1.Sponsor,b1.Length⟩:z6),r1.2.2)))
def z5l:Con τ:={ args:=[.ptr 0 [],.ls 1 [.ptr 1 [.fld 8 39]]],L:=[.box (.agg [.ptr 2 [],.ty 35]),.box (.ty 64),.box (.ty 99)],ret:=.tup [],L':=[.box (.agg [.ptr 2 [],.ty 35]),.box (.ty 64),.box (.ty 99)],R:=Int×z6×z4,dflt:=(default,default,default),F:=fun N a b=>zai N b.1.2.1 b.2.1 b.2.2.1,of:=fun r=>((),(((),r.1,()),r.2.1,r.2.2,())) }
noncomputable def zfn:Dat τ:={ D:=D0,tbl:=tblOf [(104,zt)],lp:=lpsOf [],k0:=3,mu:=[],un:=[(1,3)] }
theorem zh0:ConOk E C 99 z5l :=
  zg (D:=zfn) ⟨d0Ok,eGood,z9 ⟨zx,trivial⟩,fun _=>rfl⟩ z5l (fun a b=>(b.1.2.1,b.2.1,b.2.2.1)) none (fun _ _=>rfl) rfl (fun _ _ h=>nomatch h) 1000000 (fn:=Tryz.f99) Tryz.func99 rfl (by kernel_rfl) (by kernel_rfl) rfl (by intro N a b; kernel_rfl)
structure z2k where
  t5:Int
  b0:Int
  b1:z6
  b2:z4
def z4w:List Sl:=[.k,.k,.k,.k,.j,.sh (.ty 2),.j,.j,.j,.j,.j,.j,.j,.j,.j]
def z4x:List ESh:=[.box (.agg [.ptr 2 [],.ty 2]),.box (.ty 63),.box (.ty 86)]
def zer (a:Sl.Ts τ z4w) (b:ESh.Ts τ z4x):z2k:=⟨a.2.2.2.2.2.1,b.1.2.1,b.2.1,b.2.2.1⟩
def zes (s:z2k):Sl.Ts τ z4w:=((),(),(),(),(),s.t5,(),(),(),(),(),(),(),(),(),())
def zet (s:z2k):ESh.Ts τ z4x:=(((),s.b0,()),s.b1,s.b2,())
def zeu:Lp τ:={ ts:=z4w,hs:=z4x,S:=z2k,to:=zer,ot:=zes,oh:=zet,hk:=[2,2,2],tk:=[2,3],ot_to:=fun _ _=>rfl,oh_to:=fun _ _=>rfl }
def zaj (N:Nat) (b0:Int) (b1:z6) (b2:z4):Option (Int×z6×z4) :=
 (iter N (fun (s1:z2k) next2 =>
 (bif (decide (s1.t5 < 8)) then
 ((zh N s1.b0 s1.b2).bind fun r3 =>
 (bif (ibB s1.t5 8) then
 (next2 ⟨(IntKind.i64.wrap (s1.t5 + 1)),r3.2.1,(⟨s1.b1.Kind,s1.b1.Session,s1.b1.Request,s1.b1.Op,s1.b1.Origin,s1.b1.Seq,s1.b1.Ops,s1.b1.Epoch,s1.b1.From,(vset s1.b1.Vector_ ((s1.t5).toNat) r3.1),s1.b1.Clock,s1.b1.Part,s1.b1.Site,s1.b1.Sponsor,s1.b1.Length⟩:z6),r3.2.2⟩)
 else none))
 else
 (some (s1.b0,s1.b1,s1.b2)))) ⟨0,b0,b1,b2⟩)
def z5m:Con τ:={ args:=[.ptr 0 [],.ptr 1 [.fld 9 40]],L:=[.box (.agg [.ptr 2 [],.ty 35]),.box (.ty 64),.box (.ty 99)],ret:=.tup [],L':=[.box (.agg [.ptr 2 [],.ty 35]),.box (.ty 64),.box (.ty 99)],R:=Int×z6×z4,dflt:=(default,default,default),F:=fun N a b=>zaj N b.1.2.1 b.2.1 b.2.2.1,of:=fun r=>((),(((),r.1,()),r.2.1,r.2.2,())) }
noncomputable def zfo:Dat τ:={ D:=D0,tbl:=tblOf [(139,ze)],lp:=lpsOf [(1,zeu)],k0:=3,mu:=[],un:=[] }
theorem zh1:ConOk E C 105 z5m :=
  zg (D:=zfo) ⟨d0Ok,eGood,z9 ⟨zm,trivial⟩,fun _=>rfl⟩ z5m (fun a b=>(b.1.2.1,b.2.1,b.2.2.1)) none (fun _ _=>rfl) rfl (fun _ _ h=>nomatch h) 1000000 (fn:=Tryz.f105) Tryz.func105 rfl (by kernel_rfl) (by kernel_rfl) rfl (by intro N a b; kernel_rfl)
def zc7 (N:Nat) (b0:Int) (b1:z6) (b2:z4):Option (Int×z6×z4) :=
 ((zh N b0 b2).bind fun r1 =>
 (some (r1.2.1,(⟨b1.Kind,b1.Session,b1.Request,b1.Op,b1.Origin,b1.Seq,b1.Ops,b1.Epoch,b1.From,b1.Vector_,r1.1,b1.Part,b1.Site,b1.Sponsor,b1.Length⟩:z6),r1.2.2)))
def z7b:Con τ:={ args:=[.ptr 0 [],.ls 1 [.ptr 1 [.fld 10 48]]],L:=[.box (.agg [.ptr 2 [],.ty 35]),.box (.ty 64),.box (.ty 99)],ret:=.tup [],L':=[.box (.agg [.ptr 2 [],.ty 35]),.box (.ty 64),.box (.ty 99)],R:=Int×z6×z4,dflt:=(default,default,default),F:=fun N a b=>zc7 N b.1.2.1 b.2.1 b.2.2.1,of:=fun r=>((),(((),r.1,()),r.2.1,r.2.2,())) }
noncomputable def ziz:Dat τ:={ D:=D0,tbl:=tblOf [(139,ze)],lp:=lpsOf [],k0:=3,mu:=[],un:=[(1,3)] }
theorem zk8:ConOk E C 98 z7b :=
  zg (D:=ziz) ⟨d0Ok,eGood,z9 ⟨zm,trivial⟩,fun _=>rfl⟩ z7b (fun a b=>(b.1.2.1,b.2.1,b.2.2.1)) none (fun _ _=>rfl) rfl (fun _ _ h=>nomatch h) 1000000 (fn:=Tryz.f98) Tryz.func98 rfl (by kernel_rfl) (by kernel_rfl) rfl (by intro N a b; kernel_rfl)
def zc8 (N:Nat) (b0:Int) (b1:GPart) (b2:z4):Option (Int×GPart×z4) :=
 ((zh N b0 b2).bind fun r1 =>
 (some (r1.2.1,(⟨r1.1,b1.Index,b1.Many,b1.Data⟩:GPart),r1.2.2)))
def z7c:Con τ:={ args:=[.ptr 0 [],.ls 1 [.ptr 1 [.fld 0 0]]],L:=[.box (.agg [.ptr 2 [],.ty 35]),.box (.ty 62),.box (.ty 99)],ret:=.tup [],L':=[.box (.agg [.ptr 2 [],.ty 35]),.box (.ty 62),.box (.ty 99)],R:=Int×GPart×z4,dflt:=(default,default,default),F:=fun N a b=>zc8 N b.1.2.1 b.2.1 b.2.2.1,of:=fun r=>((),(((),r.1,()),r.2.1,r.2.2,())) }
noncomputable def zj0:Dat τ:={ D:=D0,tbl:=tblOf [(139,ze)],lp:=lpsOf [],k0:=3,mu:=[],un:=[(1,3)] }
theorem zk9:ConOk E C 98 z7c :=
  zg (D:=zj0) ⟨d0Ok,eGood,z9 ⟨zm,trivial⟩,fun _=>rfl⟩ z7c (fun a b=>(b.1.2.1,b.2.1,b.2.2.1)) none (fun _ _=>rfl) rfl (fun _ _ h=>nomatch h) 1000000 (fn:=Tryz.f98) Tryz.func98 rfl (by kernel_rfl) (by kernel_rfl) rfl (by intro N a b; kernel_rfl)
def zak (N:Nat) (b0:Int) (b1:GPart) (b2:z4):Option (Int×GPart×z4) :=
 ((zf N b0 b2).bind fun r1 =>
 ((zf N r1.2.1 r1.2.2).bind fun r2 =>
 (some (r2.2.1,(⟨b1.Snap,r1.1,r2.1,b1.Data⟩:GPart),r2.2.2))))
def z5n:Con τ:={ args:=[.ptr 0 [],.ls 1 [.ptr 1 [.fld 1 1],.ptr 1 [.fld 2 2]]],L:=[.box (.agg [.ptr 2 [],.ty 35]),.box (.ty 62),.box (.ty 99)],ret:=.tup [],L':=[.box (.agg [.ptr 2 [],.ty 35]),.box (.ty 62),.box (.ty 99)],R:=Int×GPart×z4,dflt:=(default,default,default),F:=fun N a b=>zak N b.1.2.1 b.2.1 b.2.2.1,of:=fun r=>((),(((),r.1,()),r.2.1,r.2.2,())) }
noncomputable def zfp:Dat τ:={ D:=D0,tbl:=tblOf [(104,zt)],lp:=lpsOf [],k0:=3,mu:=[],un:=[(1,4)] }
theorem zh2:ConOk E C 99 z5n :=
  zg (D:=zfp) ⟨d0Ok,eGood,z9 ⟨zx,trivial⟩,fun _=>rfl⟩ z5n (fun a b=>(b.1.2.1,b.2.1,b.2.2.1)) none (fun _ _=>rfl) rfl (fun _ _ h=>nomatch h) 1000000 (fn:=Tryz.f99) Tryz.func99 rfl (by kernel_rfl) (by kernel_rfl) rfl (by intro N a b; kernel_rfl)
def zbh (N:Nat) (b0:Int) (b1:z4):Option ((List (Int))×Int×z4) :=
 (bif (!(b0==0)) then
 (some ([],b0,b1))
 else
 ((z91 N b1).bind fun r1 =>
 ((z23 N r1.2.1 b0 r1.2.2).bind fun r2 =>
 (some (r1.1,r2.1,r2.2)))))
def z6e:Con τ:={ args:=[.ptr 0 []],L:=[.box (.agg [.ptr 1 [],.ty 35]),.box (.ty 99)],ret:=.ty 31,L':=[.box (.agg [.ptr 1 [],.ty 35]),.box (.ty 99)],R:=(List (Int))×Int×z4,dflt:=(default,default,default),F:=fun N a b=>zbh N b.1.2.1 b.2.1,of:=fun r=>(r.1,(((),r.2.1,()),r.2.2,())) }
noncomputable def zh3:Dat τ:={ D:=D0,tbl:=tblOf [(157,z47),(73,z1i)],lp:=lpsOf [],k0:=2,mu:=[],un:=[] }
theorem zj1:ConOk E C 153 z6e :=
  zg (D:=zh3) ⟨d0Ok,eGood,z9 ⟨zc4,⟨z2c,trivial⟩⟩,fun _=>rfl⟩ z6e (fun a b=>(a,b.1.2.1,b.2.1)) none (fun _ _=>rfl) rfl (fun _ _ h=>nomatch h) 1000000 (fn:=Tryz.f153) Tryz.func153 rfl (by kernel_rfl) (by kernel_rfl) rfl (by intro N a b; kernel_rfl)
def z1p (N:Nat) (b0:Int) (b1:z4):Option (GPart×Int×z4) :=
 ((zc8 N b0 (⟨0,0,0,[]⟩:GPart) b1).bind fun r1 =>
 ((zak N r1.1 r1.2.1 r1.2.2).bind fun r2 =>
 ((zbh N r2.1 r2.2.2).bind fun r3 =>
 (some ((⟨r2.2.1.Snap,r2.2.1.Index,r2.2.1.Many,r3.1⟩:GPart),r3.2.1,r3.2.2)))))
def z40:Con τ:={ args:=[.ptr 0 []],L:=[.box (.agg [.ptr 1 [],.ty 35]),.box (.ty 99)],ret:=.ty 62,L':=[.box (.agg [.ptr 1 [],.ty 35]),.box (.ty 99)],R:=GPart×Int×z4,dflt:=(default,default,default),F:=fun N a b=>z1p N b.1.2.1 b.2.1,of:=fun r=>(r.1,(((),r.2.1,()),r.2.2,())) }
noncomputable def zj2:Dat τ:={ D:=D0,tbl:=tblOf [(98,z7c),(99,z5n),(153,z6e)],lp:=lpsOf [],k0:=2,mu:=[],un:=[] }
theorem zbi:ConOk E C 129 z40 :=
  zg (D:=zj2) ⟨d0Ok,eGood,z9 ⟨zk9,⟨zh2,⟨zj1,trivial⟩⟩⟩,fun _=>rfl⟩ z40 (fun a b=>(a,b.1.2.1,b.2.1)) none (fun _ _=>rfl) rfl (fun _ _ h=>nomatch h) 1000000 (fn:=Tryz.f129) Tryz.func129 rfl (by kernel_rfl) (by kernel_rfl) rfl (by intro N a b; kernel_rfl)
def zal (N:Nat) (b0:Int) (b1:z6) (b2:z4):Option (Int×z6×z4) :=
 ((zf N b0 b2).bind fun r1 =>
 ((zf N r1.2.1 r1.2.2).bind fun r2 =>
 (some (r2.2.1,(⟨b1.Kind,b1.Session,b1.Request,b1.Op,b1.Origin,b1.Seq,b1.Ops,b1.Epoch,b1.From,b1.Vector_,b1.Clock,b1.Part,r1.1,r2.1,b1.Length⟩:z6),r2.2.2))))
def z5o:Con τ:={ args:=[.ptr 0 [],.ls 1 [.ptr 1 [.fld 12 53],.ptr 1 [.fld 13 54]]],L:=[.box (.agg [.ptr 2 [],.ty 35]),.box (.ty 64),.box (.ty 99)],ret:=.tup [],L':=[.box (.agg [.ptr 2 [],.ty 35]),.box (.ty 64),.box (.ty 99)],R:=Int×z6×z4,dflt:=(default,default,default),F:=fun N a b=>zal N b.1.2.1 b.2.1 b.2.2.1,of:=fun r=>((),(((),r.1,()),r.2.1,r.2.2,())) }
noncomputable def zfq:Dat τ:={ D:=D0,tbl:=tblOf [(104,zt)],lp:=lpsOf [],k0:=3,mu:=[],un:=[(1,4)] }
theorem zh4:ConOk E C 99 z5o :=
  zg (D:=zfq) ⟨d0Ok,eGood,z9 ⟨zx,trivial⟩,fun _=>rfl⟩ z5o (fun a b=>(b.1.2.1,b.2.1,b.2.2.1)) none (fun _ _=>rfl) rfl (fun _ _ h=>nomatch h) 1000000 (fn:=Tryz.f99) Tryz.func99 rfl (by kernel_rfl) (by kernel_rfl) rfl (by intro N a b; kernel_rfl)
def z7d (N:Nat) (b0:Int) (b1:z6) (b2:z4):Option (Int×z6×z4) :=
 ((zf N b0 b2).bind fun r1 =>
 (some (r1.2.1,(⟨b1.Kind,b1.Session,b1.Request,b1.Op,b1.Origin,b1.Seq,b1.Ops,b1.Epoch,b1.From,b1.Vector_,b1.Clock,b1.Part,r1.1,b1.Sponsor,b1.Length⟩:z6),r1.2.2)))
def z5p:Con τ:={ args:=[.ptr 0 [],.ls 1 [.ptr 1 [.fld 12 53]]],L:=[.box (.agg [.ptr 2 [],.ty 35]),.box (.ty 64),.box (.ty 99)],ret:=.tup [],L':=[.box (.agg [.ptr 2 [],.ty 35]),.box (.ty 64),.box (.ty 99)],R:=Int×z6×z4,dflt:=(default,default,default),F:=fun N a b=>z7d N b.1.2.1 b.2.1 b.2.2.1,of:=fun r=>((),(((),r.1,()),r.2.1,r.2.2,())) }
noncomputable def zfr:Dat τ:={ D:=D0,tbl:=tblOf [(104,zt)],lp:=lpsOf [],k0:=3,mu:=[],un:=[(1,3)] }
theorem zh5:ConOk E C 99 z5p :=
  zg (D:=zfr) ⟨d0Ok,eGood,z9 ⟨zx,trivial⟩,fun _=>rfl⟩ z5p (fun a b=>(b.1.2.1,b.2.1,b.2.2.1)) none (fun _ _=>rfl) rfl (fun _ _ h=>nomatch h) 1000000 (fn:=Tryz.f99) Tryz.func99 rfl (by kernel_rfl) (by kernel_rfl) rfl (by intro N a b; kernel_rfl)
def zc9 (N:Nat) (b0:Int) (b1:z6) (b2:z4):Option (Int×z6×z4) :=
 ((zh N b0 b2).bind fun r1 =>
 (some (r1.2.1,(⟨b1.Kind,b1.Session,b1.Request,b1.Op,b1.Origin,b1.Seq,b1.Ops,b1.Epoch,b1.From,b1.Vector_,b1.Clock,b1.Part,b1.Site,b1.Sponsor,r1.1⟩:z6),r1.2.2)))
def z7e:Con τ:={ args:=[.ptr 0 [],.ls 1 [.ptr 1 [.fld 14 55]]],L:=[.box (.agg [.ptr 2 [],.ty 35]),.box (.ty 64),.box (.ty 99)],ret:=.tup [],L':=[.box (.agg [.ptr 2 [],.ty 35]),.box (.ty 64),.box (.ty 99)],R:=Int×z6×z4,dflt:=(default,default,default),F:=fun N a b=>zc9 N b.1.2.1 b.2.1 b.2.2.1,of:=fun r=>((),(((),r.1,()),r.2.1,r.2.2,())) }
noncomputable def zj3:Dat τ:={ D:=D0,tbl:=tblOf [(139,ze)],lp:=lpsOf [],k0:=3,mu:=[],un:=[(1,3)] }
theorem zka:ConOk E C 98 z7e :=
  zg (D:=zj3) ⟨d0Ok,eGood,z9 ⟨zm,trivial⟩,fun _=>rfl⟩ z7e (fun a b=>(b.1.2.1,b.2.1,b.2.2.1)) none (fun _ _=>rfl) rfl (fun _ _ h=>nomatch h) 1000000 (fn:=Tryz.f98) Tryz.func98 rfl (by kernel_rfl) (by kernel_rfl) rfl (by intro N a b; kernel_rfl)
def z2d (N:Nat) (b0:Int) (b1:z4):Option (z6×Int×z4) :=
 ((zad N b0 (⟨0,0,0,(⟨(⟨0,0⟩:zj),0,0,0,[],[],[]⟩:GOp),0,0,[],(⟨0,(Vector.replicate 8 (default:Int)),(Vector.replicate 8 (default:Int)),(Vector.replicate 8 (default:Int))⟩:z7),0,(Vector.replicate 8 (default:Int)),0,(⟨0,0,0,[]⟩:GPart),0,0,0⟩:z6) b1).bind fun r1 =>
 (bif (!(r1.1==0)) then
 (some (r1.2.1,r1.1,r1.2.2))
 else
 (bif (r1.2.1.Kind==0) then
 (some (r1.2.1,r1.1,r1.2.2))
 else
 (bif (r1.2.1.Kind==1) then
 ((zc1 N r1.1 r1.2.1 r1.2.2).bind fun r2 =>
 ((z9f N r2.1 r2.2.2).bind fun r3 =>
 (some ((⟨r2.2.1.Kind,r2.2.1.Session,r2.2.1.Request,r3.1,r2.2.1.Origin,r2.2.1.Seq,r2.2.1.Ops,r2.2.1.Epoch,r2.2.1.From,r2.2.1.Vector_,r2.2.1.Clock,r2.2.1.Part,r2.2.1.Site,r2.2.1.Sponsor,r2.2.1.Length⟩:z6),r3.2.1,r3.2.2))))
 else
 (bif (r1.2.1.Kind==2) then
 ((zaf N r1.1 r1.2.1 r1.2.2).bind fun r4 =>
 ((z8f N r4.1 r4.2.1 r4.2.2).bind fun r5 =>
 ((z3t N r5.1 r5.2.2).bind fun r6 =>
 (some ((⟨r5.2.1.Kind,r5.2.1.Session,r5.2.1.Request,r5.2.1.Op,r5.2.1.Origin,r5.2.1.Seq,r6.1,r5.2.1.Epoch,r5.2.1.From,r5.2.1.Vector_,r5.2.1.Clock,r5.2.1.Part,r5.2.1.Site,r5.2.1.Sponsor,r5.2.1.Length⟩:z6),r6.2.1,r6.2.2)))))
 else
 (bif (r1.2.1.Kind==3) then
 ((z2y N r1.1 r1.2.2).bind fun r7 =>
 (some ((⟨r1.2.1.Kind,r1.2.1.Session,r1.2.1.Request,r1.2.1.Op,r1.2.1.Origin,r1.2.1.Seq,r1.2.1.Ops,r7.1,r1.2.1.From,r1.2.1.Vector_,r1.2.1.Clock,r1.2.1.Part,r1.2.1.Site,r1.2.1.Sponsor,r1.2.1.Length⟩:z6),r7.2.1,r7.2.2)))
 else
 (bif (r1.2.1.Kind==4) then
 ((z8f N r1.1 r1.2.1 r1.2.2).bind fun r8 =>
 ((zai N r8.1 r8.2.1 r8.2.2).bind fun r9 =>
 ((zaj N r9.1 r9.2.1 r9.2.2).bind fun r10 =>
 ((zc7 N r10.1 r10.2.1 r10.2.2).bind fun r11 =>
 (some (r11.2.1,r11.1,r11.2.2))))))
 else
 (bif (r1.2.1.Kind==5) then
 ((z1p N r1.1 r1.2.2).bind fun r12 =>
 (some ((⟨r1.2.1.Kind,r1.2.1.Session,r1.2.1.Request,r1.2.1.Op,r1.2.1.Origin,r1.2.1.Seq,r1.2.1.Ops,r1.2.1.Epoch,r1.2.1.From,r1.2.1.Vector_,r1.2.1.Clock,r12.1,r1.2.1.Site,r1.2.1.Sponsor,r1.2.1.Length⟩:z6),r12.2.1,r12.2.2)))
 else
 (bif (r1.2.1.Kind==6) then
 ((zal N r1.1 r1.2.1 r1.2.2).bind fun r13 =>
 (some (r13.2.1,r13.1,r13.2.2)))
 else
 (bif (r1.2.1.Kind==7) then
 ((z7d N r1.1 r1.2.1 r1.2.2).bind fun r14 =>
 (some (r14.2.1,r14.1,r14.2.2)))
 else
 (bif (r1.2.1.Kind==8) then
 ((z7d N r1.1 r1.2.1 r1.2.2).bind fun r15 =>
 ((zc9 N r15.1 r15.2.1 r15.2.2).bind fun r16 =>
 (some (r16.2.1,r16.1,r16.2.2))))
 else
 (some (r1.2.1,40,r1.2.2)))))))))))))
def z2o:Con τ:={ args:=[.ptr 0 []],L:=[.box (.agg [.ptr 1 [],.ty 35]),.box (.ty 99)],ret:=.ty 64,L':=[.box (.agg [.ptr 1 [],.ty 35]),.box (.ty 99)],R:=z6×Int×z4,dflt:=(default,default,default),F:=fun N a b=>z2d N b.1.2.1 b.2.1,of:=fun r=>(r.1,(((),r.2.1,()),r.2.2,())) }
noncomputable def zh6:Dat τ:={ D:=D0,tbl:=tblOf [(99,z5f),(98,z73),(52,z4r),(99,z5h),(98,z77),(128,z48),(59,z3r),(99,z5l),(105,z5m),(98,z7b),(129,z40),(99,z5o),(99,z5p),(98,z7e)],lp:=lpsOf [],k0:=2,mu:=[],un:=[] }
theorem z7f:ConOk E C 72 z2o :=
  zg (D:=zh6) ⟨d0Ok,eGood,z9 ⟨zgv,⟨zk0,⟨zd4,⟨zgx,⟨zk5,⟨zc5,⟨zah,⟨zh0,⟨zh1,⟨zk8,⟨zbi,⟨zh4,⟨zh5,⟨zka,trivial⟩⟩⟩⟩⟩⟩⟩⟩⟩⟩⟩⟩⟩⟩,fun _=>rfl⟩ z2o (fun a b=>(a,b.1.2.1,b.2.1)) none (fun _ _=>rfl) rfl (fun _ _ h=>nomatch h) 1000000 (fn:=Tryz.f72) Tryz.func72 rfl (by kernel_rfl) (by kernel_rfl) rfl (by intro N a b; kernel_rfl)
def z7w (N:Nat) (b0:z4):Option (Int×z4) :=
 ((z6r N b0).bind fun r1 =>
 (bif r1.1 then
 (some (2,r1.2))
 else
 (bif (decide (0 < ((r1.2.b).length:Int))) then
 (some (13,r1.2))
 else
 (some (0,r1.2)))))
def z3u:Con τ:={ args:=[.ptr 0 []],L:=[.box (.ty 99)],ret:=.ty 35,L':=[.box (.ty 99)],R:=Int×z4,dflt:=(default,default),F:=fun N a b=>z7w N b.1,of:=fun r=>(r.1,(r.2,())) }
noncomputable def zmp:Dat τ:={ D:=D0,tbl:=tblOf [(63,z39)],lp:=lpsOf [],k0:=1,mu:=[],un:=[] }
theorem z9g:ConOk E C 74 z3u :=
  zg (D:=zmp) ⟨d0Ok,eGood,z9 ⟨z8z,trivial⟩,fun _=>rfl⟩ z3u (fun a b=>(a,b.1)) none (fun _ _=>rfl) rfl (fun _ _ h=>nomatch h) 1000000 (fn:=Tryz.f74) Tryz.func74 rfl (by kernel_rfl) (by kernel_rfl) rfl (by intro N a b; kernel_rfl)
def zkb (N:Nat) (b:List (Int)):Option (z6×Int) :=
 ((zbz N b).bind fun r1 =>
 ((z2d N 0 r1).bind fun r2 =>
 ((z7w N r2.2.2).bind fun r3 =>
 ((z23 N r3.1 r2.2.1 r3.2).bind fun r4 =>
 (bif (r4.1==0) then
 ((zy N r2.1).bind fun r5 =>
 (bif (!(r5==0)) then
 (some ((⟨0,0,0,(⟨(⟨0,0⟩:zj),0,0,0,[],[],[]⟩:GOp),0,0,[],(⟨0,(Vector.replicate 8 (default:Int)),(Vector.replicate 8 (default:Int)),(Vector.replicate 8 (default:Int))⟩:z7),0,(Vector.replicate 8 (default:Int)),0,(⟨0,0,0,[]⟩:GPart),0,0,0⟩:z6),r5))
 else
 (some (r2.1,0))))
 else
 (bif (!(r4.1==0)) then
 (some ((⟨0,0,0,(⟨(⟨0,0⟩:zj),0,0,0,[],[],[]⟩:GOp),0,0,[],(⟨0,(Vector.replicate 8 (default:Int)),(Vector.replicate 8 (default:Int)),(Vector.replicate 8 (default:Int))⟩:z7),0,(Vector.replicate 8 (default:Int)),0,(⟨0,0,0,[]⟩:GPart),0,0,0⟩:z6),r4.1))
 else
 (some (r2.1,0))))))))
def zb2:Con τ:={ args:=[.ty 31],L:=[],ret:=.tup [.ty 64,.ty 35],L':=[],R:=z6×Int,dflt:=(default,default),F:=fun N a b=>zkb N a.1,of:=fun r=>((r.1,r.2,()),()) }
noncomputable def zpd:Dat τ:={ D:=D0,tbl:=tblOf [(17,z7z),(72,z2o),(74,z3u),(73,z1i),(64,z3j)],lp:=lpsOf [],k0:=0,mu:=[],un:=[] }
theorem zqs:ConOk E C 30 zb2 :=
  zg (D:=zpd) ⟨d0Ok,eGood,z9 ⟨zea,⟨z7f,⟨z9g,⟨z2c,⟨z8k,trivial⟩⟩⟩⟩⟩,fun _=>rfl⟩ zb2 (fun a b=>(a.1,a.2.1)) none (fun _ _=>rfl) rfl (fun _ _ h=>nomatch h) 1000000 (fn:=Tryz.f30) Tryz.func30 rfl (by kernel_rfl) (by kernel_rfl) rfl (by intro N a b; kernel_rfl)
def zta (N:Nat) (a:List (Int)) (b:List (Int)):Option (Bool) :=
 (some ((strI a)==(strI b)))
def zj4:Con τ:={ args:=[.ty 31,.ty 31],L:=[],ret:=.ty 4,L':=[],R:=Bool,dflt:=default,F:=fun N a b=>zta N a.1 a.2.1,of:=fun r=>(r,()) }
noncomputable def zx3:Dat τ:={ D:=D0,tbl:=tblOf [],lp:=lpsOf [],k0:=0,mu:=[],un:=[] }
theorem zyr:ConOk E C 15 zj4 :=
  zg (D:=zx3) ⟨d0Ok,eGood,z9 trivial,fun _=>rfl⟩ zj4 (fun a b=>a) none (fun _ _=>rfl) rfl (fun _ _ h=>nomatch h) 1000000 (fn:=Tryz.f15) Tryz.func15 rfl (by kernel_rfl) (by kernel_rfl) rfl (by intro N a b; kernel_rfl)
def znc (N:Nat)  : Option (Bool) :=
 ((zr3 N (⟨7,0,0,(⟨(⟨0,0⟩:zj),0,0,0,[],[],[]⟩:GOp),0,0,[],(⟨0,(Vector.replicate 8 (default:Int)),(Vector.replicate 8 (default:Int)),(Vector.replicate 8 (default:Int))⟩:z7),0,(Vector.replicate 8 (default:Int)),0,(⟨0,0,0,[]⟩:GPart),3,0,0⟩:z6)).bind fun r1 =>
 ((zkb N [14,6]).bind fun r2 =>
 ((zta N r1.1 [14,6]).bind fun r3 =>
 (some ((((r3&&(r1.2==0))&&(r2.2==0))&&(r2.1.Kind==7))&&(r2.1.Site==3))))))
def zj5:Con τ:={ args:=[],L:=[],ret:=.ty 4,L':=[],R:=Bool,dflt:=default,F:=fun N a b=>znc N ,of:=fun r=>(r,()) }
noncomputable def zx4:Dat τ:={ D:=D0,tbl:=tblOf [(26,zgk),(30,zb2),(15,zj4)],lp:=lpsOf [],k0:=0,mu:=[],un:=[] }
theorem zys:ConOk E C 8 zj5 :=
  zg (D:=zx4) ⟨d0Ok,eGood,z9 ⟨zxb,⟨zqs,⟨zyr,trivial⟩⟩⟩,fun _=>rfl⟩ zj5 (fun a b=>a) none (fun _ _=>rfl) rfl (fun _ _ h=>nomatch h) 1000000 (fn:=Tryz.f8) Tryz.func8 rfl (by kernel_rfl) (by kernel_rfl) rfl (by intro N a b; kernel_rfl)
structure z3i where
  t13:Int
def z9h:List Sl:=[.k,.k,.k,.k,.j,.j,.k,.k,.k,.k,.k,.k,.k,.sh (.ty 2),.j,.j,.j,.j,.j,.j,.j,.j,.j,.j,.j,.j]
def z9i:List ESh:=[]
def znd (a:Sl.Ts τ z9h) (b:ESh.Ts τ z9i):z3i:=⟨a.2.2.2.2.2.2.2.2.2.2.2.2.2.1⟩
def zne (s:z3i):Sl.Ts τ z9h:=((),(),(),(),(),(),(),(),(),(),(),(),(),s.t13,(),(),(),(),(),(),(),(),(),(),(),(),())
def znf (s:z3i):ESh.Ts τ z9i:=()
def zng:Lp τ:={ ts:=z9h,hs:=z9i,S:=z3i,to:=znd,ot:=zne,oh:=znf,hk:=[],tk:=[],ot_to:=fun _ _=>rfl,oh_to:=fun _ _=>rfl }
def z95 (N:Nat) (s1_:List (Int)) (s2_:List (Int)):Option (Bool) :=
 (bif (!(((s1_).length:Int)==((s2_).length:Int))) then
 (some false)
 else
 (iter N (fun (s1:z3i) next2 =>
 (bif (decide (s1.t13 < ((s1_).length:Int))) then
 (bif (ibB s1.t13 ((s1_).length:Int)) then
 (bif (ibB s1.t13 ((s2_).length:Int)) then
 (bif (!((lget s1_ s1.t13 default)==(lget s2_ s1.t13 default))) then
 (some false)
 else
 (next2 ⟨(IntKind.i64.wrap (s1.t13 + 1))⟩))
 else none)
 else none)
 else
 (some true))) ⟨0⟩))
def za8:Con τ:={ args:=[.ty 31,.ty 31],L:=[],ret:=.ty 4,L':=[],R:=Bool,dflt:=default,F:=fun N a b=>z95 N a.1 a.2.1,of:=fun r=>(r,()) }
noncomputable def zog:Dat τ:={ D:=D0,tbl:=tblOf [],lp:=lpsOf [(4,zng)],k0:=0,mu:=[],un:=[] }
theorem zpe:ConOk E C 131 za8 :=
  zg (D:=zog) ⟨d0Ok,eGood,z9 trivial,fun _=>rfl⟩ za8 (fun a b=>a) none (fun _ _=>rfl) rfl (fun _ _ h=>nomatch h) 1000000 (fn:=Tryz.f131) Tryz.func131 rfl (by kernel_rfl) (by kernel_rfl) rfl (by intro N a b; kernel_rfl)
def zev (N:Nat) (b:List (Int)):Option ((List (Int))×Int×Int) :=
 ((z9e N b).bind fun r1 =>
 (bif (!(r1.2.2==0)) then
 (some ([],0,r1.2.2))
 else
 (bif (decide (r1.1 < 0)) then
 (some ([],0,11))
 else
 (bif (decide (1048576 < r1.1)) then
 (some ([],0,3))
 else
 (bif (decide ((IntKind.i64.wrap (((b).length:Int) - r1.2.1)) < (IntKind.i64.wrap (r1.1 + 4)))) then
 (some ([],0,10))
 else
 (bif (cutB (IntKind.i64.wrap (r1.2.1 + r1.1)) (IntKind.i64.wrap ((IntKind.i64.wrap (r1.2.1 + r1.1)) + 4)) ((b).length:Int)) then
 (bif (cutB r1.2.1 (IntKind.i64.wrap (r1.2.1 + r1.1)) ((b).length:Int)) then
 ((zns N [(cut b r1.2.1 (IntKind.i64.wrap (r1.2.1 + r1.1)))]).bind fun r2 =>
 ((zdv N r2).bind fun r3 =>
 ((z95 N (cut b (IntKind.i64.wrap (r1.2.1 + r1.1)) (IntKind.i64.wrap ((IntKind.i64.wrap (r1.2.1 + r1.1)) + 4))) r3).bind fun r4 =>
 (bif (!r4) then
 (some ([],0,12))
 else
 (bif (cutB r1.2.1 (IntKind.i64.wrap (r1.2.1 + r1.1)) ((b).length:Int)) then
 ((z3d N (cut b r1.2.1 (IntKind.i64.wrap (r1.2.1 + r1.1)))).bind fun r5 =>
 (some (r5,(IntKind.i64.wrap ((IntKind.i64.wrap (r1.2.1 + r1.1)) + 4)),0)))
 else none)))))
 else none)
 else none))))))
def zfs:Con τ:={ args:=[.ty 31],L:=[],ret:=.tup [.ty 31,.ty 3,.ty 35],L':=[],R:=(List (Int))×Int×Int,dflt:=(default,default,default),F:=fun N a b=>zev N a.1,of:=fun r=>((r.1,r.2.1,r.2.2,()),()) }
noncomputable def zv0:Dat τ:={ D:=D0,tbl:=tblOf [(130,zc0),(125,zm2),(124,ze6),(131,za8),(49,z3k)],lp:=lpsOf [],k0:=0,mu:=[],un:=[] }
theorem zx5:ConOk E C 81 zfs :=
  zg (D:=zv0) ⟨d0Ok,eGood,z9 ⟨zna,⟨zxt,⟨zq1,⟨zpe,⟨z8o,trivial⟩⟩⟩⟩⟩,fun _=>rfl⟩ zfs (fun a b=>(a.1,a.2.1,a.2.2.1)) none (fun _ _=>rfl) rfl (fun _ _ h=>nomatch h) 1000000 (fn:=Tryz.f81) Tryz.func81 rfl (by kernel_rfl) (by kernel_rfl) rfl (by intro N a b; kernel_rfl)
def zam (N:Nat) (b0:Int) (b1:GMsg) (b2:z4):Option (Int×GMsg×z4) :=
 ((zf N b0 b2).bind fun r1 =>
 (some (r1.2.1,(⟨r1.1,b1.From,b1.To,b1.Ballot,b1.Slot,b1.List_,b1.Entry,b1.Number,b1.Vector_,b1.Clock,b1.Origin,b1.Ops,b1.Epoch,b1.Part⟩:GMsg),r1.2.2)))
def z5q:Con τ:={ args:=[.ptr 0 [],.ls 1 [.ptr 1 [.fld 0 0]]],L:=[.box (.agg [.ptr 2 [],.ty 35]),.box (.ty 71),.box (.ty 99)],ret:=.tup [],L':=[.box (.agg [.ptr 2 [],.ty 35]),.box (.ty 71),.box (.ty 99)],R:=Int×GMsg×z4,dflt:=(default,default,default),F:=fun N a b=>zam N b.1.2.1 b.2.1 b.2.2.1,of:=fun r=>((),(((),r.1,()),r.2.1,r.2.2,())) }
noncomputable def zft:Dat τ:={ D:=D0,tbl:=tblOf [(104,zt)],lp:=lpsOf [],k0:=3,mu:=[],un:=[(1,3)] }
theorem zh7:ConOk E C 99 z5q :=
  zg (D:=zft) ⟨d0Ok,eGood,z9 ⟨zx,trivial⟩,fun _=>rfl⟩ z5q (fun a b=>(b.1.2.1,b.2.1,b.2.2.1)) none (fun _ _=>rfl) rfl (fun _ _ h=>nomatch h) 1000000 (fn:=Tryz.f99) Tryz.func99 rfl (by kernel_rfl) (by kernel_rfl) rfl (by intro N a b; kernel_rfl)
def z7g (N:Nat) (b0:Int) (b1:GMsg) (b2:z4):Option (Int×GMsg×z4) :=
 ((zf N b0 b2).bind fun r1 =>
 ((zf N r1.2.1 r1.2.2).bind fun r2 =>
 ((zf N r2.2.1 r2.2.2).bind fun r3 =>
 ((zf N r3.2.1 r3.2.2).bind fun r4 =>
 (some (r4.2.1,(⟨b1.Kind,(⟨r1.1,r2.1⟩:GAddr),(⟨r3.1,r4.1⟩:GAddr),b1.Ballot,b1.Slot,b1.List_,b1.Entry,b1.Number,b1.Vector_,b1.Clock,b1.Origin,b1.Ops,b1.Epoch,b1.Part⟩:GMsg),r4.2.2))))))
def z5r:Con τ:={ args:=[.ptr 0 [],.ls 1 [.ptr 1 [.fld 1 1,.fld 0 0],.ptr 1 [.fld 1 1,.fld 1 1],.ptr 1 [.fld 2 3,.fld 0 0],.ptr 1 [.fld 2 3,.fld 1 1]]],L:=[.box (.agg [.ptr 2 [],.ty 35]),.box (.ty 71),.box (.ty 99)],ret:=.tup [],L':=[.box (.agg [.ptr 2 [],.ty 35]),.box (.ty 71),.box (.ty 99)],R:=Int×GMsg×z4,dflt:=(default,default,default),F:=fun N a b=>z7g N b.1.2.1 b.2.1 b.2.2.1,of:=fun r=>((),(((),r.1,()),r.2.1,r.2.2,())) }
noncomputable def zfu:Dat τ:={ D:=D0,tbl:=tblOf [(104,zt)],lp:=lpsOf [],k0:=3,mu:=[],un:=[(1,6)] }
theorem zh8:ConOk E C 99 z5r :=
  zg (D:=zfu) ⟨d0Ok,eGood,z9 ⟨zx,trivial⟩,fun _=>rfl⟩ z5r (fun a b=>(b.1.2.1,b.2.1,b.2.2.1)) none (fun _ _=>rfl) rfl (fun _ _ h=>nomatch h) 1000000 (fn:=Tryz.f99) Tryz.func99 rfl (by kernel_rfl) (by kernel_rfl) rfl (by intro N a b; kernel_rfl)
def zca (N:Nat) (b0:Int) (b1:zc) (b2:z4):Option (Int×zc×z4) :=
 ((zh N b0 b2).bind fun r1 =>
 (some (r1.2.1,(⟨r1.1,b1.Replica⟩:zc),r1.2.2)))
def z7h:Con τ:={ args:=[.ptr 0 [],.ls 1 [.ptr 1 [.fld 0 0]]],L:=[.box (.agg [.ptr 2 [],.ty 35]),.box (.ty 68),.box (.ty 99)],ret:=.tup [],L':=[.box (.agg [.ptr 2 [],.ty 35]),.box (.ty 68),.box (.ty 99)],R:=Int×zc×z4,dflt:=(default,default,default),F:=fun N a b=>zca N b.1.2.1 b.2.1 b.2.2.1,of:=fun r=>((),(((),r.1,()),r.2.1,r.2.2,())) }
noncomputable def zj6:Dat τ:={ D:=D0,tbl:=tblOf [(139,ze)],lp:=lpsOf [],k0:=3,mu:=[],un:=[(1,3)] }
theorem zkc:ConOk E C 98 z7h :=
  zg (D:=zj6) ⟨d0Ok,eGood,z9 ⟨zm,trivial⟩,fun _=>rfl⟩ z7h (fun a b=>(b.1.2.1,b.2.1,b.2.2.1)) none (fun _ _=>rfl) rfl (fun _ _ h=>nomatch h) 1000000 (fn:=Tryz.f98) Tryz.func98 rfl (by kernel_rfl) (by kernel_rfl) rfl (by intro N a b; kernel_rfl)
def zan (N:Nat) (b0:Int) (b1:zc) (b2:z4):Option (Int×zc×z4) :=
 ((zf N b0 b2).bind fun r1 =>
 (some (r1.2.1,(⟨b1.Round,r1.1⟩:zc),r1.2.2)))
def z5s:Con τ:={ args:=[.ptr 0 [],.ls 1 [.ptr 1 [.fld 1 1]]],L:=[.box (.agg [.ptr 2 [],.ty 35]),.box (.ty 68),.box (.ty 99)],ret:=.tup [],L':=[.box (.agg [.ptr 2 [],.ty 35]),.box (.ty 68),.box (.ty 99)],R:=Int×zc×z4,dflt:=(default,default,default),F:=fun N a b=>zan N b.1.2.1 b.2.1 b.2.2.1,of:=fun r=>((),(((),r.1,()),r.2.1,r.2.2,())) }
noncomputable def zfv:Dat τ:={ D:=D0,tbl:=tblOf [(104,zt)],lp:=lpsOf [],k0:=3,mu:=[],un:=[(1,3)] }
theorem zh9:ConOk E C 99 z5s :=
  zg (D:=zfv) ⟨d0Ok,eGood,z9 ⟨zx,trivial⟩,fun _=>rfl⟩ z5s (fun a b=>(b.1.2.1,b.2.1,b.2.2.1)) none (fun _ _=>rfl) rfl (fun _ _ h=>nomatch h) 1000000 (fn:=Tryz.f99) Tryz.func99 rfl (by kernel_rfl) (by kernel_rfl) rfl (by intro N a b; kernel_rfl)
def zv (N:Nat) (b0:Int) (b1:z4):Option (zc×Int×z4) :=
 ((zca N b0 (⟨0,0⟩:zc) b1).bind fun r1 =>
 ((zan N r1.1 r1.2.1 r1.2.2).bind fun r2 =>
 (some (r2.2.1,r2.1,r2.2.2))))
def z3a:Con τ:={ args:=[.ptr 0 []],L:=[.box (.agg [.ptr 1 [],.ty 35]),.box (.ty 99)],ret:=.ty 68,L':=[.box (.agg [.ptr 1 [],.ty 35]),.box (.ty 99)],R:=zc×Int×z4,dflt:=(default,default,default),F:=fun N a b=>zv N b.1.2.1 b.2.1,of:=fun r=>(r.1,(((),r.2.1,()),r.2.2,())) }
noncomputable def zfw:Dat τ:={ D:=D0,tbl:=tblOf [(98,z7h),(99,z5s)],lp:=lpsOf [],k0:=2,mu:=[],un:=[] }
theorem za3:ConOk E C 154 z3a :=
  zg (D:=zfw) ⟨d0Ok,eGood,z9 ⟨zkc,⟨zh9,trivial⟩⟩,fun _=>rfl⟩ z3a (fun a b=>(a,b.1.2.1,b.2.1)) none (fun _ _=>rfl) rfl (fun _ _ h=>nomatch h) 1000000 (fn:=Tryz.f154) Tryz.func154 rfl (by kernel_rfl) (by kernel_rfl) rfl (by intro N a b; kernel_rfl)
def zu (N:Nat) (b0:Int) (b1:GMsg) (b2:z4):Option (Int×GMsg×z4) :=
 ((zh N b0 b2).bind fun r1 =>
 (some (r1.2.1,(⟨b1.Kind,b1.From,b1.To,b1.Ballot,r1.1,b1.List_,b1.Entry,b1.Number,b1.Vector_,b1.Clock,b1.Origin,b1.Ops,b1.Epoch,b1.Part⟩:GMsg),r1.2.2)))
def z7i:Con τ:={ args:=[.ptr 0 [],.ls 1 [.ptr 1 [.fld 4 7]]],L:=[.box (.agg [.ptr 2 [],.ty 35]),.box (.ty 71),.box (.ty 99)],ret:=.tup [],L':=[.box (.agg [.ptr 2 [],.ty 35]),.box (.ty 71),.box (.ty 99)],R:=Int×GMsg×z4,dflt:=(default,default,default),F:=fun N a b=>zu N b.1.2.1 b.2.1 b.2.2.1,of:=fun r=>((),(((),r.1,()),r.2.1,r.2.2,())) }
noncomputable def zj7:Dat τ:={ D:=D0,tbl:=tblOf [(139,ze)],lp:=lpsOf [],k0:=3,mu:=[],un:=[(1,3)] }
theorem zkd:ConOk E C 98 z7i :=
  zg (D:=zj7) ⟨d0Ok,eGood,z9 ⟨zm,trivial⟩,fun _=>rfl⟩ z7i (fun a b=>(b.1.2.1,b.2.1,b.2.2.1)) none (fun _ _=>rfl) rfl (fun _ _ h=>nomatch h) 1000000 (fn:=Tryz.f98) Tryz.func98 rfl (by kernel_rfl) (by kernel_rfl) rfl (by intro N a b; kernel_rfl)
def zcb (N:Nat) (b0:Int) (b1:zd) (b2:z4):Option (Int×zd×z4) :=
 ((zh N b0 b2).bind fun r1 =>
 (some (r1.2.1,(⟨r1.1,b1.Ballot,b1.Entry⟩:zd),r1.2.2)))
def z7j:Con τ:={ args:=[.ptr 0 [],.ls 1 [.ptr 1 [.fld 0 0]]],L:=[.box (.agg [.ptr 2 [],.ty 35]),.box (.ty 178),.box (.ty 99)],ret:=.tup [],L':=[.box (.agg [.ptr 2 [],.ty 35]),.box (.ty 178),.box (.ty 99)],R:=Int×zd×z4,dflt:=(default,default,default),F:=fun N a b=>zcb N b.1.2.1 b.2.1 b.2.2.1,of:=fun r=>((),(((),r.1,()),r.2.1,r.2.2,())) }
noncomputable def zj8:Dat τ:={ D:=D0,tbl:=tblOf [(139,ze)],lp:=lpsOf [],k0:=3,mu:=[],un:=[(1,3)] }
theorem zke:ConOk E C 98 z7j :=
  zg (D:=zj8) ⟨d0Ok,eGood,z9 ⟨zm,trivial⟩,fun _=>rfl⟩ z7j (fun a b=>(b.1.2.1,b.2.1,b.2.2.1)) none (fun _ _=>rfl) rfl (fun _ _ h=>nomatch h) 1000000 (fn:=Tryz.f98) Tryz.func98 rfl (by kernel_rfl) (by kernel_rfl) rfl (by intro N a b; kernel_rfl)
structure z2s where
  l:List (zd)
  t7:Int
  b0:Int
  b1:z4
def z6f:List Sl:=[.k,.k,.j,.sh (.own 178 2),.j,.k,.k,.sh (.ty 2),.j,.j,.j,.j,.j,.j,.j,.j,.j,.j,.j,.j,.j,.j,.j,.j,.j,.j,.j,.j,.j,.k]
def z6g:List ESh:=[.box (.agg [.ptr 1 [],.ty 2]),.box (.ty 86),.tail]
def zha (a:Sl.Ts τ z6f) (b:ESh.Ts τ z6g):z2s:=⟨a.2.2.2.1,a.2.2.2.2.2.2.2.1,b.1.2.1,b.2.1⟩
def zhb (s:z2s):Sl.Ts τ z6f:=((),(),(),s.l,(),(),(),s.t7,(),(),(),(),(),(),(),(),(),(),(),(),(),(),(),(),(),(),(),(),(),(),())
def zhc (s:z2s):ESh.Ts τ z6g:=(((),s.b0,()),s.b1,(),())
def zhd:Lp τ:={ ts:=z6f,hs:=z6g,S:=z2s,to:=zha,ot:=zhb,oh:=zhc,hk:=[2,2],tk:=[2,0,0,0,0,2],ot_to:=fun _ _=>rfl,oh_to:=fun _ _=>rfl }
def z1a (N:Nat) (b0:Int) (b1:z4):Option ((List (zd))×Int×z4) :=
 ((z8g N b0 b1).bind fun r1 =>
 (iter N (fun (s2:z2s) next3 =>
 (bif (decide (s2.t7 < r1.1)) then
 (bif (!(s2.b0==0)) then
 (some ([],s2.b0,s2.b1))
 else
 ((zcb N s2.b0 (⟨0,(⟨0,0⟩:zc),(⟨0,0,0,(⟨(⟨0,0⟩:zj),0,0,0,[],[],[]⟩:GOp),0,0,[],(⟨0,(Vector.replicate 8 (default:Int)),(Vector.replicate 8 (default:Int)),(Vector.replicate 8 (default:Int))⟩:z7),0,(Vector.replicate 8 (default:Int)),0,(⟨0,0,0,[]⟩:GPart),0,0,0⟩:z6)⟩:zd) s2.b1).bind fun r4 =>
 ((zv N r4.1 r4.2.2).bind fun r5 =>
 ((z2d N r5.2.1 r5.2.2).bind fun r6 =>
 (bif (lenB ((s2.l).length + ([(⟨r4.2.1.Slot,r5.1,r6.1⟩:zd)]).length) 528) then
 (next3 ⟨(s2.l++[(⟨r4.2.1.Slot,r5.1,r6.1⟩:zd)]),(IntKind.i64.wrap (s2.t7 + 1)),r6.2.1,r6.2.2⟩)
 else none)))))
 else
 (some (s2.l,s2.b0,s2.b1)))) ⟨[],0,r1.2.1,r1.2.2⟩))
def z7k:Con τ:={ args:=[.ptr 0 []],L:=[.box (.agg [.ptr 1 [],.ty 35]),.box (.ty 99)],ret:=.ty 69,L':=[.box (.agg [.ptr 1 [],.ty 35]),.box (.ty 99)],R:=(List (zd))×Int×z4,dflt:=(default,default,default),F:=fun N a b=>z1a N b.1.2.1 b.2.1,of:=fun r=>(r.1,(((),r.2.1,()),r.2.2,())) }
noncomputable def zj9:Dat τ:={ D:=D0,tbl:=tblOf [(152,z3z),(98,z7j),(154,z3a),(72,z2o)],lp:=lpsOf [(3,zhd)],k0:=2,mu:=[],un:=[] }
theorem zkf:ConOk E C 155 z7k :=
  zg (D:=zj9) ⟨d0Ok,eGood,z9 ⟨zbg,⟨zke,⟨za3,⟨z7f,trivial⟩⟩⟩⟩,fun _=>rfl⟩ z7k (fun a b=>(a,b.1.2.1,b.2.1)) none (fun _ _=>rfl) rfl (fun _ _ h=>nomatch h) 1000000 (fn:=Tryz.f155) Tryz.func155 rfl (by kernel_rfl) (by kernel_rfl) rfl (by intro N a b; kernel_rfl)
def z1b (N:Nat) (b0:Int) (b1:GMsg) (b2:z4):Option (Int×GMsg×z4) :=
 ((zh N b0 b2).bind fun r1 =>
 (some (r1.2.1,(⟨b1.Kind,b1.From,b1.To,b1.Ballot,b1.Slot,b1.List_,b1.Entry,r1.1,b1.Vector_,b1.Clock,b1.Origin,b1.Ops,b1.Epoch,b1.Part⟩:GMsg),r1.2.2)))
def z7l:Con τ:={ args:=[.ptr 0 [],.ls 1 [.ptr 1 [.fld 7 65]]],L:=[.box (.agg [.ptr 2 [],.ty 35]),.box (.ty 71),.box (.ty 99)],ret:=.tup [],L':=[.box (.agg [.ptr 2 [],.ty 35]),.box (.ty 71),.box (.ty 99)],R:=Int×GMsg×z4,dflt:=(default,default,default),F:=fun N a b=>z1b N b.1.2.1 b.2.1 b.2.2.1,of:=fun r=>((),(((),r.1,()),r.2.1,r.2.2,())) }
noncomputable def zja:Dat τ:={ D:=D0,tbl:=tblOf [(139,ze)],lp:=lpsOf [],k0:=3,mu:=[],un:=[(1,3)] }
theorem zkg:ConOk E C 98 z7l :=
  zg (D:=zja) ⟨d0Ok,eGood,z9 ⟨zm,trivial⟩,fun _=>rfl⟩ z7l (fun a b=>(b.1.2.1,b.2.1,b.2.2.1)) none (fun _ _=>rfl) rfl (fun _ _ h=>nomatch h) 1000000 (fn:=Tryz.f98) Tryz.func98 rfl (by kernel_rfl) (by kernel_rfl) rfl (by intro N a b; kernel_rfl)
structure z2l where
  t5:Int
  b0:Int
  b1:GMsg
  b2:z4
def z4y:List Sl:=[.k,.k,.k,.k,.j,.sh (.ty 2),.j,.j,.j,.j,.j,.j,.j,.j,.j]
def z4z:List ESh:=[.box (.agg [.ptr 2 [],.ty 2]),.box (.ty 70),.box (.ty 86)]
def zew (a:Sl.Ts τ z4y) (b:ESh.Ts τ z4z):z2l:=⟨a.2.2.2.2.2.1,b.1.2.1,b.2.1,b.2.2.1⟩
def zex (s:z2l):Sl.Ts τ z4y:=((),(),(),(),(),s.t5,(),(),(),(),(),(),(),(),(),())
def zey (s:z2l):ESh.Ts τ z4z:=(((),s.b0,()),s.b1,s.b2,())
def zez:Lp τ:={ ts:=z4y,hs:=z4z,S:=z2l,to:=zew,ot:=zex,oh:=zey,hk:=[2,2,2],tk:=[2,3],ot_to:=fun _ _=>rfl,oh_to:=fun _ _=>rfl }
def z1q (N:Nat) (b0:Int) (b1:GMsg) (b2:z4):Option (Int×GMsg×z4) :=
 (iter N (fun (s1:z2l) next2 =>
 (bif (decide (s1.t5 < 8)) then
 ((zh N s1.b0 s1.b2).bind fun r3 =>
 (bif (ibB s1.t5 8) then
 (next2 ⟨(IntKind.i64.wrap (s1.t5 + 1)),r3.2.1,(⟨s1.b1.Kind,s1.b1.From,s1.b1.To,s1.b1.Ballot,s1.b1.Slot,s1.b1.List_,s1.b1.Entry,s1.b1.Number,(vset s1.b1.Vector_ ((s1.t5).toNat) r3.1),s1.b1.Clock,s1.b1.Origin,s1.b1.Ops,s1.b1.Epoch,s1.b1.Part⟩:GMsg),r3.2.2⟩)
 else none))
 else
 (some (s1.b0,s1.b1,s1.b2)))) ⟨0,b0,b1,b2⟩)
def z5t:Con τ:={ args:=[.ptr 0 [],.ptr 1 [.fld 8 66]],L:=[.box (.agg [.ptr 2 [],.ty 35]),.box (.ty 71),.box (.ty 99)],ret:=.tup [],L':=[.box (.agg [.ptr 2 [],.ty 35]),.box (.ty 71),.box (.ty 99)],R:=Int×GMsg×z4,dflt:=(default,default,default),F:=fun N a b=>z1q N b.1.2.1 b.2.1 b.2.2.1,of:=fun r=>((),(((),r.1,()),r.2.1,r.2.2,())) }
noncomputable def zfx:Dat τ:={ D:=D0,tbl:=tblOf [(139,ze)],lp:=lpsOf [(1,zez)],k0:=3,mu:=[],un:=[] }
theorem zhe:ConOk E C 105 z5t :=
  zg (D:=zfx) ⟨d0Ok,eGood,z9 ⟨zm,trivial⟩,fun _=>rfl⟩ z5t (fun a b=>(b.1.2.1,b.2.1,b.2.2.1)) none (fun _ _=>rfl) rfl (fun _ _ h=>nomatch h) 1000000 (fn:=Tryz.f105) Tryz.func105 rfl (by kernel_rfl) (by kernel_rfl) rfl (by intro N a b; kernel_rfl)
def z50 (N:Nat) (b0:Int) (b1:GMsg) (b2:z4):Option (Int×GMsg×z4) :=
 ((zh N b0 b2).bind fun r1 =>
 (some (r1.2.1,(⟨b1.Kind,b1.From,b1.To,b1.Ballot,b1.Slot,b1.List_,b1.Entry,b1.Number,b1.Vector_,r1.1,b1.Origin,b1.Ops,b1.Epoch,b1.Part⟩:GMsg),r1.2.2)))
def z7m:Con τ:={ args:=[.ptr 0 [],.ls 1 [.ptr 1 [.fld 9 74]]],L:=[.box (.agg [.ptr 2 [],.ty 35]),.box (.ty 71),.box (.ty 99)],ret:=.tup [],L':=[.box (.agg [.ptr 2 [],.ty 35]),.box (.ty 71),.box (.ty 99)],R:=Int×GMsg×z4,dflt:=(default,default,default),F:=fun N a b=>z50 N b.1.2.1 b.2.1 b.2.2.1,of:=fun r=>((),(((),r.1,()),r.2.1,r.2.2,())) }
noncomputable def zjb:Dat τ:={ D:=D0,tbl:=tblOf [(139,ze)],lp:=lpsOf [],k0:=3,mu:=[],un:=[(1,3)] }
theorem zkh:ConOk E C 98 z7m :=
  zg (D:=zjb) ⟨d0Ok,eGood,z9 ⟨zm,trivial⟩,fun _=>rfl⟩ z7m (fun a b=>(b.1.2.1,b.2.1,b.2.2.1)) none (fun _ _=>rfl) rfl (fun _ _ h=>nomatch h) 1000000 (fn:=Tryz.f98) Tryz.func98 rfl (by kernel_rfl) (by kernel_rfl) rfl (by intro N a b; kernel_rfl)
def z41 (N:Nat) (b0:Int) (b1:GMsg) (b2:z4):Option (Int×GMsg×z4) :=
 ((zf N b0 b2).bind fun r1 =>
 (some (r1.2.1,(⟨b1.Kind,b1.From,b1.To,b1.Ballot,b1.Slot,b1.List_,b1.Entry,b1.Number,b1.Vector_,b1.Clock,r1.1,b1.Ops,b1.Epoch,b1.Part⟩:GMsg),r1.2.2)))
def z5u:Con τ:={ args:=[.ptr 0 [],.ls 1 [.ptr 1 [.fld 10 75]]],L:=[.box (.agg [.ptr 2 [],.ty 35]),.box (.ty 71),.box (.ty 99)],ret:=.tup [],L':=[.box (.agg [.ptr 2 [],.ty 35]),.box (.ty 71),.box (.ty 99)],R:=Int×GMsg×z4,dflt:=(default,default,default),F:=fun N a b=>z41 N b.1.2.1 b.2.1 b.2.2.1,of:=fun r=>((),(((),r.1,()),r.2.1,r.2.2,())) }
noncomputable def zfy:Dat τ:={ D:=D0,tbl:=tblOf [(104,zt)],lp:=lpsOf [],k0:=3,mu:=[],un:=[(1,3)] }
theorem zhf:ConOk E C 99 z5u :=
  zg (D:=zfy) ⟨d0Ok,eGood,z9 ⟨zx,trivial⟩,fun _=>rfl⟩ z5u (fun a b=>(b.1.2.1,b.2.1,b.2.2.1)) none (fun _ _=>rfl) rfl (fun _ _ h=>nomatch h) 1000000 (fn:=Tryz.f99) Tryz.func99 rfl (by kernel_rfl) (by kernel_rfl) rfl (by intro N a b; kernel_rfl)
def z8h (N:Nat) (b0:Int) (b1:GMsg) (b2:z4):Option (Int×GMsg×z4) :=
 (bif (b1.Kind==1) then
 (bif (b1.Kind==1) then
 ((zv N b0 b2).bind fun r1 =>
 ((zu N r1.2.1 (⟨b1.Kind,b1.From,b1.To,r1.1,b1.Slot,b1.List_,b1.Entry,b1.Number,b1.Vector_,b1.Clock,b1.Origin,b1.Ops,b1.Epoch,b1.Part⟩:GMsg) r1.2.2).bind fun r2 =>
 (some (r2.1,r2.2.1,r2.2.2))))
 else
 (bif (b1.Kind==2) then
 ((zv N b0 b2).bind fun r3 =>
 ((zu N r3.2.1 (⟨b1.Kind,b1.From,b1.To,r3.1,b1.Slot,b1.List_,b1.Entry,b1.Number,b1.Vector_,b1.Clock,b1.Origin,b1.Ops,b1.Epoch,b1.Part⟩:GMsg) r3.2.2).bind fun r4 =>
 ((z1a N r4.1 r4.2.2).bind fun r5 =>
 (some (r5.2.1,(⟨r4.2.1.Kind,r4.2.1.From,r4.2.1.To,r4.2.1.Ballot,r4.2.1.Slot,r5.1,r4.2.1.Entry,r4.2.1.Number,r4.2.1.Vector_,r4.2.1.Clock,r4.2.1.Origin,r4.2.1.Ops,r4.2.1.Epoch,r4.2.1.Part⟩:GMsg),r5.2.2)))))
 else
 (bif (b1.Kind==3) then
 ((zv N b0 b2).bind fun r6 =>
 ((z1a N r6.2.1 r6.2.2).bind fun r7 =>
 (some (r7.2.1,(⟨b1.Kind,b1.From,b1.To,r6.1,b1.Slot,r7.1,b1.Entry,b1.Number,b1.Vector_,b1.Clock,b1.Origin,b1.Ops,b1.Epoch,b1.Part⟩:GMsg),r7.2.2))))
 else
 (bif (b1.Kind==5) then
 ((zv N b0 b2).bind fun r8 =>
 (some (r8.2.1,(⟨b1.Kind,b1.From,b1.To,r8.1,b1.Slot,b1.List_,b1.Entry,b1.Number,b1.Vector_,b1.Clock,b1.Origin,b1.Ops,b1.Epoch,b1.Part⟩:GMsg),r8.2.2)))
 else
 (bif (b1.Kind==6) then
 ((z1a N b0 b2).bind fun r9 =>
 (some (r9.2.1,(⟨b1.Kind,b1.From,b1.To,b1.Ballot,b1.Slot,r9.1,b1.Entry,b1.Number,b1.Vector_,b1.Clock,b1.Origin,b1.Ops,b1.Epoch,b1.Part⟩:GMsg),r9.2.2)))
 else
 (bif (b1.Kind==8) then
 ((zu N b0 b1 b2).bind fun r10 =>
 (some (r10.1,r10.2.1,r10.2.2)))
 else
 (bif (b1.Kind==9) then
 ((z2d N b0 b2).bind fun r11 =>
 (some (r11.2.1,(⟨b1.Kind,b1.From,b1.To,b1.Ballot,b1.Slot,b1.List_,r11.1,b1.Number,b1.Vector_,b1.Clock,b1.Origin,b1.Ops,b1.Epoch,b1.Part⟩:GMsg),r11.2.2)))
 else
 (bif (b1.Kind==10) then
 ((z1b N b0 b1 b2).bind fun r12 =>
 ((z1q N r12.1 r12.2.1 r12.2.2).bind fun r13 =>
 ((z50 N r13.1 r13.2.1 r13.2.2).bind fun r14 =>
 (some (r14.1,r14.2.1,r14.2.2)))))
 else
 (bif (b1.Kind==11) then
 ((z1b N b0 b1 b2).bind fun r15 =>
 ((z41 N r15.1 r15.2.1 r15.2.2).bind fun r16 =>
 ((zu N r16.1 r16.2.1 r16.2.2).bind fun r17 =>
 ((z3t N r17.1 r17.2.2).bind fun r18 =>
 (some (r18.2.1,(⟨r17.2.1.Kind,r17.2.1.From,r17.2.1.To,r17.2.1.Ballot,r17.2.1.Slot,r17.2.1.List_,r17.2.1.Entry,r17.2.1.Number,r17.2.1.Vector_,r17.2.1.Clock,r17.2.1.Origin,r18.1,r17.2.1.Epoch,r17.2.1.Part⟩:GMsg),r18.2.2))))))
 else
 (bif (b1.Kind==12) then
 ((z2y N b0 b2).bind fun r19 =>
 (some (r19.2.1,(⟨b1.Kind,b1.From,b1.To,b1.Ballot,b1.Slot,b1.List_,b1.Entry,b1.Number,b1.Vector_,b1.Clock,b1.Origin,b1.Ops,r19.1,b1.Part⟩:GMsg),r19.2.2)))
 else
 (bif (b1.Kind==13) then
 ((z1p N b0 b2).bind fun r20 =>
 (some (r20.2.1,(⟨b1.Kind,b1.From,b1.To,b1.Ballot,b1.Slot,b1.List_,b1.Entry,b1.Number,b1.Vector_,b1.Clock,b1.Origin,b1.Ops,b1.Epoch,r20.1⟩:GMsg),r20.2.2)))
 else
 (bif (b1.Kind==14) then
 ((z1b N b0 b1 b2).bind fun r21 =>
 ((z1q N r21.1 r21.2.1 r21.2.2).bind fun r22 =>
 (some (r22.1,r22.2.1,r22.2.2))))
 else
 (bif (b1.Kind==15) then
 ((zu N b0 b1 b2).bind fun r23 =>
 ((z1p N r23.1 r23.2.2).bind fun r24 =>
 (some (r24.2.1,(⟨r23.2.1.Kind,r23.2.1.From,r23.2.1.To,r23.2.1.Ballot,r23.2.1.Slot,r23.2.1.List_,r23.2.1.Entry,r23.2.1.Number,r23.2.1.Vector_,r23.2.1.Clock,r23.2.1.Origin,r23.2.1.Ops,r23.2.1.Epoch,r24.1⟩:GMsg),r24.2.2))))
 else
 (some (b0,b1,b2)))))))))))))))
 else
 (bif (b1.Kind==4) then
 (bif (b1.Kind==4) then
 ((zv N b0 b2).bind fun r25 =>
 ((zu N r25.2.1 (⟨b1.Kind,b1.From,b1.To,r25.1,b1.Slot,b1.List_,b1.Entry,b1.Number,b1.Vector_,b1.Clock,b1.Origin,b1.Ops,b1.Epoch,b1.Part⟩:GMsg) r25.2.2).bind fun r26 =>
 (some (r26.1,r26.2.1,r26.2.2))))
 else
 (bif (b1.Kind==2) then
 ((zv N b0 b2).bind fun r27 =>
 ((zu N r27.2.1 (⟨b1.Kind,b1.From,b1.To,r27.1,b1.Slot,b1.List_,b1.Entry,b1.Number,b1.Vector_,b1.Clock,b1.Origin,b1.Ops,b1.Epoch,b1.Part⟩:GMsg) r27.2.2).bind fun r28 =>
 ((z1a N r28.1 r28.2.2).bind fun r29 =>
 (some (r29.2.1,(⟨r28.2.1.Kind,r28.2.1.From,r28.2.1.To,r28.2.1.Ballot,r28.2.1.Slot,r29.1,r28.2.1.Entry,r28.2.1.Number,r28.2.1.Vector_,r28.2.1.Clock,r28.2.1.Origin,r28.2.1.Ops,r28.2.1.Epoch,r28.2.1.Part⟩:GMsg),r29.2.2)))))
 else
 (bif (b1.Kind==3) then
 ((zv N b0 b2).bind fun r30 =>
 ((z1a N r30.2.1 r30.2.2).bind fun r31 =>
 (some (r31.2.1,(⟨b1.Kind,b1.From,b1.To,r30.1,b1.Slot,r31.1,b1.Entry,b1.Number,b1.Vector_,b1.Clock,b1.Origin,b1.Ops,b1.Epoch,b1.Part⟩:GMsg),r31.2.2))))
 else
 (bif (b1.Kind==5) then
 ((zv N b0 b2).bind fun r32 =>
 (some (r32.2.1,(⟨b1.Kind,b1.From,b1.To,r32.1,b1.Slot,b1.List_,b1.Entry,b1.Number,b1.Vector_,b1.Clock,b1.Origin,b1.Ops,b1.Epoch,b1.Part⟩:GMsg),r32.2.2)))
 else
 (bif (b1.Kind==6) then
 ((z1a N b0 b2).bind fun r33 =>
 (some (r33.2.1,(⟨b1.Kind,b1.From,b1.To,b1.Ballot,b1.Slot,r33.1,b1.Entry,b1.Number,b1.Vector_,b1.Clock,b1.Origin,b1.Ops,b1.Epoch,b1.Part⟩:GMsg),r33.2.2)))
 else
 (bif (b1.Kind==8) then
 ((zu N b0 b1 b2).bind fun r34 =>
 (some (r34.1,r34.2.1,r34.2.2)))
 else
 (bif (b1.Kind==9) then
 ((z2d N b0 b2).bind fun r35 =>
 (some (r35.2.1,(⟨b1.Kind,b1.From,b1.To,b1.Ballot,b1.Slot,b1.List_,r35.1,b1.Number,b1.Vector_,b1.Clock,b1.Origin,b1.Ops,b1.Epoch,b1.Part⟩:GMsg),r35.2.2)))
 else
 (bif (b1.Kind==10) then
 ((z1b N b0 b1 b2).bind fun r36 =>
 ((z1q N r36.1 r36.2.1 r36.2.2).bind fun r37 =>
 ((z50 N r37.1 r37.2.1 r37.2.2).bind fun r38 =>
 (some (r38.1,r38.2.1,r38.2.2)))))
 else
 (bif (b1.Kind==11) then
 ((z1b N b0 b1 b2).bind fun r39 =>
 ((z41 N r39.1 r39.2.1 r39.2.2).bind fun r40 =>
 ((zu N r40.1 r40.2.1 r40.2.2).bind fun r41 =>
 ((z3t N r41.1 r41.2.2).bind fun r42 =>
 (some (r42.2.1,(⟨r41.2.1.Kind,r41.2.1.From,r41.2.1.To,r41.2.1.Ballot,r41.2.1.Slot,r41.2.1.List_,r41.2.1.Entry,r41.2.1.Number,r41.2.1.Vector_,r41.2.1.Clock,r41.2.1.Origin,r42.1,r41.2.1.Epoch,r41.2.1.Part⟩:GMsg),r42.2.2))))))
 else
 (bif (b1.Kind==12) then
 ((z2y N b0 b2).bind fun r43 =>
 (some (r43.2.1,(⟨b1.Kind,b1.From,b1.To,b1.Ballot,b1.Slot,b1.List_,b1.Entry,b1.Number,b1.Vector_,b1.Clock,b1.Origin,b1.Ops,r43.1,b1.Part⟩:GMsg),r43.2.2)))
 else
 (bif (b1.Kind==13) then
 ((z1p N b0 b2).bind fun r44 =>
 (some (r44.2.1,(⟨b1.Kind,b1.From,b1.To,b1.Ballot,b1.Slot,b1.List_,b1.Entry,b1.Number,b1.Vector_,b1.Clock,b1.Origin,b1.Ops,b1.Epoch,r44.1⟩:GMsg),r44.2.2)))
 else
 (bif (b1.Kind==14) then
 ((z1b N b0 b1 b2).bind fun r45 =>
 ((z1q N r45.1 r45.2.1 r45.2.2).bind fun r46 =>
 (some (r46.1,r46.2.1,r46.2.2))))
 else
 (bif (b1.Kind==15) then
 ((zu N b0 b1 b2).bind fun r47 =>
 ((z1p N r47.1 r47.2.2).bind fun r48 =>
 (some (r48.2.1,(⟨r47.2.1.Kind,r47.2.1.From,r47.2.1.To,r47.2.1.Ballot,r47.2.1.Slot,r47.2.1.List_,r47.2.1.Entry,r47.2.1.Number,r47.2.1.Vector_,r47.2.1.Clock,r47.2.1.Origin,r47.2.1.Ops,r47.2.1.Epoch,r48.1⟩:GMsg),r48.2.2))))
 else
 (some (b0,b1,b2)))))))))))))))
 else
 (bif (b1.Kind==7) then
 ((zv N b0 b2).bind fun r49 =>
 ((zu N r49.2.1 (⟨b1.Kind,b1.From,b1.To,r49.1,b1.Slot,b1.List_,b1.Entry,b1.Number,b1.Vector_,b1.Clock,b1.Origin,b1.Ops,b1.Epoch,b1.Part⟩:GMsg) r49.2.2).bind fun r50 =>
 (some (r50.1,r50.2.1,r50.2.2))))
 else
 (bif (b1.Kind==2) then
 ((zv N b0 b2).bind fun r51 =>
 ((zu N r51.2.1 (⟨b1.Kind,b1.From,b1.To,r51.1,b1.Slot,b1.List_,b1.Entry,b1.Number,b1.Vector_,b1.Clock,b1.Origin,b1.Ops,b1.Epoch,b1.Part⟩:GMsg) r51.2.2).bind fun r52 =>
 ((z1a N r52.1 r52.2.2).bind fun r53 =>
 (some (r53.2.1,(⟨r52.2.1.Kind,r52.2.1.From,r52.2.1.To,r52.2.1.Ballot,r52.2.1.Slot,r53.1,r52.2.1.Entry,r52.2.1.Number,r52.2.1.Vector_,r52.2.1.Clock,r52.2.1.Origin,r52.2.1.Ops,r52.2.1.Epoch,r52.2.1.Part⟩:GMsg),r53.2.2)))))
 else
 (bif (b1.Kind==3) then
 ((zv N b0 b2).bind fun r54 =>
 ((z1a N r54.2.1 r54.2.2).bind fun r55 =>
 (some (r55.2.1,(⟨b1.Kind,b1.From,b1.To,r54.1,b1.Slot,r55.1,b1.Entry,b1.Number,b1.Vector_,b1.Clock,b1.Origin,b1.Ops,b1.Epoch,b1.Part⟩:GMsg),r55.2.2))))
 else
 (bif (b1.Kind==5) then
 ((zv N b0 b2).bind fun r56 =>
 (some (r56.2.1,(⟨b1.Kind,b1.From,b1.To,r56.1,b1.Slot,b1.List_,b1.Entry,b1.Number,b1.Vector_,b1.Clock,b1.Origin,b1.Ops,b1.Epoch,b1.Part⟩:GMsg),r56.2.2)))
 else
 (bif (b1.Kind==6) then
 ((z1a N b0 b2).bind fun r57 =>
 (some (r57.2.1,(⟨b1.Kind,b1.From,b1.To,b1.Ballot,b1.Slot,r57.1,b1.Entry,b1.Number,b1.Vector_,b1.Clock,b1.Origin,b1.Ops,b1.Epoch,b1.Part⟩:GMsg),r57.2.2)))
 else
 (bif (b1.Kind==8) then
 ((zu N b0 b1 b2).bind fun r58 =>
 (some (r58.1,r58.2.1,r58.2.2)))
 else
 (bif (b1.Kind==9) then
 ((z2d N b0 b2).bind fun r59 =>
 (some (r59.2.1,(⟨b1.Kind,b1.From,b1.To,b1.Ballot,b1.Slot,b1.List_,r59.1,b1.Number,b1.Vector_,b1.Clock,b1.Origin,b1.Ops,b1.Epoch,b1.Part⟩:GMsg),r59.2.2)))
 else
 (bif (b1.Kind==10) then
 ((z1b N b0 b1 b2).bind fun r60 =>
 ((z1q N r60.1 r60.2.1 r60.2.2).bind fun r61 =>
 ((z50 N r61.1 r61.2.1 r61.2.2).bind fun r62 =>
 (some (r62.1,r62.2.1,r62.2.2)))))
 else
 (bif (b1.Kind==11) then
 ((z1b N b0 b1 b2).bind fun r63 =>
 ((z41 N r63.1 r63.2.1 r63.2.2).bind fun r64 =>
 ((zu N r64.1 r64.2.1 r64.2.2).bind fun r65 =>
 ((z3t N r65.1 r65.2.2).bind fun r66 =>
 (some (r66.2.1,(⟨r65.2.1.Kind,r65.2.1.From,r65.2.1.To,r65.2.1.Ballot,r65.2.1.Slot,r65.2.1.List_,r65.2.1.Entry,r65.2.1.Number,r65.2.1.Vector_,r65.2.1.Clock,r65.2.1.Origin,r66.1,r65.2.1.Epoch,r65.2.1.Part⟩:GMsg),r66.2.2))))))
 else
 (bif (b1.Kind==12) then
 ((z2y N b0 b2).bind fun r67 =>
 (some (r67.2.1,(⟨b1.Kind,b1.From,b1.To,b1.Ballot,b1.Slot,b1.List_,b1.Entry,b1.Number,b1.Vector_,b1.Clock,b1.Origin,b1.Ops,r67.1,b1.Part⟩:GMsg),r67.2.2)))
 else
 (bif (b1.Kind==13) then
 ((z1p N b0 b2).bind fun r68 =>
 (some (r68.2.1,(⟨b1.Kind,b1.From,b1.To,b1.Ballot,b1.Slot,b1.List_,b1.Entry,b1.Number,b1.Vector_,b1.Clock,b1.Origin,b1.Ops,b1.Epoch,r68.1⟩:GMsg),r68.2.2)))
 else
 (bif (b1.Kind==14) then
 ((z1b N b0 b1 b2).bind fun r69 =>
 ((z1q N r69.1 r69.2.1 r69.2.2).bind fun r70 =>
 (some (r70.1,r70.2.1,r70.2.2))))
 else
 (bif (b1.Kind==15) then
 ((zu N b0 b1 b2).bind fun r71 =>
 ((z1p N r71.1 r71.2.2).bind fun r72 =>
 (some (r72.2.1,(⟨r71.2.1.Kind,r71.2.1.From,r71.2.1.To,r71.2.1.Ballot,r71.2.1.Slot,r71.2.1.List_,r71.2.1.Entry,r71.2.1.Number,r71.2.1.Vector_,r71.2.1.Clock,r71.2.1.Origin,r71.2.1.Ops,r71.2.1.Epoch,r72.1⟩:GMsg),r72.2.2))))
 else
 (some (b0,b1,b2)))))))))))))))))
def z7n:Con τ:={ args:=[.ptr 0 [],.ptr 1 []],L:=[.box (.agg [.ptr 2 [],.ty 35]),.box (.ty 71),.box (.ty 99)],ret:=.tup [],L':=[.box (.agg [.ptr 2 [],.ty 35]),.box (.ty 71),.box (.ty 99)],R:=Int×GMsg×z4,dflt:=(default,default,default),F:=fun N a b=>z8h N b.1.2.1 b.2.1 b.2.2.1,of:=fun r=>((),(((),r.1,()),r.2.1,r.2.2,())) }
noncomputable def zjc:Dat τ:={ D:=D0,tbl:=tblOf [(154,z3a),(98,z7i),(155,z7k),(72,z2o),(98,z7l),(105,z5t),(98,z7m),(99,z5u),(128,z48),(59,z3r),(129,z40)],lp:=lpsOf [],k0:=3,mu:=[],un:=[] }
theorem zki:ConOk E C 132 z7n :=
  zg (D:=zjc) ⟨d0Ok,eGood,z9 ⟨za3,⟨zkd,⟨zkf,⟨z7f,⟨zkg,⟨zhe,⟨zkh,⟨zhf,⟨zc5,⟨zah,⟨zbi,trivial⟩⟩⟩⟩⟩⟩⟩⟩⟩⟩⟩,fun _=>rfl⟩ z7n (fun a b=>(b.1.2.1,b.2.1,b.2.2.1)) none (fun _ _=>rfl) rfl (fun _ _ h=>nomatch h) 1000000 (fn:=Tryz.f132) Tryz.func132 rfl (by kernel_rfl) (by kernel_rfl) rfl (by intro N a b; kernel_rfl)
def z6h (N:Nat) (b0:Int) (b1:z4):Option (GMsg×Int×z4) :=
 ((zam N b0 (⟨0,(⟨0,0⟩:GAddr),(⟨0,0⟩:GAddr),(⟨0,0⟩:zc),0,[],(⟨0,0,0,(⟨(⟨0,0⟩:zj),0,0,0,[],[],[]⟩:GOp),0,0,[],(⟨0,(Vector.replicate 8 (default:Int)),(Vector.replicate 8 (default:Int)),(Vector.replicate 8 (default:Int))⟩:z7),0,(Vector.replicate 8 (default:Int)),0,(⟨0,0,0,[]⟩:GPart),0,0,0⟩:z6),0,(Vector.replicate 8 (default:Int)),0,0,[],(⟨0,(Vector.replicate 8 (default:Int)),(Vector.replicate 8 (default:Int)),(Vector.replicate 8 (default:Int))⟩:z7),(⟨0,0,0,[]⟩:GPart)⟩:GMsg) b1).bind fun r1 =>
 (bif ((r1.1==0)&&((decide (r1.2.1.Kind < 1)) || (decide (15 < r1.2.1.Kind)))) then
 ((z7g N 40 r1.2.1 r1.2.2).bind fun r2 =>
 ((z8h N r2.1 r2.2.1 r2.2.2).bind fun r3 =>
 (some (r3.2.1,r3.1,r3.2.2))))
 else
 ((z7g N r1.1 r1.2.1 r1.2.2).bind fun r4 =>
 ((z8h N r4.1 r4.2.1 r4.2.2).bind fun r5 =>
 (some (r5.2.1,r5.1,r5.2.2))))))
def z32:Con τ:={ args:=[.ptr 0 []],L:=[.box (.agg [.ptr 1 [],.ty 35]),.box (.ty 99)],ret:=.ty 71,L':=[.box (.agg [.ptr 1 [],.ty 35]),.box (.ty 99)],R:=GMsg×Int×z4,dflt:=(default,default,default),F:=fun N a b=>z6h N b.1.2.1 b.2.1,of:=fun r=>(r.1,(((),r.2.1,()),r.2.2,())) }
noncomputable def zf0:Dat τ:={ D:=D0,tbl:=tblOf [(99,z5q),(99,z5r),(132,z7n)],lp:=lpsOf [],k0:=2,mu:=[],un:=[] }
theorem z9j:ConOk E C 82 z32 :=
  zg (D:=zf0) ⟨d0Ok,eGood,z9 ⟨zh7,⟨zh8,⟨zki,trivial⟩⟩⟩,fun _=>rfl⟩ z32 (fun a b=>(a,b.1.2.1,b.2.1)) none (fun _ _=>rfl) rfl (fun _ _ h=>nomatch h) 1000000 (fn:=Tryz.f82) Tryz.func82 rfl (by kernel_rfl) (by kernel_rfl) rfl (by intro N a b; kernel_rfl)
def z9r (N:Nat) (b:List (Int)):Option (GMsg×Int) :=
 ((zev N b).bind fun r1 =>
 (bif (!(r1.2.2==0)) then
 (some ((⟨0,(⟨0,0⟩:GAddr),(⟨0,0⟩:GAddr),(⟨0,0⟩:zc),0,[],(⟨0,0,0,(⟨(⟨0,0⟩:zj),0,0,0,[],[],[]⟩:GOp),0,0,[],(⟨0,(Vector.replicate 8 (default:Int)),(Vector.replicate 8 (default:Int)),(Vector.replicate 8 (default:Int))⟩:z7),0,(Vector.replicate 8 (default:Int)),0,(⟨0,0,0,[]⟩:GPart),0,0,0⟩:z6),0,(Vector.replicate 8 (default:Int)),0,0,[],(⟨0,(Vector.replicate 8 (default:Int)),(Vector.replicate 8 (default:Int)),(Vector.replicate 8 (default:Int))⟩:z7),(⟨0,0,0,[]⟩:GPart)⟩:GMsg),r1.2.2))
 else
 (bif (decide (r1.2.1 < ((b).length:Int))) then
 (some ((⟨0,(⟨0,0⟩:GAddr),(⟨0,0⟩:GAddr),(⟨0,0⟩:zc),0,[],(⟨0,0,0,(⟨(⟨0,0⟩:zj),0,0,0,[],[],[]⟩:GOp),0,0,[],(⟨0,(Vector.replicate 8 (default:Int)),(Vector.replicate 8 (default:Int)),(Vector.replicate 8 (default:Int))⟩:z7),0,(Vector.replicate 8 (default:Int)),0,(⟨0,0,0,[]⟩:GPart),0,0,0⟩:z6),0,(Vector.replicate 8 (default:Int)),0,0,[],(⟨0,(Vector.replicate 8 (default:Int)),(Vector.replicate 8 (default:Int)),(Vector.replicate 8 (default:Int))⟩:z7),(⟨0,0,0,[]⟩:GPart)⟩:GMsg),13))
 else
 ((zbz N r1.1).bind fun r2 =>
 ((z6h N 0 r2).bind fun r3 =>
 ((z7w N r3.2.2).bind fun r4 =>
 ((z23 N r4.1 r3.2.1 r4.2).bind fun r5 =>
 (bif (r5.1==0) then
 ((z6p N r3.1).bind fun r6 =>
 (bif (!(r6==0)) then
 (some ((⟨0,(⟨0,0⟩:GAddr),(⟨0,0⟩:GAddr),(⟨0,0⟩:zc),0,[],(⟨0,0,0,(⟨(⟨0,0⟩:zj),0,0,0,[],[],[]⟩:GOp),0,0,[],(⟨0,(Vector.replicate 8 (default:Int)),(Vector.replicate 8 (default:Int)),(Vector.replicate 8 (default:Int))⟩:z7),0,(Vector.replicate 8 (default:Int)),0,(⟨0,0,0,[]⟩:GPart),0,0,0⟩:z6),0,(Vector.replicate 8 (default:Int)),0,0,[],(⟨0,(Vector.replicate 8 (default:Int)),(Vector.replicate 8 (default:Int)),(Vector.replicate 8 (default:Int))⟩:z7),(⟨0,0,0,[]⟩:GPart)⟩:GMsg),r6))
 else
 (some (r3.1,0))))
 else
 (bif (!(r5.1==0)) then
 (some ((⟨0,(⟨0,0⟩:GAddr),(⟨0,0⟩:GAddr),(⟨0,0⟩:zc),0,[],(⟨0,0,0,(⟨(⟨0,0⟩:zj),0,0,0,[],[],[]⟩:GOp),0,0,[],(⟨0,(Vector.replicate 8 (default:Int)),(Vector.replicate 8 (default:Int)),(Vector.replicate 8 (default:Int))⟩:z7),0,(Vector.replicate 8 (default:Int)),0,(⟨0,0,0,[]⟩:GPart),0,0,0⟩:z6),0,(Vector.replicate 8 (default:Int)),0,0,[],(⟨0,(Vector.replicate 8 (default:Int)),(Vector.replicate 8 (default:Int)),(Vector.replicate 8 (default:Int))⟩:z7),(⟨0,0,0,[]⟩:GPart)⟩:GMsg),r5.1))
 else
 (some (r3.1,0)))))))))))
def zb3:Con τ:={ args:=[.ty 31],L:=[],ret:=.tup [.ty 71,.ty 35],L':=[],R:=GMsg×Int,dflt:=(default,default),F:=fun N a b=>z9r N a.1,of:=fun r=>((r.1,r.2,()),()) }
noncomputable def zpf:Dat τ:={ D:=D0,tbl:=tblOf [(81,zfs),(17,z7z),(82,z32),(74,z3u),(73,z1i),(67,z6y)],lp:=lpsOf [],k0:=0,mu:=[],un:=[] }
theorem zqt:ConOk E C 33 zb3 :=
  zg (D:=zpf) ⟨d0Ok,eGood,z9 ⟨zx5,⟨zea,⟨z9j,⟨z9g,⟨z2c,⟨zdt,trivial⟩⟩⟩⟩⟩⟩,fun _=>rfl⟩ zb3 (fun a b=>(a.1,a.2.1)) none (fun _ _=>rfl) rfl (fun _ _ h=>nomatch h) 1000000 (fn:=Tryz.f33) Tryz.func33 rfl (by kernel_rfl) (by kernel_rfl) rfl (by intro N a b; kernel_rfl)
structure z59 where
  u:Int
  t8:Int
def zcc:List Sl:=[.k,.k,.j,.j,.j,.sh (.ty 12),.j,.j,.sh (.ty 2),.j,.j,.j,.j,.j,.j,.j,.j,.j,.j,.j,.j,.j,.j,.j,.j,.j,.j,.j,.j,.j,.j,.j,.j,.j,.j,.j,.j,.j,.j,.j,.j,.j,.j,.j,.j,.j,.j,.j,.j,.j,.j,.j,.j,.j,.j,.j,.j,.j]
def zcd:List ESh:=[.keep]
def zqu (a:Sl.Ts τ zcc) (b:ESh.Ts τ zcd):z59:=⟨a.2.2.2.2.2.1,a.2.2.2.2.2.2.2.2.1⟩
def zqv (s:z59):Sl.Ts τ zcc:=((),(),(),(),(),s.u,(),(),s.t8,(),(),(),(),(),(),(),(),(),(),(),(),(),(),(),(),(),(),(),(),(),(),(),(),(),(),(),(),(),(),(),(),(),(),(),(),(),(),(),(),(),(),(),(),(),(),(),(),(),())
def zqw (s:z59):ESh.Ts τ zcd:=((),())
def zqx:Lp τ:={ ts:=zcc,hs:=zcd,S:=z59,to:=zqu,ot:=zqv,oh:=zqw,hk:=[4],tk:=[],ot_to:=fun _ _=>rfl,oh_to:=fun _ _=>rfl }
def zce (N:Nat) (b:Nat) (g0:List (Int)):Option (Int×Int×Int×(List (Int))) :=
 (iter N (fun (s1:z59) next2 =>
 (bif (decide (s1.t8 < 10)) then
 (bif (decide (((b:Nat):Int)≤s1.t8)) then
 (some (0,0,10,g0))
 else
 (bif (ibB s1.t8 ((b:Nat):Int)) then
 (bif (decide ((s1.t8).toNat < (g0).length)) then
 (bif (((s1.t8==9)&&(decide (1 < (g0.getD ((s1.t8).toNat) default)))) || (((g0.getD ((s1.t8).toNat) default)==0)&&(decide (0 < s1.t8)))) then
 (some (0,0,11,g0))
 else
 (bif (decide (0≤(IntKind.i64.wrap (7 * s1.t8)))) then
 (bif (decide ((g0.getD ((s1.t8).toNat) default) < 128)) then
 (bif ((bits .and .u64 (bits .or .u64 s1.u (shl .u64 (IntKind.u64.wrap (bits .and .u8 (g0.getD ((s1.t8).toNat) default) 127)) (IntKind.i64.wrap (7 * s1.t8)))) 1)==1) then
 (some ((IntKind.i64.wrap (bits .xor .u64 IntKind.u64.max (shr .u64 (bits .or .u64 s1.u (shl .u64 (IntKind.u64.wrap (bits .and .u8 (g0.getD ((s1.t8).toNat) default) 127)) (IntKind.i64.wrap (7 * s1.t8)))) 1))),(IntKind.i64.wrap (s1.t8 + 1)),0,g0))
 else
 (some ((IntKind.i64.wrap (shr .u64 (bits .or .u64 s1.u (shl .u64 (IntKind.u64.wrap (bits .and .u8 (g0.getD ((s1.t8).toNat) default) 127)) (IntKind.i64.wrap (7 * s1.t8)))) 1)),(IntKind.i64.wrap (s1.t8 + 1)),0,g0)))
 else
 (next2 ⟨(bits .or .u64 s1.u (shl .u64 (IntKind.u64.wrap (bits .and .u8 (g0.getD ((s1.t8).toNat) default) 127)) (IntKind.i64.wrap (7 * s1.t8)))),(IntKind.i64.wrap (s1.t8 + 1))⟩))
 else none))
 else none)
 else none))
 else
 (some (0,0,11,g0)))) ⟨0,0⟩)
def zdg:Con τ:={ args:=[.msl 5 0],L:=[.gbx 5],ret:=.tup [.ty 2,.ty 3,.ty 35],L':=[.gbx 5],R:=Int×Int×Int×(List (Int)),dflt:=(default,default,default,default),F:=fun N a b=>zce N a.1 b.1,of:=fun r=>((r.1,r.2.1,r.2.2.1,()),(r.2.2.2,())) }
noncomputable def zs7:Dat τ:={ D:=D0,tbl:=tblOf [],lp:=lpsOf [(3,zqx)],k0:=1,mu:=[],un:=[] }
theorem ztq:ConOk E C 130 zdg :=
  zg (D:=zs7) ⟨d0Ok,eGood,z9 trivial,fun _=>rfl⟩ zdg (fun a b=>(a.1,a.2.1,a.2.2.1,b.1)) none (fun _ _=>rfl) rfl (fun _ _ h=>nomatch h) 1000000 (fn:=Tryz.f130) Tryz.func130 rfl (by kernel_rfl) (by kernel_rfl) rfl (by intro N a b; kernel_rfl)
structure z80 where
  sum:Int
  t17:Int
def zeb:List Sl:=[.k,.k,.k,.sh (.ty 167),.k,.k,.k,.j,.j,.k,.k,.k,.k,.k,.k,.k,.k,.sh (.ty 2),.j,.j,.j,.j,.j,.j,.j,.j,.j,.j,.j,.j,.j,.j,.j,.j,.j,.j,.j,.k,.k,.k]
def zec:List ESh:=[.keep]
def ztr (a:Sl.Ts τ zeb) (b:ESh.Ts τ zec):z80:=⟨a.2.2.2.1,a.2.2.2.2.2.2.2.2.2.2.2.2.2.2.2.2.2.1⟩
def zts (s:z80):Sl.Ts τ zeb:=((),(),(),s.sum,(),(),(),(),(),(),(),(),(),(),(),(),(),s.t17,(),(),(),(),(),(),(),(),(),(),(),(),(),(),(),(),(),(),(),(),(),(),())
def ztt (s:z80):ESh.Ts τ zec:=((),())
def ztu:Lp τ:={ ts:=zeb,hs:=zec,S:=z80,to:=ztr,ot:=zts,oh:=ztt,hk:=[4],tk:=[],ot_to:=fun _ _=>rfl,oh_to:=fun _ _=>rfl }
structure z4h where
  sum:Int
  t25:Int
def zdh:List Sl:=[.k,.k,.k,.sh (.ty 167),.k,.k,.k,.k,.j,.k,.k,.k,.k,.k,.k,.k,.k,.k,.k,.k,.k,.k,.k,.k,.k,.sh (.ty 2),.j,.j,.j,.j,.j,.j,.j,.j,.j,.j,.k,.k,.k,.k]
def zdi:List ESh:=[.keep]
def zs8 (a:Sl.Ts τ zdh) (b:ESh.Ts τ zdi):z4h:=⟨a.2.2.2.1,a.2.2.2.2.2.2.2.2.2.2.2.2.2.2.2.2.2.2.2.2.2.2.2.2.2.1⟩
def zs9 (s:z4h):Sl.Ts τ zdh:=((),(),(),s.sum,(),(),(),(),(),(),(),(),(),(),(),(),(),(),(),(),(),(),(),(),(),s.t25,(),(),(),(),(),(),(),(),(),(),(),(),(),(),())
def zsa (s:z4h):ESh.Ts τ zdi:=((),())
def zsb:Lp τ:={ ts:=zdh,hs:=zdi,S:=z4h,to:=zs8,ot:=zs9,oh:=zsa,hk:=[4],tk:=[0,0,0,0,0,0,0,0,0,0,0,0,0,0,0,0,0,0,0,2],ot_to:=fun _ _=>rfl,oh_to:=fun _ _=>rfl }
def zf1 (N:Nat) (l:Nat) (l2:Nat) (l3:Nat) (l4:Bool) (g0:List (Int)):Option (Int×(List (Int))) :=
 (iter N (fun (s1:z80) next2 =>
 (bif (decide (s1.t17 < ((l2:Nat):Int))) then
 (bif (ibB s1.t17 ((l2:Nat):Int)) then
 (bif (decide ((l + (s1.t17).toNat) < (g0).length)) then
 (iter N (fun (s3:z4h) next4 =>
 (bif (decide (s3.t25 < 8)) then
 (bif ((bits .and .u32 s3.sum 1)==1) then
 (next4 ⟨(bits .xor .u32 (shr .u32 s3.sum 1) 3988292384),(IntKind.i64.wrap (s3.t25 + 1))⟩)
 else
 (next4 ⟨(shr .u32 s3.sum 1),(IntKind.i64.wrap (s3.t25 + 1))⟩))
 else
 (next2 ⟨s3.sum,(IntKind.i64.wrap (s1.t17 + 1))⟩))) ⟨(bits .xor .u32 s1.sum (IntKind.u32.wrap (g0.getD (l + (s1.t17).toNat) default))),0⟩)
 else none)
 else none)
 else
 (some ((bits .xor .u32 IntKind.u32.max s1.sum),g0)))) ⟨4294967295,0⟩)
def zfz:Con τ:={ args:=[.ls 1 [.wsl 5 0]],L:=[.gbx 5],ret:=.ty 167,L':=[.gbx 5],R:=Int×(List (Int)),dflt:=(default,default),F:=fun N a b=>zf1 N a.1.1.1 a.1.1.2.1 a.1.1.2.2.1 a.1.1.2.2.2 b.1,of:=fun r=>(r.1,(r.2,())) }
noncomputable def zv1:Dat τ:={ D:=D0,tbl:=tblOf [],lp:=lpsOf [(6,ztu),(10,zsb)],k0:=1,mu:=[],un:=[(3,3)] }
theorem zx6:ConOk E C 125 zfz :=
  zg (D:=zv1) ⟨d0Ok,eGood,z9 trivial,fun _=>rfl⟩ zfz (fun a b=>(a,b.1)) none (fun _ _=>rfl) rfl (fun _ _ h=>nomatch h) 1000000 (fn:=Tryz.f125) Tryz.func125 rfl (by kernel_rfl) (by kernel_rfl) rfl (by intro N a b; kernel_rfl)
structure z2e where
  t13:Int
def z7o:List Sl:=[.k,.k,.k,.k,.j,.j,.k,.k,.k,.k,.k,.k,.k,.sh (.ty 2),.j,.j,.j,.j,.j,.j,.j,.j,.j,.j,.j,.j]
def z7p:List ESh:=[.keep]
def zjd (a:Sl.Ts τ z7o) (b:ESh.Ts τ z7p):z2e:=⟨a.2.2.2.2.2.2.2.2.2.2.2.2.2.1⟩
def zje (s:z2e):Sl.Ts τ z7o:=((),(),(),(),(),(),(),(),(),(),(),(),(),s.t13,(),(),(),(),(),(),(),(),(),(),(),(),())
def zjf (s:z2e):ESh.Ts τ z7p:=((),())
def zjg:Lp τ:={ ts:=z7o,hs:=z7p,S:=z2e,to:=zjd,ot:=zje,oh:=zjf,hk:=[4],tk:=[],ot_to:=fun _ _=>rfl,oh_to:=fun _ _=>rfl }
def z66 (N:Nat) (s1_:Nat) (s1_2:Nat) (s1_3:Nat) (s1_4:Bool) (s2_:List (Int)) (g0:List (Int)):Option (Bool×(List (Int))) :=
 (bif (!(((s1_2:Nat):Int)==((s2_).length:Int))) then
 (some (false,g0))
 else
 (iter N (fun (s1:z2e) next2 =>
 (bif (decide (s1.t13 < ((s1_2:Nat):Int))) then
 (bif (ibB s1.t13 ((s1_2:Nat):Int)) then
 (bif (decide ((s1_ + (s1.t13).toNat) < (g0).length)) then
 (bif (ibB s1.t13 ((s2_).length:Int)) then
 (bif (!((g0.getD (s1_ + (s1.t13).toNat) default)==(lget s2_ s1.t13 default))) then
 (some (false,g0))
 else
 (next2 ⟨(IntKind.i64.wrap (s1.t13 + 1))⟩))
 else none)
 else none)
 else none)
 else
 (some (true,g0)))) ⟨0⟩))
def z81:Con τ:={ args:=[.wsl 5 0,.ty 31],L:=[.gbx 5],ret:=.ty 4,L':=[.gbx 5],R:=Bool×(List (Int)),dflt:=(default,default),F:=fun N a b=>z66 N a.1.1 a.1.2.1 a.1.2.2.1 a.1.2.2.2 a.2.1 b.1,of:=fun r=>(r.1,(r.2,())) }
noncomputable def zkj:Dat τ:={ D:=D0,tbl:=tblOf [],lp:=lpsOf [(4,zjg)],k0:=1,mu:=[],un:=[] }
theorem zlg:ConOk E C 131 z81 :=
  zg (D:=zkj) ⟨d0Ok,eGood,z9 trivial,fun _=>rfl⟩ z81 (fun a b=>(a,b.1)) none (fun _ _=>rfl) rfl (fun _ _ h=>nomatch h) 1000000 (fn:=Tryz.f131) Tryz.func131 rfl (by kernel_rfl) (by kernel_rfl) rfl (by intro N a b; kernel_rfl)
def z67 (N:Nat) (s:Nat) (s2:Nat) (s3:Nat) (s4:Bool) (g0:List (Int)):Option ((List (Int))×(List (Int))) :=
 (bif (s4 || (Nat.blt 0 s2)) then
 (bif ((lenB ((((g0.drop s).take s2)).length) 1)&&(Nat.ble (s + s2) (g0).length)) then
 (some (((g0.drop s).take s2),g0))
 else none)
 else none)
def z82:Con τ:={ args:=[.wsl 5 0],L:=[.gbx 5],ret:=.ty 31,L':=[.gbx 5],R:=(List (Int))×(List (Int)),dflt:=(default,default),F:=fun N a b=>z67 N a.1.1 a.1.2.1 a.1.2.2.1 a.1.2.2.2 b.1,of:=fun r=>(r.1,(r.2,())) }
noncomputable def zkk:Dat τ:={ D:=D0,tbl:=tblOf [],lp:=lpsOf [],k0:=1,mu:=[],un:=[] }
theorem zlh:ConOk E C 49 z82 :=
  zg (D:=zkk) ⟨d0Ok,eGood,z9 trivial,fun _=>rfl⟩ z82 (fun a b=>(a,b.1)) none (fun _ _=>rfl) rfl (fun _ _ h=>nomatch h) 1000000 (fn:=Tryz.f49) Tryz.func49 rfl (by kernel_rfl) (by kernel_rfl) rfl (by intro N a b; kernel_rfl)
def z9s (N:Nat) (b:Nat) (g0:List (Int)):Option ((List (Int))×Int×Int×(List (Int))) :=
 ((zce N b g0).bind fun r1 =>
 (bif (!(r1.2.2.1==0)) then
 (some ([],0,r1.2.2.1,r1.2.2.2))
 else
 (bif (decide (r1.1 < 0)) then
 (some ([],0,11,r1.2.2.2))
 else
 (bif (decide (1048576 < r1.1)) then
 (some ([],0,3,r1.2.2.2))
 else
 (bif (decide ((IntKind.i64.wrap (((b:Nat):Int) - r1.2.1)) < (IntKind.i64.wrap (r1.1 + 4)))) then
 (some ([],0,10,r1.2.2.2))
 else
 (bif (cutW (IntKind.i64.wrap (r1.2.1 + r1.1)) (IntKind.i64.wrap ((IntKind.i64.wrap (r1.2.1 + r1.1)) + 4)) ((b:Nat):Int) ((b:Nat):Int)) then
 (bif (cutW r1.2.1 (IntKind.i64.wrap (r1.2.1 + r1.1)) ((b:Nat):Int) ((b:Nat):Int)) then
 ((zf1 N (0 + (r1.2.1).toNat) (((IntKind.i64.wrap (r1.2.1 + r1.1))).toNat - (r1.2.1).toNat) (b - (r1.2.1).toNat) (Nat.blt 0 b) r1.2.2.2).bind fun r2 =>
 ((zdv N r2.1).bind fun r3 =>
 ((z66 N (0 + ((IntKind.i64.wrap (r1.2.1 + r1.1))).toNat) (((IntKind.i64.wrap ((IntKind.i64.wrap (r1.2.1 + r1.1)) + 4))).toNat - ((IntKind.i64.wrap (r1.2.1 + r1.1))).toNat) (b - ((IntKind.i64.wrap (r1.2.1 + r1.1))).toNat) (Nat.blt 0 b) r3 r2.2).bind fun r4 =>
 (bif (!r4.1) then
 (some ([],0,12,r4.2))
 else
 (bif (cutW r1.2.1 (IntKind.i64.wrap (r1.2.1 + r1.1)) ((b:Nat):Int) ((b:Nat):Int)) then
 ((z67 N (0 + (r1.2.1).toNat) (((IntKind.i64.wrap (r1.2.1 + r1.1))).toNat - (r1.2.1).toNat) (b - (r1.2.1).toNat) (Nat.blt 0 b) r4.2).bind fun r5 =>
 (some (r5.1,(IntKind.i64.wrap ((IntKind.i64.wrap (r1.2.1 + r1.1)) + 4)),0,r5.2)))
 else none)))))
 else none)
 else none))))))
def zb4:Con τ:={ args:=[.msl 5 0],L:=[.gbx 5],ret:=.tup [.ty 31,.ty 3,.ty 35],L':=[.gbx 5],R:=(List (Int))×Int×Int×(List (Int)),dflt:=(default,default,default,default),F:=fun N a b=>z9s N a.1 b.1,of:=fun r=>((r.1,r.2.1,r.2.2.1,()),(r.2.2.2,())) }
noncomputable def zpg:Dat τ:={ D:=D0,tbl:=tblOf [(130,zdg),(125,zfz),(124,ze6),(131,z81),(49,z82)],lp:=lpsOf [],k0:=1,mu:=[],un:=[] }
theorem zqy:ConOk E C 81 zb4 :=
  zg (D:=zpg) ⟨d0Ok,eGood,z9 ⟨ztq,⟨zx6,⟨zq1,⟨zlg,⟨zlh,trivial⟩⟩⟩⟩⟩,fun _=>rfl⟩ zb4 (fun a b=>(a.1,a.2.1,a.2.2.1,b.1)) none (fun _ _=>rfl) rfl (fun _ _ h=>nomatch h) 1000000 (fn:=Tryz.f81) Tryz.func81 rfl (by kernel_rfl) (by kernel_rfl) rfl (by intro N a b; kernel_rfl)
def z6s (N:Nat) (b:Nat) (g0:List (Int)):Option (GMsg×Int×(List (Int))) :=
 ((z9s N b g0).bind fun r1 =>
 (bif (!(r1.2.2.1==0)) then
 (some ((⟨0,(⟨0,0⟩:GAddr),(⟨0,0⟩:GAddr),(⟨0,0⟩:zc),0,[],(⟨0,0,0,(⟨(⟨0,0⟩:zj),0,0,0,[],[],[]⟩:GOp),0,0,[],(⟨0,(Vector.replicate 8 (default:Int)),(Vector.replicate 8 (default:Int)),(Vector.replicate 8 (default:Int))⟩:z7),0,(Vector.replicate 8 (default:Int)),0,(⟨0,0,0,[]⟩:GPart),0,0,0⟩:z6),0,(Vector.replicate 8 (default:Int)),0,0,[],(⟨0,(Vector.replicate 8 (default:Int)),(Vector.replicate 8 (default:Int)),(Vector.replicate 8 (default:Int))⟩:z7),(⟨0,0,0,[]⟩:GPart)⟩:GMsg),r1.2.2.1,r1.2.2.2))
 else
 (bif (decide (r1.2.1 < ((b:Nat):Int))) then
 (some ((⟨0,(⟨0,0⟩:GAddr),(⟨0,0⟩:GAddr),(⟨0,0⟩:zc),0,[],(⟨0,0,0,(⟨(⟨0,0⟩:zj),0,0,0,[],[],[]⟩:GOp),0,0,[],(⟨0,(Vector.replicate 8 (default:Int)),(Vector.replicate 8 (default:Int)),(Vector.replicate 8 (default:Int))⟩:z7),0,(Vector.replicate 8 (default:Int)),0,(⟨0,0,0,[]⟩:GPart),0,0,0⟩:z6),0,(Vector.replicate 8 (default:Int)),0,0,[],(⟨0,(Vector.replicate 8 (default:Int)),(Vector.replicate 8 (default:Int)),(Vector.replicate 8 (default:Int))⟩:z7),(⟨0,0,0,[]⟩:GPart)⟩:GMsg),13,r1.2.2.2))
 else
 ((zbz N r1.1).bind fun r2 =>
 ((z6h N 0 r2).bind fun r3 =>
 ((z7w N r3.2.2).bind fun r4 =>
 ((z23 N r4.1 r3.2.1 r4.2).bind fun r5 =>
 (bif (r5.1==0) then
 ((z6p N r3.1).bind fun r6 =>
 (bif (!(r6==0)) then
 (some ((⟨0,(⟨0,0⟩:GAddr),(⟨0,0⟩:GAddr),(⟨0,0⟩:zc),0,[],(⟨0,0,0,(⟨(⟨0,0⟩:zj),0,0,0,[],[],[]⟩:GOp),0,0,[],(⟨0,(Vector.replicate 8 (default:Int)),(Vector.replicate 8 (default:Int)),(Vector.replicate 8 (default:Int))⟩:z7),0,(Vector.replicate 8 (default:Int)),0,(⟨0,0,0,[]⟩:GPart),0,0,0⟩:z6),0,(Vector.replicate 8 (default:Int)),0,0,[],(⟨0,(Vector.replicate 8 (default:Int)),(Vector.replicate 8 (default:Int)),(Vector.replicate 8 (default:Int))⟩:z7),(⟨0,0,0,[]⟩:GPart)⟩:GMsg),r6,r1.2.2.2))
 else
 (some (r3.1,0,r1.2.2.2))))
 else
 (bif (!(r5.1==0)) then
 (some ((⟨0,(⟨0,0⟩:GAddr),(⟨0,0⟩:GAddr),(⟨0,0⟩:zc),0,[],(⟨0,0,0,(⟨(⟨0,0⟩:zj),0,0,0,[],[],[]⟩:GOp),0,0,[],(⟨0,(Vector.replicate 8 (default:Int)),(Vector.replicate 8 (default:Int)),(Vector.replicate 8 (default:Int))⟩:z7),0,(Vector.replicate 8 (default:Int)),0,(⟨0,0,0,[]⟩:GPart),0,0,0⟩:z6),0,(Vector.replicate 8 (default:Int)),0,0,[],(⟨0,(Vector.replicate 8 (default:Int)),(Vector.replicate 8 (default:Int)),(Vector.replicate 8 (default:Int))⟩:z7),(⟨0,0,0,[]⟩:GPart)⟩:GMsg),r5.1,r1.2.2.2))
 else
 (some (r3.1,0,r1.2.2.2)))))))))))
def z8i:Con τ:={ args:=[.msl 5 0],L:=[.gbx 5],ret:=.tup [.ty 71,.ty 35],L':=[.gbx 5],R:=GMsg×Int×(List (Int)),dflt:=(default,default,default),F:=fun N a b=>z6s N a.1 b.1,of:=fun r=>((r.1,r.2.1,()),(r.2.2,())) }
noncomputable def zli:Dat τ:={ D:=D0,tbl:=tblOf [(81,zb4),(17,z7z),(82,z32),(74,z3u),(73,z1i),(67,z6y)],lp:=lpsOf [],k0:=1,mu:=[],un:=[] }
theorem zmq:ConOk E C 33 z8i :=
  zg (D:=zli) ⟨d0Ok,eGood,z9 ⟨zqy,⟨zea,⟨z9j,⟨z9g,⟨z2c,⟨zdt,trivial⟩⟩⟩⟩⟩⟩,fun _=>rfl⟩ z8i (fun a b=>(a.1,a.2.1,b.1)) none (fun _ _=>rfl) rfl (fun _ _ h=>nomatch h) 1000000 (fn:=Tryz.f33) Tryz.func33 rfl (by kernel_rfl) (by kernel_rfl) rfl (by intro N a b; kernel_rfl)
def z8j (N:Nat) (m:GMsg) (bit:Int) (cut_:Int):Option (Bool) :=
 ((znc N).bind fun r1 =>
 (bif (!r1) then
 (some false)
 else
 ((z7y N m).bind fun r2 =>
 (bif (!(r2.2==0)) then
 ((bif (!(r2.2==3)) then zby N m else some default).bind fun r3 =>
 (some ((r2.2==3) || (!r3))))
 else
 (bif (!(!((((r2.1).length:Int)==0) || (decide (bit < 0)))) || true) then
 (bif (((((r2.1).length:Int)==0) || (decide (bit < 0))) || (decide (((r2.1).length:Int)≤(IntKind.i64.wrap (Int.tdiv bit 8))))) then
 (some (decide (0 < ((r2.1).length:Int))))
 else
 (bif (lenB ((r2.1).length) 1) then
 (bif (ibB (IntKind.i64.wrap (Int.tdiv bit 8)) (((r2.1).length:Nat):Int)) then
 (bif (decide (((IntKind.i64.wrap (Int.tdiv bit 8))).toNat < (r2.1).length)) then
 (bif (decide (0≤(Int.tmod bit 8))) then
 (bif (ibB (IntKind.i64.wrap (Int.tdiv bit 8)) (((r2.1).length:Nat):Int)) then
 (bif (decide (((IntKind.i64.wrap (Int.tdiv bit 8))).toNat < (r2.1).length)) then
 ((z6s N ((r2.1).length) (r2.1.set (((IntKind.i64.wrap (Int.tdiv bit 8))).toNat) (bits .xor .u8 (r2.1.getD (((IntKind.i64.wrap (Int.tdiv bit 8))).toNat) default) (shl .u8 1 (Int.tmod bit 8))))).bind fun r4 =>
 ((bif (!(r4.2.1==0)) then z72 N r4.1 (⟨0,(⟨0,0⟩:GAddr),(⟨0,0⟩:GAddr),(⟨0,0⟩:zc),0,[],(⟨0,0,0,(⟨(⟨0,0⟩:zj),0,0,0,[],[],[]⟩:GOp),0,0,[],(⟨0,(Vector.replicate 8 (default:Int)),(Vector.replicate 8 (default:Int)),(Vector.replicate 8 (default:Int))⟩:z7),0,(Vector.replicate 8 (default:Int)),0,(⟨0,0,0,[]⟩:GPart),0,0,0⟩:z6),0,(Vector.replicate 8 (default:Int)),0,0,[],(⟨0,(Vector.replicate 8 (default:Int)),(Vector.replicate 8 (default:Int)),(Vector.replicate 8 (default:Int))⟩:z7),(⟨0,0,0,[]⟩:GPart)⟩:GMsg) else some default).bind fun r5 =>
 (bif ((r4.2.1==0) || (!r5)) then
 (some false)
 else
 (bif ((decide (cut_ < 0)) || (decide (((r2.1).length:Int)≤cut_))) then
 (some true)
 else
 (bif (cutB 0 cut_ ((r2.1).length:Int)) then
 ((z9r N (cut r2.1 0 cut_)).bind fun r6 =>
 (some (r6.2==10)))
 else none)))))
 else none)
 else none)
 else none)
 else none)
 else none)
 else none))
 else none)))))
def ze0:Con τ:={ args:=[.ty 71,.ty 3,.ty 3],L:=[],ret:=.ty 4,L':=[],R:=Bool,dflt:=default,F:=fun N a b=>z8j N a.1 a.2.1 a.2.2.1,of:=fun r=>(r,()) }
noncomputable def znh:Dat τ:={ D:=D0,tbl:=tblOf [(8,zj5),(28,zdd),(35,zfe),(33,z8i),(34,zau),(33,zb3)],lp:=lpsOf [],k0:=0,mu:=[48],un:=[] }
theorem zoh:ConOk E C 6 ze0 :=
  zg (D:=znh) ⟨d0Ok,eGood,z9 ⟨zys,⟨ztm,⟨zwy,⟨zmq,⟨zn9,⟨zqt,trivial⟩⟩⟩⟩⟩⟩,fun _=>rfl⟩ ze0 (fun a b=>a) none (fun _ _=>rfl) rfl (fun _ _ h=>nomatch h) 1000000 (fn:=Tryz.f6) Tryz.func6 rfl (by kernel_rfl) (by kernel_rfl) rfl (by intro N a b; kernel_rfl)
end Go.Proofs.YteinehkdjkobnaaGreat
