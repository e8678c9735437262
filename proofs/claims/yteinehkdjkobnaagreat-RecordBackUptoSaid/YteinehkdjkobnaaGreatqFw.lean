/-
The functions of this seat,as plain functions over typed data,each with its contract. Printed by wip/tools/fngen.py.
-/
import Derived.Test.YteinehkdjkobnaaGreatqFwa
import Derived.Test.YteinehkdjkobnaaGreatqTvX
import Derived.KernelRfl
set_option linter.unusedVariables false
set_option maxRecDepth 100000
namespace Go.Proofs.YteinehkdjkobnaaGreat
open Go Go.Ev
structure zd1 where
  sum:Int
  t11:Int
def zmj:List Sl:=[.k,.k,.k,.sh (.ty 167),.k,.j,.k,.j,.j,.k,.k,.sh (.ty 2),.j,.j,.j,.j,.j,.j,.j,.j,.j,.j,.j,.j,.j,.j,.j,.j,.j,.j,.j,.j,.j,.j,.j,.j,.j,.j,.k,.k]
def zmk:List ESh:=[]
def zzm (a:Sl.Ts τ zmj) (b:ESh.Ts τ zmk):zd1:=⟨a.2.2.2.1,a.2.2.2.2.2.2.2.2.2.2.2.1⟩
def zzn (s:zd1):Sl.Ts τ zmj:=((),(),(),s.sum,(),(),(),(),(),(),(),s.t11,(),(),(),(),(),(),(),(),(),(),(),(),(),(),(),(),(),(),(),(),(),(),(),(),(),(),(),(),())
def zzo (s:zd1):ESh.Ts τ zmk:=()
def zzp:Lp τ:={ ts:=zmj,hs:=zmk,S:=zd1,to:=zzm,ot:=zzn,oh:=zzo,hk:=[],tk:=[],ot_to:=fun _ _=>rfl,oh_to:=fun _ _=>rfl }
structure zb1 where
  sum:Int
  t17:Int
def zml:List Sl:=[.k,.k,.k,.sh (.ty 167),.k,.k,.k,.j,.j,.k,.k,.k,.k,.k,.k,.k,.k,.sh (.ty 2),.j,.j,.j,.j,.j,.j,.j,.j,.j,.j,.j,.j,.j,.j,.j,.j,.j,.j,.j,.k,.k,.k]
def zmm:List ESh:=[]
def zzq (a:Sl.Ts τ zml) (b:ESh.Ts τ zmm):zb1:=⟨a.2.2.2.1,a.2.2.2.2.2.2.2.2.2.2.2.2.2.2.2.2.2.1⟩
def zzr (s:zb1):Sl.Ts τ zml:=((),(),(),s.sum,(),(),(),(),(),(),(),(),(),(),(),(),(),s.t17,(),(),(),(),(),(),(),(),(),(),(),(),(),(),(),(),(),(),(),(),(),(),())
def zzs (s:zb1):ESh.Ts τ zmm:=()
def zzt:Lp τ:={ ts:=zml,hs:=zmm,S:=zb1,to:=zzq,ot:=zzr,oh:=zzs,hk:=[],tk:=[],ot_to:=fun _ _=>rfl,oh_to:=fun _ _=>rfl }
structure z8g where
  sum:Int
  t25:Int
def zkr:List Sl:=[.k,.k,.k,.sh (.ty 167),.k,.k,.k,.k,.j,.k,.k,.k,.k,.k,.k,.k,.k,.k,.k,.k,.k,.k,.k,.k,.k,.sh (.ty 2),.j,.j,.j,.j,.j,.j,.j,.j,.j,.j,.k,.k,.k,.k]
def zks:List ESh:=[]
def zxy (a:Sl.Ts τ zkr) (b:ESh.Ts τ zks):z8g:=⟨a.2.2.2.1,a.2.2.2.2.2.2.2.2.2.2.2.2.2.2.2.2.2.2.2.2.2.2.2.2.2.1⟩
def zxz (s:z8g):Sl.Ts τ zkr:=((),(),(),s.sum,(),(),(),(),(),(),(),(),(),(),(),(),(),(),(),(),(),(),(),(),(),s.t25,(),(),(),(),(),(),(),(),(),(),(),(),(),(),())
def zy0 (s:z8g):ESh.Ts τ zks:=()
def zy1:Lp τ:={ ts:=zkr,hs:=zks,S:=z8g,to:=zxy,ot:=zxz,oh:=zy0,hk:=[],tk:=[],ot_to:=fun _ _=>rfl,oh_to:=fun _ _=>rfl }
def zmn (N:Nat) (l:List (List (Int))):Option (Int) :=
 (iter N (fun (s1:zd1) next2 =>
 (bif (decide (s1.t11 < ((l).length:Int))) then
 (bif (ibB s1.t11 ((l).length:Int)) then
 (iter N (fun (s3:zb1) next4 =>
 (bif (decide (s3.t17 < (((lget l s1.t11 default)).length:Int))) then
 (bif (ibB s3.t17 (((lget l s1.t11 default)).length:Int)) then
 (iter N (fun (s5:z8g) next6 =>
 (bif (decide (s5.t25 < 8)) then
 (bif ((bits .and .u32 s5.sum 1)==1) then
 (next6 ⟨(bits .xor .u32 (shr .u32 s5.sum 1) 3988292384),(IntKind.i64.wrap (s5.t25 + 1))⟩)
 else
 (next6 ⟨(shr .u32 s5.sum 1),(IntKind.i64.wrap (s5.t25 + 1))⟩))
 else
 (next4 ⟨s5.sum,(IntKind.i64.wrap (s3.t17 + 1))⟩))) ⟨(bits .xor .u32 s3.sum (IntKind.u32.wrap (lget (lget l s1.t11 default) s3.t17 default))),0⟩)
 else none)
 else
 (next2 ⟨s3.sum,(IntKind.i64.wrap (s1.t11 + 1))⟩))) ⟨s1.sum,0⟩)
 else none)
 else
 (some (bits .xor .u32 IntKind.u32.max s1.sum)))) ⟨4294967295,0⟩)
def zkt:Con τ:={ args:=[.ty 194],L:=[],ret:=.ty 167,L':=[],R:=Int,dflt:=default,F:=fun N a b=>zmn N a.1,of:=fun r=>(r,()) }
noncomputable def z11h:Dat τ:={ D:=D0,tbl:=tblOf [],lp:=lpsOf [(3,zzp),(6,zzt),(10,zy1)],k0:=0,mu:=[],un:=[] }
theorem zx0:ConOk E C 125 zkt :=
  zk (D:=z11h) ⟨d0Ok,eGood,zb trivial,fun _=>rfl⟩ zkt (fun a b=>a) none (fun _ _=>rfl) rfl (fun _ _ h=>nomatch h) 1000000 (fn:=Tryz.f125) Tryz.func125 rfl (by kernel_rfl) (by kernel_rfl) rfl (by intro N a b; kernel_rfl)
def zje (N:Nat) (sum:Int):Option ((List (Int))) :=
 (some [(IntKind.u8.wrap sum),(IntKind.u8.wrap (shr .u32 sum 8)),(IntKind.u8.wrap (shr .u32 sum 16)),(IntKind.u8.wrap (shr .u32 sum 24))])
def zhd:Con τ:={ args:=[.ty 167],L:=[],ret:=.ty 31,L':=[],R:=(List (Int)),dflt:=default,F:=fun N a b=>zje N a.1,of:=fun r=>(r,()) }
noncomputable def zzu:Dat τ:={ D:=D0,tbl:=tblOf [],lp:=lpsOf [],k0:=0,mu:=[],un:=[] }
theorem zu2:ConOk E C 124 zhd :=
  zk (D:=zzu) ⟨d0Ok,eGood,zb trivial,fun _=>rfl⟩ zhd (fun a b=>a) none (fun _ _=>rfl) rfl (fun _ _ h=>nomatch h) 1000000 (fn:=Tryz.f124) Tryz.func124 rfl (by kernel_rfl) (by kernel_rfl) rfl (by intro N a b; kernel_rfl)
def z6y (N:Nat) (n:Int):Option (Nat×(List (Int))) :=
 (bif (decide (n < 0)) then
 none
 else
 (bif (decide (0 < (IntKind.i64.wrap (n - 0)))) then
 (bif (mkB (IntKind.i64.wrap (n - 0)) 1) then
 (bif (cutB 0 0 ((((IntKind.i64.wrap (n - 0))).toNat:Nat):Int)) then
 (some (0,(List.replicate (((IntKind.i64.wrap (n - 0))).toNat) 0)))
 else none)
 else none)
 else
 (some (0,[]))))
def z8j:Con τ:={ args:=[.nil .slice,.ty 3],L:=[],ret:=.msl 5 0,L':=[.gbx 5],R:=Nat×(List (Int)),dflt:=(default,default),F:=fun N a b=>z6y N a.2.1,of:=fun r=>(r.1,(r.2,())) }
noncomputable def zku:Dat τ:={ D:=D0,tbl:=tblOf [],lp:=lpsOf [],k0:=0,mu:=[22],un:=[] }
theorem zlz:ConOk E C 151 z8j :=
  zk (D:=zku) ⟨d0Ok,eGood,zb trivial,fun _=>rfl⟩ z8j (fun a b=>(a,b.1)) none (fun _ _=>rfl) rfl (fun _ _ h=>nomatch h) 1000000 (fn:=Tryz.f151) Tryz.func151 rfl (by kernel_rfl) (by kernel_rfl) rfl (by intro N a b; kernel_rfl)
structure z2k where
  size:Int
  t11:Int
def z6m:List Sl:=[.k,.k,.k,.sh (.ty 2),.k,.j,.k,.k,.k,.k,.k,.sh (.ty 2),.j,.j,.j,.j,.j,.j,.j,.j,.j,.j,.j,.k,.k,.k,.k,.k,.k,.k,.k,.k,.k,.k,.k,.k]
def z6n:List ESh:=[]
def zg6 (a:Sl.Ts τ z6m) (b:ESh.Ts τ z6n):z2k:=⟨a.2.2.2.1,a.2.2.2.2.2.2.2.2.2.2.2.1⟩
def zg7 (s:z2k):Sl.Ts τ z6m:=((),(),(),s.size,(),(),(),(),(),(),(),s.t11,(),(),(),(),(),(),(),(),(),(),(),(),(),(),(),(),(),(),(),(),(),(),(),(),())
def zg8 (s:z2k):ESh.Ts τ z6n:=()
def zg9:Lp τ:={ ts:=z6m,hs:=z6n,S:=z2k,to:=zg6,ot:=zg7,oh:=zg8,hk:=[],tk:=[],ot_to:=fun _ _=>rfl,oh_to:=fun _ _=>rfl }
structure z2d where
  newslice:Nat
  t27:Int
  g1:List (Int)
def z5q:List Sl:=[.k,.k,.k,.k,.k,.k,.sh (.msl 5 1),.k,.j,.k,.k,.k,.k,.k,.k,.k,.k,.k,.k,.k,.k,.k,.k,.k,.k,.k,.k,.sh (.ty 2),.j,.j,.j,.j,.j,.j,.j,.k]
def z5r:List ESh:=[.dead,.gbx 5]
def zem (a:Sl.Ts τ z5q) (b:ESh.Ts τ z5r):z2d:=⟨a.2.2.2.2.2.2.1,a.2.2.2.2.2.2.2.2.2.2.2.2.2.2.2.2.2.2.2.2.2.2.2.2.2.2.2.1,b.2.1⟩
def zen (s:z2d):Sl.Ts τ z5q:=((),(),(),(),(),(),s.newslice,(),(),(),(),(),(),(),(),(),(),(),(),(),(),(),(),(),(),(),(),s.t27,(),(),(),(),(),(),(),(),())
def zeo (s:z2d):ESh.Ts τ z5r:=((),s.g1,())
def zep:Lp τ:={ ts:=z5q,hs:=z5r,S:=z2d,to:=zem,ot:=zen,oh:=zeo,hk:=[4],tk:=[],ot_to:=fun _ _=>rfl,oh_to:=fun _ _=>rfl }
def z57 (N:Nat) (slices:List (List (Int))):Option (Nat×(List (Int))) :=
 (iter N (fun (s1:z2k) next2 =>
 (bif (decide (s1.t11 < ((slices).length:Int))) then
 (bif (ibB s1.t11 ((slices).length:Int)) then
 (bif (decide ((IntKind.i64.wrap (s1.size + (((lget slices s1.t11 default)).length:Int))) < 0)) then
 none
 else
 (next2 ⟨(IntKind.i64.wrap (s1.size + (((lget slices s1.t11 default)).length:Int))),(IntKind.i64.wrap (s1.t11 + 1))⟩))
 else none)
 else
 ((z6y N s1.size).bind fun r3 =>
 (iter N (fun (s4:z2d) next5 =>
 (bif (decide (s4.t27 < ((slices).length:Int))) then
 (bif (ibB s4.t27 ((slices).length:Int)) then
 (bif ((lenB (s4.newslice + ((lget slices s4.t27 default)).length) 1)&&(Nat.ble s4.newslice (s4.g1).length)) then
 (next5 ⟨(s4.newslice + ((lget slices s4.t27 default)).length),(IntKind.i64.wrap (s4.t27 + 1)),(s4.g1.take s4.newslice++(lget slices s4.t27 default))⟩)
 else none)
 else none)
 else
 (some (s4.newslice,s4.g1)))) ⟨r3.1,0,r3.2⟩)))) ⟨0,0⟩)
def z75:Con τ:={ args:=[.ty 194],L:=[],ret:=.msl 5 0,L':=[.gbx 5],R:=Nat×(List (Int)),dflt:=(default,default),F:=fun N a b=>z57 N a.1,of:=fun r=>(r.1,(r.2,())) }
noncomputable def zhw:Dat τ:={ D:=D0,tbl:=tblOf [(151,z8j)],lp:=lpsOf [(3,zg9),(11,zep)],k0:=0,mu:=[33],un:=[] }
theorem zjf:ConOk E C 122 z75 :=
  zk (D:=zhw) ⟨d0Ok,eGood,zb ⟨zlz,trivial⟩,fun _=>rfl⟩ z75 (fun a b=>(a,b.1)) none (fun _ _=>rfl) rfl (fun _ _ h=>nomatch h) 1000000 (fn:=Tryz.f122) Tryz.func122 rfl (by kernel_rfl) (by kernel_rfl) rfl (by intro N a b; kernel_rfl)
def z4l (N:Nat) (slices:List (List (Int))):Option ((List (Int))):=(z57 N slices).bind fun r=>bif Nat.ble r.1 (r.2).length then some ((r.2).take r.1) else none
def zac:Con τ:={ args:=[.ty 194],L:=[],ret:=.ty 31,L':=[.dead],R:=(List (Int)),dflt:=default,F:=fun N a b=>z4l N a.1,of:=fun r=>(r,((),())) }
theorem zhx:ConOk E C 122 zac:=by
  intro N a b r h
  have h:(z75.F N a b).bind (fun r=>bif Nat.ble r.1 (r.2).length then some ((r.2).take r.1) else none)=some r:=h
  obtain ⟨q,h0,h1⟩:=Option.bind_eq_some_iff.1 h
  cases hb:Nat.ble q.1 (q.2).length with
  | false=>rw [hb] at h1; cases h1
  | true =>
    rw [hb] at h1
    have h2:(q.2).take q.1=r:=Option.some.inj h1
    subst h2
    exact FnSpec.msl (ents:=[.gbx 5 q.2]) (id:=0) cOk (zjf N a b q h0) rfl (Nat.le_of_ble_eq_true hb)
def zeq (N:Nat) (b:List (Int)):Option ((List (Int))×Int) :=
 (bif (decide (1048576 < ((b).length:Int))) then
 (some ([],3))
 else
 ((zbg N ((b).length:Int)).bind fun r1 =>
 ((zmn N [b]).bind fun r2 =>
 ((zje N r2).bind fun r3 =>
 ((z4l N [r1,b,r3]).bind fun r4 =>
 (some (r4,0)))))))
def zkv:Con τ:={ args:=[.ty 31],L:=[],ret:=.tup [.ty 31,.ty 35],L':=[],R:=(List (Int))×Int,dflt:=(default,default),F:=fun N a b=>zeq N a.1,of:=fun r=>((r.1,r.2,()),()) }
noncomputable def zy2:Dat τ:={ D:=D0,tbl:=tblOf [(123,zar),(125,zkt),(124,zhd),(122,zac)],lp:=lpsOf [],k0:=0,mu:=[],un:=[] }
theorem zzv:ConOk E C 69 zkv :=
  zk (D:=zy2) ⟨d0Ok,eGood,zb ⟨zl1,⟨zx0,⟨zu2,⟨zhx,trivial⟩⟩⟩⟩,fun _=>rfl⟩ zkv (fun a b=>(a.1,a.2.1)) none (fun _ _=>rfl) rfl (fun _ _ h=>nomatch h) 1000000 (fn:=Tryz.f69) Tryz.func69 rfl (by kernel_rfl) (by kernel_rfl) rfl (by intro N a b; kernel_rfl)
def z10 (N:Nat) (m:GMsg):Option ((List (Int))×Int) :=
 ((z96 N m).bind fun r1 =>
 (bif (!(r1==0)) then
 (some ([],r1))
 else
 ((z9t N).bind fun r2 =>
 ((z6l N m 0 r2.1 r2.2).bind fun r3 =>
 (bif (!(r3.1==0)) then
 (some ([],r3.1))
 else
 ((z54 N r3.2.1 r3.2.2).bind fun r4 =>
 ((zeq N r4.1).bind fun r5 =>
 (some (r5.1,r5.2)))))))))
def zd2:Con τ:={ args:=[.ty 71],L:=[],ret:=.tup [.ty 31,.ty 35],L':=[],R:=(List (Int))×Int,dflt:=(default,default),F:=fun N a b=>z10 N a.1,of:=fun r=>((r.1,r.2,()),()) }
noncomputable def zr7:Dat τ:={ D:=D0,tbl:=tblOf [(67,z9l),(7,za7),(68,z8e),(16,z6k),(69,zkv)],lp:=lpsOf [],k0:=0,mu:=[],un:=[] }
theorem zsu:ConOk E C 28 zd2 :=
  zk (D:=zr7) ⟨d0Ok,eGood,zb ⟨zka,⟨zlv,⟨zlg,⟨zdm,⟨zzv,trivial⟩⟩⟩⟩⟩,fun _=>rfl⟩ zd2 (fun a b=>(a.1,a.2.1)) none (fun _ _=>rfl) rfl (fun _ _ h=>nomatch h) 1000000 (fn:=Tryz.f28) Tryz.func28 rfl (by kernel_rfl) (by kernel_rfl) rfl (by intro N a b; kernel_rfl)
def zdi (N:Nat) (m:GMsg):Option (GMsg×Bool) :=
 (bif (m.Kind==1) then
 (bif (m.Kind==1) then
 (some ((⟨m.Kind,m.From,m.To,m.Ballot,m.Slot,[],(⟨0,0,0,(⟨(⟨0,0⟩:zm),0,0,0,[],[],[]⟩:GOp),0,0,[],(⟨0,(Vector.replicate 8 (default:Int)),(Vector.replicate 8 (default:Int)),(Vector.replicate 8 (default:Int))⟩:z7),0,(Vector.replicate 8 (default:Int)),0,(⟨0,0,0,[]⟩:GPart),0,0,0⟩:z6),0,(Vector.replicate 8 (default:Int)),0,0,[],(⟨0,(Vector.replicate 8 (default:Int)),(Vector.replicate 8 (default:Int)),(Vector.replicate 8 (default:Int))⟩:z7),(⟨0,0,0,[]⟩:GPart)⟩:GMsg),true))
 else
 (bif (m.Kind==2) then
 (some ((⟨m.Kind,m.From,m.To,m.Ballot,m.Slot,m.List_,(⟨0,0,0,(⟨(⟨0,0⟩:zm),0,0,0,[],[],[]⟩:GOp),0,0,[],(⟨0,(Vector.replicate 8 (default:Int)),(Vector.replicate 8 (default:Int)),(Vector.replicate 8 (default:Int))⟩:z7),0,(Vector.replicate 8 (default:Int)),0,(⟨0,0,0,[]⟩:GPart),0,0,0⟩:z6),0,(Vector.replicate 8 (default:Int)),0,0,[],(⟨0,(Vector.replicate 8 (default:Int)),(Vector.replicate 8 (default:Int)),(Vector.replicate 8 (default:Int))⟩:z7),(⟨0,0,0,[]⟩:GPart)⟩:GMsg),true))
 else
 (bif (m.Kind==3) then
 (some ((⟨m.Kind,m.From,m.To,m.Ballot,0,m.List_,(⟨0,0,0,(⟨(⟨0,0⟩:zm),0,0,0,[],[],[]⟩:GOp),0,0,[],(⟨0,(Vector.replicate 8 (default:Int)),(Vector.replicate 8 (default:Int)),(Vector.replicate 8 (default:Int))⟩:z7),0,(Vector.replicate 8 (default:Int)),0,(⟨0,0,0,[]⟩:GPart),0,0,0⟩:z6),0,(Vector.replicate 8 (default:Int)),0,0,[],(⟨0,(Vector.replicate 8 (default:Int)),(Vector.replicate 8 (default:Int)),(Vector.replicate 8 (default:Int))⟩:z7),(⟨0,0,0,[]⟩:GPart)⟩:GMsg),true))
 else
 (bif (m.Kind==5) then
 (some ((⟨m.Kind,m.From,m.To,m.Ballot,0,[],(⟨0,0,0,(⟨(⟨0,0⟩:zm),0,0,0,[],[],[]⟩:GOp),0,0,[],(⟨0,(Vector.replicate 8 (default:Int)),(Vector.replicate 8 (default:Int)),(Vector.replicate 8 (default:Int))⟩:z7),0,(Vector.replicate 8 (default:Int)),0,(⟨0,0,0,[]⟩:GPart),0,0,0⟩:z6),0,(Vector.replicate 8 (default:Int)),0,0,[],(⟨0,(Vector.replicate 8 (default:Int)),(Vector.replicate 8 (default:Int)),(Vector.replicate 8 (default:Int))⟩:z7),(⟨0,0,0,[]⟩:GPart)⟩:GMsg),true))
 else
 (bif (m.Kind==6) then
 (some ((⟨m.Kind,m.From,m.To,(⟨0,0⟩:zh),0,m.List_,(⟨0,0,0,(⟨(⟨0,0⟩:zm),0,0,0,[],[],[]⟩:GOp),0,0,[],(⟨0,(Vector.replicate 8 (default:Int)),(Vector.replicate 8 (default:Int)),(Vector.replicate 8 (default:Int))⟩:z7),0,(Vector.replicate 8 (default:Int)),0,(⟨0,0,0,[]⟩:GPart),0,0,0⟩:z6),0,(Vector.replicate 8 (default:Int)),0,0,[],(⟨0,(Vector.replicate 8 (default:Int)),(Vector.replicate 8 (default:Int)),(Vector.replicate 8 (default:Int))⟩:z7),(⟨0,0,0,[]⟩:GPart)⟩:GMsg),true))
 else
 (bif (m.Kind==8) then
 (some ((⟨m.Kind,m.From,m.To,(⟨0,0⟩:zh),m.Slot,[],(⟨0,0,0,(⟨(⟨0,0⟩:zm),0,0,0,[],[],[]⟩:GOp),0,0,[],(⟨0,(Vector.replicate 8 (default:Int)),(Vector.replicate 8 (default:Int)),(Vector.replicate 8 (default:Int))⟩:z7),0,(Vector.replicate 8 (default:Int)),0,(⟨0,0,0,[]⟩:GPart),0,0,0⟩:z6),0,(Vector.replicate 8 (default:Int)),0,0,[],(⟨0,(Vector.replicate 8 (default:Int)),(Vector.replicate 8 (default:Int)),(Vector.replicate 8 (default:Int))⟩:z7),(⟨0,0,0,[]⟩:GPart)⟩:GMsg),true))
 else
 (bif (m.Kind==9) then
 (some ((⟨m.Kind,m.From,m.To,(⟨0,0⟩:zh),0,[],m.Entry,0,(Vector.replicate 8 (default:Int)),0,0,[],(⟨0,(Vector.replicate 8 (default:Int)),(Vector.replicate 8 (default:Int)),(Vector.replicate 8 (default:Int))⟩:z7),(⟨0,0,0,[]⟩:GPart)⟩:GMsg),true))
 else
 (bif (m.Kind==10) then
 (some ((⟨m.Kind,m.From,m.To,(⟨0,0⟩:zh),0,[],(⟨0,0,0,(⟨(⟨0,0⟩:zm),0,0,0,[],[],[]⟩:GOp),0,0,[],(⟨0,(Vector.replicate 8 (default:Int)),(Vector.replicate 8 (default:Int)),(Vector.replicate 8 (default:Int))⟩:z7),0,(Vector.replicate 8 (default:Int)),0,(⟨0,0,0,[]⟩:GPart),0,0,0⟩:z6),m.Number,m.Vector_,m.Clock,0,[],(⟨0,(Vector.replicate 8 (default:Int)),(Vector.replicate 8 (default:Int)),(Vector.replicate 8 (default:Int))⟩:z7),(⟨0,0,0,[]⟩:GPart)⟩:GMsg),true))
 else
 (bif (m.Kind==11) then
 (some ((⟨m.Kind,m.From,m.To,(⟨0,0⟩:zh),m.Slot,[],(⟨0,0,0,(⟨(⟨0,0⟩:zm),0,0,0,[],[],[]⟩:GOp),0,0,[],(⟨0,(Vector.replicate 8 (default:Int)),(Vector.replicate 8 (default:Int)),(Vector.replicate 8 (default:Int))⟩:z7),0,(Vector.replicate 8 (default:Int)),0,(⟨0,0,0,[]⟩:GPart),0,0,0⟩:z6),m.Number,(Vector.replicate 8 (default:Int)),0,m.Origin,m.Ops,(⟨0,(Vector.replicate 8 (default:Int)),(Vector.replicate 8 (default:Int)),(Vector.replicate 8 (default:Int))⟩:z7),(⟨0,0,0,[]⟩:GPart)⟩:GMsg),true))
 else
 (bif (m.Kind==12) then
 (some ((⟨m.Kind,m.From,m.To,(⟨0,0⟩:zh),0,[],(⟨0,0,0,(⟨(⟨0,0⟩:zm),0,0,0,[],[],[]⟩:GOp),0,0,[],(⟨0,(Vector.replicate 8 (default:Int)),(Vector.replicate 8 (default:Int)),(Vector.replicate 8 (default:Int))⟩:z7),0,(Vector.replicate 8 (default:Int)),0,(⟨0,0,0,[]⟩:GPart),0,0,0⟩:z6),0,(Vector.replicate 8 (default:Int)),0,0,[],m.Epoch,(⟨0,0,0,[]⟩:GPart)⟩:GMsg),true))
 else
 (bif (m.Kind==13) then
 (some ((⟨m.Kind,m.From,m.To,(⟨0,0⟩:zh),0,[],(⟨0,0,0,(⟨(⟨0,0⟩:zm),0,0,0,[],[],[]⟩:GOp),0,0,[],(⟨0,(Vector.replicate 8 (default:Int)),(Vector.replicate 8 (default:Int)),(Vector.replicate 8 (default:Int))⟩:z7),0,(Vector.replicate 8 (default:Int)),0,(⟨0,0,0,[]⟩:GPart),0,0,0⟩:z6),0,(Vector.replicate 8 (default:Int)),0,0,[],(⟨0,(Vector.replicate 8 (default:Int)),(Vector.replicate 8 (default:Int)),(Vector.replicate 8 (default:Int))⟩:z7),m.Part⟩:GMsg),true))
 else
 (bif (m.Kind==14) then
 (some ((⟨m.Kind,m.From,m.To,(⟨0,0⟩:zh),0,[],(⟨0,0,0,(⟨(⟨0,0⟩:zm),0,0,0,[],[],[]⟩:GOp),0,0,[],(⟨0,(Vector.replicate 8 (default:Int)),(Vector.replicate 8 (default:Int)),(Vector.replicate 8 (default:Int))⟩:z7),0,(Vector.replicate 8 (default:Int)),0,(⟨0,0,0,[]⟩:GPart),0,0,0⟩:z6),m.Number,m.Vector_,0,0,[],(⟨0,(Vector.replicate 8 (default:Int)),(Vector.replicate 8 (default:Int)),(Vector.replicate 8 (default:Int))⟩:z7),(⟨0,0,0,[]⟩:GPart)⟩:GMsg),true))
 else
 (bif (m.Kind==15) then
 (some ((⟨m.Kind,m.From,m.To,(⟨0,0⟩:zh),m.Slot,[],(⟨0,0,0,(⟨(⟨0,0⟩:zm),0,0,0,[],[],[]⟩:GOp),0,0,[],(⟨0,(Vector.replicate 8 (default:Int)),(Vector.replicate 8 (default:Int)),(Vector.replicate 8 (default:Int))⟩:z7),0,(Vector.replicate 8 (default:Int)),0,(⟨0,0,0,[]⟩:GPart),0,0,0⟩:z6),0,(Vector.replicate 8 (default:Int)),0,0,[],(⟨0,(Vector.replicate 8 (default:Int)),(Vector.replicate 8 (default:Int)),(Vector.replicate 8 (default:Int))⟩:z7),m.Part⟩:GMsg),true))
 else
 (some ((⟨m.Kind,m.From,m.To,(⟨0,0⟩:zh),0,[],(⟨0,0,0,(⟨(⟨0,0⟩:zm),0,0,0,[],[],[]⟩:GOp),0,0,[],(⟨0,(Vector.replicate 8 (default:Int)),(Vector.replicate 8 (default:Int)),(Vector.replicate 8 (default:Int))⟩:z7),0,(Vector.replicate 8 (default:Int)),0,(⟨0,0,0,[]⟩:GPart),0,0,0⟩:z6),0,(Vector.replicate 8 (default:Int)),0,0,[],(⟨0,(Vector.replicate 8 (default:Int)),(Vector.replicate 8 (default:Int)),(Vector.replicate 8 (default:Int))⟩:z7),(⟨0,0,0,[]⟩:GPart)⟩:GMsg),false)))))))))))))))
 else
 (bif (m.Kind==4) then
 (bif (m.Kind==4) then
 (some ((⟨m.Kind,m.From,m.To,m.Ballot,m.Slot,[],(⟨0,0,0,(⟨(⟨0,0⟩:zm),0,0,0,[],[],[]⟩:GOp),0,0,[],(⟨0,(Vector.replicate 8 (default:Int)),(Vector.replicate 8 (default:Int)),(Vector.replicate 8 (default:Int))⟩:z7),0,(Vector.replicate 8 (default:Int)),0,(⟨0,0,0,[]⟩:GPart),0,0,0⟩:z6),0,(Vector.replicate 8 (default:Int)),0,0,[],(⟨0,(Vector.replicate 8 (default:Int)),(Vector.replicate 8 (default:Int)),(Vector.replicate 8 (default:Int))⟩:z7),(⟨0,0,0,[]⟩:GPart)⟩:GMsg),true))
 else
 (bif (m.Kind==2) then
 (some ((⟨m.Kind,m.From,m.To,m.Ballot,m.Slot,m.List_,(⟨0,0,0,(⟨(⟨0,0⟩:zm),0,0,0,[],[],[]⟩:GOp),0,0,[],(⟨0,(Vector.replicate 8 (default:Int)),(Vector.replicate 8 (default:Int)),(Vector.replicate 8 (default:Int))⟩:z7),0,(Vector.replicate 8 (default:Int)),0,(⟨0,0,0,[]⟩:GPart),0,0,0⟩:z6),0,(Vector.replicate 8 (default:Int)),0,0,[],(⟨0,(Vector.replicate 8 (default:Int)),(Vector.replicate 8 (default:Int)),(Vector.replicate 8 (default:Int))⟩:z7),(⟨0,0,0,[]⟩:GPart)⟩:GMsg),true))
 else
 (bif (m.Kind==3) then
 (some ((⟨m.Kind,m.From,m.To,m.Ballot,0,m.List_,(⟨0,0,0,(⟨(⟨0,0⟩:zm),0,0,0,[],[],[]⟩:GOp),0,0,[],(⟨0,(Vector.replicate 8 (default:Int)),(Vector.replicate 8 (default:Int)),(Vector.replicate 8 (default:Int))⟩:z7),0,(Vector.replicate 8 (default:Int)),0,(⟨0,0,0,[]⟩:GPart),0,0,0⟩:z6),0,(Vector.replicate 8 (default:Int)),0,0,[],(⟨0,(Vector.replicate 8 (default:Int)),(Vector.replicate 8 (default:Int)),(Vector.replicate 8 (default:Int))⟩:z7),(⟨0,0,0,[]⟩:GPart)⟩:GMsg),true))
 else
 (bif (m.Kind==5) then
 (some ((⟨m.Kind,m.From,m.To,m.Ballot,0,[],(⟨0,0,0,(⟨(⟨0,0⟩:zm),0,0,0,[],[],[]⟩:GOp),0,0,[],(⟨0,(Vector.replicate 8 (default:Int)),(Vector.replicate 8 (default:Int)),(Vector.replicate 8 (default:Int))⟩:z7),0,(Vector.replicate 8 (default:Int)),0,(⟨0,0,0,[]⟩:GPart),0,0,0⟩:z6),0,(Vector.replicate 8 (default:Int)),0,0,[],(⟨0,(Vector.replicate 8 (default:Int)),(Vector.replicate 8 (default:Int)),(Vector.replicate 8 (default:Int))⟩:z7),(⟨0,0,0,[]⟩:GPart)⟩:GMsg),true))
 else
 (bif (m.Kind==6) then
 (some ((⟨m.Kind,m.From,m.To,(⟨0,0⟩:zh),0,m.List_,(⟨0,0,0,(⟨(⟨0,0⟩:zm),0,0,0,[],[],[]⟩:GOp),0,0,[],(⟨0,(Vector.replicate 8 (default:Int)),(Vector.replicate 8 (default:Int)),(Vector.replicate 8 (default:Int))⟩:z7),0,(Vector.replicate 8 (default:Int)),0,(⟨0,0,0,[]⟩:GPart),0,0,0⟩:z6),0,(Vector.replicate 8 (default:Int)),0,0,[],(⟨0,(Vector.replicate 8 (default:Int)),(Vector.replicate 8 (default:Int)),(Vector.replicate 8 (default:Int))⟩:z7),(⟨0,0,0,[]⟩:GPart)⟩:GMsg),true))
 else
 (bif (m.Kind==8) then
 (some ((⟨m.Kind,m.From,m.To,(⟨0,0⟩:zh),m.Slot,[],(⟨0,0,0,(⟨(⟨0,0⟩:zm),0,0,0,[],[],[]⟩:GOp),0,0,[],(⟨0,(Vector.replicate 8 (default:Int)),(Vector.replicate 8 (default:Int)),(Vector.replicate 8 (default:Int))⟩:z7),0,(Vector.replicate 8 (default:Int)),0,(⟨0,0,0,[]⟩:GPart),0,0,0⟩:z6),0,(Vector.replicate 8 (default:Int)),0,0,[],(⟨0,(Vector.replicate 8 (default:Int)),(Vector.replicate 8 (default:Int)),(Vector.replicate 8 (default:Int))⟩:z7),(⟨0,0,0,[]⟩:GPart)⟩:GMsg),true))
 else
 (bif (m.Kind==9) then
 (some ((⟨m.Kind,m.From,m.To,(⟨0,0⟩:zh),0,[],m.Entry,0,(Vector.replicate 8 (default:Int)),0,0,[],(⟨0,(Vector.replicate 8 (default:Int)),(Vector.replicate 8 (default:Int)),(Vector.replicate 8 (default:Int))⟩:z7),(⟨0,0,0,[]⟩:GPart)⟩:GMsg),true))
 else
 (bif (m.Kind==10) then
 (some ((⟨m.Kind,m.From,m.To,(⟨0,0⟩:zh),0,[],(⟨0,0,0,(⟨(⟨0,0⟩:zm),0,0,0,[],[],[]⟩:GOp),0,0,[],(⟨0,(Vector.replicate 8 (default:Int)),(Vector.replicate 8 (default:Int)),(Vector.replicate 8 (default:Int))⟩:z7),0,(Vector.replicate 8 (default:Int)),0,(⟨0,0,0,[]⟩:GPart),0,0,0⟩:z6),m.Number,m.Vector_,m.Clock,0,[],(⟨0,(Vector.replicate 8 (default:Int)),(Vector.replicate 8 (default:Int)),(Vector.replicate 8 (default:Int))⟩:z7),(⟨0,0,0,[]⟩:GPart)⟩:GMsg),true))
 else
 (bif (m.Kind==11) then
 (some ((⟨m.Kind,m.From,m.To,(⟨0,0⟩:zh),m.Slot,[],(⟨0,0,0,(⟨(⟨0,0⟩:zm),0,0,0,[],[],[]⟩:GOp),0,0,[],(⟨0,(Vector.replicate 8 (default:Int)),(Vector.replicate 8 (default:Int)),(Vector.replicate 8 (default:Int))⟩:z7),0,(Vector.replicate 8 (default:Int)),0,(⟨0,0,0,[]⟩:GPart),0,0,0⟩:z6),m.Number,(Vector.replicate 8 (default:Int)),0,m.Origin,m.Ops,(⟨0,(Vector.replicate 8 (default:Int)),(Vector.replicate 8 (default:Int)),(Vector.replicate 8 (default:Int))⟩:z7),(⟨0,0,0,[]⟩:GPart)⟩:GMsg),true))
 else
 (bif (m.Kind==12) then
 (some ((⟨m.Kind,m.From,m.To,(⟨0,0⟩:zh),0,[],(⟨0,0,0,(⟨(⟨0,0⟩:zm),0,0,0,[],[],[]⟩:GOp),0,0,[],(⟨0,(Vector.replicate 8 (default:Int)),(Vector.replicate 8 (default:Int)),(Vector.replicate 8 (default:Int))⟩:z7),0,(Vector.replicate 8 (default:Int)),0,(⟨0,0,0,[]⟩:GPart),0,0,0⟩:z6),0,(Vector.replicate 8 (default:Int)),0,0,[],m.Epoch,(⟨0,0,0,[]⟩:GPart)⟩:GMsg),true))
 else
 (bif (m.Kind==13) then
 (some ((⟨m.Kind,m.From,m.To,(⟨0,0⟩:zh),0,[],(⟨0,0,0,(⟨(⟨0,0⟩:zm),0,0,0,[],[],[]⟩:GOp),0,0,[],(⟨0,(Vector.replicate 8 (default:Int)),(Vector.replicate 8 (default:Int)),(Vector.replicate 8 (default:Int))⟩:z7),0,(Vector.replicate 8 (default:Int)),0,(⟨0,0,0,[]⟩:GPart),0,0,0⟩:z6),0,(Vector.replicate 8 (default:Int)),0,0,[],(⟨0,(Vector.replicate 8 (default:Int)),(Vector.replicate 8 (default:Int)),(Vector.replicate 8 (default:Int))⟩:z7),m.Part⟩:GMsg),true))
 else
 (bif (m.Kind==14) then
 (some ((⟨m.Kind,m.From,m.To,(⟨0,0⟩:zh),0,[],(⟨0,0,0,(⟨(⟨0,0⟩:zm),0,0,0,[],[],[]⟩:GOp),0,0,[],(⟨0,(Vector.replicate 8 (default:Int)),(Vector.replicate 8 (default:Int)),(Vector.replicate 8 (default:Int))⟩:z7),0,(Vector.replicate 8 (default:Int)),0,(⟨0,0,0,[]⟩:GPart),0,0,0⟩:z6),m.Number,m.Vector_,0,0,[],(⟨0,(Vector.replicate 8 (default:Int)),(Vector.replicate 8 (default:Int)),(Vector.replicate 8 (default:Int))⟩:z7),(⟨0,0,0,[]⟩:GPart)⟩:GMsg),true))
 else
 (bif (m.Kind==15) then
 (some ((⟨m.Kind,m.From,m.To,(⟨0,0⟩:zh),m.Slot,[],(⟨0,0,0,(⟨(⟨0,0⟩:zm),0,0,0,[],[],[]⟩:GOp),0,0,[],(⟨0,(Vector.replicate 8 (default:Int)),(Vector.replicate 8 (default:Int)),(Vector.replicate 8 (default:Int))⟩:z7),0,(Vector.replicate 8 (default:Int)),0,(⟨0,0,0,[]⟩:GPart),0,0,0⟩:z6),0,(Vector.replicate 8 (default:Int)),0,0,[],(⟨0,(Vector.replicate 8 (default:Int)),(Vector.replicate 8 (default:Int)),(Vector.replicate 8 (default:Int))⟩:z7),m.Part⟩:GMsg),true))
 else
 (some ((⟨m.Kind,m.From,m.To,(⟨0,0⟩:zh),0,[],(⟨0,0,0,(⟨(⟨0,0⟩:zm),0,0,0,[],[],[]⟩:GOp),0,0,[],(⟨0,(Vector.replicate 8 (default:Int)),(Vector.replicate 8 (default:Int)),(Vector.replicate 8 (default:Int))⟩:z7),0,(Vector.replicate 8 (default:Int)),0,(⟨0,0,0,[]⟩:GPart),0,0,0⟩:z6),0,(Vector.replicate 8 (default:Int)),0,0,[],(⟨0,(Vector.replicate 8 (default:Int)),(Vector.replicate 8 (default:Int)),(Vector.replicate 8 (default:Int))⟩:z7),(⟨0,0,0,[]⟩:GPart)⟩:GMsg),false)))))))))))))))
 else
 (bif (m.Kind==7) then
 (some ((⟨m.Kind,m.From,m.To,m.Ballot,m.Slot,[],(⟨0,0,0,(⟨(⟨0,0⟩:zm),0,0,0,[],[],[]⟩:GOp),0,0,[],(⟨0,(Vector.replicate 8 (default:Int)),(Vector.replicate 8 (default:Int)),(Vector.replicate 8 (default:Int))⟩:z7),0,(Vector.replicate 8 (default:Int)),0,(⟨0,0,0,[]⟩:GPart),0,0,0⟩:z6),0,(Vector.replicate 8 (default:Int)),0,0,[],(⟨0,(Vector.replicate 8 (default:Int)),(Vector.replicate 8 (default:Int)),(Vector.replicate 8 (default:Int))⟩:z7),(⟨0,0,0,[]⟩:GPart)⟩:GMsg),true))
 else
 (bif (m.Kind==2) then
 (some ((⟨m.Kind,m.From,m.To,m.Ballot,m.Slot,m.List_,(⟨0,0,0,(⟨(⟨0,0⟩:zm),0,0,0,[],[],[]⟩:GOp),0,0,[],(⟨0,(Vector.replicate 8 (default:Int)),(Vector.replicate 8 (default:Int)),(Vector.replicate 8 (default:Int))⟩:z7),0,(Vector.replicate 8 (default:Int)),0,(⟨0,0,0,[]⟩:GPart),0,0,0⟩:z6),0,(Vector.replicate 8 (default:Int)),0,0,[],(⟨0,(Vector.replicate 8 (default:Int)),(Vector.replicate 8 (default:Int)),(Vector.replicate 8 (default:Int))⟩:z7),(⟨0,0,0,[]⟩:GPart)⟩:GMsg),true))
 else
 (bif (m.Kind==3) then
 (some ((⟨m.Kind,m.From,m.To,m.Ballot,0,m.List_,(⟨0,0,0,(⟨(⟨0,0⟩:zm),0,0,0,[],[],[]⟩:GOp),0,0,[],(⟨0,(Vector.replicate 8 (default:Int)),(Vector.replicate 8 (default:Int)),(Vector.replicate 8 (default:Int))⟩:z7),0,(Vector.replicate 8 (default:Int)),0,(⟨0,0,0,[]⟩:GPart),0,0,0⟩:z6),0,(Vector.replicate 8 (default:Int)),0,0,[],(⟨0,(Vector.replicate 8 (default:Int)),(Vector.replicate 8 (default:Int)),(Vector.replicate 8 (default:Int))⟩:z7),(⟨0,0,0,[]⟩:GPart)⟩:GMsg),true))
 else
 (bif (m.Kind==5) then
 (some ((⟨m.Kind,m.From,m.To,m.Ballot,0,[],(⟨0,0,0,(⟨(⟨0,0⟩:zm),0,0,0,[],[],[]⟩:GOp),0,0,[],(⟨0,(Vector.replicate 8 (default:Int)),(Vector.replicate 8 (default:Int)),(Vector.replicate 8 (default:Int))⟩:z7),0,(Vector.replicate 8 (default:Int)),0,(⟨0,0,0,[]⟩:GPart),0,0,0⟩:z6),0,(Vector.replicate 8 (default:Int)),0,0,[],(⟨0,(Vector.replicate 8 (default:Int)),(Vector.replicate 8 (default:Int)),(Vector.replicate 8 (default:Int))⟩:z7),(⟨0,0,0,[]⟩:GPart)⟩:GMsg),true))
 else
 (bif (m.Kind==6) then
 (some ((⟨m.Kind,m.From,m.To,(⟨0,0⟩:zh),0,m.List_,(⟨0,0,0,(⟨(⟨0,0⟩:zm),0,0,0,[],[],[]⟩:GOp),0,0,[],(⟨0,(Vector.replicate 8 (default:Int)),(Vector.replicate 8 (default:Int)),(Vector.replicate 8 (default:Int))⟩:z7),0,(Vector.replicate 8 (default:Int)),0,(⟨0,0,0,[]⟩:GPart),0,0,0⟩:z6),0,(Vector.replicate 8 (default:Int)),0,0,[],(⟨0,(Vector.replicate 8 (default:Int)),(Vector.replicate 8 (default:Int)),(Vector.replicate 8 (default:Int))⟩:z7),(⟨0,0,0,[]⟩:GPart)⟩:GMsg),true))
 else
 (bif (m.Kind==8) then
 (some ((⟨m.Kind,m.From,m.To,(⟨0,0⟩:zh),m.Slot,[],(⟨0,0,0,(⟨(⟨0,0⟩:zm),0,0,0,[],[],[]⟩:GOp),0,0,[],(⟨0,(Vector.replicate 8 (default:Int)),(Vector.replicate 8 (default:Int)),(Vector.replicate 8 (default:Int))⟩:z7),0,(Vector.replicate 8 (default:Int)),0,(⟨0,0,0,[]⟩:GPart),0,0,0⟩:z6),0,(Vector.replicate 8 (default:Int)),0,0,[],(⟨0,(Vector.replicate 8 (default:Int)),(Vector.replicate 8 (default:Int)),(Vector.replicate 8 (default:Int))⟩:z7),(⟨0,0,0,[]⟩:GPart)⟩:GMsg),true))
 else
 (bif (m.Kind==9) then
 (some ((⟨m.Kind,m.From,m.To,(⟨0,0⟩:zh),0,[],m.Entry,0,(Vector.replicate 8 (default:Int)),0,0,[],(⟨0,(Vector.replicate 8 (default:Int)),(Vector.replicate 8 (default:Int)),(Vector.replicate 8 (default:Int))⟩:z7),(⟨0,0,0,[]⟩:GPart)⟩:GMsg),true))
 else
 (bif (m.Kind==10) then
 (some ((⟨m.Kind,m.From,m.To,(⟨0,0⟩:zh),0,[],(⟨0,0,0,(⟨(⟨0,0⟩:zm),0,0,0,[],[],[]⟩:GOp),0,0,[],(⟨0,(Vector.replicate 8 (default:Int)),(Vector.replicate 8 (default:Int)),(Vector.replicate 8 (default:Int))⟩:z7),0,(Vector.replicate 8 (default:Int)),0,(⟨0,0,0,[]⟩:GPart),0,0,0⟩:z6),m.Number,m.Vector_,m.Clock,0,[],(⟨0,(Vector.replicate 8 (default:Int)),(Vector.replicate 8 (default:Int)),(Vector.replicate 8 (default:Int))⟩:z7),(⟨0,0,0,[]⟩:GPart)⟩:GMsg),true))
 else
 (bif (m.Kind==11) then
 (some ((⟨m.Kind,m.From,m.To,(⟨0,0⟩:zh),m.Slot,[],(⟨0,0,0,(⟨(⟨0,0⟩:zm),0,0,0,[],[],[]⟩:GOp),0,0,[],(⟨0,(Vector.replicate 8 (default:Int)),(Vector.replicate 8 (default:Int)),(Vector.replicate 8 (default:Int))⟩:z7),0,(Vector.replicate 8 (default:Int)),0,(⟨0,0,0,[]⟩:GPart),0,0,0⟩:z6),m.Number,(Vector.replicate 8 (default:Int)),0,m.Origin,m.Ops,(⟨0,(Vector.replicate 8 (default:Int)),(Vector.replicate 8 (default:Int)),(Vector.replicate 8 (default:Int))⟩:z7),(⟨0,0,0,[]⟩:GPart)⟩:GMsg),true))
 else
 (bif (m.Kind==12) then
 (some ((⟨m.Kind,m.From,m.To,(⟨0,0⟩:zh),0,[],(⟨0,0,0,(⟨(⟨0,0⟩:zm),0,0,0,[],[],[]⟩:GOp),0,0,[],(⟨0,(Vector.replicate 8 (default:Int)),(Vector.replicate 8 (default:Int)),(Vector.replicate 8 (default:Int))⟩:z7),0,(Vector.replicate 8 (default:Int)),0,(⟨0,0,0,[]⟩:GPart),0,0,0⟩:z6),0,(Vector.replicate 8 (default:Int)),0,0,[],m.Epoch,(⟨0,0,0,[]⟩:GPart)⟩:GMsg),true))
 else
 (bif (m.Kind==13) then
 (some ((⟨m.Kind,m.From,m.To,(⟨0,0⟩:zh),0,[],(⟨0,0,0,(⟨(⟨0,0⟩:zm),0,0,0,[],[],[]⟩:GOp),0,0,[],(⟨0,(Vector.replicate 8 (default:Int)),(Vector.replicate 8 (default:Int)),(Vector.replicate 8 (default:Int))⟩:z7),0,(Vector.replicate 8 (default:Int)),0,(⟨0,0,0,[]⟩:GPart),0,0,0⟩:z6),0,(Vector.replicate 8 (default:Int)),0,0,[],(⟨0,(Vector.replicate 8 (default:Int)),(Vector.replicate 8 (default:Int)),(Vector.replicate 8 (default:Int))⟩:z7),m.Part⟩:GMsg),true))
 else
 (bif (m.Kind==14) then
 (some ((⟨m.Kind,m.From,m.To,(⟨0,0⟩:zh),0,[],(⟨0,0,0,(⟨(⟨0,0⟩:zm),0,0,0,[],[],[]⟩:GOp),0,0,[],(⟨0,(Vector.replicate 8 (default:Int)),(Vector.replicate 8 (default:Int)),(Vector.replicate 8 (default:Int))⟩:z7),0,(Vector.replicate 8 (default:Int)),0,(⟨0,0,0,[]⟩:GPart),0,0,0⟩:z6),m.Number,m.Vector_,0,0,[],(⟨0,(Vector.replicate 8 (default:Int)),(Vector.replicate 8 (default:Int)),(Vector.replicate 8 (default:Int))⟩:z7),(⟨0,0,0,[]⟩:GPart)⟩:GMsg),true))
 else
 (bif (m.Kind==15) then
 (some ((⟨m.Kind,m.From,m.To,(⟨0,0⟩:zh),m.Slot,[],(⟨0,0,0,(⟨(⟨0,0⟩:zm),0,0,0,[],[],[]⟩:GOp),0,0,[],(⟨0,(Vector.replicate 8 (default:Int)),(Vector.replicate 8 (default:Int)),(Vector.replicate 8 (default:Int))⟩:z7),0,(Vector.replicate 8 (default:Int)),0,(⟨0,0,0,[]⟩:GPart),0,0,0⟩:z6),0,(Vector.replicate 8 (default:Int)),0,0,[],(⟨0,(Vector.replicate 8 (default:Int)),(Vector.replicate 8 (default:Int)),(Vector.replicate 8 (default:Int))⟩:z7),m.Part⟩:GMsg),true))
 else
 (some ((⟨m.Kind,m.From,m.To,(⟨0,0⟩:zh),0,[],(⟨0,0,0,(⟨(⟨0,0⟩:zm),0,0,0,[],[],[]⟩:GOp),0,0,[],(⟨0,(Vector.replicate 8 (default:Int)),(Vector.replicate 8 (default:Int)),(Vector.replicate 8 (default:Int))⟩:z7),0,(Vector.replicate 8 (default:Int)),0,(⟨0,0,0,[]⟩:GPart),0,0,0⟩:z6),0,(Vector.replicate 8 (default:Int)),0,0,[],(⟨0,(Vector.replicate 8 (default:Int)),(Vector.replicate 8 (default:Int)),(Vector.replicate 8 (default:Int))⟩:z7),(⟨0,0,0,[]⟩:GPart)⟩:GMsg),false)))))))))))))))))
def zhy:Con τ:={ args:=[.ty 71],L:=[],ret:=.tup [.ty 71,.ty 4],L':=[],R:=GMsg×Bool,dflt:=(default,default),F:=fun N a b=>zdi N a.1,of:=fun r=>((r.1,r.2,()),()) }
noncomputable def zw5:Dat τ:={ D:=D0,tbl:=tblOf [],lp:=lpsOf [],k0:=0,mu:=[],un:=[] }
theorem zy3:ConOk E C 84 zhy :=
  zk (D:=zw5) ⟨d0Ok,eGood,zb trivial,fun _=>rfl⟩ zhy (fun a b=>(a.1,a.2.1)) none (fun _ _=>rfl) rfl (fun _ _ h=>nomatch h) 1000000 (fn:=Tryz.f84) Tryz.func84 rfl (by kernel_rfl) (by kernel_rfl) rfl (by intro N a b; kernel_rfl)
def z6z (N:Nat) (a:zd) (b:zd):Option (Bool) :=
 ((bif ((a.Slot==b.Slot)&&((a.Ballot.Round==b.Ballot.Round)&&(a.Ballot.Replica==b.Ballot.Replica))) then z1g N a.Entry b.Entry else some default).bind fun r1 =>
 (some (((a.Slot==b.Slot)&&((a.Ballot.Round==b.Ballot.Round)&&(a.Ballot.Replica==b.Ballot.Replica)))&&r1)))
def zah:Con τ:={ args:=[.ty 178,.ty 178],L:=[],ret:=.ty 4,L':=[],R:=Bool,dflt:=default,F:=fun N a b=>z6z N a.1 a.2.1,of:=fun r=>(r,()) }
noncomputable def zno:Dat τ:={ D:=D0,tbl:=tblOf [(31,z4w)],lp:=lpsOf [],k0:=0,mu:=[],un:=[] }
theorem zok:ConOk E C 133 zah :=
  zk (D:=zno) ⟨d0Ok,eGood,zb ⟨za9,trivial⟩,fun _=>rfl⟩ zah (fun a b=>a) none (fun _ _=>rfl) rfl (fun _ _ h=>nomatch h) 1000000 (fn:=Tryz.f133) Tryz.func133 rfl (by kernel_rfl) (by kernel_rfl) rfl (by intro N a b; kernel_rfl)
structure z5n where
  i:Int
def zbw:List Sl:=[.k,.k,.k,.k,.j,.sh (.ty 2),.k,.k,.k,.k,.k,.j,.j,.j,.j,.j,.j,.j,.j,.j,.j,.j,.j,.j,.j,.j,.j]
def zbx:List ESh:=[]
def zpx (a:Sl.Ts τ zbw) (b:ESh.Ts τ zbx):z5n:=⟨a.2.2.2.2.2.1⟩
def zpy (s:z5n):Sl.Ts τ zbw:=((),(),(),(),(),s.i,(),(),(),(),(),(),(),(),(),(),(),(),(),(),(),(),(),(),(),(),(),())
def zpz (s:z5n):ESh.Ts τ zbx:=()
def zq0:Lp τ:={ ts:=zbw,hs:=zbx,S:=z5n,to:=zpx,ot:=zpy,oh:=zpz,hk:=[],tk:=[],ot_to:=fun _ _=>rfl,oh_to:=fun _ _=>rfl }
def zby (N:Nat) (a:List (zd)) (b:List (zd)):Option (Bool) :=
 (bif (!(((a).length:Int)==((b).length:Int))) then
 (some false)
 else
 (iter N (fun (s1:z5n) next2 =>
 (bif (decide (s1.i < ((a).length:Int))) then
 (bif (ibB s1.i ((a).length:Int)) then
 (bif (ibB s1.i ((b).length:Int)) then
 ((z6z N (⟨(lget a s1.i default).Slot,((lget a s1.i default).Ballot),(⟨((lget a s1.i default).Entry).Kind,((lget a s1.i default).Entry).Session,((lget a s1.i default).Entry).Request,(⟨((((lget a s1.i default).Entry).Op).Stamp),(((lget a s1.i default).Entry).Op).Kind,(((lget a s1.i default).Entry).Op).Node,(((lget a s1.i default).Entry).Op).Parent,(((lget a s1.i default).Entry).Op).Name,(((lget a s1.i default).Entry).Op).Key,(((lget a s1.i default).Entry).Op).Value⟩:GOp),((lget a s1.i default).Entry).Origin,((lget a s1.i default).Entry).Seq,((lget a s1.i default).Entry).Ops,(((lget a s1.i default).Entry).Epoch),((lget a s1.i default).Entry).From,((lget a s1.i default).Entry).Vector_,((lget a s1.i default).Entry).Clock,(((lget a s1.i default).Entry).Part),((lget a s1.i default).Entry).Site,((lget a s1.i default).Entry).Sponsor,((lget a s1.i default).Entry).Length⟩:z6)⟩:zd) (⟨(lget b s1.i default).Slot,((lget b s1.i default).Ballot),(⟨((lget b s1.i default).Entry).Kind,((lget b s1.i default).Entry).Session,((lget b s1.i default).Entry).Request,(⟨((((lget b s1.i default).Entry).Op).Stamp),(((lget b s1.i default).Entry).Op).Kind,(((lget b s1.i default).Entry).Op).Node,(((lget b s1.i default).Entry).Op).Parent,(((lget b s1.i default).Entry).Op).Name,(((lget b s1.i default).Entry).Op).Key,(((lget b s1.i default).Entry).Op).Value⟩:GOp),((lget b s1.i default).Entry).Origin,((lget b s1.i default).Entry).Seq,((lget b s1.i default).Entry).Ops,(((lget b s1.i default).Entry).Epoch),((lget b s1.i default).Entry).From,((lget b s1.i default).Entry).Vector_,((lget b s1.i default).Entry).Clock,(((lget b s1.i default).Entry).Part),((lget b s1.i default).Entry).Site,((lget b s1.i default).Entry).Sponsor,((lget b s1.i default).Entry).Length⟩:z6)⟩:zd)).bind fun r3 =>
 (bif (!r3) then
 (some false)
 else
 (next2 ⟨(IntKind.i64.wrap (s1.i + 1))⟩)))
 else none)
 else none)
 else
 (some true))) ⟨0⟩))
def zd3:Con τ:={ args:=[.ty 69,.ty 69],L:=[],ret:=.ty 4,L':=[],R:=Bool,dflt:=default,F:=fun N a b=>zby N a.1 a.2.1,of:=fun r=>(r,()) }
noncomputable def zr8:Dat τ:={ D:=D0,tbl:=tblOf [(133,zah)],lp:=lpsOf [(4,zq0)],k0:=0,mu:=[],un:=[] }
theorem zsv:ConOk E C 83 zd3 :=
  zk (D:=zr8) ⟨d0Ok,eGood,zb ⟨zok,trivial⟩,fun _=>rfl⟩ zd3 (fun a b=>a) none (fun _ _=>rfl) rfl (fun _ _ h=>nomatch h) 1000000 (fn:=Tryz.f83) Tryz.func83 rfl (by kernel_rfl) (by kernel_rfl) rfl (by intro N a b; kernel_rfl)
def z76 (N:Nat) (a:GMsg) (b:GMsg):Option (Bool) :=
 ((bif (((((a.Kind==b.Kind)&&((a.From.Group==b.From.Group)&&(a.From.Replica==b.From.Replica)))&&((a.To.Group==b.To.Group)&&(a.To.Replica==b.To.Replica)))&&((a.Ballot.Round==b.Ballot.Round)&&(a.Ballot.Replica==b.Ballot.Replica)))&&(a.Slot==b.Slot)) then zby N a.List_ b.List_ else some default).bind fun r1 =>
 ((bif ((((((a.Kind==b.Kind)&&((a.From.Group==b.From.Group)&&(a.From.Replica==b.From.Replica)))&&((a.To.Group==b.To.Group)&&(a.To.Replica==b.To.Replica)))&&((a.Ballot.Round==b.Ballot.Round)&&(a.Ballot.Replica==b.Ballot.Replica)))&&(a.Slot==b.Slot))&&r1) then z1g N a.Entry b.Entry else some default).bind fun r2 =>
 ((bif (((((((((((a.Kind==b.Kind)&&((a.From.Group==b.From.Group)&&(a.From.Replica==b.From.Replica)))&&((a.To.Group==b.To.Group)&&(a.To.Replica==b.To.Replica)))&&((a.Ballot.Round==b.Ballot.Round)&&(a.Ballot.Replica==b.Ballot.Replica)))&&(a.Slot==b.Slot))&&r1)&&r2)&&(a.Number==b.Number))&&(vbeq beq2 a.Vector_ b.Vector_))&&(a.Clock==b.Clock))&&(a.Origin==b.Origin)) then zat N a.Ops b.Ops else some default).bind fun r3 =>
 ((bif (((((((((((((a.Kind==b.Kind)&&((a.From.Group==b.From.Group)&&(a.From.Replica==b.From.Replica)))&&((a.To.Group==b.To.Group)&&(a.To.Replica==b.To.Replica)))&&((a.Ballot.Round==b.Ballot.Round)&&(a.Ballot.Replica==b.Ballot.Replica)))&&(a.Slot==b.Slot))&&r1)&&r2)&&(a.Number==b.Number))&&(vbeq beq2 a.Vector_ b.Vector_))&&(a.Clock==b.Clock))&&(a.Origin==b.Origin))&&r3)&&((a.Epoch.Number==b.Epoch.Number)&&((vbeq beq3 a.Epoch.States b.Epoch.States)&&((vbeq beq2 a.Epoch.Seals b.Epoch.Seals)&&(vbeq beq3 a.Epoch.Sponsor b.Epoch.Sponsor))))) then z9u N a.Part b.Part else some default).bind fun r4 =>
 (some ((((((((((((((a.Kind==b.Kind)&&((a.From.Group==b.From.Group)&&(a.From.Replica==b.From.Replica)))&&((a.To.Group==b.To.Group)&&(a.To.Replica==b.To.Replica)))&&((a.Ballot.Round==b.Ballot.Round)&&(a.Ballot.Replica==b.Ballot.Replica)))&&(a.Slot==b.Slot))&&r1)&&r2)&&(a.Number==b.Number))&&(vbeq beq2 a.Vector_ b.Vector_))&&(a.Clock==b.Clock))&&(a.Origin==b.Origin))&&r3)&&((a.Epoch.Number==b.Epoch.Number)&&((vbeq beq3 a.Epoch.States b.Epoch.States)&&((vbeq beq2 a.Epoch.Seals b.Epoch.Seals)&&(vbeq beq3 a.Epoch.Sponsor b.Epoch.Sponsor)))))&&r4))))))
def zau:Con τ:={ args:=[.ty 71,.ty 71],L:=[],ret:=.ty 4,L':=[],R:=Bool,dflt:=default,F:=fun N a b=>z76 N a.1 a.2.1,of:=fun r=>(r,()) }
noncomputable def zsw:Dat τ:={ D:=D0,tbl:=tblOf [(83,zd3),(31,z4w),(75,zax),(76,za8)],lp:=lpsOf [],k0:=0,mu:=[],un:=[] }
theorem zmo:ConOk E C 34 zau :=
  zk (D:=zsw) ⟨d0Ok,eGood,zb ⟨zsv,⟨za9,⟨zmx,⟨zlw,trivial⟩⟩⟩⟩,fun _=>rfl⟩ zau (fun a b=>a) none (fun _ _=>rfl) rfl (fun _ _ h=>nomatch h) 1000000 (fn:=Tryz.f34) Tryz.func34 rfl (by kernel_rfl) (by kernel_rfl) rfl (by intro N a b; kernel_rfl)
def zam (N:Nat) (a:GAddr):Option (Bool) :=
 (some ((((decide (0≤a.Group))&&(decide (a.Group < 9)))&&(decide (0≤a.Replica)))&&(decide (a.Replica < 5))))
def zdr:Con τ:={ args:=[.ty 66],L:=[],ret:=.ty 4,L':=[],R:=Bool,dflt:=default,F:=fun N a b=>zam N a.1,of:=fun r=>(r,()) }
noncomputable def zsx:Dat τ:={ D:=D0,tbl:=tblOf [],lp:=lpsOf [],k0:=0,mu:=[],un:=[] }
theorem zu3:ConOk E C 85 zdr :=
  zk (D:=zsx) ⟨d0Ok,eGood,zb trivial,fun _=>rfl⟩ zdr (fun a b=>a) none (fun _ _=>rfl) rfl (fun _ _ h=>nomatch h) 1000000 (fn:=Tryz.f85) Tryz.func85 rfl (by kernel_rfl) (by kernel_rfl) rfl (by intro N a b; kernel_rfl)
def zbz (N:Nat) (b:zh):Option (Bool) :=
 ((zt N b.Round).bind fun r1 =>
 (some ((r1&&(decide (0≤b.Replica)))&&(decide (b.Replica < 5)))))
def zc0:Con τ:={ args:=[.ty 68],L:=[],ret:=.ty 4,L':=[],R:=Bool,dflt:=default,F:=fun N a b=>zbz N a.1,of:=fun r=>(r,()) }
noncomputable def zu4:Dat τ:={ D:=D0,tbl:=tblOf [(61,z3g)],lp:=lpsOf [],k0:=0,mu:=[],un:=[] }
theorem zo1:ConOk E C 86 zc0 :=
  zk (D:=zu4) ⟨d0Ok,eGood,zb ⟨z71,trivial⟩,fun _=>rfl⟩ zc0 (fun a b=>a) none (fun _ _=>rfl) rfl (fun _ _ h=>nomatch h) 1000000 (fn:=Tryz.f86) Tryz.func86 rfl (by kernel_rfl) (by kernel_rfl) rfl (by intro N a b; kernel_rfl)
structure za0 where
  i:Int
def zhz:List Sl:=[.k,.k,.k,.k,.k,.k,.j,.sh (.ty 2),.j,.j,.j,.j,.j,.j,.j,.j,.j,.j,.j,.j,.j,.j,.j,.j,.j,.j,.j,.j,.j,.j,.j,.j,.j,.j,.j,.j,.j,.j,.j,.k,.k,.k,.k,.k,.k,.k,.k,.k,.k]
def zi0:List ESh:=[]
def zw6 (a:Sl.Ts τ zhz) (b:ESh.Ts τ zi0):za0:=⟨a.2.2.2.2.2.2.2.1⟩
def zw7 (s:za0):Sl.Ts τ zhz:=((),(),(),(),(),(),(),s.i,(),(),(),(),(),(),(),(),(),(),(),(),(),(),(),(),(),(),(),(),(),(),(),(),(),(),(),(),(),(),(),(),(),(),(),(),(),(),(),(),(),())
def zw8 (s:za0):ESh.Ts τ zi0:=()
def zw9:Lp τ:={ ts:=zhz,hs:=zi0,S:=za0,to:=zw6,ot:=zw7,oh:=zw8,hk:=[],tk:=[],ot_to:=fun _ _=>rfl,oh_to:=fun _ _=>rfl }
def zd4 (N:Nat) (l:List (zd)) (least:Int) (most:Int):Option (Bool) :=
 (iter N (fun (s1:za0) next2 =>
 (bif (decide (s1.i < ((l).length:Int))) then
 (bif (ibB s1.i ((l).length:Int)) then
 ((zt N ((lget l s1.i default).Slot)).bind fun r3 =>
 (bif (!(!(!r3)) || (ibB s1.i ((l).length:Int))) then
 ((bif (!(!r3)) then zbz N ((lget l s1.i default).Ballot) else some default).bind fun r4 =>
 (bif (!(!((!r3) || (!r4))) || (ibB s1.i ((l).length:Int))) then
 ((bif (!((!r3) || (!r4))) then z1r N (⟨((lget l s1.i default).Entry).Kind,((lget l s1.i default).Entry).Session,((lget l s1.i default).Entry).Request,(⟨((((lget l s1.i default).Entry).Op).Stamp),(((lget l s1.i default).Entry).Op).Kind,(((lget l s1.i default).Entry).Op).Node,(((lget l s1.i default).Entry).Op).Parent,(((lget l s1.i default).Entry).Op).Name,(((lget l s1.i default).Entry).Op).Key,(((lget l s1.i default).Entry).Op).Value⟩:GOp),((lget l s1.i default).Entry).Origin,((lget l s1.i default).Entry).Seq,((lget l s1.i default).Entry).Ops,(((lget l s1.i default).Entry).Epoch),((lget l s1.i default).Entry).From,((lget l s1.i default).Entry).Vector_,((lget l s1.i default).Entry).Clock,(((lget l s1.i default).Entry).Part),((lget l s1.i default).Entry).Site,((lget l s1.i default).Entry).Sponsor,((lget l s1.i default).Entry).Length⟩:z6) else some default).bind fun r5 =>
 (bif (((!r3) || (!r4)) || (!r5)) then
 (some false)
 else
 (next2 ⟨(IntKind.i64.wrap (s1.i + 1))⟩)))
 else none))
 else none))
 else none)
 else
 (some ((decide (least≤((l).length:Int)))&&(decide (((l).length:Int)≤most)))))) ⟨0⟩)
def zkw:Con τ:={ args:=[.ty 69,.ty 3,.ty 3],L:=[],ret:=.ty 4,L':=[],R:=Bool,dflt:=default,F:=fun N a b=>zd4 N a.1 a.2.1 a.2.2.1,of:=fun r=>(r,()) }
noncomputable def zy4:Dat τ:={ D:=D0,tbl:=tblOf [(61,z3g),(86,zc0),(32,z8b)],lp:=lpsOf [(2,zw9)],k0:=0,mu:=[],un:=[] }
theorem zzw:ConOk E C 87 zkw :=
  zk (D:=zy4) ⟨d0Ok,eGood,zb ⟨z71,⟨zo1,⟨zdv,trivial⟩⟩⟩,fun _=>rfl⟩ zkw (fun a b=>a) none (fun _ _=>rfl) rfl (fun _ _ h=>nomatch h) 1000000 (fn:=Tryz.f87) Tryz.func87 rfl (by kernel_rfl) (by kernel_rfl) rfl (by intro N a b; kernel_rfl)
def z8k (N:Nat) (m:GMsg):Option (Bool) :=
 ((zdi N m).bind fun r1 =>
 ((bif (!(!r1.2)) then z76 N m r1.1 else some default).bind fun r2 =>
 ((bif (!((!r1.2) || (!r2))) then zam N m.From else some default).bind fun r3 =>
 ((bif (!(((!r1.2) || (!r2)) || (!r3))) then zam N m.To else some default).bind fun r4 =>
 (bif ((((!r1.2) || (!r2)) || (!r3)) || (!r4)) then
 (some false)
 else
 ((zbz N m.Ballot).bind fun r5 =>
 ((bif (!(!r5)) then zt N m.Slot else some default).bind fun r6 =>
 ((bif (!((!r5) || (!r6))) then zt N m.Number else some default).bind fun r7 =>
 ((bif (!(((!r5) || (!r6)) || (!r7))) then z3y N m.Vector_ else some default).bind fun r8 =>
 ((bif (!((((!r5) || (!r6)) || (!r7)) || (!r8))) then zt N m.Clock else some default).bind fun r9 =>
 (bif (((((!r5) || (!r6)) || (!r7)) || (!r8)) || (!r9)) then
 (some false)
 else
 (bif (m.Kind==2) then
 ((zd4 N m.List_ 0 4096).bind fun r10 =>
 (some r10))
 else
 (bif (m.Kind==3) then
 ((zd4 N m.List_ 1 1).bind fun r11 =>
 (some r11))
 else
 (bif (m.Kind==6) then
 ((zd4 N m.List_ 1 4096).bind fun r12 =>
 (some r12))
 else
 (bif (m.Kind==9) then
 ((z1r N m.Entry).bind fun r13 =>
 (some r13))
 else
 (bif (m.Kind==11) then
 ((z1b N m.Origin).bind fun r14 =>
 ((bif r14 then zd9 N m.Ops else some default).bind fun r15 =>
 (some (r14&&r15))))
 else
 (bif (m.Kind==12) then
 ((z6f N m.Epoch).bind fun r16 =>
 (some r16))
 else
 (bif (m.Kind==13) then
 (bif (m.Kind==13) then
 ((z5m N m.Part).bind fun r17 =>
 (some r17))
 else
 (some true))
 else
 (bif (m.Kind==15) then
 ((z5m N m.Part).bind fun r18 =>
 (some r18))
 else
 (some true))))))))))))))))))))
def zer:Con τ:={ args:=[.ty 71],L:=[],ret:=.ty 4,L':=[],R:=Bool,dflt:=default,F:=fun N a b=>z8k N a.1,of:=fun r=>(r,()) }
noncomputable def zu5:Dat τ:={ D:=D0,tbl:=tblOf [(84,zhy),(34,zau),(85,zdr),(86,zc0),(61,z3g),(62,z72),(87,zkw),(32,z8b),(78,zca),(79,zhh),(24,zaa),(80,zay)],lp:=lpsOf [],k0:=0,mu:=[],un:=[] }
theorem zwa:ConOk E C 35 zer :=
  zk (D:=zu5) ⟨d0Ok,eGood,zb ⟨zy3,⟨zmo,⟨zu3,⟨zo1,⟨z71,⟨zda,⟨zzw,⟨zdv,⟨zmy,⟨zuq,⟨zlx,⟨zmz,trivial⟩⟩⟩⟩⟩⟩⟩⟩⟩⟩⟩⟩,fun _=>rfl⟩ zer (fun a b=>a) none (fun _ _=>rfl) rfl (fun _ _ h=>nomatch h) 1000000 (fn:=Tryz.f35) Tryz.func35 rfl (by kernel_rfl) (by kernel_rfl) rfl (by intro N a b; kernel_rfl)
def z9p (N:Nat) (b:List (Int)):Option (z4) :=
 ((z3q N b).bind fun r1 =>
 (some (⟨true,r1⟩:z4)))
def za1:Con τ:={ args:=[.ty 31],L:=[],ret:=.ptr 0 [],L':=[.box (.ty 99)],R:=z4,dflt:=default,F:=fun N a b=>z9p N a.1,of:=fun r=>((),(r,())) }
noncomputable def zr9:Dat τ:={ D:=D0,tbl:=tblOf [(49,z3x)],lp:=lpsOf [],k0:=0,mu:=[],un:=[] }
theorem zls:ConOk E C 17 za1 :=
  zk (D:=zr9) ⟨d0Ok,eGood,zb ⟨z90,trivial⟩,fun _=>rfl⟩ za1 (fun a b=>b.1) none (fun _ _=>rfl) rfl (fun _ _ h=>nomatch h) 1000000 (fn:=Tryz.f17) Tryz.func17 rfl (by kernel_rfl) (by kernel_rfl) rfl (by intro N a b; kernel_rfl)
def z2y (N:Nat) (b0:z4):Option (Bool×z4) :=
 (some ((!b0.made),b0))
def z3i:Con τ:={ args:=[.ptr 0 []],L:=[.box (.ty 99)],ret:=.ty 4,L':=[.box (.ty 99)],R:=Bool×z4,dflt:=(default,default),F:=fun N a b=>z2y N b.1,of:=fun r=>(r.1,(r.2,())) }
noncomputable def zkx:Dat τ:={ D:=D0,tbl:=tblOf [],lp:=lpsOf [],k0:=1,mu:=[],un:=[] }
theorem z9c:ConOk E C 63 z3i :=
  zk (D:=zkx) ⟨d0Ok,eGood,zb trivial,fun _=>rfl⟩ z3i (fun a b=>(a,b.1)) none (fun _ _=>rfl) rfl (fun _ _ h=>nomatch h) 1000000 (fn:=Tryz.f63) Tryz.func63 rfl (by kernel_rfl) (by kernel_rfl) rfl (by intro N a b; kernel_rfl)
structure za2 where
  u:Int
  t8:Int
def zi1:List Sl:=[.k,.k,.j,.j,.j,.sh (.ty 12),.j,.j,.sh (.ty 2),.j,.j,.j,.j,.j,.j,.j,.j,.j,.j,.j,.j,.j,.j,.j,.j,.j,.j,.j,.j,.j,.j,.j,.j,.j,.j,.j,.j,.j,.j,.j,.j,.j,.j,.j,.j,.j,.j,.j,.j,.j,.j,.j,.j,.j,.j,.j,.j,.j]
def zi2:List ESh:=[]
def zwb (a:Sl.Ts τ zi1) (b:ESh.Ts τ zi2):za2:=⟨a.2.2.2.2.2.1,a.2.2.2.2.2.2.2.2.1⟩
def zwc (s:za2):Sl.Ts τ zi1:=((),(),(),(),(),s.u,(),(),s.t8,(),(),(),(),(),(),(),(),(),(),(),(),(),(),(),(),(),(),(),(),(),(),(),(),(),(),(),(),(),(),(),(),(),(),(),(),(),(),(),(),(),(),(),(),(),(),(),(),(),())
def zwd (s:za2):ESh.Ts τ zi2:=()
def zwe:Lp τ:={ ts:=zi1,hs:=zi2,S:=za2,to:=zwb,ot:=zwc,oh:=zwd,hk:=[],tk:=[],ot_to:=fun _ _=>rfl,oh_to:=fun _ _=>rfl }
def zd5 (N:Nat) (b:List (Int)):Option (Int×Int×Int) :=
 (iter N (fun (s1:za2) next2 =>
 (bif (decide (s1.t8 < 10)) then
 (bif (decide (((b).length:Int)≤s1.t8)) then
 (some (0,0,10))
 else
 (bif (ibB s1.t8 ((b).length:Int)) then
 (bif (((s1.t8==9)&&(decide (1 < (lget b s1.t8 default)))) || (((lget b s1.t8 default)==0)&&(decide (0 < s1.t8)))) then
 (some (0,0,11))
 else
 (bif (decide (0≤(IntKind.i64.wrap (7 * s1.t8)))) then
 (bif (decide ((lget b s1.t8 default) < 128)) then
 (bif ((bits .and .u64 (bits .or .u64 s1.u (shl .u64 (IntKind.u64.wrap (bits .and .u8 (lget b s1.t8 default) 127)) (IntKind.i64.wrap (7 * s1.t8)))) 1)==1) then
 (some ((IntKind.i64.wrap (bits .xor .u64 IntKind.u64.max (shr .u64 (bits .or .u64 s1.u (shl .u64 (IntKind.u64.wrap (bits .and .u8 (lget b s1.t8 default) 127)) (IntKind.i64.wrap (7 * s1.t8)))) 1))),(IntKind.i64.wrap (s1.t8 + 1)),0))
 else
 (some ((IntKind.i64.wrap (shr .u64 (bits .or .u64 s1.u (shl .u64 (IntKind.u64.wrap (bits .and .u8 (lget b s1.t8 default) 127)) (IntKind.i64.wrap (7 * s1.t8)))) 1)),(IntKind.i64.wrap (s1.t8 + 1)),0)))
 else
 (next2 ⟨(bits .or .u64 s1.u (shl .u64 (IntKind.u64.wrap (bits .and .u8 (lget b s1.t8 default) 127)) (IntKind.i64.wrap (7 * s1.t8)))),(IntKind.i64.wrap (s1.t8 + 1))⟩))
 else none))
 else none))
 else
 (some (0,0,11)))) ⟨0,0⟩)
def zc1:Con τ:={ args:=[.ty 31],L:=[],ret:=.tup [.ty 2,.ty 3,.ty 35],L':=[],R:=Int×Int×Int,dflt:=(default,default,default),F:=fun N a b=>zd5 N a.1,of:=fun r=>((r.1,r.2.1,r.2.2,()),()) }
noncomputable def zy5:Dat τ:={ D:=D0,tbl:=tblOf [],lp:=lpsOf [(3,zwe)],k0:=0,mu:=[],un:=[] }
theorem zmp:ConOk E C 130 zc1 :=
  zk (D:=zy5) ⟨d0Ok,eGood,zb trivial,fun _=>rfl⟩ zc1 (fun a b=>(a.1,a.2.1,a.2.2.1)) none (fun _ _=>rfl) rfl (fun _ _ h=>nomatch h) 1000000 (fn:=Tryz.f130) Tryz.func130 rfl (by kernel_rfl) (by kernel_rfl) rfl (by intro N a b; kernel_rfl)
def z84 (N:Nat) (b0:z4):Option (Int×Int×z4) :=
 ((z2y N b0).bind fun r1 =>
 (bif r1.1 then
 (some (0,2,r1.2))
 else
 ((zd5 N r1.2.b).bind fun r2 =>
 (bif (cutB r2.2.1 ((r1.2.b).length:Int) ((r1.2.b).length:Int)) then
 (some (r2.1,r2.2.2,(⟨r1.2.made,(cut r1.2.b r2.2.1 ((r1.2.b).length:Int))⟩:z4)))
 else none))))
def z9d:Con τ:={ args:=[.ptr 0 []],L:=[.box (.ty 99)],ret:=.tup [.ty 2,.ty 35],L':=[.box (.ty 99)],R:=Int×Int×z4,dflt:=(default,default,default),F:=fun N a b=>z84 N b.1,of:=fun r=>((r.1,r.2.1,()),(r.2.2,())) }
noncomputable def zm0:Dat τ:={ D:=D0,tbl:=tblOf [(63,z3i),(130,zc1)],lp:=lpsOf [],k0:=1,mu:=[],un:=[] }
theorem zmq:ConOk E C 156 z9d :=
  zk (D:=zm0) ⟨d0Ok,eGood,zb ⟨z9c,⟨zmp,trivial⟩⟩,fun _=>rfl⟩ z9d (fun a b=>(a.1,a.2.1,b.1)) none (fun _ _=>rfl) rfl (fun _ _ h=>nomatch h) 1000000 (fn:=Tryz.f156) Tryz.func156 rfl (by kernel_rfl) (by kernel_rfl) rfl (by intro N a b; kernel_rfl)
def z1d (N:Nat) (e:Int) (b0:Int) (b1:z4):Option (Int×z4) :=
 (bif (b0==0) then
 (some (e,b1))
 else
 (some (b0,b1)))
def z22:Con τ:={ args:=[.ptr 0 [],.ty 35],L:=[.box (.agg [.ptr 1 [],.ty 35]),.box (.ty 99)],ret:=.tup [],L':=[.box (.agg [.ptr 1 [],.ty 35]),.box (.ty 99)],R:=Int×z4,dflt:=(default,default),F:=fun N a b=>z1d N a.2.1 b.1.2.1 b.2.1,of:=fun r=>((),(((),r.1,()),r.2,())) }
noncomputable def zi3:Dat τ:={ D:=D0,tbl:=tblOf [],lp:=lpsOf [],k0:=2,mu:=[],un:=[] }
theorem z3a:ConOk E C 73 z22 :=
  zk (D:=zi3) ⟨d0Ok,eGood,zb trivial,fun _=>rfl⟩ z22 (fun a b=>(b.1.2.1,b.2.1)) none (fun _ _=>rfl) rfl (fun _ _ h=>nomatch h) 1000000 (fn:=Tryz.f73) Tryz.func73 rfl (by kernel_rfl) (by kernel_rfl) rfl (by intro N a b; kernel_rfl)
def ze (N:Nat) (b0:Int) (b1:z4):Option (Int×Int×z4) :=
 (bif (!(b0==0)) then
 (some (0,b0,b1))
 else
 ((z84 N b1).bind fun r1 =>
 ((z1d N r1.2.1 b0 r1.2.2).bind fun r2 =>
 (some (r1.1,r2.1,r2.2)))))
def zi:Con τ:={ args:=[.ptr 0 []],L:=[.box (.agg [.ptr 1 [],.ty 35]),.box (.ty 99)],ret:=.ty 2,L':=[.box (.agg [.ptr 1 [],.ty 35]),.box (.ty 99)],R:=Int×Int×z4,dflt:=(default,default,default),F:=fun N a b=>ze N b.1.2.1 b.2.1,of:=fun r=>(r.1,(((),r.2.1,()),r.2.2,())) }
noncomputable def zjg:Dat τ:={ D:=D0,tbl:=tblOf [(156,z9d),(73,z22)],lp:=lpsOf [],k0:=2,mu:=[],un:=[] }
theorem zo:ConOk E C 139 zi :=
  zk (D:=zjg) ⟨d0Ok,eGood,zb ⟨zmq,⟨z3a,trivial⟩⟩,fun _=>rfl⟩ zi (fun a b=>(a,b.1.2.1,b.2.1)) none (fun _ _=>rfl) rfl (fun _ _ h=>nomatch h) 1000000 (fn:=Tryz.f139) Tryz.func139 rfl (by kernel_rfl) (by kernel_rfl) rfl (by intro N a b; kernel_rfl)
def zf (N:Nat) (b0:Int) (b1:z4):Option (Int×Int×z4) :=
 ((ze N b0 b1).bind fun r1 =>
 (bif (!(r1.1==(IntKind.i64.wrap (IntKind.i32.wrap r1.1)))) then
 (some ((-2),r1.2.1,r1.2.2))
 else
 (some (r1.1,r1.2.1,r1.2.2))))
def zu:Con τ:={ args:=[.ptr 0 []],L:=[.box (.agg [.ptr 1 [],.ty 35]),.box (.ty 99)],ret:=.ty 3,L':=[.box (.agg [.ptr 1 [],.ty 35]),.box (.ty 99)],R:=Int×Int×z4,dflt:=(default,default,default),F:=fun N a b=>zf N b.1.2.1 b.2.1,of:=fun r=>(r.1,(((),r.2.1,()),r.2.2,())) }
noncomputable def zga:Dat τ:={ D:=D0,tbl:=tblOf [(139,zi)],lp:=lpsOf [],k0:=2,mu:=[],un:=[] }
theorem z11:ConOk E C 104 zu :=
  zk (D:=zga) ⟨d0Ok,eGood,zb ⟨zo,trivial⟩,fun _=>rfl⟩ zu (fun a b=>(a,b.1.2.1,b.2.1)) none (fun _ _=>rfl) rfl (fun _ _ h=>nomatch h) 1000000 (fn:=Tryz.f104) Tryz.func104 rfl (by kernel_rfl) (by kernel_rfl) rfl (by intro N a b; kernel_rfl)
def z77 (N:Nat) (b0:Int) (b1:z6) (b2:z4):Option (Int×z6×z4) :=
 ((zf N b0 b2).bind fun r1 =>
 (some (r1.2.1,(⟨r1.1,b1.Session,b1.Request,b1.Op,b1.Origin,b1.Seq,b1.Ops,b1.Epoch,b1.From,b1.Vector_,b1.Clock,b1.Part,b1.Site,b1.Sponsor,b1.Length⟩:z6),r1.2.2)))
def z5s:Con τ:={ args:=[.ptr 0 [],.ls 1 [.ptr 1 [.fld 0 0]]],L:=[.box (.agg [.ptr 2 [],.ty 35]),.box (.ty 64),.box (.ty 99)],ret:=.tup [],L':=[.box (.agg [.ptr 2 [],.ty 35]),.box (.ty 64),.box (.ty 99)],R:=Int×z6×z4,dflt:=(default,default,default),F:=fun N a b=>z77 N b.1.2.1 b.2.1 b.2.2.1,of:=fun r=>((),(((),r.1,()),r.2.1,r.2.2,())) }
noncomputable def zes:Dat τ:={ D:=D0,tbl:=tblOf [(104,zu)],lp:=lpsOf [],k0:=3,mu:=[],un:=[(1,3)] }
theorem zgb:ConOk E C 99 z5s :=
  zk (D:=zes) ⟨d0Ok,eGood,zb ⟨z11,trivial⟩,fun _=>rfl⟩ z5s (fun a b=>(b.1.2.1,b.2.1,b.2.2.1)) none (fun _ _=>rfl) rfl (fun _ _ h=>nomatch h) 1000000 (fn:=Tryz.f99) Tryz.func99 rfl (by kernel_rfl) (by kernel_rfl) rfl (by intro N a b; kernel_rfl)
def z8l (N:Nat) (b0:Int) (b1:z6) (b2:z4):Option (Int×z6×z4) :=
 ((ze N b0 b2).bind fun r1 =>
 ((ze N r1.2.1 r1.2.2).bind fun r2 =>
 (some (r2.2.1,(⟨b1.Kind,r1.1,r2.1,b1.Op,b1.Origin,b1.Seq,b1.Ops,b1.Epoch,b1.From,b1.Vector_,b1.Clock,b1.Part,b1.Site,b1.Sponsor,b1.Length⟩:z6),r2.2.2))))
def z78:Con τ:={ args:=[.ptr 0 [],.ls 1 [.ptr 1 [.fld 1 1],.ptr 1 [.fld 2 2]]],L:=[.box (.agg [.ptr 2 [],.ty 35]),.box (.ty 64),.box (.ty 99)],ret:=.tup [],L':=[.box (.agg [.ptr 2 [],.ty 35]),.box (.ty 64),.box (.ty 99)],R:=Int×z6×z4,dflt:=(default,default,default),F:=fun N a b=>z8l N b.1.2.1 b.2.1 b.2.2.1,of:=fun r=>((),(((),r.1,()),r.2.1,r.2.2,())) }
noncomputable def zi4:Dat τ:={ D:=D0,tbl:=tblOf [(139,zi)],lp:=lpsOf [],k0:=3,mu:=[],un:=[(1,4)] }
theorem zjh:ConOk E C 98 z78 :=
  zk (D:=zi4) ⟨d0Ok,eGood,zb ⟨zo,trivial⟩,fun _=>rfl⟩ z78 (fun a b=>(b.1.2.1,b.2.1,b.2.2.1)) none (fun _ _=>rfl) rfl (fun _ _ h=>nomatch h) 1000000 (fn:=Tryz.f98) Tryz.func98 rfl (by kernel_rfl) (by kernel_rfl) rfl (by intro N a b; kernel_rfl)
def z8m (N:Nat) (b0:Int) (b1:GOp) (b2:z4):Option (Int×GOp×z4) :=
 ((ze N b0 b2).bind fun r1 =>
 (some (r1.2.1,(⟨(⟨r1.1,b1.Stamp.Site⟩:zm),b1.Kind,b1.Node,b1.Parent,b1.Name,b1.Key,b1.Value⟩:GOp),r1.2.2)))
def z79:Con τ:={ args:=[.ptr 0 [],.ls 1 [.ptr 1 [.fld 0 0,.fld 0 0]]],L:=[.box (.agg [.ptr 2 [],.ty 35]),.box (.ty 25),.box (.ty 99)],ret:=.tup [],L':=[.box (.agg [.ptr 2 [],.ty 35]),.box (.ty 25),.box (.ty 99)],R:=Int×GOp×z4,dflt:=(default,default,default),F:=fun N a b=>z8m N b.1.2.1 b.2.1 b.2.2.1,of:=fun r=>((),(((),r.1,()),r.2.1,r.2.2,())) }
noncomputable def zi5:Dat τ:={ D:=D0,tbl:=tblOf [(139,zi)],lp:=lpsOf [],k0:=3,mu:=[],un:=[(1,3)] }
theorem zji:ConOk E C 98 z79 :=
  zk (D:=zi5) ⟨d0Ok,eGood,zb ⟨zo,trivial⟩,fun _=>rfl⟩ z79 (fun a b=>(b.1.2.1,b.2.1,b.2.2.1)) none (fun _ _=>rfl) rfl (fun _ _ h=>nomatch h) 1000000 (fn:=Tryz.f98) Tryz.func98 rfl (by kernel_rfl) (by kernel_rfl) rfl (by intro N a b; kernel_rfl)
def z7a (N:Nat) (b0:Int) (b1:GOp) (b2:z4):Option (Int×GOp×z4) :=
 ((zf N b0 b2).bind fun r1 =>
 ((zf N r1.2.1 r1.2.2).bind fun r2 =>
 (some (r2.2.1,(⟨(⟨b1.Stamp.Time,r1.1⟩:zm),r2.1,b1.Node,b1.Parent,b1.Name,b1.Key,b1.Value⟩:GOp),r2.2.2))))
def z5t:Con τ:={ args:=[.ptr 0 [],.ls 1 [.ptr 1 [.fld 0 0,.fld 1 1],.ptr 1 [.fld 1 2]]],L:=[.box (.agg [.ptr 2 [],.ty 35]),.box (.ty 25),.box (.ty 99)],ret:=.tup [],L':=[.box (.agg [.ptr 2 [],.ty 35]),.box (.ty 25),.box (.ty 99)],R:=Int×GOp×z4,dflt:=(default,default,default),F:=fun N a b=>z7a N b.1.2.1 b.2.1 b.2.2.1,of:=fun r=>((),(((),r.1,()),r.2.1,r.2.2,())) }
noncomputable def zet:Dat τ:={ D:=D0,tbl:=tblOf [(104,zu)],lp:=lpsOf [],k0:=3,mu:=[],un:=[(1,4)] }
theorem zgc:ConOk E C 99 z5t :=
  zk (D:=zet) ⟨d0Ok,eGood,zb ⟨z11,trivial⟩,fun _=>rfl⟩ z5t (fun a b=>(b.1.2.1,b.2.1,b.2.2.1)) none (fun _ _=>rfl) rfl (fun _ _ h=>nomatch h) 1000000 (fn:=Tryz.f99) Tryz.func99 rfl (by kernel_rfl) (by kernel_rfl) rfl (by intro N a b; kernel_rfl)
def z8n (N:Nat) (b0:Int) (b1:GOp) (b2:z4):Option (Int×GOp×z4) :=
 ((ze N b0 b2).bind fun r1 =>
 ((ze N r1.2.1 r1.2.2).bind fun r2 =>
 (some (r2.2.1,(⟨b1.Stamp,b1.Kind,r1.1,r2.1,b1.Name,b1.Key,b1.Value⟩:GOp),r2.2.2))))
def z7b:Con τ:={ args:=[.ptr 0 [],.ls 1 [.ptr 1 [.fld 2 3],.ptr 1 [.fld 3 4]]],L:=[.box (.agg [.ptr 2 [],.ty 35]),.box (.ty 25),.box (.ty 99)],ret:=.tup [],L':=[.box (.agg [.ptr 2 [],.ty 35]),.box (.ty 25),.box (.ty 99)],R:=Int×GOp×z4,dflt:=(default,default,default),F:=fun N a b=>z8n N b.1.2.1 b.2.1 b.2.2.1,of:=fun r=>((),(((),r.1,()),r.2.1,r.2.2,())) }
noncomputable def zi6:Dat τ:={ D:=D0,tbl:=tblOf [(139,zi)],lp:=lpsOf [],k0:=3,mu:=[],un:=[(1,4)] }
theorem zjj:ConOk E C 98 z7b :=
  zk (D:=zi6) ⟨d0Ok,eGood,zb ⟨zo,trivial⟩,fun _=>rfl⟩ z7b (fun a b=>(b.1.2.1,b.2.1,b.2.2.1)) none (fun _ _=>rfl) rfl (fun _ _ h=>nomatch h) 1000000 (fn:=Tryz.f98) Tryz.func98 rfl (by kernel_rfl) (by kernel_rfl) rfl (by intro N a b; kernel_rfl)
def z46 (N:Nat) (b0:z4):Option ((List (Int))×Int×z4) :=
 ((z2y N b0).bind fun r1 =>
 (bif r1.1 then
 (some ([],2,r1.2))
 else
 ((zd5 N r1.2.b).bind fun r2 =>
 (bif (!(r2.2.2==0)) then
 (some ([],r2.2.2,r1.2))
 else
 (bif (decide (r2.1 < 0)) then
 (some ([],11,r1.2))
 else
 (bif (decide ((IntKind.i64.wrap (((r1.2.b).length:Int) - r2.2.1)) < r2.1)) then
 (some ([],10,r1.2))
 else
 (bif (cutB r2.2.1 (IntKind.i64.wrap (r2.2.1 + r2.1)) ((r1.2.b).length:Int)) then
 ((z3q N (cut r1.2.b r2.2.1 (IntKind.i64.wrap (r2.2.1 + r2.1)))).bind fun r3 =>
 (bif (cutB (IntKind.i64.wrap (r2.2.1 + r2.1)) ((r1.2.b).length:Int) ((r1.2.b).length:Int)) then
 (some (r3,0,(⟨r1.2.made,(cut r1.2.b (IntKind.i64.wrap (r2.2.1 + r2.1)) ((r1.2.b).length:Int))⟩:z4)))
 else none))
 else none)))))))
def z4m:Con τ:={ args:=[.ptr 0 []],L:=[.box (.ty 99)],ret:=.tup [.ty 31,.ty 35],L':=[.box (.ty 99)],R:=(List (Int))×Int×z4,dflt:=(default,default,default),F:=fun N a b=>z46 N b.1,of:=fun r=>((r.1,r.2.1,()),(r.2.2,())) }
noncomputable def zjk:Dat τ:={ D:=D0,tbl:=tblOf [(63,z3i),(130,zc1),(49,z3x)],lp:=lpsOf [],k0:=1,mu:=[],un:=[] }
theorem zc2:ConOk E C 157 z4m :=
  zk (D:=zjk) ⟨d0Ok,eGood,zb ⟨z9c,⟨zmp,⟨z90,trivial⟩⟩⟩,fun _=>rfl⟩ z4m (fun a b=>(a.1,a.2.1,b.1)) none (fun _ _=>rfl) rfl (fun _ _ h=>nomatch h) 1000000 (fn:=Tryz.f157) Tryz.func157 rfl (by kernel_rfl) (by kernel_rfl) rfl (by intro N a b; kernel_rfl)
def z9q (N:Nat) (b0:z4):Option ((List UInt8)×Int×z4) :=
 ((z46 N b0).bind fun r1 =>
 (some ((strI r1.1),r1.2.1,r1.2.2)))
def z8o:Con τ:={ args:=[.ptr 0 []],L:=[.box (.ty 99)],ret:=.tup [.ty 9,.ty 35],L':=[.box (.ty 99)],R:=(List UInt8)×Int×z4,dflt:=(default,default,default),F:=fun N a b=>z9q N b.1,of:=fun r=>((r.1,r.2.1,()),(r.2.2,())) }
noncomputable def zky:Dat τ:={ D:=D0,tbl:=tblOf [(157,z4m)],lp:=lpsOf [],k0:=1,mu:=[],un:=[] }
theorem zm1:ConOk E C 140 z8o :=
  zk (D:=zky) ⟨d0Ok,eGood,zb ⟨zc2,trivial⟩,fun _=>rfl⟩ z8o (fun a b=>(a.1,a.2.1,b.1)) none (fun _ _=>rfl) rfl (fun _ _ h=>nomatch h) 1000000 (fn:=Tryz.f140) Tryz.func140 rfl (by kernel_rfl) (by kernel_rfl) rfl (by intro N a b; kernel_rfl)
def z2z (N:Nat) (b0:Int) (b1:z4):Option ((List UInt8)×Int×z4) :=
 (bif (!(b0==0)) then
 (some ([],b0,b1))
 else
 ((z9q N b1).bind fun r1 =>
 ((z1d N r1.2.1 b0 r1.2.2).bind fun r2 =>
 (some (r1.1,r2.1,r2.2)))))
def z7c:Con τ:={ args:=[.ptr 0 []],L:=[.box (.agg [.ptr 1 [],.ty 35]),.box (.ty 99)],ret:=.ty 9,L':=[.box (.agg [.ptr 1 [],.ty 35]),.box (.ty 99)],R:=(List UInt8)×Int×z4,dflt:=(default,default,default),F:=fun N a b=>z2z N b.1.2.1 b.2.1,of:=fun r=>(r.1,(((),r.2.1,()),r.2.2,())) }
noncomputable def zi7:Dat τ:={ D:=D0,tbl:=tblOf [(140,z8o),(73,z22)],lp:=lpsOf [],k0:=2,mu:=[],un:=[] }
theorem zjl:ConOk E C 100 z7c :=
  zk (D:=zi7) ⟨d0Ok,eGood,zb ⟨zm1,⟨z3a,trivial⟩⟩,fun _=>rfl⟩ z7c (fun a b=>(a,b.1.2.1,b.2.1)) none (fun _ _=>rfl) rfl (fun _ _ h=>nomatch h) 1000000 (fn:=Tryz.f100) Tryz.func100 rfl (by kernel_rfl) (by kernel_rfl) rfl (by intro N a b; kernel_rfl)
def z4i (N:Nat) (b0:Int) (b1:z4):Option (GOp×Int×z4) :=
 ((z8m N b0 (⟨(⟨0,0⟩:zm),0,0,0,[],[],[]⟩:GOp) b1).bind fun r1 =>
 ((z7a N r1.1 r1.2.1 r1.2.2).bind fun r2 =>
 ((z8n N r2.1 r2.2.1 r2.2.2).bind fun r3 =>
 ((z2z N r3.1 r3.2.2).bind fun r4 =>
 ((z2z N r4.2.1 r4.2.2).bind fun r5 =>
 ((z2z N r5.2.1 r5.2.2).bind fun r6 =>
 (some ((⟨r3.2.1.Stamp,r3.2.1.Kind,r3.2.1.Node,r3.2.1.Parent,r4.1,r5.1,r6.1⟩:GOp),r6.2.1,r6.2.2))))))))
def z58:Con τ:={ args:=[.ptr 0 []],L:=[.box (.agg [.ptr 1 [],.ty 35]),.box (.ty 99)],ret:=.ty 25,L':=[.box (.agg [.ptr 1 [],.ty 35]),.box (.ty 99)],R:=GOp×Int×z4,dflt:=(default,default,default),F:=fun N a b=>z4i N b.1.2.1 b.2.1,of:=fun r=>(r.1,(((),r.2.1,()),r.2.2,())) }
noncomputable def zkz:Dat τ:={ D:=D0,tbl:=tblOf [(98,z79),(99,z5t),(98,z7b),(100,z7c)],lp:=lpsOf [],k0:=2,mu:=[],un:=[] }
theorem zct:ConOk E C 52 z58 :=
  zk (D:=zkz) ⟨d0Ok,eGood,zb ⟨zji,⟨zgc,⟨zjj,⟨zjl,trivial⟩⟩⟩⟩,fun _=>rfl⟩ z58 (fun a b=>(a,b.1.2.1,b.2.1)) none (fun _ _=>rfl) rfl (fun _ _ h=>nomatch h) 1000000 (fn:=Tryz.f52) Tryz.func52 rfl (by kernel_rfl) (by kernel_rfl) rfl (by intro N a b; kernel_rfl)
def z7d (N:Nat) (b0:Int) (b1:z6) (b2:z4):Option (Int×z6×z4) :=
 ((zf N b0 b2).bind fun r1 =>
 (some (r1.2.1,(⟨b1.Kind,b1.Session,b1.Request,b1.Op,r1.1,b1.Seq,b1.Ops,b1.Epoch,b1.From,b1.Vector_,b1.Clock,b1.Part,b1.Site,b1.Sponsor,b1.Length⟩:z6),r1.2.2)))
def z5u:Con τ:={ args:=[.ptr 0 [],.ls 1 [.ptr 1 [.fld 4 11]]],L:=[.box (.agg [.ptr 2 [],.ty 35]),.box (.ty 64),.box (.ty 99)],ret:=.tup [],L':=[.box (.agg [.ptr 2 [],.ty 35]),.box (.ty 64),.box (.ty 99)],R:=Int×z6×z4,dflt:=(default,default,default),F:=fun N a b=>z7d N b.1.2.1 b.2.1 b.2.2.1,of:=fun r=>((),(((),r.1,()),r.2.1,r.2.2,())) }
noncomputable def zeu:Dat τ:={ D:=D0,tbl:=tblOf [(104,zu)],lp:=lpsOf [],k0:=3,mu:=[],un:=[(1,3)] }
theorem zgd:ConOk E C 99 z5u :=
  zk (D:=zeu) ⟨d0Ok,eGood,zb ⟨z11,trivial⟩,fun _=>rfl⟩ z5u (fun a b=>(b.1.2.1,b.2.1,b.2.2.1)) none (fun _ _=>rfl) rfl (fun _ _ h=>nomatch h) 1000000 (fn:=Tryz.f99) Tryz.func99 rfl (by kernel_rfl) (by kernel_rfl) rfl (by intro N a b; kernel_rfl)
def z3j (N:Nat) (b0:Int) (b1:z6) (b2:z4):Option (Int×z6×z4) :=
 ((ze N b0 b2).bind fun r1 =>
 (some (r1.2.1,(⟨b1.Kind,b1.Session,b1.Request,b1.Op,b1.Origin,r1.1,b1.Ops,b1.Epoch,b1.From,b1.Vector_,b1.Clock,b1.Part,b1.Site,b1.Sponsor,b1.Length⟩:z6),r1.2.2)))
def z7e:Con τ:={ args:=[.ptr 0 [],.ls 1 [.ptr 1 [.fld 5 12]]],L:=[.box (.agg [.ptr 2 [],.ty 35]),.box (.ty 64),.box (.ty 99)],ret:=.tup [],L':=[.box (.agg [.ptr 2 [],.ty 35]),.box (.ty 64),.box (.ty 99)],R:=Int×z6×z4,dflt:=(default,default,default),F:=fun N a b=>z3j N b.1.2.1 b.2.1 b.2.2.1,of:=fun r=>((),(((),r.1,()),r.2.1,r.2.2,())) }
noncomputable def zi8:Dat τ:={ D:=D0,tbl:=tblOf [(139,zi)],lp:=lpsOf [],k0:=3,mu:=[],un:=[(1,3)] }
theorem zjm:ConOk E C 98 z7e :=
  zk (D:=zi8) ⟨d0Ok,eGood,zb ⟨zo,trivial⟩,fun _=>rfl⟩ z7e (fun a b=>(b.1.2.1,b.2.1,b.2.2.1)) none (fun _ _=>rfl) rfl (fun _ _ h=>nomatch h) 1000000 (fn:=Tryz.f98) Tryz.func98 rfl (by kernel_rfl) (by kernel_rfl) rfl (by intro N a b; kernel_rfl)
def z3k (N:Nat) (b0:Int) (b1:z4):Option (Int×Int×z4) :=
 ((ze N b0 b1).bind fun r1 =>
 (bif ((r1.2.1==0)&&((decide (r1.1 < 0)) || (decide (4096 < r1.1)))) then
 (some (0,40,r1.2.2))
 else
 (bif (!(r1.2.1==0)) then
 (some (0,r1.2.1,r1.2.2))
 else
 (some (r1.1,r1.2.1,r1.2.2)))))
def z4c:Con τ:={ args:=[.ptr 0 []],L:=[.box (.agg [.ptr 1 [],.ty 35]),.box (.ty 99)],ret:=.ty 3,L':=[.box (.agg [.ptr 1 [],.ty 35]),.box (.ty 99)],R:=Int×Int×z4,dflt:=(default,default,default),F:=fun N a b=>z3k N b.1.2.1 b.2.1,of:=fun r=>(r.1,(((),r.2.1,()),r.2.2,())) }
noncomputable def zi9:Dat τ:={ D:=D0,tbl:=tblOf [(139,zi)],lp:=lpsOf [],k0:=2,mu:=[],un:=[] }
theorem zbe:ConOk E C 152 z4c :=
  zk (D:=zi9) ⟨d0Ok,eGood,zb ⟨zo,trivial⟩,fun _=>rfl⟩ z4c (fun a b=>(a,b.1.2.1,b.2.1)) none (fun _ _=>rfl) rfl (fun _ _ h=>nomatch h) 1000000 (fn:=Tryz.f152) Tryz.func152 rfl (by kernel_rfl) (by kernel_rfl) rfl (by intro N a b; kernel_rfl)
structure z2u where
  l:List (GOp)
  t6:Int
  b0:Int
  b1:z4
def z7f:List Sl:=[.k,.k,.j,.sh (.own 25 2),.k,.k,.sh (.ty 2),.j,.j,.j,.j,.j,.j,.j,.j,.j,.j,.j,.j,.k]
def z7g:List ESh:=[.box (.agg [.ptr 1 [],.ty 2]),.box (.ty 86),.tail]
def zia (a:Sl.Ts τ z7f) (b:ESh.Ts τ z7g):z2u:=⟨a.2.2.2.1,a.2.2.2.2.2.2.1,b.1.2.1,b.2.1⟩
def zib (s:z2u):Sl.Ts τ z7f:=((),(),(),s.l,(),(),s.t6,(),(),(),(),(),(),(),(),(),(),(),(),(),())
def zic (s:z2u):ESh.Ts τ z7g:=(((),s.b0,()),s.b1,(),())
def zid:Lp τ:={ ts:=z7f,hs:=z7g,S:=z2u,to:=zia,ot:=zib,oh:=zic,hk:=[2,2],tk:=[2,0,0,0,2],ot_to:=fun _ _=>rfl,oh_to:=fun _ _=>rfl }
def z2q (N:Nat) (b0:Int) (b1:z4):Option ((List (GOp))×Int×z4) :=
 ((z3k N b0 b1).bind fun r1 =>
 (iter N (fun (s2:z2u) next3 =>
 (bif (decide (s2.t6 < r1.1)) then
 (bif (!(s2.b0==0)) then
 (some ([],s2.b0,s2.b1))
 else
 ((z4i N s2.b0 s2.b1).bind fun r4 =>
 (bif (lenB ((s2.l).length + ([r4.1]).length) 88) then
 (next3 ⟨(s2.l++[r4.1]),(IntKind.i64.wrap (s2.t6 + 1)),r4.2.1,r4.2.2⟩)
 else none)))
 else
 (some (s2.l,s2.b0,s2.b1)))) ⟨[],0,r1.2.1,r1.2.2⟩))
def z4n:Con τ:={ args:=[.ptr 0 []],L:=[.box (.agg [.ptr 1 [],.ty 35]),.box (.ty 99)],ret:=.ty 60,L':=[.box (.agg [.ptr 1 [],.ty 35]),.box (.ty 99)],R:=(List (GOp))×Int×z4,dflt:=(default,default,default),F:=fun N a b=>z2q N b.1.2.1 b.2.1,of:=fun r=>(r.1,(((),r.2.1,()),r.2.2,())) }
noncomputable def zjn:Dat τ:={ D:=D0,tbl:=tblOf [(152,z4c),(52,z58)],lp:=lpsOf [(3,zid)],k0:=2,mu:=[],un:=[] }
theorem zc3:ConOk E C 128 z4n :=
  zk (D:=zjn) ⟨d0Ok,eGood,zb ⟨zbe,⟨zct,trivial⟩⟩,fun _=>rfl⟩ z4n (fun a b=>(a,b.1.2.1,b.2.1)) none (fun _ _=>rfl) rfl (fun _ _ h=>nomatch h) 1000000 (fn:=Tryz.f128) Tryz.func128 rfl (by kernel_rfl) (by kernel_rfl) rfl (by intro N a b; kernel_rfl)
def z8p (N:Nat) (b0:Int) (b1:z7) (b2:z4):Option (Int×z7×z4) :=
 ((ze N b0 b2).bind fun r1 =>
 (some (r1.2.1,(⟨r1.1,b1.States,b1.Seals,b1.Sponsor⟩:z7),r1.2.2)))
def z7h:Con τ:={ args:=[.ptr 0 [],.ls 1 [.ptr 1 [.fld 0 0]]],L:=[.box (.agg [.ptr 2 [],.ty 35]),.box (.ty 30),.box (.ty 99)],ret:=.tup [],L':=[.box (.agg [.ptr 2 [],.ty 35]),.box (.ty 30),.box (.ty 99)],R:=Int×z7×z4,dflt:=(default,default,default),F:=fun N a b=>z8p N b.1.2.1 b.2.1 b.2.2.1,of:=fun r=>((),(((),r.1,()),r.2.1,r.2.2,())) }
noncomputable def zie:Dat τ:={ D:=D0,tbl:=tblOf [(139,zi)],lp:=lpsOf [],k0:=3,mu:=[],un:=[(1,3)] }
theorem zjo:ConOk E C 98 z7h :=
  zk (D:=zie) ⟨d0Ok,eGood,zb ⟨zo,trivial⟩,fun _=>rfl⟩ z7h (fun a b=>(b.1.2.1,b.2.1,b.2.2.1)) none (fun _ _=>rfl) rfl (fun _ _ h=>nomatch h) 1000000 (fn:=Tryz.f98) Tryz.func98 rfl (by kernel_rfl) (by kernel_rfl) rfl (by intro N a b; kernel_rfl)
structure z1n where
  t5:Int
  b0:Int
  b1:z7
  b2:z4
def z59:List Sl:=[.k,.k,.k,.k,.j,.sh (.ty 2),.j,.j,.j,.j,.j,.j,.j,.j,.j]
def z5a:List ESh:=[.box (.agg [.ptr 2 [],.ty 2]),.box (.ty 29),.box (.ty 86)]
def zdy (a:Sl.Ts τ z59) (b:ESh.Ts τ z5a):z1n:=⟨a.2.2.2.2.2.1,b.1.2.1,b.2.1,b.2.2.1⟩
def zdz (s:z1n):Sl.Ts τ z59:=((),(),(),(),(),s.t5,(),(),(),(),(),(),(),(),(),())
def ze0 (s:z1n):ESh.Ts τ z5a:=(((),s.b0,()),s.b1,s.b2,())
def ze1:Lp τ:={ ts:=z59,hs:=z5a,S:=z1n,to:=zdy,ot:=zdz,oh:=ze0,hk:=[2,2,2],tk:=[2,3],ot_to:=fun _ _=>rfl,oh_to:=fun _ _=>rfl }
def z4d (N:Nat) (b0:Int) (b1:z7) (b2:z4):Option (Int×z7×z4) :=
 (iter N (fun (s1:z1n) next2 =>
 (bif (decide (s1.t5 < 8)) then
 ((ze N s1.b0 s1.b2).bind fun r3 =>
 (bif (ibB s1.t5 8) then
 (next2 ⟨(IntKind.i64.wrap (s1.t5 + 1)),r3.2.1,(⟨s1.b1.Number,s1.b1.States,(vset s1.b1.Seals ((s1.t5).toNat) r3.1),s1.b1.Sponsor⟩:z7),r3.2.2⟩)
 else none))
 else
 (some (s1.b0,s1.b1,s1.b2)))) ⟨0,b0,b1,b2⟩)
def z5v:Con τ:={ args:=[.ptr 0 [],.ptr 1 [.fld 2 9]],L:=[.box (.agg [.ptr 2 [],.ty 35]),.box (.ty 30),.box (.ty 99)],ret:=.tup [],L':=[.box (.agg [.ptr 2 [],.ty 35]),.box (.ty 30),.box (.ty 99)],R:=Int×z7×z4,dflt:=(default,default,default),F:=fun N a b=>z4d N b.1.2.1 b.2.1 b.2.2.1,of:=fun r=>((),(((),r.1,()),r.2.1,r.2.2,())) }
noncomputable def zev:Dat τ:={ D:=D0,tbl:=tblOf [(139,zi)],lp:=lpsOf [(1,ze1)],k0:=3,mu:=[],un:=[] }
theorem zge:ConOk E C 105 z5v :=
  zk (D:=zev) ⟨d0Ok,eGood,zb ⟨zo,trivial⟩,fun _=>rfl⟩ z5v (fun a b=>(b.1.2.1,b.2.1,b.2.2.1)) none (fun _ _=>rfl) rfl (fun _ _ h=>nomatch h) 1000000 (fn:=Tryz.f105) Tryz.func105 rfl (by kernel_rfl) (by kernel_rfl) rfl (by intro N a b; kernel_rfl)
structure z1t where
  t10:Int
  b0:Int
  b1:z4
  b3:z7
def z5w:List Sl:=[.k,.k,.k,.k,.j,.k,.k,.k,.k,.k,.sh (.ty 2),.j,.j,.j,.j,.j,.j,.j,.j,.k,.k,.k,.k,.k,.k,.k,.k,.k,.k,.k,.k,.k]
def z5x:List ESh:=[.box (.agg [.ptr 1 [],.ty 2]),.box (.ty 86),.keep,.box (.ty 29)]
def zew (a:Sl.Ts τ z5w) (b:ESh.Ts τ z5x):z1t:=⟨a.2.2.2.2.2.2.2.2.2.2.1,b.1.2.1,b.2.1,b.2.2.2.1⟩
def zex (s:z1t):Sl.Ts τ z5w:=((),(),(),(),(),(),(),(),(),(),s.t10,(),(),(),(),(),(),(),(),(),(),(),(),(),(),(),(),(),(),(),(),(),())
def zey (s:z1t):ESh.Ts τ z5x:=(((),s.b0,()),s.b1,(),s.b3,())
def zez:Lp τ:={ ts:=z5w,hs:=z5x,S:=z1t,to:=zew,ot:=zex,oh:=zey,hk:=[2,2,2,2],tk:=[2,0,4,5,0,0,2,5],ot_to:=fun _ _=>rfl,oh_to:=fun _ _=>rfl }
structure z1o where
  t22:Int
  b0:Int
  b1:z4
  b3:z7
def z5b:List Sl:=[.k,.k,.k,.k,.k,.j,.k,.k,.k,.k,.k,.k,.k,.k,.k,.k,.k,.k,.k,.k,.k,.k,.sh (.ty 2),.j,.j,.j,.j,.j,.j,.j,.j,.k]
def z5c:List ESh:=[.box (.agg [.ptr 1 [],.ty 2]),.box (.ty 86),.keep,.box (.ty 29)]
def ze2 (a:Sl.Ts τ z5b) (b:ESh.Ts τ z5c):z1o:=⟨a.2.2.2.2.2.2.2.2.2.2.2.2.2.2.2.2.2.2.2.2.2.2.1,b.1.2.1,b.2.1,b.2.2.2.1⟩
def ze3 (s:z1o):Sl.Ts τ z5b:=((),(),(),(),(),(),(),(),(),(),(),(),(),(),(),(),(),(),(),(),(),(),s.t22,(),(),(),(),(),(),(),(),(),())
def ze4 (s:z1o):ESh.Ts τ z5c:=(((),s.b0,()),s.b1,(),s.b3,())
def ze5:Lp τ:={ ts:=z5b,hs:=z5c,S:=z1o,to:=ze2,ot:=ze3,oh:=ze4,hk:=[2,2,2,2],tk:=[2,0,4,5,0,0,2,5,0,0,0,0,0,0,0,0,0,0,0,2,5],ot_to:=fun _ _=>rfl,oh_to:=fun _ _=>rfl }
def z28 (N:Nat) (b0:Int) (b1:z4):Option (z7×Int×z4) :=
 ((z8p N b0 (⟨0,(Vector.replicate 8 (default:Int)),(Vector.replicate 8 (default:Int)),(Vector.replicate 8 (default:Int))⟩:z7) b1).bind fun r1 =>
 (iter N (fun (s2:z1t) next3 =>
 (bif (decide (s2.t10 < 8)) then
 ((zf N s2.b0 s2.b1).bind fun r4 =>
 (bif (ibB s2.t10 8) then
 (next3 ⟨(IntKind.i64.wrap (s2.t10 + 1)),r4.2.1,r4.2.2,(⟨s2.b3.Number,(vset s2.b3.States ((s2.t10).toNat) r4.1),s2.b3.Seals,s2.b3.Sponsor⟩:z7)⟩)
 else none))
 else
 ((z4d N s2.b0 s2.b3 s2.b1).bind fun r5 =>
 (iter N (fun (s6:z1o) next7 =>
 (bif (decide (s6.t22 < 8)) then
 ((zf N s6.b0 s6.b1).bind fun r8 =>
 (bif (ibB s6.t22 8) then
 (next7 ⟨(IntKind.i64.wrap (s6.t22 + 1)),r8.2.1,r8.2.2,(⟨s6.b3.Number,s6.b3.States,s6.b3.Seals,(vset s6.b3.Sponsor ((s6.t22).toNat) r8.1)⟩:z7)⟩)
 else none))
 else
 (some (s6.b3,s6.b0,s6.b1)))) ⟨0,r5.1,r5.2.2,r5.2.1⟩)))) ⟨0,r1.1,r1.2.2,r1.2.1⟩))
def z43:Con τ:={ args:=[.ptr 0 []],L:=[.box (.agg [.ptr 1 [],.ty 35]),.box (.ty 99)],ret:=.ty 30,L':=[.box (.agg [.ptr 1 [],.ty 35]),.box (.ty 99)],R:=z7×Int×z4,dflt:=(default,default,default),F:=fun N a b=>z28 N b.1.2.1 b.2.1,of:=fun r=>(r.1,(((),r.2.1,()),r.2.2,())) }
noncomputable def zgf:Dat τ:={ D:=D0,tbl:=tblOf [(98,z7h),(104,zu),(105,z5v)],lp:=lpsOf [(4,zez),(10,ze5)],k0:=2,mu:=[],un:=[] }
theorem zan:ConOk E C 59 z43 :=
  zk (D:=zgf) ⟨d0Ok,eGood,zb ⟨zjo,⟨z11,⟨zge,trivial⟩⟩⟩,fun _=>rfl⟩ z43 (fun a b=>(a,b.1.2.1,b.2.1)) none (fun _ _=>rfl) rfl (fun _ _ h=>nomatch h) 1000000 (fn:=Tryz.f59) Tryz.func59 rfl (by kernel_rfl) (by kernel_rfl) rfl (by intro N a b; kernel_rfl)
def z7i (N:Nat) (b0:Int) (b1:z6) (b2:z4):Option (Int×z6×z4) :=
 ((zf N b0 b2).bind fun r1 =>
 (some (r1.2.1,(⟨b1.Kind,b1.Session,b1.Request,b1.Op,b1.Origin,b1.Seq,b1.Ops,b1.Epoch,r1.1,b1.Vector_,b1.Clock,b1.Part,b1.Site,b1.Sponsor,b1.Length⟩:z6),r1.2.2)))
def z5y:Con τ:={ args:=[.ptr 0 [],.ls 1 [.ptr 1 [.fld 8 39]]],L:=[.box (.agg [.ptr 2 [],.ty 35]),.box (.ty 64),.box (.ty 99)],ret:=.tup [],L':=[.box (.agg [.ptr 2 [],.ty 35]),.box (.ty 64),.box (.ty 99)],R:=Int×z6×z4,dflt:=(default,default,default),F:=fun N a b=>z7i N b.1.2.1 b.2.1 b.2.2.1,of:=fun r=>((),(((),r.1,()),r.2.1,r.2.2,())) }
noncomputable def zf0:Dat τ:={ D:=D0,tbl:=tblOf [(104,zu)],lp:=lpsOf [],k0:=3,mu:=[],un:=[(1,3)] }
theorem zgg:ConOk E C 99 z5y :=
  zk (D:=zf0) ⟨d0Ok,eGood,zb ⟨z11,trivial⟩,fun _=>rfl⟩ z5y (fun a b=>(b.1.2.1,b.2.1,b.2.2.1)) none (fun _ _=>rfl) rfl (fun _ _ h=>nomatch h) 1000000 (fn:=Tryz.f99) Tryz.func99 rfl (by kernel_rfl) (by kernel_rfl) rfl (by intro N a b; kernel_rfl)
structure z1p where
  t5:Int
  b0:Int
  b1:z6
  b2:z4
def z5d:List Sl:=[.k,.k,.k,.k,.j,.sh (.ty 2),.j,.j,.j,.j,.j,.j,.j,.j,.j]
def z5e:List ESh:=[.box (.agg [.ptr 2 [],.ty 2]),.box (.ty 63),.box (.ty 86)]
def ze6 (a:Sl.Ts τ z5d) (b:ESh.Ts τ z5e):z1p:=⟨a.2.2.2.2.2.1,b.1.2.1,b.2.1,b.2.2.1⟩
def ze7 (s:z1p):Sl.Ts τ z5d:=((),(),(),(),(),s.t5,(),(),(),(),(),(),(),(),(),())
def ze8 (s:z1p):ESh.Ts τ z5e:=(((),s.b0,()),s.b1,s.b2,())
def ze9:Lp τ:={ ts:=z5d,hs:=z5e,S:=z1p,to:=ze6,ot:=ze7,oh:=ze8,hk:=[2,2,2],tk:=[2,3],ot_to:=fun _ _=>rfl,oh_to:=fun _ _=>rfl }
def z4e (N:Nat) (b0:Int) (b1:z6) (b2:z4):Option (Int×z6×z4) :=
 (iter N (fun (s1:z1p) next2 =>
 (bif (decide (s1.t5 < 8)) then
 ((ze N s1.b0 s1.b2).bind fun r3 =>
 (bif (ibB s1.t5 8) then
 (next2 ⟨(IntKind.i64.wrap (s1.t5 + 1)),r3.2.1,(⟨s1.b1.Kind,s1.b1.Session,s1.b1.Request,s1.b1.Op,s1.b1.Origin,s1.b1.Seq,s1.b1.Ops,s1.b1.Epoch,s1.b1.From,(vset s1.b1.Vector_ ((s1.t5).toNat) r3.1),s1.b1.Clock,s1.b1.Part,s1.b1.Site,s1.b1.Sponsor,s1.b1.Length⟩:z6),r3.2.2⟩)
 else none))
 else
 (some (s1.b0,s1.b1,s1.b2)))) ⟨0,b0,b1,b2⟩)
def z5z:Con τ:={ args:=[.ptr 0 [],.ptr 1 [.fld 9 40]],L:=[.box (.agg [.ptr 2 [],.ty 35]),.box (.ty 64),.box (.ty 99)],ret:=.tup [],L':=[.box (.agg [.ptr 2 [],.ty 35]),.box (.ty 64),.box (.ty 99)],R:=Int×z6×z4,dflt:=(default,default,default),F:=fun N a b=>z4e N b.1.2.1 b.2.1 b.2.2.1,of:=fun r=>((),(((),r.1,()),r.2.1,r.2.2,())) }
noncomputable def zf1:Dat τ:={ D:=D0,tbl:=tblOf [(139,zi)],lp:=lpsOf [(1,ze9)],k0:=3,mu:=[],un:=[] }
theorem zgh:ConOk E C 105 z5z :=
  zk (D:=zf1) ⟨d0Ok,eGood,zb ⟨zo,trivial⟩,fun _=>rfl⟩ z5z (fun a b=>(b.1.2.1,b.2.1,b.2.2.1)) none (fun _ _=>rfl) rfl (fun _ _ h=>nomatch h) 1000000 (fn:=Tryz.f105) Tryz.func105 rfl (by kernel_rfl) (by kernel_rfl) rfl (by intro N a b; kernel_rfl)
def z8q (N:Nat) (b0:Int) (b1:z6) (b2:z4):Option (Int×z6×z4) :=
 ((ze N b0 b2).bind fun r1 =>
 (some (r1.2.1,(⟨b1.Kind,b1.Session,b1.Request,b1.Op,b1.Origin,b1.Seq,b1.Ops,b1.Epoch,b1.From,b1.Vector_,r1.1,b1.Part,b1.Site,b1.Sponsor,b1.Length⟩:z6),r1.2.2)))
def z7j:Con τ:={ args:=[.ptr 0 [],.ls 1 [.ptr 1 [.fld 10 48]]],L:=[.box (.agg [.ptr 2 [],.ty 35]),.box (.ty 64),.box (.ty 99)],ret:=.tup [],L':=[.box (.agg [.ptr 2 [],.ty 35]),.box (.ty 64),.box (.ty 99)],R:=Int×z6×z4,dflt:=(default,default,default),F:=fun N a b=>z8q N b.1.2.1 b.2.1 b.2.2.1,of:=fun r=>((),(((),r.1,()),r.2.1,r.2.2,())) }
noncomputable def zif:Dat τ:={ D:=D0,tbl:=tblOf [(139,zi)],lp:=lpsOf [],k0:=3,mu:=[],un:=[(1,3)] }
theorem zjp:ConOk E C 98 z7j :=
  zk (D:=zif) ⟨d0Ok,eGood,zb ⟨zo,trivial⟩,fun _=>rfl⟩ z7j (fun a b=>(b.1.2.1,b.2.1,b.2.2.1)) none (fun _ _=>rfl) rfl (fun _ _ h=>nomatch h) 1000000 (fn:=Tryz.f98) Tryz.func98 rfl (by kernel_rfl) (by kernel_rfl) rfl (by intro N a b; kernel_rfl)
def z8r (N:Nat) (b0:Int) (b1:GPart) (b2:z4):Option (Int×GPart×z4) :=
 ((ze N b0 b2).bind fun r1 =>
 (some (r1.2.1,(⟨r1.1,b1.Index,b1.Many,b1.Data⟩:GPart),r1.2.2)))
def z7k:Con τ:={ args:=[.ptr 0 [],.ls 1 [.ptr 1 [.fld 0 0]]],L:=[.box (.agg [.ptr 2 [],.ty 35]),.box (.ty 62),.box (.ty 99)],ret:=.tup [],L':=[.box (.agg [.ptr 2 [],.ty 35]),.box (.ty 62),.box (.ty 99)],R:=Int×GPart×z4,dflt:=(default,default,default),F:=fun N a b=>z8r N b.1.2.1 b.2.1 b.2.2.1,of:=fun r=>((),(((),r.1,()),r.2.1,r.2.2,())) }
noncomputable def zih:Dat τ:={ D:=D0,tbl:=tblOf [(139,zi)],lp:=lpsOf [],k0:=3,mu:=[],un:=[(1,3)] }
theorem zjq:ConOk E C 98 z7k :=
  zk (D:=zih) ⟨d0Ok,eGood,zb ⟨zo,trivial⟩,fun _=>rfl⟩ z7k (fun a b=>(b.1.2.1,b.2.1,b.2.2.1)) none (fun _ _=>rfl) rfl (fun _ _ h=>nomatch h) 1000000 (fn:=Tryz.f98) Tryz.func98 rfl (by kernel_rfl) (by kernel_rfl) rfl (by intro N a b; kernel_rfl)
def z7l (N:Nat) (b0:Int) (b1:GPart) (b2:z4):Option (Int×GPart×z4) :=
 ((zf N b0 b2).bind fun r1 =>
 ((zf N r1.2.1 r1.2.2).bind fun r2 =>
 (some (r2.2.1,(⟨b1.Snap,r1.1,r2.1,b1.Data⟩:GPart),r2.2.2))))
def z60:Con τ:={ args:=[.ptr 0 [],.ls 1 [.ptr 1 [.fld 1 1],.ptr 1 [.fld 2 2]]],L:=[.box (.agg [.ptr 2 [],.ty 35]),.box (.ty 62),.box (.ty 99)],ret:=.tup [],L':=[.box (.agg [.ptr 2 [],.ty 35]),.box (.ty 62),.box (.ty 99)],R:=Int×GPart×z4,dflt:=(default,default,default),F:=fun N a b=>z7l N b.1.2.1 b.2.1 b.2.2.1,of:=fun r=>((),(((),r.1,()),r.2.1,r.2.2,())) }
noncomputable def zf2:Dat τ:={ D:=D0,tbl:=tblOf [(104,zu)],lp:=lpsOf [],k0:=3,mu:=[],un:=[(1,4)] }
theorem zgi:ConOk E C 99 z60 :=
  zk (D:=zf2) ⟨d0Ok,eGood,zb ⟨z11,trivial⟩,fun _=>rfl⟩ z60 (fun a b=>(b.1.2.1,b.2.1,b.2.2.1)) none (fun _ _=>rfl) rfl (fun _ _ h=>nomatch h) 1000000 (fn:=Tryz.f99) Tryz.func99 rfl (by kernel_rfl) (by kernel_rfl) rfl (by intro N a b; kernel_rfl)
def z4o (N:Nat) (b0:Int) (b1:z4):Option ((List (Int))×Int×z4) :=
 (bif (!(b0==0)) then
 (some ([],b0,b1))
 else
 ((z46 N b1).bind fun r1 =>
 ((z1d N r1.2.1 b0 r1.2.2).bind fun r2 =>
 (some (r1.1,r2.1,r2.2)))))
def z6o:Con τ:={ args:=[.ptr 0 []],L:=[.box (.agg [.ptr 1 [],.ty 35]),.box (.ty 99)],ret:=.ty 31,L':=[.box (.agg [.ptr 1 [],.ty 35]),.box (.ty 99)],R:=(List (Int))×Int×z4,dflt:=(default,default,default),F:=fun N a b=>z4o N b.1.2.1 b.2.1,of:=fun r=>(r.1,(((),r.2.1,()),r.2.2,())) }
noncomputable def zgj:Dat τ:={ D:=D0,tbl:=tblOf [(157,z4m),(73,z22)],lp:=lpsOf [],k0:=2,mu:=[],un:=[] }
theorem zii:ConOk E C 153 z6o :=
  zk (D:=zgj) ⟨d0Ok,eGood,zb ⟨zc2,⟨z3a,trivial⟩⟩,fun _=>rfl⟩ z6o (fun a b=>(a,b.1.2.1,b.2.1)) none (fun _ _=>rfl) rfl (fun _ _ h=>nomatch h) 1000000 (fn:=Tryz.f153) Tryz.func153 rfl (by kernel_rfl) (by kernel_rfl) rfl (by intro N a b; kernel_rfl)
def z1i (N:Nat) (b0:Int) (b1:z4):Option (GPart×Int×z4) :=
 ((z8r N b0 (⟨0,0,0,[]⟩:GPart) b1).bind fun r1 =>
 ((z7l N r1.1 r1.2.1 r1.2.2).bind fun r2 =>
 ((z4o N r2.1 r2.2.2).bind fun r3 =>
 (some ((⟨r2.2.1.Snap,r2.2.1.Index,r2.2.1.Many,r3.1⟩:GPart),r3.2.1,r3.2.2)))))
def z4f:Con τ:={ args:=[.ptr 0 []],L:=[.box (.agg [.ptr 1 [],.ty 35]),.box (.ty 99)],ret:=.ty 62,L':=[.box (.agg [.ptr 1 [],.ty 35]),.box (.ty 99)],R:=GPart×Int×z4,dflt:=(default,default,default),F:=fun N a b=>z1i N b.1.2.1 b.2.1,of:=fun r=>(r.1,(((),r.2.1,()),r.2.2,())) }
noncomputable def zij:Dat τ:={ D:=D0,tbl:=tblOf [(98,z7k),(99,z60),(153,z6o)],lp:=lpsOf [],k0:=2,mu:=[],un:=[] }
theorem zbf:ConOk E C 129 z4f :=
  zk (D:=zij) ⟨d0Ok,eGood,zb ⟨zjq,⟨zgi,⟨zii,trivial⟩⟩⟩,fun _=>rfl⟩ z4f (fun a b=>(a,b.1.2.1,b.2.1)) none (fun _ _=>rfl) rfl (fun _ _ h=>nomatch h) 1000000 (fn:=Tryz.f129) Tryz.func129 rfl (by kernel_rfl) (by kernel_rfl) rfl (by intro N a b; kernel_rfl)
def z7m (N:Nat) (b0:Int) (b1:z6) (b2:z4):Option (Int×z6×z4) :=
 ((zf N b0 b2).bind fun r1 =>
 ((zf N r1.2.1 r1.2.2).bind fun r2 =>
 (some (r2.2.1,(⟨b1.Kind,b1.Session,b1.Request,b1.Op,b1.Origin,b1.Seq,b1.Ops,b1.Epoch,b1.From,b1.Vector_,b1.Clock,b1.Part,r1.1,r2.1,b1.Length⟩:z6),r2.2.2))))
def z61:Con τ:={ args:=[.ptr 0 [],.ls 1 [.ptr 1 [.fld 12 53],.ptr 1 [.fld 13 54]]],L:=[.box (.agg [.ptr 2 [],.ty 35]),.box (.ty 64),.box (.ty 99)],ret:=.tup [],L':=[.box (.agg [.ptr 2 [],.ty 35]),.box (.ty 64),.box (.ty 99)],R:=Int×z6×z4,dflt:=(default,default,default),F:=fun N a b=>z7m N b.1.2.1 b.2.1 b.2.2.1,of:=fun r=>((),(((),r.1,()),r.2.1,r.2.2,())) }
noncomputable def zf3:Dat τ:={ D:=D0,tbl:=tblOf [(104,zu)],lp:=lpsOf [],k0:=3,mu:=[],un:=[(1,4)] }
theorem zgk:ConOk E C 99 z61 :=
  zk (D:=zf3) ⟨d0Ok,eGood,zb ⟨z11,trivial⟩,fun _=>rfl⟩ z61 (fun a b=>(b.1.2.1,b.2.1,b.2.2.1)) none (fun _ _=>rfl) rfl (fun _ _ h=>nomatch h) 1000000 (fn:=Tryz.f99) Tryz.func99 rfl (by kernel_rfl) (by kernel_rfl) rfl (by intro N a b; kernel_rfl)
def z33 (N:Nat) (b0:Int) (b1:z6) (b2:z4):Option (Int×z6×z4) :=
 ((zf N b0 b2).bind fun r1 =>
 (some (r1.2.1,(⟨b1.Kind,b1.Session,b1.Request,b1.Op,b1.Origin,b1.Seq,b1.Ops,b1.Epoch,b1.From,b1.Vector_,b1.Clock,b1.Part,r1.1,b1.Sponsor,b1.Length⟩:z6),r1.2.2)))
def z62:Con τ:={ args:=[.ptr 0 [],.ls 1 [.ptr 1 [.fld 12 53]]],L:=[.box (.agg [.ptr 2 [],.ty 35]),.box (.ty 64),.box (.ty 99)],ret:=.tup [],L':=[.box (.agg [.ptr 2 [],.ty 35]),.box (.ty 64),.box (.ty 99)],R:=Int×z6×z4,dflt:=(default,default,default),F:=fun N a b=>z33 N b.1.2.1 b.2.1 b.2.2.1,of:=fun r=>((),(((),r.1,()),r.2.1,r.2.2,())) }
noncomputable def zf4:Dat τ:={ D:=D0,tbl:=tblOf [(104,zu)],lp:=lpsOf [],k0:=3,mu:=[],un:=[(1,3)] }
theorem zgl:ConOk E C 99 z62 :=
  zk (D:=zf4) ⟨d0Ok,eGood,zb ⟨z11,trivial⟩,fun _=>rfl⟩ z62 (fun a b=>(b.1.2.1,b.2.1,b.2.2.1)) none (fun _ _=>rfl) rfl (fun _ _ h=>nomatch h) 1000000 (fn:=Tryz.f99) Tryz.func99 rfl (by kernel_rfl) (by kernel_rfl) rfl (by intro N a b; kernel_rfl)
def z8s (N:Nat) (b0:Int) (b1:z6) (b2:z4):Option (Int×z6×z4) :=
 ((ze N b0 b2).bind fun r1 =>
 (some (r1.2.1,(⟨b1.Kind,b1.Session,b1.Request,b1.Op,b1.Origin,b1.Seq,b1.Ops,b1.Epoch,b1.From,b1.Vector_,b1.Clock,b1.Part,b1.Site,b1.Sponsor,r1.1⟩:z6),r1.2.2)))
def z7n:Con τ:={ args:=[.ptr 0 [],.ls 1 [.ptr 1 [.fld 14 55]]],L:=[.box (.agg [.ptr 2 [],.ty 35]),.box (.ty 64),.box (.ty 99)],ret:=.tup [],L':=[.box (.agg [.ptr 2 [],.ty 35]),.box (.ty 64),.box (.ty 99)],R:=Int×z6×z4,dflt:=(default,default,default),F:=fun N a b=>z8s N b.1.2.1 b.2.1 b.2.2.1,of:=fun r=>((),(((),r.1,()),r.2.1,r.2.2,())) }
noncomputable def zik:Dat τ:={ D:=D0,tbl:=tblOf [(139,zi)],lp:=lpsOf [],k0:=3,mu:=[],un:=[(1,3)] }
theorem zjr:ConOk E C 98 z7n :=
  zk (D:=zik) ⟨d0Ok,eGood,zb ⟨zo,trivial⟩,fun _=>rfl⟩ z7n (fun a b=>(b.1.2.1,b.2.1,b.2.2.1)) none (fun _ _=>rfl) rfl (fun _ _ h=>nomatch h) 1000000 (fn:=Tryz.f98) Tryz.func98 rfl (by kernel_rfl) (by kernel_rfl) rfl (by intro N a b; kernel_rfl)
def z1y (N:Nat) (b0:Int) (b1:z4):Option (z6×Int×z4) :=
 ((z77 N b0 (⟨0,0,0,(⟨(⟨0,0⟩:zm),0,0,0,[],[],[]⟩:GOp),0,0,[],(⟨0,(Vector.replicate 8 (default:Int)),(Vector.replicate 8 (default:Int)),(Vector.replicate 8 (default:Int))⟩:z7),0,(Vector.replicate 8 (default:Int)),0,(⟨0,0,0,[]⟩:GPart),0,0,0⟩:z6) b1).bind fun r1 =>
 (bif (!(r1.1==0)) then
 (some (r1.2.1,r1.1,r1.2.2))
 else
 (bif (r1.2.1.Kind==0) then
 (some (r1.2.1,r1.1,r1.2.2))
 else
 (bif (r1.2.1.Kind==1) then
 ((z8l N r1.1 r1.2.1 r1.2.2).bind fun r2 =>
 ((z4i N r2.1 r2.2.2).bind fun r3 =>
 (some ((⟨r2.2.1.Kind,r2.2.1.Session,r2.2.1.Request,r3.1,r2.2.1.Origin,r2.2.1.Seq,r2.2.1.Ops,r2.2.1.Epoch,r2.2.1.From,r2.2.1.Vector_,r2.2.1.Clock,r2.2.1.Part,r2.2.1.Site,r2.2.1.Sponsor,r2.2.1.Length⟩:z6),r3.2.1,r3.2.2))))
 else
 (bif (r1.2.1.Kind==2) then
 ((z7d N r1.1 r1.2.1 r1.2.2).bind fun r4 =>
 ((z3j N r4.1 r4.2.1 r4.2.2).bind fun r5 =>
 ((z2q N r5.1 r5.2.2).bind fun r6 =>
 (some ((⟨r5.2.1.Kind,r5.2.1.Session,r5.2.1.Request,r5.2.1.Op,r5.2.1.Origin,r5.2.1.Seq,r6.1,r5.2.1.Epoch,r5.2.1.From,r5.2.1.Vector_,r5.2.1.Clock,r5.2.1.Part,r5.2.1.Site,r5.2.1.Sponsor,r5.2.1.Length⟩:z6),r6.2.1,r6.2.2)))))
 else
 (bif (r1.2.1.Kind==3) then
 ((z28 N r1.1 r1.2.2).bind fun r7 =>
 (some ((⟨r1.2.1.Kind,r1.2.1.Session,r1.2.1.Request,r1.2.1.Op,r1.2.1.Origin,r1.2.1.Seq,r1.2.1.Ops,r7.1,r1.2.1.From,r1.2.1.Vector_,r1.2.1.Clock,r1.2.1.Part,r1.2.1.Site,r1.2.1.Sponsor,r1.2.1.Length⟩:z6),r7.2.1,r7.2.2)))
 else
 (bif (r1.2.1.Kind==4) then
 ((z3j N r1.1 r1.2.1 r1.2.2).bind fun r8 =>
 ((z7i N r8.1 r8.2.1 r8.2.2).bind fun r9 =>
 ((z4e N r9.1 r9.2.1 r9.2.2).bind fun r10 =>
 ((z8q N r10.1 r10.2.1 r10.2.2).bind fun r11 =>
 (some (r11.2.1,r11.1,r11.2.2))))))
 else
 (bif (r1.2.1.Kind==5) then
 ((z1i N r1.1 r1.2.2).bind fun r12 =>
 (some ((⟨r1.2.1.Kind,r1.2.1.Session,r1.2.1.Request,r1.2.1.Op,r1.2.1.Origin,r1.2.1.Seq,r1.2.1.Ops,r1.2.1.Epoch,r1.2.1.From,r1.2.1.Vector_,r1.2.1.Clock,r12.1,r1.2.1.Site,r1.2.1.Sponsor,r1.2.1.Length⟩:z6),r12.2.1,r12.2.2)))
 else
 (bif (r1.2.1.Kind==6) then
 ((z7m N r1.1 r1.2.1 r1.2.2).bind fun r13 =>
 (some (r13.2.1,r13.1,r13.2.2)))
 else
 (bif (r1.2.1.Kind==7) then
 ((z33 N r1.1 r1.2.1 r1.2.2).bind fun r14 =>
 (some (r14.2.1,r14.1,r14.2.2)))
 else
 (bif (r1.2.1.Kind==8) then
 ((z33 N r1.1 r1.2.1 r1.2.2).bind fun r15 =>
 ((z8s N r15.1 r15.2.1 r15.2.2).bind fun r16 =>
 (some (r16.2.1,r16.1,r16.2.2))))
 else
 (some (r1.2.1,40,r1.2.2)))))))))))))
def z30:Con τ:={ args:=[.ptr 0 []],L:=[.box (.agg [.ptr 1 [],.ty 35]),.box (.ty 99)],ret:=.ty 64,L':=[.box (.agg [.ptr 1 [],.ty 35]),.box (.ty 99)],R:=z6×Int×z4,dflt:=(default,default,default),F:=fun N a b=>z1y N b.1.2.1 b.2.1,of:=fun r=>(r.1,(((),r.2.1,()),r.2.2,())) }
noncomputable def zgm:Dat τ:={ D:=D0,tbl:=tblOf [(99,z5s),(98,z78),(52,z58),(99,z5u),(98,z7e),(128,z4n),(59,z43),(99,z5y),(105,z5z),(98,z7j),(129,z4f),(99,z61),(99,z62),(98,z7n)],lp:=lpsOf [],k0:=2,mu:=[],un:=[] }
theorem z7o:ConOk E C 72 z30 :=
  zk (D:=zgm) ⟨d0Ok,eGood,zb ⟨zgb,⟨zjh,⟨zct,⟨zgd,⟨zjm,⟨zc3,⟨zan,⟨zgg,⟨zgh,⟨zjp,⟨zbf,⟨zgk,⟨zgl,⟨zjr,trivial⟩⟩⟩⟩⟩⟩⟩⟩⟩⟩⟩⟩⟩⟩,fun _=>rfl⟩ z30 (fun a b=>(a,b.1.2.1,b.2.1)) none (fun _ _=>rfl) rfl (fun _ _ h=>nomatch h) 1000000 (fn:=Tryz.f72) Tryz.func72 rfl (by kernel_rfl) (by kernel_rfl) rfl (by intro N a b; kernel_rfl)
def z51 (N:Nat) (b0:z4):Option (Int×z4) :=
 ((z2y N b0).bind fun r1 =>
 (bif r1.1 then
 (some (2,r1.2))
 else
 (bif (decide (0 < ((r1.2.b).length:Int))) then
 (some (13,r1.2))
 else
 (some (0,r1.2)))))
def z6h:Con τ:={ args:=[.ptr 0 []],L:=[.box (.ty 99)],ret:=.ty 35,L':=[.box (.ty 99)],R:=Int×z4,dflt:=(default,default),F:=fun N a b=>z51 N b.1,of:=fun r=>(r.1,(r.2,())) }
noncomputable def zm2:Dat τ:={ D:=D0,tbl:=tblOf [(63,z3i)],lp:=lpsOf [],k0:=1,mu:=[],un:=[] }
theorem zdj:ConOk E C 74 z6h :=
  zk (D:=zm2) ⟨d0Ok,eGood,zb ⟨z9c,trivial⟩,fun _=>rfl⟩ z6h (fun a b=>(a,b.1)) none (fun _ _=>rfl) rfl (fun _ _ h=>nomatch h) 1000000 (fn:=Tryz.f74) Tryz.func74 rfl (by kernel_rfl) (by kernel_rfl) rfl (by intro N a b; kernel_rfl)
def z20 (N:Nat) (b:List (Int)):Option (z6×Int) :=
 ((z9p N b).bind fun r1 =>
 ((z1y N 0 r1).bind fun r2 =>
 ((z51 N r2.2.2).bind fun r3 =>
 ((z1d N r3.1 r2.2.1 r3.2).bind fun r4 =>
 (bif (r4.1==0) then
 ((z12 N r2.1).bind fun r5 =>
 (bif (!(r5==0)) then
 (some ((⟨0,0,0,(⟨(⟨0,0⟩:zm),0,0,0,[],[],[]⟩:GOp),0,0,[],(⟨0,(Vector.replicate 8 (default:Int)),(Vector.replicate 8 (default:Int)),(Vector.replicate 8 (default:Int))⟩:z7),0,(Vector.replicate 8 (default:Int)),0,(⟨0,0,0,[]⟩:GPart),0,0,0⟩:z6),r5))
 else
 (some (r2.1,0))))
 else
 (bif (!(r4.1==0)) then
 (some ((⟨0,0,0,(⟨(⟨0,0⟩:zm),0,0,0,[],[],[]⟩:GOp),0,0,[],(⟨0,(Vector.replicate 8 (default:Int)),(Vector.replicate 8 (default:Int)),(Vector.replicate 8 (default:Int))⟩:z7),0,(Vector.replicate 8 (default:Int)),0,(⟨0,0,0,[]⟩:GPart),0,0,0⟩:z6),r4.1))
 else
 (some (r2.1,0))))))))
def z8t:Con τ:={ args:=[.ty 31],L:=[],ret:=.tup [.ty 64,.ty 35],L':=[],R:=z6×Int,dflt:=(default,default),F:=fun N a b=>z20 N a.1,of:=fun r=>((r.1,r.2,()),()) }
noncomputable def zol:Dat τ:={ D:=D0,tbl:=tblOf [(17,za1),(72,z30),(74,z6h),(73,z22),(64,z3w)],lp:=lpsOf [],k0:=0,mu:=[],un:=[] }
theorem zhe:ConOk E C 30 z8t :=
  zk (D:=zol) ⟨d0Ok,eGood,zb ⟨zls,⟨z7o,⟨zdj,⟨z3a,⟨z8w,trivial⟩⟩⟩⟩⟩,fun _=>rfl⟩ z8t (fun a b=>(a.1,a.2.1)) none (fun _ _=>rfl) rfl (fun _ _ h=>nomatch h) 1000000 (fn:=Tryz.f30) Tryz.func30 rfl (by kernel_rfl) (by kernel_rfl) rfl (by intro N a b; kernel_rfl)
def z1a (N:Nat) (a:List (Int)) (b:List (Int)):Option (Bool) :=
 (some ((strI a)==(strI b)))
def zdg:Con τ:={ args:=[.ty 31,.ty 31],L:=[],ret:=.ty 4,L':=[],R:=Bool,dflt:=default,F:=fun N a b=>z1a N a.1 a.2.1,of:=fun r=>(r,()) }
noncomputable def zwf:Dat τ:={ D:=D0,tbl:=tblOf [],lp:=lpsOf [],k0:=0,mu:=[],un:=[] }
theorem zq1:ConOk E C 15 zdg :=
  zk (D:=zwf) ⟨d0Ok,eGood,zb trivial,fun _=>rfl⟩ zdg (fun a b=>a) none (fun _ _=>rfl) rfl (fun _ _ h=>nomatch h) 1000000 (fn:=Tryz.f15) Tryz.func15 rfl (by kernel_rfl) (by kernel_rfl) rfl (by intro N a b; kernel_rfl)
def zmr (N:Nat)  : Option (Bool) :=
 ((z2t N (⟨7,0,0,(⟨(⟨0,0⟩:zm),0,0,0,[],[],[]⟩:GOp),0,0,[],(⟨0,(Vector.replicate 8 (default:Int)),(Vector.replicate 8 (default:Int)),(Vector.replicate 8 (default:Int))⟩:z7),0,(Vector.replicate 8 (default:Int)),0,(⟨0,0,0,[]⟩:GPart),3,0,0⟩:z6)).bind fun r1 =>
 ((z20 N [14,6]).bind fun r2 =>
 ((z1a N r1.1 [14,6]).bind fun r3 =>
 (some ((((r3&&(r1.2==0))&&(r2.2==0))&&(r2.1.Kind==7))&&(r2.1.Site==3))))))
def zil:Con τ:={ args:=[],L:=[],ret:=.ty 4,L':=[],R:=Bool,dflt:=default,F:=fun N a b=>zmr N ,of:=fun r=>(r,()) }
noncomputable def zwg:Dat τ:={ D:=D0,tbl:=tblOf [(26,zc9),(30,z8t),(15,zdg)],lp:=lpsOf [],k0:=0,mu:=[],un:=[] }
theorem zy6:ConOk E C 8 zil :=
  zk (D:=zwg) ⟨d0Ok,eGood,zb ⟨zo3,⟨zhe,⟨zq1,trivial⟩⟩⟩,fun _=>rfl⟩ zil (fun a b=>a) none (fun _ _=>rfl) rfl (fun _ _ h=>nomatch h) 1000000 (fn:=Tryz.f8) Tryz.func8 rfl (by kernel_rfl) (by kernel_rfl) rfl (by intro N a b; kernel_rfl)
structure z3v where
  t13:Int
def z9r:List Sl:=[.k,.k,.k,.k,.j,.j,.k,.k,.k,.k,.k,.k,.k,.sh (.ty 2),.j,.j,.j,.j,.j,.j,.j,.j,.j,.j,.j,.j]
def z9s:List ESh:=[]
def zms (a:Sl.Ts τ z9r) (b:ESh.Ts τ z9s):z3v:=⟨a.2.2.2.2.2.2.2.2.2.2.2.2.2.1⟩
def zmt (s:z3v):Sl.Ts τ z9r:=((),(),(),(),(),(),(),(),(),(),(),(),(),s.t13,(),(),(),(),(),(),(),(),(),(),(),(),())
def zmu (s:z3v):ESh.Ts τ z9s:=()
def zmv:Lp τ:={ ts:=z9r,hs:=z9s,S:=z3v,to:=zms,ot:=zmt,oh:=zmu,hk:=[],tk:=[],ot_to:=fun _ _=>rfl,oh_to:=fun _ _=>rfl }
def z9h (N:Nat) (s1_:List (Int)) (s2_:List (Int)):Option (Bool) :=
 (bif (!(((s1_).length:Int)==((s2_).length:Int))) then
 (some false)
 else
 (iter N (fun (s1:z3v) next2 =>
 (bif (decide (s1.t13 < ((s1_).length:Int))) then
 (bif (ibB s1.t13 ((s1_).length:Int)) then
 (bif (ibB s1.t13 ((s2_).length:Int)) then
 (bif (!((lget s1_ s1.t13 default)==(lget s2_ s1.t13 default))) then
 (some false)
 else
 (next2 ⟨(IntKind.i64.wrap (s1.t13 + 1))⟩))
 else none)
 else none)
 else
 (some true))) ⟨0⟩))
def zai:Con τ:={ args:=[.ty 31,.ty 31],L:=[],ret:=.ty 4,L':=[],R:=Bool,dflt:=default,F:=fun N a b=>z9h N a.1 a.2.1,of:=fun r=>(r,()) }
noncomputable def znp:Dat τ:={ D:=D0,tbl:=tblOf [],lp:=lpsOf [(4,zmv)],k0:=0,mu:=[],un:=[] }
theorem zom:ConOk E C 131 zai :=
  zk (D:=znp) ⟨d0Ok,eGood,zb trivial,fun _=>rfl⟩ zai (fun a b=>a) none (fun _ _=>rfl) rfl (fun _ _ h=>nomatch h) 1000000 (fn:=Tryz.f131) Tryz.func131 rfl (by kernel_rfl) (by kernel_rfl) rfl (by intro N a b; kernel_rfl)
def zea (N:Nat) (b:List (Int)):Option ((List (Int))×Int×Int) :=
 ((zd5 N b).bind fun r1 =>
 (bif (!(r1.2.2==0)) then
 (some ([],0,r1.2.2))
 else
 (bif (decide (r1.1 < 0)) then
 (some ([],0,11))
 else
 (bif (decide (1048576 < r1.1)) then
 (some ([],0,3))
 else
 (bif (decide ((IntKind.i64.wrap (((b).length:Int) - r1.2.1)) < (IntKind.i64.wrap (r1.1 + 4)))) then
 (some ([],0,10))
 else
 (bif (cutB (IntKind.i64.wrap (r1.2.1 + r1.1)) (IntKind.i64.wrap ((IntKind.i64.wrap (r1.2.1 + r1.1)) + 4)) ((b).length:Int)) then
 (bif (cutB r1.2.1 (IntKind.i64.wrap (r1.2.1 + r1.1)) ((b).length:Int)) then
 ((zmn N [(cut b r1.2.1 (IntKind.i64.wrap (r1.2.1 + r1.1)))]).bind fun r2 =>
 ((zje N r2).bind fun r3 =>
 ((z9h N (cut b (IntKind.i64.wrap (r1.2.1 + r1.1)) (IntKind.i64.wrap ((IntKind.i64.wrap (r1.2.1 + r1.1)) + 4))) r3).bind fun r4 =>
 (bif (!r4) then
 (some ([],0,12))
 else
 (bif (cutB r1.2.1 (IntKind.i64.wrap (r1.2.1 + r1.1)) ((b).length:Int)) then
 ((z3q N (cut b r1.2.1 (IntKind.i64.wrap (r1.2.1 + r1.1)))).bind fun r5 =>
 (some (r5,(IntKind.i64.wrap ((IntKind.i64.wrap (r1.2.1 + r1.1)) + 4)),0)))
 else none)))))
 else none)
 else none))))))
def zf5:Con τ:={ args:=[.ty 31],L:=[],ret:=.tup [.ty 31,.ty 3,.ty 35],L':=[],R:=(List (Int))×Int×Int,dflt:=(default,default,default),F:=fun N a b=>zea N a.1,of:=fun r=>((r.1,r.2.1,r.2.2,()),()) }
noncomputable def zu6:Dat τ:={ D:=D0,tbl:=tblOf [(130,zc1),(125,zkt),(124,zhd),(131,zai),(49,z3x)],lp:=lpsOf [],k0:=0,mu:=[],un:=[] }
theorem zwh:ConOk E C 81 zf5 :=
  zk (D:=zu6) ⟨d0Ok,eGood,zb ⟨zmp,⟨zx0,⟨zu2,⟨zom,⟨z90,trivial⟩⟩⟩⟩⟩,fun _=>rfl⟩ zf5 (fun a b=>(a.1,a.2.1,a.2.2.1)) none (fun _ _=>rfl) rfl (fun _ _ h=>nomatch h) 1000000 (fn:=Tryz.f81) Tryz.func81 rfl (by kernel_rfl) (by kernel_rfl) rfl (by intro N a b; kernel_rfl)
def z7p (N:Nat) (b0:Int) (b1:GMsg) (b2:z4):Option (Int×GMsg×z4) :=
 ((zf N b0 b2).bind fun r1 =>
 (some (r1.2.1,(⟨r1.1,b1.From,b1.To,b1.Ballot,b1.Slot,b1.List_,b1.Entry,b1.Number,b1.Vector_,b1.Clock,b1.Origin,b1.Ops,b1.Epoch,b1.Part⟩:GMsg),r1.2.2)))
def z63:Con τ:={ args:=[.ptr 0 [],.ls 1 [.ptr 1 [.fld 0 0]]],L:=[.box (.agg [.ptr 2 [],.ty 35]),.box (.ty 71),.box (.ty 99)],ret:=.tup [],L':=[.box (.agg [.ptr 2 [],.ty 35]),.box (.ty 71),.box (.ty 99)],R:=Int×GMsg×z4,dflt:=(default,default,default),F:=fun N a b=>z7p N b.1.2.1 b.2.1 b.2.2.1,of:=fun r=>((),(((),r.1,()),r.2.1,r.2.2,())) }
noncomputable def zf6:Dat τ:={ D:=D0,tbl:=tblOf [(104,zu)],lp:=lpsOf [],k0:=3,mu:=[],un:=[(1,3)] }
theorem zgn:ConOk E C 99 z63 :=
  zk (D:=zf6) ⟨d0Ok,eGood,zb ⟨z11,trivial⟩,fun _=>rfl⟩ z63 (fun a b=>(b.1.2.1,b.2.1,b.2.2.1)) none (fun _ _=>rfl) rfl (fun _ _ h=>nomatch h) 1000000 (fn:=Tryz.f99) Tryz.func99 rfl (by kernel_rfl) (by kernel_rfl) rfl (by intro N a b; kernel_rfl)
def z23 (N:Nat) (b0:Int) (b1:GMsg) (b2:z4):Option (Int×GMsg×z4) :=
 ((zf N b0 b2).bind fun r1 =>
 ((zf N r1.2.1 r1.2.2).bind fun r2 =>
 ((zf N r2.2.1 r2.2.2).bind fun r3 =>
 ((zf N r3.2.1 r3.2.2).bind fun r4 =>
 (some (r4.2.1,(⟨b1.Kind,(⟨r1.1,r2.1⟩:GAddr),(⟨r3.1,r4.1⟩:GAddr),b1.Ballot,b1.Slot,b1.List_,b1.Entry,b1.Number,b1.Vector_,b1.Clock,b1.Origin,b1.Ops,b1.Epoch,b1.Part⟩:GMsg),r4.2.2))))))
def z64:Con τ:={ args:=[.ptr 0 [],.ls 1 [.ptr 1 [.fld 1 1,.fld 0 0],.ptr 1 [.fld 1 1,.fld 1 1],.ptr 1 [.fld 2 3,.fld 0 0],.ptr 1 [.fld 2 3,.fld 1 1]]],L:=[.box (.agg [.ptr 2 [],.ty 35]),.box (.ty 71),.box (.ty 99)],ret:=.tup [],L':=[.box (.agg [.ptr 2 [],.ty 35]),.box (.ty 71),.box (.ty 99)],R:=Int×GMsg×z4,dflt:=(default,default,default),F:=fun N a b=>z23 N b.1.2.1 b.2.1 b.2.2.1,of:=fun r=>((),(((),r.1,()),r.2.1,r.2.2,())) }
noncomputable def zf7:Dat τ:={ D:=D0,tbl:=tblOf [(104,zu)],lp:=lpsOf [],k0:=3,mu:=[],un:=[(1,6)] }
theorem zgo:ConOk E C 99 z64 :=
  zk (D:=zf7) ⟨d0Ok,eGood,zb ⟨z11,trivial⟩,fun _=>rfl⟩ z64 (fun a b=>(b.1.2.1,b.2.1,b.2.2.1)) none (fun _ _=>rfl) rfl (fun _ _ h=>nomatch h) 1000000 (fn:=Tryz.f99) Tryz.func99 rfl (by kernel_rfl) (by kernel_rfl) rfl (by intro N a b; kernel_rfl)
def z8u (N:Nat) (b0:Int) (b1:zh) (b2:z4):Option (Int×zh×z4) :=
 ((ze N b0 b2).bind fun r1 =>
 (some (r1.2.1,(⟨r1.1,b1.Replica⟩:zh),r1.2.2)))
def z7q:Con τ:={ args:=[.ptr 0 [],.ls 1 [.ptr 1 [.fld 0 0]]],L:=[.box (.agg [.ptr 2 [],.ty 35]),.box (.ty 68),.box (.ty 99)],ret:=.tup [],L':=[.box (.agg [.ptr 2 [],.ty 35]),.box (.ty 68),.box (.ty 99)],R:=Int×zh×z4,dflt:=(default,default,default),F:=fun N a b=>z8u N b.1.2.1 b.2.1 b.2.2.1,of:=fun r=>((),(((),r.1,()),r.2.1,r.2.2,())) }
noncomputable def zim:Dat τ:={ D:=D0,tbl:=tblOf [(139,zi)],lp:=lpsOf [],k0:=3,mu:=[],un:=[(1,3)] }
theorem zjs:ConOk E C 98 z7q :=
  zk (D:=zim) ⟨d0Ok,eGood,zb ⟨zo,trivial⟩,fun _=>rfl⟩ z7q (fun a b=>(b.1.2.1,b.2.1,b.2.2.1)) none (fun _ _=>rfl) rfl (fun _ _ h=>nomatch h) 1000000 (fn:=Tryz.f98) Tryz.func98 rfl (by kernel_rfl) (by kernel_rfl) rfl (by intro N a b; kernel_rfl)
def z7r (N:Nat) (b0:Int) (b1:zh) (b2:z4):Option (Int×zh×z4) :=
 ((zf N b0 b2).bind fun r1 =>
 (some (r1.2.1,(⟨b1.Round,r1.1⟩:zh),r1.2.2)))
def z65:Con τ:={ args:=[.ptr 0 [],.ls 1 [.ptr 1 [.fld 1 1]]],L:=[.box (.agg [.ptr 2 [],.ty 35]),.box (.ty 68),.box (.ty 99)],ret:=.tup [],L':=[.box (.agg [.ptr 2 [],.ty 35]),.box (.ty 68),.box (.ty 99)],R:=Int×zh×z4,dflt:=(default,default,default),F:=fun N a b=>z7r N b.1.2.1 b.2.1 b.2.2.1,of:=fun r=>((),(((),r.1,()),r.2.1,r.2.2,())) }
noncomputable def zf8:Dat τ:={ D:=D0,tbl:=tblOf [(104,zu)],lp:=lpsOf [],k0:=3,mu:=[],un:=[(1,3)] }
theorem zgp:ConOk E C 99 z65 :=
  zk (D:=zf8) ⟨d0Ok,eGood,zb ⟨z11,trivial⟩,fun _=>rfl⟩ z65 (fun a b=>(b.1.2.1,b.2.1,b.2.2.1)) none (fun _ _=>rfl) rfl (fun _ _ h=>nomatch h) 1000000 (fn:=Tryz.f99) Tryz.func99 rfl (by kernel_rfl) (by kernel_rfl) rfl (by intro N a b; kernel_rfl)
def zp (N:Nat) (b0:Int) (b1:z4):Option (zh×Int×z4) :=
 ((z8u N b0 (⟨0,0⟩:zh) b1).bind fun r1 =>
 ((z7r N r1.1 r1.2.1 r1.2.2).bind fun r2 =>
 (some (r2.2.1,r2.1,r2.2.2))))
def z3l:Con τ:={ args:=[.ptr 0 []],L:=[.box (.agg [.ptr 1 [],.ty 35]),.box (.ty 99)],ret:=.ty 68,L':=[.box (.agg [.ptr 1 [],.ty 35]),.box (.ty 99)],R:=zh×Int×z4,dflt:=(default,default,default),F:=fun N a b=>zp N b.1.2.1 b.2.1,of:=fun r=>(r.1,(((),r.2.1,()),r.2.2,())) }
noncomputable def zf9:Dat τ:={ D:=D0,tbl:=tblOf [(98,z7q),(99,z65)],lp:=lpsOf [],k0:=2,mu:=[],un:=[] }
theorem zad:ConOk E C 154 z3l :=
  zk (D:=zf9) ⟨d0Ok,eGood,zb ⟨zjs,⟨zgp,trivial⟩⟩,fun _=>rfl⟩ z3l (fun a b=>(a,b.1.2.1,b.2.1)) none (fun _ _=>rfl) rfl (fun _ _ h=>nomatch h) 1000000 (fn:=Tryz.f154) Tryz.func154 rfl (by kernel_rfl) (by kernel_rfl) rfl (by intro N a b; kernel_rfl)
def zg (N:Nat) (b0:Int) (b1:GMsg) (b2:z4):Option (Int×GMsg×z4) :=
 ((ze N b0 b2).bind fun r1 =>
 (some (r1.2.1,(⟨b1.Kind,b1.From,b1.To,b1.Ballot,r1.1,b1.List_,b1.Entry,b1.Number,b1.Vector_,b1.Clock,b1.Origin,b1.Ops,b1.Epoch,b1.Part⟩:GMsg),r1.2.2)))
def z7s:Con τ:={ args:=[.ptr 0 [],.ls 1 [.ptr 1 [.fld 4 7]]],L:=[.box (.agg [.ptr 2 [],.ty 35]),.box (.ty 71),.box (.ty 99)],ret:=.tup [],L':=[.box (.agg [.ptr 2 [],.ty 35]),.box (.ty 71),.box (.ty 99)],R:=Int×GMsg×z4,dflt:=(default,default,default),F:=fun N a b=>zg N b.1.2.1 b.2.1 b.2.2.1,of:=fun r=>((),(((),r.1,()),r.2.1,r.2.2,())) }
noncomputable def zin:Dat τ:={ D:=D0,tbl:=tblOf [(139,zi)],lp:=lpsOf [],k0:=3,mu:=[],un:=[(1,3)] }
theorem zjt:ConOk E C 98 z7s :=
  zk (D:=zin) ⟨d0Ok,eGood,zb ⟨zo,trivial⟩,fun _=>rfl⟩ z7s (fun a b=>(b.1.2.1,b.2.1,b.2.2.1)) none (fun _ _=>rfl) rfl (fun _ _ h=>nomatch h) 1000000 (fn:=Tryz.f98) Tryz.func98 rfl (by kernel_rfl) (by kernel_rfl) rfl (by intro N a b; kernel_rfl)
def z8v (N:Nat) (b0:Int) (b1:zd) (b2:z4):Option (Int×zd×z4) :=
 ((ze N b0 b2).bind fun r1 =>
 (some (r1.2.1,(⟨r1.1,b1.Ballot,b1.Entry⟩:zd),r1.2.2)))
def z7t:Con τ:={ args:=[.ptr 0 [],.ls 1 [.ptr 1 [.fld 0 0]]],L:=[.box (.agg [.ptr 2 [],.ty 35]),.box (.ty 178),.box (.ty 99)],ret:=.tup [],L':=[.box (.agg [.ptr 2 [],.ty 35]),.box (.ty 178),.box (.ty 99)],R:=Int×zd×z4,dflt:=(default,default,default),F:=fun N a b=>z8v N b.1.2.1 b.2.1 b.2.2.1,of:=fun r=>((),(((),r.1,()),r.2.1,r.2.2,())) }
noncomputable def zio:Dat τ:={ D:=D0,tbl:=tblOf [(139,zi)],lp:=lpsOf [],k0:=3,mu:=[],un:=[(1,3)] }
theorem zju:ConOk E C 98 z7t :=
  zk (D:=zio) ⟨d0Ok,eGood,zb ⟨zo,trivial⟩,fun _=>rfl⟩ z7t (fun a b=>(b.1.2.1,b.2.1,b.2.2.1)) none (fun _ _=>rfl) rfl (fun _ _ h=>nomatch h) 1000000 (fn:=Tryz.f98) Tryz.func98 rfl (by kernel_rfl) (by kernel_rfl) rfl (by intro N a b; kernel_rfl)
structure z2l where
  l:List (zd)
  t7:Int
  b0:Int
  b1:z4
def z6p:List Sl:=[.k,.k,.j,.sh (.own 178 2),.j,.k,.k,.sh (.ty 2),.j,.j,.j,.j,.j,.j,.j,.j,.j,.j,.j,.j,.j,.j,.j,.j,.j,.j,.j,.j,.j,.k]
def z6q:List ESh:=[.box (.agg [.ptr 1 [],.ty 2]),.box (.ty 86),.tail]
def zgq (a:Sl.Ts τ z6p) (b:ESh.Ts τ z6q):z2l:=⟨a.2.2.2.1,a.2.2.2.2.2.2.2.1,b.1.2.1,b.2.1⟩
def zgr (s:z2l):Sl.Ts τ z6p:=((),(),(),s.l,(),(),(),s.t7,(),(),(),(),(),(),(),(),(),(),(),(),(),(),(),(),(),(),(),(),(),(),())
def zgs (s:z2l):ESh.Ts τ z6q:=(((),s.b0,()),s.b1,(),())
def zgt:Lp τ:={ ts:=z6p,hs:=z6q,S:=z2l,to:=zgq,ot:=zgr,oh:=zgs,hk:=[2,2],tk:=[2,0,0,0,0,2],ot_to:=fun _ _=>rfl,oh_to:=fun _ _=>rfl }
def z16 (N:Nat) (b0:Int) (b1:z4):Option ((List (zd))×Int×z4) :=
 ((z3k N b0 b1).bind fun r1 =>
 (iter N (fun (s2:z2l) next3 =>
 (bif (decide (s2.t7 < r1.1)) then
 (bif (!(s2.b0==0)) then
 (some ([],s2.b0,s2.b1))
 else
 ((z8v N s2.b0 (⟨0,(⟨0,0⟩:zh),(⟨0,0,0,(⟨(⟨0,0⟩:zm),0,0,0,[],[],[]⟩:GOp),0,0,[],(⟨0,(Vector.replicate 8 (default:Int)),(Vector.replicate 8 (default:Int)),(Vector.replicate 8 (default:Int))⟩:z7),0,(Vector.replicate 8 (default:Int)),0,(⟨0,0,0,[]⟩:GPart),0,0,0⟩:z6)⟩:zd) s2.b1).bind fun r4 =>
 ((zp N r4.1 r4.2.2).bind fun r5 =>
 ((z1y N r5.2.1 r5.2.2).bind fun r6 =>
 (bif (lenB ((s2.l).length + ([(⟨r4.2.1.Slot,r5.1,r6.1⟩:zd)]).length) 528) then
 (next3 ⟨(s2.l++[(⟨r4.2.1.Slot,r5.1,r6.1⟩:zd)]),(IntKind.i64.wrap (s2.t7 + 1)),r6.2.1,r6.2.2⟩)
 else none)))))
 else
 (some (s2.l,s2.b0,s2.b1)))) ⟨[],0,r1.2.1,r1.2.2⟩))
def z7u:Con τ:={ args:=[.ptr 0 []],L:=[.box (.agg [.ptr 1 [],.ty 35]),.box (.ty 99)],ret:=.ty 69,L':=[.box (.agg [.ptr 1 [],.ty 35]),.box (.ty 99)],R:=(List (zd))×Int×z4,dflt:=(default,default,default),F:=fun N a b=>z16 N b.1.2.1 b.2.1,of:=fun r=>(r.1,(((),r.2.1,()),r.2.2,())) }
noncomputable def ziq:Dat τ:={ D:=D0,tbl:=tblOf [(152,z4c),(98,z7t),(154,z3l),(72,z30)],lp:=lpsOf [(3,zgt)],k0:=2,mu:=[],un:=[] }
theorem zjv:ConOk E C 155 z7u :=
  zk (D:=ziq) ⟨d0Ok,eGood,zb ⟨zbe,⟨zju,⟨zad,⟨z7o,trivial⟩⟩⟩⟩,fun _=>rfl⟩ z7u (fun a b=>(a,b.1.2.1,b.2.1)) none (fun _ _=>rfl) rfl (fun _ _ h=>nomatch h) 1000000 (fn:=Tryz.f155) Tryz.func155 rfl (by kernel_rfl) (by kernel_rfl) rfl (by intro N a b; kernel_rfl)
def z13 (N:Nat) (b0:Int) (b1:GMsg) (b2:z4):Option (Int×GMsg×z4) :=
 ((ze N b0 b2).bind fun r1 =>
 (some (r1.2.1,(⟨b1.Kind,b1.From,b1.To,b1.Ballot,b1.Slot,b1.List_,b1.Entry,r1.1,b1.Vector_,b1.Clock,b1.Origin,b1.Ops,b1.Epoch,b1.Part⟩:GMsg),r1.2.2)))
def z7v:Con τ:={ args:=[.ptr 0 [],.ls 1 [.ptr 1 [.fld 7 65]]],L:=[.box (.agg [.ptr 2 [],.ty 35]),.box (.ty 71),.box (.ty 99)],ret:=.tup [],L':=[.box (.agg [.ptr 2 [],.ty 35]),.box (.ty 71),.box (.ty 99)],R:=Int×GMsg×z4,dflt:=(default,default,default),F:=fun N a b=>z13 N b.1.2.1 b.2.1 b.2.2.1,of:=fun r=>((),(((),r.1,()),r.2.1,r.2.2,())) }
noncomputable def zir:Dat τ:={ D:=D0,tbl:=tblOf [(139,zi)],lp:=lpsOf [],k0:=3,mu:=[],un:=[(1,3)] }
theorem zjw:ConOk E C 98 z7v :=
  zk (D:=zir) ⟨d0Ok,eGood,zb ⟨zo,trivial⟩,fun _=>rfl⟩ z7v (fun a b=>(b.1.2.1,b.2.1,b.2.2.1)) none (fun _ _=>rfl) rfl (fun _ _ h=>nomatch h) 1000000 (fn:=Tryz.f98) Tryz.func98 rfl (by kernel_rfl) (by kernel_rfl) rfl (by intro N a b; kernel_rfl)
structure z1q where
  t5:Int
  b0:Int
  b1:GMsg
  b2:z4
def z5f:List Sl:=[.k,.k,.k,.k,.j,.sh (.ty 2),.j,.j,.j,.j,.j,.j,.j,.j,.j]
def z5g:List ESh:=[.box (.agg [.ptr 2 [],.ty 2]),.box (.ty 70),.box (.ty 86)]
def zeb (a:Sl.Ts τ z5f) (b:ESh.Ts τ z5g):z1q:=⟨a.2.2.2.2.2.1,b.1.2.1,b.2.1,b.2.2.1⟩
def zec (s:z1q):Sl.Ts τ z5f:=((),(),(),(),(),s.t5,(),(),(),(),(),(),(),(),(),())
def zed (s:z1q):ESh.Ts τ z5g:=(((),s.b0,()),s.b1,s.b2,())
def zee:Lp τ:={ ts:=z5f,hs:=z5g,S:=z1q,to:=zeb,ot:=zec,oh:=zed,hk:=[2,2,2],tk:=[2,3],ot_to:=fun _ _=>rfl,oh_to:=fun _ _=>rfl }
def z1j (N:Nat) (b0:Int) (b1:GMsg) (b2:z4):Option (Int×GMsg×z4) :=
 (iter N (fun (s1:z1q) next2 =>
 (bif (decide (s1.t5 < 8)) then
 ((ze N s1.b0 s1.b2).bind fun r3 =>
 (bif (ibB s1.t5 8) then
 (next2 ⟨(IntKind.i64.wrap (s1.t5 + 1)),r3.2.1,(⟨s1.b1.Kind,s1.b1.From,s1.b1.To,s1.b1.Ballot,s1.b1.Slot,s1.b1.List_,s1.b1.Entry,s1.b1.Number,(vset s1.b1.Vector_ ((s1.t5).toNat) r3.1),s1.b1.Clock,s1.b1.Origin,s1.b1.Ops,s1.b1.Epoch,s1.b1.Part⟩:GMsg),r3.2.2⟩)
 else none))
 else
 (some (s1.b0,s1.b1,s1.b2)))) ⟨0,b0,b1,b2⟩)
def z66:Con τ:={ args:=[.ptr 0 [],.ptr 1 [.fld 8 66]],L:=[.box (.agg [.ptr 2 [],.ty 35]),.box (.ty 71),.box (.ty 99)],ret:=.tup [],L':=[.box (.agg [.ptr 2 [],.ty 35]),.box (.ty 71),.box (.ty 99)],R:=Int×GMsg×z4,dflt:=(default,default,default),F:=fun N a b=>z1j N b.1.2.1 b.2.1 b.2.2.1,of:=fun r=>((),(((),r.1,()),r.2.1,r.2.2,())) }
noncomputable def zfa:Dat τ:={ D:=D0,tbl:=tblOf [(139,zi)],lp:=lpsOf [(1,zee)],k0:=3,mu:=[],un:=[] }
theorem zgu:ConOk E C 105 z66 :=
  zk (D:=zfa) ⟨d0Ok,eGood,zb ⟨zo,trivial⟩,fun _=>rfl⟩ z66 (fun a b=>(b.1.2.1,b.2.1,b.2.2.1)) none (fun _ _=>rfl) rfl (fun _ _ h=>nomatch h) 1000000 (fn:=Tryz.f105) Tryz.func105 rfl (by kernel_rfl) (by kernel_rfl) rfl (by intro N a b; kernel_rfl)
def z3m (N:Nat) (b0:Int) (b1:GMsg) (b2:z4):Option (Int×GMsg×z4) :=
 ((ze N b0 b2).bind fun r1 =>
 (some (r1.2.1,(⟨b1.Kind,b1.From,b1.To,b1.Ballot,b1.Slot,b1.List_,b1.Entry,b1.Number,b1.Vector_,r1.1,b1.Origin,b1.Ops,b1.Epoch,b1.Part⟩:GMsg),r1.2.2)))
def z7w:Con τ:={ args:=[.ptr 0 [],.ls 1 [.ptr 1 [.fld 9 74]]],L:=[.box (.agg [.ptr 2 [],.ty 35]),.box (.ty 71),.box (.ty 99)],ret:=.tup [],L':=[.box (.agg [.ptr 2 [],.ty 35]),.box (.ty 71),.box (.ty 99)],R:=Int×GMsg×z4,dflt:=(default,default,default),F:=fun N a b=>z3m N b.1.2.1 b.2.1 b.2.2.1,of:=fun r=>((),(((),r.1,()),r.2.1,r.2.2,())) }
noncomputable def zis:Dat τ:={ D:=D0,tbl:=tblOf [(139,zi)],lp:=lpsOf [],k0:=3,mu:=[],un:=[(1,3)] }
theorem zjx:ConOk E C 98 z7w :=
  zk (D:=zis) ⟨d0Ok,eGood,zb ⟨zo,trivial⟩,fun _=>rfl⟩ z7w (fun a b=>(b.1.2.1,b.2.1,b.2.2.1)) none (fun _ _=>rfl) rfl (fun _ _ h=>nomatch h) 1000000 (fn:=Tryz.f98) Tryz.func98 rfl (by kernel_rfl) (by kernel_rfl) rfl (by intro N a b; kernel_rfl)
def z34 (N:Nat) (b0:Int) (b1:GMsg) (b2:z4):Option (Int×GMsg×z4) :=
 ((zf N b0 b2).bind fun r1 =>
 (some (r1.2.1,(⟨b1.Kind,b1.From,b1.To,b1.Ballot,b1.Slot,b1.List_,b1.Entry,b1.Number,b1.Vector_,b1.Clock,r1.1,b1.Ops,b1.Epoch,b1.Part⟩:GMsg),r1.2.2)))
def z67:Con τ:={ args:=[.ptr 0 [],.ls 1 [.ptr 1 [.fld 10 75]]],L:=[.box (.agg [.ptr 2 [],.ty 35]),.box (.ty 71),.box (.ty 99)],ret:=.tup [],L':=[.box (.agg [.ptr 2 [],.ty 35]),.box (.ty 71),.box (.ty 99)],R:=Int×GMsg×z4,dflt:=(default,default,default),F:=fun N a b=>z34 N b.1.2.1 b.2.1 b.2.2.1,of:=fun r=>((),(((),r.1,()),r.2.1,r.2.2,())) }
noncomputable def zfb:Dat τ:={ D:=D0,tbl:=tblOf [(104,zu)],lp:=lpsOf [],k0:=3,mu:=[],un:=[(1,3)] }
theorem zgv:ConOk E C 99 z67 :=
  zk (D:=zfb) ⟨d0Ok,eGood,zb ⟨z11,trivial⟩,fun _=>rfl⟩ z67 (fun a b=>(b.1.2.1,b.2.1,b.2.2.1)) none (fun _ _=>rfl) rfl (fun _ _ h=>nomatch h) 1000000 (fn:=Tryz.f99) Tryz.func99 rfl (by kernel_rfl) (by kernel_rfl) rfl (by intro N a b; kernel_rfl)
def z3n (N:Nat) (b0:Int) (b1:GMsg) (b2:z4):Option (Int×GMsg×z4) :=
 (bif (b1.Kind==1) then
 (bif (b1.Kind==1) then
 ((zp N b0 b2).bind fun r1 =>
 ((zg N r1.2.1 (⟨b1.Kind,b1.From,b1.To,r1.1,b1.Slot,b1.List_,b1.Entry,b1.Number,b1.Vector_,b1.Clock,b1.Origin,b1.Ops,b1.Epoch,b1.Part⟩:GMsg) r1.2.2).bind fun r2 =>
 (some (r2.1,r2.2.1,r2.2.2))))
 else
 (bif (b1.Kind==2) then
 ((zp N b0 b2).bind fun r3 =>
 ((zg N r3.2.1 (⟨b1.Kind,b1.From,b1.To,r3.1,b1.Slot,b1.List_,b1.Entry,b1.Number,b1.Vector_,b1.Clock,b1.Origin,b1.Ops,b1.Epoch,b1.Part⟩:GMsg) r3.2.2).bind fun r4 =>
 ((z16 N r4.1 r4.2.2).bind fun r5 =>
 (some (r5.2.1,(⟨r4.2.1.Kind,r4.2.1.From,r4.2.1.To,r4.2.1.Ballot,r4.2.1.Slot,r5.1,r4.2.1.Entry,r4.2.1.Number,r4.2.1.Vector_,r4.2.1.Clock,r4.2.1.Origin,r4.2.1.Ops,r4.2.1.Epoch,r4.2.1.Part⟩:GMsg),r5.2.2)))))
 else
 (bif (b1.Kind==3) then
 ((zp N b0 b2).bind fun r6 =>
 ((z16 N r6.2.1 r6.2.2).bind fun r7 =>
 (some (r7.2.1,(⟨b1.Kind,b1.From,b1.To,r6.1,b1.Slot,r7.1,b1.Entry,b1.Number,b1.Vector_,b1.Clock,b1.Origin,b1.Ops,b1.Epoch,b1.Part⟩:GMsg),r7.2.2))))
 else
 (bif (b1.Kind==5) then
 ((zp N b0 b2).bind fun r8 =>
 (some (r8.2.1,(⟨b1.Kind,b1.From,b1.To,r8.1,b1.Slot,b1.List_,b1.Entry,b1.Number,b1.Vector_,b1.Clock,b1.Origin,b1.Ops,b1.Epoch,b1.Part⟩:GMsg),r8.2.2)))
 else
 (bif (b1.Kind==6) then
 ((z16 N b0 b2).bind fun r9 =>
 (some (r9.2.1,(⟨b1.Kind,b1.From,b1.To,b1.Ballot,b1.Slot,r9.1,b1.Entry,b1.Number,b1.Vector_,b1.Clock,b1.Origin,b1.Ops,b1.Epoch,b1.Part⟩:GMsg),r9.2.2)))
 else
 (bif (b1.Kind==8) then
 ((zg N b0 b1 b2).bind fun r10 =>
 (some (r10.1,r10.2.1,r10.2.2)))
 else
 (bif (b1.Kind==9) then
 ((z1y N b0 b2).bind fun r11 =>
 (some (r11.2.1,(⟨b1.Kind,b1.From,b1.To,b1.Ballot,b1.Slot,b1.List_,r11.1,b1.Number,b1.Vector_,b1.Clock,b1.Origin,b1.Ops,b1.Epoch,b1.Part⟩:GMsg),r11.2.2)))
 else
 (bif (b1.Kind==10) then
 ((z13 N b0 b1 b2).bind fun r12 =>
 ((z1j N r12.1 r12.2.1 r12.2.2).bind fun r13 =>
 ((z3m N r13.1 r13.2.1 r13.2.2).bind fun r14 =>
 (some (r14.1,r14.2.1,r14.2.2)))))
 else
 (bif (b1.Kind==11) then
 ((z13 N b0 b1 b2).bind fun r15 =>
 ((z34 N r15.1 r15.2.1 r15.2.2).bind fun r16 =>
 ((zg N r16.1 r16.2.1 r16.2.2).bind fun r17 =>
 ((z2q N r17.1 r17.2.2).bind fun r18 =>
 (some (r18.2.1,(⟨r17.2.1.Kind,r17.2.1.From,r17.2.1.To,r17.2.1.Ballot,r17.2.1.Slot,r17.2.1.List_,r17.2.1.Entry,r17.2.1.Number,r17.2.1.Vector_,r17.2.1.Clock,r17.2.1.Origin,r18.1,r17.2.1.Epoch,r17.2.1.Part⟩:GMsg),r18.2.2))))))
 else
 (bif (b1.Kind==12) then
 ((z28 N b0 b2).bind fun r19 =>
 (some (r19.2.1,(⟨b1.Kind,b1.From,b1.To,b1.Ballot,b1.Slot,b1.List_,b1.Entry,b1.Number,b1.Vector_,b1.Clock,b1.Origin,b1.Ops,r19.1,b1.Part⟩:GMsg),r19.2.2)))
 else
 (bif (b1.Kind==13) then
 ((z1i N b0 b2).bind fun r20 =>
 (some (r20.2.1,(⟨b1.Kind,b1.From,b1.To,b1.Ballot,b1.Slot,b1.List_,b1.Entry,b1.Number,b1.Vector_,b1.Clock,b1.Origin,b1.Ops,b1.Epoch,r20.1⟩:GMsg),r20.2.2)))
 else
 (bif (b1.Kind==14) then
 ((z13 N b0 b1 b2).bind fun r21 =>
 ((z1j N r21.1 r21.2.1 r21.2.2).bind fun r22 =>
 (some (r22.1,r22.2.1,r22.2.2))))
 else
 (bif (b1.Kind==15) then
 ((zg N b0 b1 b2).bind fun r23 =>
 ((z1i N r23.1 r23.2.2).bind fun r24 =>
 (some (r24.2.1,(⟨r23.2.1.Kind,r23.2.1.From,r23.2.1.To,r23.2.1.Ballot,r23.2.1.Slot,r23.2.1.List_,r23.2.1.Entry,r23.2.1.Number,r23.2.1.Vector_,r23.2.1.Clock,r23.2.1.Origin,r23.2.1.Ops,r23.2.1.Epoch,r24.1⟩:GMsg),r24.2.2))))
 else
 (some (b0,b1,b2)))))))))))))))
 else
 (bif (b1.Kind==4) then
 (bif (b1.Kind==4) then
 ((zp N b0 b2).bind fun r25 =>
 ((zg N r25.2.1 (⟨b1.Kind,b1.From,b1.To,r25.1,b1.Slot,b1.List_,b1.Entry,b1.Number,b1.Vector_,b1.Clock,b1.Origin,b1.Ops,b1.Epoch,b1.Part⟩:GMsg) r25.2.2).bind fun r26 =>
 (some (r26.1,r26.2.1,r26.2.2))))
 else
 (bif (b1.Kind==2) then
 ((zp N b0 b2).bind fun r27 =>
 ((zg N r27.2.1 (⟨b1.Kind,b1.From,b1.To,r27.1,b1.Slot,b1.List_,b1.Entry,b1.Number,b1.Vector_,b1.Clock,b1.Origin,b1.Ops,b1.Epoch,b1.Part⟩:GMsg) r27.2.2).bind fun r28 =>
 ((z16 N r28.1 r28.2.2).bind fun r29 =>
 (some (r29.2.1,(⟨r28.2.1.Kind,r28.2.1.From,r28.2.1.To,r28.2.1.Ballot,r28.2.1.Slot,r29.1,r28.2.1.Entry,r28.2.1.Number,r28.2.1.Vector_,r28.2.1.Clock,r28.2.1.Origin,r28.2.1.Ops,r28.2.1.Epoch,r28.2.1.Part⟩:GMsg),r29.2.2)))))
 else
 (bif (b1.Kind==3) then
 ((zp N b0 b2).bind fun r30 =>
 ((z16 N r30.2.1 r30.2.2).bind fun r31 =>
 (some (r31.2.1,(⟨b1.Kind,b1.From,b1.To,r30.1,b1.Slot,r31.1,b1.Entry,b1.Number,b1.Vector_,b1.Clock,b1.Origin,b1.Ops,b1.Epoch,b1.Part⟩:GMsg),r31.2.2))))
 else
 (bif (b1.Kind==5) then
 ((zp N b0 b2).bind fun r32 =>
 (some (r32.2.1,(⟨b1.Kind,b1.From,b1.To,r32.1,b1.Slot,b1.List_,b1.Entry,b1.Number,b1.Vector_,b1.Clock,b1.Origin,b1.Ops,b1.Epoch,b1.Part⟩:GMsg),r32.2.2)))
 else
 (bif (b1.Kind==6) then
 ((z16 N b0 b2).bind fun r33 =>
 (some (r33.2.1,(⟨b1.Kind,b1.From,b1.To,b1.Ballot,b1.Slot,r33.1,b1.Entry,b1.Number,b1.Vector_,b1.Clock,b1.Origin,b1.Ops,b1.Epoch,b1.Part⟩:GMsg),r33.2.2)))
 else
 (bif (b1.Kind==8) then
 ((zg N b0 b1 b2).bind fun r34 =>
 (some (r34.1,r34.2.1,r34.2.2)))
 else
 (bif (b1.Kind==9) then
 ((z1y N b0 b2).bind fun r35 =>
 (some (r35.2.1,(⟨b1.Kind,b1.From,b1.To,b1.Ballot,b1.Slot,b1.List_,r35.1,b1.Number,b1.Vector_,b1.Clock,b1.Origin,b1.Ops,b1.Epoch,b1.Part⟩:GMsg),r35.2.2)))
 else
 (bif (b1.Kind==10) then
 ((z13 N b0 b1 b2).bind fun r36 =>
 ((z1j N r36.1 r36.2.1 r36.2.2).bind fun r37 =>
 ((z3m N r37.1 r37.2.1 r37.2.2).bind fun r38 =>
 (some (r38.1,r38.2.1,r38.2.2)))))
 else
 (bif (b1.Kind==11) then
 ((z13 N b0 b1 b2).bind fun r39 =>
 ((z34 N r39.1 r39.2.1 r39.2.2).bind fun r40 =>
 ((zg N r40.1 r40.2.1 r40.2.2).bind fun r41 =>
 ((z2q N r41.1 r41.2.2).bind fun r42 =>
 (some (r42.2.1,(⟨r41.2.1.Kind,r41.2.1.From,r41.2.1.To,r41.2.1.Ballot,r41.2.1.Slot,r41.2.1.List_,r41.2.1.Entry,r41.2.1.Number,r41.2.1.Vector_,r41.2.1.Clock,r41.2.1.Origin,r42.1,r41.2.1.Epoch,r41.2.1.Part⟩:GMsg),r42.2.2))))))
 else
 (bif (b1.Kind==12) then
 ((z28 N b0 b2).bind fun r43 =>
 (some (r43.2.1,(⟨b1.Kind,b1.From,b1.To,b1.Ballot,b1.Slot,b1.List_,b1.Entry,b1.Number,b1.Vector_,b1.Clock,b1.Origin,b1.Ops,r43.1,b1.Part⟩:GMsg),r43.2.2)))
 else
 (bif (b1.Kind==13) then
 ((z1i N b0 b2).bind fun r44 =>
 (some (r44.2.1,(⟨b1.Kind,b1.From,b1.To,b1.Ballot,b1.Slot,b1.List_,b1.Entry,b1.Number,b1.Vector_,b1.Clock,b1.Origin,b1.Ops,b1.Epoch,r44.1⟩:GMsg),r44.2.2)))
 else
 (bif (b1.Kind==14) then
 ((z13 N b0 b1 b2).bind fun r45 =>
 ((z1j N r45.1 r45.2.1 r45.2.2).bind fun r46 =>
 (some (r46.1,r46.2.1,r46.2.2))))
 else
 (bif (b1.Kind==15) then
 ((zg N b0 b1 b2).bind fun r47 =>
 ((z1i N r47.1 r47.2.2).bind fun r48 =>
 (some (r48.2.1,(⟨r47.2.1.Kind,r47.2.1.From,r47.2.1.To,r47.2.1.Ballot,r47.2.1.Slot,r47.2.1.List_,r47.2.1.Entry,r47.2.1.Number,r47.2.1.Vector_,r47.2.1.Clock,r47.2.1.Origin,r47.2.1.Ops,r47.2.1.Epoch,r48.1⟩:GMsg),r48.2.2))))
 else
 (some (b0,b1,b2)))))))))))))))
 else
 (bif (b1.Kind==7) then
 ((zp N b0 b2).bind fun r49 =>
 ((zg N r49.2.1 (⟨b1.Kind,b1.From,b1.To,r49.1,b1.Slot,b1.List_,b1.Entry,b1.Number,b1.Vector_,b1.Clock,b1.Origin,b1.Ops,b1.Epoch,b1.Part⟩:GMsg) r49.2.2).bind fun r50 =>
 (some (r50.1,r50.2.1,r50.2.2))))
 else
 (bif (b1.Kind==2) then
 ((zp N b0 b2).bind fun r51 =>
 ((zg N r51.2.1 (⟨b1.Kind,b1.From,b1.To,r51.1,b1.Slot,b1.List_,b1.Entry,b1.Number,b1.Vector_,b1.Clock,b1.Origin,b1.Ops,b1.Epoch,b1.Part⟩:GMsg) r51.2.2).bind fun r52 =>
 ((z16 N r52.1 r52.2.2).bind fun r53 =>
 (some (r53.2.1,(⟨r52.2.1.Kind,r52.2.1.From,r52.2.1.To,r52.2.1.Ballot,r52.2.1.Slot,r53.1,r52.2.1.Entry,r52.2.1.Number,r52.2.1.Vector_,r52.2.1.Clock,r52.2.1.Origin,r52.2.1.Ops,r52.2.1.Epoch,r52.2.1.Part⟩:GMsg),r53.2.2)))))
 else
 (bif (b1.Kind==3) then
 ((zp N b0 b2).bind fun r54 =>
 ((z16 N r54.2.1 r54.2.2).bind fun r55 =>
 (some (r55.2.1,(⟨b1.Kind,b1.From,b1.To,r54.1,b1.Slot,r55.1,b1.Entry,b1.Number,b1.Vector_,b1.Clock,b1.Origin,b1.Ops,b1.Epoch,b1.Part⟩:GMsg),r55.2.2))))
 else
 (bif (b1.Kind==5) then
 ((zp N b0 b2).bind fun r56 =>
 (some (r56.2.1,(⟨b1.Kind,b1.From,b1.To,r56.1,b1.Slot,b1.List_,b1.Entry,b1.Number,b1.Vector_,b1.Clock,b1.Origin,b1.Ops,b1.Epoch,b1.Part⟩:GMsg),r56.2.2)))
 else
 (bif (b1.Kind==6) then
 ((z16 N b0 b2).bind fun r57 =>
 (some (r57.2.1,(⟨b1.Kind,b1.From,b1.To,b1.Ballot,b1.Slot,r57.1,b1.Entry,b1.Number,b1.Vector_,b1.Clock,b1.Origin,b1.Ops,b1.Epoch,b1.Part⟩:GMsg),r57.2.2)))
 else
 (bif (b1.Kind==8) then
 ((zg N b0 b1 b2).bind fun r58 =>
 (some (r58.1,r58.2.1,r58.2.2)))
 else
 (bif (b1.Kind==9) then
 ((z1y N b0 b2).bind fun r59 =>
 (some (r59.2.1,(⟨b1.Kind,b1.From,b1.To,b1.Ballot,b1.Slot,b1.List_,r59.1,b1.Number,b1.Vector_,b1.Clock,b1.Origin,b1.Ops,b1.Epoch,b1.Part⟩:GMsg),r59.2.2)))
 else
 (bif (b1.Kind==10) then
 ((z13 N b0 b1 b2).bind fun r60 =>
 ((z1j N r60.1 r60.2.1 r60.2.2).bind fun r61 =>
 ((z3m N r61.1 r61.2.1 r61.2.2).bind fun r62 =>
 (some (r62.1,r62.2.1,r62.2.2)))))
 else
 (bif (b1.Kind==11) then
 ((z13 N b0 b1 b2).bind fun r63 =>
 ((z34 N r63.1 r63.2.1 r63.2.2).bind fun r64 =>
 ((zg N r64.1 r64.2.1 r64.2.2).bind fun r65 =>
 ((z2q N r65.1 r65.2.2).bind fun r66 =>
 (some (r66.2.1,(⟨r65.2.1.Kind,r65.2.1.From,r65.2.1.To,r65.2.1.Ballot,r65.2.1.Slot,r65.2.1.List_,r65.2.1.Entry,r65.2.1.Number,r65.2.1.Vector_,r65.2.1.Clock,r65.2.1.Origin,r66.1,r65.2.1.Epoch,r65.2.1.Part⟩:GMsg),r66.2.2))))))
 else
 (bif (b1.Kind==12) then
 ((z28 N b0 b2).bind fun r67 =>
 (some (r67.2.1,(⟨b1.Kind,b1.From,b1.To,b1.Ballot,b1.Slot,b1.List_,b1.Entry,b1.Number,b1.Vector_,b1.Clock,b1.Origin,b1.Ops,r67.1,b1.Part⟩:GMsg),r67.2.2)))
 else
 (bif (b1.Kind==13) then
 ((z1i N b0 b2).bind fun r68 =>
 (some (r68.2.1,(⟨b1.Kind,b1.From,b1.To,b1.Ballot,b1.Slot,b1.List_,b1.Entry,b1.Number,b1.Vector_,b1.Clock,b1.Origin,b1.Ops,b1.Epoch,r68.1⟩:GMsg),r68.2.2)))
 else
 (bif (b1.Kind==14) then
 ((z13 N b0 b1 b2).bind fun r69 =>
 ((z1j N r69.1 r69.2.1 r69.2.2).bind fun r70 =>
 (some (r70.1,r70.2.1,r70.2.2))))
 else
 (bif (b1.Kind==15) then
 ((zg N b0 b1 b2).bind fun r71 =>
 ((z1i N r71.1 r71.2.2).bind fun r72 =>
 (some (r72.2.1,(⟨r71.2.1.Kind,r71.2.1.From,r71.2.1.To,r71.2.1.Ballot,r71.2.1.Slot,r71.2.1.List_,r71.2.1.Entry,r71.2.1.Number,r71.2.1.Vector_,r71.2.1.Clock,r71.2.1.Origin,r71.2.1.Ops,r71.2.1.Epoch,r72.1⟩:GMsg),r72.2.2))))
 else
 (some (b0,b1,b2)))))))))))))))))
def z7x:Con τ:={ args:=[.ptr 0 [],.ptr 1 []],L:=[.box (.agg [.ptr 2 [],.ty 35]),.box (.ty 71),.box (.ty 99)],ret:=.tup [],L':=[.box (.agg [.ptr 2 [],.ty 35]),.box (.ty 71),.box (.ty 99)],R:=Int×GMsg×z4,dflt:=(default,default,default),F:=fun N a b=>z3n N b.1.2.1 b.2.1 b.2.2.1,of:=fun r=>((),(((),r.1,()),r.2.1,r.2.2,())) }
noncomputable def zit:Dat τ:={ D:=D0,tbl:=tblOf [(154,z3l),(98,z7s),(155,z7u),(72,z30),(98,z7v),(105,z66),(98,z7w),(99,z67),(128,z4n),(59,z43),(129,z4f)],lp:=lpsOf [],k0:=3,mu:=[],un:=[] }
theorem zjy:ConOk E C 132 z7x :=
  zk (D:=zit) ⟨d0Ok,eGood,zb ⟨zad,⟨zjt,⟨zjv,⟨z7o,⟨zjw,⟨zgu,⟨zjx,⟨zgv,⟨zc3,⟨zan,⟨zbf,trivial⟩⟩⟩⟩⟩⟩⟩⟩⟩⟩⟩,fun _=>rfl⟩ z7x (fun a b=>(b.1.2.1,b.2.1,b.2.2.1)) none (fun _ _=>rfl) rfl (fun _ _ h=>nomatch h) 1000000 (fn:=Tryz.f132) Tryz.func132 rfl (by kernel_rfl) (by kernel_rfl) rfl (by intro N a b; kernel_rfl)
def z44 (N:Nat) (b0:Int) (b1:z4):Option (GMsg×Int×z4) :=
 ((z7p N b0 (⟨0,(⟨0,0⟩:GAddr),(⟨0,0⟩:GAddr),(⟨0,0⟩:zh),0,[],(⟨0,0,0,(⟨(⟨0,0⟩:zm),0,0,0,[],[],[]⟩:GOp),0,0,[],(⟨0,(Vector.replicate 8 (default:Int)),(Vector.replicate 8 (default:Int)),(Vector.replicate 8 (default:Int))⟩:z7),0,(Vector.replicate 8 (default:Int)),0,(⟨0,0,0,[]⟩:GPart),0,0,0⟩:z6),0,(Vector.replicate 8 (default:Int)),0,0,[],(⟨0,(Vector.replicate 8 (default:Int)),(Vector.replicate 8 (default:Int)),(Vector.replicate 8 (default:Int))⟩:z7),(⟨0,0,0,[]⟩:GPart)⟩:GMsg) b1).bind fun r1 =>
 (bif ((r1.1==0)&&((decide (r1.2.1.Kind < 1)) || (decide (15 < r1.2.1.Kind)))) then
 ((z23 N 40 r1.2.1 r1.2.2).bind fun r2 =>
 ((z3n N r2.1 r2.2.1 r2.2.2).bind fun r3 =>
 (some (r3.2.1,r3.1,r3.2.2))))
 else
 ((z23 N r1.1 r1.2.1 r1.2.2).bind fun r4 =>
 ((z3n N r4.1 r4.2.1 r4.2.2).bind fun r5 =>
 (some (r5.2.1,r5.1,r5.2.2))))))
def z5h:Con τ:={ args:=[.ptr 0 []],L:=[.box (.agg [.ptr 1 [],.ty 35]),.box (.ty 99)],ret:=.ty 71,L':=[.box (.agg [.ptr 1 [],.ty 35]),.box (.ty 99)],R:=GMsg×Int×z4,dflt:=(default,default,default),F:=fun N a b=>z44 N b.1.2.1 b.2.1,of:=fun r=>(r.1,(((),r.2.1,()),r.2.2,())) }
noncomputable def zef:Dat τ:={ D:=D0,tbl:=tblOf [(99,z63),(99,z64),(132,z7x)],lp:=lpsOf [],k0:=2,mu:=[],un:=[] }
theorem zfc:ConOk E C 82 z5h :=
  zk (D:=zef) ⟨d0Ok,eGood,zb ⟨zgn,⟨zgo,⟨zjy,trivial⟩⟩⟩,fun _=>rfl⟩ z5h (fun a b=>(a,b.1.2.1,b.2.1)) none (fun _ _=>rfl) rfl (fun _ _ h=>nomatch h) 1000000 (fn:=Tryz.f82) Tryz.func82 rfl (by kernel_rfl) (by kernel_rfl) rfl (by intro N a b; kernel_rfl)
def zz (N:Nat) (b:List (Int)):Option (GMsg×Int) :=
 ((zea N b).bind fun r1 =>
 (bif (!(r1.2.2==0)) then
 (some ((⟨0,(⟨0,0⟩:GAddr),(⟨0,0⟩:GAddr),(⟨0,0⟩:zh),0,[],(⟨0,0,0,(⟨(⟨0,0⟩:zm),0,0,0,[],[],[]⟩:GOp),0,0,[],(⟨0,(Vector.replicate 8 (default:Int)),(Vector.replicate 8 (default:Int)),(Vector.replicate 8 (default:Int))⟩:z7),0,(Vector.replicate 8 (default:Int)),0,(⟨0,0,0,[]⟩:GPart),0,0,0⟩:z6),0,(Vector.replicate 8 (default:Int)),0,0,[],(⟨0,(Vector.replicate 8 (default:Int)),(Vector.replicate 8 (default:Int)),(Vector.replicate 8 (default:Int))⟩:z7),(⟨0,0,0,[]⟩:GPart)⟩:GMsg),r1.2.2))
 else
 (bif (decide (r1.2.1 < ((b).length:Int))) then
 (some ((⟨0,(⟨0,0⟩:GAddr),(⟨0,0⟩:GAddr),(⟨0,0⟩:zh),0,[],(⟨0,0,0,(⟨(⟨0,0⟩:zm),0,0,0,[],[],[]⟩:GOp),0,0,[],(⟨0,(Vector.replicate 8 (default:Int)),(Vector.replicate 8 (default:Int)),(Vector.replicate 8 (default:Int))⟩:z7),0,(Vector.replicate 8 (default:Int)),0,(⟨0,0,0,[]⟩:GPart),0,0,0⟩:z6),0,(Vector.replicate 8 (default:Int)),0,0,[],(⟨0,(Vector.replicate 8 (default:Int)),(Vector.replicate 8 (default:Int)),(Vector.replicate 8 (default:Int))⟩:z7),(⟨0,0,0,[]⟩:GPart)⟩:GMsg),13))
 else
 ((z9p N r1.1).bind fun r2 =>
 ((z44 N 0 r2).bind fun r3 =>
 ((z51 N r3.2.2).bind fun r4 =>
 ((z1d N r4.1 r3.2.1 r4.2).bind fun r5 =>
 (bif (r5.1==0) then
 ((z96 N r3.1).bind fun r6 =>
 (bif (!(r6==0)) then
 (some ((⟨0,(⟨0,0⟩:GAddr),(⟨0,0⟩:GAddr),(⟨0,0⟩:zh),0,[],(⟨0,0,0,(⟨(⟨0,0⟩:zm),0,0,0,[],[],[]⟩:GOp),0,0,[],(⟨0,(Vector.replicate 8 (default:Int)),(Vector.replicate 8 (default:Int)),(Vector.replicate 8 (default:Int))⟩:z7),0,(Vector.replicate 8 (default:Int)),0,(⟨0,0,0,[]⟩:GPart),0,0,0⟩:z6),0,(Vector.replicate 8 (default:Int)),0,0,[],(⟨0,(Vector.replicate 8 (default:Int)),(Vector.replicate 8 (default:Int)),(Vector.replicate 8 (default:Int))⟩:z7),(⟨0,0,0,[]⟩:GPart)⟩:GMsg),r6))
 else
 (some (r3.1,0))))
 else
 (bif (!(r5.1==0)) then
 (some ((⟨0,(⟨0,0⟩:GAddr),(⟨0,0⟩:GAddr),(⟨0,0⟩:zh),0,[],(⟨0,0,0,(⟨(⟨0,0⟩:zm),0,0,0,[],[],[]⟩:GOp),0,0,[],(⟨0,(Vector.replicate 8 (default:Int)),(Vector.replicate 8 (default:Int)),(Vector.replicate 8 (default:Int))⟩:z7),0,(Vector.replicate 8 (default:Int)),0,(⟨0,0,0,[]⟩:GPart),0,0,0⟩:z6),0,(Vector.replicate 8 (default:Int)),0,0,[],(⟨0,(Vector.replicate 8 (default:Int)),(Vector.replicate 8 (default:Int)),(Vector.replicate 8 (default:Int))⟩:z7),(⟨0,0,0,[]⟩:GPart)⟩:GMsg),r5.1))
 else
 (some (r3.1,0)))))))))))
def zb2:Con τ:={ args:=[.ty 31],L:=[],ret:=.tup [.ty 71,.ty 35],L':=[],R:=GMsg×Int,dflt:=(default,default),F:=fun N a b=>zz N a.1,of:=fun r=>((r.1,r.2,()),()) }
noncomputable def zon:Dat τ:={ D:=D0,tbl:=tblOf [(81,zf5),(17,za1),(82,z5h),(74,z6h),(73,z22),(67,z9l)],lp:=lpsOf [],k0:=0,mu:=[],un:=[] }
theorem zq2:ConOk E C 33 zb2 :=
  zk (D:=zon) ⟨d0Ok,eGood,zb ⟨zwh,⟨zls,⟨zfc,⟨zdj,⟨z3a,⟨zka,trivial⟩⟩⟩⟩⟩⟩,fun _=>rfl⟩ zb2 (fun a b=>(a.1,a.2.1)) none (fun _ _=>rfl) rfl (fun _ _ h=>nomatch h) 1000000 (fn:=Tryz.f33) Tryz.func33 rfl (by kernel_rfl) (by kernel_rfl) rfl (by intro N a b; kernel_rfl)
def za3 (N:Nat) (x:z6) (m:GMsg) (b:List (Int)):Option (Bool) :=
 ((zmr N).bind fun r1 =>
 (bif (!r1) then
 (some false)
 else
 ((z2t N x).bind fun r2 =>
 (bif (r2.2==0) then
 ((z20 N r2.1).bind fun r3 =>
 ((bif (!(!(r3.2==0))) then z1g N x r3.1 else some default).bind fun r4 =>
 (bif ((!(r3.2==0)) || (!r4)) then
 (some false)
 else
 ((z10 N m).bind fun r5 =>
 (bif (r5.2==0) then
 ((zz N r5.1).bind fun r6 =>
 ((bif (!(!(r6.2==0))) then z76 N m r6.1 else some default).bind fun r7 =>
 (bif ((!(r6.2==0)) || (!r7)) then
 (some false)
 else
 ((z20 N b).bind fun r8 =>
 (bif (r8.2==0) then
 ((z2t N r8.1).bind fun r9 =>
 ((bif ((!((!(r9.2==0))&&(decide (((b).length:Int)≤1048576))))&&(r9.2==0)) then z1a N r9.1 b else some default).bind fun r10 =>
 (bif (((!(r9.2==0))&&(decide (((b).length:Int)≤1048576))) || ((r9.2==0)&&(!r10))) then
 (some false)
 else
 ((zz N b).bind fun r11 =>
 (bif (r11.2==0) then
 ((z10 N r11.1).bind fun r12 =>
 ((bif (!(!(r12.2==0))) then z1a N r12.1 b else some default).bind fun r13 =>
 (bif ((!(r12.2==0)) || (!r13)) then
 (some false)
 else
 (some true))))
 else
 (some true))))))
 else
 ((zz N b).bind fun r14 =>
 (bif (r14.2==0) then
 ((z10 N r14.1).bind fun r15 =>
 ((bif (!(!(r15.2==0))) then z1a N r15.1 b else some default).bind fun r16 =>
 (bif ((!(r15.2==0)) || (!r16)) then
 (some false)
 else
 (some true))))
 else
 (some true))))))))
 else
 ((z8k N m).bind fun r17 =>
 (bif (r17&&(!(r5.2==3))) then
 (some false)
 else
 ((z20 N b).bind fun r18 =>
 (bif (r18.2==0) then
 ((z2t N r18.1).bind fun r19 =>
 ((bif ((!((!(r19.2==0))&&(decide (((b).length:Int)≤1048576))))&&(r19.2==0)) then z1a N r19.1 b else some default).bind fun r20 =>
 (bif (((!(r19.2==0))&&(decide (((b).length:Int)≤1048576))) || ((r19.2==0)&&(!r20))) then
 (some false)
 else
 ((zz N b).bind fun r21 =>
 (bif (r21.2==0) then
 ((z10 N r21.1).bind fun r22 =>
 ((bif (!(!(r22.2==0))) then z1a N r22.1 b else some default).bind fun r23 =>
 (bif ((!(r22.2==0)) || (!r23)) then
 (some false)
 else
 (some true))))
 else
 (some true))))))
 else
 ((zz N b).bind fun r24 =>
 (bif (r24.2==0) then
 ((z10 N r24.1).bind fun r25 =>
 ((bif (!(!(r25.2==0))) then z1a N r25.1 b else some default).bind fun r26 =>
 (bif ((!(r25.2==0)) || (!r26)) then
 (some false)
 else
 (some true))))
 else
 (some true))))))))))))
 else
 ((z1r N x).bind fun r27 =>
 (bif (r27&&(!(r2.2==3))) then
 (some false)
 else
 ((z10 N m).bind fun r28 =>
 (bif (r28.2==0) then
 ((zz N r28.1).bind fun r29 =>
 ((bif (!(!(r29.2==0))) then z76 N m r29.1 else some default).bind fun r30 =>
 (bif ((!(r29.2==0)) || (!r30)) then
 (some false)
 else
 ((z20 N b).bind fun r31 =>
 (bif (r31.2==0) then
 ((z2t N r31.1).bind fun r32 =>
 ((bif ((!((!(r32.2==0))&&(decide (((b).length:Int)≤1048576))))&&(r32.2==0)) then z1a N r32.1 b else some default).bind fun r33 =>
 (bif (((!(r32.2==0))&&(decide (((b).length:Int)≤1048576))) || ((r32.2==0)&&(!r33))) then
 (some false)
 else
 ((zz N b).bind fun r34 =>
 (bif (r34.2==0) then
 ((z10 N r34.1).bind fun r35 =>
 ((bif (!(!(r35.2==0))) then z1a N r35.1 b else some default).bind fun r36 =>
 (bif ((!(r35.2==0)) || (!r36)) then
 (some false)
 else
 (some true))))
 else
 (some true))))))
 else
 ((zz N b).bind fun r37 =>
 (bif (r37.2==0) then
 ((z10 N r37.1).bind fun r38 =>
 ((bif (!(!(r38.2==0))) then z1a N r38.1 b else some default).bind fun r39 =>
 (bif ((!(r38.2==0)) || (!r39)) then
 (some false)
 else
 (some true))))
 else
 (some true))))))))
 else
 ((z8k N m).bind fun r40 =>
 (bif (r40&&(!(r28.2==3))) then
 (some false)
 else
 ((z20 N b).bind fun r41 =>
 (bif (r41.2==0) then
 ((z2t N r41.1).bind fun r42 =>
 ((bif ((!((!(r42.2==0))&&(decide (((b).length:Int)≤1048576))))&&(r42.2==0)) then z1a N r42.1 b else some default).bind fun r43 =>
 (bif (((!(r42.2==0))&&(decide (((b).length:Int)≤1048576))) || ((r42.2==0)&&(!r43))) then
 (some false)
 else
 ((zz N b).bind fun r44 =>
 (bif (r44.2==0) then
 ((z10 N r44.1).bind fun r45 =>
 ((bif (!(!(r45.2==0))) then z1a N r45.1 b else some default).bind fun r46 =>
 (bif ((!(r45.2==0)) || (!r46)) then
 (some false)
 else
 (some true))))
 else
 (some true))))))
 else
 ((zz N b).bind fun r47 =>
 (bif (r47.2==0) then
 ((z10 N r47.1).bind fun r48 =>
 ((bif (!(!(r48.2==0))) then z1a N r48.1 b else some default).bind fun r49 =>
 (bif ((!(r48.2==0)) || (!r49)) then
 (some false)
 else
 (some true))))
 else
 (some true)))))))))))))))
def zfd:Con τ:={ args:=[.ty 64,.ty 71,.ty 31],L:=[],ret:=.ty 4,L':=[],R:=Bool,dflt:=default,F:=fun N a b=>za3 N a.1 a.2.1 a.2.2.1,of:=fun r=>(r,()) }
noncomputable def zoo:Dat τ:={ D:=D0,tbl:=tblOf [(8,zil),(26,zc9),(30,z8t),(31,z4w),(28,zd2),(33,zb2),(34,zau),(15,zdg),(35,zer),(32,z8b)],lp:=lpsOf [],k0:=0,mu:=[],un:=[] }
theorem zq3:ConOk E C 5 zfd :=
  zk (D:=zoo) ⟨d0Ok,eGood,zb ⟨zy6,⟨zo3,⟨zhe,⟨za9,⟨zsu,⟨zq2,⟨zmo,⟨zq1,⟨zwa,⟨zdv,trivial⟩⟩⟩⟩⟩⟩⟩⟩⟩⟩,fun _=>rfl⟩ zfd (fun a b=>a) none (fun _ _=>rfl) rfl (fun _ _ h=>nomatch h) 1000000 (fn:=Tryz.f5) Tryz.func5 rfl (by kernel_rfl) (by kernel_rfl) rfl (by intro N a b; kernel_rfl)
end Go.Proofs.YteinehkdjkobnaaGreat
