/-
The types of this seat's program,as the evaluator asks them,and how their data are told. Written by wip/tools/gen2.py.
-/
import Derived.Test.YtddpmkmgbdedlaaGreatProg
import Derived.Test.YtddpmkmgbdedlaaGreatqTvR
import Derived.KernelRfl
set_option linter.unusedVariables false
set_option linter.unusedSimpArgs false
set_option maxHeartbeats 8000000
set_option maxRecDepth 100000
namespace Go.Proofs.YtddpmkmgbdedlaaGreat
open Go Go.Ev
def fd (n : String) (t o b : Nat) : Field := ⟨n, t, o, false, "", "", b⟩
def wi:Value:=.int .i64 0
def wn:Value:=.slice none 0 0
def wz:Value:=.string ⟨#[]⟩
theorem cA {a a' b b':List AV}(h:a=a')(h':b=b'):a++b=a'++b':=h▸h'▸rfl
theorem bN {a b:List AV}{m n:Nat}(h:a.length=m)(h':b.length=n):(a++b).length=m+n:=by rw[List.length_append,h,h']
theorem GH:true=true:=rfl
theorem aO {a b:Bool}(h:a=true)(h':b=true):(a&&b)=true:=by rw[h,h'];rfl
theorem bM {a b:List AV}(h:a.all AV.one=true)(h':b.all AV.one=true):(a++b).all AV.one=true:=by rw[List.all_append,h,h'];rfl
def ti2:TI:=⟨.int .i64,1,8,[.v wi]⟩
def ti3:TI:=⟨.int .i64,1,8,[.v wi]⟩
def ti4:TI:=⟨.bool,1,1,[.v (.bool false)]⟩
def ti5:TI:=⟨.int .u8,1,1,[.v (.int .u8 0)]⟩
def ti9:TI:=⟨.string,1,16,[.v wz]⟩
def aGJ:TI:=⟨.int .u64,1,8,[.v (.int .u64 0)]⟩
def aGK:TI:=⟨.int .i32,1,4,[.v (.int .i32 0)]⟩
def aC7 : TI := ⟨.struct #[fd "Group" 3 0 0, fd "Replica" 3 1 8], 2, 16, [.v wi, .v wi]⟩
def aGL:TI:=aC7
def aC8 : TI := ⟨.struct #[fd "Round" 2 0 0, fd "Replica" 3 1 8], 2, 16, [.v wi, .v wi]⟩
def aGM:TI:=aC8
def aGN:TI:=⟨.slice 155,1,24,[.v wn]⟩
def aC9 : TI := ⟨.struct #[fd "Time" 2 0 0, fd "Site" 3 1 8], 2, 16, [.v wi, .v wi]⟩
def aGO:TI:=aC9
def aDa : TI := ⟨.struct #[fd "Stamp" 28 0 0, fd "Kind" 3 2 16, fd "Node" 2 3 24, fd "Parent" 2 4 32, fd "Name" 9 5 40, fd "Key" 9 6 56, fd "Value" 9 7 72], 8, 88, [.v wi, .v wi, .v wi, .v wi, .v wi, .v wz, .v wz, .v wz]⟩
def aGP:TI:=aDa
def aGQ:TI:=⟨.slice 30,1,24,[.v wn]⟩
def aGR:TI:=⟨.array 8 3,8,64,[.v wi,.v wi,.v wi,.v wi,.v wi,.v wi,.v wi,.v wi]⟩
def aGS:TI:=⟨.array 8 2,8,64,[.v wi,.v wi,.v wi,.v wi,.v wi,.v wi,.v wi,.v wi]⟩
def aGT:TI:=⟨.array 8 2,8,64,[.v wi,.v wi,.v wi,.v wi,.v wi,.v wi,.v wi,.v wi]⟩
def aDb : TI := ⟨.struct #[fd "Number" 2 0 0, fd "States" 32 1 8, fd "Seals" 34 9 72, fd "Sponsor" 32 17 136], 25, 200, [.v wi, .v wi, .v wi, .v wi, .v wi, .v wi, .v wi, .v wi, .v wi, .v wi, .v wi, .v wi, .v wi, .v wi, .v wi, .v wi, .v wi, .v wi, .v wi, .v wi, .v wi, .v wi, .v wi, .v wi, .v wi]⟩
def aGU:TI:=aDb
def aGV:TI:=⟨.slice 5,1,24,[.v wn]⟩
def aDc : TI := ⟨.struct #[fd "Snap" 2 0 0, fd "Index" 3 1 8, fd "Many" 3 2 16, fd "Data" 37 3 24], 4, 48, [.v wi, .v wi, .v wi, .v wn]⟩
def aGW:TI:=aDc
def aDd : TI := ⟨.struct #[fd "Kind" 3 0 0, fd "Session" 2 1 8, fd "Request" 2 2 16, fd "Op" 30 3 24, fd "Origin" 3 11 112, fd "Seq" 2 12 120, fd "Ops" 31 13 128, fd "Epoch" 36 14 152, fd "From" 3 39 352, fd "Vector" 34 40 360, fd "Clock" 2 48 424, fd "Part" 39 49 432, fd "Site" 3 53 480, fd "Sponsor" 3 54 488, fd "Length" 2 55 496], 56, 504, [.v wi, .v wi, .v wi, .v wi, .v wi, .v wi, .v wi, .v wi, .v wz, .v wz, .v wz, .v wi, .v wi, .v wn, .v wi, .v wi, .v wi, .v wi, .v wi, .v wi, .v wi, .v wi, .v wi, .v wi, .v wi, .v wi, .v wi, .v wi, .v wi, .v wi, .v wi, .v wi, .v wi, .v wi, .v wi, .v wi, .v wi, .v wi, .v wi, .v wi, .v wi, .v wi, .v wi, .v wi, .v wi, .v wi, .v wi, .v wi, .v wi, .v wi, .v wi, .v wi, .v wn, .v wi, .v wi, .v wi]⟩
def aGX:TI:=aDd
def aDe : TI := ⟨.struct #[fd "Kind" 3 0 0, fd "From" 23 1 8, fd "To" 23 3 24, fd "Ballot" 25 5 40, fd "Slot" 2 7 56, fd "List" 26 8 64, fd "Entry" 41 9 88, fd "Number" 2 65 592, fd "Vector" 34 66 600, fd "Clock" 2 74 664, fd "Origin" 3 75 672, fd "Ops" 31 76 680, fd "Epoch" 36 77 704, fd "Part" 39 102 904], 106, 952, [.v wi, .v wi, .v wi, .v wi, .v wi, .v wi, .v wi, .v wi, .v wn, .v wi, .v wi, .v wi, .v wi, .v wi, .v wi, .v wi, .v wi, .v wz, .v wz, .v wz, .v wi, .v wi, .v wn, .v wi, .v wi, .v wi, .v wi, .v wi, .v wi, .v wi, .v wi, .v wi, .v wi, .v wi, .v wi, .v wi, .v wi, .v wi, .v wi, .v wi, .v wi, .v wi, .v wi, .v wi, .v wi, .v wi, .v wi, .v wi, .v wi, .v wi, .v wi, .v wi, .v wi, .v wi, .v wi, .v wi, .v wi, .v wi, .v wi, .v wi, .v wi, .v wn, .v wi, .v wi, .v wi, .v wi, .v wi, .v wi, .v wi, .v wi, .v wi, .v wi, .v wi, .v wi, .v wi, .v wi, .v wn, .v wi, .v wi, .v wi, .v wi, .v wi, .v wi, .v wi, .v wi, .v wi, .v wi, .v wi, .v wi, .v wi, .v wi, .v wi, .v wi, .v wi, .v wi, .v wi, .v wi, .v wi, .v wi, .v wi, .v wi, .v wi, .v wi, .v wi, .v wi, .v wn]⟩
def aGY:TI:=aDe
def aGZ:TI:=⟨.int .u16,1,2,[.v (.int .u16 0)]⟩
def aG0:TI:=⟨.pointer 82,1,8,[.v (.pointer none)]⟩
def aG1:TI:=⟨.int .i64,1,8,[.v wi]⟩
def aG2:TI:=⟨.slice 43,1,24,[.v wn]⟩
def aG3:TI:=⟨.slice 2,1,24,[.v wn]⟩
def aDf : TI := ⟨.struct #[fd "Number" 2 0 0, fd "From" 23 1 8, fd "To" 23 3 24, fd "Data" 37 5 40], 6, 64, [.v wi, .v wi, .v wi, .v wi, .v wi, .v wn]⟩
def aG4:TI:=aDf
def aDg:TI:=⟨.slice 72,1,24,[.v wn]⟩
def aG5:TI:=⟨.slice 23,1,24,[.v wn]⟩
def aDh : TI := ⟨.struct #[fd "Kind" 3 0 0, fd "Msgs" 59 1 8, fd "Number" 2 2 32, fd "Place" 3 3 40, fd "With" 5 4 48, fd "Addrs" 70 5 56, fd "Stop" 3 6 80], 7, 88, [.v wi, .v wn, .v wi, .v wi, .v (.int .u8 0), .v wn, .v wi]⟩
def aG6:TI:=aDh
def aG7:TI:=⟨.slice 65,1,24,[.v wn]⟩
def aDi : TI := ⟨.struct #[fd "L" 75 0 0, fd "Last" 2 1 24], 2, 32, [.v wn, .v wi]⟩
def aG8:TI:=aDi
def aDj : TI := ⟨.struct #[⟨ "wait", 75, 0, false, "", "orchard/net", 0⟩, ⟨ "last", 2, 1, false, "", "orchard/net", 24⟩], 2, 32, [.v wn, .v wi]⟩
def aG9:TI:=aDj
def aDk : TI := ⟨.struct #[⟨ "queue", 80, 0, true, "", "orchard/net", 0⟩, ⟨ "made", 4, 2, false, "", "orchard/net", 32⟩], 3, 40, [.v wn, .v wi, .v (.bool false)]⟩
def aHa:TI:=aDk
def aBK:TI:=⟨.pointer 166,1,8,[.v (.pointer none)]⟩
def aBL : TI := ⟨.struct #[⟨ "Writer", 112, 0, true, "", "", 0⟩, ⟨ "e", 48, 1, false, "", "orchard/record", 8⟩], 2, 16, [.v (.pointer none), .v wi]⟩
def aBM:TI:=⟨.int .u32,1,4,[.v (.int .u32 0)]⟩
def aBN:TI:=⟨.int .u64,1,8,[.v (.int .u64 0)]⟩
def aBO:TI:=⟨.pointer 186,1,8,[.v (.pointer none)]⟩
def aBP : TI := ⟨.struct #[⟨ "Reader", 146, 0, true, "", "", 0⟩, ⟨ "e", 48, 1, false, "", "orchard/record", 8⟩], 2, 16, [.v (.pointer none), .v wi]⟩
def rf : TI := ⟨.struct #[fd "Slot" 2 0 0, fd "Ballot" 25 1 8, fd "Entry" 41 3 24], 59, 528, [.v wi, .v wi, .v wi, .v wi, .v wi, .v wi, .v wi, .v wi, .v wi, .v wi, .v wi, .v wz, .v wz, .v wz, .v wi, .v wi, .v wn, .v wi, .v wi, .v wi, .v wi, .v wi, .v wi, .v wi, .v wi, .v wi, .v wi, .v wi, .v wi, .v wi, .v wi, .v wi, .v wi, .v wi, .v wi, .v wi, .v wi, .v wi, .v wi, .v wi, .v wi, .v wi, .v wi, .v wi, .v wi, .v wi, .v wi, .v wi, .v wi, .v wi, .v wi, .v wi, .v wi, .v wi, .v wi, .v wn, .v wi, .v wi, .v wi]⟩
def aBQ:TI:=rf
def dm : TI := ⟨.struct #[⟨ "made", 4, 0, false, "", "orchard/wire", 0⟩, ⟨ "b", 37, 1, false, "", "orchard/wire", 8⟩], 2, 32, [.v (.bool false), .v wn]⟩
def aBR:TI:=dm
def aBS:TI:=dm
def aBT:TI:=⟨.pointer 3,1,8,[.v (.pointer none)]⟩
def rh : TI := ⟨.struct #[fd "B" 37 0 0, fd "At" 3 1 24, fd "E" 48 2 32], 3, 40, [.v wn, .v wi, .v wi]⟩
def aBU:TI:=rh
def aBV:TI:=⟨.slice 3,1,24,[.v wn]⟩
def aBW:TI:=⟨.slice 37,1,24,[.v wn]⟩
def aBX:TI:=⟨.int .u64,1,8,[.v (.int .u64 0)]⟩
def aBY:TI:=⟨.slice 188,1,24,[.v wn]⟩
def aBZ:TI:=⟨.pointer 2,1,8,[.v (.pointer none)]⟩
def aB0:TI:=⟨.slice 209,1,24,[.v wn]⟩
def aB1:TI:=⟨.slice 9,1,24,[.v wn]⟩
def tyT:Nat→Option TI
 |2=>some ti2
 |3=>some ti3
 |4=>some ti4
 |5=>some ti5
 |9=>some ti9
 |12=>some aGJ
 |21=>some aGK
 |22=>some aC7
 |23=>some aGL
 |24=>some aC8
 |25=>some aGM
 |26=>some aGN
 |27=>some aC9
 |28=>some aGO
 |29=>some aDa
 |30=>some aGP
 |31=>some aGQ
 |32=>some aGR
 |33=>some aGS
 |34=>some aGT
 |35=>some aDb
 |36=>some aGU
 |37=>some aGV
 |38=>some aDc
 |39=>some aGW
 |40=>some aDd
 |41=>some aGX
 |42=>some aDe
 |43=>some aGY
 |44=>some aGZ
 |45=>some aG0
 |48=>some aG1
 |59=>some aG2
 |60=>some aG3
 |64=>some aDf
 |65=>some aG4
 |69=>some aDg
 |70=>some aG5
 |71=>some aDh
 |72=>some aG6
 |75=>some aG7
 |76=>some aDi
 |77=>some aG8
 |79=>some aDj
 |80=>some aG9
 |81=>some aDk
 |82=>some aHa
 |112=>some aBK
 |115=>some aBL
 |138=>some aBM
 |140=>some aBN
 |146=>some aBO
 |149=>some aBP
 |154=>some rf
 |155=>some aBQ
 |165=>some dm
 |166=>some aBR
 |186=>some aBS
 |188=>some aBT
 |192=>some rh
 |193=>some aBU
 |194=>some aBV
 |201=>some aBW
 |203=>some aBX
 |206=>some aBY
 |209=>some aBZ
 |226=>some aB0
 |229=>some aB1
 |_=>none
def eqT:Nat→Option (List Kd)
 |22=>some [.i,.i]
 |23=>some [.i,.i]
 |24=>some [.i,.i]
 |25=>some [.i,.i]
 |27=>some [.i,.i]
 |28=>some [.i,.i]
 |29=>some [.i,.i,.i,.i,.i,.s,.s,.s]
 |30=>some [.i,.i,.i,.i,.i,.s,.s,.s]
 |32=>some [.i,.i,.i,.i,.i,.i,.i,.i]
 |33=>some [.i,.i,.i,.i,.i,.i,.i,.i]
 |34=>some [.i,.i,.i,.i,.i,.i,.i,.i]
 |35=>some [.i,.i,.i,.i,.i,.i,.i,.i,.i,.i,.i,.i,.i,.i,.i,.i,.i,.i,.i,.i,.i,.i,.i,.i,.i]
 |36=>some [.i,.i,.i,.i,.i,.i,.i,.i,.i,.i,.i,.i,.i,.i,.i,.i,.i,.i,.i,.i,.i,.i,.i,.i,.i]
 |_=>none
noncomputable def E:Env:=⟨Tryz.prog,tyT,eqT,none⟩
theorem tok2:gP E.P 2 ti2:=eM (z:=(.int .i64 0)) (by kernel_rfl) rfl (by kernel_rfl) (by kernel_rfl)
theorem tok3:gP E.P 3 ti3:=eM (z:=(.int .i64 0)) (by kernel_rfl) rfl (by kernel_rfl) (by kernel_rfl)
theorem tok4:gP E.P 4 ti4:=eM (z:=(.bool false)) (by kernel_rfl) rfl (by kernel_rfl) (by kernel_rfl)
theorem tok5:gP E.P 5 ti5:=eM (z:=(.int .u8 0)) (by kernel_rfl) rfl (by kernel_rfl) (by kernel_rfl)
theorem tok9:gP E.P 9 ti9:=eM (z:=(.string ⟨#[]⟩)) (by kernel_rfl) rfl (by kernel_rfl) (by kernel_rfl)
theorem aJA:gP E.P 12 aGJ:=eM (z:=(.int .u64 0)) (by kernel_rfl) rfl (by kernel_rfl) (by kernel_rfl)
theorem aJB:gP E.P 21 aGK:=eM (z:=(.int .i32 0)) (by kernel_rfl) rfl (by kernel_rfl) (by kernel_rfl)
theorem aJC:gP E.P 22 aC7:=eM (z:=(.agg #[wi,wi])) (by kernel_rfl) rfl (by kernel_rfl) (by kernel_rfl)
theorem aED:gP E.P 23 aGL:=eM (z:=(.agg #[wi,wi])) (by kernel_rfl) rfl (by kernel_rfl) (by kernel_rfl)
theorem aJD:gP E.P 24 aC8:=eM (z:=(.agg #[wi,wi])) (by kernel_rfl) rfl (by kernel_rfl) (by kernel_rfl)
theorem aEE:gP E.P 25 aGM:=eM (z:=(.agg #[wi,wi])) (by kernel_rfl) rfl (by kernel_rfl) (by kernel_rfl)
theorem aEF:gP E.P 26 aGN:=eM (z:=(.slice none 0 0)) (by kernel_rfl) rfl (by kernel_rfl) (by kernel_rfl)
theorem aJE:gP E.P 27 aC9:=eM (z:=(.agg #[wi,wi])) (by kernel_rfl) rfl (by kernel_rfl) (by kernel_rfl)
theorem aEG:gP E.P 28 aGO:=eM (z:=(.agg #[wi,wi])) (by kernel_rfl) rfl (by kernel_rfl) (by kernel_rfl)
theorem aJF:gP E.P 29 aDa:=eM (z:=(.agg #[wi,wi,wi,wi,wi,wz,wz,wz])) (by kernel_rfl) rfl (by kernel_rfl) (by kernel_rfl)
theorem aEH:gP E.P 30 aGP:=eM (z:=(.agg #[wi,wi,wi,wi,wi,wz,wz,wz])) (by kernel_rfl) rfl (by kernel_rfl) (by kernel_rfl)
theorem aEI:gP E.P 31 aGQ:=eM (z:=(.slice none 0 0)) (by kernel_rfl) rfl (by kernel_rfl) (by kernel_rfl)
theorem aEJ:gP E.P 32 aGR:=eM (z:=(.agg #[wi,wi,wi,wi,wi,wi,wi,wi])) (by kernel_rfl) rfl (by kernel_rfl) (by kernel_rfl)
theorem aJG:gP E.P 33 aGS:=eM (z:=(.agg #[wi,wi,wi,wi,wi,wi,wi,wi])) (by kernel_rfl) rfl (by kernel_rfl) (by kernel_rfl)
theorem aEK:gP E.P 34 aGT:=eM (z:=(.agg #[wi,wi,wi,wi,wi,wi,wi,wi])) (by kernel_rfl) rfl (by kernel_rfl) (by kernel_rfl)
theorem aJH:gP E.P 35 aDb:=eM (z:=(.agg #[wi,wi,wi,wi,wi,wi,wi,wi,wi,wi,wi,wi,wi,wi,wi,wi,wi,wi,wi,wi,wi,wi,wi,wi,wi])) (by kernel_rfl) rfl (by kernel_rfl) (by kernel_rfl)
theorem aEL:gP E.P 36 aGU:=eM (z:=(.agg #[wi,wi,wi,wi,wi,wi,wi,wi,wi,wi,wi,wi,wi,wi,wi,wi,wi,wi,wi,wi,wi,wi,wi,wi,wi])) (by kernel_rfl) rfl (by kernel_rfl) (by kernel_rfl)
theorem aEM:gP E.P 37 aGV:=eM (z:=(.slice none 0 0)) (by kernel_rfl) rfl (by kernel_rfl) (by kernel_rfl)
theorem aJI:gP E.P 38 aDc:=eM (z:=(.agg #[wi,wi,wi,wn])) (by kernel_rfl) rfl (by kernel_rfl) (by kernel_rfl)
theorem aEN:gP E.P 39 aGW:=eM (z:=(.agg #[wi,wi,wi,wn])) (by kernel_rfl) rfl (by kernel_rfl) (by kernel_rfl)
theorem aJJ:gP E.P 40 aDd:=eM (z:=(.agg #[wi,wi,wi,wi,wi,wi,wi,wi,wz,wz,wz,wi,wi,wn,wi,wi,wi,wi,wi,wi,wi,wi,wi,wi,wi,wi,wi,wi,wi,wi,wi,wi,wi,wi,wi,wi,wi,wi,wi,wi,wi,wi,wi,wi,wi,wi,wi,wi,wi,wi,wi,wi,wn,wi,wi,wi])) (by kernel_rfl) rfl (by kernel_rfl) (by kernel_rfl)
theorem aEO:gP E.P 41 aGX:=eM (z:=(.agg #[wi,wi,wi,wi,wi,wi,wi,wi,wz,wz,wz,wi,wi,wn,wi,wi,wi,wi,wi,wi,wi,wi,wi,wi,wi,wi,wi,wi,wi,wi,wi,wi,wi,wi,wi,wi,wi,wi,wi,wi,wi,wi,wi,wi,wi,wi,wi,wi,wi,wi,wi,wi,wn,wi,wi,wi])) (by kernel_rfl) rfl (by kernel_rfl) (by kernel_rfl)
theorem aJK:gP E.P 42 aDe:=eM (z:=(.agg #[wi,wi,wi,wi,wi,wi,wi,wi,wn,wi,wi,wi,wi,wi,wi,wi,wi,wz,wz,wz,wi,wi,wn,wi,wi,wi,wi,wi,wi,wi,wi,wi,wi,wi,wi,wi,wi,wi,wi,wi,wi,wi,wi,wi,wi,wi,wi,wi,wi,wi,wi,wi,wi,wi,wi,wi,wi,wi,wi,wi,wi,wn,wi,wi,wi,wi,wi,wi,wi,wi,wi,wi,wi,wi,wi,wi,wn,wi,wi,wi,wi,wi,wi,wi,wi,wi,wi,wi,wi,wi,wi,wi,wi,wi,wi,wi,wi,wi,wi,wi,wi,wi,wi,wi,wi,wn])) (by kernel_rfl) rfl (by kernel_rfl) (by kernel_rfl)
theorem aEP:gP E.P 43 aGY:=eM (z:=(.agg #[wi,wi,wi,wi,wi,wi,wi,wi,wn,wi,wi,wi,wi,wi,wi,wi,wi,wz,wz,wz,wi,wi,wn,wi,wi,wi,wi,wi,wi,wi,wi,wi,wi,wi,wi,wi,wi,wi,wi,wi,wi,wi,wi,wi,wi,wi,wi,wi,wi,wi,wi,wi,wi,wi,wi,wi,wi,wi,wi,wi,wi,wn,wi,wi,wi,wi,wi,wi,wi,wi,wi,wi,wi,wi,wi,wi,wn,wi,wi,wi,wi,wi,wi,wi,wi,wi,wi,wi,wi,wi,wi,wi,wi,wi,wi,wi,wi,wi,wi,wi,wi,wi,wi,wi,wi,wn])) (by kernel_rfl) rfl (by kernel_rfl) (by kernel_rfl)
theorem aJL:gP E.P 44 aGZ:=eM (z:=(.int .u16 0)) (by kernel_rfl) rfl (by kernel_rfl) (by kernel_rfl)
theorem aJM:gP E.P 45 aG0:=eM (z:=(.pointer none)) (by kernel_rfl) rfl (by kernel_rfl) (by kernel_rfl)
theorem aJN:gP E.P 48 aG1:=eM (z:=(.int .i64 0)) (by kernel_rfl) rfl (by kernel_rfl) (by kernel_rfl)
theorem aEQ:gP E.P 59 aG2:=eM (z:=(.slice none 0 0)) (by kernel_rfl) rfl (by kernel_rfl) (by kernel_rfl)
theorem aJO:gP E.P 60 aG3:=eM (z:=(.slice none 0 0)) (by kernel_rfl) rfl (by kernel_rfl) (by kernel_rfl)
theorem aJP:gP E.P 64 aDf:=eM (z:=(.agg #[wi,wi,wi,wi,wi,wn])) (by kernel_rfl) rfl (by kernel_rfl) (by kernel_rfl)
theorem aJQ:gP E.P 65 aG4:=eM (z:=(.agg #[wi,wi,wi,wi,wi,wn])) (by kernel_rfl) rfl (by kernel_rfl) (by kernel_rfl)
theorem aB3:gP E.P 69 aDg:=eM (z:=(.slice none 0 0)) (by kernel_rfl) rfl (by kernel_rfl) (by kernel_rfl)
theorem aER:gP E.P 70 aG5:=eM (z:=(.slice none 0 0)) (by kernel_rfl) rfl (by kernel_rfl) (by kernel_rfl)
theorem aJR:gP E.P 71 aDh:=eM (z:=(.agg #[wi,wn,wi,wi,(.int .u8 0),wn,wi])) (by kernel_rfl) rfl (by kernel_rfl) (by kernel_rfl)
theorem aES:gP E.P 72 aG6:=eM (z:=(.agg #[wi,wn,wi,wi,(.int .u8 0),wn,wi])) (by kernel_rfl) rfl (by kernel_rfl) (by kernel_rfl)
theorem aJS:gP E.P 75 aG7:=eM (z:=(.slice none 0 0)) (by kernel_rfl) rfl (by kernel_rfl) (by kernel_rfl)
theorem aJT:gP E.P 76 aDi:=eM (z:=(.agg #[wn,wi])) (by kernel_rfl) rfl (by kernel_rfl) (by kernel_rfl)
theorem aJU:gP E.P 77 aG8:=eM (z:=(.agg #[wn,wi])) (by kernel_rfl) rfl (by kernel_rfl) (by kernel_rfl)
theorem aJV:gP E.P 79 aDj:=eM (z:=(.agg #[wn,wi])) (by kernel_rfl) rfl (by kernel_rfl) (by kernel_rfl)
theorem aJW:gP E.P 80 aG9:=eM (z:=(.agg #[wn,wi])) (by kernel_rfl) rfl (by kernel_rfl) (by kernel_rfl)
theorem aJX:gP E.P 81 aDk:=eM (z:=(.agg #[wn,wi,(.bool false)])) (by kernel_rfl) rfl (by kernel_rfl) (by kernel_rfl)
theorem aJY:gP E.P 82 aHa:=eM (z:=(.agg #[wn,wi,(.bool false)])) (by kernel_rfl) rfl (by kernel_rfl) (by kernel_rfl)
theorem aHc:gP E.P 112 aBK:=eM (z:=(.pointer none)) (by kernel_rfl) rfl (by kernel_rfl) (by kernel_rfl)
theorem aHd:gP E.P 115 aBL:=eM (z:=(.agg #[(.pointer none),wi])) (by kernel_rfl) rfl (by kernel_rfl) (by kernel_rfl)
theorem aHe:gP E.P 138 aBM:=eM (z:=(.int .u32 0)) (by kernel_rfl) rfl (by kernel_rfl) (by kernel_rfl)
theorem aHf:gP E.P 140 aBN:=eM (z:=(.int .u64 0)) (by kernel_rfl) rfl (by kernel_rfl) (by kernel_rfl)
theorem aHg:gP E.P 146 aBO:=eM (z:=(.pointer none)) (by kernel_rfl) rfl (by kernel_rfl) (by kernel_rfl)
theorem aHh:gP E.P 149 aBP:=eM (z:=(.agg #[(.pointer none),wi])) (by kernel_rfl) rfl (by kernel_rfl) (by kernel_rfl)
theorem aHi:gP E.P 154 rf:=eM (z:=(.agg #[wi,wi,wi,wi,wi,wi,wi,wi,wi,wi,wi,wz,wz,wz,wi,wi,wn,wi,wi,wi,wi,wi,wi,wi,wi,wi,wi,wi,wi,wi,wi,wi,wi,wi,wi,wi,wi,wi,wi,wi,wi,wi,wi,wi,wi,wi,wi,wi,wi,wi,wi,wi,wi,wi,wi,wn,wi,wi,wi])) (by kernel_rfl) rfl (by kernel_rfl) (by kernel_rfl)
theorem aB2:gP E.P 155 aBQ:=eM (z:=(.agg #[wi,wi,wi,wi,wi,wi,wi,wi,wi,wi,wi,wz,wz,wz,wi,wi,wn,wi,wi,wi,wi,wi,wi,wi,wi,wi,wi,wi,wi,wi,wi,wi,wi,wi,wi,wi,wi,wi,wi,wi,wi,wi,wi,wi,wi,wi,wi,wi,wi,wi,wi,wi,wi,wi,wi,wn,wi,wi,wi])) (by kernel_rfl) rfl (by kernel_rfl) (by kernel_rfl)
theorem aHj:gP E.P 165 dm:=eM (z:=(.agg #[(.bool false),wn])) (by kernel_rfl) rfl (by kernel_rfl) (by kernel_rfl)
theorem aHk:gP E.P 166 aBR:=eM (z:=(.agg #[(.bool false),wn])) (by kernel_rfl) rfl (by kernel_rfl) (by kernel_rfl)
theorem aHl:gP E.P 186 aBS:=eM (z:=(.agg #[(.bool false),wn])) (by kernel_rfl) rfl (by kernel_rfl) (by kernel_rfl)
theorem aHm:gP E.P 188 aBT:=eM (z:=(.pointer none)) (by kernel_rfl) rfl (by kernel_rfl) (by kernel_rfl)
theorem aHn:gP E.P 192 rh:=eM (z:=(.agg #[wn,wi,wi])) (by kernel_rfl) rfl (by kernel_rfl) (by kernel_rfl)
theorem aHo:gP E.P 193 aBU:=eM (z:=(.agg #[wn,wi,wi])) (by kernel_rfl) rfl (by kernel_rfl) (by kernel_rfl)
theorem aHp:gP E.P 194 aBV:=eM (z:=(.slice none 0 0)) (by kernel_rfl) rfl (by kernel_rfl) (by kernel_rfl)
theorem aHq:gP E.P 201 aBW:=eM (z:=(.slice none 0 0)) (by kernel_rfl) rfl (by kernel_rfl) (by kernel_rfl)
theorem aHr:gP E.P 203 aBX:=eM (z:=(.int .u64 0)) (by kernel_rfl) rfl (by kernel_rfl) (by kernel_rfl)
theorem aHs:gP E.P 206 aBY:=eM (z:=(.slice none 0 0)) (by kernel_rfl) rfl (by kernel_rfl) (by kernel_rfl)
theorem aHt:gP E.P 209 aBZ:=eM (z:=(.pointer none)) (by kernel_rfl) rfl (by kernel_rfl) (by kernel_rfl)
theorem aHu:gP E.P 226 aB0:=eM (z:=(.slice none 0 0)) (by kernel_rfl) rfl (by kernel_rfl) (by kernel_rfl)
theorem aHv:gP E.P 229 aB1:=eM (z:=(.slice none 0 0)) (by kernel_rfl) rfl (by kernel_rfl) (by kernel_rfl)
theorem eOk:E.Ok:=by
 intro t i h
 have h':tyT t=some i:=h
 unfold tyT at h'
 split at h'<;>first
  |(cases h';first|exact tok2|exact tok3|exact tok4|exact tok5|exact tok9|exact aJA|exact aJB|exact aJC|exact aED|exact aJD|exact aEE|exact aEF|exact aJE|exact aEG|exact aJF|exact aEH|exact aEI|exact aEJ|exact aJG|exact aEK|exact aJH|exact aEL|exact aEM|exact aJI|exact aEN|exact aJJ|exact aEO|exact aJK|exact aEP|exact aJL|exact aJM|exact aJN|exact aEQ|exact aJO|exact aJP|exact aJQ|exact aB3|exact aER|exact aJR|exact aES|exact aJS|exact aJT|exact aJU|exact aJV|exact aJW|exact aJX|exact aJY|exact aHc|exact aHd|exact aHe|exact aHf|exact aHg|exact aHh|exact aHi|exact aB2|exact aHj|exact aHk|exact aHl|exact aHm|exact aHn|exact aHo|exact aHp|exact aHq|exact aHr|exact aHs|exact aHt|exact aHu|exact aHv)
  |cases h'
theorem eEq:E.fp:=by
 intro t ks h
 have h':eqT t=some ks:=h
 unfold eqT at h'
 split at h'<;>first
  |(cases h';exact⟨by kernel_rfl,by kernel_rfl,by kernel_rfl⟩)
  |cases h'
theorem E6:Go.Ev.Good E:=⟨eOk,eEq,by kernel_rfl⟩
structure bV where
 cR:Int
 aJ:Int
instance:Inhabited bV:=⟨⟨default,default⟩⟩
structure aT where
 Round:Int
 aJ:Int
instance:Inhabited aT:=⟨⟨default,default⟩⟩
structure bB where
 Time:Int
 Site:Int
instance:Inhabited bB:=⟨⟨default,default⟩⟩
structure dP where
 cG:bB
 Kind:Int
 Node:Int
 cY:Int
 Name:List UInt8
 Key:List UInt8
 Value:List UInt8
instance:Inhabited dP:=⟨⟨default,default,default,default,default,default,default⟩⟩
structure aD where
 Number:Int
 cB:Vector (Int) 8
 iD:Vector (Int) 8
 aV:Vector (Int) 8
instance:Inhabited aD:=⟨⟨default,default,default,default⟩⟩
structure aK where
 Qz:Int
 Index:Int
 Hq:Int
 Data:List (Int)
instance:Inhabited aK:=⟨⟨default,default,default,default⟩⟩
structure aB where
 Kind:Int
 cE:Int
 Request:Int
 Op:dP
 Origin:Int
 Seq:Int
 fP:List (dP)
 aY:aD
 aS:Int
 aH:Vector (Int) 8
 bH:Int
 Part:aK
 Site:Int
 aV:Int
 Length:Int
instance:Inhabited aB:=⟨⟨default,default,default,default,default,default,default,default,default,default,default,default,default,default,default⟩⟩
structure aL where
 Slot:Int
 aG:aT
 Entry:aB
instance:Inhabited aL:=⟨⟨default,default,default⟩⟩
structure aN where
 Kind:Int
 aS:bV
 To:bV
 aG:aT
 Slot:Int
 bR:List (aL)
 Entry:aB
 Number:Int
 aH:Vector (Int) 8
 bH:Int
 Origin:Int
 fP:List (dP)
 aY:aD
 Part:aK
instance:Inhabited aN:=⟨⟨default,default,default,default,default,default,default,default,default,default,default,default,default,default⟩⟩
structure eW where
 Number:Int
 aS:bV
 To:bV
 Data:List (Int)
instance:Inhabited eW:=⟨⟨default,default,default,default⟩⟩
structure aQ where
 Kind:Int
 DN:List (aN)
 Number:Int
 Place:Int
 u6:Int
 EN:List (bV)
 Stop:Int
instance:Inhabited aQ:=⟨⟨default,default,default,default,default,default,default⟩⟩
structure bS where
 L:List (eW)
 aB9:Int
instance:Inhabited bS:=⟨⟨default,default⟩⟩
structure mV where
 wait:List (eW)
 last:Int
instance:Inhabited mV:=⟨⟨default,default⟩⟩
structure yO where
 queue:mV
 made:Bool
instance:Inhabited yO:=⟨⟨default,default⟩⟩
structure aA where
 made:Bool
 b:List (Int)
instance:Inhabited aA:=⟨⟨default,default⟩⟩
structure dJ where
 B:List (Int)
 At:Int
 E:Int
instance:Inhabited dJ:=⟨⟨default,default,default⟩⟩
structure bJ where
 Number:Int
 aS:bV
 To:bV
 Data:Hd
instance:Inhabited bJ:=⟨⟨default,default,default,default⟩⟩
@[reducible] def τ:Nat→Type
 |2=>Int
 |3=>Int
 |4=>Bool
 |5=>Int
 |9=>List UInt8
 |12=>Int
 |21=>Int
 |22=>bV
 |23=>bV
 |24=>aT
 |25=>aT
 |26=>List (aL)
 |27=>bB
 |28=>bB
 |29=>dP
 |30=>dP
 |31=>List (dP)
 |32=>Vector (Int) 8
 |33=>Vector (Int) 8
 |34=>Vector (Int) 8
 |35=>aD
 |36=>aD
 |37=>List (Int)
 |38=>aK
 |39=>aK
 |40=>aB
 |41=>aB
 |42=>aN
 |43=>aN
 |44=>Int
 |48=>Int
 |59=>List (aN)
 |60=>List (Int)
 |64=>eW
 |65=>eW
 |69=>List (aQ)
 |70=>List (bV)
 |71=>aQ
 |72=>aQ
 |75=>List (eW)
 |76=>bS
 |77=>bS
 |79=>mV
 |80=>mV
 |81=>yO
 |82=>yO
 |138=>Int
 |140=>Int
 |154=>aL
 |155=>aL
 |165=>aA
 |166=>aA
 |186=>aA
 |192=>dJ
 |193=>dJ
 |194=>List (Int)
 |201=>List (List (Int))
 |203=>Int
 |229=>List (List UInt8)
 |20065=>bJ
 |10005=>Hd
 |_=>Unit
def X2 (x:Hd):List AV:=[.Bw x.j (x.o * 1) x.n x.c x.nn 1]
def Y5 (x:Hd):TV τ:=.Bw 5 x.j x.o x.n x.c x.nn
def YQ (x:TV τ):Option Hd:=dHd 5 x
def Mm (x:Int):List AV:=[.v (.int .i64 x)]
def Vy (x:Int):TV τ:=.int .i64 x
def wS (x:TV τ):Option (Int):=vN .i64 x
def Dd (x y:Int):Bool:=(x==y)
def Tv (x:Int):List AV:=[.v (.int .i64 x)]
def AK (x:Int):TV τ:=.int .i64 x
def zW (x:TV τ):Option (Int):=vN .i64 x
def Hj (x y:Int):Bool:=(x==y)
def aCf (x:Bool):List AV:=[.v (.bool x)]
def aFE (x:Bool):TV τ:=.bool x
def ze (x:TV τ):Option (Bool):=E0 x
def beq4 (x y:Bool):Bool:=(x==y)
def sa (x:Int):List AV:=[.v (.int .u8 x)]
def enc5 (x:Int):TV τ:=.int .u8 x
def aFo (x:TV τ):Option (Int):=vN .u8 x
def beq5 (x y:Int):Bool:=(x==y)
def sb (x:List UInt8):List AV:=[.v (.string ⟨⟨x⟩⟩)]
def aCt (x:List UInt8):TV τ:=.str x
def gp (x:TV τ):Option (List UInt8):=sq x
def yc (x y:List UInt8):Bool:=(x==y)
def aDJ (x:Int):List AV:=[.v (.int .u64 x)]
def aID (x:Int):TV τ:=.int .u64 x
def aIm (x:TV τ):Option (Int):=vN .u64 x
def aDy (x y:Int):Bool:=(x==y)
def aDK (x:Int):List AV:=[.v (.int .i32 x)]
def aIE (x:Int):TV τ:=.int .i32 x
def aIn (x:TV τ):Option (Int):=vN .i32 x
def aDz (x y:Int):Bool:=(x==y)
def aDL (x:bV):List AV:=(Tv x.cR++(Tv x.aJ++[]))
def aDZ (x:bV):TV τ:=.agg [AK x.cR,AK x.aJ]
def np (x:TV τ):Option (bV):=(match x with | .agg [x0,x1]=>(match zW x0 with|some a0=>(match zW x1 with|some a1=>some ⟨a0,a1⟩|none=>none) | none=>none) | _=>none)
def aDA (x y:bV):Bool:=(Hj x.cR y.cR&&(Hj x.aJ y.aJ&&true))
def TW (x:bV):List AV:=aDL x
def YW (x:bV):TV τ:=aDZ x
def Yd (x:TV τ):Option (bV):=np x
def aH5 (x y:bV):Bool:=aDA x y
def aDM (x:aT):List AV:=(Mm x.Round++(Tv x.aJ++[]))
def aD0 (x:aT):TV τ:=.agg [Vy x.Round,AK x.aJ]
def nq (x:TV τ):Option (aT):=(match x with | .agg [x0,x1]=>(match wS x0 with|some a0=>(match zW x1 with|some a1=>some ⟨a0,a1⟩|none=>none) | none=>none) | _=>none)
def aDB (x y:aT):Bool:=(Dd x.Round y.Round&&(Hj x.aJ y.aJ&&true))
def yq (x:aT):List AV:=aDM x
def zv (x:aT):TV τ:=aD0 x
def X5 (x:TV τ):Option (aT):=nq x
def aH6 (x y:aT):Bool:=aDB x y
def yr (x:bB):List AV:=(Mm x.Time++(Tv x.Site++[]))
def zw (x:bB):TV τ:=.agg [Vy x.Time,AK x.Site]
def E1 (x:TV τ):Option (bB):=(match x with | .agg [x0,x1]=>(match wS x0 with|some a0=>(match zW x1 with|some a1=>some ⟨a0,a1⟩|none=>none) | none=>none) | _=>none)
def xz (x y:bB):Bool:=(Dd x.Time y.Time&&(Hj x.Site y.Site&&true))
def ng (x:dP):List AV:=(yr x.cG++(Tv x.Kind++(Mm x.Node++(Mm x.cY++(sb x.Name++(sb x.Key++(sb x.Value++[])))))))
def zx (x:dP):TV τ:=.agg [zw x.cG,AK x.Kind,Vy x.Node,Vy x.cY,aCt x.Name,aCt x.Key,aCt x.Value]
def E2 (x:TV τ):Option (dP):=(match x with | .agg [x0,x1,x2,x3,x4,x5,x6]=>(match E1 x0 with|some a0=>(match zW x1 with|some a1=>(match wS x2 with|some a2=>(match wS x3 with|some a3=>(match gp x4 with|some a4=>(match gp x5 with|some a5=>(match gp x6 with|some a6=>some ⟨a0,a1,a2,a3,a4,a5,a6⟩|none=>none) | none=>none) | none=>none) | none=>none) | none=>none) | none=>none) | none=>none) | _=>none)
def aDC (x y:dP):Bool:=(xz x.cG y.cG&&(Hj x.Kind y.Kind&&(Dd x.Node y.Node&&(Dd x.cY y.cY&&(yc x.Name y.Name&&(yc x.Key y.Key&&(yc x.Value y.Value&&true)))))))
def yu (x:List (dP)):List AV:=[.xA 8 (x.map ng)]
def zy (x:List (dP)):TV τ:=.sl 30 x .any
def X6 (x:TV τ):Option (List (dP)):=Tq 30 x
def yv (x:Vector (Int) 8):List AV:=x.toList.flatMap Tv
def zz (x:Vector (Int) 8):TV τ:=.arr 3 8 x
def X7 (x:TV τ):Option (Vector (Int) 8):=NV 3 8 x
def ya (x y:Vector (Int) 8):Bool:=rN Hj x y
def nh (x:Vector (Int) 8):List AV:=x.toList.flatMap Mm
def oc (x:Vector (Int) 8):TV τ:=.arr 2 8 x
def YT (x:TV τ):Option (Vector (Int) 8):=NV 2 8 x
def aDD (x y:Vector (Int) 8):Bool:=rN Dd x y
def ni (x:aD):List AV:=(Mm x.Number++(yv x.cB++(nh x.iD++(yv x.aV++[]))))
def od (x:aD):TV τ:=.agg [Vy x.Number,zz x.cB,oc x.iD,zz x.aV]
def UA (x:TV τ):Option (aD):=(match x with | .agg [x0,x1,x2,x3]=>(match wS x0 with|some a0=>(match X7 x1 with|some a1=>(match YT x2 with|some a2=>(match X7 x3 with|some a3=>some ⟨a0,a1,a2,a3⟩|none=>none) | none=>none) | none=>none) | none=>none) | _=>none)
def aDE (x y:aD):Bool:=(Dd x.Number y.Number&&(ya x.cB y.cB&&(aDD x.iD y.iD&&(ya x.aV y.aV&&true))))
def D8 (x:List (Int)):List AV:=[.xA 1 (x.map sa)]
def Y6 (x:List (Int)):TV τ:=.sl 5 x .any
def NW (x:TV τ):Option (List (Int)):=Tq 5 x
def nj (x:aK):List AV:=(Mm x.Qz++(Tv x.Index++(Tv x.Hq++(D8 x.Data++[]))))
def oe (x:aK):TV τ:=.agg [Vy x.Qz,AK x.Index,AK x.Hq,Y6 x.Data]
def UB (x:TV τ):Option (aK):=(match x with | .agg [x0,x1,x2,x3]=>(match wS x0 with|some a0=>(match zW x1 with|some a1=>(match zW x2 with|some a2=>(match NW x3 with|some a3=>some ⟨a0,a1,a2,a3⟩|none=>none) | none=>none) | none=>none) | none=>none) | _=>none)
def nk (x:aB):List AV:=(Tv x.Kind++(Mm x.cE++(Mm x.Request++(ng x.Op++(Tv x.Origin++(Mm x.Seq++(yu x.fP++(ni x.aY++(Tv x.aS++(nh x.aH++(Mm x.bH++(nj x.Part++(Tv x.Site++(Tv x.aV++(Mm x.Length++[])))))))))))))))
def og (x:aB):TV τ:=.agg [AK x.Kind,Vy x.cE,Vy x.Request,zx x.Op,AK x.Origin,Vy x.Seq,zy x.fP,od x.aY,AK x.aS,oc x.aH,Vy x.bH,oe x.Part,AK x.Site,AK x.aV,Vy x.Length]
def UC (x:TV τ):Option (aB):=(match x with | .agg [x0,x1,x2,x3,x4,x5,x6,x7,x8,x9,dz,ea,ee,ef,x14]=>(match zW x0 with|some a0=>(match wS x1 with|some a1=>(match wS x2 with|some a2=>(match E2 x3 with|some a3=>(match zW x4 with|some a4=>(match wS x5 with|some a5=>(match X6 x6 with|some a6=>(match UA x7 with|some a7=>(match zW x8 with|some a8=>(match YT x9 with|some a9=>(match wS dz with|some eT=>(match UB ea with|some eK=>(match zW ee with|some eL=>(match zW ef with|some eA=>(match wS x14 with|some eB=>some ⟨a0,a1,a2,a3,a4,a5,a6,a7,a8,a9,eT,eK,eL,eA,eB⟩|none=>none) | none=>none) | none=>none) | none=>none) | none=>none) | none=>none) | none=>none) | none=>none) | none=>none) | none=>none) | none=>none) | none=>none) | none=>none) | none=>none) | none=>none) | _=>none)
def gg (x:aL):List AV:=(Mm x.Slot++(yq x.aG++(nk x.Entry++[])))
def zr (x:aL):TV τ:=.agg [Vy x.Slot,zv x.aG,og x.Entry]
def M0 (x:TV τ):Option (aL):=(match x with | .agg [x0,x1,x2]=>(match wS x0 with|some a0=>(match X5 x1 with|some a1=>(match UC x2 with|some a2=>some ⟨a0,a1,a2⟩|none=>none) | none=>none) | none=>none) | _=>none)
def aDN (x:List (aL)):List AV:=[.xA 59 (x.map gg)]
def aD1 (x:List (aL)):TV τ:=.sl 155 x .any
def zd (x:TV τ):Option (List (aL)):=Tq 155 x
def aIb (x:bB):List AV:=yr x
def aIF (x:bB):TV τ:=zw x
def aIo (x:TV τ):Option (bB):=E1 x
def aH7 (x y:bB):Bool:=xz x y
def aIc (x:dP):List AV:=ng x
def aIG (x:dP):TV τ:=zx x
def aIp (x:TV τ):Option (dP):=E2 x
def aH8 (x y:dP):Bool:=aDC x y
def aId (x:Vector (Int) 8):List AV:=x.toList.flatMap Mm
def aIH (x:Vector (Int) 8):TV τ:=.arr 2 8 x
def aIq (x:TV τ):Option (Vector (Int) 8):=NV 2 8 x
def aH9 (x y:Vector (Int) 8):Bool:=rN Dd x y
def aIe (x:aD):List AV:=ni x
def aII (x:aD):TV τ:=od x
def aIr (x:TV τ):Option (aD):=UA x
def aIa (x y:aD):Bool:=aDE x y
def aIf (x:aK):List AV:=nj x
def aIJ (x:aK):TV τ:=oe x
def aIs (x:TV τ):Option (aK):=UB x
def aIg (x:aB):List AV:=nk x
def aIK (x:aB):TV τ:=og x
def aIt (x:TV τ):Option (aB):=UC x
def aDO (x:aN):List AV:=(Tv x.Kind++(TW x.aS++(TW x.To++(yq x.aG++(Mm x.Slot++(aDN x.bR++(nk x.Entry++(Mm x.Number++(nh x.aH++(Mm x.bH++(Tv x.Origin++(yu x.fP++(ni x.aY++(nj x.Part++[]))))))))))))))
def aD2 (x:aN):TV τ:=.agg [AK x.Kind,YW x.aS,YW x.To,zv x.aG,Vy x.Slot,aD1 x.bR,og x.Entry,Vy x.Number,oc x.aH,Vy x.bH,AK x.Origin,zy x.fP,od x.aY,oe x.Part]
def nr (x:TV τ):Option (aN):=(match x with | .agg [x0,x1,x2,x3,x4,x5,x6,x7,x8,x9,dz,ea,ee,ef]=>(match zW x0 with|some a0=>(match Yd x1 with|some a1=>(match Yd x2 with|some a2=>(match X5 x3 with|some a3=>(match wS x4 with|some a4=>(match zd x5 with|some a5=>(match UC x6 with|some a6=>(match wS x7 with|some a7=>(match YT x8 with|some a8=>(match wS x9 with|some a9=>(match zW dz with|some eT=>(match X6 ea with|some eK=>(match UA ee with|some eL=>(match UB ef with|some eA=>some ⟨a0,a1,a2,a3,a4,a5,a6,a7,a8,a9,eT,eK,eL,eA⟩|none=>none) | none=>none) | none=>none) | none=>none) | none=>none) | none=>none) | none=>none) | none=>none) | none=>none) | none=>none) | none=>none) | none=>none) | none=>none) | none=>none) | _=>none)
def aDP (x:aN):List AV:=aDO x
def aIL (x:aN):TV τ:=aD2 x
def aIu (x:TV τ):Option (aN):=nr x
def aDQ (x:Int):List AV:=[.v (.int .u16 x)]
def aIM (x:Int):TV τ:=.int .u16 x
def aIv (x:TV τ):Option (Int):=vN .u16 x
def aDF (x y:Int):Bool:=(x==y)
def yw (x:Int):List AV:=[.v (.int .i64 x)]
def aD3 (x:Int):TV τ:=.int .i64 x
def zf (x:TV τ):Option (Int):=vN .i64 x
def aDG (x y:Int):Bool:=(x==y)
def aDR (x:List (aN)):List AV:=[.xA 106 (x.map aDP)]
def aD4 (x:List (aN)):TV τ:=.sl 43 x .any
def zg (x:TV τ):Option (List (aN)):=Tq 43 x
def aIh (x:List (Int)):List AV:=[.xA 1 (x.map Mm)]
def aIN (x:List (Int)):TV τ:=.sl 2 x .any
def aIw (x:TV τ):Option (List (Int)):=Tq 2 x
def aDS (x:eW):List AV:=(Mm x.Number++(TW x.aS++(TW x.To++(D8 x.Data++[]))))
def aD5 (x:eW):TV τ:=.agg [Vy x.Number,YW x.aS,YW x.To,Y6 x.Data]
def nt (x:TV τ):Option (eW):=(match x with | .agg [x0,x1,x2,x3]=>(match wS x0 with|some a0=>(match Yd x1 with|some a1=>(match Yd x2 with|some a2=>(match NW x3 with|some a3=>some ⟨a0,a1,a2,a3⟩|none=>none) | none=>none) | none=>none) | none=>none) | _=>none)
def aDT (x:eW):List AV:=aDS x
def aIO (x:eW):TV τ:=aD5 x
def aIx (x:TV τ):Option (eW):=nt x
def aDU (x:List (bV)):List AV:=[.xA 2 (x.map TW)]
def aD6 (x:List (bV)):TV τ:=.sl 23 x .any
def zh (x:TV τ):Option (List (bV)):=Tq 23 x
def yx (x:aQ):List AV:=(Tv x.Kind++(aDR x.DN++(Mm x.Number++(Tv x.Place++(sa x.u6++(aDU x.EN++(Tv x.Stop++[])))))))
def aD7 (x:aQ):TV τ:=.agg [AK x.Kind,aD4 x.DN,Vy x.Number,AK x.Place,enc5 x.u6,aD6 x.EN,AK x.Stop]
def nu (x:TV τ):Option (aQ):=(match x with | .agg [x0,x1,x2,x3,x4,x5,x6]=>(match zW x0 with|some a0=>(match zg x1 with|some a1=>(match wS x2 with|some a2=>(match zW x3 with|some a3=>(match aFo x4 with|some a4=>(match zh x5 with|some a5=>(match zW x6 with|some a6=>some ⟨a0,a1,a2,a3,a4,a5,a6⟩|none=>none) | none=>none) | none=>none) | none=>none) | none=>none) | none=>none) | none=>none) | _=>none)
def aIi (x:List (aQ)):List AV:=[.xA 7 (x.map yx)]
def aIP (x:List (aQ)):TV τ:=.sl 72 x .any
def aIy (x:TV τ):Option (List (aQ)):=Tq 72 x
def aIj (x:aQ):List AV:=yx x
def aIQ (x:aQ):TV τ:=aD7 x
def aIz (x:TV τ):Option (aQ):=nu x
def yy (x:List (eW)):List AV:=[.xA 6 (x.map aDT)]
def aAa (x:List (eW)):TV τ:=.sl 65 x .any
def X8 (x:TV τ):Option (List (eW)):=Tq 65 x
def aDV (x:bS):List AV:=(yy x.L++(Mm x.aB9++[]))
def aD8 (x:bS):TV τ:=.agg [aAa x.L,Vy x.aB9]
def nv (x:TV τ):Option (bS):=(match x with | .agg [x0,x1]=>(match X8 x0 with|some a0=>(match wS x1 with|some a1=>some ⟨a0,a1⟩|none=>none) | none=>none) | _=>none)
def aIk (x:bS):List AV:=aDV x
def aIR (x:bS):TV τ:=aD8 x
def aIA (x:TV τ):Option (bS):=nv x
def aDW (x:mV):List AV:=(yy x.wait++(Mm x.last++[]))
def aD9 (x:mV):TV τ:=.agg [aAa x.wait,Vy x.last]
def nw (x:TV τ):Option (mV):=(match x with | .agg [x0,x1]=>(match X8 x0 with|some a0=>(match wS x1 with|some a1=>some ⟨a0,a1⟩|none=>none) | none=>none) | _=>none)
def aDX (x:mV):List AV:=aDW x
def aEa (x:mV):TV τ:=aD9 x
def zi (x:TV τ):Option (mV):=nw x
def aDY (x:yO):List AV:=(aDX x.queue++(aCf x.made++[]))
def aEb (x:yO):TV τ:=.agg [aEa x.queue,aFE x.made]
def nz (x:TV τ):Option (yO):=(match x with | .agg [x0,x1]=>(match zi x0 with|some a0=>(match ze x1 with|some a1=>some ⟨a0,a1⟩|none=>none) | none=>none) | _=>none)
def aIl (x:yO):List AV:=aDY x
def aIS (x:yO):TV τ:=aEb x
def aIB (x:TV τ):Option (yO):=nz x
def yl (x:Int):List AV:=[.v (.int .u32 x)]
def aFu (x:Int):TV τ:=.int .u32 x
def aFe (x:TV τ):Option (Int):=vN .u32 x
def xv (x y:Int):Bool:=(x==y)
def ym (x:Int):List AV:=[.v (.int .u64 x)]
def aFv (x:Int):TV τ:=.int .u64 x
def aFf (x:TV τ):Option (Int):=vN .u64 x
def xw (x y:Int):Bool:=(x==y)
def aE6 (x:aL):List AV:=gg x
def aFw (x:aL):TV τ:=zr x
def aFg (x:TV τ):Option (aL):=M0 x
def gh (x:aA):List AV:=(aCf x.made++(D8 x.b++[]))
def il (x:aA):TV τ:=.agg [aFE x.made,Y6 x.b]
def YR (x:TV τ):Option (aA):=(match x with | .agg [x0,x1]=>(match ze x0 with|some a0=>(match NW x1 with|some a1=>some ⟨a0,a1⟩|none=>none) | none=>none) | _=>none)
def aE7 (x:aA):List AV:=gh x
def aFx (x:aA):TV τ:=il x
def aFh (x:TV τ):Option (aA):=YR x
def aE8 (x:aA):List AV:=gh x
def aFy (x:aA):TV τ:=il x
def aFi (x:TV τ):Option (aA):=YR x
def yn (x:dJ):List AV:=(D8 x.B++(Tv x.At++(yw x.E++[])))
def zt (x:dJ):TV τ:=.agg [Y6 x.B,AK x.At,aD3 x.E]
def M1 (x:TV τ):Option (dJ):=(match x with | .agg [x0,x1,x2]=>(match NW x0 with|some a0=>(match zW x1 with|some a1=>(match zf x2 with|some a2=>some ⟨a0,a1,a2⟩|none=>none) | none=>none) | none=>none) | _=>none)
def aE9 (x:dJ):List AV:=yn x
def aFz (x:dJ):TV τ:=zt x
def aFj (x:TV τ):Option (dJ):=M1 x
def aFa (x:List (Int)):List AV:=[.xA 1 (x.map Tv)]
def aFA (x:List (Int)):TV τ:=.sl 3 x .any
def aFk (x:TV τ):Option (List (Int)):=Tq 3 x
def aFb (x:List (List (Int))):List AV:=[.xA 1 (x.map D8)]
def aFB (x:List (List (Int))):TV τ:=.sl 37 x .any
def aFl (x:TV τ):Option (List (List (Int))):=Tq 37 x
def yp (x:Int):List AV:=[.v (.int .u64 x)]
def aFC (x:Int):TV τ:=.int .u64 x
def aFm (x:TV τ):Option (Int):=vN .u64 x
def xy (x y:Int):Bool:=(x==y)
def aFc (x:List (List UInt8)):List AV:=[.xA 1 (x.map sb)]
def aFD (x:List (List UInt8)):TV τ:=.sl 9 x .any
def aFn (x:TV τ):Option (List (List UInt8)):=Tq 9 x
def yo (x:bJ):List AV:=(Mm x.Number++(TW x.aS++(TW x.To++(X2 x.Data++[]))))
def zu (x:bJ):TV τ:=.agg [Vy x.Number,YW x.aS,YW x.To,Y5 x.Data]
def YS (x:TV τ):Option (bJ):=(match x with | .agg [x0,x1,x2,x3]=>(match wS x0 with|some a0=>(match Yd x1 with|some a1=>(match Yd x2 with|some a2=>(match YQ x3 with|some a3=>some ⟨a0,a1,a2,a3⟩|none=>none) | none=>none) | none=>none) | none=>none) | _=>none)
def Zz:(t:Nat)→τ t→List AV
 |2=>Mm
 |3=>Tv
 |4=>aCf
 |5=>sa
 |9=>sb
 |12=>aDJ
 |21=>aDK
 |22=>aDL
 |23=>TW
 |24=>aDM
 |25=>yq
 |26=>aDN
 |27=>aIb
 |28=>yr
 |29=>aIc
 |30=>ng
 |31=>yu
 |32=>yv
 |33=>aId
 |34=>nh
 |35=>aIe
 |36=>ni
 |37=>D8
 |38=>aIf
 |39=>nj
 |40=>aIg
 |41=>nk
 |42=>aDO
 |43=>aDP
 |44=>aDQ
 |48=>yw
 |59=>aDR
 |60=>aIh
 |64=>aDS
 |65=>aDT
 |69=>aIi
 |70=>aDU
 |71=>aIj
 |72=>yx
 |75=>yy
 |76=>aDV
 |77=>aIk
 |79=>aDW
 |80=>aDX
 |81=>aDY
 |82=>aIl
 |138=>yl
 |140=>ym
 |154=>aE6
 |155=>gg
 |165=>gh
 |166=>aE7
 |186=>aE8
 |192=>yn
 |193=>aE9
 |194=>aFa
 |201=>aFb
 |203=>yp
 |229=>aFc
 |20065=>yo
 |10005=>X2
 |_=>fun _=>[]
def aAb:(t:Nat)→τ t→TV τ
 |2=>Vy
 |3=>AK
 |4=>aFE
 |5=>enc5
 |9=>aCt
 |12=>aID
 |21=>aIE
 |22=>aDZ
 |23=>YW
 |24=>aD0
 |25=>zv
 |26=>aD1
 |27=>aIF
 |28=>zw
 |29=>aIG
 |30=>zx
 |31=>zy
 |32=>zz
 |33=>aIH
 |34=>oc
 |35=>aII
 |36=>od
 |37=>Y6
 |38=>aIJ
 |39=>oe
 |40=>aIK
 |41=>og
 |42=>aD2
 |43=>aIL
 |44=>aIM
 |48=>aD3
 |59=>aD4
 |60=>aIN
 |64=>aD5
 |65=>aIO
 |69=>aIP
 |70=>aD6
 |71=>aIQ
 |72=>aD7
 |75=>aAa
 |76=>aD8
 |77=>aIR
 |79=>aD9
 |80=>aEa
 |81=>aEb
 |82=>aIS
 |138=>aFu
 |140=>aFv
 |154=>aFw
 |155=>zr
 |165=>il
 |166=>aFx
 |186=>aFy
 |192=>zt
 |193=>aFz
 |194=>aFA
 |201=>aFB
 |203=>aFC
 |229=>aFD
 |20065=>zu
 |10005=>Y5
 |_=>fun _=>.agg []
def VS:(t:Nat)→TV τ→Option (τ t)
 |2=>wS
 |3=>zW
 |4=>ze
 |5=>aFo
 |9=>gp
 |12=>aIm
 |21=>aIn
 |22=>np
 |23=>Yd
 |24=>nq
 |25=>X5
 |26=>zd
 |27=>aIo
 |28=>E1
 |29=>aIp
 |30=>E2
 |31=>X6
 |32=>X7
 |33=>aIq
 |34=>YT
 |35=>aIr
 |36=>UA
 |37=>NW
 |38=>aIs
 |39=>UB
 |40=>aIt
 |41=>UC
 |42=>nr
 |43=>aIu
 |44=>aIv
 |48=>zf
 |59=>zg
 |60=>aIw
 |64=>nt
 |65=>aIx
 |69=>aIy
 |70=>zh
 |71=>aIz
 |72=>nu
 |75=>X8
 |76=>nv
 |77=>aIA
 |79=>nw
 |80=>zi
 |81=>nz
 |82=>aIB
 |138=>aFe
 |140=>aFf
 |154=>aFg
 |155=>M0
 |165=>YR
 |166=>aFh
 |186=>aFi
 |192=>M1
 |193=>aFj
 |194=>aFk
 |201=>aFl
 |203=>aFm
 |229=>aFn
 |20065=>YS
 |10005=>YQ
 |_=>fun _=>none
theorem dfN (t:Nat):Nonempty (τ t):=by unfold τ;split<;>exact⟨default⟩
noncomputable def dfX (t:Nat):τ t:=Classical.choice (dfN t)
noncomputable def dfT:(t:Nat)→τ t
 |2=>(default:Int)
 |3=>(default:Int)
 |4=>(default:Bool)
 |5=>(default:Int)
 |9=>(default:List UInt8)
 |12=>(default:Int)
 |21=>(default:Int)
 |22=>(default:bV)
 |23=>(default:bV)
 |24=>(default:aT)
 |25=>(default:aT)
 |26=>(default:List (aL))
 |27=>(default:bB)
 |28=>(default:bB)
 |29=>(default:dP)
 |30=>(default:dP)
 |31=>(default:List (dP))
 |32=>(default:Vector (Int) 8)
 |33=>(default:Vector (Int) 8)
 |34=>(default:Vector (Int) 8)
 |35=>(default:aD)
 |36=>(default:aD)
 |37=>(default:List (Int))
 |38=>(default:aK)
 |39=>(default:aK)
 |40=>(default:aB)
 |41=>(default:aB)
 |42=>(default:aN)
 |43=>(default:aN)
 |44=>(default:Int)
 |48=>(default:Int)
 |59=>(default:List (aN))
 |60=>(default:List (Int))
 |64=>(default:eW)
 |65=>(default:eW)
 |69=>(default:List (aQ))
 |70=>(default:List (bV))
 |71=>(default:aQ)
 |72=>(default:aQ)
 |75=>(default:List (eW))
 |76=>(default:bS)
 |77=>(default:bS)
 |79=>(default:mV)
 |80=>(default:mV)
 |81=>(default:yO)
 |82=>(default:yO)
 |138=>(default:Int)
 |140=>(default:Int)
 |154=>(default:aL)
 |155=>(default:aL)
 |165=>(default:aA)
 |166=>(default:aA)
 |186=>(default:aA)
 |192=>(default:dJ)
 |193=>(default:dJ)
 |194=>(default:List (Int))
 |201=>(default:List (List (Int)))
 |203=>(default:Int)
 |229=>(default:List (List UInt8))
 |20065=>(default:bJ)
 |10005=>(default:Hd)
 |t=>dfX t
def szT:Nat→Nat
 |2=>1
 |3=>1
 |4=>1
 |5=>1
 |9=>1
 |12=>1
 |21=>1
 |22=>2
 |23=>2
 |24=>2
 |25=>2
 |26=>1
 |27=>2
 |28=>2
 |29=>8
 |30=>8
 |31=>1
 |32=>8
 |33=>8
 |34=>8
 |35=>25
 |36=>25
 |37=>1
 |38=>4
 |39=>4
 |40=>56
 |41=>56
 |42=>106
 |43=>106
 |44=>1
 |48=>1
 |59=>1
 |60=>1
 |64=>6
 |65=>6
 |69=>1
 |70=>1
 |71=>7
 |72=>7
 |75=>1
 |76=>2
 |77=>2
 |79=>2
 |80=>2
 |81=>3
 |82=>3
 |138=>1
 |140=>1
 |154=>59
 |155=>59
 |165=>2
 |166=>2
 |186=>2
 |192=>3
 |193=>3
 |194=>1
 |201=>1
 |203=>1
 |229=>1
 |20065=>6
 |10005=>1
 |_=>0
def kdT:Nat→Option (List Kd)
 |2=>some [.i]
 |3=>some [.i]
 |4=>some [.b]
 |5=>some [.i]
 |9=>some [.s]
 |12=>some [.i]
 |21=>some [.i]
 |22=>some [.i,.i]
 |23=>some [.i,.i]
 |24=>some [.i,.i]
 |25=>some [.i,.i]
 |27=>some [.i,.i]
 |28=>some [.i,.i]
 |29=>some [.i,.i,.i,.i,.i,.s,.s,.s]
 |30=>some [.i,.i,.i,.i,.i,.s,.s,.s]
 |32=>some [.i,.i,.i,.i,.i,.i,.i,.i]
 |33=>some [.i,.i,.i,.i,.i,.i,.i,.i]
 |34=>some [.i,.i,.i,.i,.i,.i,.i,.i]
 |35=>some [.i,.i,.i,.i,.i,.i,.i,.i,.i,.i,.i,.i,.i,.i,.i,.i,.i,.i,.i,.i,.i,.i,.i,.i,.i]
 |36=>some [.i,.i,.i,.i,.i,.i,.i,.i,.i,.i,.i,.i,.i,.i,.i,.i,.i,.i,.i,.i,.i,.i,.i,.i,.i]
 |44=>some [.i]
 |48=>some [.i]
 |138=>some [.i]
 |140=>some [.i]
 |203=>some [.i]
 |_=>none
def RB:(t:Nat)→τ t→τ t→Bool
 |2=>Dd
 |3=>Hj
 |4=>beq4
 |5=>beq5
 |9=>yc
 |12=>aDy
 |21=>aDz
 |22=>aDA
 |23=>aH5
 |24=>aDB
 |25=>aH6
 |27=>aH7
 |28=>xz
 |29=>aH8
 |30=>aDC
 |32=>ya
 |33=>aH9
 |34=>aDD
 |35=>aIa
 |36=>aDE
 |44=>aDF
 |48=>aDG
 |138=>xv
 |140=>xw
 |203=>xy
 |_=>fun _ _=>false
def aCc:(t:Nat)→List (τ t)→Option (List UInt8)
 |5=>fun (l:List Int)=>some (QF l)
 |_=>fun _=>none
def aC0:(t:Nat)→List UInt8→Option (List (τ t))
 |5=>fun s=>some (Kf s)
 |_=>fun _=>none
noncomputable def aJv:Nat→Nat→Array Tmp×Code×Code:=fun f k=>bif Nat.beq f 4 then S9 Tryz.f4 k else bif Nat.beq f 5 then S9 Tryz.f5 k else bif Nat.beq f 6 then S9 Tryz.f6 k else bif Nat.beq f 23 then S9 Tryz.f23 k else (#[],.skip,.skip)
noncomputable def C:eY τ:=⟨Zz,aAb,VS,dfT,szT,kdT,RB,aCc,aC0,aJv⟩
theorem Lq:eH C 10005:=⟨fun x=>rfl,fun x=>rfl,fun x a h=>(gm (C:=C) (show dHd 5 x=some a from h)).1,fun x=>rfl,fun x a h=>(gm (C:=C) (show dHd 5 x=some a from h)).2.1,fun x a h=>(gm (C:=C) (show dHd 5 x=some a from h)).2.2,fun a=>rfl,fun a=>fO gR.Bw,(fun ks h=>nomatch h),(fun l s h=>nomatch h),(fun s l h=>nomatch h)⟩
theorem cC:eH C 2:=⟨fun x=>rfl,fun x=>rfl,fun x a h=>by rw[kR (show vN .i64 x=some a from h)];exact .refl _,fun x=>rfl,fun x a h=>by rw[kR (show vN .i64 x=some a from h)];rfl,fun x a h=>by rw[kR (show vN .i64 x=some a from h)];rfl,fun a=>rfl,fun a=>fO (gR.v _),fun ks h a b=>by cases h;simp[eN,Xn,C,Zz,Mm,RB,Dd],(fun l s h=>nomatch h),(fun s l h=>nomatch h)⟩
theorem cM:eH C 3:=⟨fun x=>rfl,fun x=>rfl,fun x a h=>by rw[kR (show vN .i64 x=some a from h)];exact .refl _,fun x=>rfl,fun x a h=>by rw[kR (show vN .i64 x=some a from h)];rfl,fun x a h=>by rw[kR (show vN .i64 x=some a from h)];rfl,fun a=>rfl,fun a=>fO (gR.v _),fun ks h a b=>by cases h;simp[eN,Xn,C,Zz,Tv,RB,Hj],(fun l s h=>nomatch h),(fun s l h=>nomatch h)⟩
theorem MB:eH C 4:=⟨fun x=>rfl,fun x=>rfl,fun x a h=>by rw[L9 (show E0 x=some a from h)];exact .refl _,fun x=>rfl,fun x a h=>by rw[L9 (show E0 x=some a from h)];rfl,fun x a h=>by rw[L9 (show E0 x=some a from h)];rfl,fun a=>rfl,fun a=>fO (gR.v _),fun ks h a b=>by cases h;simp[eN,Xn,C,Zz,aCf,RB,beq4],(fun l s h=>nomatch h),(fun s l h=>nomatch h)⟩
theorem y9:eH C 5:=⟨fun x=>rfl,fun x=>rfl,fun x a h=>by rw[kR (show vN .u8 x=some a from h)];exact .refl _,fun x=>rfl,fun x a h=>by rw[kR (show vN .u8 x=some a from h)];rfl,fun x a h=>by rw[kR (show vN .u8 x=some a from h)];rfl,fun a=>rfl,fun a=>fO (gR.v _),fun ks h a b=>by cases h;simp[eN,Xn,C,Zz,sa,RB,beq5],fun l s h=>⟨rfl,(VN l).trans h⟩,fun s l h=>⟨rfl,by cases h;show (Kf s).map sa=_;simp[Kf,sa,Rb]⟩⟩
theorem Ls:eH C 9:=⟨fun x=>rfl,fun x=>rfl,fun x a h=>by rw[gn (show sq x=some a from h)];exact .refl _,fun x=>rfl,fun x a h=>by rw[gn (show sq x=some a from h)];rfl,fun x a h=>by rw[gn (show sq x=some a from h)];rfl,fun a=>rfl,fun a=>fO (gR.v _),fun ks h a b=>by cases h;simp[eN,Xn,C,Zz,sb,RB,yc],(fun l s h=>nomatch h),(fun s l h=>nomatch h)⟩
theorem aI9:eH C 12:=⟨fun x=>rfl,fun x=>rfl,fun x a h=>by rw[kR (show vN .u64 x=some a from h)];exact .refl _,fun x=>rfl,fun x a h=>by rw[kR (show vN .u64 x=some a from h)];rfl,fun x a h=>by rw[kR (show vN .u64 x=some a from h)];rfl,fun a=>rfl,fun a=>fO (gR.v _),fun ks h a b=>by cases h;simp[eN,Xn,C,Zz,aDJ,RB,aDy],(fun l s h=>nomatch h),(fun s l h=>nomatch h)⟩
theorem aJa:eH C 21:=⟨fun x=>rfl,fun x=>rfl,fun x a h=>by rw[kR (show vN .i32 x=some a from h)];exact .refl _,fun x=>rfl,fun x a h=>by rw[kR (show vN .i32 x=some a from h)];rfl,fun x a h=>by rw[kR (show vN .i32 x=some a from h)];rfl,fun a=>rfl,fun a=>fO (gR.v _),fun ks h a b=>by cases h;simp[eN,Xn,C,Zz,aDK,RB,aDz],(fun l s h=>nomatch h),(fun s l h=>nomatch h)⟩
theorem gq {x:TV τ}{a:bV}(h:np x=some a):∃ x0 x1,x=.agg [x0,x1]∧zW x0=some a.cR∧zW x1=some a.aJ:=by
 unfold np at h
 split at h
 ·rename_i x0 x1
  split at h
  ·rename_i a0 h0
   split at h
   ·rename_i a1 h1
    cases h
    exact⟨_,_,rfl,h0,h1⟩
   ·cases h
  ·cases h
 ·cases h
theorem aEm:eH C 22:=⟨fun x=>cA (cM.cel _) (cA (cM.cel _) (rfl)),fun x=>bN (cM.len _) (bN (cM.len _) (rfl)),fun x a h=>by obtain⟨x0,x1,rfl,h0,h1⟩:=gq h;exact CW.append (cM.dec _ _ h0) (CW.append (cM.dec _ _ h1) (CW.refl [])),fun x=>have q:=aO (cM.ok x.cR) (aO (cM.ok x.aJ) (GH));q,fun x a h=>by obtain⟨x0,x1,rfl,h0,h1⟩:=gq h;exact aO (cM.cD _ _ h0) (aO (cM.cD _ _ h1) (rfl)),fun x a h=>by obtain⟨x0,x1,rfl,h0,h1⟩:=gq h;rfl,fun x=>bM (cM.one _) (bM (cM.one _) (rfl)),fun x=>aW (cM.dB _) (aW (cM.dB _) (trivial)),fun ks h a b=>by have:=cZ (cM.kd _ rfl a.cR b.cR) (cZ (cM.kd _ rfl a.aJ b.aJ) ((show eN [] [] []=some true from rfl)));cases h;exact this,(fun l s h=>nomatch h),(fun s l h=>nomatch h)⟩
theorem jD:eH C 23:=let q:=aEm;⟨q.cel,q.len,q.dec,q.ok,q.cD,q.agg,q.one,q.dB,q.kd,q.TS,q.VL⟩
theorem gr {x:TV τ}{a:aT}(h:nq x=some a):∃ x0 x1,x=.agg [x0,x1]∧wS x0=some a.Round∧zW x1=some a.aJ:=by
 unfold nq at h
 split at h
 ·rename_i x0 x1
  split at h
  ·rename_i a0 h0
   split at h
   ·rename_i a1 h1
    cases h
    exact⟨_,_,rfl,h0,h1⟩
   ·cases h
  ·cases h
 ·cases h
theorem aEn:eH C 24:=⟨fun x=>cA (cC.cel _) (cA (cM.cel _) (rfl)),fun x=>bN (cC.len _) (bN (cM.len _) (rfl)),fun x a h=>by obtain⟨x0,x1,rfl,h0,h1⟩:=gr h;exact CW.append (cC.dec _ _ h0) (CW.append (cM.dec _ _ h1) (CW.refl [])),fun x=>have q:=aO (cC.ok x.Round) (aO (cM.ok x.aJ) (GH));q,fun x a h=>by obtain⟨x0,x1,rfl,h0,h1⟩:=gr h;exact aO (cC.cD _ _ h0) (aO (cM.cD _ _ h1) (rfl)),fun x a h=>by obtain⟨x0,x1,rfl,h0,h1⟩:=gr h;rfl,fun x=>bM (cC.one _) (bM (cM.one _) (rfl)),fun x=>aW (cC.dB _) (aW (cM.dB _) (trivial)),fun ks h a b=>by have:=cZ (cC.kd _ rfl a.Round b.Round) (cZ (cM.kd _ rfl a.aJ b.aJ) ((show eN [] [] []=some true from rfl)));cases h;exact this,(fun l s h=>nomatch h),(fun s l h=>nomatch h)⟩
theorem Rv:eH C 25:=let q:=aEn;⟨q.cel,q.len,q.dec,q.ok,q.cD,q.agg,q.one,q.dB,q.kd,q.TS,q.VL⟩
theorem gu {x:TV τ}{a:bB}(h:E1 x=some a):∃ x0 x1,x=.agg [x0,x1]∧wS x0=some a.Time∧zW x1=some a.Site:=by
 unfold E1 at h
 split at h
 ·rename_i x0 x1
  split at h
  ·rename_i a0 h0
   split at h
   ·rename_i a1 h1
    cases h
    exact⟨_,_,rfl,h0,h1⟩
   ·cases h
  ·cases h
 ·cases h
theorem KS:eH C 28:=⟨fun x=>cA (cC.cel _) (cA (cM.cel _) (rfl)),fun x=>bN (cC.len _) (bN (cM.len _) (rfl)),fun x a h=>by obtain⟨x0,x1,rfl,h0,h1⟩:=gu h;exact CW.append (cC.dec _ _ h0) (CW.append (cM.dec _ _ h1) (CW.refl [])),fun x=>have q:=aO (cC.ok x.Time) (aO (cM.ok x.Site) (GH));q,fun x a h=>by obtain⟨x0,x1,rfl,h0,h1⟩:=gu h;exact aO (cC.cD _ _ h0) (aO (cM.cD _ _ h1) (rfl)),fun x a h=>by obtain⟨x0,x1,rfl,h0,h1⟩:=gu h;rfl,fun x=>bM (cC.one _) (bM (cM.one _) (rfl)),fun x=>aW (cC.dB _) (aW (cM.dB _) (trivial)),fun ks h a b=>by have:=cZ (cC.kd _ rfl a.Time b.Time) (cZ (cM.kd _ rfl a.Site b.Site) ((show eN [] [] []=some true from rfl)));cases h;exact this,(fun l s h=>nomatch h),(fun s l h=>nomatch h)⟩
theorem gv {x:TV τ}{a:dP}(h:E2 x=some a):∃ x0 x1 x2 x3 x4 x5 x6,x=.agg [x0,x1,x2,x3,x4,x5,x6]∧E1 x0=some a.cG∧zW x1=some a.Kind∧wS x2=some a.Node∧wS x3=some a.cY∧gp x4=some a.Name∧gp x5=some a.Key∧gp x6=some a.Value:=by
 unfold E2 at h
 split at h
 ·rename_i x0 x1 x2 x3 x4 x5 x6
  split at h
  ·rename_i a0 h0
   split at h
   ·rename_i a1 h1
    split at h
    ·rename_i a2 h2
     split at h
     ·rename_i a3 h3
      split at h
      ·rename_i a4 h4
       split at h
       ·rename_i a5 h5
        split at h
        ·rename_i a6 h6
         cases h
         exact⟨_,_,_,_,_,_,_,rfl,h0,h1,h2,h3,h4,h5,h6⟩
        ·cases h
       ·cases h
      ·cases h
     ·cases h
    ·cases h
   ·cases h
  ·cases h
 ·cases h
theorem FR:eH C 30:=⟨fun x=>cA (KS.cel _) (cA (cM.cel _) (cA (cC.cel _) (cA (cC.cel _) (cA (Ls.cel _) (cA (Ls.cel _) (cA (Ls.cel _) (rfl))))))),fun x=>bN (KS.len _) (bN (cM.len _) (bN (cC.len _) (bN (cC.len _) (bN (Ls.len _) (bN (Ls.len _) (bN (Ls.len _) (rfl))))))),fun x a h=>by obtain⟨x0,x1,x2,x3,x4,x5,x6,rfl,h0,h1,h2,h3,h4,h5,h6⟩:=gv h;exact CW.append (KS.dec _ _ h0) (CW.append (cM.dec _ _ h1) (CW.append (cC.dec _ _ h2) (CW.append (cC.dec _ _ h3) (CW.append (Ls.dec _ _ h4) (CW.append (Ls.dec _ _ h5) (CW.append (Ls.dec _ _ h6) (CW.refl []))))))),fun x=>have q:=aO (KS.ok x.cG) (aO (cM.ok x.Kind) (aO (cC.ok x.Node) (aO (cC.ok x.cY) (aO (Ls.ok x.Name) (aO (Ls.ok x.Key) (aO (Ls.ok x.Value) (GH)))))));q,fun x a h=>by obtain⟨x0,x1,x2,x3,x4,x5,x6,rfl,h0,h1,h2,h3,h4,h5,h6⟩:=gv h;exact aO (KS.cD _ _ h0) (aO (cM.cD _ _ h1) (aO (cC.cD _ _ h2) (aO (cC.cD _ _ h3) (aO (Ls.cD _ _ h4) (aO (Ls.cD _ _ h5) (aO (Ls.cD _ _ h6) (rfl))))))),fun x a h=>by obtain⟨x0,x1,x2,x3,x4,x5,x6,rfl,h0,h1,h2,h3,h4,h5,h6⟩:=gv h;rfl,fun x=>bM (KS.one _) (bM (cM.one _) (bM (cC.one _) (bM (cC.one _) (bM (Ls.one _) (bM (Ls.one _) (bM (Ls.one _) (rfl))))))),fun x=>aW (KS.dB _) (aW (cM.dB _) (aW (cC.dB _) (aW (cC.dB _) (aW (Ls.dB _) (aW (Ls.dB _) (aW (Ls.dB _) (trivial))))))),fun ks h a b=>by have:=cZ (KS.kd _ rfl a.cG b.cG) (cZ (cM.kd _ rfl a.Kind b.Kind) (cZ (cC.kd _ rfl a.Node b.Node) (cZ (cC.kd _ rfl a.cY b.cY) (cZ (Ls.kd _ rfl a.Name b.Name) (cZ (Ls.kd _ rfl a.Key b.Key) (cZ (Ls.kd _ rfl a.Value b.Value) ((show eN [] [] []=some true from rfl))))))));cases h;exact this,(fun l s h=>nomatch h),(fun s l h=>nomatch h)⟩
theorem Rw:eH C 31:=⟨fun x=>rfl,fun x=>rfl,fun x a h=>(jH (C:=C) (show Tq 30 x=some a from h)).1,fun x=>rfl,fun x a h=>(jH (C:=C) (show Tq 30 x=some a from h)).2.1,fun x a h=>(jH (C:=C) (show Tq 30 x=some a from h)).2.2,fun a=>rfl,fun a=>fO (gR.xA fun cs hc=>by obtain⟨y,_,rfl⟩:=List.mem_map.1 hc;exact FR.dB y),(fun ks h=>nomatch h),(fun l s h=>nomatch h),(fun s l h=>nomatch h)⟩
theorem Lr:eH C 32:=⟨fun x=>rfl,fun x=>FU cM x,fun x a h=>by rw[AH (show NV 3 8 x=some a from h)];exact .refl _,fun x=>rfl,fun x a h=>by rw[AH (show NV 3 8 x=some a from h)];rfl,fun x a h=>by rw[AH (show NV 3 8 x=some a from h)];rfl,fun a=>g7 cM a.toList,fun a=>RZ cM a.toList,fun ks h a b=>by have:=Ov cM (show C.kd 3=some _ from rfl) a.toList b.toList (by simp);simp only[Vector.length_toList]at this;cases h;exact this,(fun l s h=>nomatch h),(fun s l h=>nomatch h)⟩
theorem Ca:eH C 34:=⟨fun x=>rfl,fun x=>FU cC x,fun x a h=>by rw[AH (show NV 2 8 x=some a from h)];exact .refl _,fun x=>rfl,fun x a h=>by rw[AH (show NV 2 8 x=some a from h)];rfl,fun x a h=>by rw[AH (show NV 2 8 x=some a from h)];rfl,fun a=>g7 cC a.toList,fun a=>RZ cC a.toList,fun ks h a b=>by have:=Ov cC (show C.kd 2=some _ from rfl) a.toList b.toList (by simp);simp only[Vector.length_toList]at this;cases h;exact this,(fun l s h=>nomatch h),(fun s l h=>nomatch h)⟩
theorem gw {x:TV τ}{a:aD}(h:UA x=some a):∃ x0 x1 x2 x3,x=.agg [x0,x1,x2,x3]∧wS x0=some a.Number∧X7 x1=some a.cB∧YT x2=some a.iD∧X7 x3=some a.aV:=by
 unfold UA at h
 split at h
 ·rename_i x0 x1 x2 x3
  split at h
  ·rename_i a0 h0
   split at h
   ·rename_i a1 h1
    split at h
    ·rename_i a2 h2
     split at h
     ·rename_i a3 h3
      cases h
      exact⟨_,_,_,_,rfl,h0,h1,h2,h3⟩
     ·cases h
    ·cases h
   ·cases h
  ·cases h
 ·cases h
theorem Of:eH C 36:=⟨fun x=>cA (cC.cel _) (cA (Lr.cel _) (cA (Ca.cel _) (cA (Lr.cel _) (rfl)))),fun x=>bN (cC.len _) (bN (Lr.len _) (bN (Ca.len _) (bN (Lr.len _) (rfl)))),fun x a h=>by obtain⟨x0,x1,x2,x3,rfl,h0,h1,h2,h3⟩:=gw h;exact CW.append (cC.dec _ _ h0) (CW.append (Lr.dec _ _ h1) (CW.append (Ca.dec _ _ h2) (CW.append (Lr.dec _ _ h3) (CW.refl [])))),fun x=>have q:=aO (cC.ok x.Number) (aO (Lr.ok x.cB) (aO (Ca.ok x.iD) (aO (Lr.ok x.aV) (GH))));q,fun x a h=>by obtain⟨x0,x1,x2,x3,rfl,h0,h1,h2,h3⟩:=gw h;exact aO (cC.cD _ _ h0) (aO (Lr.cD _ _ h1) (aO (Ca.cD _ _ h2) (aO (Lr.cD _ _ h3) (rfl)))),fun x a h=>by obtain⟨x0,x1,x2,x3,rfl,h0,h1,h2,h3⟩:=gw h;rfl,fun x=>bM (cC.one _) (bM (Lr.one _) (bM (Ca.one _) (bM (Lr.one _) (rfl)))),fun x=>aW (cC.dB _) (aW (Lr.dB _) (aW (Ca.dB _) (aW (Lr.dB _) (trivial)))),fun ks h a b=>by have:=cZ (cC.kd _ rfl a.Number b.Number) (cZ (Lr.kd _ rfl a.cB b.cB) (cZ (Ca.kd _ rfl a.iD b.iD) (cZ (Lr.kd _ rfl a.aV b.aV) ((show eN [] [] []=some true from rfl)))));cases h;exact this,(fun l s h=>nomatch h),(fun s l h=>nomatch h)⟩
theorem sU:eH C 37:=⟨fun x=>rfl,fun x=>rfl,fun x a h=>(jH (C:=C) (show Tq 5 x=some a from h)).1,fun x=>rfl,fun x a h=>(jH (C:=C) (show Tq 5 x=some a from h)).2.1,fun x a h=>(jH (C:=C) (show Tq 5 x=some a from h)).2.2,fun a=>rfl,fun a=>fO (gR.xA fun cs hc=>by obtain⟨y,_,rfl⟩:=List.mem_map.1 hc;exact y9.dB y),(fun ks h=>nomatch h),(fun l s h=>nomatch h),(fun s l h=>nomatch h)⟩
theorem gx {x:TV τ}{a:aK}(h:UB x=some a):∃ x0 x1 x2 x3,x=.agg [x0,x1,x2,x3]∧wS x0=some a.Qz∧zW x1=some a.Index∧zW x2=some a.Hq∧NW x3=some a.Data:=by
 unfold UB at h
 split at h
 ·rename_i x0 x1 x2 x3
  split at h
  ·rename_i a0 h0
   split at h
   ·rename_i a1 h1
    split at h
    ·rename_i a2 h2
     split at h
     ·rename_i a3 h3
      cases h
      exact⟨_,_,_,_,rfl,h0,h1,h2,h3⟩
     ·cases h
    ·cases h
   ·cases h
  ·cases h
 ·cases h
theorem Og:eH C 39:=⟨fun x=>cA (cC.cel _) (cA (cM.cel _) (cA (cM.cel _) (cA (sU.cel _) (rfl)))),fun x=>bN (cC.len _) (bN (cM.len _) (bN (cM.len _) (bN (sU.len _) (rfl)))),fun x a h=>by obtain⟨x0,x1,x2,x3,rfl,h0,h1,h2,h3⟩:=gx h;exact CW.append (cC.dec _ _ h0) (CW.append (cM.dec _ _ h1) (CW.append (cM.dec _ _ h2) (CW.append (sU.dec _ _ h3) (CW.refl [])))),fun x=>have q:=aO (cC.ok x.Qz) (aO (cM.ok x.Index) (aO (cM.ok x.Hq) (aO (sU.ok x.Data) (GH))));q,fun x a h=>by obtain⟨x0,x1,x2,x3,rfl,h0,h1,h2,h3⟩:=gx h;exact aO (cC.cD _ _ h0) (aO (cM.cD _ _ h1) (aO (cM.cD _ _ h2) (aO (sU.cD _ _ h3) (rfl)))),fun x a h=>by obtain⟨x0,x1,x2,x3,rfl,h0,h1,h2,h3⟩:=gx h;rfl,fun x=>bM (cC.one _) (bM (cM.one _) (bM (cM.one _) (bM (sU.one _) (rfl)))),fun x=>aW (cC.dB _) (aW (cM.dB _) (aW (cM.dB _) (aW (sU.dB _) (trivial)))),(fun ks h=>nomatch h),(fun l s h=>nomatch h),(fun s l h=>nomatch h)⟩
theorem gy {x:TV τ}{a:aB}(h:UC x=some a):∃ x0 x1 x2 x3 x4 x5 x6 x7 x8 x9 dz ea ee ef x14,x=.agg [x0,x1,x2,x3,x4,x5,x6,x7,x8,x9,dz,ea,ee,ef,x14]∧zW x0=some a.Kind∧wS x1=some a.cE∧wS x2=some a.Request∧E2 x3=some a.Op∧zW x4=some a.Origin∧wS x5=some a.Seq∧X6 x6=some a.fP∧UA x7=some a.aY∧zW x8=some a.aS∧YT x9=some a.aH∧wS dz=some a.bH∧UB ea=some a.Part∧zW ee=some a.Site∧zW ef=some a.aV∧wS x14=some a.Length:=by
 unfold UC at h
 split at h
 ·rename_i x0 x1 x2 x3 x4 x5 x6 x7 x8 x9 dz ea ee ef x14
  split at h
  ·rename_i a0 h0
   split at h
   ·rename_i a1 h1
    split at h
    ·rename_i a2 h2
     split at h
     ·rename_i a3 h3
      split at h
      ·rename_i a4 h4
       split at h
       ·rename_i a5 h5
        split at h
        ·rename_i a6 h6
         split at h
         ·rename_i a7 h7
          split at h
          ·rename_i a8 h8
           split at h
           ·rename_i a9 h9
            split at h
            ·rename_i eT Z4
             split at h
             ·rename_i eK tq
              split at h
              ·rename_i eL v9
               split at h
               ·rename_i eA tt
                split at h
                ·rename_i eB h14
                 cases h
                 exact⟨_,_,_,_,_,_,_,_,_,_,_,_,_,_,_,rfl,h0,h1,h2,h3,h4,h5,h6,h7,h8,h9,Z4,tq,v9,tt,h14⟩
                ·cases h
               ·cases h
              ·cases h
             ·cases h
            ·cases h
           ·cases h
          ·cases h
         ·cases h
        ·cases h
       ·cases h
      ·cases h
     ·cases h
    ·cases h
   ·cases h
  ·cases h
 ·cases h
theorem Oh:eH C 41:=⟨fun x=>cA (cM.cel _) (cA (cC.cel _) (cA (cC.cel _) (cA (FR.cel _) (cA (cM.cel _) (cA (cC.cel _) (cA (Rw.cel _) (cA (Of.cel _) (cA (cM.cel _) (cA (Ca.cel _) (cA (cC.cel _) (cA (Og.cel _) (cA (cM.cel _) (cA (cM.cel _) (cA (cC.cel _) (rfl))))))))))))))),fun x=>bN (cM.len _) (bN (cC.len _) (bN (cC.len _) (bN (FR.len _) (bN (cM.len _) (bN (cC.len _) (bN (Rw.len _) (bN (Of.len _) (bN (cM.len _) (bN (Ca.len _) (bN (cC.len _) (bN (Og.len _) (bN (cM.len _) (bN (cM.len _) (bN (cC.len _) (rfl))))))))))))))),fun x a h=>by obtain⟨x0,x1,x2,x3,x4,x5,x6,x7,x8,x9,dz,ea,ee,ef,x14,rfl,h0,h1,h2,h3,h4,h5,h6,h7,h8,h9,Z4,tq,v9,tt,h14⟩:=gy h;exact CW.append (cM.dec _ _ h0) (CW.append (cC.dec _ _ h1) (CW.append (cC.dec _ _ h2) (CW.append (FR.dec _ _ h3) (CW.append (cM.dec _ _ h4) (CW.append (cC.dec _ _ h5) (CW.append (Rw.dec _ _ h6) (CW.append (Of.dec _ _ h7) (CW.append (cM.dec _ _ h8) (CW.append (Ca.dec _ _ h9) (CW.append (cC.dec _ _ Z4) (CW.append (Og.dec _ _ tq) (CW.append (cM.dec _ _ v9) (CW.append (cM.dec _ _ tt) (CW.append (cC.dec _ _ h14) (CW.refl []))))))))))))))),fun x=>have q:=aO (cM.ok x.Kind) (aO (cC.ok x.cE) (aO (cC.ok x.Request) (aO (FR.ok x.Op) (aO (cM.ok x.Origin) (aO (cC.ok x.Seq) (aO (Rw.ok x.fP) (aO (Of.ok x.aY) (aO (cM.ok x.aS) (aO (Ca.ok x.aH) (aO (cC.ok x.bH) (aO (Og.ok x.Part) (aO (cM.ok x.Site) (aO (cM.ok x.aV) (aO (cC.ok x.Length) (GH)))))))))))))));q,fun x a h=>by obtain⟨x0,x1,x2,x3,x4,x5,x6,x7,x8,x9,dz,ea,ee,ef,x14,rfl,h0,h1,h2,h3,h4,h5,h6,h7,h8,h9,Z4,tq,v9,tt,h14⟩:=gy h;exact aO (cM.cD _ _ h0) (aO (cC.cD _ _ h1) (aO (cC.cD _ _ h2) (aO (FR.cD _ _ h3) (aO (cM.cD _ _ h4) (aO (cC.cD _ _ h5) (aO (Rw.cD _ _ h6) (aO (Of.cD _ _ h7) (aO (cM.cD _ _ h8) (aO (Ca.cD _ _ h9) (aO (cC.cD _ _ Z4) (aO (Og.cD _ _ tq) (aO (cM.cD _ _ v9) (aO (cM.cD _ _ tt) (aO (cC.cD _ _ h14) (rfl))))))))))))))),fun x a h=>by obtain⟨x0,x1,x2,x3,x4,x5,x6,x7,x8,x9,dz,ea,ee,ef,x14,rfl,h0,h1,h2,h3,h4,h5,h6,h7,h8,h9,Z4,tq,v9,tt,h14⟩:=gy h;rfl,fun x=>bM (cM.one _) (bM (cC.one _) (bM (cC.one _) (bM (FR.one _) (bM (cM.one _) (bM (cC.one _) (bM (Rw.one _) (bM (Of.one _) (bM (cM.one _) (bM (Ca.one _) (bM (cC.one _) (bM (Og.one _) (bM (cM.one _) (bM (cM.one _) (bM (cC.one _) (rfl))))))))))))))),fun x=>aW (cM.dB _) (aW (cC.dB _) (aW (cC.dB _) (aW (FR.dB _) (aW (cM.dB _) (aW (cC.dB _) (aW (Rw.dB _) (aW (Of.dB _) (aW (cM.dB _) (aW (Ca.dB _) (aW (cC.dB _) (aW (Og.dB _) (aW (cM.dB _) (aW (cM.dB _) (aW (cC.dB _) (trivial))))))))))))))),(fun ks h=>nomatch h),(fun l s h=>nomatch h),(fun s l h=>nomatch h)⟩
theorem M3 {x:TV τ}{a:aL}(h:M0 x=some a):∃ x0 x1 x2,x=.agg [x0,x1,x2]∧wS x0=some a.Slot∧X5 x1=some a.aG∧UC x2=some a.Entry:=by
 unfold M0 at h
 split at h
 ·rename_i x0 x1 x2
  split at h
  ·rename_i a0 h0
   split at h
   ·rename_i a1 h1
    split at h
    ·rename_i a2 h2
     cases h
     exact⟨_,_,_,rfl,h0,h1,h2⟩
    ·cases h
   ·cases h
  ·cases h
 ·cases h
theorem O6:eH C 155:=⟨fun x=>cA (cC.cel _) (cA (Rv.cel _) (cA (Oh.cel _) (rfl))),fun x=>bN (cC.len _) (bN (Rv.len _) (bN (Oh.len _) (rfl))),fun x a h=>by obtain⟨x0,x1,x2,rfl,h0,h1,h2⟩:=M3 h;exact CW.append (cC.dec _ _ h0) (CW.append (Rv.dec _ _ h1) (CW.append (Oh.dec _ _ h2) (CW.refl []))),fun x=>have q:=aO (cC.ok x.Slot) (aO (Rv.ok x.aG) (aO (Oh.ok x.Entry) (GH)));q,fun x a h=>by obtain⟨x0,x1,x2,rfl,h0,h1,h2⟩:=M3 h;exact aO (cC.cD _ _ h0) (aO (Rv.cD _ _ h1) (aO (Oh.cD _ _ h2) (rfl))),fun x a h=>by obtain⟨x0,x1,x2,rfl,h0,h1,h2⟩:=M3 h;rfl,fun x=>bM (cC.one _) (bM (Rv.one _) (bM (Oh.one _) (rfl))),fun x=>aW (cC.dB _) (aW (Rv.dB _) (aW (Oh.dB _) (trivial))),(fun ks h=>nomatch h),(fun l s h=>nomatch h),(fun s l h=>nomatch h)⟩
theorem UN:eH C 26:=⟨fun x=>rfl,fun x=>rfl,fun x a h=>(jH (C:=C) (show Tq 155 x=some a from h)).1,fun x=>rfl,fun x a h=>(jH (C:=C) (show Tq 155 x=some a from h)).2.1,fun x a h=>(jH (C:=C) (show Tq 155 x=some a from h)).2.2,fun a=>rfl,fun a=>fO (gR.xA fun cs hc=>by obtain⟨y,_,rfl⟩:=List.mem_map.1 hc;exact O6.dB y),(fun ks h=>nomatch h),(fun l s h=>nomatch h),(fun s l h=>nomatch h)⟩
theorem aJb:eH C 27:=let q:=KS;⟨q.cel,q.len,q.dec,q.ok,q.cD,q.agg,q.one,q.dB,q.kd,q.TS,q.VL⟩
theorem aJc:eH C 29:=let q:=FR;⟨q.cel,q.len,q.dec,q.ok,q.cD,q.agg,q.one,q.dB,q.kd,q.TS,q.VL⟩
theorem aJd:eH C 33:=⟨fun x=>rfl,fun x=>FU cC x,fun x a h=>by rw[AH (show NV 2 8 x=some a from h)];exact .refl _,fun x=>rfl,fun x a h=>by rw[AH (show NV 2 8 x=some a from h)];rfl,fun x a h=>by rw[AH (show NV 2 8 x=some a from h)];rfl,fun a=>g7 cC a.toList,fun a=>RZ cC a.toList,fun ks h a b=>by have:=Ov cC (show C.kd 2=some _ from rfl) a.toList b.toList (by simp);simp only[Vector.length_toList]at this;cases h;exact this,(fun l s h=>nomatch h),(fun s l h=>nomatch h)⟩
theorem aJe:eH C 35:=let q:=Of;⟨q.cel,q.len,q.dec,q.ok,q.cD,q.agg,q.one,q.dB,q.kd,q.TS,q.VL⟩
theorem aJf:eH C 38:=let q:=Og;⟨q.cel,q.len,q.dec,q.ok,q.cD,q.agg,q.one,q.dB,q.kd,q.TS,q.VL⟩
theorem aJg:eH C 40:=let q:=Oh;⟨q.cel,q.len,q.dec,q.ok,q.cD,q.agg,q.one,q.dB,q.kd,q.TS,q.VL⟩
theorem gz {x:TV τ}{a:aN}(h:nr x=some a):∃ x0 x1 x2 x3 x4 x5 x6 x7 x8 x9 dz ea ee ef,x=.agg [x0,x1,x2,x3,x4,x5,x6,x7,x8,x9,dz,ea,ee,ef]∧zW x0=some a.Kind∧Yd x1=some a.aS∧Yd x2=some a.To∧X5 x3=some a.aG∧wS x4=some a.Slot∧zd x5=some a.bR∧UC x6=some a.Entry∧wS x7=some a.Number∧YT x8=some a.aH∧wS x9=some a.bH∧zW dz=some a.Origin∧X6 ea=some a.fP∧UA ee=some a.aY∧UB ef=some a.Part:=by
 unfold nr at h
 split at h
 ·rename_i x0 x1 x2 x3 x4 x5 x6 x7 x8 x9 dz ea ee ef
  split at h
  ·rename_i a0 h0
   split at h
   ·rename_i a1 h1
    split at h
    ·rename_i a2 h2
     split at h
     ·rename_i a3 h3
      split at h
      ·rename_i a4 h4
       split at h
       ·rename_i a5 h5
        split at h
        ·rename_i a6 h6
         split at h
         ·rename_i a7 h7
          split at h
          ·rename_i a8 h8
           split at h
           ·rename_i a9 h9
            split at h
            ·rename_i eT Z4
             split at h
             ·rename_i eK tq
              split at h
              ·rename_i eL v9
               split at h
               ·rename_i eA tt
                cases h
                exact⟨_,_,_,_,_,_,_,_,_,_,_,_,_,_,rfl,h0,h1,h2,h3,h4,h5,h6,h7,h8,h9,Z4,tq,v9,tt⟩
               ·cases h
              ·cases h
             ·cases h
            ·cases h
           ·cases h
          ·cases h
         ·cases h
        ·cases h
       ·cases h
      ·cases h
     ·cases h
    ·cases h
   ·cases h
  ·cases h
 ·cases h
theorem aEo:eH C 42:=⟨fun x=>cA (cM.cel _) (cA (jD.cel _) (cA (jD.cel _) (cA (Rv.cel _) (cA (cC.cel _) (cA (UN.cel _) (cA (Oh.cel _) (cA (cC.cel _) (cA (Ca.cel _) (cA (cC.cel _) (cA (cM.cel _) (cA (Rw.cel _) (cA (Of.cel _) (cA (Og.cel _) (rfl)))))))))))))),fun x=>bN (cM.len _) (bN (jD.len _) (bN (jD.len _) (bN (Rv.len _) (bN (cC.len _) (bN (UN.len _) (bN (Oh.len _) (bN (cC.len _) (bN (Ca.len _) (bN (cC.len _) (bN (cM.len _) (bN (Rw.len _) (bN (Of.len _) (bN (Og.len _) (rfl)))))))))))))),fun x a h=>by obtain⟨x0,x1,x2,x3,x4,x5,x6,x7,x8,x9,dz,ea,ee,ef,rfl,h0,h1,h2,h3,h4,h5,h6,h7,h8,h9,Z4,tq,v9,tt⟩:=gz h;exact CW.append (cM.dec _ _ h0) (CW.append (jD.dec _ _ h1) (CW.append (jD.dec _ _ h2) (CW.append (Rv.dec _ _ h3) (CW.append (cC.dec _ _ h4) (CW.append (UN.dec _ _ h5) (CW.append (Oh.dec _ _ h6) (CW.append (cC.dec _ _ h7) (CW.append (Ca.dec _ _ h8) (CW.append (cC.dec _ _ h9) (CW.append (cM.dec _ _ Z4) (CW.append (Rw.dec _ _ tq) (CW.append (Of.dec _ _ v9) (CW.append (Og.dec _ _ tt) (CW.refl [])))))))))))))),fun x=>have q:=aO (cM.ok x.Kind) (aO (jD.ok x.aS) (aO (jD.ok x.To) (aO (Rv.ok x.aG) (aO (cC.ok x.Slot) (aO (UN.ok x.bR) (aO (Oh.ok x.Entry) (aO (cC.ok x.Number) (aO (Ca.ok x.aH) (aO (cC.ok x.bH) (aO (cM.ok x.Origin) (aO (Rw.ok x.fP) (aO (Of.ok x.aY) (aO (Og.ok x.Part) (GH))))))))))))));q,fun x a h=>by obtain⟨x0,x1,x2,x3,x4,x5,x6,x7,x8,x9,dz,ea,ee,ef,rfl,h0,h1,h2,h3,h4,h5,h6,h7,h8,h9,Z4,tq,v9,tt⟩:=gz h;exact aO (cM.cD _ _ h0) (aO (jD.cD _ _ h1) (aO (jD.cD _ _ h2) (aO (Rv.cD _ _ h3) (aO (cC.cD _ _ h4) (aO (UN.cD _ _ h5) (aO (Oh.cD _ _ h6) (aO (cC.cD _ _ h7) (aO (Ca.cD _ _ h8) (aO (cC.cD _ _ h9) (aO (cM.cD _ _ Z4) (aO (Rw.cD _ _ tq) (aO (Of.cD _ _ v9) (aO (Og.cD _ _ tt) (rfl)))))))))))))),fun x a h=>by obtain⟨x0,x1,x2,x3,x4,x5,x6,x7,x8,x9,dz,ea,ee,ef,rfl,h0,h1,h2,h3,h4,h5,h6,h7,h8,h9,Z4,tq,v9,tt⟩:=gz h;rfl,fun x=>bM (cM.one _) (bM (jD.one _) (bM (jD.one _) (bM (Rv.one _) (bM (cC.one _) (bM (UN.one _) (bM (Oh.one _) (bM (cC.one _) (bM (Ca.one _) (bM (cC.one _) (bM (cM.one _) (bM (Rw.one _) (bM (Of.one _) (bM (Og.one _) (rfl)))))))))))))),fun x=>aW (cM.dB _) (aW (jD.dB _) (aW (jD.dB _) (aW (Rv.dB _) (aW (cC.dB _) (aW (UN.dB _) (aW (Oh.dB _) (aW (cC.dB _) (aW (Ca.dB _) (aW (cC.dB _) (aW (cM.dB _) (aW (Rw.dB _) (aW (Of.dB _) (aW (Og.dB _) (trivial)))))))))))))),(fun ks h=>nomatch h),(fun l s h=>nomatch h),(fun s l h=>nomatch h)⟩
theorem aAI:eH C 43:=let q:=aEo;⟨q.cel,q.len,q.dec,q.ok,q.cD,q.agg,q.one,q.dB,q.kd,q.TS,q.VL⟩
theorem aJh:eH C 44:=⟨fun x=>rfl,fun x=>rfl,fun x a h=>by rw[kR (show vN .u16 x=some a from h)];exact .refl _,fun x=>rfl,fun x a h=>by rw[kR (show vN .u16 x=some a from h)];rfl,fun x a h=>by rw[kR (show vN .u16 x=some a from h)];rfl,fun a=>rfl,fun a=>fO (gR.v _),fun ks h a b=>by cases h;simp[eN,Xn,C,Zz,aDQ,RB,aDF],(fun l s h=>nomatch h),(fun s l h=>nomatch h)⟩
theorem UO:eH C 48:=⟨fun x=>rfl,fun x=>rfl,fun x a h=>by rw[kR (show vN .i64 x=some a from h)];exact .refl _,fun x=>rfl,fun x a h=>by rw[kR (show vN .i64 x=some a from h)];rfl,fun x a h=>by rw[kR (show vN .i64 x=some a from h)];rfl,fun a=>rfl,fun a=>fO (gR.v _),fun ks h a b=>by cases h;simp[eN,Xn,C,Zz,yw,RB,aDG],(fun l s h=>nomatch h),(fun s l h=>nomatch h)⟩
theorem UP:eH C 59:=⟨fun x=>rfl,fun x=>rfl,fun x a h=>(jH (C:=C) (show Tq 43 x=some a from h)).1,fun x=>rfl,fun x a h=>(jH (C:=C) (show Tq 43 x=some a from h)).2.1,fun x a h=>(jH (C:=C) (show Tq 43 x=some a from h)).2.2,fun a=>rfl,fun a=>fO (gR.xA fun cs hc=>by obtain⟨y,_,rfl⟩:=List.mem_map.1 hc;exact aAI.dB y),(fun ks h=>nomatch h),(fun l s h=>nomatch h),(fun s l h=>nomatch h)⟩
theorem aJi:eH C 60:=⟨fun x=>rfl,fun x=>rfl,fun x a h=>(jH (C:=C) (show Tq 2 x=some a from h)).1,fun x=>rfl,fun x a h=>(jH (C:=C) (show Tq 2 x=some a from h)).2.1,fun x a h=>(jH (C:=C) (show Tq 2 x=some a from h)).2.2,fun a=>rfl,fun a=>fO (gR.xA fun cs hc=>by obtain⟨y,_,rfl⟩:=List.mem_map.1 hc;exact cC.dB y),(fun ks h=>nomatch h),(fun l s h=>nomatch h),(fun s l h=>nomatch h)⟩
theorem ia {x:TV τ}{a:eW}(h:nt x=some a):∃ x0 x1 x2 x3,x=.agg [x0,x1,x2,x3]∧wS x0=some a.Number∧Yd x1=some a.aS∧Yd x2=some a.To∧NW x3=some a.Data:=by
 unfold nt at h
 split at h
 ·rename_i x0 x1 x2 x3
  split at h
  ·rename_i a0 h0
   split at h
   ·rename_i a1 h1
    split at h
    ·rename_i a2 h2
     split at h
     ·rename_i a3 h3
      cases h
      exact⟨_,_,_,_,rfl,h0,h1,h2,h3⟩
     ·cases h
    ·cases h
   ·cases h
  ·cases h
 ·cases h
theorem aEp:eH C 64:=⟨fun x=>cA (cC.cel _) (cA (jD.cel _) (cA (jD.cel _) (cA (sU.cel _) (rfl)))),fun x=>bN (cC.len _) (bN (jD.len _) (bN (jD.len _) (bN (sU.len _) (rfl)))),fun x a h=>by obtain⟨x0,x1,x2,x3,rfl,h0,h1,h2,h3⟩:=ia h;exact CW.append (cC.dec _ _ h0) (CW.append (jD.dec _ _ h1) (CW.append (jD.dec _ _ h2) (CW.append (sU.dec _ _ h3) (CW.refl [])))),fun x=>have q:=aO (cC.ok x.Number) (aO (jD.ok x.aS) (aO (jD.ok x.To) (aO (sU.ok x.Data) (GH))));q,fun x a h=>by obtain⟨x0,x1,x2,x3,rfl,h0,h1,h2,h3⟩:=ia h;exact aO (cC.cD _ _ h0) (aO (jD.cD _ _ h1) (aO (jD.cD _ _ h2) (aO (sU.cD _ _ h3) (rfl)))),fun x a h=>by obtain⟨x0,x1,x2,x3,rfl,h0,h1,h2,h3⟩:=ia h;rfl,fun x=>bM (cC.one _) (bM (jD.one _) (bM (jD.one _) (bM (sU.one _) (rfl)))),fun x=>aW (cC.dB _) (aW (jD.dB _) (aW (jD.dB _) (aW (sU.dB _) (trivial)))),(fun ks h=>nomatch h),(fun l s h=>nomatch h),(fun s l h=>nomatch h)⟩
theorem aEq:eH C 65:=let q:=aEp;⟨q.cel,q.len,q.dec,q.ok,q.cD,q.agg,q.one,q.dB,q.kd,q.TS,q.VL⟩
theorem UQ:eH C 70:=⟨fun x=>rfl,fun x=>rfl,fun x a h=>(jH (C:=C) (show Tq 23 x=some a from h)).1,fun x=>rfl,fun x a h=>(jH (C:=C) (show Tq 23 x=some a from h)).2.1,fun x a h=>(jH (C:=C) (show Tq 23 x=some a from h)).2.2,fun a=>rfl,fun a=>fO (gR.xA fun cs hc=>by obtain⟨y,_,rfl⟩:=List.mem_map.1 hc;exact jD.dB y),(fun ks h=>nomatch h),(fun l s h=>nomatch h),(fun s l h=>nomatch h)⟩
theorem ib {x:TV τ}{a:aQ}(h:nu x=some a):∃ x0 x1 x2 x3 x4 x5 x6,x=.agg [x0,x1,x2,x3,x4,x5,x6]∧zW x0=some a.Kind∧zg x1=some a.DN∧wS x2=some a.Number∧zW x3=some a.Place∧aFo x4=some a.u6∧zh x5=some a.EN∧zW x6=some a.Stop:=by
 unfold nu at h
 split at h
 ·rename_i x0 x1 x2 x3 x4 x5 x6
  split at h
  ·rename_i a0 h0
   split at h
   ·rename_i a1 h1
    split at h
    ·rename_i a2 h2
     split at h
     ·rename_i a3 h3
      split at h
      ·rename_i a4 h4
       split at h
       ·rename_i a5 h5
        split at h
        ·rename_i a6 h6
         cases h
         exact⟨_,_,_,_,_,_,_,rfl,h0,h1,h2,h3,h4,h5,h6⟩
        ·cases h
       ·cases h
      ·cases h
     ·cases h
    ·cases h
   ·cases h
  ·cases h
 ·cases h
theorem pg:eH C 72:=⟨fun x=>cA (cM.cel _) (cA (UP.cel _) (cA (cC.cel _) (cA (cM.cel _) (cA (y9.cel _) (cA (UQ.cel _) (cA (cM.cel _) (rfl))))))),fun x=>bN (cM.len _) (bN (UP.len _) (bN (cC.len _) (bN (cM.len _) (bN (y9.len _) (bN (UQ.len _) (bN (cM.len _) (rfl))))))),fun x a h=>by obtain⟨x0,x1,x2,x3,x4,x5,x6,rfl,h0,h1,h2,h3,h4,h5,h6⟩:=ib h;exact CW.append (cM.dec _ _ h0) (CW.append (UP.dec _ _ h1) (CW.append (cC.dec _ _ h2) (CW.append (cM.dec _ _ h3) (CW.append (y9.dec _ _ h4) (CW.append (UQ.dec _ _ h5) (CW.append (cM.dec _ _ h6) (CW.refl []))))))),fun x=>have q:=aO (cM.ok x.Kind) (aO (UP.ok x.DN) (aO (cC.ok x.Number) (aO (cM.ok x.Place) (aO (y9.ok x.u6) (aO (UQ.ok x.EN) (aO (cM.ok x.Stop) (GH)))))));q,fun x a h=>by obtain⟨x0,x1,x2,x3,x4,x5,x6,rfl,h0,h1,h2,h3,h4,h5,h6⟩:=ib h;exact aO (cM.cD _ _ h0) (aO (UP.cD _ _ h1) (aO (cC.cD _ _ h2) (aO (cM.cD _ _ h3) (aO (y9.cD _ _ h4) (aO (UQ.cD _ _ h5) (aO (cM.cD _ _ h6) (rfl))))))),fun x a h=>by obtain⟨x0,x1,x2,x3,x4,x5,x6,rfl,h0,h1,h2,h3,h4,h5,h6⟩:=ib h;rfl,fun x=>bM (cM.one _) (bM (UP.one _) (bM (cC.one _) (bM (cM.one _) (bM (y9.one _) (bM (UQ.one _) (bM (cM.one _) (rfl))))))),fun x=>aW (cM.dB _) (aW (UP.dB _) (aW (cC.dB _) (aW (cM.dB _) (aW (y9.dB _) (aW (UQ.dB _) (aW (cM.dB _) (trivial))))))),(fun ks h=>nomatch h),(fun l s h=>nomatch h),(fun s l h=>nomatch h)⟩
theorem aEr:eH C 69:=⟨fun x=>rfl,fun x=>rfl,fun x a h=>(jH (C:=C) (show Tq 72 x=some a from h)).1,fun x=>rfl,fun x a h=>(jH (C:=C) (show Tq 72 x=some a from h)).2.1,fun x a h=>(jH (C:=C) (show Tq 72 x=some a from h)).2.2,fun a=>rfl,fun a=>fO (gR.xA fun cs hc=>by obtain⟨y,_,rfl⟩:=List.mem_map.1 hc;exact pg.dB y),(fun ks h=>nomatch h),(fun l s h=>nomatch h),(fun s l h=>nomatch h)⟩
theorem aJj:eH C 71:=let q:=pg;⟨q.cel,q.len,q.dec,q.ok,q.cD,q.agg,q.one,q.dB,q.kd,q.TS,q.VL⟩
theorem Rx:eH C 75:=⟨fun x=>rfl,fun x=>rfl,fun x a h=>(jH (C:=C) (show Tq 65 x=some a from h)).1,fun x=>rfl,fun x a h=>(jH (C:=C) (show Tq 65 x=some a from h)).2.1,fun x a h=>(jH (C:=C) (show Tq 65 x=some a from h)).2.2,fun a=>rfl,fun a=>fO (gR.xA fun cs hc=>by obtain⟨y,_,rfl⟩:=List.mem_map.1 hc;exact aEq.dB y),(fun ks h=>nomatch h),(fun l s h=>nomatch h),(fun s l h=>nomatch h)⟩
theorem ic {x:TV τ}{a:bS}(h:nv x=some a):∃ x0 x1,x=.agg [x0,x1]∧X8 x0=some a.L∧wS x1=some a.aB9:=by
 unfold nv at h
 split at h
 ·rename_i x0 x1
  split at h
  ·rename_i a0 h0
   split at h
   ·rename_i a1 h1
    cases h
    exact⟨_,_,rfl,h0,h1⟩
   ·cases h
  ·cases h
 ·cases h
theorem aEs:eH C 76:=⟨fun x=>cA (Rx.cel _) (cA (cC.cel _) (rfl)),fun x=>bN (Rx.len _) (bN (cC.len _) (rfl)),fun x a h=>by obtain⟨x0,x1,rfl,h0,h1⟩:=ic h;exact CW.append (Rx.dec _ _ h0) (CW.append (cC.dec _ _ h1) (CW.refl [])),fun x=>have q:=aO (Rx.ok x.L) (aO (cC.ok x.aB9) (GH));q,fun x a h=>by obtain⟨x0,x1,rfl,h0,h1⟩:=ic h;exact aO (Rx.cD _ _ h0) (aO (cC.cD _ _ h1) (rfl)),fun x a h=>by obtain⟨x0,x1,rfl,h0,h1⟩:=ic h;rfl,fun x=>bM (Rx.one _) (bM (cC.one _) (rfl)),fun x=>aW (Rx.dB _) (aW (cC.dB _) (trivial)),(fun ks h=>nomatch h),(fun l s h=>nomatch h),(fun s l h=>nomatch h)⟩
theorem aJk:eH C 77:=let q:=aEs;⟨q.cel,q.len,q.dec,q.ok,q.cD,q.agg,q.one,q.dB,q.kd,q.TS,q.VL⟩
theorem ie {x:TV τ}{a:mV}(h:nw x=some a):∃ x0 x1,x=.agg [x0,x1]∧X8 x0=some a.wait∧wS x1=some a.last:=by
 unfold nw at h
 split at h
 ·rename_i x0 x1
  split at h
  ·rename_i a0 h0
   split at h
   ·rename_i a1 h1
    cases h
    exact⟨_,_,rfl,h0,h1⟩
   ·cases h
  ·cases h
 ·cases h
theorem aEt:eH C 79:=⟨fun x=>cA (Rx.cel _) (cA (cC.cel _) (rfl)),fun x=>bN (Rx.len _) (bN (cC.len _) (rfl)),fun x a h=>by obtain⟨x0,x1,rfl,h0,h1⟩:=ie h;exact CW.append (Rx.dec _ _ h0) (CW.append (cC.dec _ _ h1) (CW.refl [])),fun x=>have q:=aO (Rx.ok x.wait) (aO (cC.ok x.last) (GH));q,fun x a h=>by obtain⟨x0,x1,rfl,h0,h1⟩:=ie h;exact aO (Rx.cD _ _ h0) (aO (cC.cD _ _ h1) (rfl)),fun x a h=>by obtain⟨x0,x1,rfl,h0,h1⟩:=ie h;rfl,fun x=>bM (Rx.one _) (bM (cC.one _) (rfl)),fun x=>aW (Rx.dB _) (aW (cC.dB _) (trivial)),(fun ks h=>nomatch h),(fun l s h=>nomatch h),(fun s l h=>nomatch h)⟩
theorem UR:eH C 80:=let q:=aEt;⟨q.cel,q.len,q.dec,q.ok,q.cD,q.agg,q.one,q.dB,q.kd,q.TS,q.VL⟩
theorem ig {x:TV τ}{a:yO}(h:nz x=some a):∃ x0 x1,x=.agg [x0,x1]∧zi x0=some a.queue∧ze x1=some a.made:=by
 unfold nz at h
 split at h
 ·rename_i x0 x1
  split at h
  ·rename_i a0 h0
   split at h
   ·rename_i a1 h1
    cases h
    exact⟨_,_,rfl,h0,h1⟩
   ·cases h
  ·cases h
 ·cases h
theorem aEu:eH C 81:=⟨fun x=>cA (UR.cel _) (cA (MB.cel _) (rfl)),fun x=>bN (UR.len _) (bN (MB.len _) (rfl)),fun x a h=>by obtain⟨x0,x1,rfl,h0,h1⟩:=ig h;exact CW.append (UR.dec _ _ h0) (CW.append (MB.dec _ _ h1) (CW.refl [])),fun x=>have q:=aO (UR.ok x.queue) (aO (MB.ok x.made) (GH));q,fun x a h=>by obtain⟨x0,x1,rfl,h0,h1⟩:=ig h;exact aO (UR.cD _ _ h0) (aO (MB.cD _ _ h1) (rfl)),fun x a h=>by obtain⟨x0,x1,rfl,h0,h1⟩:=ig h;rfl,fun x=>bM (UR.one _) (bM (MB.one _) (rfl)),fun x=>aW (UR.dB _) (aW (MB.dB _) (trivial)),(fun ks h=>nomatch h),(fun l s h=>nomatch h),(fun s l h=>nomatch h)⟩
theorem aJl:eH C 82:=let q:=aEu;⟨q.cel,q.len,q.dec,q.ok,q.cD,q.agg,q.one,q.dB,q.kd,q.TS,q.VL⟩
theorem aGg:eH C 138:=⟨fun x=>rfl,fun x=>rfl,fun x a h=>by rw[kR (show vN .u32 x=some a from h)];exact .refl _,fun x=>rfl,fun x a h=>by rw[kR (show vN .u32 x=some a from h)];rfl,fun x a h=>by rw[kR (show vN .u32 x=some a from h)];rfl,fun a=>rfl,fun a=>fO (gR.v _),fun ks h a b=>by cases h;simp[eN,Xn,C,Zz,yl,RB,xv],(fun l s h=>nomatch h),(fun s l h=>nomatch h)⟩
theorem aGh:eH C 140:=⟨fun x=>rfl,fun x=>rfl,fun x a h=>by rw[kR (show vN .u64 x=some a from h)];exact .refl _,fun x=>rfl,fun x a h=>by rw[kR (show vN .u64 x=some a from h)];rfl,fun x a h=>by rw[kR (show vN .u64 x=some a from h)];rfl,fun a=>rfl,fun a=>fO (gR.v _),fun ks h a b=>by cases h;simp[eN,Xn,C,Zz,ym,RB,xw],(fun l s h=>nomatch h),(fun s l h=>nomatch h)⟩
theorem aGi:eH C 154:=let q:=O6;⟨q.cel,q.len,q.dec,q.ok,q.cD,q.agg,q.one,q.dB,q.kd,q.TS,q.VL⟩
theorem M4 {x:TV τ}{a:aA}(h:YR x=some a):∃ x0 x1,x=.agg [x0,x1]∧ze x0=some a.made∧NW x1=some a.b:=by
 unfold YR at h
 split at h
 ·rename_i x0 x1
  split at h
  ·rename_i a0 h0
   split at h
   ·rename_i a1 h1
    cases h
    exact⟨_,_,rfl,h0,h1⟩
   ·cases h
  ·cases h
 ·cases h
theorem kb:eH C 165:=⟨fun x=>cA (MB.cel _) (cA (sU.cel _) (rfl)),fun x=>bN (MB.len _) (bN (sU.len _) (rfl)),fun x a h=>by obtain⟨x0,x1,rfl,h0,h1⟩:=M4 h;exact CW.append (MB.dec _ _ h0) (CW.append (sU.dec _ _ h1) (CW.refl [])),fun x=>have q:=aO (MB.ok x.made) (aO (sU.ok x.b) (GH));q,fun x a h=>by obtain⟨x0,x1,rfl,h0,h1⟩:=M4 h;exact aO (MB.cD _ _ h0) (aO (sU.cD _ _ h1) (rfl)),fun x a h=>by obtain⟨x0,x1,rfl,h0,h1⟩:=M4 h;rfl,fun x=>bM (MB.one _) (bM (sU.one _) (rfl)),fun x=>aW (MB.dB _) (aW (sU.dB _) (trivial)),(fun ks h=>nomatch h),(fun l s h=>nomatch h),(fun s l h=>nomatch h)⟩
theorem aGj:eH C 166:=let q:=kb;⟨q.cel,q.len,q.dec,q.ok,q.cD,q.agg,q.one,q.dB,q.kd,q.TS,q.VL⟩
theorem aGk:eH C 186:=let q:=kb;⟨q.cel,q.len,q.dec,q.ok,q.cD,q.agg,q.one,q.dB,q.kd,q.TS,q.VL⟩
theorem M5 {x:TV τ}{a:dJ}(h:M1 x=some a):∃ x0 x1 x2,x=.agg [x0,x1,x2]∧NW x0=some a.B∧zW x1=some a.At∧zf x2=some a.E:=by
 unfold M1 at h
 split at h
 ·rename_i x0 x1 x2
  split at h
  ·rename_i a0 h0
   split at h
   ·rename_i a1 h1
    split at h
    ·rename_i a2 h2
     cases h
     exact⟨_,_,_,rfl,h0,h1,h2⟩
    ·cases h
   ·cases h
  ·cases h
 ·cases h
theorem aAG:eH C 192:=⟨fun x=>cA (sU.cel _) (cA (cM.cel _) (cA (UO.cel _) (rfl))),fun x=>bN (sU.len _) (bN (cM.len _) (bN (UO.len _) (rfl))),fun x a h=>by obtain⟨x0,x1,x2,rfl,h0,h1,h2⟩:=M5 h;exact CW.append (sU.dec _ _ h0) (CW.append (cM.dec _ _ h1) (CW.append (UO.dec _ _ h2) (CW.refl []))),fun x=>have q:=aO (sU.ok x.B) (aO (cM.ok x.At) (aO (UO.ok x.E) (GH)));q,fun x a h=>by obtain⟨x0,x1,x2,rfl,h0,h1,h2⟩:=M5 h;exact aO (sU.cD _ _ h0) (aO (cM.cD _ _ h1) (aO (UO.cD _ _ h2) (rfl))),fun x a h=>by obtain⟨x0,x1,x2,rfl,h0,h1,h2⟩:=M5 h;rfl,fun x=>bM (sU.one _) (bM (cM.one _) (bM (UO.one _) (rfl))),fun x=>aW (sU.dB _) (aW (cM.dB _) (aW (UO.dB _) (trivial))),(fun ks h=>nomatch h),(fun l s h=>nomatch h),(fun s l h=>nomatch h)⟩
theorem aGl:eH C 193:=let q:=aAG;⟨q.cel,q.len,q.dec,q.ok,q.cD,q.agg,q.one,q.dB,q.kd,q.TS,q.VL⟩
theorem aGm:eH C 194:=⟨fun x=>rfl,fun x=>rfl,fun x a h=>(jH (C:=C) (show Tq 3 x=some a from h)).1,fun x=>rfl,fun x a h=>(jH (C:=C) (show Tq 3 x=some a from h)).2.1,fun x a h=>(jH (C:=C) (show Tq 3 x=some a from h)).2.2,fun a=>rfl,fun a=>fO (gR.xA fun cs hc=>by obtain⟨y,_,rfl⟩:=List.mem_map.1 hc;exact cM.dB y),(fun ks h=>nomatch h),(fun l s h=>nomatch h),(fun s l h=>nomatch h)⟩
theorem aGn:eH C 201:=⟨fun x=>rfl,fun x=>rfl,fun x a h=>(jH (C:=C) (show Tq 37 x=some a from h)).1,fun x=>rfl,fun x a h=>(jH (C:=C) (show Tq 37 x=some a from h)).2.1,fun x a h=>(jH (C:=C) (show Tq 37 x=some a from h)).2.2,fun a=>rfl,fun a=>fO (gR.xA fun cs hc=>by obtain⟨y,_,rfl⟩:=List.mem_map.1 hc;exact sU.dB y),(fun ks h=>nomatch h),(fun l s h=>nomatch h),(fun s l h=>nomatch h)⟩
theorem aGo:eH C 203:=⟨fun x=>rfl,fun x=>rfl,fun x a h=>by rw[kR (show vN .u64 x=some a from h)];exact .refl _,fun x=>rfl,fun x a h=>by rw[kR (show vN .u64 x=some a from h)];rfl,fun x a h=>by rw[kR (show vN .u64 x=some a from h)];rfl,fun a=>rfl,fun a=>fO (gR.v _),fun ks h a b=>by cases h;simp[eN,Xn,C,Zz,yp,RB,xy],(fun l s h=>nomatch h),(fun s l h=>nomatch h)⟩
theorem aGp:eH C 229:=⟨fun x=>rfl,fun x=>rfl,fun x a h=>(jH (C:=C) (show Tq 9 x=some a from h)).1,fun x=>rfl,fun x a h=>(jH (C:=C) (show Tq 9 x=some a from h)).2.1,fun x a h=>(jH (C:=C) (show Tq 9 x=some a from h)).2.2,fun a=>rfl,fun a=>fO (gR.xA fun cs hc=>by obtain⟨y,_,rfl⟩:=List.mem_map.1 hc;exact Ls.dB y),(fun ks h=>nomatch h),(fun l s h=>nomatch h),(fun s l h=>nomatch h)⟩
theorem RE {x:TV τ}{a:bJ}(h:YS x=some a):∃ x0 x1 x2 x3,x=.agg [x0,x1,x2,x3]∧wS x0=some a.Number∧Yd x1=some a.aS∧Yd x2=some a.To∧YQ x3=some a.Data:=by
 unfold YS at h
 split at h
 ·rename_i x0 x1 x2 x3
  split at h
  ·rename_i a0 h0
   split at h
   ·rename_i a1 h1
    split at h
    ·rename_i a2 h2
     split at h
     ·rename_i a3 h3
      cases h
      exact⟨_,_,_,_,rfl,h0,h1,h2,h3⟩
     ·cases h
    ·cases h
   ·cases h
  ·cases h
 ·cases h
theorem aAH:eH C 20065:=⟨fun x=>cA (cC.cel _) (cA (jD.cel _) (cA (jD.cel _) (cA (Lq.cel _) (rfl)))),fun x=>bN (cC.len _) (bN (jD.len _) (bN (jD.len _) (bN (Lq.len _) (rfl)))),fun x a h=>by obtain⟨x0,x1,x2,x3,rfl,h0,h1,h2,h3⟩:=RE h;exact CW.append (cC.dec _ _ h0) (CW.append (jD.dec _ _ h1) (CW.append (jD.dec _ _ h2) (CW.append (Lq.dec _ _ h3) (CW.refl [])))),fun x=>have q:=aO (cC.ok x.Number) (aO (jD.ok x.aS) (aO (jD.ok x.To) (aO (Lq.ok x.Data) (GH))));q,fun x a h=>by obtain⟨x0,x1,x2,x3,rfl,h0,h1,h2,h3⟩:=RE h;exact aO (cC.cD _ _ h0) (aO (jD.cD _ _ h1) (aO (jD.cD _ _ h2) (aO (Lq.cD _ _ h3) (rfl)))),fun x a h=>by obtain⟨x0,x1,x2,x3,rfl,h0,h1,h2,h3⟩:=RE h;rfl,fun x=>bM (cC.one _) (bM (jD.one _) (bM (jD.one _) (bM (Lq.one _) (rfl)))),fun x=>aW (cC.dB _) (aW (jD.dB _) (aW (jD.dB _) (aW (Lq.dB _) (trivial)))),(fun ks h=>nomatch h),(fun l s h=>nomatch h),(fun s l h=>nomatch h)⟩
theorem lawX {t:Nat}(h:Zz t=fun _=>[])(h1:aAb t=fun _=>.agg [])(h2:VS t=fun _=>none)(h3:szT t=0)(h4:kdT t=none)(h5:aCc t=fun _=>none)(h6:aC0 t=fun _=>none):eH C t:=by
 refine⟨fun x=>?_,fun x=>?_,fun x a hx=>?_,fun x=>?_,fun x a hx=>?_,fun x a hx=>?_,fun a=>?_,fun a=>?_,fun ks hk=>?_,fun l s hl=>?_,fun s l hl=>?_⟩
 ·show (aAb t x).cells C=Zz t x;rw[h,h1];rfl
 ·show (Zz t x).length=szT t;rw[h,h3];rfl
 ·have e:VS t x=some a:=hx;rw[h2]at e;cases e
 ·show (aAb t x).ok=true;rw[h1];rfl
 ·have e:VS t x=some a:=hx;rw[h2]at e;cases e
 ·have e:VS t x=some a:=hx;rw[h2]at e;cases e
 ·show (Zz t a).all AV.one=true;rw[h];rfl
 ·show rA (Zz t a);rw[h];trivial
 ·have e:kdT t=some ks:=hk;rw[h4]at e;cases e
 ·have e:aCc t l=some s:=hl;rw[h5]at e;cases e
 ·have e:aC0 t s=some l:=hl;rw[h6]at e;cases e
theorem aAJ:∀ t:Nat,t≠2→t≠3→t≠4→t≠5→t≠9→t≠12→t≠21→t≠22→t≠23→t≠24→t≠25→t≠26→t≠27→t≠28→t≠29→t≠30→t≠31→t≠32→t≠33→t≠34→t≠35→t≠36→t≠37→t≠38→t≠39→t≠40→t≠41→t≠42→t≠43→t≠44→t≠48→t≠59→t≠60→t≠64→t≠65→t≠69→t≠70→t≠71→t≠72→t≠75→t≠76→t≠77→t≠79→t≠80→t≠81→t≠82→t≠138→t≠140→t≠154→t≠155→t≠165→t≠166→t≠186→t≠192→t≠193→t≠194→t≠201→t≠203→t≠229→t≠20065→t≠10005→eH C t
 |t,h2,h3,h4,h5,h9,v9,h21,h22,h23,h24,h25,h26,h27,h28,h29,h30,h31,h32,h33,h34,h35,h36,h37,h38,h39,h40,h41,h42,h43,h44,h48,h59,h60,h64,h65,h69,h70,h71,h72,h75,h76,h77,h79,h80,h81,h82,aFM,aFN,aFO,aFP,aFQ,aFR,aFS,aFT,aFU,aFV,aFW,aFX,aFY,jd,jb=>by
  apply lawX<;>first
   |(unfold Zz;split<;>first|rfl|contradiction | (exfalso;omega))
   |(unfold aAb;split<;>first|rfl|contradiction | (exfalso;omega))
   |(unfold VS;split<;>first|rfl|contradiction | (exfalso;omega))
   |(unfold szT;split<;>first|rfl|contradiction | (exfalso;omega))
   |(unfold kdT;split<;>first|rfl|contradiction | (exfalso;omega))
   |(unfold aCc;split<;>first|rfl|contradiction | (exfalso;omega))
   |(unfold aC0;split<;>first|rfl|contradiction | (exfalso;omega))
theorem cOk:C.Ok:=eY.Ok.of fun t=>by
 by_cases h2:t=2
 ·subst h2;exact cC
 by_cases h3:t=3
 ·subst h3;exact cM
 by_cases h4:t=4
 ·subst h4;exact MB
 by_cases h5:t=5
 ·subst h5;exact y9
 by_cases h9:t=9
 ·subst h9;exact Ls
 by_cases v9:t=12
 ·subst v9;exact aI9
 by_cases h21:t=21
 ·subst h21;exact aJa
 by_cases h22:t=22
 ·subst h22;exact aEm
 by_cases h23:t=23
 ·subst h23;exact jD
 by_cases h24:t=24
 ·subst h24;exact aEn
 by_cases h25:t=25
 ·subst h25;exact Rv
 by_cases h26:t=26
 ·subst h26;exact UN
 by_cases h27:t=27
 ·subst h27;exact aJb
 by_cases h28:t=28
 ·subst h28;exact KS
 by_cases h29:t=29
 ·subst h29;exact aJc
 by_cases h30:t=30
 ·subst h30;exact FR
 by_cases h31:t=31
 ·subst h31;exact Rw
 by_cases h32:t=32
 ·subst h32;exact Lr
 by_cases h33:t=33
 ·subst h33;exact aJd
 by_cases h34:t=34
 ·subst h34;exact Ca
 by_cases h35:t=35
 ·subst h35;exact aJe
 by_cases h36:t=36
 ·subst h36;exact Of
 by_cases h37:t=37
 ·subst h37;exact sU
 by_cases h38:t=38
 ·subst h38;exact aJf
 by_cases h39:t=39
 ·subst h39;exact Og
 by_cases h40:t=40
 ·subst h40;exact aJg
 by_cases h41:t=41
 ·subst h41;exact Oh
 by_cases h42:t=42
 ·subst h42;exact aEo
 by_cases h43:t=43
 ·subst h43;exact aAI
 by_cases h44:t=44
 ·subst h44;exact aJh
 by_cases h48:t=48
 ·subst h48;exact UO
 by_cases h59:t=59
 ·subst h59;exact UP
 by_cases h60:t=60
 ·subst h60;exact aJi
 by_cases h64:t=64
 ·subst h64;exact aEp
 by_cases h65:t=65
 ·subst h65;exact aEq
 by_cases h69:t=69
 ·subst h69;exact aEr
 by_cases h70:t=70
 ·subst h70;exact UQ
 by_cases h71:t=71
 ·subst h71;exact aJj
 by_cases h72:t=72
 ·subst h72;exact pg
 by_cases h75:t=75
 ·subst h75;exact Rx
 by_cases h76:t=76
 ·subst h76;exact aEs
 by_cases h77:t=77
 ·subst h77;exact aJk
 by_cases h79:t=79
 ·subst h79;exact aEt
 by_cases h80:t=80
 ·subst h80;exact UR
 by_cases h81:t=81
 ·subst h81;exact aEu
 by_cases h82:t=82
 ·subst h82;exact aJl
 by_cases aFM:t=138
 ·subst aFM;exact aGg
 by_cases aFN:t=140
 ·subst aFN;exact aGh
 by_cases aFO:t=154
 ·subst aFO;exact aGi
 by_cases aFP:t=155
 ·subst aFP;exact O6
 by_cases aFQ:t=165
 ·subst aFQ;exact kb
 by_cases aFR:t=166
 ·subst aFR;exact aGj
 by_cases aFS:t=186
 ·subst aFS;exact aGk
 by_cases aFT:t=192
 ·subst aFT;exact aAG
 by_cases aFU:t=193
 ·subst aFU;exact aGl
 by_cases aFV:t=194
 ·subst aFV;exact aGm
 by_cases aFW:t=201
 ·subst aFW;exact aGn
 by_cases aFX:t=203
 ·subst aFX;exact aGo
 by_cases aFY:t=229
 ·subst aFY;exact aGp
 by_cases jd:t=20065
 ·subst jd;exact aAH
 by_cases jb:t=10005
 ·subst jb;exact Lq
 exact aAJ t h2 h3 h4 h5 h9 v9 h21 h22 h23 h24 h25 h26 h27 h28 h29 h30 h31 h32 h33 h34 h35 h36 h37 h38 h39 h40 h41 h42 h43 h44 h48 h59 h60 h64 h65 h69 h70 h71 h72 h75 h76 h77 h79 h80 h81 h82 aFM aFN aFO aFP aFQ aFR aFS aFT aFU aFV aFW aFX aFY jd jb
def oi:TV τ:=.int .i64 0
def aB7:Nat→Option (TV τ)
 |2=>some (oi)
 |3=>some (oi)
 |4=>some (.bool false)
 |5=>some (.int .u8 0)
 |9=>some (.str [])
 |12=>some (.int .u64 0)
 |21=>some (.int .i32 0)
 |22=>some (.agg [oi,oi])
 |23=>some (.agg [oi,oi])
 |24=>some (.agg [oi,oi])
 |25=>some (.agg [oi,oi])
 |26=>some (.nil .slice)
 |27=>some (.agg [oi,oi])
 |28=>some (.agg [oi,oi])
 |29=>some (.agg [.agg [oi,oi],oi,oi,oi,(.str []),(.str []),(.str [])])
 |30=>some (.agg [.agg [oi,oi],oi,oi,oi,(.str []),(.str []),(.str [])])
 |31=>some (.nil .slice)
 |32=>some (.arr 3 8 (Vector.replicate 8 (default:Int)))
 |33=>some (.arr 2 8 (Vector.replicate 8 (default:Int)))
 |34=>some (.arr 2 8 (Vector.replicate 8 (default:Int)))
 |35=>some (.agg [oi,(.arr 3 8 (Vector.replicate 8 (default:Int))),(.arr 2 8 (Vector.replicate 8 (default:Int))),(.arr 3 8 (Vector.replicate 8 (default:Int)))])
 |36=>some (.agg [oi,(.arr 3 8 (Vector.replicate 8 (default:Int))),(.arr 2 8 (Vector.replicate 8 (default:Int))),(.arr 3 8 (Vector.replicate 8 (default:Int)))])
 |37=>some (.nil .slice)
 |38=>some (.agg [oi,oi,oi,(.nil .slice)])
 |39=>some (.agg [oi,oi,oi,(.nil .slice)])
 |40=>some (.agg [oi,oi,oi,.agg [.agg [oi,oi],oi,oi,oi,(.str []),(.str []),(.str [])],oi,oi,(.nil .slice),.agg [oi,(.arr 3 8 (Vector.replicate 8 (default:Int))),(.arr 2 8 (Vector.replicate 8 (default:Int))),(.arr 3 8 (Vector.replicate 8 (default:Int)))],oi,(.arr 2 8 (Vector.replicate 8 (default:Int))),oi,.agg [oi,oi,oi,(.nil .slice)],oi,oi,oi])
 |41=>some (.agg [oi,oi,oi,.agg [.agg [oi,oi],oi,oi,oi,(.str []),(.str []),(.str [])],oi,oi,(.nil .slice),.agg [oi,(.arr 3 8 (Vector.replicate 8 (default:Int))),(.arr 2 8 (Vector.replicate 8 (default:Int))),(.arr 3 8 (Vector.replicate 8 (default:Int)))],oi,(.arr 2 8 (Vector.replicate 8 (default:Int))),oi,.agg [oi,oi,oi,(.nil .slice)],oi,oi,oi])
 |42=>some (.agg [oi,.agg [oi,oi],.agg [oi,oi],.agg [oi,oi],oi,(.nil .slice),.agg [oi,oi,oi,.agg [.agg [oi,oi],oi,oi,oi,(.str []),(.str []),(.str [])],oi,oi,(.nil .slice),.agg [oi,(.arr 3 8 (Vector.replicate 8 (default:Int))),(.arr 2 8 (Vector.replicate 8 (default:Int))),(.arr 3 8 (Vector.replicate 8 (default:Int)))],oi,(.arr 2 8 (Vector.replicate 8 (default:Int))),oi,.agg [oi,oi,oi,(.nil .slice)],oi,oi,oi],oi,(.arr 2 8 (Vector.replicate 8 (default:Int))),oi,oi,(.nil .slice),.agg [oi,(.arr 3 8 (Vector.replicate 8 (default:Int))),(.arr 2 8 (Vector.replicate 8 (default:Int))),(.arr 3 8 (Vector.replicate 8 (default:Int)))],.agg [oi,oi,oi,(.nil .slice)]])
 |43=>some (.agg [oi,.agg [oi,oi],.agg [oi,oi],.agg [oi,oi],oi,(.nil .slice),.agg [oi,oi,oi,.agg [.agg [oi,oi],oi,oi,oi,(.str []),(.str []),(.str [])],oi,oi,(.nil .slice),.agg [oi,(.arr 3 8 (Vector.replicate 8 (default:Int))),(.arr 2 8 (Vector.replicate 8 (default:Int))),(.arr 3 8 (Vector.replicate 8 (default:Int)))],oi,(.arr 2 8 (Vector.replicate 8 (default:Int))),oi,.agg [oi,oi,oi,(.nil .slice)],oi,oi,oi],oi,(.arr 2 8 (Vector.replicate 8 (default:Int))),oi,oi,(.nil .slice),.agg [oi,(.arr 3 8 (Vector.replicate 8 (default:Int))),(.arr 2 8 (Vector.replicate 8 (default:Int))),(.arr 3 8 (Vector.replicate 8 (default:Int)))],.agg [oi,oi,oi,(.nil .slice)]])
 |44=>some (.int .u16 0)
 |45=>some (.nil .ptr)
 |48=>some (oi)
 |59=>some (.nil .slice)
 |60=>some (.nil .slice)
 |64=>some (.agg [oi,.agg [oi,oi],.agg [oi,oi],(.nil .slice)])
 |65=>some (.agg [oi,.agg [oi,oi],.agg [oi,oi],(.nil .slice)])
 |69=>some (.nil .slice)
 |70=>some (.nil .slice)
 |71=>some (.agg [oi,(.nil .slice),oi,oi,(.int .u8 0),(.nil .slice),oi])
 |72=>some (.agg [oi,(.nil .slice),oi,oi,(.int .u8 0),(.nil .slice),oi])
 |75=>some (.nil .slice)
 |76=>some (.agg [(.nil .slice),oi])
 |77=>some (.agg [(.nil .slice),oi])
 |79=>some (.agg [(.nil .slice),oi])
 |80=>some (.agg [(.nil .slice),oi])
 |81=>some (.agg [.agg [(.nil .slice),oi],(.bool false)])
 |82=>some (.agg [.agg [(.nil .slice),oi],(.bool false)])
 |112=>some (.nil .ptr)
 |115=>some (.agg [(.nil .ptr),oi])
 |138=>some (.int .u32 0)
 |140=>some (.int .u64 0)
 |146=>some (.nil .ptr)
 |149=>some (.agg [(.nil .ptr),oi])
 |154=>some (.agg [oi,.agg [oi,oi],.agg [oi,oi,oi,.agg [.agg [oi,oi],oi,oi,oi,(.str []),(.str []),(.str [])],oi,oi,(.nil .slice),.agg [oi,(.arr 3 8 (Vector.replicate 8 (default:Int))),(.arr 2 8 (Vector.replicate 8 (default:Int))),(.arr 3 8 (Vector.replicate 8 (default:Int)))],oi,(.arr 2 8 (Vector.replicate 8 (default:Int))),oi,.agg [oi,oi,oi,(.nil .slice)],oi,oi,oi]])
 |155=>some (.agg [oi,.agg [oi,oi],.agg [oi,oi,oi,.agg [.agg [oi,oi],oi,oi,oi,(.str []),(.str []),(.str [])],oi,oi,(.nil .slice),.agg [oi,(.arr 3 8 (Vector.replicate 8 (default:Int))),(.arr 2 8 (Vector.replicate 8 (default:Int))),(.arr 3 8 (Vector.replicate 8 (default:Int)))],oi,(.arr 2 8 (Vector.replicate 8 (default:Int))),oi,.agg [oi,oi,oi,(.nil .slice)],oi,oi,oi]])
 |165=>some (.agg [(.bool false),(.nil .slice)])
 |166=>some (.agg [(.bool false),(.nil .slice)])
 |186=>some (.agg [(.bool false),(.nil .slice)])
 |188=>some (.nil .ptr)
 |192=>some (.agg [(.nil .slice),oi,oi])
 |193=>some (.agg [(.nil .slice),oi,oi])
 |194=>some (.nil .slice)
 |201=>some (.nil .slice)
 |203=>some (.int .u64 0)
 |206=>some (.nil .slice)
 |209=>some (.nil .ptr)
 |226=>some (.nil .slice)
 |229=>some (.nil .slice)
 |_=>none
def Cw (t:Nat)(z:TV τ):Prop:=∃ i,E.ty t=some i∧z.ok=true∧CW i.zero (z.cells C)∧z.isAgg=i.agg
theorem zok2:Cw 2 (oi):=⟨ti2,rfl,rfl,CW.of_eq (by kernel_rfl),rfl⟩
theorem zok3:Cw 3 (oi):=⟨ti3,rfl,rfl,CW.of_eq (by kernel_rfl),rfl⟩
theorem zok4:Cw 4 (.bool false):=⟨ti4,rfl,rfl,CW.of_eq (by kernel_rfl),rfl⟩
theorem zok5:Cw 5 (.int .u8 0):=⟨ti5,rfl,rfl,CW.of_eq (by kernel_rfl),rfl⟩
theorem zok9:Cw 9 (.str []):=⟨ti9,rfl,rfl,CW.of_eq (by kernel_rfl),rfl⟩
theorem aJZ:Cw 12 (.int .u64 0):=⟨aGJ,rfl,rfl,CW.of_eq (by kernel_rfl),rfl⟩
theorem aJ0:Cw 21 (.int .i32 0):=⟨aGK,rfl,rfl,CW.of_eq (by kernel_rfl),rfl⟩
theorem aJ1:Cw 22 (.agg [oi,oi]):=⟨aC7,rfl,rfl,CW.of_eq (by kernel_rfl),rfl⟩
theorem aJ2:Cw 23 (.agg [oi,oi]):=⟨aGL,rfl,rfl,CW.of_eq (by kernel_rfl),rfl⟩
theorem aJ3:Cw 24 (.agg [oi,oi]):=⟨aC8,rfl,rfl,CW.of_eq (by kernel_rfl),rfl⟩
theorem aJ4:Cw 25 (.agg [oi,oi]):=⟨aGM,rfl,rfl,CW.of_eq (by kernel_rfl),rfl⟩
theorem aJ5:Cw 26 (.nil .slice):=⟨aGN,rfl,rfl,CW.of_eq (by kernel_rfl),rfl⟩
theorem aJ6:Cw 27 (.agg [oi,oi]):=⟨aC9,rfl,rfl,CW.of_eq (by kernel_rfl),rfl⟩
theorem aJ7:Cw 28 (.agg [oi,oi]):=⟨aGO,rfl,rfl,CW.of_eq (by kernel_rfl),rfl⟩
theorem aJ8:Cw 29 (.agg [.agg [oi,oi],oi,oi,oi,(.str []),(.str []),(.str [])]):=⟨aDa,rfl,rfl,CW.of_eq (by kernel_rfl),rfl⟩
theorem aJ9:Cw 30 (.agg [.agg [oi,oi],oi,oi,oi,(.str []),(.str []),(.str [])]):=⟨aGP,rfl,rfl,CW.of_eq (by kernel_rfl),rfl⟩
theorem aKa:Cw 31 (.nil .slice):=⟨aGQ,rfl,rfl,CW.of_eq (by kernel_rfl),rfl⟩
theorem aKb:Cw 32 (.arr 3 8 (Vector.replicate 8 (default:Int))):=⟨aGR,rfl,rfl,CW.of_eq (by kernel_rfl),rfl⟩
theorem aKc:Cw 33 (.arr 2 8 (Vector.replicate 8 (default:Int))):=⟨aGS,rfl,rfl,CW.of_eq (by kernel_rfl),rfl⟩
theorem aKd:Cw 34 (.arr 2 8 (Vector.replicate 8 (default:Int))):=⟨aGT,rfl,rfl,CW.of_eq (by kernel_rfl),rfl⟩
theorem aKe:Cw 35 (.agg [oi,(.arr 3 8 (Vector.replicate 8 (default:Int))),(.arr 2 8 (Vector.replicate 8 (default:Int))),(.arr 3 8 (Vector.replicate 8 (default:Int)))]):=⟨aDb,rfl,rfl,CW.of_eq (by kernel_rfl),rfl⟩
theorem aKf:Cw 36 (.agg [oi,(.arr 3 8 (Vector.replicate 8 (default:Int))),(.arr 2 8 (Vector.replicate 8 (default:Int))),(.arr 3 8 (Vector.replicate 8 (default:Int)))]):=⟨aGU,rfl,rfl,CW.of_eq (by kernel_rfl),rfl⟩
theorem aKg:Cw 37 (.nil .slice):=⟨aGV,rfl,rfl,CW.of_eq (by kernel_rfl),rfl⟩
theorem aKh:Cw 38 (.agg [oi,oi,oi,(.nil .slice)]):=⟨aDc,rfl,rfl,CW.of_eq (by kernel_rfl),rfl⟩
theorem aKi:Cw 39 (.agg [oi,oi,oi,(.nil .slice)]):=⟨aGW,rfl,rfl,CW.of_eq (by kernel_rfl),rfl⟩
theorem aKj:Cw 40 (.agg [oi,oi,oi,.agg [.agg [oi,oi],oi,oi,oi,(.str []),(.str []),(.str [])],oi,oi,(.nil .slice),.agg [oi,(.arr 3 8 (Vector.replicate 8 (default:Int))),(.arr 2 8 (Vector.replicate 8 (default:Int))),(.arr 3 8 (Vector.replicate 8 (default:Int)))],oi,(.arr 2 8 (Vector.replicate 8 (default:Int))),oi,.agg [oi,oi,oi,(.nil .slice)],oi,oi,oi]):=⟨aDd,rfl,rfl,CW.of_eq (by kernel_rfl),rfl⟩
theorem aKk:Cw 41 (.agg [oi,oi,oi,.agg [.agg [oi,oi],oi,oi,oi,(.str []),(.str []),(.str [])],oi,oi,(.nil .slice),.agg [oi,(.arr 3 8 (Vector.replicate 8 (default:Int))),(.arr 2 8 (Vector.replicate 8 (default:Int))),(.arr 3 8 (Vector.replicate 8 (default:Int)))],oi,(.arr 2 8 (Vector.replicate 8 (default:Int))),oi,.agg [oi,oi,oi,(.nil .slice)],oi,oi,oi]):=⟨aGX,rfl,rfl,CW.of_eq (by kernel_rfl),rfl⟩
theorem aKl:Cw 42 (.agg [oi,.agg [oi,oi],.agg [oi,oi],.agg [oi,oi],oi,(.nil .slice),.agg [oi,oi,oi,.agg [.agg [oi,oi],oi,oi,oi,(.str []),(.str []),(.str [])],oi,oi,(.nil .slice),.agg [oi,(.arr 3 8 (Vector.replicate 8 (default:Int))),(.arr 2 8 (Vector.replicate 8 (default:Int))),(.arr 3 8 (Vector.replicate 8 (default:Int)))],oi,(.arr 2 8 (Vector.replicate 8 (default:Int))),oi,.agg [oi,oi,oi,(.nil .slice)],oi,oi,oi],oi,(.arr 2 8 (Vector.replicate 8 (default:Int))),oi,oi,(.nil .slice),.agg [oi,(.arr 3 8 (Vector.replicate 8 (default:Int))),(.arr 2 8 (Vector.replicate 8 (default:Int))),(.arr 3 8 (Vector.replicate 8 (default:Int)))],.agg [oi,oi,oi,(.nil .slice)]]):=⟨aDe,rfl,rfl,CW.of_eq (by kernel_rfl),rfl⟩
theorem aKm:Cw 43 (.agg [oi,.agg [oi,oi],.agg [oi,oi],.agg [oi,oi],oi,(.nil .slice),.agg [oi,oi,oi,.agg [.agg [oi,oi],oi,oi,oi,(.str []),(.str []),(.str [])],oi,oi,(.nil .slice),.agg [oi,(.arr 3 8 (Vector.replicate 8 (default:Int))),(.arr 2 8 (Vector.replicate 8 (default:Int))),(.arr 3 8 (Vector.replicate 8 (default:Int)))],oi,(.arr 2 8 (Vector.replicate 8 (default:Int))),oi,.agg [oi,oi,oi,(.nil .slice)],oi,oi,oi],oi,(.arr 2 8 (Vector.replicate 8 (default:Int))),oi,oi,(.nil .slice),.agg [oi,(.arr 3 8 (Vector.replicate 8 (default:Int))),(.arr 2 8 (Vector.replicate 8 (default:Int))),(.arr 3 8 (Vector.replicate 8 (default:Int)))],.agg [oi,oi,oi,(.nil .slice)]]):=⟨aGY,rfl,rfl,CW.of_eq (by kernel_rfl),rfl⟩
theorem aKn:Cw 44 (.int .u16 0):=⟨aGZ,rfl,rfl,CW.of_eq (by kernel_rfl),rfl⟩
theorem aKo:Cw 45 (.nil .ptr):=⟨aG0,rfl,rfl,CW.of_eq (by kernel_rfl),rfl⟩
theorem aKp:Cw 48 (oi):=⟨aG1,rfl,rfl,CW.of_eq (by kernel_rfl),rfl⟩
theorem aKq:Cw 59 (.nil .slice):=⟨aG2,rfl,rfl,CW.of_eq (by kernel_rfl),rfl⟩
theorem aKr:Cw 60 (.nil .slice):=⟨aG3,rfl,rfl,CW.of_eq (by kernel_rfl),rfl⟩
theorem aKs:Cw 64 (.agg [oi,.agg [oi,oi],.agg [oi,oi],(.nil .slice)]):=⟨aDf,rfl,rfl,CW.of_eq (by kernel_rfl),rfl⟩
theorem aKt:Cw 65 (.agg [oi,.agg [oi,oi],.agg [oi,oi],(.nil .slice)]):=⟨aG4,rfl,rfl,CW.of_eq (by kernel_rfl),rfl⟩
theorem aKu:Cw 69 (.nil .slice):=⟨aDg,rfl,rfl,CW.of_eq (by kernel_rfl),rfl⟩
theorem aKv:Cw 70 (.nil .slice):=⟨aG5,rfl,rfl,CW.of_eq (by kernel_rfl),rfl⟩
theorem aKw:Cw 71 (.agg [oi,(.nil .slice),oi,oi,(.int .u8 0),(.nil .slice),oi]):=⟨aDh,rfl,rfl,CW.of_eq (by kernel_rfl),rfl⟩
theorem aKx:Cw 72 (.agg [oi,(.nil .slice),oi,oi,(.int .u8 0),(.nil .slice),oi]):=⟨aG6,rfl,rfl,CW.of_eq (by kernel_rfl),rfl⟩
theorem aKy:Cw 75 (.nil .slice):=⟨aG7,rfl,rfl,CW.of_eq (by kernel_rfl),rfl⟩
theorem aKz:Cw 76 (.agg [(.nil .slice),oi]):=⟨aDi,rfl,rfl,CW.of_eq (by kernel_rfl),rfl⟩
theorem aKA:Cw 77 (.agg [(.nil .slice),oi]):=⟨aG8,rfl,rfl,CW.of_eq (by kernel_rfl),rfl⟩
theorem aKB:Cw 79 (.agg [(.nil .slice),oi]):=⟨aDj,rfl,rfl,CW.of_eq (by kernel_rfl),rfl⟩
theorem aKC:Cw 80 (.agg [(.nil .slice),oi]):=⟨aG9,rfl,rfl,CW.of_eq (by kernel_rfl),rfl⟩
theorem aKD:Cw 81 (.agg [.agg [(.nil .slice),oi],(.bool false)]):=⟨aDk,rfl,rfl,CW.of_eq (by kernel_rfl),rfl⟩
theorem aKE:Cw 82 (.agg [.agg [(.nil .slice),oi],(.bool false)]):=⟨aHa,rfl,rfl,CW.of_eq (by kernel_rfl),rfl⟩
theorem aHK:Cw 112 (.nil .ptr):=⟨aBK,rfl,rfl,CW.of_eq (by kernel_rfl),rfl⟩
theorem aHL:Cw 115 (.agg [(.nil .ptr),oi]):=⟨aBL,rfl,rfl,CW.of_eq (by kernel_rfl),rfl⟩
theorem aHM:Cw 138 (.int .u32 0):=⟨aBM,rfl,rfl,CW.of_eq (by kernel_rfl),rfl⟩
theorem aHN:Cw 140 (.int .u64 0):=⟨aBN,rfl,rfl,CW.of_eq (by kernel_rfl),rfl⟩
theorem aHO:Cw 146 (.nil .ptr):=⟨aBO,rfl,rfl,CW.of_eq (by kernel_rfl),rfl⟩
theorem aHP:Cw 149 (.agg [(.nil .ptr),oi]):=⟨aBP,rfl,rfl,CW.of_eq (by kernel_rfl),rfl⟩
theorem aHQ:Cw 154 (.agg [oi,.agg [oi,oi],.agg [oi,oi,oi,.agg [.agg [oi,oi],oi,oi,oi,(.str []),(.str []),(.str [])],oi,oi,(.nil .slice),.agg [oi,(.arr 3 8 (Vector.replicate 8 (default:Int))),(.arr 2 8 (Vector.replicate 8 (default:Int))),(.arr 3 8 (Vector.replicate 8 (default:Int)))],oi,(.arr 2 8 (Vector.replicate 8 (default:Int))),oi,.agg [oi,oi,oi,(.nil .slice)],oi,oi,oi]]):=⟨rf,rfl,rfl,CW.of_eq (by kernel_rfl),rfl⟩
theorem aHR:Cw 155 (.agg [oi,.agg [oi,oi],.agg [oi,oi,oi,.agg [.agg [oi,oi],oi,oi,oi,(.str []),(.str []),(.str [])],oi,oi,(.nil .slice),.agg [oi,(.arr 3 8 (Vector.replicate 8 (default:Int))),(.arr 2 8 (Vector.replicate 8 (default:Int))),(.arr 3 8 (Vector.replicate 8 (default:Int)))],oi,(.arr 2 8 (Vector.replicate 8 (default:Int))),oi,.agg [oi,oi,oi,(.nil .slice)],oi,oi,oi]]):=⟨aBQ,rfl,rfl,CW.of_eq (by kernel_rfl),rfl⟩
theorem aHS:Cw 165 (.agg [(.bool false),(.nil .slice)]):=⟨dm,rfl,rfl,CW.of_eq (by kernel_rfl),rfl⟩
theorem aHT:Cw 166 (.agg [(.bool false),(.nil .slice)]):=⟨aBR,rfl,rfl,CW.of_eq (by kernel_rfl),rfl⟩
theorem aHU:Cw 186 (.agg [(.bool false),(.nil .slice)]):=⟨aBS,rfl,rfl,CW.of_eq (by kernel_rfl),rfl⟩
theorem aHV:Cw 188 (.nil .ptr):=⟨aBT,rfl,rfl,CW.of_eq (by kernel_rfl),rfl⟩
theorem aHW:Cw 192 (.agg [(.nil .slice),oi,oi]):=⟨rh,rfl,rfl,CW.of_eq (by kernel_rfl),rfl⟩
theorem aHX:Cw 193 (.agg [(.nil .slice),oi,oi]):=⟨aBU,rfl,rfl,CW.of_eq (by kernel_rfl),rfl⟩
theorem aHY:Cw 194 (.nil .slice):=⟨aBV,rfl,rfl,CW.of_eq (by kernel_rfl),rfl⟩
theorem aHZ:Cw 201 (.nil .slice):=⟨aBW,rfl,rfl,CW.of_eq (by kernel_rfl),rfl⟩
theorem aH0:Cw 203 (.int .u64 0):=⟨aBX,rfl,rfl,CW.of_eq (by kernel_rfl),rfl⟩
theorem aH1:Cw 206 (.nil .slice):=⟨aBY,rfl,rfl,CW.of_eq (by kernel_rfl),rfl⟩
theorem aH2:Cw 209 (.nil .ptr):=⟨aBZ,rfl,rfl,CW.of_eq (by kernel_rfl),rfl⟩
theorem aH3:Cw 226 (.nil .slice):=⟨aB0,rfl,rfl,CW.of_eq (by kernel_rfl),rfl⟩
theorem aH4:Cw 229 (.nil .slice):=⟨aB1,rfl,rfl,CW.of_eq (by kernel_rfl),rfl⟩
noncomputable def D0:fA τ:=⟨E,C,aB7⟩
theorem aHJ:∀ t x,aB7 t=some x→∃ i,E.ty t=some i∧x.ok=true∧CW i.zero (x.cells C)∧x.isAgg=i.agg:=by
 intro t x h
 unfold aB7 at h
 split at h<;>first
  |(cases h;first|exact zok2|exact zok3|exact zok4|exact zok5|exact zok9|exact aJZ|exact aJ0|exact aJ1|exact aJ2|exact aJ3|exact aJ4|exact aJ5|exact aJ6|exact aJ7|exact aJ8|exact aJ9|exact aKa|exact aKb|exact aKc|exact aKd|exact aKe|exact aKf|exact aKg|exact aKh|exact aKi|exact aKj|exact aKk|exact aKl|exact aKm|exact aKn|exact aKo|exact aKp|exact aKq|exact aKr|exact aKs|exact aKt|exact aKu|exact aKv|exact aKw|exact aKx|exact aKy|exact aKz|exact aKA|exact aKB|exact aKC|exact aKD|exact aKE|exact aHK|exact aHL|exact aHM|exact aHN|exact aHO|exact aHP|exact aHQ|exact aHR|exact aHS|exact aHT|exact aHU|exact aHV|exact aHW|exact aHX|exact aHY|exact aHZ|exact aH0|exact aH1|exact aH2|exact aH3|exact aH4)
  |cases h
theorem sn:D0.Ok:=⟨eOk,eEq,cOk,aHJ⟩
def cn (args:List Sh)(L:List bZ)(ret:Sh)(L':List bZ){R:Type}[Inhabited R](F:Nat→Sh.Ts τ args→bZ.Ts τ L→Option R)(of:R→ret.T τ×bZ.Ts τ L'):dL τ:={ args:=args,L:=L,ret:=ret,L':=L',R:=R,IQ:=default,F:=F,of:=of }
noncomputable def dt (t:List (Nat×dL τ))(l:List (Nat×Lp τ))(k:Nat)(mu:List Nat)(un:List (Nat×Nat)):Zr τ:={ D:=D0,mi:=KX t,lp:=UT l,k0:=k,mu:=mu,un:=un }
noncomputable def dp (t:List (Nat×dL τ))(l:List (Nat×Lp τ))(k:Nat)(mu:List Nat)(un:List (Nat×Nat))(ad fz ln:List Nat):Zr τ:={ D:=D0,mi:=KX t,lp:=UT l,k0:=k,mu:=mu,un:=un,aX:=true,ad:=ad,fz:=fz,ln:=ln }
theorem gQ (c:dL τ)(t:List (Nat×dL τ))(l:List (Nat×Lp τ))(k:Nat)(mu:List Nat)(un:List (Nat×Nat))(T:mr E C t)(to:c.ret.T τ→bZ.Ts τ c.L'→c.R){f:FuncId}{fn:Func}{code:Code}(hf:E.P.funcs[f]?=some fn)(hb:fn.body=some code)
  (h:∀ N a b,run (dt t l k mu un) N 1000000 [.code code] (Fq C fn.ntmps c a b) (M9 D0 c to none k fn.results.toList)=c.F N a b) (G2:∀ a b,c.of (to a b)=(a,b):=by exact fun _ _=>rfl) (ai:c.alt=none:=by rfl)
  (FL : (fn.name == "runtime.NumGoroutine") = false := by kernel_rfl) (Hm : codeOk code = true := by kernel_rfl) (hk : k = c.L.length := by rfl) (hsub : Zm (Uq (dt t l k mu un)) code := by exact fX (by kernel_rfl)) (hy : Nat.beq f Ae = false := by rfl) (ff : c.ext = false := by rfl) : aR E C f c :=
 L8 (D:=dt t l k mu un) ⟨sn,E6,Mf T,fun _=>rfl⟩ c to none G2 ai (fun _ _ h=>nomatch h) 1000000 hf hb FL Hm hk h hsub hy rfl ff
theorem WK (c:dL τ)(t:List (Nat×dL τ))(l:List (Nat×Lp τ))(k:Nat)(mu:List Nat)(un:List (Nat×Nat))(ad fz ln:List Nat)(T:mr E C t)(to:c.ret.T τ→bZ.Ts τ c.L'→c.R){f:FuncId}{fn:Func}{code:Code}(hf:E.P.funcs[f]?=some fn)(hb:fn.body=some code)
  (h:∀ N a b,run (dp t l k mu un ad fz ln) N 1000000 [.code code] (Fq C fn.ntmps c a b) (M9 D0 c to none k fn.results.toList)=c.F N a b) (G2:∀ a b,c.of (to a b)=(a,b):=by exact fun _ _=>rfl) (ai:c.alt=none:=by rfl)
  (FL : (fn.name == "runtime.NumGoroutine") = false := by kernel_rfl) (Hm : codeOk code = true := by kernel_rfl) (hk : k = c.L.length := by rfl) (hsub : Zm (Uq (dp t l k mu un ad fz ln)) code := by exact fX (by kernel_rfl)) (hy : Nat.beq f Ae = false := by rfl) (ff : c.ext = false := by rfl) : aR E C f c :=
 L8 (D:=dp t l k mu un ad fz ln) ⟨sn,E6,Mf T,fun _=>rfl⟩ c to none G2 ai (fun _ _ h=>nomatch h) 1000000 hf hb FL Hm hk h hsub hy rfl ff
end Go.Proofs.YtddpmkmgbdedlaaGreat
