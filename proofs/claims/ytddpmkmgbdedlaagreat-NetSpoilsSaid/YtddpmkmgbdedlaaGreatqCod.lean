/-
The types of this seat's program,as the evaluator asks them,and how their data are told. Written by wip/tools/gen2.py.
-/
import Derived.Test.YtddpmkmgbdedlaaGreatProg
import Derived.Test.YtddpmkmgbdedlaaGreatqTvR
import Derived.KernelRfl
set_option linter.unusedVariables false
set_option linter.unusedSimpArgs false
set_option maxHeartbeats 8000000
set_option maxRecDepth 100000
namespace Go.Proofs.YtddpmkmgbdedlaaGreat
open Go Go.Ev
def fd (n : String) (t o b : Nat) : Field := ⟨n, t, o, false, "", "", b⟩
def wi:Value:=.int .i64 0
def wn:Value:=.slice none 0 0
def wz:Value:=.string ⟨#[]⟩
theorem aU {a a' b b':List AV} (h:a=a') (h':b=b'):a++b=a'++b':=h▸h'▸rfl
theorem aX {a b:List AV} {m n:Nat} (h:a.length=m) (h':b.length=n):(a++b).length=m+n:=by rw [List.length_append,h,h']
theorem fS:true=true:=rfl
theorem aG {a b:Bool} (h:a=true) (h':b=true):(a&&b)=true:=by rw [h,h']; rfl
theorem aY {a b:List AV} (h:a.all AV.one=true) (h':b.all AV.one=true):(a++b).all AV.one=true:=by rw [List.all_append,h,h']; rfl
def ti2:TI:=⟨.int .i64,1,8,[.v wi]⟩
def ti3:TI:=⟨.int .i64,1,8,[.v wi]⟩
def ti4:TI:=⟨.bool,1,1,[.v (.bool false)]⟩
def ti5:TI:=⟨.int .u8,1,1,[.v (.int .u8 0)]⟩
def ti9:TI:=⟨.string,1,16,[.v wz]⟩
def ti12:TI:=⟨.int .u64,1,8,[.v (.int .u64 0)]⟩
def ti21:TI:=⟨.int .i32,1,4,[.v (.int .i32 0)]⟩
def ti22 : TI := ⟨.struct #[fd "Group" 3 0 0, fd "Replica" 3 1 8], 2, 16, [.v wi, .v wi]⟩
def ti23:TI:=ti22
def ti24 : TI := ⟨.struct #[fd "Round" 2 0 0, fd "Replica" 3 1 8], 2, 16, [.v wi, .v wi]⟩
def ti25:TI:=ti24
def ti26:TI:=⟨.slice 155,1,24,[.v wn]⟩
def ti27 : TI := ⟨.struct #[fd "Time" 2 0 0, fd "Site" 3 1 8], 2, 16, [.v wi, .v wi]⟩
def ti28:TI:=ti27
def ti29 : TI := ⟨.struct #[fd "Stamp" 28 0 0, fd "Kind" 3 2 16, fd "Node" 2 3 24, fd "Parent" 2 4 32, fd "Name" 9 5 40, fd "Key" 9 6 56, fd "Value" 9 7 72], 8, 88, [.v wi, .v wi, .v wi, .v wi, .v wi, .v wz, .v wz, .v wz]⟩
def ti30:TI:=ti29
def ti31:TI:=⟨.slice 30,1,24,[.v wn]⟩
def ti32:TI:=⟨.array 8 3,8,64,[.v wi,.v wi,.v wi,.v wi,.v wi,.v wi,.v wi,.v wi]⟩
def ti33:TI:=⟨.array 8 2,8,64,[.v wi,.v wi,.v wi,.v wi,.v wi,.v wi,.v wi,.v wi]⟩
def ti34:TI:=⟨.array 8 2,8,64,[.v wi,.v wi,.v wi,.v wi,.v wi,.v wi,.v wi,.v wi]⟩
def ti35 : TI := ⟨.struct #[fd "Number" 2 0 0, fd "States" 32 1 8, fd "Seals" 34 9 72, fd "Sponsor" 32 17 136], 25, 200, [.v wi, .v wi, .v wi, .v wi, .v wi, .v wi, .v wi, .v wi, .v wi, .v wi, .v wi, .v wi, .v wi, .v wi, .v wi, .v wi, .v wi, .v wi, .v wi, .v wi, .v wi, .v wi, .v wi, .v wi, .v wi]⟩
def ti36:TI:=ti35
def ti37:TI:=⟨.slice 5,1,24,[.v wn]⟩
def ti38 : TI := ⟨.struct #[fd "Snap" 2 0 0, fd "Index" 3 1 8, fd "Many" 3 2 16, fd "Data" 37 3 24], 4, 48, [.v wi, .v wi, .v wi, .v wn]⟩
def ti39:TI:=ti38
def ti40 : TI := ⟨.struct #[fd "Kind" 3 0 0, fd "Session" 2 1 8, fd "Request" 2 2 16, fd "Op" 30 3 24, fd "Origin" 3 11 112, fd "Seq" 2 12 120, fd "Ops" 31 13 128, fd "Epoch" 36 14 152, fd "From" 3 39 352, fd "Vector" 34 40 360, fd "Clock" 2 48 424, fd "Part" 39 49 432, fd "Site" 3 53 480, fd "Sponsor" 3 54 488, fd "Length" 2 55 496], 56, 504, [.v wi, .v wi, .v wi, .v wi, .v wi, .v wi, .v wi, .v wi, .v wz, .v wz, .v wz, .v wi, .v wi, .v wn, .v wi, .v wi, .v wi, .v wi, .v wi, .v wi, .v wi, .v wi, .v wi, .v wi, .v wi, .v wi, .v wi, .v wi, .v wi, .v wi, .v wi, .v wi, .v wi, .v wi, .v wi, .v wi, .v wi, .v wi, .v wi, .v wi, .v wi, .v wi, .v wi, .v wi, .v wi, .v wi, .v wi, .v wi, .v wi, .v wi, .v wi, .v wi, .v wn, .v wi, .v wi, .v wi]⟩
def ti41:TI:=ti40
def ti42 : TI := ⟨.struct #[fd "Kind" 3 0 0, fd "From" 23 1 8, fd "To" 23 3 24, fd "Ballot" 25 5 40, fd "Slot" 2 7 56, fd "List" 26 8 64, fd "Entry" 41 9 88, fd "Number" 2 65 592, fd "Vector" 34 66 600, fd "Clock" 2 74 664, fd "Origin" 3 75 672, fd "Ops" 31 76 680, fd "Epoch" 36 77 704, fd "Part" 39 102 904], 106, 952, [.v wi, .v wi, .v wi, .v wi, .v wi, .v wi, .v wi, .v wi, .v wn, .v wi, .v wi, .v wi, .v wi, .v wi, .v wi, .v wi, .v wi, .v wz, .v wz, .v wz, .v wi, .v wi, .v wn, .v wi, .v wi, .v wi, .v wi, .v wi, .v wi, .v wi, .v wi, .v wi, .v wi, .v wi, .v wi, .v wi, .v wi, .v wi, .v wi, .v wi, .v wi, .v wi, .v wi, .v wi, .v wi, .v wi, .v wi, .v wi, .v wi, .v wi, .v wi, .v wi, .v wi, .v wi, .v wi, .v wi, .v wi, .v wi, .v wi, .v wi, .v wi, .v wn, .v wi, .v wi, .v wi, .v wi, .v wi, .v wi, .v wi, .v wi, .v wi, .v wi, .v wi, .v wi, .v wi, .v wi, .v wn, .v wi, .v wi, .v wi, .v wi, .v wi, .v wi, .v wi, .v wi, .v wi, .v wi, .v wi, .v wi, .v wi, .v wi, .v wi, .v wi, .v wi, .v wi, .v wi, .v wi, .v wi, .v wi, .v wi, .v wi, .v wi, .v wi, .v wi, .v wi, .v wn]⟩
def ti43:TI:=ti42
def ti44:TI:=⟨.int .u16,1,2,[.v (.int .u16 0)]⟩
def ti45:TI:=⟨.pointer 82,1,8,[.v (.pointer none)]⟩
def ti48:TI:=⟨.int .i64,1,8,[.v wi]⟩
def ti59:TI:=⟨.slice 43,1,24,[.v wn]⟩
def ti60:TI:=⟨.slice 2,1,24,[.v wn]⟩
def ti64 : TI := ⟨.struct #[fd "Number" 2 0 0, fd "From" 23 1 8, fd "To" 23 3 24, fd "Data" 37 5 40], 6, 64, [.v wi, .v wi, .v wi, .v wi, .v wi, .v wn]⟩
def ti65:TI:=ti64
def ti69:TI:=⟨.slice 72,1,24,[.v wn]⟩
def ti70:TI:=⟨.slice 23,1,24,[.v wn]⟩
def ti71 : TI := ⟨.struct #[fd "Kind" 3 0 0, fd "Msgs" 59 1 8, fd "Number" 2 2 32, fd "Place" 3 3 40, fd "With" 5 4 48, fd "Addrs" 70 5 56, fd "Stop" 3 6 80], 7, 88, [.v wi, .v wn, .v wi, .v wi, .v (.int .u8 0), .v wn, .v wi]⟩
def ti72:TI:=ti71
def ti75:TI:=⟨.slice 65,1,24,[.v wn]⟩
def ti76 : TI := ⟨.struct #[fd "L" 75 0 0, fd "Last" 2 1 24], 2, 32, [.v wn, .v wi]⟩
def ti77:TI:=ti76
def ti79 : TI := ⟨.struct #[⟨ "wait", 75, 0, false, "", "orchard/net", 0⟩, ⟨ "last", 2, 1, false, "", "orchard/net", 24⟩], 2, 32, [.v wn, .v wi]⟩
def ti80:TI:=ti79
def ti81 : TI := ⟨.struct #[⟨ "queue", 80, 0, true, "", "orchard/net", 0⟩, ⟨ "made", 4, 2, false, "", "orchard/net", 32⟩], 3, 40, [.v wn, .v wi, .v (.bool false)]⟩
def ti82:TI:=ti81
def aDS:TI:=⟨.pointer 166,1,8,[.v (.pointer none)]⟩
def aDT : TI := ⟨.struct #[⟨ "Writer", 112, 0, true, "", "", 0⟩, ⟨ "e", 48, 1, false, "", "orchard/record", 8⟩], 2, 16, [.v (.pointer none), .v wi]⟩
def aDU:TI:=⟨.int .u32,1,4,[.v (.int .u32 0)]⟩
def aDV:TI:=⟨.int .u64,1,8,[.v (.int .u64 0)]⟩
def aDW:TI:=⟨.pointer 186,1,8,[.v (.pointer none)]⟩
def aDX : TI := ⟨.struct #[⟨ "Reader", 146, 0, true, "", "", 0⟩, ⟨ "e", 48, 1, false, "", "orchard/record", 8⟩], 2, 16, [.v (.pointer none), .v wi]⟩
def aAN : TI := ⟨.struct #[fd "Slot" 2 0 0, fd "Ballot" 25 1 8, fd "Entry" 41 3 24], 59, 528, [.v wi, .v wi, .v wi, .v wi, .v wi, .v wi, .v wi, .v wi, .v wi, .v wi, .v wi, .v wz, .v wz, .v wz, .v wi, .v wi, .v wn, .v wi, .v wi, .v wi, .v wi, .v wi, .v wi, .v wi, .v wi, .v wi, .v wi, .v wi, .v wi, .v wi, .v wi, .v wi, .v wi, .v wi, .v wi, .v wi, .v wi, .v wi, .v wi, .v wi, .v wi, .v wi, .v wi, .v wi, .v wi, .v wi, .v wi, .v wi, .v wi, .v wi, .v wi, .v wi, .v wi, .v wi, .v wi, .v wn, .v wi, .v wi, .v wi]⟩
def aDY:TI:=aAN
def xH : TI := ⟨.struct #[⟨ "made", 4, 0, false, "", "orchard/wire", 0⟩, ⟨ "b", 37, 1, false, "", "orchard/wire", 8⟩], 2, 32, [.v (.bool false), .v wn]⟩
def aDZ:TI:=xH
def aD0:TI:=xH
def aD1:TI:=⟨.pointer 3,1,8,[.v (.pointer none)]⟩
def aAO : TI := ⟨.struct #[fd "B" 37 0 0, fd "At" 3 1 24, fd "E" 48 2 32], 3, 40, [.v wn, .v wi, .v wi]⟩
def aD2:TI:=aAO
def aD3:TI:=⟨.slice 3,1,24,[.v wn]⟩
def aD4:TI:=⟨.slice 37,1,24,[.v wn]⟩
def aD5:TI:=⟨.int .u64,1,8,[.v (.int .u64 0)]⟩
def aD6:TI:=⟨.slice 188,1,24,[.v wn]⟩
def aD7:TI:=⟨.pointer 2,1,8,[.v (.pointer none)]⟩
def aD8:TI:=⟨.slice 209,1,24,[.v wn]⟩
def aD9:TI:=⟨.slice 9,1,24,[.v wn]⟩
def tyT:Nat→Option TI
 | 2=>some ti2
 | 3=>some ti3
 | 4=>some ti4
 | 5=>some ti5
 | 9=>some ti9
 | 12=>some ti12
 | 21=>some ti21
 | 22=>some ti22
 | 23=>some ti23
 | 24=>some ti24
 | 25=>some ti25
 | 26=>some ti26
 | 27=>some ti27
 | 28=>some ti28
 | 29=>some ti29
 | 30=>some ti30
 | 31=>some ti31
 | 32=>some ti32
 | 33=>some ti33
 | 34=>some ti34
 | 35=>some ti35
 | 36=>some ti36
 | 37=>some ti37
 | 38=>some ti38
 | 39=>some ti39
 | 40=>some ti40
 | 41=>some ti41
 | 42=>some ti42
 | 43=>some ti43
 | 44=>some ti44
 | 45=>some ti45
 | 48=>some ti48
 | 59=>some ti59
 | 60=>some ti60
 | 64=>some ti64
 | 65=>some ti65
 | 69=>some ti69
 | 70=>some ti70
 | 71=>some ti71
 | 72=>some ti72
 | 75=>some ti75
 | 76=>some ti76
 | 77=>some ti77
 | 79=>some ti79
 | 80=>some ti80
 | 81=>some ti81
 | 82=>some ti82
 | 112=>some aDS
 | 115=>some aDT
 | 138=>some aDU
 | 140=>some aDV
 | 146=>some aDW
 | 149=>some aDX
 | 154=>some aAN
 | 155=>some aDY
 | 165=>some xH
 | 166=>some aDZ
 | 186=>some aD0
 | 188=>some aD1
 | 192=>some aAO
 | 193=>some aD2
 | 194=>some aD3
 | 201=>some aD4
 | 203=>some aD5
 | 206=>some aD6
 | 209=>some aD7
 | 226=>some aD8
 | 229=>some aD9
 | _=>none
def eqT:Nat→Option (List Kd)
 | 22=>some [.i,.i]
 | 23=>some [.i,.i]
 | 24=>some [.i,.i]
 | 25=>some [.i,.i]
 | 27=>some [.i,.i]
 | 28=>some [.i,.i]
 | 29=>some [.i,.i,.i,.i,.i,.s,.s,.s]
 | 30=>some [.i,.i,.i,.i,.i,.s,.s,.s]
 | 32=>some [.i,.i,.i,.i,.i,.i,.i,.i]
 | 33=>some [.i,.i,.i,.i,.i,.i,.i,.i]
 | 34=>some [.i,.i,.i,.i,.i,.i,.i,.i]
 | 35=>some [.i,.i,.i,.i,.i,.i,.i,.i,.i,.i,.i,.i,.i,.i,.i,.i,.i,.i,.i,.i,.i,.i,.i,.i,.i]
 | 36=>some [.i,.i,.i,.i,.i,.i,.i,.i,.i,.i,.i,.i,.i,.i,.i,.i,.i,.i,.i,.i,.i,.i,.i,.i,.i]
 | _=>none
noncomputable def E:Env:=⟨Tryz.prog,tyT,eqT,none⟩
theorem tok2:TyOk E.P 2 ti2:=bF (z:=(.int .i64 0)) (by kernel_rfl) rfl (by kernel_rfl) (by kernel_rfl)
theorem tok3:TyOk E.P 3 ti3:=bF (z:=(.int .i64 0)) (by kernel_rfl) rfl (by kernel_rfl) (by kernel_rfl)
theorem tok4:TyOk E.P 4 ti4:=bF (z:=(.bool false)) (by kernel_rfl) rfl (by kernel_rfl) (by kernel_rfl)
theorem tok5:TyOk E.P 5 ti5:=bF (z:=(.int .u8 0)) (by kernel_rfl) rfl (by kernel_rfl) (by kernel_rfl)
theorem tok9:TyOk E.P 9 ti9:=bF (z:=(.string ⟨#[]⟩)) (by kernel_rfl) rfl (by kernel_rfl) (by kernel_rfl)
theorem tok12:TyOk E.P 12 ti12:=bF (z:=(.int .u64 0)) (by kernel_rfl) rfl (by kernel_rfl) (by kernel_rfl)
theorem tok21:TyOk E.P 21 ti21:=bF (z:=(.int .i32 0)) (by kernel_rfl) rfl (by kernel_rfl) (by kernel_rfl)
theorem tok22:TyOk E.P 22 ti22:=bF (z:=(.agg #[wi,wi])) (by kernel_rfl) rfl (by kernel_rfl) (by kernel_rfl)
theorem tok23:TyOk E.P 23 ti23:=bF (z:=(.agg #[wi,wi])) (by kernel_rfl) rfl (by kernel_rfl) (by kernel_rfl)
theorem tok24:TyOk E.P 24 ti24:=bF (z:=(.agg #[wi,wi])) (by kernel_rfl) rfl (by kernel_rfl) (by kernel_rfl)
theorem tok25:TyOk E.P 25 ti25:=bF (z:=(.agg #[wi,wi])) (by kernel_rfl) rfl (by kernel_rfl) (by kernel_rfl)
theorem tok26:TyOk E.P 26 ti26:=bF (z:=(.slice none 0 0)) (by kernel_rfl) rfl (by kernel_rfl) (by kernel_rfl)
theorem tok27:TyOk E.P 27 ti27:=bF (z:=(.agg #[wi,wi])) (by kernel_rfl) rfl (by kernel_rfl) (by kernel_rfl)
theorem tok28:TyOk E.P 28 ti28:=bF (z:=(.agg #[wi,wi])) (by kernel_rfl) rfl (by kernel_rfl) (by kernel_rfl)
theorem tok29:TyOk E.P 29 ti29:=bF (z:=(.agg #[wi,wi,wi,wi,wi,wz,wz,wz])) (by kernel_rfl) rfl (by kernel_rfl) (by kernel_rfl)
theorem tok30:TyOk E.P 30 ti30:=bF (z:=(.agg #[wi,wi,wi,wi,wi,wz,wz,wz])) (by kernel_rfl) rfl (by kernel_rfl) (by kernel_rfl)
theorem tok31:TyOk E.P 31 ti31:=bF (z:=(.slice none 0 0)) (by kernel_rfl) rfl (by kernel_rfl) (by kernel_rfl)
theorem tok32:TyOk E.P 32 ti32:=bF (z:=(.agg #[wi,wi,wi,wi,wi,wi,wi,wi])) (by kernel_rfl) rfl (by kernel_rfl) (by kernel_rfl)
theorem tok33:TyOk E.P 33 ti33:=bF (z:=(.agg #[wi,wi,wi,wi,wi,wi,wi,wi])) (by kernel_rfl) rfl (by kernel_rfl) (by kernel_rfl)
theorem tok34:TyOk E.P 34 ti34:=bF (z:=(.agg #[wi,wi,wi,wi,wi,wi,wi,wi])) (by kernel_rfl) rfl (by kernel_rfl) (by kernel_rfl)
theorem tok35:TyOk E.P 35 ti35:=bF (z:=(.agg #[wi,wi,wi,wi,wi,wi,wi,wi,wi,wi,wi,wi,wi,wi,wi,wi,wi,wi,wi,wi,wi,wi,wi,wi,wi])) (by kernel_rfl) rfl (by kernel_rfl) (by kernel_rfl)
theorem tok36:TyOk E.P 36 ti36:=bF (z:=(.agg #[wi,wi,wi,wi,wi,wi,wi,wi,wi,wi,wi,wi,wi,wi,wi,wi,wi,wi,wi,wi,wi,wi,wi,wi,wi])) (by kernel_rfl) rfl (by kernel_rfl) (by kernel_rfl)
theorem tok37:TyOk E.P 37 ti37:=bF (z:=(.slice none 0 0)) (by kernel_rfl) rfl (by kernel_rfl) (by kernel_rfl)
theorem tok38:TyOk E.P 38 ti38:=bF (z:=(.agg #[wi,wi,wi,wn])) (by kernel_rfl) rfl (by kernel_rfl) (by kernel_rfl)
theorem tok39:TyOk E.P 39 ti39:=bF (z:=(.agg #[wi,wi,wi,wn])) (by kernel_rfl) rfl (by kernel_rfl) (by kernel_rfl)
theorem tok40:TyOk E.P 40 ti40:=bF (z:=(.agg #[wi,wi,wi,wi,wi,wi,wi,wi,wz,wz,wz,wi,wi,wn,wi,wi,wi,wi,wi,wi,wi,wi,wi,wi,wi,wi,wi,wi,wi,wi,wi,wi,wi,wi,wi,wi,wi,wi,wi,wi,wi,wi,wi,wi,wi,wi,wi,wi,wi,wi,wi,wi,wn,wi,wi,wi])) (by kernel_rfl) rfl (by kernel_rfl) (by kernel_rfl)
theorem tok41:TyOk E.P 41 ti41:=bF (z:=(.agg #[wi,wi,wi,wi,wi,wi,wi,wi,wz,wz,wz,wi,wi,wn,wi,wi,wi,wi,wi,wi,wi,wi,wi,wi,wi,wi,wi,wi,wi,wi,wi,wi,wi,wi,wi,wi,wi,wi,wi,wi,wi,wi,wi,wi,wi,wi,wi,wi,wi,wi,wi,wi,wn,wi,wi,wi])) (by kernel_rfl) rfl (by kernel_rfl) (by kernel_rfl)
theorem tok42:TyOk E.P 42 ti42:=bF (z:=(.agg #[wi,wi,wi,wi,wi,wi,wi,wi,wn,wi,wi,wi,wi,wi,wi,wi,wi,wz,wz,wz,wi,wi,wn,wi,wi,wi,wi,wi,wi,wi,wi,wi,wi,wi,wi,wi,wi,wi,wi,wi,wi,wi,wi,wi,wi,wi,wi,wi,wi,wi,wi,wi,wi,wi,wi,wi,wi,wi,wi,wi,wi,wn,wi,wi,wi,wi,wi,wi,wi,wi,wi,wi,wi,wi,wi,wi,wn,wi,wi,wi,wi,wi,wi,wi,wi,wi,wi,wi,wi,wi,wi,wi,wi,wi,wi,wi,wi,wi,wi,wi,wi,wi,wi,wi,wi,wn])) (by kernel_rfl) rfl (by kernel_rfl) (by kernel_rfl)
theorem aEa:TyOk E.P 43 ti43:=bF (z:=(.agg #[wi,wi,wi,wi,wi,wi,wi,wi,wn,wi,wi,wi,wi,wi,wi,wi,wi,wz,wz,wz,wi,wi,wn,wi,wi,wi,wi,wi,wi,wi,wi,wi,wi,wi,wi,wi,wi,wi,wi,wi,wi,wi,wi,wi,wi,wi,wi,wi,wi,wi,wi,wi,wi,wi,wi,wi,wi,wi,wi,wi,wi,wn,wi,wi,wi,wi,wi,wi,wi,wi,wi,wi,wi,wi,wi,wi,wn,wi,wi,wi,wi,wi,wi,wi,wi,wi,wi,wi,wi,wi,wi,wi,wi,wi,wi,wi,wi,wi,wi,wi,wi,wi,wi,wi,wi,wn])) (by kernel_rfl) rfl (by kernel_rfl) (by kernel_rfl)
theorem aEb:TyOk E.P 44 ti44:=bF (z:=(.int .u16 0)) (by kernel_rfl) rfl (by kernel_rfl) (by kernel_rfl)
theorem tok45:TyOk E.P 45 ti45:=bF (z:=(.pointer none)) (by kernel_rfl) rfl (by kernel_rfl) (by kernel_rfl)
theorem tok48:TyOk E.P 48 ti48:=bF (z:=(.int .i64 0)) (by kernel_rfl) rfl (by kernel_rfl) (by kernel_rfl)
theorem tok59:TyOk E.P 59 ti59:=bF (z:=(.slice none 0 0)) (by kernel_rfl) rfl (by kernel_rfl) (by kernel_rfl)
theorem tok60:TyOk E.P 60 ti60:=bF (z:=(.slice none 0 0)) (by kernel_rfl) rfl (by kernel_rfl) (by kernel_rfl)
theorem tok64:TyOk E.P 64 ti64:=bF (z:=(.agg #[wi,wi,wi,wi,wi,wn])) (by kernel_rfl) rfl (by kernel_rfl) (by kernel_rfl)
theorem tok65:TyOk E.P 65 ti65:=bF (z:=(.agg #[wi,wi,wi,wi,wi,wn])) (by kernel_rfl) rfl (by kernel_rfl) (by kernel_rfl)
theorem tok69:TyOk E.P 69 ti69:=bF (z:=(.slice none 0 0)) (by kernel_rfl) rfl (by kernel_rfl) (by kernel_rfl)
theorem tok70:TyOk E.P 70 ti70:=bF (z:=(.slice none 0 0)) (by kernel_rfl) rfl (by kernel_rfl) (by kernel_rfl)
theorem tok71:TyOk E.P 71 ti71:=bF (z:=(.agg #[wi,wn,wi,wi,(.int .u8 0),wn,wi])) (by kernel_rfl) rfl (by kernel_rfl) (by kernel_rfl)
theorem tok72:TyOk E.P 72 ti72:=bF (z:=(.agg #[wi,wn,wi,wi,(.int .u8 0),wn,wi])) (by kernel_rfl) rfl (by kernel_rfl) (by kernel_rfl)
theorem tok75:TyOk E.P 75 ti75:=bF (z:=(.slice none 0 0)) (by kernel_rfl) rfl (by kernel_rfl) (by kernel_rfl)
theorem tok76:TyOk E.P 76 ti76:=bF (z:=(.agg #[wn,wi])) (by kernel_rfl) rfl (by kernel_rfl) (by kernel_rfl)
theorem tok77:TyOk E.P 77 ti77:=bF (z:=(.agg #[wn,wi])) (by kernel_rfl) rfl (by kernel_rfl) (by kernel_rfl)
theorem tok79:TyOk E.P 79 ti79:=bF (z:=(.agg #[wn,wi])) (by kernel_rfl) rfl (by kernel_rfl) (by kernel_rfl)
theorem tok80:TyOk E.P 80 ti80:=bF (z:=(.agg #[wn,wi])) (by kernel_rfl) rfl (by kernel_rfl) (by kernel_rfl)
theorem tok81:TyOk E.P 81 ti81:=bF (z:=(.agg #[wn,wi,(.bool false)])) (by kernel_rfl) rfl (by kernel_rfl) (by kernel_rfl)
theorem tok82:TyOk E.P 82 ti82:=bF (z:=(.agg #[wn,wi,(.bool false)])) (by kernel_rfl) rfl (by kernel_rfl) (by kernel_rfl)
theorem tok112:TyOk E.P 112 aDS:=bF (z:=(.pointer none)) (by kernel_rfl) rfl (by kernel_rfl) (by kernel_rfl)
theorem tok115:TyOk E.P 115 aDT:=bF (z:=(.agg #[(.pointer none),wi])) (by kernel_rfl) rfl (by kernel_rfl) (by kernel_rfl)
theorem tok138:TyOk E.P 138 aDU:=bF (z:=(.int .u32 0)) (by kernel_rfl) rfl (by kernel_rfl) (by kernel_rfl)
theorem tok140:TyOk E.P 140 aDV:=bF (z:=(.int .u64 0)) (by kernel_rfl) rfl (by kernel_rfl) (by kernel_rfl)
theorem tok146:TyOk E.P 146 aDW:=bF (z:=(.pointer none)) (by kernel_rfl) rfl (by kernel_rfl) (by kernel_rfl)
theorem tok149:TyOk E.P 149 aDX:=bF (z:=(.agg #[(.pointer none),wi])) (by kernel_rfl) rfl (by kernel_rfl) (by kernel_rfl)
theorem tok154:TyOk E.P 154 aAN:=bF (z:=(.agg #[wi,wi,wi,wi,wi,wi,wi,wi,wi,wi,wi,wz,wz,wz,wi,wi,wn,wi,wi,wi,wi,wi,wi,wi,wi,wi,wi,wi,wi,wi,wi,wi,wi,wi,wi,wi,wi,wi,wi,wi,wi,wi,wi,wi,wi,wi,wi,wi,wi,wi,wi,wi,wi,wi,wi,wn,wi,wi,wi])) (by kernel_rfl) rfl (by kernel_rfl) (by kernel_rfl)
theorem aLc:TyOk E.P 155 aDY:=bF (z:=(.agg #[wi,wi,wi,wi,wi,wi,wi,wi,wi,wi,wi,wz,wz,wz,wi,wi,wn,wi,wi,wi,wi,wi,wi,wi,wi,wi,wi,wi,wi,wi,wi,wi,wi,wi,wi,wi,wi,wi,wi,wi,wi,wi,wi,wi,wi,wi,wi,wi,wi,wi,wi,wi,wi,wi,wi,wn,wi,wi,wi])) (by kernel_rfl) rfl (by kernel_rfl) (by kernel_rfl)
theorem tok165:TyOk E.P 165 xH:=bF (z:=(.agg #[(.bool false),wn])) (by kernel_rfl) rfl (by kernel_rfl) (by kernel_rfl)
theorem tok166:TyOk E.P 166 aDZ:=bF (z:=(.agg #[(.bool false),wn])) (by kernel_rfl) rfl (by kernel_rfl) (by kernel_rfl)
theorem tok186:TyOk E.P 186 aD0:=bF (z:=(.agg #[(.bool false),wn])) (by kernel_rfl) rfl (by kernel_rfl) (by kernel_rfl)
theorem tok188:TyOk E.P 188 aD1:=bF (z:=(.pointer none)) (by kernel_rfl) rfl (by kernel_rfl) (by kernel_rfl)
theorem tok192:TyOk E.P 192 aAO:=bF (z:=(.agg #[wn,wi,wi])) (by kernel_rfl) rfl (by kernel_rfl) (by kernel_rfl)
theorem tok193:TyOk E.P 193 aD2:=bF (z:=(.agg #[wn,wi,wi])) (by kernel_rfl) rfl (by kernel_rfl) (by kernel_rfl)
theorem tok194:TyOk E.P 194 aD3:=bF (z:=(.slice none 0 0)) (by kernel_rfl) rfl (by kernel_rfl) (by kernel_rfl)
theorem tok201:TyOk E.P 201 aD4:=bF (z:=(.slice none 0 0)) (by kernel_rfl) rfl (by kernel_rfl) (by kernel_rfl)
theorem tok203:TyOk E.P 203 aD5:=bF (z:=(.int .u64 0)) (by kernel_rfl) rfl (by kernel_rfl) (by kernel_rfl)
theorem tok206:TyOk E.P 206 aD6:=bF (z:=(.slice none 0 0)) (by kernel_rfl) rfl (by kernel_rfl) (by kernel_rfl)
theorem tok209:TyOk E.P 209 aD7:=bF (z:=(.pointer none)) (by kernel_rfl) rfl (by kernel_rfl) (by kernel_rfl)
theorem tok226:TyOk E.P 226 aD8:=bF (z:=(.slice none 0 0)) (by kernel_rfl) rfl (by kernel_rfl) (by kernel_rfl)
theorem tok229:TyOk E.P 229 aD9:=bF (z:=(.slice none 0 0)) (by kernel_rfl) rfl (by kernel_rfl) (by kernel_rfl)
theorem eOk:E.Ok:=by
 intro t i h
 have h':tyT t=some i:=h
 unfold tyT at h'
 split at h'<;>first
  | (cases h'; first | exact tok2 | exact tok3 | exact tok4 | exact tok5 | exact tok9 | exact tok12 | exact tok21 | exact tok22 | exact tok23 | exact tok24 | exact tok25 | exact tok26 | exact tok27 | exact tok28 | exact tok29 | exact tok30 | exact tok31 | exact tok32 | exact tok33 | exact tok34 | exact tok35 | exact tok36 | exact tok37 | exact tok38 | exact tok39 | exact tok40 | exact tok41 | exact tok42 | exact aEa | exact aEb | exact tok45 | exact tok48 | exact tok59 | exact tok60 | exact tok64 | exact tok65 | exact tok69 | exact tok70 | exact tok71 | exact tok72 | exact tok75 | exact tok76 | exact tok77 | exact tok79 | exact tok80 | exact tok81 | exact tok82 | exact tok112 | exact tok115 | exact tok138 | exact tok140 | exact tok146 | exact tok149 | exact tok154 | exact aLc | exact tok165 | exact tok166 | exact tok186 | exact tok188 | exact tok192 | exact tok193 | exact tok194 | exact tok201 | exact tok203 | exact tok206 | exact tok209 | exact tok226 | exact tok229)
  | cases h'
theorem eEq:E.EqOk:=by
 intro t ks h
 have h':eqT t=some ks:=h
 unfold eqT at h'
 split at h'<;>first
  | (cases h'; exact ⟨by kernel_rfl,by kernel_rfl,by kernel_rfl⟩)
  | cases h'
theorem aEc:Go.Ev.Good E:=⟨eOk,eEq,by kernel_rfl⟩
structure aS where
 Group:Int
 Replica:Int
instance:Inhabited aS:=⟨⟨default,default⟩⟩
structure aP where
 Round:Int
 Replica:Int
instance:Inhabited aP:=⟨⟨default,default⟩⟩
structure aL where
 Time:Int
 Site:Int
instance:Inhabited aL:=⟨⟨default,default⟩⟩
structure GOp where
 Stamp:aL
 Kind:Int
 Node:Int
 Parent:Int
 Name:List UInt8
 Key:List UInt8
 Value:List UInt8
instance:Inhabited GOp:=⟨⟨default,default,default,default,default,default,default⟩⟩
structure aD where
 Number:Int
 States:Vector (Int) 8
 Seals:Vector (Int) 8
 Sponsor:Vector (Int) 8
instance:Inhabited aD:=⟨⟨default,default,default,default⟩⟩
structure aE where
 Snap:Int
 Index:Int
 Many:Int
 Data:List (Int)
instance:Inhabited aE:=⟨⟨default,default,default,default⟩⟩
structure aC where
 Kind:Int
 Session:Int
 Request:Int
 Op:GOp
 Origin:Int
 Seq:Int
 Ops:List (GOp)
 Epoch:aD
 From:Int
 Vector_:Vector (Int) 8
 Clock:Int
 Part:aE
 Site:Int
 Sponsor:Int
 Length:Int
instance:Inhabited aC:=⟨⟨default,default,default,default,default,default,default,default,default,default,default,default,default,default,default⟩⟩
structure aQ where
 Slot:Int
 Ballot:aP
 Entry:aC
instance:Inhabited aQ:=⟨⟨default,default,default⟩⟩
structure aB where
 Kind:Int
 From:aS
 To:aS
 Ballot:aP
 Slot:Int
 List_:List (aQ)
 Entry:aC
 Number:Int
 Vector_:Vector (Int) 8
 Clock:Int
 Origin:Int
 Ops:List (GOp)
 Epoch:aD
 Part:aE
instance:Inhabited aB:=⟨⟨default,default,default,default,default,default,default,default,default,default,default,default,default,default⟩⟩
structure cC where
 Number:Int
 From:aS
 To:aS
 Data:List (Int)
instance:Inhabited cC:=⟨⟨default,default,default,default⟩⟩
structure fT where
 Kind:Int
 Msgs:List (aB)
 Number:Int
 Place:Int
 With:Int
 Addrs:List (aS)
 Stop:Int
instance:Inhabited fT:=⟨⟨default,default,default,default,default,default,default⟩⟩
structure kB where
 L:List (cC)
 Last:Int
instance:Inhabited kB:=⟨⟨default,default⟩⟩
structure jI where
 wait:List (cC)
 last:Int
instance:Inhabited jI:=⟨⟨default,default⟩⟩
structure kC where
 queue:jI
 made:Bool
instance:Inhabited kC:=⟨⟨default,default⟩⟩
structure aN where
 made:Bool
 b:List (Int)
instance:Inhabited aN:=⟨⟨default,default⟩⟩
structure kD where
 B:List (Int)
 At:Int
 E:Int
instance:Inhabited kD:=⟨⟨default,default,default⟩⟩
structure bU where
 Number:Int
 From:aS
 To:aS
 Data:Hd
instance:Inhabited bU:=⟨⟨default,default,default,default⟩⟩
@[reducible] def τ : Nat → Type
 | 2=>Int
 | 3=>Int
 | 4=>Bool
 | 5=>Int
 | 9=>List UInt8
 | 12=>Int
 | 21=>Int
 | 22=>aS
 | 23=>aS
 | 24=>aP
 | 25=>aP
 | 26=>List (aQ)
 | 27=>aL
 | 28=>aL
 | 29=>GOp
 | 30=>GOp
 | 31=>List (GOp)
 | 32=>Vector (Int) 8
 | 33=>Vector (Int) 8
 | 34=>Vector (Int) 8
 | 35=>aD
 | 36=>aD
 | 37=>List (Int)
 | 38=>aE
 | 39=>aE
 | 40=>aC
 | 41=>aC
 | 42=>aB
 | 43=>aB
 | 44=>Int
 | 48=>Int
 | 59=>List (aB)
 | 60=>List (Int)
 | 64=>cC
 | 65=>cC
 | 69=>List (fT)
 | 70=>List (aS)
 | 71=>fT
 | 72=>fT
 | 75=>List (cC)
 | 76=>kB
 | 77=>kB
 | 79=>jI
 | 80=>jI
 | 81=>kC
 | 82=>kC
 | 138=>Int
 | 140=>Int
 | 154=>aQ
 | 155=>aQ
 | 165=>aN
 | 166=>aN
 | 186=>aN
 | 192=>kD
 | 193=>kD
 | 194=>List (Int)
 | 201=>List (List (Int))
 | 203=>Int
 | 229=>List (List UInt8)
 | 20065=>bU
 | 10005=>Hd
 | _=>Unit
def aLd (x:Hd):List AV:=[.hsl x.j (x.o * 1) x.n x.c x.nn 1]
def aLe (x:Hd):TV τ:=.hsl 5 x.j x.o x.n x.c x.nn
def aEd (x:TV τ):Option Hd:=dHd 5 x
def dR (x:Int):List AV:=[.v (.int .i64 x)]
def eO (x:Int):TV τ:=.int .i64 x
def cB (x:TV τ):Option (Int):=cA .i64 x
def cM (x y:Int):Bool:=(x==y)
def eI (x:Int):List AV:=[.v (.int .i64 x)]
def fD (x:Int):TV τ:=.int .i64 x
def cG (x:TV τ):Option (Int):=cA .i64 x
def cX (x y:Int):Bool:=(x==y)
def cel4 (x:Bool):List AV:=[.v (.bool x)]
def enc4 (x:Bool):TV τ:=.bool x
def dec4 (x:TV τ):Option (Bool):=wU x
def beq4 (x y:Bool):Bool:=(x==y)
def cel5 (x:Int):List AV:=[.v (.int .u8 x)]
def enc5 (x:Int):TV τ:=.int .u8 x
def dec5 (x:TV τ):Option (Int):=cA .u8 x
def beq5 (x y:Int):Bool:=(x==y)
def cel9 (x:List UInt8):List AV:=[.v (.string ⟨⟨x⟩⟩)]
def enc9 (x:List UInt8):TV τ:=.str x
def qU (x:TV τ):Option (List UInt8):=dStr x
def beq9 (x y:List UInt8):Bool:=(x==y)
def cel12 (x:Int):List AV:=[.v (.int .u64 x)]
def enc12 (x:Int):TV τ:=.int .u64 x
def dec12 (x:TV τ):Option (Int):=cA .u64 x
def beq12 (x y:Int):Bool:=(x==y)
def cel21 (x:Int):List AV:=[.v (.int .i32 x)]
def enc21 (x:Int):TV τ:=.int .i32 x
def dec21 (x:TV τ):Option (Int):=cA .i32 x
def beq21 (x y:Int):Bool:=(x==y)
def cel22 (x:aS):List AV:=(eI x.Group++(eI x.Replica++[]))
def enc22 (x:aS):TV τ:=.agg [fD x.Group,fD x.Replica]
def aAP (x:TV τ):Option (aS):=(match x with | .agg [x0,x1]=>(match cG x0 with | some a0=>(match cG x1 with | some a1=>some ⟨a0,a1⟩ | none=>none) | none=>none) | _=>none)
def beq22 (x y:aS):Bool:=(cX x.Group y.Group&&(cX x.Replica y.Replica&&true))
def oO (x:aS):List AV:=cel22 x
def qV (x:aS):TV τ:=enc22 x
def jJ (x:TV τ):Option (aS):=aAP x
def beq23 (x y:aS):Bool:=beq22 x y
def cel24 (x:aP):List AV:=(dR x.Round++(eI x.Replica++[]))
def enc24 (x:aP):TV τ:=.agg [eO x.Round,fD x.Replica]
def aAQ (x:TV τ):Option (aP):=(match x with | .agg [x0,x1]=>(match cB x0 with | some a0=>(match cG x1 with | some a1=>some ⟨a0,a1⟩ | none=>none) | none=>none) | _=>none)
def beq24 (x y:aP):Bool:=(cM x.Round y.Round&&(cX x.Replica y.Replica&&true))
def aEe (x:aP):List AV:=cel24 x
def aEf (x:aP):TV τ:=enc24 x
def xI (x:TV τ):Option (aP):=aAQ x
def beq25 (x y:aP):Bool:=beq24 x y
def aEg (x:aL):List AV:=(dR x.Time++(eI x.Site++[]))
def aEh (x:aL):TV τ:=.agg [eO x.Time,fD x.Site]
def tP (x:TV τ):Option (aL):=(match x with | .agg [x0,x1]=>(match cB x0 with | some a0=>(match cG x1 with | some a1=>some ⟨a0,a1⟩ | none=>none) | none=>none) | _=>none)
def aEi (x y:aL):Bool:=(cM x.Time y.Time&&(cX x.Site y.Site&&true))
def aAR (x:GOp):List AV:=(aEg x.Stamp++(eI x.Kind++(dR x.Node++(dR x.Parent++(cel9 x.Name++(cel9 x.Key++(cel9 x.Value++[])))))))
def aEj (x:GOp):TV τ:=.agg [aEh x.Stamp,fD x.Kind,eO x.Node,eO x.Parent,enc9 x.Name,enc9 x.Key,enc9 x.Value]
def tQ (x:TV τ):Option (GOp):=(match x with | .agg [x0,x1,x2,x3,x4,x5,x6]=>(match tP x0 with | some a0=>(match cG x1 with | some a1=>(match cB x2 with | some a2=>(match cB x3 with | some a3=>(match qU x4 with | some a4=>(match qU x5 with | some a5=>(match qU x6 with | some a6=>some ⟨a0,a1,a2,a3,a4,a5,a6⟩ | none=>none) | none=>none) | none=>none) | none=>none) | none=>none) | none=>none) | none=>none) | _=>none)
def beq30 (x y:GOp):Bool:=(aEi x.Stamp y.Stamp&&(cX x.Kind y.Kind&&(cM x.Node y.Node&&(cM x.Parent y.Parent&&(beq9 x.Name y.Name&&(beq9 x.Key y.Key&&(beq9 x.Value y.Value&&true)))))))
def aEk (x:List (GOp)):List AV:=[.asl 8 (x.map aAR)]
def aEl (x:List (GOp)):TV τ:=.sl 30 x .any
def xJ (x:TV τ):Option (List (GOp)):=dSl 30 x
def aEm (x:Vector (Int) 8):List AV:=x.toList.flatMap eI
def aEn (x:Vector (Int) 8):TV τ:=.arr 3 8 x
def xK (x:TV τ):Option (Vector (Int) 8):=jC 3 8 x
def aEo (x y:Vector (Int) 8):Bool:=bR cX x y
def aAS (x:Vector (Int) 8):List AV:=x.toList.flatMap dR
def aAT (x:Vector (Int) 8):TV τ:=.arr 2 8 x
def qW (x:TV τ):Option (Vector (Int) 8):=jC 2 8 x
def beq34 (x y:Vector (Int) 8):Bool:=bR cM x y
def aAU (x:aD):List AV:=(dR x.Number++(aEm x.States++(aAS x.Seals++(aEm x.Sponsor++[]))))
def aAV (x:aD):TV τ:=.agg [eO x.Number,aEn x.States,aAT x.Seals,aEn x.Sponsor]
def oP (x:TV τ):Option (aD):=(match x with | .agg [x0,x1,x2,x3]=>(match cB x0 with | some a0=>(match xK x1 with | some a1=>(match qW x2 with | some a2=>(match xK x3 with | some a3=>some ⟨a0,a1,a2,a3⟩ | none=>none) | none=>none) | none=>none) | none=>none) | _=>none)
def beq36 (x y:aD):Bool:=(cM x.Number y.Number&&(aEo x.States y.States&&(beq34 x.Seals y.Seals&&(aEo x.Sponsor y.Sponsor&&true))))
def tR (x:List (Int)):List AV:=[.asl 1 (x.map cel5)]
def xL (x:List (Int)):TV τ:=.sl 5 x .any
def nI (x:TV τ):Option (List (Int)):=dSl 5 x
def aAW (x:aE):List AV:=(dR x.Snap++(eI x.Index++(eI x.Many++(tR x.Data++[]))))
def aAX (x:aE):TV τ:=.agg [eO x.Snap,fD x.Index,fD x.Many,xL x.Data]
def oQ (x:TV τ):Option (aE):=(match x with | .agg [x0,x1,x2,x3]=>(match cB x0 with | some a0=>(match cG x1 with | some a1=>(match cG x2 with | some a2=>(match nI x3 with | some a3=>some ⟨a0,a1,a2,a3⟩ | none=>none) | none=>none) | none=>none) | none=>none) | _=>none)
def aAY (x:aC):List AV:=(eI x.Kind++(dR x.Session++(dR x.Request++(aAR x.Op++(eI x.Origin++(dR x.Seq++(aEk x.Ops++(aAU x.Epoch++(eI x.From++(aAS x.Vector_++(dR x.Clock++(aAW x.Part++(eI x.Site++(eI x.Sponsor++(dR x.Length++[])))))))))))))))
def aAZ (x:aC):TV τ:=.agg [fD x.Kind,eO x.Session,eO x.Request,aEj x.Op,fD x.Origin,eO x.Seq,aEl x.Ops,aAV x.Epoch,fD x.From,aAT x.Vector_,eO x.Clock,aAX x.Part,fD x.Site,fD x.Sponsor,eO x.Length]
def oR (x:TV τ):Option (aC):=(match x with | .agg [x0,x1,x2,x3,x4,x5,x6,x7,x8,x9,x10,x11,x12,x13,x14]=>(match cG x0 with | some a0=>(match cB x1 with | some a1=>(match cB x2 with | some a2=>(match tQ x3 with | some a3=>(match cG x4 with | some a4=>(match cB x5 with | some a5=>(match xJ x6 with | some a6=>(match oP x7 with | some a7=>(match cG x8 with | some a8=>(match qW x9 with | some a9=>(match cB x10 with | some a10=>(match oQ x11 with | some a11=>(match cG x12 with | some a12=>(match cG x13 with | some a13=>(match cB x14 with | some a14=>some ⟨a0,a1,a2,a3,a4,a5,a6,a7,a8,a9,a10,a11,a12,a13,a14⟩ | none=>none) | none=>none) | none=>none) | none=>none) | none=>none) | none=>none) | none=>none) | none=>none) | none=>none) | none=>none) | none=>none) | none=>none) | none=>none) | none=>none) | none=>none) | _=>none)
def aEp (x:aQ):List AV:=(dR x.Slot++(aEe x.Ballot++(aAY x.Entry++[])))
def aLf (x:aQ):TV τ:=.agg [eO x.Slot,aEf x.Ballot,aAZ x.Entry]
def aA0 (x:TV τ):Option (aQ):=(match x with | .agg [x0,x1,x2]=>(match cB x0 with | some a0=>(match xI x1 with | some a1=>(match oR x2 with | some a2=>some ⟨a0,a1,a2⟩ | none=>none) | none=>none) | none=>none) | _=>none)
def cel26 (x:List (aQ)):List AV:=[.asl 59 (x.map aEp)]
def enc26 (x:List (aQ)):TV τ:=.sl 155 x .any
def aEq (x:TV τ):Option (List (aQ)):=dSl 155 x
def cel27 (x:aL):List AV:=aEg x
def enc27 (x:aL):TV τ:=aEh x
def dec27 (x:TV τ):Option (aL):=tP x
def beq27 (x y:aL):Bool:=aEi x y
def cel29 (x:GOp):List AV:=aAR x
def enc29 (x:GOp):TV τ:=aEj x
def dec29 (x:TV τ):Option (GOp):=tQ x
def beq29 (x y:GOp):Bool:=beq30 x y
def cel33 (x:Vector (Int) 8):List AV:=x.toList.flatMap dR
def enc33 (x:Vector (Int) 8):TV τ:=.arr 2 8 x
def dec33 (x:TV τ):Option (Vector (Int) 8):=jC 2 8 x
def beq33 (x y:Vector (Int) 8):Bool:=bR cM x y
def cel35 (x:aD):List AV:=aAU x
def enc35 (x:aD):TV τ:=aAV x
def dec35 (x:TV τ):Option (aD):=oP x
def beq35 (x y:aD):Bool:=beq36 x y
def cel38 (x:aE):List AV:=aAW x
def enc38 (x:aE):TV τ:=aAX x
def dec38 (x:TV τ):Option (aE):=oQ x
def cel40 (x:aC):List AV:=aAY x
def enc40 (x:aC):TV τ:=aAZ x
def dec40 (x:TV τ):Option (aC):=oR x
def cel42 (x:aB):List AV:=(eI x.Kind++(oO x.From++(oO x.To++(aEe x.Ballot++(dR x.Slot++(cel26 x.List_++(aAY x.Entry++(dR x.Number++(aAS x.Vector_++(dR x.Clock++(eI x.Origin++(aEk x.Ops++(aAU x.Epoch++(aAW x.Part++[]))))))))))))))
def enc42 (x:aB):TV τ:=.agg [fD x.Kind,qV x.From,qV x.To,aEf x.Ballot,eO x.Slot,enc26 x.List_,aAZ x.Entry,eO x.Number,aAT x.Vector_,eO x.Clock,fD x.Origin,aEl x.Ops,aAV x.Epoch,aAX x.Part]
def aA1 (x:TV τ):Option (aB):=(match x with | .agg [x0,x1,x2,x3,x4,x5,x6,x7,x8,x9,x10,x11,x12,x13]=>(match cG x0 with | some a0=>(match jJ x1 with | some a1=>(match jJ x2 with | some a2=>(match xI x3 with | some a3=>(match cB x4 with | some a4=>(match aEq x5 with | some a5=>(match oR x6 with | some a6=>(match cB x7 with | some a7=>(match qW x8 with | some a8=>(match cB x9 with | some a9=>(match cG x10 with | some a10=>(match xJ x11 with | some a11=>(match oP x12 with | some a12=>(match oQ x13 with | some a13=>some ⟨a0,a1,a2,a3,a4,a5,a6,a7,a8,a9,a10,a11,a12,a13⟩ | none=>none) | none=>none) | none=>none) | none=>none) | none=>none) | none=>none) | none=>none) | none=>none) | none=>none) | none=>none) | none=>none) | none=>none) | none=>none) | none=>none) | _=>none)
def cel43 (x:aB):List AV:=cel42 x
def enc43 (x:aB):TV τ:=enc42 x
def dec43 (x:TV τ):Option (aB):=aA1 x
def cel44 (x:Int):List AV:=[.v (.int .u16 x)]
def enc44 (x:Int):TV τ:=.int .u16 x
def dec44 (x:TV τ):Option (Int):=cA .u16 x
def beq44 (x y:Int):Bool:=(x==y)
def aEr (x:Int):List AV:=[.v (.int .i64 x)]
def enc48 (x:Int):TV τ:=.int .i64 x
def aEs (x:TV τ):Option (Int):=cA .i64 x
def beq48 (x y:Int):Bool:=(x==y)
def cel59 (x:List (aB)):List AV:=[.asl 106 (x.map cel43)]
def enc59 (x:List (aB)):TV τ:=.sl 43 x .any
def aEt (x:TV τ):Option (List (aB)):=dSl 43 x
def cel60 (x:List (Int)):List AV:=[.asl 1 (x.map dR)]
def enc60 (x:List (Int)):TV τ:=.sl 2 x .any
def dec60 (x:TV τ):Option (List (Int)):=dSl 2 x
def cel64 (x:cC):List AV:=(dR x.Number++(oO x.From++(oO x.To++(tR x.Data++[]))))
def enc64 (x:cC):TV τ:=.agg [eO x.Number,qV x.From,qV x.To,xL x.Data]
def aA2 (x:TV τ):Option (cC):=(match x with | .agg [x0,x1,x2,x3]=>(match cB x0 with | some a0=>(match jJ x1 with | some a1=>(match jJ x2 with | some a2=>(match nI x3 with | some a3=>some ⟨a0,a1,a2,a3⟩ | none=>none) | none=>none) | none=>none) | none=>none) | _=>none)
def cel65 (x:cC):List AV:=cel64 x
def enc65 (x:cC):TV τ:=enc64 x
def dec65 (x:TV τ):Option (cC):=aA2 x
def cel70 (x:List (aS)):List AV:=[.asl 2 (x.map oO)]
def enc70 (x:List (aS)):TV τ:=.sl 23 x .any
def aEu (x:TV τ):Option (List (aS)):=dSl 23 x
def aEv (x:fT):List AV:=(eI x.Kind++(cel59 x.Msgs++(dR x.Number++(eI x.Place++(cel5 x.With++(cel70 x.Addrs++(eI x.Stop++[])))))))
def enc72 (x:fT):TV τ:=.agg [fD x.Kind,enc59 x.Msgs,eO x.Number,fD x.Place,enc5 x.With,enc70 x.Addrs,fD x.Stop]
def aA3 (x:TV τ):Option (fT):=(match x with | .agg [x0,x1,x2,x3,x4,x5,x6]=>(match cG x0 with | some a0=>(match aEt x1 with | some a1=>(match cB x2 with | some a2=>(match cG x3 with | some a3=>(match dec5 x4 with | some a4=>(match aEu x5 with | some a5=>(match cG x6 with | some a6=>some ⟨a0,a1,a2,a3,a4,a5,a6⟩ | none=>none) | none=>none) | none=>none) | none=>none) | none=>none) | none=>none) | none=>none) | _=>none)
def cel69 (x:List (fT)):List AV:=[.asl 7 (x.map aEv)]
def enc69 (x:List (fT)):TV τ:=.sl 72 x .any
def dec69 (x:TV τ):Option (List (fT)):=dSl 72 x
def cel71 (x:fT):List AV:=aEv x
def enc71 (x:fT):TV τ:=enc72 x
def dec71 (x:TV τ):Option (fT):=aA3 x
def aEw (x:List (cC)):List AV:=[.asl 6 (x.map cel65)]
def aEx (x:List (cC)):TV τ:=.sl 65 x .any
def xM (x:TV τ):Option (List (cC)):=dSl 65 x
def cel76 (x:kB):List AV:=(aEw x.L++(dR x.Last++[]))
def enc76 (x:kB):TV τ:=.agg [aEx x.L,eO x.Last]
def aA4 (x:TV τ):Option (kB):=(match x with | .agg [x0,x1]=>(match xM x0 with | some a0=>(match cB x1 with | some a1=>some ⟨a0,a1⟩ | none=>none) | none=>none) | _=>none)
def cel77 (x:kB):List AV:=cel76 x
def enc77 (x:kB):TV τ:=enc76 x
def dec77 (x:TV τ):Option (kB):=aA4 x
def cel79 (x:jI):List AV:=(aEw x.wait++(dR x.last++[]))
def enc79 (x:jI):TV τ:=.agg [aEx x.wait,eO x.last]
def aA5 (x:TV τ):Option (jI):=(match x with | .agg [x0,x1]=>(match xM x0 with | some a0=>(match cB x1 with | some a1=>some ⟨a0,a1⟩ | none=>none) | none=>none) | _=>none)
def cel80 (x:jI):List AV:=cel79 x
def enc80 (x:jI):TV τ:=enc79 x
def aEy (x:TV τ):Option (jI):=aA5 x
def cel81 (x:kC):List AV:=(cel80 x.queue++(cel4 x.made++[]))
def enc81 (x:kC):TV τ:=.agg [enc80 x.queue,enc4 x.made]
def aA6 (x:TV τ):Option (kC):=(match x with | .agg [x0,x1]=>(match aEy x0 with | some a0=>(match dec4 x1 with | some a1=>some ⟨a0,a1⟩ | none=>none) | none=>none) | _=>none)
def cel82 (x:kC):List AV:=cel81 x
def enc82 (x:kC):TV τ:=enc81 x
def dec82 (x:TV τ):Option (kC):=aA6 x
def aLg (x:Int):List AV:=[.v (.int .u32 x)]
def enc138 (x:Int):TV τ:=.int .u32 x
def dec138 (x:TV τ):Option (Int):=cA .u32 x
def aLh (x y:Int):Bool:=(x==y)
def aLi (x:Int):List AV:=[.v (.int .u64 x)]
def enc140 (x:Int):TV τ:=.int .u64 x
def dec140 (x:TV τ):Option (Int):=cA .u64 x
def aLj (x y:Int):Bool:=(x==y)
def cel154 (x:aQ):List AV:=aEp x
def enc154 (x:aQ):TV τ:=aLf x
def dec154 (x:TV τ):Option (aQ):=aA0 x
def aEz (x:aN):List AV:=(cel4 x.made++(tR x.b++[]))
def aEA (x:aN):TV τ:=.agg [enc4 x.made,xL x.b]
def xN (x:TV τ):Option (aN):=(match x with | .agg [x0,x1]=>(match dec4 x0 with | some a0=>(match nI x1 with | some a1=>some ⟨a0,a1⟩ | none=>none) | none=>none) | _=>none)
def cel166 (x:aN):List AV:=aEz x
def enc166 (x:aN):TV τ:=aEA x
def dec166 (x:TV τ):Option (aN):=xN x
def cel186 (x:aN):List AV:=aEz x
def enc186 (x:aN):TV τ:=aEA x
def dec186 (x:TV τ):Option (aN):=xN x
def aLk (x:kD):List AV:=(tR x.B++(eI x.At++(aEr x.E++[])))
def aLl (x:kD):TV τ:=.agg [xL x.B,fD x.At,enc48 x.E]
def aA7 (x:TV τ):Option (kD):=(match x with | .agg [x0,x1,x2]=>(match nI x0 with | some a0=>(match cG x1 with | some a1=>(match aEs x2 with | some a2=>some ⟨a0,a1,a2⟩ | none=>none) | none=>none) | none=>none) | _=>none)
def cel193 (x:kD):List AV:=aLk x
def enc193 (x:kD):TV τ:=aLl x
def dec193 (x:TV τ):Option (kD):=aA7 x
def cel194 (x:List (Int)):List AV:=[.asl 1 (x.map eI)]
def enc194 (x:List (Int)):TV τ:=.sl 3 x .any
def dec194 (x:TV τ):Option (List (Int)):=dSl 3 x
def cel201 (x:List (List (Int))):List AV:=[.asl 1 (x.map tR)]
def enc201 (x:List (List (Int))):TV τ:=.sl 37 x .any
def dec201 (x:TV τ):Option (List (List (Int))):=dSl 37 x
def aLm (x:Int):List AV:=[.v (.int .u64 x)]
def enc203 (x:Int):TV τ:=.int .u64 x
def dec203 (x:TV τ):Option (Int):=cA .u64 x
def aLn (x y:Int):Bool:=(x==y)
def cel229 (x:List (List UInt8)):List AV:=[.asl 1 (x.map cel9)]
def enc229 (x:List (List UInt8)):TV τ:=.sl 9 x .any
def dec229 (x:TV τ):Option (List (List UInt8)):=dSl 9 x
def aP5 (x:bU):List AV:=(dR x.Number++(oO x.From++(oO x.To++(aLd x.Data++[]))))
def aP6 (x:bU):TV τ:=.agg [eO x.Number,qV x.From,qV x.To,aLe x.Data]
def aEB (x:TV τ):Option (bU):=(match x with | .agg [x0,x1,x2,x3]=>(match cB x0 with | some a0=>(match jJ x1 with | some a1=>(match jJ x2 with | some a2=>(match aEd x3 with | some a3=>some ⟨a0,a1,a2,a3⟩ | none=>none) | none=>none) | none=>none) | none=>none) | _=>none)
def fE:(t:Nat)→τ t→List AV
 | 2=>dR
 | 3=>eI
 | 4=>cel4
 | 5=>cel5
 | 9=>cel9
 | 12=>cel12
 | 21=>cel21
 | 22=>cel22
 | 23=>oO
 | 24=>cel24
 | 25=>aEe
 | 26=>cel26
 | 27=>cel27
 | 28=>aEg
 | 29=>cel29
 | 30=>aAR
 | 31=>aEk
 | 32=>aEm
 | 33=>cel33
 | 34=>aAS
 | 35=>cel35
 | 36=>aAU
 | 37=>tR
 | 38=>cel38
 | 39=>aAW
 | 40=>cel40
 | 41=>aAY
 | 42=>cel42
 | 43=>cel43
 | 44=>cel44
 | 48=>aEr
 | 59=>cel59
 | 60=>cel60
 | 64=>cel64
 | 65=>cel65
 | 69=>cel69
 | 70=>cel70
 | 71=>cel71
 | 72=>aEv
 | 75=>aEw
 | 76=>cel76
 | 77=>cel77
 | 79=>cel79
 | 80=>cel80
 | 81=>cel81
 | 82=>cel82
 | 138=>aLg
 | 140=>aLi
 | 154=>cel154
 | 155=>aEp
 | 165=>aEz
 | 166=>cel166
 | 186=>cel186
 | 192=>aLk
 | 193=>cel193
 | 194=>cel194
 | 201=>cel201
 | 203=>aLm
 | 229=>cel229
 | 20065=>aP5
 | 10005=>aLd
 | _=>fun _=>[]
def encT:(t:Nat)→τ t→TV τ
 | 2=>eO
 | 3=>fD
 | 4=>enc4
 | 5=>enc5
 | 9=>enc9
 | 12=>enc12
 | 21=>enc21
 | 22=>enc22
 | 23=>qV
 | 24=>enc24
 | 25=>aEf
 | 26=>enc26
 | 27=>enc27
 | 28=>aEh
 | 29=>enc29
 | 30=>aEj
 | 31=>aEl
 | 32=>aEn
 | 33=>enc33
 | 34=>aAT
 | 35=>enc35
 | 36=>aAV
 | 37=>xL
 | 38=>enc38
 | 39=>aAX
 | 40=>enc40
 | 41=>aAZ
 | 42=>enc42
 | 43=>enc43
 | 44=>enc44
 | 48=>enc48
 | 59=>enc59
 | 60=>enc60
 | 64=>enc64
 | 65=>enc65
 | 69=>enc69
 | 70=>enc70
 | 71=>enc71
 | 72=>enc72
 | 75=>aEx
 | 76=>enc76
 | 77=>enc77
 | 79=>enc79
 | 80=>enc80
 | 81=>enc81
 | 82=>enc82
 | 138=>enc138
 | 140=>enc140
 | 154=>enc154
 | 155=>aLf
 | 165=>aEA
 | 166=>enc166
 | 186=>enc186
 | 192=>aLl
 | 193=>enc193
 | 194=>enc194
 | 201=>enc201
 | 203=>enc203
 | 229=>enc229
 | 20065=>aP6
 | 10005=>aLe
 | _=>fun _=>.agg []
def kE:(t:Nat)→TV τ→Option (τ t)
 | 2=>cB
 | 3=>cG
 | 4=>dec4
 | 5=>dec5
 | 9=>qU
 | 12=>dec12
 | 21=>dec21
 | 22=>aAP
 | 23=>jJ
 | 24=>aAQ
 | 25=>xI
 | 26=>aEq
 | 27=>dec27
 | 28=>tP
 | 29=>dec29
 | 30=>tQ
 | 31=>xJ
 | 32=>xK
 | 33=>dec33
 | 34=>qW
 | 35=>dec35
 | 36=>oP
 | 37=>nI
 | 38=>dec38
 | 39=>oQ
 | 40=>dec40
 | 41=>oR
 | 42=>aA1
 | 43=>dec43
 | 44=>dec44
 | 48=>aEs
 | 59=>aEt
 | 60=>dec60
 | 64=>aA2
 | 65=>dec65
 | 69=>dec69
 | 70=>aEu
 | 71=>dec71
 | 72=>aA3
 | 75=>xM
 | 76=>aA4
 | 77=>dec77
 | 79=>aA5
 | 80=>aEy
 | 81=>aA6
 | 82=>dec82
 | 138=>dec138
 | 140=>dec140
 | 154=>dec154
 | 155=>aA0
 | 165=>xN
 | 166=>dec166
 | 186=>dec186
 | 192=>aA7
 | 193=>dec193
 | 194=>dec194
 | 201=>dec201
 | 203=>dec203
 | 229=>dec229
 | 20065=>aEB
 | 10005=>aEd
 | _=>fun _=>none
theorem dfN (t:Nat):Nonempty (τ t):=by unfold τ; split<;>exact ⟨default⟩
noncomputable def dfX (t:Nat):τ t:=Classical.choice (dfN t)
noncomputable def dfT:(t:Nat)→τ t
 | 2=>(default:Int)
 | 3=>(default:Int)
 | 4=>(default:Bool)
 | 5=>(default:Int)
 | 9=>(default:List UInt8)
 | 12=>(default:Int)
 | 21=>(default:Int)
 | 22=>(default:aS)
 | 23=>(default:aS)
 | 24=>(default:aP)
 | 25=>(default:aP)
 | 26=>(default:List (aQ))
 | 27=>(default:aL)
 | 28=>(default:aL)
 | 29=>(default:GOp)
 | 30=>(default:GOp)
 | 31=>(default:List (GOp))
 | 32=>(default:Vector (Int) 8)
 | 33=>(default:Vector (Int) 8)
 | 34=>(default:Vector (Int) 8)
 | 35=>(default:aD)
 | 36=>(default:aD)
 | 37=>(default:List (Int))
 | 38=>(default:aE)
 | 39=>(default:aE)
 | 40=>(default:aC)
 | 41=>(default:aC)
 | 42=>(default:aB)
 | 43=>(default:aB)
 | 44=>(default:Int)
 | 48=>(default:Int)
 | 59=>(default:List (aB))
 | 60=>(default:List (Int))
 | 64=>(default:cC)
 | 65=>(default:cC)
 | 69=>(default:List (fT))
 | 70=>(default:List (aS))
 | 71=>(default:fT)
 | 72=>(default:fT)
 | 75=>(default:List (cC))
 | 76=>(default:kB)
 | 77=>(default:kB)
 | 79=>(default:jI)
 | 80=>(default:jI)
 | 81=>(default:kC)
 | 82=>(default:kC)
 | 138=>(default:Int)
 | 140=>(default:Int)
 | 154=>(default:aQ)
 | 155=>(default:aQ)
 | 165=>(default:aN)
 | 166=>(default:aN)
 | 186=>(default:aN)
 | 192=>(default:kD)
 | 193=>(default:kD)
 | 194=>(default:List (Int))
 | 201=>(default:List (List (Int)))
 | 203=>(default:Int)
 | 229=>(default:List (List UInt8))
 | 20065=>(default:bU)
 | 10005=>(default:Hd)
 | t=>dfX t
def szT:Nat→Nat
 | 2=>1
 | 3=>1
 | 4=>1
 | 5=>1
 | 9=>1
 | 12=>1
 | 21=>1
 | 22=>2
 | 23=>2
 | 24=>2
 | 25=>2
 | 26=>1
 | 27=>2
 | 28=>2
 | 29=>8
 | 30=>8
 | 31=>1
 | 32=>8
 | 33=>8
 | 34=>8
 | 35=>25
 | 36=>25
 | 37=>1
 | 38=>4
 | 39=>4
 | 40=>56
 | 41=>56
 | 42=>106
 | 43=>106
 | 44=>1
 | 48=>1
 | 59=>1
 | 60=>1
 | 64=>6
 | 65=>6
 | 69=>1
 | 70=>1
 | 71=>7
 | 72=>7
 | 75=>1
 | 76=>2
 | 77=>2
 | 79=>2
 | 80=>2
 | 81=>3
 | 82=>3
 | 138=>1
 | 140=>1
 | 154=>59
 | 155=>59
 | 165=>2
 | 166=>2
 | 186=>2
 | 192=>3
 | 193=>3
 | 194=>1
 | 201=>1
 | 203=>1
 | 229=>1
 | 20065=>6
 | 10005=>1
 | _=>0
def kdT:Nat→Option (List Kd)
 | 2=>some [.i]
 | 3=>some [.i]
 | 4=>some [.b]
 | 5=>some [.i]
 | 9=>some [.s]
 | 12=>some [.i]
 | 21=>some [.i]
 | 22=>some [.i,.i]
 | 23=>some [.i,.i]
 | 24=>some [.i,.i]
 | 25=>some [.i,.i]
 | 27=>some [.i,.i]
 | 28=>some [.i,.i]
 | 29=>some [.i,.i,.i,.i,.i,.s,.s,.s]
 | 30=>some [.i,.i,.i,.i,.i,.s,.s,.s]
 | 32=>some [.i,.i,.i,.i,.i,.i,.i,.i]
 | 33=>some [.i,.i,.i,.i,.i,.i,.i,.i]
 | 34=>some [.i,.i,.i,.i,.i,.i,.i,.i]
 | 35=>some [.i,.i,.i,.i,.i,.i,.i,.i,.i,.i,.i,.i,.i,.i,.i,.i,.i,.i,.i,.i,.i,.i,.i,.i,.i]
 | 36=>some [.i,.i,.i,.i,.i,.i,.i,.i,.i,.i,.i,.i,.i,.i,.i,.i,.i,.i,.i,.i,.i,.i,.i,.i,.i]
 | 44=>some [.i]
 | 48=>some [.i]
 | 138=>some [.i]
 | 140=>some [.i]
 | 203=>some [.i]
 | _=>none
def jK:(t:Nat)→τ t→τ t→Bool
 | 2=>cM
 | 3=>cX
 | 4=>beq4
 | 5=>beq5
 | 9=>beq9
 | 12=>beq12
 | 21=>beq21
 | 22=>beq22
 | 23=>beq23
 | 24=>beq24
 | 25=>beq25
 | 27=>beq27
 | 28=>aEi
 | 29=>beq29
 | 30=>beq30
 | 32=>aEo
 | 33=>beq33
 | 34=>beq34
 | 35=>beq35
 | 36=>beq36
 | 44=>beq44
 | 48=>beq48
 | 138=>aLh
 | 140=>aLj
 | 203=>aLn
 | _=>fun _ _=>false
def b2sT:(t:Nat)→List (τ t)→Option (List UInt8)
 | 5=>fun (l:List Int)=>some (jD l)
 | _=>fun _=>none
def s2bT:(t:Nat)→List UInt8→Option (List (τ t))
 | 5=>fun s=>some (jU s)
 | _=>fun _=>none
noncomputable def siteT:Nat→Nat→Array Tmp×Code×Code:=fun f k=>bif Nat.beq f 4 then aDA Tryz.f4 k else bif Nat.beq f 5 then aDA Tryz.f5 k else bif Nat.beq f 6 then aDA Tryz.f6 k else bif Nat.beq f 23 then aDA Tryz.f23 k else (#[],.skip,.skip)
noncomputable def C:Cod τ:=⟨fE,encT,kE,dfT,szT,kdT,jK,b2sT,s2bT,siteT⟩
theorem oS:bD C 10005:=⟨fun x=>rfl,fun x=>rfl,fun x a h=>(aKe (C:=C) (show dHd 5 x=some a from h)).1,fun x=>rfl,fun x a h=>(aKe (C:=C) (show dHd 5 x=some a from h)).2.1,fun x a h=>(aKe (C:=C) (show dHd 5 x=some a from h)).2.2,fun a=>rfl,fun a=>eA NoId.hsl,(fun ks h=>nomatch h),(fun l s h=>nomatch h),(fun s l h=>nomatch h)⟩
theorem aI:bD C 2:=⟨fun x=>rfl,fun x=>rfl,fun x a h=>by rw [dB (show cA .i64 x=some a from h)]; exact .refl _,fun x=>rfl,fun x a h=>by rw [dB (show cA .i64 x=some a from h)]; rfl,fun x a h=>by rw [dB (show cA .i64 x=some a from h)]; rfl,fun a=>rfl,fun a=>eA (NoId.v _),fun ks h a b=>by cases h; simp [cD,eP,C,fE,dR,jK,cM],(fun l s h=>nomatch h),(fun s l h=>nomatch h)⟩
theorem aK:bD C 3:=⟨fun x=>rfl,fun x=>rfl,fun x a h=>by rw [dB (show cA .i64 x=some a from h)]; exact .refl _,fun x=>rfl,fun x a h=>by rw [dB (show cA .i64 x=some a from h)]; rfl,fun x a h=>by rw [dB (show cA .i64 x=some a from h)]; rfl,fun a=>rfl,fun a=>eA (NoId.v _),fun ks h a b=>by cases h; simp [cD,eP,C,fE,eI,jK,cX],(fun l s h=>nomatch h),(fun s l h=>nomatch h)⟩
theorem hZ:bD C 4:=⟨fun x=>rfl,fun x=>rfl,fun x a h=>by rw [aKc (show wU x=some a from h)]; exact .refl _,fun x=>rfl,fun x a h=>by rw [aKc (show wU x=some a from h)]; rfl,fun x a h=>by rw [aKc (show wU x=some a from h)]; rfl,fun a=>rfl,fun a=>eA (NoId.v _),fun ks h a b=>by cases h; simp [cD,eP,C,fE,cel4,jK,beq4],(fun l s h=>nomatch h),(fun s l h=>nomatch h)⟩
theorem lD:bD C 5:=⟨fun x=>rfl,fun x=>rfl,fun x a h=>by rw [dB (show cA .u8 x=some a from h)]; exact .refl _,fun x=>rfl,fun x a h=>by rw [dB (show cA .u8 x=some a from h)]; rfl,fun x a h=>by rw [dB (show cA .u8 x=some a from h)]; rfl,fun a=>rfl,fun a=>eA (NoId.v _),fun ks h a b=>by cases h; simp [cD,eP,C,fE,cel5,jK,beq5],fun l s h=>⟨rfl,(aOg l).trans h⟩,fun s l h=>⟨rfl,by cases h; show (jU s).map cel5=_; simp [jU,cel5,rE]⟩⟩
theorem dM:bD C 9:=⟨fun x=>rfl,fun x=>rfl,fun x a h=>by rw [aKd (show dStr x=some a from h)]; exact .refl _,fun x=>rfl,fun x a h=>by rw [aKd (show dStr x=some a from h)]; rfl,fun x a h=>by rw [aKd (show dStr x=some a from h)]; rfl,fun a=>rfl,fun a=>eA (NoId.v _),fun ks h a b=>by cases h; simp [cD,eP,C,fE,cel9,jK,beq9],(fun l s h=>nomatch h),(fun s l h=>nomatch h)⟩
theorem law12:bD C 12:=⟨fun x=>rfl,fun x=>rfl,fun x a h=>by rw [dB (show cA .u64 x=some a from h)]; exact .refl _,fun x=>rfl,fun x a h=>by rw [dB (show cA .u64 x=some a from h)]; rfl,fun x a h=>by rw [dB (show cA .u64 x=some a from h)]; rfl,fun a=>rfl,fun a=>eA (NoId.v _),fun ks h a b=>by cases h; simp [cD,eP,C,fE,cel12,jK,beq12],(fun l s h=>nomatch h),(fun s l h=>nomatch h)⟩
theorem law21:bD C 21:=⟨fun x=>rfl,fun x=>rfl,fun x a h=>by rw [dB (show cA .i32 x=some a from h)]; exact .refl _,fun x=>rfl,fun x a h=>by rw [dB (show cA .i32 x=some a from h)]; rfl,fun x a h=>by rw [dB (show cA .i32 x=some a from h)]; rfl,fun a=>rfl,fun a=>eA (NoId.v _),fun ks h a b=>by cases h; simp [cD,eP,C,fE,cel21,jK,beq21],(fun l s h=>nomatch h),(fun s l h=>nomatch h)⟩
theorem aEC {x:TV τ} {a:aS} (h:aAP x=some a):∃ x0 x1,x=.agg [x0,x1]∧cG x0=some a.Group∧cG x1=some a.Replica:=by
 unfold aAP at h
 split at h
 ·rename_i x0 x1
  split at h
  ·rename_i a0 h0
   split at h
   ·rename_i a1 h1
    cases h
    exact ⟨_,_,rfl,h0,h1⟩
   ·cases h
  ·cases h
 ·cases h
theorem law22:bD C 22:=⟨fun x=>aU (aK.cel _) (aU (aK.cel _) (rfl)),fun x=>aX (aK.len _) (aX (aK.len _) (rfl)),fun x a h=>by obtain ⟨x0,x1,rfl,h0,h1⟩:=aEC h; exact CW.append (aK.dec _ _ h0) (CW.append (aK.dec _ _ h1) (CW.refl [])),fun x=>have q:=aG (aK.ok x.Group) (aG (aK.ok x.Replica) (fS)); q,fun x a h=>by obtain ⟨x0,x1,rfl,h0,h1⟩:=aEC h; exact aG (aK.decok _ _ h0) (aG (aK.decok _ _ h1) (rfl)),fun x a h=>by obtain ⟨x0,x1,rfl,h0,h1⟩:=aEC h; rfl,fun x=>aY (aK.one _) (aY (aK.one _) (rfl)),fun x=>aZ (aK.noid _) (aZ (aK.noid _) (trivial)),fun ks h a b=>by have:=eW (aK.kd _ rfl a.Group b.Group) (eW (aK.kd _ rfl a.Replica b.Replica) ((show cD [] [] []=some true from rfl))); cases h; exact this,(fun l s h=>nomatch h),(fun s l h=>nomatch h)⟩
theorem bW:bD C 23:=let q:=law22; ⟨q.cel,q.len,q.dec,q.ok,q.decok,q.agg,q.one,q.noid,q.kd,q.b2s,q.s2b⟩
theorem aED {x:TV τ} {a:aP} (h:aAQ x=some a):∃ x0 x1,x=.agg [x0,x1]∧cB x0=some a.Round∧cG x1=some a.Replica:=by
 unfold aAQ at h
 split at h
 ·rename_i x0 x1
  split at h
  ·rename_i a0 h0
   split at h
   ·rename_i a1 h1
    cases h
    exact ⟨_,_,rfl,h0,h1⟩
   ·cases h
  ·cases h
 ·cases h
theorem law24:bD C 24:=⟨fun x=>aU (aI.cel _) (aU (aK.cel _) (rfl)),fun x=>aX (aI.len _) (aX (aK.len _) (rfl)),fun x a h=>by obtain ⟨x0,x1,rfl,h0,h1⟩:=aED h; exact CW.append (aI.dec _ _ h0) (CW.append (aK.dec _ _ h1) (CW.refl [])),fun x=>have q:=aG (aI.ok x.Round) (aG (aK.ok x.Replica) (fS)); q,fun x a h=>by obtain ⟨x0,x1,rfl,h0,h1⟩:=aED h; exact aG (aI.decok _ _ h0) (aG (aK.decok _ _ h1) (rfl)),fun x a h=>by obtain ⟨x0,x1,rfl,h0,h1⟩:=aED h; rfl,fun x=>aY (aI.one _) (aY (aK.one _) (rfl)),fun x=>aZ (aI.noid _) (aZ (aK.noid _) (trivial)),fun ks h a b=>by have:=eW (aI.kd _ rfl a.Round b.Round) (eW (aK.kd _ rfl a.Replica b.Replica) ((show cD [] [] []=some true from rfl))); cases h; exact this,(fun l s h=>nomatch h),(fun s l h=>nomatch h)⟩
theorem iA:bD C 25:=let q:=law24; ⟨q.cel,q.len,q.dec,q.ok,q.decok,q.agg,q.one,q.noid,q.kd,q.b2s,q.s2b⟩
theorem aEE {x:TV τ} {a:aL} (h:tP x=some a):∃ x0 x1,x=.agg [x0,x1]∧cB x0=some a.Time∧cG x1=some a.Site:=by
 unfold tP at h
 split at h
 ·rename_i x0 x1
  split at h
  ·rename_i a0 h0
   split at h
   ·rename_i a1 h1
    cases h
    exact ⟨_,_,rfl,h0,h1⟩
   ·cases h
  ·cases h
 ·cases h
theorem mD:bD C 28:=⟨fun x=>aU (aI.cel _) (aU (aK.cel _) (rfl)),fun x=>aX (aI.len _) (aX (aK.len _) (rfl)),fun x a h=>by obtain ⟨x0,x1,rfl,h0,h1⟩:=aEE h; exact CW.append (aI.dec _ _ h0) (CW.append (aK.dec _ _ h1) (CW.refl [])),fun x=>have q:=aG (aI.ok x.Time) (aG (aK.ok x.Site) (fS)); q,fun x a h=>by obtain ⟨x0,x1,rfl,h0,h1⟩:=aEE h; exact aG (aI.decok _ _ h0) (aG (aK.decok _ _ h1) (rfl)),fun x a h=>by obtain ⟨x0,x1,rfl,h0,h1⟩:=aEE h; rfl,fun x=>aY (aI.one _) (aY (aK.one _) (rfl)),fun x=>aZ (aI.noid _) (aZ (aK.noid _) (trivial)),fun ks h a b=>by have:=eW (aI.kd _ rfl a.Time b.Time) (eW (aK.kd _ rfl a.Site b.Site) ((show cD [] [] []=some true from rfl))); cases h; exact this,(fun l s h=>nomatch h),(fun s l h=>nomatch h)⟩
theorem aEF {x:TV τ} {a:GOp} (h:tQ x=some a):∃ x0 x1 x2 x3 x4 x5 x6,x=.agg [x0,x1,x2,x3,x4,x5,x6]∧tP x0=some a.Stamp∧cG x1=some a.Kind∧cB x2=some a.Node∧cB x3=some a.Parent∧qU x4=some a.Name∧qU x5=some a.Key∧qU x6=some a.Value:=by
 unfold tQ at h
 split at h
 ·rename_i x0 x1 x2 x3 x4 x5 x6
  split at h
  ·rename_i a0 h0
   split at h
   ·rename_i a1 h1
    split at h
    ·rename_i a2 h2
     split at h
     ·rename_i a3 h3
      split at h
      ·rename_i a4 h4
       split at h
       ·rename_i a5 h5
        split at h
        ·rename_i a6 h6
         cases h
         exact ⟨_,_,_,_,_,_,_,rfl,h0,h1,h2,h3,h4,h5,h6⟩
        ·cases h
       ·cases h
      ·cases h
     ·cases h
    ·cases h
   ·cases h
  ·cases h
 ·cases h
theorem lF:bD C 30:=⟨fun x=>aU (mD.cel _) (aU (aK.cel _) (aU (aI.cel _) (aU (aI.cel _) (aU (dM.cel _) (aU (dM.cel _) (aU (dM.cel _) (rfl))))))),fun x=>aX (mD.len _) (aX (aK.len _) (aX (aI.len _) (aX (aI.len _) (aX (dM.len _) (aX (dM.len _) (aX (dM.len _) (rfl))))))),fun x a h=>by obtain ⟨x0,x1,x2,x3,x4,x5,x6,rfl,h0,h1,h2,h3,h4,h5,h6⟩:=aEF h; exact CW.append (mD.dec _ _ h0) (CW.append (aK.dec _ _ h1) (CW.append (aI.dec _ _ h2) (CW.append (aI.dec _ _ h3) (CW.append (dM.dec _ _ h4) (CW.append (dM.dec _ _ h5) (CW.append (dM.dec _ _ h6) (CW.refl []))))))),fun x=>have q:=aG (mD.ok x.Stamp) (aG (aK.ok x.Kind) (aG (aI.ok x.Node) (aG (aI.ok x.Parent) (aG (dM.ok x.Name) (aG (dM.ok x.Key) (aG (dM.ok x.Value) (fS))))))); q,fun x a h=>by obtain ⟨x0,x1,x2,x3,x4,x5,x6,rfl,h0,h1,h2,h3,h4,h5,h6⟩:=aEF h; exact aG (mD.decok _ _ h0) (aG (aK.decok _ _ h1) (aG (aI.decok _ _ h2) (aG (aI.decok _ _ h3) (aG (dM.decok _ _ h4) (aG (dM.decok _ _ h5) (aG (dM.decok _ _ h6) (rfl))))))),fun x a h=>by obtain ⟨x0,x1,x2,x3,x4,x5,x6,rfl,h0,h1,h2,h3,h4,h5,h6⟩:=aEF h; rfl,fun x=>aY (mD.one _) (aY (aK.one _) (aY (aI.one _) (aY (aI.one _) (aY (dM.one _) (aY (dM.one _) (aY (dM.one _) (rfl))))))),fun x=>aZ (mD.noid _) (aZ (aK.noid _) (aZ (aI.noid _) (aZ (aI.noid _) (aZ (dM.noid _) (aZ (dM.noid _) (aZ (dM.noid _) (trivial))))))),fun ks h a b=>by have:=eW (mD.kd _ rfl a.Stamp b.Stamp) (eW (aK.kd _ rfl a.Kind b.Kind) (eW (aI.kd _ rfl a.Node b.Node) (eW (aI.kd _ rfl a.Parent b.Parent) (eW (dM.kd _ rfl a.Name b.Name) (eW (dM.kd _ rfl a.Key b.Key) (eW (dM.kd _ rfl a.Value b.Value) ((show cD [] [] []=some true from rfl)))))))); cases h; exact this,(fun l s h=>nomatch h),(fun s l h=>nomatch h)⟩
theorem iB:bD C 31:=⟨fun x=>rfl,fun x=>rfl,fun x a h=>(cP (C:=C) (show dSl 30 x=some a from h)).1,fun x=>rfl,fun x a h=>(cP (C:=C) (show dSl 30 x=some a from h)).2.1,fun x a h=>(cP (C:=C) (show dSl 30 x=some a from h)).2.2,fun a=>rfl,fun a=>eA (NoId.asl fun cs hc=>by obtain ⟨y,_,rfl⟩:=List.mem_map.1 hc; exact lF.noid y),(fun ks h=>nomatch h),(fun l s h=>nomatch h),(fun s l h=>nomatch h)⟩
theorem fU:bD C 32:=⟨fun x=>rfl,fun x=>aKf aK x,fun x a h=>by rw [oF (show jC 3 8 x=some a from h)]; exact .refl _,fun x=>rfl,fun x a h=>by rw [oF (show jC 3 8 x=some a from h)]; rfl,fun x a h=>by rw [oF (show jC 3 8 x=some a from h)]; rfl,fun a=>aKg aK a.toList,fun a=>aKh aK a.toList,fun ks h a b=>by have:=aDz aK (show C.kd 3=some _ from rfl) a.toList b.toList (by simp); simp only [Vector.length_toList] at this; cases h; exact this,(fun l s h=>nomatch h),(fun s l h=>nomatch h)⟩
theorem eD:bD C 34:=⟨fun x=>rfl,fun x=>aKf aI x,fun x a h=>by rw [oF (show jC 2 8 x=some a from h)]; exact .refl _,fun x=>rfl,fun x a h=>by rw [oF (show jC 2 8 x=some a from h)]; rfl,fun x a h=>by rw [oF (show jC 2 8 x=some a from h)]; rfl,fun a=>aKg aI a.toList,fun a=>aKh aI a.toList,fun ks h a b=>by have:=aDz aI (show C.kd 2=some _ from rfl) a.toList b.toList (by simp); simp only [Vector.length_toList] at this; cases h; exact this,(fun l s h=>nomatch h),(fun s l h=>nomatch h)⟩
theorem aEG {x:TV τ} {a:aD} (h:oP x=some a):∃ x0 x1 x2 x3,x=.agg [x0,x1,x2,x3]∧cB x0=some a.Number∧xK x1=some a.States∧qW x2=some a.Seals∧xK x3=some a.Sponsor:=by
 unfold oP at h
 split at h
 ·rename_i x0 x1 x2 x3
  split at h
  ·rename_i a0 h0
   split at h
   ·rename_i a1 h1
    split at h
    ·rename_i a2 h2
     split at h
     ·rename_i a3 h3
      cases h
      exact ⟨_,_,_,_,rfl,h0,h1,h2,h3⟩
     ·cases h
    ·cases h
   ·cases h
  ·cases h
 ·cases h
theorem gJ:bD C 36:=⟨fun x=>aU (aI.cel _) (aU (fU.cel _) (aU (eD.cel _) (aU (fU.cel _) (rfl)))),fun x=>aX (aI.len _) (aX (fU.len _) (aX (eD.len _) (aX (fU.len _) (rfl)))),fun x a h=>by obtain ⟨x0,x1,x2,x3,rfl,h0,h1,h2,h3⟩:=aEG h; exact CW.append (aI.dec _ _ h0) (CW.append (fU.dec _ _ h1) (CW.append (eD.dec _ _ h2) (CW.append (fU.dec _ _ h3) (CW.refl [])))),fun x=>have q:=aG (aI.ok x.Number) (aG (fU.ok x.States) (aG (eD.ok x.Seals) (aG (fU.ok x.Sponsor) (fS)))); q,fun x a h=>by obtain ⟨x0,x1,x2,x3,rfl,h0,h1,h2,h3⟩:=aEG h; exact aG (aI.decok _ _ h0) (aG (fU.decok _ _ h1) (aG (eD.decok _ _ h2) (aG (fU.decok _ _ h3) (rfl)))),fun x a h=>by obtain ⟨x0,x1,x2,x3,rfl,h0,h1,h2,h3⟩:=aEG h; rfl,fun x=>aY (aI.one _) (aY (fU.one _) (aY (eD.one _) (aY (fU.one _) (rfl)))),fun x=>aZ (aI.noid _) (aZ (fU.noid _) (aZ (eD.noid _) (aZ (fU.noid _) (trivial)))),fun ks h a b=>by have:=eW (aI.kd _ rfl a.Number b.Number) (eW (fU.kd _ rfl a.States b.States) (eW (eD.kd _ rfl a.Seals b.Seals) (eW (fU.kd _ rfl a.Sponsor b.Sponsor) ((show cD [] [] []=some true from rfl))))); cases h; exact this,(fun l s h=>nomatch h),(fun s l h=>nomatch h)⟩
theorem cY:bD C 37:=⟨fun x=>rfl,fun x=>rfl,fun x a h=>(cP (C:=C) (show dSl 5 x=some a from h)).1,fun x=>rfl,fun x a h=>(cP (C:=C) (show dSl 5 x=some a from h)).2.1,fun x a h=>(cP (C:=C) (show dSl 5 x=some a from h)).2.2,fun a=>rfl,fun a=>eA (NoId.asl fun cs hc=>by obtain ⟨y,_,rfl⟩:=List.mem_map.1 hc; exact lD.noid y),(fun ks h=>nomatch h),(fun l s h=>nomatch h),(fun s l h=>nomatch h)⟩
theorem aEH {x:TV τ} {a:aE} (h:oQ x=some a):∃ x0 x1 x2 x3,x=.agg [x0,x1,x2,x3]∧cB x0=some a.Snap∧cG x1=some a.Index∧cG x2=some a.Many∧nI x3=some a.Data:=by
 unfold oQ at h
 split at h
 ·rename_i x0 x1 x2 x3
  split at h
  ·rename_i a0 h0
   split at h
   ·rename_i a1 h1
    split at h
    ·rename_i a2 h2
     split at h
     ·rename_i a3 h3
      cases h
      exact ⟨_,_,_,_,rfl,h0,h1,h2,h3⟩
     ·cases h
    ·cases h
   ·cases h
  ·cases h
 ·cases h
theorem gK:bD C 39:=⟨fun x=>aU (aI.cel _) (aU (aK.cel _) (aU (aK.cel _) (aU (cY.cel _) (rfl)))),fun x=>aX (aI.len _) (aX (aK.len _) (aX (aK.len _) (aX (cY.len _) (rfl)))),fun x a h=>by obtain ⟨x0,x1,x2,x3,rfl,h0,h1,h2,h3⟩:=aEH h; exact CW.append (aI.dec _ _ h0) (CW.append (aK.dec _ _ h1) (CW.append (aK.dec _ _ h2) (CW.append (cY.dec _ _ h3) (CW.refl [])))),fun x=>have q:=aG (aI.ok x.Snap) (aG (aK.ok x.Index) (aG (aK.ok x.Many) (aG (cY.ok x.Data) (fS)))); q,fun x a h=>by obtain ⟨x0,x1,x2,x3,rfl,h0,h1,h2,h3⟩:=aEH h; exact aG (aI.decok _ _ h0) (aG (aK.decok _ _ h1) (aG (aK.decok _ _ h2) (aG (cY.decok _ _ h3) (rfl)))),fun x a h=>by obtain ⟨x0,x1,x2,x3,rfl,h0,h1,h2,h3⟩:=aEH h; rfl,fun x=>aY (aI.one _) (aY (aK.one _) (aY (aK.one _) (aY (cY.one _) (rfl)))),fun x=>aZ (aI.noid _) (aZ (aK.noid _) (aZ (aK.noid _) (aZ (cY.noid _) (trivial)))),(fun ks h=>nomatch h),(fun l s h=>nomatch h),(fun s l h=>nomatch h)⟩
theorem aEI {x:TV τ} {a:aC} (h:oR x=some a):∃ x0 x1 x2 x3 x4 x5 x6 x7 x8 x9 x10 x11 x12 x13 x14,x=.agg [x0,x1,x2,x3,x4,x5,x6,x7,x8,x9,x10,x11,x12,x13,x14]∧cG x0=some a.Kind∧cB x1=some a.Session∧cB x2=some a.Request∧tQ x3=some a.Op∧cG x4=some a.Origin∧cB x5=some a.Seq∧xJ x6=some a.Ops∧oP x7=some a.Epoch∧cG x8=some a.From∧qW x9=some a.Vector_∧cB x10=some a.Clock∧oQ x11=some a.Part∧cG x12=some a.Site∧cG x13=some a.Sponsor∧cB x14=some a.Length:=by
 unfold oR at h
 split at h
 ·rename_i x0 x1 x2 x3 x4 x5 x6 x7 x8 x9 x10 x11 x12 x13 x14
  split at h
  ·rename_i a0 h0
   split at h
   ·rename_i a1 h1
    split at h
    ·rename_i a2 h2
     split at h
     ·rename_i a3 h3
      split at h
      ·rename_i a4 h4
       split at h
       ·rename_i a5 h5
        split at h
        ·rename_i a6 h6
         split at h
         ·rename_i a7 h7
          split at h
          ·rename_i a8 h8
           split at h
           ·rename_i a9 h9
            split at h
            ·rename_i a10 h10
             split at h
             ·rename_i a11 h11
              split at h
              ·rename_i a12 h12
               split at h
               ·rename_i a13 h13
                split at h
                ·rename_i a14 h14
                 cases h
                 exact ⟨_,_,_,_,_,_,_,_,_,_,_,_,_,_,_,rfl,h0,h1,h2,h3,h4,h5,h6,h7,h8,h9,h10,h11,h12,h13,h14⟩
                ·cases h
               ·cases h
              ·cases h
             ·cases h
            ·cases h
           ·cases h
          ·cases h
         ·cases h
        ·cases h
       ·cases h
      ·cases h
     ·cases h
    ·cases h
   ·cases h
  ·cases h
 ·cases h
theorem gL:bD C 41:=⟨fun x=>aU (aK.cel _) (aU (aI.cel _) (aU (aI.cel _) (aU (lF.cel _) (aU (aK.cel _) (aU (aI.cel _) (aU (iB.cel _) (aU (gJ.cel _) (aU (aK.cel _) (aU (eD.cel _) (aU (aI.cel _) (aU (gK.cel _) (aU (aK.cel _) (aU (aK.cel _) (aU (aI.cel _) (rfl))))))))))))))),fun x=>aX (aK.len _) (aX (aI.len _) (aX (aI.len _) (aX (lF.len _) (aX (aK.len _) (aX (aI.len _) (aX (iB.len _) (aX (gJ.len _) (aX (aK.len _) (aX (eD.len _) (aX (aI.len _) (aX (gK.len _) (aX (aK.len _) (aX (aK.len _) (aX (aI.len _) (rfl))))))))))))))),fun x a h=>by obtain ⟨x0,x1,x2,x3,x4,x5,x6,x7,x8,x9,x10,x11,x12,x13,x14,rfl,h0,h1,h2,h3,h4,h5,h6,h7,h8,h9,h10,h11,h12,h13,h14⟩:=aEI h; exact CW.append (aK.dec _ _ h0) (CW.append (aI.dec _ _ h1) (CW.append (aI.dec _ _ h2) (CW.append (lF.dec _ _ h3) (CW.append (aK.dec _ _ h4) (CW.append (aI.dec _ _ h5) (CW.append (iB.dec _ _ h6) (CW.append (gJ.dec _ _ h7) (CW.append (aK.dec _ _ h8) (CW.append (eD.dec _ _ h9) (CW.append (aI.dec _ _ h10) (CW.append (gK.dec _ _ h11) (CW.append (aK.dec _ _ h12) (CW.append (aK.dec _ _ h13) (CW.append (aI.dec _ _ h14) (CW.refl []))))))))))))))),fun x=>have q:=aG (aK.ok x.Kind) (aG (aI.ok x.Session) (aG (aI.ok x.Request) (aG (lF.ok x.Op) (aG (aK.ok x.Origin) (aG (aI.ok x.Seq) (aG (iB.ok x.Ops) (aG (gJ.ok x.Epoch) (aG (aK.ok x.From) (aG (eD.ok x.Vector_) (aG (aI.ok x.Clock) (aG (gK.ok x.Part) (aG (aK.ok x.Site) (aG (aK.ok x.Sponsor) (aG (aI.ok x.Length) (fS))))))))))))))); q,fun x a h=>by obtain ⟨x0,x1,x2,x3,x4,x5,x6,x7,x8,x9,x10,x11,x12,x13,x14,rfl,h0,h1,h2,h3,h4,h5,h6,h7,h8,h9,h10,h11,h12,h13,h14⟩:=aEI h; exact aG (aK.decok _ _ h0) (aG (aI.decok _ _ h1) (aG (aI.decok _ _ h2) (aG (lF.decok _ _ h3) (aG (aK.decok _ _ h4) (aG (aI.decok _ _ h5) (aG (iB.decok _ _ h6) (aG (gJ.decok _ _ h7) (aG (aK.decok _ _ h8) (aG (eD.decok _ _ h9) (aG (aI.decok _ _ h10) (aG (gK.decok _ _ h11) (aG (aK.decok _ _ h12) (aG (aK.decok _ _ h13) (aG (aI.decok _ _ h14) (rfl))))))))))))))),fun x a h=>by obtain ⟨x0,x1,x2,x3,x4,x5,x6,x7,x8,x9,x10,x11,x12,x13,x14,rfl,h0,h1,h2,h3,h4,h5,h6,h7,h8,h9,h10,h11,h12,h13,h14⟩:=aEI h; rfl,fun x=>aY (aK.one _) (aY (aI.one _) (aY (aI.one _) (aY (lF.one _) (aY (aK.one _) (aY (aI.one _) (aY (iB.one _) (aY (gJ.one _) (aY (aK.one _) (aY (eD.one _) (aY (aI.one _) (aY (gK.one _) (aY (aK.one _) (aY (aK.one _) (aY (aI.one _) (rfl))))))))))))))),fun x=>aZ (aK.noid _) (aZ (aI.noid _) (aZ (aI.noid _) (aZ (lF.noid _) (aZ (aK.noid _) (aZ (aI.noid _) (aZ (iB.noid _) (aZ (gJ.noid _) (aZ (aK.noid _) (aZ (eD.noid _) (aZ (aI.noid _) (aZ (gK.noid _) (aZ (aK.noid _) (aZ (aK.noid _) (aZ (aI.noid _) (trivial))))))))))))))),(fun ks h=>nomatch h),(fun l s h=>nomatch h),(fun s l h=>nomatch h)⟩
theorem aEJ {x:TV τ} {a:aQ} (h:aA0 x=some a):∃ x0 x1 x2,x=.agg [x0,x1,x2]∧cB x0=some a.Slot∧xI x1=some a.Ballot∧oR x2=some a.Entry:=by
 unfold aA0 at h
 split at h
 ·rename_i x0 x1 x2
  split at h
  ·rename_i a0 h0
   split at h
   ·rename_i a1 h1
    split at h
    ·rename_i a2 h2
     cases h
     exact ⟨_,_,_,rfl,h0,h1,h2⟩
    ·cases h
   ·cases h
  ·cases h
 ·cases h
theorem aA8:bD C 155:=⟨fun x=>aU (aI.cel _) (aU (iA.cel _) (aU (gL.cel _) (rfl))),fun x=>aX (aI.len _) (aX (iA.len _) (aX (gL.len _) (rfl))),fun x a h=>by obtain ⟨x0,x1,x2,rfl,h0,h1,h2⟩:=aEJ h; exact CW.append (aI.dec _ _ h0) (CW.append (iA.dec _ _ h1) (CW.append (gL.dec _ _ h2) (CW.refl []))),fun x=>have q:=aG (aI.ok x.Slot) (aG (iA.ok x.Ballot) (aG (gL.ok x.Entry) (fS))); q,fun x a h=>by obtain ⟨x0,x1,x2,rfl,h0,h1,h2⟩:=aEJ h; exact aG (aI.decok _ _ h0) (aG (iA.decok _ _ h1) (aG (gL.decok _ _ h2) (rfl))),fun x a h=>by obtain ⟨x0,x1,x2,rfl,h0,h1,h2⟩:=aEJ h; rfl,fun x=>aY (aI.one _) (aY (iA.one _) (aY (gL.one _) (rfl))),fun x=>aZ (aI.noid _) (aZ (iA.noid _) (aZ (gL.noid _) (trivial))),(fun ks h=>nomatch h),(fun l s h=>nomatch h),(fun s l h=>nomatch h)⟩
theorem oT:bD C 26:=⟨fun x=>rfl,fun x=>rfl,fun x a h=>(cP (C:=C) (show dSl 155 x=some a from h)).1,fun x=>rfl,fun x a h=>(cP (C:=C) (show dSl 155 x=some a from h)).2.1,fun x a h=>(cP (C:=C) (show dSl 155 x=some a from h)).2.2,fun a=>rfl,fun a=>eA (NoId.asl fun cs hc=>by obtain ⟨y,_,rfl⟩:=List.mem_map.1 hc; exact aA8.noid y),(fun ks h=>nomatch h),(fun l s h=>nomatch h),(fun s l h=>nomatch h)⟩
theorem law27:bD C 27:=let q:=mD; ⟨q.cel,q.len,q.dec,q.ok,q.decok,q.agg,q.one,q.noid,q.kd,q.b2s,q.s2b⟩
theorem law29:bD C 29:=let q:=lF; ⟨q.cel,q.len,q.dec,q.ok,q.decok,q.agg,q.one,q.noid,q.kd,q.b2s,q.s2b⟩
theorem law33:bD C 33:=⟨fun x=>rfl,fun x=>aKf aI x,fun x a h=>by rw [oF (show jC 2 8 x=some a from h)]; exact .refl _,fun x=>rfl,fun x a h=>by rw [oF (show jC 2 8 x=some a from h)]; rfl,fun x a h=>by rw [oF (show jC 2 8 x=some a from h)]; rfl,fun a=>aKg aI a.toList,fun a=>aKh aI a.toList,fun ks h a b=>by have:=aDz aI (show C.kd 2=some _ from rfl) a.toList b.toList (by simp); simp only [Vector.length_toList] at this; cases h; exact this,(fun l s h=>nomatch h),(fun s l h=>nomatch h)⟩
theorem law35:bD C 35:=let q:=gJ; ⟨q.cel,q.len,q.dec,q.ok,q.decok,q.agg,q.one,q.noid,q.kd,q.b2s,q.s2b⟩
theorem law38:bD C 38:=let q:=gK; ⟨q.cel,q.len,q.dec,q.ok,q.decok,q.agg,q.one,q.noid,q.kd,q.b2s,q.s2b⟩
theorem law40:bD C 40:=let q:=gL; ⟨q.cel,q.len,q.dec,q.ok,q.decok,q.agg,q.one,q.noid,q.kd,q.b2s,q.s2b⟩
theorem aEK {x:TV τ} {a:aB} (h:aA1 x=some a):∃ x0 x1 x2 x3 x4 x5 x6 x7 x8 x9 x10 x11 x12 x13,x=.agg [x0,x1,x2,x3,x4,x5,x6,x7,x8,x9,x10,x11,x12,x13]∧cG x0=some a.Kind∧jJ x1=some a.From∧jJ x2=some a.To∧xI x3=some a.Ballot∧cB x4=some a.Slot∧aEq x5=some a.List_∧oR x6=some a.Entry∧cB x7=some a.Number∧qW x8=some a.Vector_∧cB x9=some a.Clock∧cG x10=some a.Origin∧xJ x11=some a.Ops∧oP x12=some a.Epoch∧oQ x13=some a.Part:=by
 unfold aA1 at h
 split at h
 ·rename_i x0 x1 x2 x3 x4 x5 x6 x7 x8 x9 x10 x11 x12 x13
  split at h
  ·rename_i a0 h0
   split at h
   ·rename_i a1 h1
    split at h
    ·rename_i a2 h2
     split at h
     ·rename_i a3 h3
      split at h
      ·rename_i a4 h4
       split at h
       ·rename_i a5 h5
        split at h
        ·rename_i a6 h6
         split at h
         ·rename_i a7 h7
          split at h
          ·rename_i a8 h8
           split at h
           ·rename_i a9 h9
            split at h
            ·rename_i a10 h10
             split at h
             ·rename_i a11 h11
              split at h
              ·rename_i a12 h12
               split at h
               ·rename_i a13 h13
                cases h
                exact ⟨_,_,_,_,_,_,_,_,_,_,_,_,_,_,rfl,h0,h1,h2,h3,h4,h5,h6,h7,h8,h9,h10,h11,h12,h13⟩
               ·cases h
              ·cases h
             ·cases h
            ·cases h
           ·cases h
          ·cases h
         ·cases h
        ·cases h
       ·cases h
      ·cases h
     ·cases h
    ·cases h
   ·cases h
  ·cases h
 ·cases h
theorem law42:bD C 42:=⟨fun x=>aU (aK.cel _) (aU (bW.cel _) (aU (bW.cel _) (aU (iA.cel _) (aU (aI.cel _) (aU (oT.cel _) (aU (gL.cel _) (aU (aI.cel _) (aU (eD.cel _) (aU (aI.cel _) (aU (aK.cel _) (aU (iB.cel _) (aU (gJ.cel _) (aU (gK.cel _) (rfl)))))))))))))),fun x=>aX (aK.len _) (aX (bW.len _) (aX (bW.len _) (aX (iA.len _) (aX (aI.len _) (aX (oT.len _) (aX (gL.len _) (aX (aI.len _) (aX (eD.len _) (aX (aI.len _) (aX (aK.len _) (aX (iB.len _) (aX (gJ.len _) (aX (gK.len _) (rfl)))))))))))))),fun x a h=>by obtain ⟨x0,x1,x2,x3,x4,x5,x6,x7,x8,x9,x10,x11,x12,x13,rfl,h0,h1,h2,h3,h4,h5,h6,h7,h8,h9,h10,h11,h12,h13⟩:=aEK h; exact CW.append (aK.dec _ _ h0) (CW.append (bW.dec _ _ h1) (CW.append (bW.dec _ _ h2) (CW.append (iA.dec _ _ h3) (CW.append (aI.dec _ _ h4) (CW.append (oT.dec _ _ h5) (CW.append (gL.dec _ _ h6) (CW.append (aI.dec _ _ h7) (CW.append (eD.dec _ _ h8) (CW.append (aI.dec _ _ h9) (CW.append (aK.dec _ _ h10) (CW.append (iB.dec _ _ h11) (CW.append (gJ.dec _ _ h12) (CW.append (gK.dec _ _ h13) (CW.refl [])))))))))))))),fun x=>have q:=aG (aK.ok x.Kind) (aG (bW.ok x.From) (aG (bW.ok x.To) (aG (iA.ok x.Ballot) (aG (aI.ok x.Slot) (aG (oT.ok x.List_) (aG (gL.ok x.Entry) (aG (aI.ok x.Number) (aG (eD.ok x.Vector_) (aG (aI.ok x.Clock) (aG (aK.ok x.Origin) (aG (iB.ok x.Ops) (aG (gJ.ok x.Epoch) (aG (gK.ok x.Part) (fS)))))))))))))); q,fun x a h=>by obtain ⟨x0,x1,x2,x3,x4,x5,x6,x7,x8,x9,x10,x11,x12,x13,rfl,h0,h1,h2,h3,h4,h5,h6,h7,h8,h9,h10,h11,h12,h13⟩:=aEK h; exact aG (aK.decok _ _ h0) (aG (bW.decok _ _ h1) (aG (bW.decok _ _ h2) (aG (iA.decok _ _ h3) (aG (aI.decok _ _ h4) (aG (oT.decok _ _ h5) (aG (gL.decok _ _ h6) (aG (aI.decok _ _ h7) (aG (eD.decok _ _ h8) (aG (aI.decok _ _ h9) (aG (aK.decok _ _ h10) (aG (iB.decok _ _ h11) (aG (gJ.decok _ _ h12) (aG (gK.decok _ _ h13) (rfl)))))))))))))),fun x a h=>by obtain ⟨x0,x1,x2,x3,x4,x5,x6,x7,x8,x9,x10,x11,x12,x13,rfl,h0,h1,h2,h3,h4,h5,h6,h7,h8,h9,h10,h11,h12,h13⟩:=aEK h; rfl,fun x=>aY (aK.one _) (aY (bW.one _) (aY (bW.one _) (aY (iA.one _) (aY (aI.one _) (aY (oT.one _) (aY (gL.one _) (aY (aI.one _) (aY (eD.one _) (aY (aI.one _) (aY (aK.one _) (aY (iB.one _) (aY (gJ.one _) (aY (gK.one _) (rfl)))))))))))))),fun x=>aZ (aK.noid _) (aZ (bW.noid _) (aZ (bW.noid _) (aZ (iA.noid _) (aZ (aI.noid _) (aZ (oT.noid _) (aZ (gL.noid _) (aZ (aI.noid _) (aZ (eD.noid _) (aZ (aI.noid _) (aZ (aK.noid _) (aZ (iB.noid _) (aZ (gJ.noid _) (aZ (gK.noid _) (trivial)))))))))))))),(fun ks h=>nomatch h),(fun l s h=>nomatch h),(fun s l h=>nomatch h)⟩
theorem aEL:bD C 43:=let q:=law42; ⟨q.cel,q.len,q.dec,q.ok,q.decok,q.agg,q.one,q.noid,q.kd,q.b2s,q.s2b⟩
theorem law44:bD C 44:=⟨fun x=>rfl,fun x=>rfl,fun x a h=>by rw [dB (show cA .u16 x=some a from h)]; exact .refl _,fun x=>rfl,fun x a h=>by rw [dB (show cA .u16 x=some a from h)]; rfl,fun x a h=>by rw [dB (show cA .u16 x=some a from h)]; rfl,fun a=>rfl,fun a=>eA (NoId.v _),fun ks h a b=>by cases h; simp [cD,eP,C,fE,cel44,jK,beq44],(fun l s h=>nomatch h),(fun s l h=>nomatch h)⟩
theorem oU:bD C 48:=⟨fun x=>rfl,fun x=>rfl,fun x a h=>by rw [dB (show cA .i64 x=some a from h)]; exact .refl _,fun x=>rfl,fun x a h=>by rw [dB (show cA .i64 x=some a from h)]; rfl,fun x a h=>by rw [dB (show cA .i64 x=some a from h)]; rfl,fun a=>rfl,fun a=>eA (NoId.v _),fun ks h a b=>by cases h; simp [cD,eP,C,fE,aEr,jK,beq48],(fun l s h=>nomatch h),(fun s l h=>nomatch h)⟩
theorem oV:bD C 59:=⟨fun x=>rfl,fun x=>rfl,fun x a h=>(cP (C:=C) (show dSl 43 x=some a from h)).1,fun x=>rfl,fun x a h=>(cP (C:=C) (show dSl 43 x=some a from h)).2.1,fun x a h=>(cP (C:=C) (show dSl 43 x=some a from h)).2.2,fun a=>rfl,fun a=>eA (NoId.asl fun cs hc=>by obtain ⟨y,_,rfl⟩:=List.mem_map.1 hc; exact aEL.noid y),(fun ks h=>nomatch h),(fun l s h=>nomatch h),(fun s l h=>nomatch h)⟩
theorem law60:bD C 60:=⟨fun x=>rfl,fun x=>rfl,fun x a h=>(cP (C:=C) (show dSl 2 x=some a from h)).1,fun x=>rfl,fun x a h=>(cP (C:=C) (show dSl 2 x=some a from h)).2.1,fun x a h=>(cP (C:=C) (show dSl 2 x=some a from h)).2.2,fun a=>rfl,fun a=>eA (NoId.asl fun cs hc=>by obtain ⟨y,_,rfl⟩:=List.mem_map.1 hc; exact aI.noid y),(fun ks h=>nomatch h),(fun l s h=>nomatch h),(fun s l h=>nomatch h)⟩
theorem aEM {x:TV τ} {a:cC} (h:aA2 x=some a):∃ x0 x1 x2 x3,x=.agg [x0,x1,x2,x3]∧cB x0=some a.Number∧jJ x1=some a.From∧jJ x2=some a.To∧nI x3=some a.Data:=by
 unfold aA2 at h
 split at h
 ·rename_i x0 x1 x2 x3
  split at h
  ·rename_i a0 h0
   split at h
   ·rename_i a1 h1
    split at h
    ·rename_i a2 h2
     split at h
     ·rename_i a3 h3
      cases h
      exact ⟨_,_,_,_,rfl,h0,h1,h2,h3⟩
     ·cases h
    ·cases h
   ·cases h
  ·cases h
 ·cases h
theorem law64:bD C 64:=⟨fun x=>aU (aI.cel _) (aU (bW.cel _) (aU (bW.cel _) (aU (cY.cel _) (rfl)))),fun x=>aX (aI.len _) (aX (bW.len _) (aX (bW.len _) (aX (cY.len _) (rfl)))),fun x a h=>by obtain ⟨x0,x1,x2,x3,rfl,h0,h1,h2,h3⟩:=aEM h; exact CW.append (aI.dec _ _ h0) (CW.append (bW.dec _ _ h1) (CW.append (bW.dec _ _ h2) (CW.append (cY.dec _ _ h3) (CW.refl [])))),fun x=>have q:=aG (aI.ok x.Number) (aG (bW.ok x.From) (aG (bW.ok x.To) (aG (cY.ok x.Data) (fS)))); q,fun x a h=>by obtain ⟨x0,x1,x2,x3,rfl,h0,h1,h2,h3⟩:=aEM h; exact aG (aI.decok _ _ h0) (aG (bW.decok _ _ h1) (aG (bW.decok _ _ h2) (aG (cY.decok _ _ h3) (rfl)))),fun x a h=>by obtain ⟨x0,x1,x2,x3,rfl,h0,h1,h2,h3⟩:=aEM h; rfl,fun x=>aY (aI.one _) (aY (bW.one _) (aY (bW.one _) (aY (cY.one _) (rfl)))),fun x=>aZ (aI.noid _) (aZ (bW.noid _) (aZ (bW.noid _) (aZ (cY.noid _) (trivial)))),(fun ks h=>nomatch h),(fun l s h=>nomatch h),(fun s l h=>nomatch h)⟩
theorem law65:bD C 65:=let q:=law64; ⟨q.cel,q.len,q.dec,q.ok,q.decok,q.agg,q.one,q.noid,q.kd,q.b2s,q.s2b⟩
theorem oW:bD C 70:=⟨fun x=>rfl,fun x=>rfl,fun x a h=>(cP (C:=C) (show dSl 23 x=some a from h)).1,fun x=>rfl,fun x a h=>(cP (C:=C) (show dSl 23 x=some a from h)).2.1,fun x a h=>(cP (C:=C) (show dSl 23 x=some a from h)).2.2,fun a=>rfl,fun a=>eA (NoId.asl fun cs hc=>by obtain ⟨y,_,rfl⟩:=List.mem_map.1 hc; exact bW.noid y),(fun ks h=>nomatch h),(fun l s h=>nomatch h),(fun s l h=>nomatch h)⟩
theorem aEN {x:TV τ} {a:fT} (h:aA3 x=some a):∃ x0 x1 x2 x3 x4 x5 x6,x=.agg [x0,x1,x2,x3,x4,x5,x6]∧cG x0=some a.Kind∧aEt x1=some a.Msgs∧cB x2=some a.Number∧cG x3=some a.Place∧dec5 x4=some a.With∧aEu x5=some a.Addrs∧cG x6=some a.Stop:=by
 unfold aA3 at h
 split at h
 ·rename_i x0 x1 x2 x3 x4 x5 x6
  split at h
  ·rename_i a0 h0
   split at h
   ·rename_i a1 h1
    split at h
    ·rename_i a2 h2
     split at h
     ·rename_i a3 h3
      split at h
      ·rename_i a4 h4
       split at h
       ·rename_i a5 h5
        split at h
        ·rename_i a6 h6
         cases h
         exact ⟨_,_,_,_,_,_,_,rfl,h0,h1,h2,h3,h4,h5,h6⟩
        ·cases h
       ·cases h
      ·cases h
     ·cases h
    ·cases h
   ·cases h
  ·cases h
 ·cases h
theorem aEO:bD C 72:=⟨fun x=>aU (aK.cel _) (aU (oV.cel _) (aU (aI.cel _) (aU (aK.cel _) (aU (lD.cel _) (aU (oW.cel _) (aU (aK.cel _) (rfl))))))),fun x=>aX (aK.len _) (aX (oV.len _) (aX (aI.len _) (aX (aK.len _) (aX (lD.len _) (aX (oW.len _) (aX (aK.len _) (rfl))))))),fun x a h=>by obtain ⟨x0,x1,x2,x3,x4,x5,x6,rfl,h0,h1,h2,h3,h4,h5,h6⟩:=aEN h; exact CW.append (aK.dec _ _ h0) (CW.append (oV.dec _ _ h1) (CW.append (aI.dec _ _ h2) (CW.append (aK.dec _ _ h3) (CW.append (lD.dec _ _ h4) (CW.append (oW.dec _ _ h5) (CW.append (aK.dec _ _ h6) (CW.refl []))))))),fun x=>have q:=aG (aK.ok x.Kind) (aG (oV.ok x.Msgs) (aG (aI.ok x.Number) (aG (aK.ok x.Place) (aG (lD.ok x.With) (aG (oW.ok x.Addrs) (aG (aK.ok x.Stop) (fS))))))); q,fun x a h=>by obtain ⟨x0,x1,x2,x3,x4,x5,x6,rfl,h0,h1,h2,h3,h4,h5,h6⟩:=aEN h; exact aG (aK.decok _ _ h0) (aG (oV.decok _ _ h1) (aG (aI.decok _ _ h2) (aG (aK.decok _ _ h3) (aG (lD.decok _ _ h4) (aG (oW.decok _ _ h5) (aG (aK.decok _ _ h6) (rfl))))))),fun x a h=>by obtain ⟨x0,x1,x2,x3,x4,x5,x6,rfl,h0,h1,h2,h3,h4,h5,h6⟩:=aEN h; rfl,fun x=>aY (aK.one _) (aY (oV.one _) (aY (aI.one _) (aY (aK.one _) (aY (lD.one _) (aY (oW.one _) (aY (aK.one _) (rfl))))))),fun x=>aZ (aK.noid _) (aZ (oV.noid _) (aZ (aI.noid _) (aZ (aK.noid _) (aZ (lD.noid _) (aZ (oW.noid _) (aZ (aK.noid _) (trivial))))))),(fun ks h=>nomatch h),(fun l s h=>nomatch h),(fun s l h=>nomatch h)⟩
theorem law69:bD C 69:=⟨fun x=>rfl,fun x=>rfl,fun x a h=>(cP (C:=C) (show dSl 72 x=some a from h)).1,fun x=>rfl,fun x a h=>(cP (C:=C) (show dSl 72 x=some a from h)).2.1,fun x a h=>(cP (C:=C) (show dSl 72 x=some a from h)).2.2,fun a=>rfl,fun a=>eA (NoId.asl fun cs hc=>by obtain ⟨y,_,rfl⟩:=List.mem_map.1 hc; exact aEO.noid y),(fun ks h=>nomatch h),(fun l s h=>nomatch h),(fun s l h=>nomatch h)⟩
theorem law71:bD C 71:=let q:=aEO; ⟨q.cel,q.len,q.dec,q.ok,q.decok,q.agg,q.one,q.noid,q.kd,q.b2s,q.s2b⟩
theorem iC:bD C 75:=⟨fun x=>rfl,fun x=>rfl,fun x a h=>(cP (C:=C) (show dSl 65 x=some a from h)).1,fun x=>rfl,fun x a h=>(cP (C:=C) (show dSl 65 x=some a from h)).2.1,fun x a h=>(cP (C:=C) (show dSl 65 x=some a from h)).2.2,fun a=>rfl,fun a=>eA (NoId.asl fun cs hc=>by obtain ⟨y,_,rfl⟩:=List.mem_map.1 hc; exact law65.noid y),(fun ks h=>nomatch h),(fun l s h=>nomatch h),(fun s l h=>nomatch h)⟩
theorem aEP {x:TV τ} {a:kB} (h:aA4 x=some a):∃ x0 x1,x=.agg [x0,x1]∧xM x0=some a.L∧cB x1=some a.Last:=by
 unfold aA4 at h
 split at h
 ·rename_i x0 x1
  split at h
  ·rename_i a0 h0
   split at h
   ·rename_i a1 h1
    cases h
    exact ⟨_,_,rfl,h0,h1⟩
   ·cases h
  ·cases h
 ·cases h
theorem law76:bD C 76:=⟨fun x=>aU (iC.cel _) (aU (aI.cel _) (rfl)),fun x=>aX (iC.len _) (aX (aI.len _) (rfl)),fun x a h=>by obtain ⟨x0,x1,rfl,h0,h1⟩:=aEP h; exact CW.append (iC.dec _ _ h0) (CW.append (aI.dec _ _ h1) (CW.refl [])),fun x=>have q:=aG (iC.ok x.L) (aG (aI.ok x.Last) (fS)); q,fun x a h=>by obtain ⟨x0,x1,rfl,h0,h1⟩:=aEP h; exact aG (iC.decok _ _ h0) (aG (aI.decok _ _ h1) (rfl)),fun x a h=>by obtain ⟨x0,x1,rfl,h0,h1⟩:=aEP h; rfl,fun x=>aY (iC.one _) (aY (aI.one _) (rfl)),fun x=>aZ (iC.noid _) (aZ (aI.noid _) (trivial)),(fun ks h=>nomatch h),(fun l s h=>nomatch h),(fun s l h=>nomatch h)⟩
theorem law77:bD C 77:=let q:=law76; ⟨q.cel,q.len,q.dec,q.ok,q.decok,q.agg,q.one,q.noid,q.kd,q.b2s,q.s2b⟩
theorem aEQ {x:TV τ} {a:jI} (h:aA5 x=some a):∃ x0 x1,x=.agg [x0,x1]∧xM x0=some a.wait∧cB x1=some a.last:=by
 unfold aA5 at h
 split at h
 ·rename_i x0 x1
  split at h
  ·rename_i a0 h0
   split at h
   ·rename_i a1 h1
    cases h
    exact ⟨_,_,rfl,h0,h1⟩
   ·cases h
  ·cases h
 ·cases h
theorem law79:bD C 79:=⟨fun x=>aU (iC.cel _) (aU (aI.cel _) (rfl)),fun x=>aX (iC.len _) (aX (aI.len _) (rfl)),fun x a h=>by obtain ⟨x0,x1,rfl,h0,h1⟩:=aEQ h; exact CW.append (iC.dec _ _ h0) (CW.append (aI.dec _ _ h1) (CW.refl [])),fun x=>have q:=aG (iC.ok x.wait) (aG (aI.ok x.last) (fS)); q,fun x a h=>by obtain ⟨x0,x1,rfl,h0,h1⟩:=aEQ h; exact aG (iC.decok _ _ h0) (aG (aI.decok _ _ h1) (rfl)),fun x a h=>by obtain ⟨x0,x1,rfl,h0,h1⟩:=aEQ h; rfl,fun x=>aY (iC.one _) (aY (aI.one _) (rfl)),fun x=>aZ (iC.noid _) (aZ (aI.noid _) (trivial)),(fun ks h=>nomatch h),(fun l s h=>nomatch h),(fun s l h=>nomatch h)⟩
theorem oX:bD C 80:=let q:=law79; ⟨q.cel,q.len,q.dec,q.ok,q.decok,q.agg,q.one,q.noid,q.kd,q.b2s,q.s2b⟩
theorem aER {x:TV τ} {a:kC} (h:aA6 x=some a):∃ x0 x1,x=.agg [x0,x1]∧aEy x0=some a.queue∧dec4 x1=some a.made:=by
 unfold aA6 at h
 split at h
 ·rename_i x0 x1
  split at h
  ·rename_i a0 h0
   split at h
   ·rename_i a1 h1
    cases h
    exact ⟨_,_,rfl,h0,h1⟩
   ·cases h
  ·cases h
 ·cases h
theorem law81:bD C 81:=⟨fun x=>aU (oX.cel _) (aU (hZ.cel _) (rfl)),fun x=>aX (oX.len _) (aX (hZ.len _) (rfl)),fun x a h=>by obtain ⟨x0,x1,rfl,h0,h1⟩:=aER h; exact CW.append (oX.dec _ _ h0) (CW.append (hZ.dec _ _ h1) (CW.refl [])),fun x=>have q:=aG (oX.ok x.queue) (aG (hZ.ok x.made) (fS)); q,fun x a h=>by obtain ⟨x0,x1,rfl,h0,h1⟩:=aER h; exact aG (oX.decok _ _ h0) (aG (hZ.decok _ _ h1) (rfl)),fun x a h=>by obtain ⟨x0,x1,rfl,h0,h1⟩:=aER h; rfl,fun x=>aY (oX.one _) (aY (hZ.one _) (rfl)),fun x=>aZ (oX.noid _) (aZ (hZ.noid _) (trivial)),(fun ks h=>nomatch h),(fun l s h=>nomatch h),(fun s l h=>nomatch h)⟩
theorem law82:bD C 82:=let q:=law81; ⟨q.cel,q.len,q.dec,q.ok,q.decok,q.agg,q.one,q.noid,q.kd,q.b2s,q.s2b⟩
theorem law138:bD C 138:=⟨fun x=>rfl,fun x=>rfl,fun x a h=>by rw [dB (show cA .u32 x=some a from h)]; exact .refl _,fun x=>rfl,fun x a h=>by rw [dB (show cA .u32 x=some a from h)]; rfl,fun x a h=>by rw [dB (show cA .u32 x=some a from h)]; rfl,fun a=>rfl,fun a=>eA (NoId.v _),fun ks h a b=>by cases h; simp [cD,eP,C,fE,aLg,jK,aLh],(fun l s h=>nomatch h),(fun s l h=>nomatch h)⟩
theorem law140:bD C 140:=⟨fun x=>rfl,fun x=>rfl,fun x a h=>by rw [dB (show cA .u64 x=some a from h)]; exact .refl _,fun x=>rfl,fun x a h=>by rw [dB (show cA .u64 x=some a from h)]; rfl,fun x a h=>by rw [dB (show cA .u64 x=some a from h)]; rfl,fun a=>rfl,fun a=>eA (NoId.v _),fun ks h a b=>by cases h; simp [cD,eP,C,fE,aLi,jK,aLj],(fun l s h=>nomatch h),(fun s l h=>nomatch h)⟩
theorem law154:bD C 154:=let q:=aA8; ⟨q.cel,q.len,q.dec,q.ok,q.decok,q.agg,q.one,q.noid,q.kd,q.b2s,q.s2b⟩
theorem aES {x:TV τ} {a:aN} (h:xN x=some a):∃ x0 x1,x=.agg [x0,x1]∧dec4 x0=some a.made∧nI x1=some a.b:=by
 unfold xN at h
 split at h
 ·rename_i x0 x1
  split at h
  ·rename_i a0 h0
   split at h
   ·rename_i a1 h1
    cases h
    exact ⟨_,_,rfl,h0,h1⟩
   ·cases h
  ·cases h
 ·cases h
theorem aET:bD C 165:=⟨fun x=>aU (hZ.cel _) (aU (cY.cel _) (rfl)),fun x=>aX (hZ.len _) (aX (cY.len _) (rfl)),fun x a h=>by obtain ⟨x0,x1,rfl,h0,h1⟩:=aES h; exact CW.append (hZ.dec _ _ h0) (CW.append (cY.dec _ _ h1) (CW.refl [])),fun x=>have q:=aG (hZ.ok x.made) (aG (cY.ok x.b) (fS)); q,fun x a h=>by obtain ⟨x0,x1,rfl,h0,h1⟩:=aES h; exact aG (hZ.decok _ _ h0) (aG (cY.decok _ _ h1) (rfl)),fun x a h=>by obtain ⟨x0,x1,rfl,h0,h1⟩:=aES h; rfl,fun x=>aY (hZ.one _) (aY (cY.one _) (rfl)),fun x=>aZ (hZ.noid _) (aZ (cY.noid _) (trivial)),(fun ks h=>nomatch h),(fun l s h=>nomatch h),(fun s l h=>nomatch h)⟩
theorem law166:bD C 166:=let q:=aET; ⟨q.cel,q.len,q.dec,q.ok,q.decok,q.agg,q.one,q.noid,q.kd,q.b2s,q.s2b⟩
theorem law186:bD C 186:=let q:=aET; ⟨q.cel,q.len,q.dec,q.ok,q.decok,q.agg,q.one,q.noid,q.kd,q.b2s,q.s2b⟩
theorem aEU {x:TV τ} {a:kD} (h:aA7 x=some a):∃ x0 x1 x2,x=.agg [x0,x1,x2]∧nI x0=some a.B∧cG x1=some a.At∧aEs x2=some a.E:=by
 unfold aA7 at h
 split at h
 ·rename_i x0 x1 x2
  split at h
  ·rename_i a0 h0
   split at h
   ·rename_i a1 h1
    split at h
    ·rename_i a2 h2
     cases h
     exact ⟨_,_,_,rfl,h0,h1,h2⟩
    ·cases h
   ·cases h
  ·cases h
 ·cases h
theorem aLo:bD C 192:=⟨fun x=>aU (cY.cel _) (aU (aK.cel _) (aU (oU.cel _) (rfl))),fun x=>aX (cY.len _) (aX (aK.len _) (aX (oU.len _) (rfl))),fun x a h=>by obtain ⟨x0,x1,x2,rfl,h0,h1,h2⟩:=aEU h; exact CW.append (cY.dec _ _ h0) (CW.append (aK.dec _ _ h1) (CW.append (oU.dec _ _ h2) (CW.refl []))),fun x=>have q:=aG (cY.ok x.B) (aG (aK.ok x.At) (aG (oU.ok x.E) (fS))); q,fun x a h=>by obtain ⟨x0,x1,x2,rfl,h0,h1,h2⟩:=aEU h; exact aG (cY.decok _ _ h0) (aG (aK.decok _ _ h1) (aG (oU.decok _ _ h2) (rfl))),fun x a h=>by obtain ⟨x0,x1,x2,rfl,h0,h1,h2⟩:=aEU h; rfl,fun x=>aY (cY.one _) (aY (aK.one _) (aY (oU.one _) (rfl))),fun x=>aZ (cY.noid _) (aZ (aK.noid _) (aZ (oU.noid _) (trivial))),(fun ks h=>nomatch h),(fun l s h=>nomatch h),(fun s l h=>nomatch h)⟩
theorem law193:bD C 193:=let q:=aLo; ⟨q.cel,q.len,q.dec,q.ok,q.decok,q.agg,q.one,q.noid,q.kd,q.b2s,q.s2b⟩
theorem law194:bD C 194:=⟨fun x=>rfl,fun x=>rfl,fun x a h=>(cP (C:=C) (show dSl 3 x=some a from h)).1,fun x=>rfl,fun x a h=>(cP (C:=C) (show dSl 3 x=some a from h)).2.1,fun x a h=>(cP (C:=C) (show dSl 3 x=some a from h)).2.2,fun a=>rfl,fun a=>eA (NoId.asl fun cs hc=>by obtain ⟨y,_,rfl⟩:=List.mem_map.1 hc; exact aK.noid y),(fun ks h=>nomatch h),(fun l s h=>nomatch h),(fun s l h=>nomatch h)⟩
theorem law201:bD C 201:=⟨fun x=>rfl,fun x=>rfl,fun x a h=>(cP (C:=C) (show dSl 37 x=some a from h)).1,fun x=>rfl,fun x a h=>(cP (C:=C) (show dSl 37 x=some a from h)).2.1,fun x a h=>(cP (C:=C) (show dSl 37 x=some a from h)).2.2,fun a=>rfl,fun a=>eA (NoId.asl fun cs hc=>by obtain ⟨y,_,rfl⟩:=List.mem_map.1 hc; exact cY.noid y),(fun ks h=>nomatch h),(fun l s h=>nomatch h),(fun s l h=>nomatch h)⟩
theorem law203:bD C 203:=⟨fun x=>rfl,fun x=>rfl,fun x a h=>by rw [dB (show cA .u64 x=some a from h)]; exact .refl _,fun x=>rfl,fun x a h=>by rw [dB (show cA .u64 x=some a from h)]; rfl,fun x a h=>by rw [dB (show cA .u64 x=some a from h)]; rfl,fun a=>rfl,fun a=>eA (NoId.v _),fun ks h a b=>by cases h; simp [cD,eP,C,fE,aLm,jK,aLn],(fun l s h=>nomatch h),(fun s l h=>nomatch h)⟩
theorem law229:bD C 229:=⟨fun x=>rfl,fun x=>rfl,fun x a h=>(cP (C:=C) (show dSl 9 x=some a from h)).1,fun x=>rfl,fun x a h=>(cP (C:=C) (show dSl 9 x=some a from h)).2.1,fun x a h=>(cP (C:=C) (show dSl 9 x=some a from h)).2.2,fun a=>rfl,fun a=>eA (NoId.asl fun cs hc=>by obtain ⟨y,_,rfl⟩:=List.mem_map.1 hc; exact dM.noid y),(fun ks h=>nomatch h),(fun l s h=>nomatch h),(fun s l h=>nomatch h)⟩
theorem aEV {x:TV τ} {a:bU} (h:aEB x=some a):∃ x0 x1 x2 x3,x=.agg [x0,x1,x2,x3]∧cB x0=some a.Number∧jJ x1=some a.From∧jJ x2=some a.To∧aEd x3=some a.Data:=by
 unfold aEB at h
 split at h
 ·rename_i x0 x1 x2 x3
  split at h
  ·rename_i a0 h0
   split at h
   ·rename_i a1 h1
    split at h
    ·rename_i a2 h2
     split at h
     ·rename_i a3 h3
      cases h
      exact ⟨_,_,_,_,rfl,h0,h1,h2,h3⟩
     ·cases h
    ·cases h
   ·cases h
  ·cases h
 ·cases h
theorem aP7:bD C 20065:=⟨fun x=>aU (aI.cel _) (aU (bW.cel _) (aU (bW.cel _) (aU (oS.cel _) (rfl)))),fun x=>aX (aI.len _) (aX (bW.len _) (aX (bW.len _) (aX (oS.len _) (rfl)))),fun x a h=>by obtain ⟨x0,x1,x2,x3,rfl,h0,h1,h2,h3⟩:=aEV h; exact CW.append (aI.dec _ _ h0) (CW.append (bW.dec _ _ h1) (CW.append (bW.dec _ _ h2) (CW.append (oS.dec _ _ h3) (CW.refl [])))),fun x=>have q:=aG (aI.ok x.Number) (aG (bW.ok x.From) (aG (bW.ok x.To) (aG (oS.ok x.Data) (fS)))); q,fun x a h=>by obtain ⟨x0,x1,x2,x3,rfl,h0,h1,h2,h3⟩:=aEV h; exact aG (aI.decok _ _ h0) (aG (bW.decok _ _ h1) (aG (bW.decok _ _ h2) (aG (oS.decok _ _ h3) (rfl)))),fun x a h=>by obtain ⟨x0,x1,x2,x3,rfl,h0,h1,h2,h3⟩:=aEV h; rfl,fun x=>aY (aI.one _) (aY (bW.one _) (aY (bW.one _) (aY (oS.one _) (rfl)))),fun x=>aZ (aI.noid _) (aZ (bW.noid _) (aZ (bW.noid _) (aZ (oS.noid _) (trivial)))),(fun ks h=>nomatch h),(fun l s h=>nomatch h),(fun s l h=>nomatch h)⟩
theorem lawX {t:Nat} (h:fE t=fun _=>[]) (h1:encT t=fun _=>.agg []) (h2:kE t=fun _=>none) (h3:szT t=0) (h4:kdT t=none) (h5:b2sT t=fun _=>none) (h6:s2bT t=fun _=>none):bD C t:=by
 refine ⟨fun x=>?_,fun x=>?_,fun x a hx=>?_,fun x=>?_,fun x a hx=>?_,fun x a hx=>?_,fun a=>?_,fun a=>?_,fun ks hk=>?_,fun l s hl=>?_,fun s l hl=>?_⟩
 ·show (encT t x).cells C=fE t x; rw [h,h1]; rfl
 ·show (fE t x).length=szT t; rw [h,h3]; rfl
 ·have e:kE t x=some a:=hx; rw [h2] at e; cases e
 ·show (encT t x).ok=true; rw [h1]; rfl
 ·have e:kE t x=some a:=hx; rw [h2] at e; cases e
 ·have e:kE t x=some a:=hx; rw [h2] at e; cases e
 ·show (fE t a).all AV.one=true; rw [h]; rfl
 ·show NoIds (fE t a); rw [h]; trivial
 ·have e:kdT t=some ks:=hk; rw [h4] at e; cases e
 ·have e:b2sT t l=some s:=hl; rw [h5] at e; cases e
 ·have e:s2bT t s=some l:=hl; rw [h6] at e; cases e
theorem aP8:∀ t:Nat,t≠2→t≠3→t≠4→t≠5→t≠9→t≠12→t≠21→t≠22→t≠23→t≠24→t≠25→t≠26→t≠27→t≠28→t≠29→t≠30→t≠31→t≠32→t≠33→t≠34→t≠35→t≠36→t≠37→t≠38→t≠39→t≠40→t≠41→t≠42→t≠43→t≠44→t≠48→t≠59→t≠60→t≠64→t≠65→t≠69→t≠70→t≠71→t≠72→t≠75→t≠76→t≠77→t≠79→t≠80→t≠81→t≠82→t≠138→t≠140→t≠154→t≠155→t≠165→t≠166→t≠186→t≠192→t≠193→t≠194→t≠201→t≠203→t≠229→t≠20065→t≠10005→bD C t
 | t, h2, h3, h4, h5, h9, h12, h21, h22, h23, h24, h25, h26, h27, h28, h29, h30, h31, h32, h33, h34, h35, h36, h37, h38, h39, h40, h41, h42, h43, h44, h48, h59, h60, h64, h65, h69, h70, h71, h72, h75, h76, h77, h79, h80, h81, h82, h138, h140, h154, h155, h165, h166, h186, h192, h193, h194, h201, h203, h229, h20065, h10005 => by
  apply lawX<;>first
   | (unfold fE; split<;>first | rfl | contradiction | (exfalso; omega))
   | (unfold encT; split<;>first | rfl | contradiction | (exfalso; omega))
   | (unfold kE; split<;>first | rfl | contradiction | (exfalso; omega))
   | (unfold szT; split<;>first | rfl | contradiction | (exfalso; omega))
   | (unfold kdT; split<;>first | rfl | contradiction | (exfalso; omega))
   | (unfold b2sT; split<;>first | rfl | contradiction | (exfalso; omega))
   | (unfold s2bT; split<;>first | rfl | contradiction | (exfalso; omega))
theorem cOk:C.Ok:=Cod.Ok.of fun t=>by
 by_cases h2:t=2
 ·subst h2; exact aI
 by_cases h3:t=3
 ·subst h3; exact aK
 by_cases h4:t=4
 ·subst h4; exact hZ
 by_cases h5:t=5
 ·subst h5; exact lD
 by_cases h9:t=9
 ·subst h9; exact dM
 by_cases h12:t=12
 ·subst h12; exact law12
 by_cases h21:t=21
 ·subst h21; exact law21
 by_cases h22:t=22
 ·subst h22; exact law22
 by_cases h23:t=23
 ·subst h23; exact bW
 by_cases h24:t=24
 ·subst h24; exact law24
 by_cases h25:t=25
 ·subst h25; exact iA
 by_cases h26:t=26
 ·subst h26; exact oT
 by_cases h27:t=27
 ·subst h27; exact law27
 by_cases h28:t=28
 ·subst h28; exact mD
 by_cases h29:t=29
 ·subst h29; exact law29
 by_cases h30:t=30
 ·subst h30; exact lF
 by_cases h31:t=31
 ·subst h31; exact iB
 by_cases h32:t=32
 ·subst h32; exact fU
 by_cases h33:t=33
 ·subst h33; exact law33
 by_cases h34:t=34
 ·subst h34; exact eD
 by_cases h35:t=35
 ·subst h35; exact law35
 by_cases h36:t=36
 ·subst h36; exact gJ
 by_cases h37:t=37
 ·subst h37; exact cY
 by_cases h38:t=38
 ·subst h38; exact law38
 by_cases h39:t=39
 ·subst h39; exact gK
 by_cases h40:t=40
 ·subst h40; exact law40
 by_cases h41:t=41
 ·subst h41; exact gL
 by_cases h42:t=42
 ·subst h42; exact law42
 by_cases h43:t=43
 ·subst h43; exact aEL
 by_cases h44:t=44
 ·subst h44; exact law44
 by_cases h48:t=48
 ·subst h48; exact oU
 by_cases h59:t=59
 ·subst h59; exact oV
 by_cases h60:t=60
 ·subst h60; exact law60
 by_cases h64:t=64
 ·subst h64; exact law64
 by_cases h65:t=65
 ·subst h65; exact law65
 by_cases h69:t=69
 ·subst h69; exact law69
 by_cases h70:t=70
 ·subst h70; exact oW
 by_cases h71:t=71
 ·subst h71; exact law71
 by_cases h72:t=72
 ·subst h72; exact aEO
 by_cases h75:t=75
 ·subst h75; exact iC
 by_cases h76:t=76
 ·subst h76; exact law76
 by_cases h77:t=77
 ·subst h77; exact law77
 by_cases h79:t=79
 ·subst h79; exact law79
 by_cases h80:t=80
 ·subst h80; exact oX
 by_cases h81:t=81
 ·subst h81; exact law81
 by_cases h82:t=82
 ·subst h82; exact law82
 by_cases h138:t=138
 ·subst h138; exact law138
 by_cases h140:t=140
 ·subst h140; exact law140
 by_cases h154:t=154
 ·subst h154; exact law154
 by_cases h155:t=155
 ·subst h155; exact aA8
 by_cases h165:t=165
 ·subst h165; exact aET
 by_cases h166:t=166
 ·subst h166; exact law166
 by_cases h186:t=186
 ·subst h186; exact law186
 by_cases h192:t=192
 ·subst h192; exact aLo
 by_cases h193:t=193
 ·subst h193; exact law193
 by_cases h194:t=194
 ·subst h194; exact law194
 by_cases h201:t=201
 ·subst h201; exact law201
 by_cases h203:t=203
 ·subst h203; exact law203
 by_cases h229:t=229
 ·subst h229; exact law229
 by_cases h20065:t=20065
 ·subst h20065; exact aP7
 by_cases h10005:t=10005
 ·subst h10005; exact oS
 exact aP8 t h2 h3 h4 h5 h9 h12 h21 h22 h23 h24 h25 h26 h27 h28 h29 h30 h31 h32 h33 h34 h35 h36 h37 h38 h39 h40 h41 h42 h43 h44 h48 h59 h60 h64 h65 h69 h70 h71 h72 h75 h76 h77 h79 h80 h81 h82 h138 h140 h154 h155 h165 h166 h186 h192 h193 h194 h201 h203 h229 h20065 h10005
def oi:TV τ:=.int .i64 0
def aEW:Nat→Option (TV τ)
 | 2=>some (oi)
 | 3=>some (oi)
 | 4=>some (.bool false)
 | 5=>some (.int .u8 0)
 | 9=>some (.str [])
 | 12=>some (.int .u64 0)
 | 21=>some (.int .i32 0)
 | 22=>some (.agg [oi,oi])
 | 23=>some (.agg [oi,oi])
 | 24=>some (.agg [oi,oi])
 | 25=>some (.agg [oi,oi])
 | 26=>some (.nil .slice)
 | 27=>some (.agg [oi,oi])
 | 28=>some (.agg [oi,oi])
 | 29=>some (.agg [.agg [oi,oi],oi,oi,oi,(.str []),(.str []),(.str [])])
 | 30=>some (.agg [.agg [oi,oi],oi,oi,oi,(.str []),(.str []),(.str [])])
 | 31=>some (.nil .slice)
 | 32=>some (.arr 3 8 (Vector.replicate 8 (default:Int)))
 | 33=>some (.arr 2 8 (Vector.replicate 8 (default:Int)))
 | 34=>some (.arr 2 8 (Vector.replicate 8 (default:Int)))
 | 35=>some (.agg [oi,(.arr 3 8 (Vector.replicate 8 (default:Int))),(.arr 2 8 (Vector.replicate 8 (default:Int))),(.arr 3 8 (Vector.replicate 8 (default:Int)))])
 | 36=>some (.agg [oi,(.arr 3 8 (Vector.replicate 8 (default:Int))),(.arr 2 8 (Vector.replicate 8 (default:Int))),(.arr 3 8 (Vector.replicate 8 (default:Int)))])
 | 37=>some (.nil .slice)
 | 38=>some (.agg [oi,oi,oi,(.nil .slice)])
 | 39=>some (.agg [oi,oi,oi,(.nil .slice)])
 | 40=>some (.agg [oi,oi,oi,.agg [.agg [oi,oi],oi,oi,oi,(.str []),(.str []),(.str [])],oi,oi,(.nil .slice),.agg [oi,(.arr 3 8 (Vector.replicate 8 (default:Int))),(.arr 2 8 (Vector.replicate 8 (default:Int))),(.arr 3 8 (Vector.replicate 8 (default:Int)))],oi,(.arr 2 8 (Vector.replicate 8 (default:Int))),oi,.agg [oi,oi,oi,(.nil .slice)],oi,oi,oi])
 | 41=>some (.agg [oi,oi,oi,.agg [.agg [oi,oi],oi,oi,oi,(.str []),(.str []),(.str [])],oi,oi,(.nil .slice),.agg [oi,(.arr 3 8 (Vector.replicate 8 (default:Int))),(.arr 2 8 (Vector.replicate 8 (default:Int))),(.arr 3 8 (Vector.replicate 8 (default:Int)))],oi,(.arr 2 8 (Vector.replicate 8 (default:Int))),oi,.agg [oi,oi,oi,(.nil .slice)],oi,oi,oi])
 | 42=>some (.agg [oi,.agg [oi,oi],.agg [oi,oi],.agg [oi,oi],oi,(.nil .slice),.agg [oi,oi,oi,.agg [.agg [oi,oi],oi,oi,oi,(.str []),(.str []),(.str [])],oi,oi,(.nil .slice),.agg [oi,(.arr 3 8 (Vector.replicate 8 (default:Int))),(.arr 2 8 (Vector.replicate 8 (default:Int))),(.arr 3 8 (Vector.replicate 8 (default:Int)))],oi,(.arr 2 8 (Vector.replicate 8 (default:Int))),oi,.agg [oi,oi,oi,(.nil .slice)],oi,oi,oi],oi,(.arr 2 8 (Vector.replicate 8 (default:Int))),oi,oi,(.nil .slice),.agg [oi,(.arr 3 8 (Vector.replicate 8 (default:Int))),(.arr 2 8 (Vector.replicate 8 (default:Int))),(.arr 3 8 (Vector.replicate 8 (default:Int)))],.agg [oi,oi,oi,(.nil .slice)]])
 | 43=>some (.agg [oi,.agg [oi,oi],.agg [oi,oi],.agg [oi,oi],oi,(.nil .slice),.agg [oi,oi,oi,.agg [.agg [oi,oi],oi,oi,oi,(.str []),(.str []),(.str [])],oi,oi,(.nil .slice),.agg [oi,(.arr 3 8 (Vector.replicate 8 (default:Int))),(.arr 2 8 (Vector.replicate 8 (default:Int))),(.arr 3 8 (Vector.replicate 8 (default:Int)))],oi,(.arr 2 8 (Vector.replicate 8 (default:Int))),oi,.agg [oi,oi,oi,(.nil .slice)],oi,oi,oi],oi,(.arr 2 8 (Vector.replicate 8 (default:Int))),oi,oi,(.nil .slice),.agg [oi,(.arr 3 8 (Vector.replicate 8 (default:Int))),(.arr 2 8 (Vector.replicate 8 (default:Int))),(.arr 3 8 (Vector.replicate 8 (default:Int)))],.agg [oi,oi,oi,(.nil .slice)]])
 | 44=>some (.int .u16 0)
 | 45=>some (.nil .ptr)
 | 48=>some (oi)
 | 59=>some (.nil .slice)
 | 60=>some (.nil .slice)
 | 64=>some (.agg [oi,.agg [oi,oi],.agg [oi,oi],(.nil .slice)])
 | 65=>some (.agg [oi,.agg [oi,oi],.agg [oi,oi],(.nil .slice)])
 | 69=>some (.nil .slice)
 | 70=>some (.nil .slice)
 | 71=>some (.agg [oi,(.nil .slice),oi,oi,(.int .u8 0),(.nil .slice),oi])
 | 72=>some (.agg [oi,(.nil .slice),oi,oi,(.int .u8 0),(.nil .slice),oi])
 | 75=>some (.nil .slice)
 | 76=>some (.agg [(.nil .slice),oi])
 | 77=>some (.agg [(.nil .slice),oi])
 | 79=>some (.agg [(.nil .slice),oi])
 | 80=>some (.agg [(.nil .slice),oi])
 | 81=>some (.agg [.agg [(.nil .slice),oi],(.bool false)])
 | 82=>some (.agg [.agg [(.nil .slice),oi],(.bool false)])
 | 112=>some (.nil .ptr)
 | 115=>some (.agg [(.nil .ptr),oi])
 | 138=>some (.int .u32 0)
 | 140=>some (.int .u64 0)
 | 146=>some (.nil .ptr)
 | 149=>some (.agg [(.nil .ptr),oi])
 | 154=>some (.agg [oi,.agg [oi,oi],.agg [oi,oi,oi,.agg [.agg [oi,oi],oi,oi,oi,(.str []),(.str []),(.str [])],oi,oi,(.nil .slice),.agg [oi,(.arr 3 8 (Vector.replicate 8 (default:Int))),(.arr 2 8 (Vector.replicate 8 (default:Int))),(.arr 3 8 (Vector.replicate 8 (default:Int)))],oi,(.arr 2 8 (Vector.replicate 8 (default:Int))),oi,.agg [oi,oi,oi,(.nil .slice)],oi,oi,oi]])
 | 155=>some (.agg [oi,.agg [oi,oi],.agg [oi,oi,oi,.agg [.agg [oi,oi],oi,oi,oi,(.str []),(.str []),(.str [])],oi,oi,(.nil .slice),.agg [oi,(.arr 3 8 (Vector.replicate 8 (default:Int))),(.arr 2 8 (Vector.replicate 8 (default:Int))),(.arr 3 8 (Vector.replicate 8 (default:Int)))],oi,(.arr 2 8 (Vector.replicate 8 (default:Int))),oi,.agg [oi,oi,oi,(.nil .slice)],oi,oi,oi]])
 | 165=>some (.agg [(.bool false),(.nil .slice)])
 | 166=>some (.agg [(.bool false),(.nil .slice)])
 | 186=>some (.agg [(.bool false),(.nil .slice)])
 | 188=>some (.nil .ptr)
 | 192=>some (.agg [(.nil .slice),oi,oi])
 | 193=>some (.agg [(.nil .slice),oi,oi])
 | 194=>some (.nil .slice)
 | 201=>some (.nil .slice)
 | 203=>some (.int .u64 0)
 | 206=>some (.nil .slice)
 | 209=>some (.nil .ptr)
 | 226=>some (.nil .slice)
 | 229=>some (.nil .slice)
 | _=>none
def Zok (t:Nat) (z:TV τ):Prop:=∃ i,E.ty t=some i∧z.ok=true∧CW i.zero (z.cells C)∧z.isAgg=i.agg
theorem zok2:Zok 2 (oi):=⟨ti2,rfl,rfl,CW.of_eq (by kernel_rfl),rfl⟩
theorem zok3:Zok 3 (oi):=⟨ti3,rfl,rfl,CW.of_eq (by kernel_rfl),rfl⟩
theorem zok4:Zok 4 (.bool false):=⟨ti4,rfl,rfl,CW.of_eq (by kernel_rfl),rfl⟩
theorem zok5:Zok 5 (.int .u8 0):=⟨ti5,rfl,rfl,CW.of_eq (by kernel_rfl),rfl⟩
theorem zok9:Zok 9 (.str []):=⟨ti9,rfl,rfl,CW.of_eq (by kernel_rfl),rfl⟩
theorem zok12:Zok 12 (.int .u64 0):=⟨ti12,rfl,rfl,CW.of_eq (by kernel_rfl),rfl⟩
theorem zok21:Zok 21 (.int .i32 0):=⟨ti21,rfl,rfl,CW.of_eq (by kernel_rfl),rfl⟩
theorem zok22:Zok 22 (.agg [oi,oi]):=⟨ti22,rfl,rfl,CW.of_eq (by kernel_rfl),rfl⟩
theorem zok23:Zok 23 (.agg [oi,oi]):=⟨ti23,rfl,rfl,CW.of_eq (by kernel_rfl),rfl⟩
theorem zok24:Zok 24 (.agg [oi,oi]):=⟨ti24,rfl,rfl,CW.of_eq (by kernel_rfl),rfl⟩
theorem zok25:Zok 25 (.agg [oi,oi]):=⟨ti25,rfl,rfl,CW.of_eq (by kernel_rfl),rfl⟩
theorem zok26:Zok 26 (.nil .slice):=⟨ti26,rfl,rfl,CW.of_eq (by kernel_rfl),rfl⟩
theorem zok27:Zok 27 (.agg [oi,oi]):=⟨ti27,rfl,rfl,CW.of_eq (by kernel_rfl),rfl⟩
theorem zok28:Zok 28 (.agg [oi,oi]):=⟨ti28,rfl,rfl,CW.of_eq (by kernel_rfl),rfl⟩
theorem zok29:Zok 29 (.agg [.agg [oi,oi],oi,oi,oi,(.str []),(.str []),(.str [])]):=⟨ti29,rfl,rfl,CW.of_eq (by kernel_rfl),rfl⟩
theorem zok30:Zok 30 (.agg [.agg [oi,oi],oi,oi,oi,(.str []),(.str []),(.str [])]):=⟨ti30,rfl,rfl,CW.of_eq (by kernel_rfl),rfl⟩
theorem zok31:Zok 31 (.nil .slice):=⟨ti31,rfl,rfl,CW.of_eq (by kernel_rfl),rfl⟩
theorem zok32:Zok 32 (.arr 3 8 (Vector.replicate 8 (default:Int))):=⟨ti32,rfl,rfl,CW.of_eq (by kernel_rfl),rfl⟩
theorem zok33:Zok 33 (.arr 2 8 (Vector.replicate 8 (default:Int))):=⟨ti33,rfl,rfl,CW.of_eq (by kernel_rfl),rfl⟩
theorem zok34:Zok 34 (.arr 2 8 (Vector.replicate 8 (default:Int))):=⟨ti34,rfl,rfl,CW.of_eq (by kernel_rfl),rfl⟩
theorem zok35:Zok 35 (.agg [oi,(.arr 3 8 (Vector.replicate 8 (default:Int))),(.arr 2 8 (Vector.replicate 8 (default:Int))),(.arr 3 8 (Vector.replicate 8 (default:Int)))]):=⟨ti35,rfl,rfl,CW.of_eq (by kernel_rfl),rfl⟩
theorem zok36:Zok 36 (.agg [oi,(.arr 3 8 (Vector.replicate 8 (default:Int))),(.arr 2 8 (Vector.replicate 8 (default:Int))),(.arr 3 8 (Vector.replicate 8 (default:Int)))]):=⟨ti36,rfl,rfl,CW.of_eq (by kernel_rfl),rfl⟩
theorem zok37:Zok 37 (.nil .slice):=⟨ti37,rfl,rfl,CW.of_eq (by kernel_rfl),rfl⟩
theorem zok38:Zok 38 (.agg [oi,oi,oi,(.nil .slice)]):=⟨ti38,rfl,rfl,CW.of_eq (by kernel_rfl),rfl⟩
theorem zok39:Zok 39 (.agg [oi,oi,oi,(.nil .slice)]):=⟨ti39,rfl,rfl,CW.of_eq (by kernel_rfl),rfl⟩
theorem zok40:Zok 40 (.agg [oi,oi,oi,.agg [.agg [oi,oi],oi,oi,oi,(.str []),(.str []),(.str [])],oi,oi,(.nil .slice),.agg [oi,(.arr 3 8 (Vector.replicate 8 (default:Int))),(.arr 2 8 (Vector.replicate 8 (default:Int))),(.arr 3 8 (Vector.replicate 8 (default:Int)))],oi,(.arr 2 8 (Vector.replicate 8 (default:Int))),oi,.agg [oi,oi,oi,(.nil .slice)],oi,oi,oi]):=⟨ti40,rfl,rfl,CW.of_eq (by kernel_rfl),rfl⟩
theorem zok41:Zok 41 (.agg [oi,oi,oi,.agg [.agg [oi,oi],oi,oi,oi,(.str []),(.str []),(.str [])],oi,oi,(.nil .slice),.agg [oi,(.arr 3 8 (Vector.replicate 8 (default:Int))),(.arr 2 8 (Vector.replicate 8 (default:Int))),(.arr 3 8 (Vector.replicate 8 (default:Int)))],oi,(.arr 2 8 (Vector.replicate 8 (default:Int))),oi,.agg [oi,oi,oi,(.nil .slice)],oi,oi,oi]):=⟨ti41,rfl,rfl,CW.of_eq (by kernel_rfl),rfl⟩
theorem zok42:Zok 42 (.agg [oi,.agg [oi,oi],.agg [oi,oi],.agg [oi,oi],oi,(.nil .slice),.agg [oi,oi,oi,.agg [.agg [oi,oi],oi,oi,oi,(.str []),(.str []),(.str [])],oi,oi,(.nil .slice),.agg [oi,(.arr 3 8 (Vector.replicate 8 (default:Int))),(.arr 2 8 (Vector.replicate 8 (default:Int))),(.arr 3 8 (Vector.replicate 8 (default:Int)))],oi,(.arr 2 8 (Vector.replicate 8 (default:Int))),oi,.agg [oi,oi,oi,(.nil .slice)],oi,oi,oi],oi,(.arr 2 8 (Vector.replicate 8 (default:Int))),oi,oi,(.nil .slice),.agg [oi,(.arr 3 8 (Vector.replicate 8 (default:Int))),(.arr 2 8 (Vector.replicate 8 (default:Int))),(.arr 3 8 (Vector.replicate 8 (default:Int)))],.agg [oi,oi,oi,(.nil .slice)]]):=⟨ti42,rfl,rfl,CW.of_eq (by kernel_rfl),rfl⟩
theorem zok43:Zok 43 (.agg [oi,.agg [oi,oi],.agg [oi,oi],.agg [oi,oi],oi,(.nil .slice),.agg [oi,oi,oi,.agg [.agg [oi,oi],oi,oi,oi,(.str []),(.str []),(.str [])],oi,oi,(.nil .slice),.agg [oi,(.arr 3 8 (Vector.replicate 8 (default:Int))),(.arr 2 8 (Vector.replicate 8 (default:Int))),(.arr 3 8 (Vector.replicate 8 (default:Int)))],oi,(.arr 2 8 (Vector.replicate 8 (default:Int))),oi,.agg [oi,oi,oi,(.nil .slice)],oi,oi,oi],oi,(.arr 2 8 (Vector.replicate 8 (default:Int))),oi,oi,(.nil .slice),.agg [oi,(.arr 3 8 (Vector.replicate 8 (default:Int))),(.arr 2 8 (Vector.replicate 8 (default:Int))),(.arr 3 8 (Vector.replicate 8 (default:Int)))],.agg [oi,oi,oi,(.nil .slice)]]):=⟨ti43,rfl,rfl,CW.of_eq (by kernel_rfl),rfl⟩
theorem zok44:Zok 44 (.int .u16 0):=⟨ti44,rfl,rfl,CW.of_eq (by kernel_rfl),rfl⟩
theorem zok45:Zok 45 (.nil .ptr):=⟨ti45,rfl,rfl,CW.of_eq (by kernel_rfl),rfl⟩
theorem zok48:Zok 48 (oi):=⟨ti48,rfl,rfl,CW.of_eq (by kernel_rfl),rfl⟩
theorem zok59:Zok 59 (.nil .slice):=⟨ti59,rfl,rfl,CW.of_eq (by kernel_rfl),rfl⟩
theorem zok60:Zok 60 (.nil .slice):=⟨ti60,rfl,rfl,CW.of_eq (by kernel_rfl),rfl⟩
theorem zok64:Zok 64 (.agg [oi,.agg [oi,oi],.agg [oi,oi],(.nil .slice)]):=⟨ti64,rfl,rfl,CW.of_eq (by kernel_rfl),rfl⟩
theorem zok65:Zok 65 (.agg [oi,.agg [oi,oi],.agg [oi,oi],(.nil .slice)]):=⟨ti65,rfl,rfl,CW.of_eq (by kernel_rfl),rfl⟩
theorem zok69:Zok 69 (.nil .slice):=⟨ti69,rfl,rfl,CW.of_eq (by kernel_rfl),rfl⟩
theorem zok70:Zok 70 (.nil .slice):=⟨ti70,rfl,rfl,CW.of_eq (by kernel_rfl),rfl⟩
theorem zok71:Zok 71 (.agg [oi,(.nil .slice),oi,oi,(.int .u8 0),(.nil .slice),oi]):=⟨ti71,rfl,rfl,CW.of_eq (by kernel_rfl),rfl⟩
theorem zok72:Zok 72 (.agg [oi,(.nil .slice),oi,oi,(.int .u8 0),(.nil .slice),oi]):=⟨ti72,rfl,rfl,CW.of_eq (by kernel_rfl),rfl⟩
theorem zok75:Zok 75 (.nil .slice):=⟨ti75,rfl,rfl,CW.of_eq (by kernel_rfl),rfl⟩
theorem zok76:Zok 76 (.agg [(.nil .slice),oi]):=⟨ti76,rfl,rfl,CW.of_eq (by kernel_rfl),rfl⟩
theorem zok77:Zok 77 (.agg [(.nil .slice),oi]):=⟨ti77,rfl,rfl,CW.of_eq (by kernel_rfl),rfl⟩
theorem zok79:Zok 79 (.agg [(.nil .slice),oi]):=⟨ti79,rfl,rfl,CW.of_eq (by kernel_rfl),rfl⟩
theorem zok80:Zok 80 (.agg [(.nil .slice),oi]):=⟨ti80,rfl,rfl,CW.of_eq (by kernel_rfl),rfl⟩
theorem zok81:Zok 81 (.agg [.agg [(.nil .slice),oi],(.bool false)]):=⟨ti81,rfl,rfl,CW.of_eq (by kernel_rfl),rfl⟩
theorem zok82:Zok 82 (.agg [.agg [(.nil .slice),oi],(.bool false)]):=⟨ti82,rfl,rfl,CW.of_eq (by kernel_rfl),rfl⟩
theorem zok112:Zok 112 (.nil .ptr):=⟨aDS,rfl,rfl,CW.of_eq (by kernel_rfl),rfl⟩
theorem zok115:Zok 115 (.agg [(.nil .ptr),oi]):=⟨aDT,rfl,rfl,CW.of_eq (by kernel_rfl),rfl⟩
theorem zok138:Zok 138 (.int .u32 0):=⟨aDU,rfl,rfl,CW.of_eq (by kernel_rfl),rfl⟩
theorem zok140:Zok 140 (.int .u64 0):=⟨aDV,rfl,rfl,CW.of_eq (by kernel_rfl),rfl⟩
theorem zok146:Zok 146 (.nil .ptr):=⟨aDW,rfl,rfl,CW.of_eq (by kernel_rfl),rfl⟩
theorem zok149:Zok 149 (.agg [(.nil .ptr),oi]):=⟨aDX,rfl,rfl,CW.of_eq (by kernel_rfl),rfl⟩
theorem zok154:Zok 154 (.agg [oi,.agg [oi,oi],.agg [oi,oi,oi,.agg [.agg [oi,oi],oi,oi,oi,(.str []),(.str []),(.str [])],oi,oi,(.nil .slice),.agg [oi,(.arr 3 8 (Vector.replicate 8 (default:Int))),(.arr 2 8 (Vector.replicate 8 (default:Int))),(.arr 3 8 (Vector.replicate 8 (default:Int)))],oi,(.arr 2 8 (Vector.replicate 8 (default:Int))),oi,.agg [oi,oi,oi,(.nil .slice)],oi,oi,oi]]):=⟨aAN,rfl,rfl,CW.of_eq (by kernel_rfl),rfl⟩
theorem zok155:Zok 155 (.agg [oi,.agg [oi,oi],.agg [oi,oi,oi,.agg [.agg [oi,oi],oi,oi,oi,(.str []),(.str []),(.str [])],oi,oi,(.nil .slice),.agg [oi,(.arr 3 8 (Vector.replicate 8 (default:Int))),(.arr 2 8 (Vector.replicate 8 (default:Int))),(.arr 3 8 (Vector.replicate 8 (default:Int)))],oi,(.arr 2 8 (Vector.replicate 8 (default:Int))),oi,.agg [oi,oi,oi,(.nil .slice)],oi,oi,oi]]):=⟨aDY,rfl,rfl,CW.of_eq (by kernel_rfl),rfl⟩
theorem zok165:Zok 165 (.agg [(.bool false),(.nil .slice)]):=⟨xH,rfl,rfl,CW.of_eq (by kernel_rfl),rfl⟩
theorem zok166:Zok 166 (.agg [(.bool false),(.nil .slice)]):=⟨aDZ,rfl,rfl,CW.of_eq (by kernel_rfl),rfl⟩
theorem zok186:Zok 186 (.agg [(.bool false),(.nil .slice)]):=⟨aD0,rfl,rfl,CW.of_eq (by kernel_rfl),rfl⟩
theorem zok188:Zok 188 (.nil .ptr):=⟨aD1,rfl,rfl,CW.of_eq (by kernel_rfl),rfl⟩
theorem zok192:Zok 192 (.agg [(.nil .slice),oi,oi]):=⟨aAO,rfl,rfl,CW.of_eq (by kernel_rfl),rfl⟩
theorem zok193:Zok 193 (.agg [(.nil .slice),oi,oi]):=⟨aD2,rfl,rfl,CW.of_eq (by kernel_rfl),rfl⟩
theorem zok194:Zok 194 (.nil .slice):=⟨aD3,rfl,rfl,CW.of_eq (by kernel_rfl),rfl⟩
theorem zok201:Zok 201 (.nil .slice):=⟨aD4,rfl,rfl,CW.of_eq (by kernel_rfl),rfl⟩
theorem zok203:Zok 203 (.int .u64 0):=⟨aD5,rfl,rfl,CW.of_eq (by kernel_rfl),rfl⟩
theorem zok206:Zok 206 (.nil .slice):=⟨aD6,rfl,rfl,CW.of_eq (by kernel_rfl),rfl⟩
theorem zok209:Zok 209 (.nil .ptr):=⟨aD7,rfl,rfl,CW.of_eq (by kernel_rfl),rfl⟩
theorem zok226:Zok 226 (.nil .slice):=⟨aD8,rfl,rfl,CW.of_eq (by kernel_rfl),rfl⟩
theorem zok229:Zok 229 (.nil .slice):=⟨aD9,rfl,rfl,CW.of_eq (by kernel_rfl),rfl⟩
noncomputable def D0:TEnv τ:=⟨E,C,aEW⟩
theorem zeroOk:∀ t x,aEW t=some x→∃ i,E.ty t=some i∧x.ok=true∧CW i.zero (x.cells C)∧x.isAgg=i.agg:=by
 intro t x h
 unfold aEW at h
 split at h<;>first
  | (cases h; first | exact zok2 | exact zok3 | exact zok4 | exact zok5 | exact zok9 | exact zok12 | exact zok21 | exact zok22 | exact zok23 | exact zok24 | exact zok25 | exact zok26 | exact zok27 | exact zok28 | exact zok29 | exact zok30 | exact zok31 | exact zok32 | exact zok33 | exact zok34 | exact zok35 | exact zok36 | exact zok37 | exact zok38 | exact zok39 | exact zok40 | exact zok41 | exact zok42 | exact zok43 | exact zok44 | exact zok45 | exact zok48 | exact zok59 | exact zok60 | exact zok64 | exact zok65 | exact zok69 | exact zok70 | exact zok71 | exact zok72 | exact zok75 | exact zok76 | exact zok77 | exact zok79 | exact zok80 | exact zok81 | exact zok82 | exact zok112 | exact zok115 | exact zok138 | exact zok140 | exact zok146 | exact zok149 | exact zok154 | exact zok155 | exact zok165 | exact zok166 | exact zok186 | exact zok188 | exact zok192 | exact zok193 | exact zok194 | exact zok201 | exact zok203 | exact zok206 | exact zok209 | exact zok226 | exact zok229)
  | cases h
theorem d0Ok:D0.Ok:=⟨eOk,eEq,cOk,zeroOk⟩
def cn (args:List Sh) (L:List ESh) (ret:Sh) (L':List ESh) {R:Type} [Inhabited R] (F:Nat→Sh.Ts τ args→ESh.Ts τ L→Option R) (of:R→ret.T τ×ESh.Ts τ L'):Con τ:={ args:=args,L:=L,ret:=ret,L':=L',R:=R,dflt:=default,F:=F,of:=of }
noncomputable def dt (t:List (Nat×Con τ)) (l:List (Nat×Lp τ)) (k:Nat) (mu:List Nat) (un:List (Nat×Nat)):Dat τ:={ D:=D0,tbl:=tG t,lp:=aAB l,k0:=k,mu:=mu,un:=un }
noncomputable def dp (t:List (Nat×Con τ)) (l:List (Nat×Lp τ)) (k:Nat) (mu:List Nat) (un:List (Nat×Nat)) (ad fz ln:List Nat):Dat τ:={ D:=D0,tbl:=tG t,lp:=aAB l,k0:=k,mu:=mu,un:=un,pool:=true,ad:=ad,fz:=fz,ln:=ln }
theorem ok0 (c:Con τ) (t:List (Nat×Con τ)) (l:List (Nat×Lp τ)) (k:Nat) (mu:List Nat) (un:List (Nat×Nat)) (T:aDB E C t) (to:c.ret.T τ→ESh.Ts τ c.L'→c.R) {f:FuncId} {fn:Func} {code:Code} (hf:E.P.funcs[f]?=some fn) (hb:fn.body=some code)
  (h:∀ N a b,run (dt t l k mu un) N 1000000 [.code code] (iK C fn.ntmps c a b) (oE D0 c to none k fn.results.toList)=c.F N a b) (hto:∀ a b,c.of (to a b)=(a,b):=by exact fun _ _=>rfl) (hta:c.alt=none:=by rfl)
  (hname : (fn.name == "runtime.NumGoroutine") = false := by kernel_rfl) (hok : eQ code = true := by kernel_rfl) (hk : k = c.L.length := by rfl) (hsub : jT (kU (dt t l k mu un)) code := by exact lW (by kernel_rfl)) (hy : Nat.beq f kR = false := by rfl) (hxe : c.ext = false := by rfl) : aF E C f c :=
 aOf (D:=dt t l k mu un) ⟨d0Ok,aEc,aAC T,fun _=>rfl⟩ c to none hto hta (fun _ _ h=>nomatch h) 1000000 hf hb hname hok hk h hsub hy rfl hxe
theorem okp (c:Con τ) (t:List (Nat×Con τ)) (l:List (Nat×Lp τ)) (k:Nat) (mu:List Nat) (un:List (Nat×Nat)) (ad fz ln:List Nat) (T:aDB E C t) (to:c.ret.T τ→ESh.Ts τ c.L'→c.R) {f:FuncId} {fn:Func} {code:Code} (hf:E.P.funcs[f]?=some fn) (hb:fn.body=some code)
  (h:∀ N a b,run (dp t l k mu un ad fz ln) N 1000000 [.code code] (iK C fn.ntmps c a b) (oE D0 c to none k fn.results.toList)=c.F N a b) (hto:∀ a b,c.of (to a b)=(a,b):=by exact fun _ _=>rfl) (hta:c.alt=none:=by rfl)
  (hname : (fn.name == "runtime.NumGoroutine") = false := by kernel_rfl) (hok : eQ code = true := by kernel_rfl) (hk : k = c.L.length := by rfl) (hsub : jT (kU (dp t l k mu un ad fz ln)) code := by exact lW (by kernel_rfl)) (hy : Nat.beq f kR = false := by rfl) (hxe : c.ext = false := by rfl) : aF E C f c :=
 aOf (D:=dp t l k mu un ad fz ln) ⟨d0Ok,aEc,aAC T,fun _=>rfl⟩ c to none hto hta (fun _ _ h=>nomatch h) 1000000 hf hb hname hok hk h hsub hy rfl hxe
end Go.Proofs.YtddpmkmgbdedlaaGreat
