/-
The types of this seat's program,as the evaluator asks them,and how their data are told. Written by wip/tools/gen2.py.
-/
import Derived.Test.YtddpmkmgbdedlaaGreatProg
import Derived.Test.YtddpmkmgbdedlaaGreatqTvR
import Derived.KernelRfl
set_option linter.unusedVariables false
set_option linter.unusedSimpArgs false
set_option maxHeartbeats 8000000
set_option maxRecDepth 100000
namespace Go.Proofs.YtddpmkmgbdedlaaGreat
open Go Go.Ev
def fd (n : String) (t o b : Nat) : Field := ⟨n, t, o, false, "", "", b⟩
def wi:Value:=.int .i64 0
def wn:Value:=.slice none 0 0
def wz:Value:=.string ⟨#[]⟩
theorem z1c {a a' b b':List AV} (h:a=a') (h':b=b'):a++b=a'++b':=h▸h'▸rfl
theorem zw {a b:List AV} {m n:Nat} (h:a.length=m) (h':b.length=n):(a++b).length=m+n:=by rw [List.length_append,h,h']
theorem ok_t:true=true:=rfl
theorem zh {a b:Bool} (h:a=true) (h':b=true):(a&&b)=true:=by rw [h,h']; rfl
theorem zx {a b:List AV} (h:a.all AV.one=true) (h':b.all AV.one=true):(a++b).all AV.one=true:=by rw [List.all_append,h,h']; rfl
def ti2:TI:=⟨.int .i64,1,8,[.v wi]⟩
def ti3:TI:=⟨.int .i64,1,8,[.v wi]⟩
def ti4:TI:=⟨.bool,1,1,[.v (.bool false)]⟩
def ti5:TI:=⟨.int .u8,1,1,[.v (.int .u8 0)]⟩
def ti9:TI:=⟨.string,1,16,[.v wz]⟩
def ti12:TI:=⟨.int .u64,1,8,[.v (.int .u64 0)]⟩
def ti21:TI:=⟨.int .i32,1,4,[.v (.int .i32 0)]⟩
def ti22 : TI := ⟨.struct #[fd "Group" 3 0 0, fd "Replica" 3 1 8], 2, 16, [.v wi, .v wi]⟩
def ti23:TI:=ti22
def ti24 : TI := ⟨.struct #[fd "Round" 2 0 0, fd "Replica" 3 1 8], 2, 16, [.v wi, .v wi]⟩
def ti25:TI:=ti24
def ti26:TI:=⟨.slice 155,1,24,[.v wn]⟩
def ti27 : TI := ⟨.struct #[fd "Time" 2 0 0, fd "Site" 3 1 8], 2, 16, [.v wi, .v wi]⟩
def ti28:TI:=ti27
def ti29 : TI := ⟨.struct #[fd "Stamp" 28 0 0, fd "Kind" 3 2 16, fd "Node" 2 3 24, fd "Parent" 2 4 32, fd "Name" 9 5 40, fd "Key" 9 6 56, fd "Value" 9 7 72], 8, 88, [.v wi, .v wi, .v wi, .v wi, .v wi, .v wz, .v wz, .v wz]⟩
def ti30:TI:=ti29
def ti31:TI:=⟨.slice 30,1,24,[.v wn]⟩
def ti32:TI:=⟨.array 8 3,8,64,[.v wi,.v wi,.v wi,.v wi,.v wi,.v wi,.v wi,.v wi]⟩
def ti33:TI:=⟨.array 8 2,8,64,[.v wi,.v wi,.v wi,.v wi,.v wi,.v wi,.v wi,.v wi]⟩
def ti34:TI:=⟨.array 8 2,8,64,[.v wi,.v wi,.v wi,.v wi,.v wi,.v wi,.v wi,.v wi]⟩
def ti35 : TI := ⟨.struct #[fd "Number" 2 0 0, fd "States" 32 1 8, fd "Seals" 34 9 72, fd "Sponsor" 32 17 136], 25, 200, [.v wi, .v wi, .v wi, .v wi, .v wi, .v wi, .v wi, .v wi, .v wi, .v wi, .v wi, .v wi, .v wi, .v wi, .v wi, .v wi, .v wi, .v wi, .v wi, .v wi, .v wi, .v wi, .v wi, .v wi, .v wi]⟩
def ti36:TI:=ti35
def ti37:TI:=⟨.slice 5,1,24,[.v wn]⟩
def ti38 : TI := ⟨.struct #[fd "Snap" 2 0 0, fd "Index" 3 1 8, fd "Many" 3 2 16, fd "Data" 37 3 24], 4, 48, [.v wi, .v wi, .v wi, .v wn]⟩
def ti39:TI:=ti38
def ti40 : TI := ⟨.struct #[fd "Kind" 3 0 0, fd "Session" 2 1 8, fd "Request" 2 2 16, fd "Op" 30 3 24, fd "Origin" 3 11 112, fd "Seq" 2 12 120, fd "Ops" 31 13 128, fd "Epoch" 36 14 152, fd "From" 3 39 352, fd "Vector" 34 40 360, fd "Clock" 2 48 424, fd "Part" 39 49 432, fd "Site" 3 53 480, fd "Sponsor" 3 54 488, fd "Length" 2 55 496], 56, 504, [.v wi, .v wi, .v wi, .v wi, .v wi, .v wi, .v wi, .v wi, .v wz, .v wz, .v wz, .v wi, .v wi, .v wn, .v wi, .v wi, .v wi, .v wi, .v wi, .v wi, .v wi, .v wi, .v wi, .v wi, .v wi, .v wi, .v wi, .v wi, .v wi, .v wi, .v wi, .v wi, .v wi, .v wi, .v wi, .v wi, .v wi, .v wi, .v wi, .v wi, .v wi, .v wi, .v wi, .v wi, .v wi, .v wi, .v wi, .v wi, .v wi, .v wi, .v wi, .v wi, .v wn, .v wi, .v wi, .v wi]⟩
def ti41:TI:=ti40
def ti42 : TI := ⟨.struct #[fd "Kind" 3 0 0, fd "From" 23 1 8, fd "To" 23 3 24, fd "Ballot" 25 5 40, fd "Slot" 2 7 56, fd "List" 26 8 64, fd "Entry" 41 9 88, fd "Number" 2 65 592, fd "Vector" 34 66 600, fd "Clock" 2 74 664, fd "Origin" 3 75 672, fd "Ops" 31 76 680, fd "Epoch" 36 77 704, fd "Part" 39 102 904], 106, 952, [.v wi, .v wi, .v wi, .v wi, .v wi, .v wi, .v wi, .v wi, .v wn, .v wi, .v wi, .v wi, .v wi, .v wi, .v wi, .v wi, .v wi, .v wz, .v wz, .v wz, .v wi, .v wi, .v wn, .v wi, .v wi, .v wi, .v wi, .v wi, .v wi, .v wi, .v wi, .v wi, .v wi, .v wi, .v wi, .v wi, .v wi, .v wi, .v wi, .v wi, .v wi, .v wi, .v wi, .v wi, .v wi, .v wi, .v wi, .v wi, .v wi, .v wi, .v wi, .v wi, .v wi, .v wi, .v wi, .v wi, .v wi, .v wi, .v wi, .v wi, .v wi, .v wn, .v wi, .v wi, .v wi, .v wi, .v wi, .v wi, .v wi, .v wi, .v wi, .v wi, .v wi, .v wi, .v wi, .v wi, .v wn, .v wi, .v wi, .v wi, .v wi, .v wi, .v wi, .v wi, .v wi, .v wi, .v wi, .v wi, .v wi, .v wi, .v wi, .v wi, .v wi, .v wi, .v wi, .v wi, .v wi, .v wi, .v wi, .v wi, .v wi, .v wi, .v wi, .v wi, .v wi, .v wn]⟩
def ti43:TI:=ti42
def ti44:TI:=⟨.int .u16,1,2,[.v (.int .u16 0)]⟩
def ti45:TI:=⟨.pointer 82,1,8,[.v (.pointer none)]⟩
def ti48:TI:=⟨.int .i64,1,8,[.v wi]⟩
def ti59:TI:=⟨.slice 43,1,24,[.v wn]⟩
def ti60:TI:=⟨.slice 2,1,24,[.v wn]⟩
def ti64 : TI := ⟨.struct #[fd "Number" 2 0 0, fd "From" 23 1 8, fd "To" 23 3 24, fd "Data" 37 5 40], 6, 64, [.v wi, .v wi, .v wi, .v wi, .v wi, .v wn]⟩
def ti65:TI:=ti64
def ti69:TI:=⟨.slice 72,1,24,[.v wn]⟩
def ti70:TI:=⟨.slice 23,1,24,[.v wn]⟩
def ti71 : TI := ⟨.struct #[fd "Kind" 3 0 0, fd "Msgs" 59 1 8, fd "Number" 2 2 32, fd "Place" 3 3 40, fd "With" 5 4 48, fd "Addrs" 70 5 56, fd "Stop" 3 6 80], 7, 88, [.v wi, .v wn, .v wi, .v wi, .v (.int .u8 0), .v wn, .v wi]⟩
def ti72:TI:=ti71
def ti75:TI:=⟨.slice 65,1,24,[.v wn]⟩
def ti76 : TI := ⟨.struct #[fd "L" 75 0 0, fd "Last" 2 1 24], 2, 32, [.v wn, .v wi]⟩
def ti77:TI:=ti76
def ti79 : TI := ⟨.struct #[⟨ "wait", 75, 0, false, "", "orchard/net", 0⟩, ⟨ "last", 2, 1, false, "", "orchard/net", 24⟩], 2, 32, [.v wn, .v wi]⟩
def ti80:TI:=ti79
def ti81 : TI := ⟨.struct #[⟨ "queue", 80, 0, true, "", "orchard/net", 0⟩, ⟨ "made", 4, 2, false, "", "orchard/net", 32⟩], 3, 40, [.v wn, .v wi, .v (.bool false)]⟩
def ti82:TI:=ti81
def ti112:TI:=⟨.pointer 166,1,8,[.v (.pointer none)]⟩
def ti115 : TI := ⟨.struct #[⟨ "Writer", 112, 0, true, "", "", 0⟩, ⟨ "e", 48, 1, false, "", "orchard/record", 8⟩], 2, 16, [.v (.pointer none), .v wi]⟩
def ti138:TI:=⟨.int .u32,1,4,[.v (.int .u32 0)]⟩
def ti140:TI:=⟨.int .u64,1,8,[.v (.int .u64 0)]⟩
def ti146:TI:=⟨.pointer 186,1,8,[.v (.pointer none)]⟩
def ti149 : TI := ⟨.struct #[⟨ "Reader", 146, 0, true, "", "", 0⟩, ⟨ "e", 48, 1, false, "", "orchard/record", 8⟩], 2, 16, [.v (.pointer none), .v wi]⟩
def ti154 : TI := ⟨.struct #[fd "Slot" 2 0 0, fd "Ballot" 25 1 8, fd "Entry" 41 3 24], 59, 528, [.v wi, .v wi, .v wi, .v wi, .v wi, .v wi, .v wi, .v wi, .v wi, .v wi, .v wi, .v wz, .v wz, .v wz, .v wi, .v wi, .v wn, .v wi, .v wi, .v wi, .v wi, .v wi, .v wi, .v wi, .v wi, .v wi, .v wi, .v wi, .v wi, .v wi, .v wi, .v wi, .v wi, .v wi, .v wi, .v wi, .v wi, .v wi, .v wi, .v wi, .v wi, .v wi, .v wi, .v wi, .v wi, .v wi, .v wi, .v wi, .v wi, .v wi, .v wi, .v wi, .v wi, .v wi, .v wi, .v wn, .v wi, .v wi, .v wi]⟩
def ti155:TI:=ti154
def ti165 : TI := ⟨.struct #[⟨ "made", 4, 0, false, "", "orchard/wire", 0⟩, ⟨ "b", 37, 1, false, "", "orchard/wire", 8⟩], 2, 32, [.v (.bool false), .v wn]⟩
def ti166:TI:=ti165
def ti186:TI:=ti165
def ti188:TI:=⟨.pointer 3,1,8,[.v (.pointer none)]⟩
def ti192 : TI := ⟨.struct #[fd "B" 37 0 0, fd "At" 3 1 24, fd "E" 48 2 32], 3, 40, [.v wn, .v wi, .v wi]⟩
def ti193:TI:=ti192
def ti194:TI:=⟨.slice 3,1,24,[.v wn]⟩
def ti201:TI:=⟨.slice 37,1,24,[.v wn]⟩
def ti203:TI:=⟨.int .u64,1,8,[.v (.int .u64 0)]⟩
def ti206:TI:=⟨.slice 188,1,24,[.v wn]⟩
def ti209:TI:=⟨.pointer 2,1,8,[.v (.pointer none)]⟩
def ti226:TI:=⟨.slice 209,1,24,[.v wn]⟩
def ti229:TI:=⟨.slice 9,1,24,[.v wn]⟩
def tyT:Nat→Option TI
  | 2=>some ti2
  | 3=>some ti3
  | 4=>some ti4
  | 5=>some ti5
  | 9=>some ti9
  | 12=>some ti12
  | 21=>some ti21
  | 22=>some ti22
  | 23=>some ti23
  | 24=>some ti24
  | 25=>some ti25
  | 26=>some ti26
  | 27=>some ti27
  | 28=>some ti28
  | 29=>some ti29
  | 30=>some ti30
  | 31=>some ti31
  | 32=>some ti32
  | 33=>some ti33
  | 34=>some ti34
  | 35=>some ti35
  | 36=>some ti36
  | 37=>some ti37
  | 38=>some ti38
  | 39=>some ti39
  | 40=>some ti40
  | 41=>some ti41
  | 42=>some ti42
  | 43=>some ti43
  | 44=>some ti44
  | 45=>some ti45
  | 48=>some ti48
  | 59=>some ti59
  | 60=>some ti60
  | 64=>some ti64
  | 65=>some ti65
  | 69=>some ti69
  | 70=>some ti70
  | 71=>some ti71
  | 72=>some ti72
  | 75=>some ti75
  | 76=>some ti76
  | 77=>some ti77
  | 79=>some ti79
  | 80=>some ti80
  | 81=>some ti81
  | 82=>some ti82
  | 112=>some ti112
  | 115=>some ti115
  | 138=>some ti138
  | 140=>some ti140
  | 146=>some ti146
  | 149=>some ti149
  | 154=>some ti154
  | 155=>some ti155
  | 165=>some ti165
  | 166=>some ti166
  | 186=>some ti186
  | 188=>some ti188
  | 192=>some ti192
  | 193=>some ti193
  | 194=>some ti194
  | 201=>some ti201
  | 203=>some ti203
  | 206=>some ti206
  | 209=>some ti209
  | 226=>some ti226
  | 229=>some ti229
  | _=>none
def eqT:Nat→Option (List Kd)
  | 22=>some [.i,.i]
  | 23=>some [.i,.i]
  | 24=>some [.i,.i]
  | 25=>some [.i,.i]
  | 27=>some [.i,.i]
  | 28=>some [.i,.i]
  | 29=>some [.i,.i,.i,.i,.i,.s,.s,.s]
  | 30=>some [.i,.i,.i,.i,.i,.s,.s,.s]
  | 32=>some [.i,.i,.i,.i,.i,.i,.i,.i]
  | 33=>some [.i,.i,.i,.i,.i,.i,.i,.i]
  | 34=>some [.i,.i,.i,.i,.i,.i,.i,.i]
  | 35=>some [.i,.i,.i,.i,.i,.i,.i,.i,.i,.i,.i,.i,.i,.i,.i,.i,.i,.i,.i,.i,.i,.i,.i,.i,.i]
  | 36=>some [.i,.i,.i,.i,.i,.i,.i,.i,.i,.i,.i,.i,.i,.i,.i,.i,.i,.i,.i,.i,.i,.i,.i,.i,.i]
  | _=>none
noncomputable def E:Env:=⟨Tryz.prog,tyT,eqT,none⟩
theorem tok2:TyOk E.P 2 ti2:=tyOkV (z:=(.int .i64 0)) (by kernel_rfl) rfl (by kernel_rfl) (by kernel_rfl)
theorem tok3:TyOk E.P 3 ti3:=tyOkV (z:=(.int .i64 0)) (by kernel_rfl) rfl (by kernel_rfl) (by kernel_rfl)
theorem tok4:TyOk E.P 4 ti4:=tyOkV (z:=(.bool false)) (by kernel_rfl) rfl (by kernel_rfl) (by kernel_rfl)
theorem tok5:TyOk E.P 5 ti5:=tyOkV (z:=(.int .u8 0)) (by kernel_rfl) rfl (by kernel_rfl) (by kernel_rfl)
theorem tok9:TyOk E.P 9 ti9:=tyOkV (z:=(.string ⟨#[]⟩)) (by kernel_rfl) rfl (by kernel_rfl) (by kernel_rfl)
theorem tok12:TyOk E.P 12 ti12:=tyOkV (z:=(.int .u64 0)) (by kernel_rfl) rfl (by kernel_rfl) (by kernel_rfl)
theorem tok21:TyOk E.P 21 ti21:=tyOkV (z:=(.int .i32 0)) (by kernel_rfl) rfl (by kernel_rfl) (by kernel_rfl)
theorem tok22:TyOk E.P 22 ti22:=tyOkV (z:=(.agg #[wi,wi])) (by kernel_rfl) rfl (by kernel_rfl) (by kernel_rfl)
theorem tok23:TyOk E.P 23 ti23:=tyOkV (z:=(.agg #[wi,wi])) (by kernel_rfl) rfl (by kernel_rfl) (by kernel_rfl)
theorem tok24:TyOk E.P 24 ti24:=tyOkV (z:=(.agg #[wi,wi])) (by kernel_rfl) rfl (by kernel_rfl) (by kernel_rfl)
theorem tok25:TyOk E.P 25 ti25:=tyOkV (z:=(.agg #[wi,wi])) (by kernel_rfl) rfl (by kernel_rfl) (by kernel_rfl)
theorem tok26:TyOk E.P 26 ti26:=tyOkV (z:=(.slice none 0 0)) (by kernel_rfl) rfl (by kernel_rfl) (by kernel_rfl)
theorem tok27:TyOk E.P 27 ti27:=tyOkV (z:=(.agg #[wi,wi])) (by kernel_rfl) rfl (by kernel_rfl) (by kernel_rfl)
theorem tok28:TyOk E.P 28 ti28:=tyOkV (z:=(.agg #[wi,wi])) (by kernel_rfl) rfl (by kernel_rfl) (by kernel_rfl)
theorem tok29:TyOk E.P 29 ti29:=tyOkV (z:=(.agg #[wi,wi,wi,wi,wi,wz,wz,wz])) (by kernel_rfl) rfl (by kernel_rfl) (by kernel_rfl)
theorem tok30:TyOk E.P 30 ti30:=tyOkV (z:=(.agg #[wi,wi,wi,wi,wi,wz,wz,wz])) (by kernel_rfl) rfl (by kernel_rfl) (by kernel_rfl)
theorem tok31:TyOk E.P 31 ti31:=tyOkV (z:=(.slice none 0 0)) (by kernel_rfl) rfl (by kernel_rfl) (by kernel_rfl)
theorem tok32:TyOk E.P 32 ti32:=tyOkV (z:=(.agg #[wi,wi,wi,wi,wi,wi,wi,wi])) (by kernel_rfl) rfl (by kernel_rfl) (by kernel_rfl)
theorem tok33:TyOk E.P 33 ti33:=tyOkV (z:=(.agg #[wi,wi,wi,wi,wi,wi,wi,wi])) (by kernel_rfl) rfl (by kernel_rfl) (by kernel_rfl)
theorem tok34:TyOk E.P 34 ti34:=tyOkV (z:=(.agg #[wi,wi,wi,wi,wi,wi,wi,wi])) (by kernel_rfl) rfl (by kernel_rfl) (by kernel_rfl)
theorem tok35:TyOk E.P 35 ti35:=tyOkV (z:=(.agg #[wi,wi,wi,wi,wi,wi,wi,wi,wi,wi,wi,wi,wi,wi,wi,wi,wi,wi,wi,wi,wi,wi,wi,wi,wi])) (by kernel_rfl) rfl (by kernel_rfl) (by kernel_rfl)
theorem tok36:TyOk E.P 36 ti36:=tyOkV (z:=(.agg #[wi,wi,wi,wi,wi,wi,wi,wi,wi,wi,wi,wi,wi,wi,wi,wi,wi,wi,wi,wi,wi,wi,wi,wi,wi])) (by kernel_rfl) rfl (by kernel_rfl) (by kernel_rfl)
theorem tok37:TyOk E.P 37 ti37:=tyOkV (z:=(.slice none 0 0)) (by kernel_rfl) rfl (by kernel_rfl) (by kernel_rfl)
theorem tok38:TyOk E.P 38 ti38:=tyOkV (z:=(.agg #[wi,wi,wi,wn])) (by kernel_rfl) rfl (by kernel_rfl) (by kernel_rfl)
theorem tok39:TyOk E.P 39 ti39:=tyOkV (z:=(.agg #[wi,wi,wi,wn])) (by kernel_rfl) rfl (by kernel_rfl) (by kernel_rfl)
theorem tok40:TyOk E.P 40 ti40:=tyOkV (z:=(.agg #[wi,wi,wi,wi,wi,wi,wi,wi,wz,wz,wz,wi,wi,wn,wi,wi,wi,wi,wi,wi,wi,wi,wi,wi,wi,wi,wi,wi,wi,wi,wi,wi,wi,wi,wi,wi,wi,wi,wi,wi,wi,wi,wi,wi,wi,wi,wi,wi,wi,wi,wi,wi,wn,wi,wi,wi])) (by kernel_rfl) rfl (by kernel_rfl) (by kernel_rfl)
theorem tok41:TyOk E.P 41 ti41:=tyOkV (z:=(.agg #[wi,wi,wi,wi,wi,wi,wi,wi,wz,wz,wz,wi,wi,wn,wi,wi,wi,wi,wi,wi,wi,wi,wi,wi,wi,wi,wi,wi,wi,wi,wi,wi,wi,wi,wi,wi,wi,wi,wi,wi,wi,wi,wi,wi,wi,wi,wi,wi,wi,wi,wi,wi,wn,wi,wi,wi])) (by kernel_rfl) rfl (by kernel_rfl) (by kernel_rfl)
theorem tok42:TyOk E.P 42 ti42:=tyOkV (z:=(.agg #[wi,wi,wi,wi,wi,wi,wi,wi,wn,wi,wi,wi,wi,wi,wi,wi,wi,wz,wz,wz,wi,wi,wn,wi,wi,wi,wi,wi,wi,wi,wi,wi,wi,wi,wi,wi,wi,wi,wi,wi,wi,wi,wi,wi,wi,wi,wi,wi,wi,wi,wi,wi,wi,wi,wi,wi,wi,wi,wi,wi,wi,wn,wi,wi,wi,wi,wi,wi,wi,wi,wi,wi,wi,wi,wi,wi,wn,wi,wi,wi,wi,wi,wi,wi,wi,wi,wi,wi,wi,wi,wi,wi,wi,wi,wi,wi,wi,wi,wi,wi,wi,wi,wi,wi,wi,wn])) (by kernel_rfl) rfl (by kernel_rfl) (by kernel_rfl)
theorem tok43:TyOk E.P 43 ti43:=tyOkV (z:=(.agg #[wi,wi,wi,wi,wi,wi,wi,wi,wn,wi,wi,wi,wi,wi,wi,wi,wi,wz,wz,wz,wi,wi,wn,wi,wi,wi,wi,wi,wi,wi,wi,wi,wi,wi,wi,wi,wi,wi,wi,wi,wi,wi,wi,wi,wi,wi,wi,wi,wi,wi,wi,wi,wi,wi,wi,wi,wi,wi,wi,wi,wi,wn,wi,wi,wi,wi,wi,wi,wi,wi,wi,wi,wi,wi,wi,wi,wn,wi,wi,wi,wi,wi,wi,wi,wi,wi,wi,wi,wi,wi,wi,wi,wi,wi,wi,wi,wi,wi,wi,wi,wi,wi,wi,wi,wi,wn])) (by kernel_rfl) rfl (by kernel_rfl) (by kernel_rfl)
theorem tok44:TyOk E.P 44 ti44:=tyOkV (z:=(.int .u16 0)) (by kernel_rfl) rfl (by kernel_rfl) (by kernel_rfl)
theorem tok45:TyOk E.P 45 ti45:=tyOkV (z:=(.pointer none)) (by kernel_rfl) rfl (by kernel_rfl) (by kernel_rfl)
theorem tok48:TyOk E.P 48 ti48:=tyOkV (z:=(.int .i64 0)) (by kernel_rfl) rfl (by kernel_rfl) (by kernel_rfl)
theorem tok59:TyOk E.P 59 ti59:=tyOkV (z:=(.slice none 0 0)) (by kernel_rfl) rfl (by kernel_rfl) (by kernel_rfl)
theorem tok60:TyOk E.P 60 ti60:=tyOkV (z:=(.slice none 0 0)) (by kernel_rfl) rfl (by kernel_rfl) (by kernel_rfl)
theorem tok64:TyOk E.P 64 ti64:=tyOkV (z:=(.agg #[wi,wi,wi,wi,wi,wn])) (by kernel_rfl) rfl (by kernel_rfl) (by kernel_rfl)
theorem tok65:TyOk E.P 65 ti65:=tyOkV (z:=(.agg #[wi,wi,wi,wi,wi,wn])) (by kernel_rfl) rfl (by kernel_rfl) (by kernel_rfl)
theorem tok69:TyOk E.P 69 ti69:=tyOkV (z:=(.slice none 0 0)) (by kernel_rfl) rfl (by kernel_rfl) (by kernel_rfl)
theorem tok70:TyOk E.P 70 ti70:=tyOkV (z:=(.slice none 0 0)) (by kernel_rfl) rfl (by kernel_rfl) (by kernel_rfl)
theorem tok71:TyOk E.P 71 ti71:=tyOkV (z:=(.agg #[wi,wn,wi,wi,(.int .u8 0),wn,wi])) (by kernel_rfl) rfl (by kernel_rfl) (by kernel_rfl)
theorem tok72:TyOk E.P 72 ti72:=tyOkV (z:=(.agg #[wi,wn,wi,wi,(.int .u8 0),wn,wi])) (by kernel_rfl) rfl (by kernel_rfl) (by kernel_rfl)
theorem tok75:TyOk E.P 75 ti75:=tyOkV (z:=(.slice none 0 0)) (by kernel_rfl) rfl (by kernel_rfl) (by kernel_rfl)
theorem tok76:TyOk E.P 76 ti76:=tyOkV (z:=(.agg #[wn,wi])) (by kernel_rfl) rfl (by kernel_rfl) (by kernel_rfl)
theorem tok77:TyOk E.P 77 ti77:=tyOkV (z:=(.agg #[wn,wi])) (by kernel_rfl) rfl (by kernel_rfl) (by kernel_rfl)
theorem tok79:TyOk E.P 79 ti79:=tyOkV (z:=(.agg #[wn,wi])) (by kernel_rfl) rfl (by kernel_rfl) (by kernel_rfl)
theorem tok80:TyOk E.P 80 ti80:=tyOkV (z:=(.agg #[wn,wi])) (by kernel_rfl) rfl (by kernel_rfl) (by kernel_rfl)
theorem tok81:TyOk E.P 81 ti81:=tyOkV (z:=(.agg #[wn,wi,(.bool false)])) (by kernel_rfl) rfl (by kernel_rfl) (by kernel_rfl)
theorem tok82:TyOk E.P 82 ti82:=tyOkV (z:=(.agg #[wn,wi,(.bool false)])) (by kernel_rfl) rfl (by kernel_rfl) (by kernel_rfl)
theorem tok112:TyOk E.P 112 ti112:=tyOkV (z:=(.pointer none)) (by kernel_rfl) rfl (by kernel_rfl) (by kernel_rfl)
theorem tok115:TyOk E.P 115 ti115:=tyOkV (z:=(.agg #[(.pointer none),wi])) (by kernel_rfl) rfl (by kernel_rfl) (by kernel_rfl)
theorem tok138:TyOk E.P 138 ti138:=tyOkV (z:=(.int .u32 0)) (by kernel_rfl) rfl (by kernel_rfl) (by kernel_rfl)
theorem tok140:TyOk E.P 140 ti140:=tyOkV (z:=(.int .u64 0)) (by kernel_rfl) rfl (by kernel_rfl) (by kernel_rfl)
theorem tok146:TyOk E.P 146 ti146:=tyOkV (z:=(.pointer none)) (by kernel_rfl) rfl (by kernel_rfl) (by kernel_rfl)
theorem tok149:TyOk E.P 149 ti149:=tyOkV (z:=(.agg #[(.pointer none),wi])) (by kernel_rfl) rfl (by kernel_rfl) (by kernel_rfl)
theorem tok154:TyOk E.P 154 ti154:=tyOkV (z:=(.agg #[wi,wi,wi,wi,wi,wi,wi,wi,wi,wi,wi,wz,wz,wz,wi,wi,wn,wi,wi,wi,wi,wi,wi,wi,wi,wi,wi,wi,wi,wi,wi,wi,wi,wi,wi,wi,wi,wi,wi,wi,wi,wi,wi,wi,wi,wi,wi,wi,wi,wi,wi,wi,wi,wi,wi,wn,wi,wi,wi])) (by kernel_rfl) rfl (by kernel_rfl) (by kernel_rfl)
theorem tok155:TyOk E.P 155 ti155:=tyOkV (z:=(.agg #[wi,wi,wi,wi,wi,wi,wi,wi,wi,wi,wi,wz,wz,wz,wi,wi,wn,wi,wi,wi,wi,wi,wi,wi,wi,wi,wi,wi,wi,wi,wi,wi,wi,wi,wi,wi,wi,wi,wi,wi,wi,wi,wi,wi,wi,wi,wi,wi,wi,wi,wi,wi,wi,wi,wi,wn,wi,wi,wi])) (by kernel_rfl) rfl (by kernel_rfl) (by kernel_rfl)
theorem tok165:TyOk E.P 165 ti165:=tyOkV (z:=(.agg #[(.bool false),wn])) (by kernel_rfl) rfl (by kernel_rfl) (by kernel_rfl)
theorem tok166:TyOk E.P 166 ti166:=tyOkV (z:=(.agg #[(.bool false),wn])) (by kernel_rfl) rfl (by kernel_rfl) (by kernel_rfl)
theorem tok186:TyOk E.P 186 ti186:=tyOkV (z:=(.agg #[(.bool false),wn])) (by kernel_rfl) rfl (by kernel_rfl) (by kernel_rfl)
theorem tok188:TyOk E.P 188 ti188:=tyOkV (z:=(.pointer none)) (by kernel_rfl) rfl (by kernel_rfl) (by kernel_rfl)
theorem tok192:TyOk E.P 192 ti192:=tyOkV (z:=(.agg #[wn,wi,wi])) (by kernel_rfl) rfl (by kernel_rfl) (by kernel_rfl)
theorem tok193:TyOk E.P 193 ti193:=tyOkV (z:=(.agg #[wn,wi,wi])) (by kernel_rfl) rfl (by kernel_rfl) (by kernel_rfl)
theorem tok194:TyOk E.P 194 ti194:=tyOkV (z:=(.slice none 0 0)) (by kernel_rfl) rfl (by kernel_rfl) (by kernel_rfl)
theorem tok201:TyOk E.P 201 ti201:=tyOkV (z:=(.slice none 0 0)) (by kernel_rfl) rfl (by kernel_rfl) (by kernel_rfl)
theorem tok203:TyOk E.P 203 ti203:=tyOkV (z:=(.int .u64 0)) (by kernel_rfl) rfl (by kernel_rfl) (by kernel_rfl)
theorem tok206:TyOk E.P 206 ti206:=tyOkV (z:=(.slice none 0 0)) (by kernel_rfl) rfl (by kernel_rfl) (by kernel_rfl)
theorem tok209:TyOk E.P 209 ti209:=tyOkV (z:=(.pointer none)) (by kernel_rfl) rfl (by kernel_rfl) (by kernel_rfl)
theorem tok226:TyOk E.P 226 ti226:=tyOkV (z:=(.slice none 0 0)) (by kernel_rfl) rfl (by kernel_rfl) (by kernel_rfl)
theorem tok229:TyOk E.P 229 ti229:=tyOkV (z:=(.slice none 0 0)) (by kernel_rfl) rfl (by kernel_rfl) (by kernel_rfl)
theorem eOk:E.Ok:=by
  intro t i h
  have h':tyT t=some i:=h
  unfold tyT at h'
  split at h'<;>first
    | (cases h'; first | exact tok2 | exact tok3 | exact tok4 | exact tok5 | exact tok9 | exact tok12 | exact tok21 | exact tok22 | exact tok23 | exact tok24 | exact tok25 | exact tok26 | exact tok27 | exact tok28 | exact tok29 | exact tok30 | exact tok31 | exact tok32 | exact tok33 | exact tok34 | exact tok35 | exact tok36 | exact tok37 | exact tok38 | exact tok39 | exact tok40 | exact tok41 | exact tok42 | exact tok43 | exact tok44 | exact tok45 | exact tok48 | exact tok59 | exact tok60 | exact tok64 | exact tok65 | exact tok69 | exact tok70 | exact tok71 | exact tok72 | exact tok75 | exact tok76 | exact tok77 | exact tok79 | exact tok80 | exact tok81 | exact tok82 | exact tok112 | exact tok115 | exact tok138 | exact tok140 | exact tok146 | exact tok149 | exact tok154 | exact tok155 | exact tok165 | exact tok166 | exact tok186 | exact tok188 | exact tok192 | exact tok193 | exact tok194 | exact tok201 | exact tok203 | exact tok206 | exact tok209 | exact tok226 | exact tok229)
    | cases h'
theorem eEq:E.EqOk:=by
  intro t ks h
  have h':eqT t=some ks:=h
  unfold eqT at h'
  split at h'<;>first
    | (cases h'; exact ⟨by kernel_rfl,by kernel_rfl,by kernel_rfl⟩)
    | cases h'
theorem eGood:Go.Ev.Good E:=⟨eOk,eEq,by kernel_rfl⟩
structure GAddr where
  Group:Int
  Replica:Int
instance:Inhabited GAddr:=⟨⟨default,default⟩⟩
structure zu where
  Round:Int
  Replica:Int
instance:Inhabited zu:=⟨⟨default,default⟩⟩
structure z1a where
  Time:Int
  Site:Int
instance:Inhabited z1a:=⟨⟨default,default⟩⟩
structure GOp where
  Stamp:z1a
  Kind:Int
  Node:Int
  Parent:Int
  Name:List UInt8
  Key:List UInt8
  Value:List UInt8
instance:Inhabited GOp:=⟨⟨default,default,default,default,default,default,default⟩⟩
structure za where
  Number:Int
  States:Vector (Int) 8
  Seals:Vector (Int) 8
  Sponsor:Vector (Int) 8
instance:Inhabited za:=⟨⟨default,default,default,default⟩⟩
structure GPart where
  Snap:Int
  Index:Int
  Many:Int
  Data:List (Int)
instance:Inhabited GPart:=⟨⟨default,default,default,default⟩⟩
structure z9 where
  Kind:Int
  Session:Int
  Request:Int
  Op:GOp
  Origin:Int
  Seq:Int
  Ops:List (GOp)
  Epoch:za
  From:Int
  Vector_:Vector (Int) 8
  Clock:Int
  Part:GPart
  Site:Int
  Sponsor:Int
  Length:Int
instance:Inhabited z9:=⟨⟨default,default,default,default,default,default,default,default,default,default,default,default,default,default,default⟩⟩
structure zc where
  Slot:Int
  Ballot:zu
  Entry:z9
instance:Inhabited zc:=⟨⟨default,default,default⟩⟩
structure GMsg where
  Kind:Int
  From:GAddr
  To:GAddr
  Ballot:zu
  Slot:Int
  List_:List (zc)
  Entry:z9
  Number:Int
  Vector_:Vector (Int) 8
  Clock:Int
  Origin:Int
  Ops:List (GOp)
  Epoch:za
  Part:GPart
instance:Inhabited GMsg:=⟨⟨default,default,default,default,default,default,default,default,default,default,default,default,default,default⟩⟩
structure GSent where
  Number:Int
  From:GAddr
  To:GAddr
  Data:List (Int)
instance:Inhabited GSent:=⟨⟨default,default,default,default⟩⟩
structure z1e where
  Kind:Int
  Msgs:List (GMsg)
  Number:Int
  Place:Int
  With:Int
  Addrs:List (GAddr)
  Stop:Int
instance:Inhabited z1e:=⟨⟨default,default,default,default,default,default,default⟩⟩
structure z1y where
  L:List (GSent)
  Last:Int
instance:Inhabited z1y:=⟨⟨default,default⟩⟩
structure z5t where
  wait:List (GSent)
  last:Int
instance:Inhabited z5t:=⟨⟨default,default⟩⟩
structure zbn where
  queue:z5t
  made:Bool
instance:Inhabited zbn:=⟨⟨default,default⟩⟩
structure z4 where
  made:Bool
  b:List (Int)
instance:Inhabited z4:=⟨⟨default,default⟩⟩
structure z1g where
  B:List (Int)
  At:Int
  E:Int
instance:Inhabited z1g:=⟨⟨default,default,default⟩⟩
@[reducible] def τ : Nat → Type
  | 2=>Int
  | 3=>Int
  | 4=>Bool
  | 5=>Int
  | 9=>List UInt8
  | 12=>Int
  | 21=>Int
  | 22=>GAddr
  | 23=>GAddr
  | 24=>zu
  | 25=>zu
  | 26=>List (zc)
  | 27=>z1a
  | 28=>z1a
  | 29=>GOp
  | 30=>GOp
  | 31=>List (GOp)
  | 32=>Vector (Int) 8
  | 33=>Vector (Int) 8
  | 34=>Vector (Int) 8
  | 35=>za
  | 36=>za
  | 37=>List (Int)
  | 38=>GPart
  | 39=>GPart
  | 40=>z9
  | 41=>z9
  | 42=>GMsg
  | 43=>GMsg
  | 44=>Int
  | 48=>Int
  | 59=>List (GMsg)
  | 60=>List (Int)
  | 64=>GSent
  | 65=>GSent
  | 69=>List (z1e)
  | 70=>List (GAddr)
  | 71=>z1e
  | 72=>z1e
  | 75=>List (GSent)
  | 76=>z1y
  | 77=>z1y
  | 79=>z5t
  | 80=>z5t
  | 81=>zbn
  | 82=>zbn
  | 138=>Int
  | 140=>Int
  | 154=>zc
  | 155=>zc
  | 165=>z4
  | 166=>z4
  | 186=>z4
  | 192=>z1g
  | 193=>z1g
  | 194=>List (Int)
  | 201=>List (List (Int))
  | 203=>Int
  | 229=>List (List UInt8)
  | _=>Unit
def cel2 (x:Int):List AV:=[.v (.int .i64 x)]
def enc2 (x:Int):TV τ:=.int .i64 x
def dec2 (x:TV τ):Option (Int):=dInt .i64 x
def beq2 (x y:Int):Bool:=(x==y)
def cel3 (x:Int):List AV:=[.v (.int .i64 x)]
def enc3 (x:Int):TV τ:=.int .i64 x
def dec3 (x:TV τ):Option (Int):=dInt .i64 x
def beq3 (x y:Int):Bool:=(x==y)
def cel4 (x:Bool):List AV:=[.v (.bool x)]
def enc4 (x:Bool):TV τ:=.bool x
def dec4 (x:TV τ):Option (Bool):=dBool x
def beq4 (x y:Bool):Bool:=(x==y)
def cel5 (x:Int):List AV:=[.v (.int .u8 x)]
def enc5 (x:Int):TV τ:=.int .u8 x
def dec5 (x:TV τ):Option (Int):=dInt .u8 x
def beq5 (x y:Int):Bool:=(x==y)
def cel9 (x:List UInt8):List AV:=[.v (.string ⟨⟨x⟩⟩)]
def enc9 (x:List UInt8):TV τ:=.str x
def dec9 (x:TV τ):Option (List UInt8):=dStr x
def beq9 (x y:List UInt8):Bool:=(x==y)
def cel12 (x:Int):List AV:=[.v (.int .u64 x)]
def enc12 (x:Int):TV τ:=.int .u64 x
def dec12 (x:TV τ):Option (Int):=dInt .u64 x
def beq12 (x y:Int):Bool:=(x==y)
def cel21 (x:Int):List AV:=[.v (.int .i32 x)]
def enc21 (x:Int):TV τ:=.int .i32 x
def dec21 (x:TV τ):Option (Int):=dInt .i32 x
def beq21 (x y:Int):Bool:=(x==y)
def cel22 (x:GAddr):List AV:=(cel3 x.Group++(cel3 x.Replica++[]))
def enc22 (x:GAddr):TV τ:=.agg [enc3 x.Group,enc3 x.Replica]
def dec22 (x:TV τ):Option (GAddr):=(match x with | .agg [x0,x1]=>(match dec3 x0 with | some a0=>(match dec3 x1 with | some a1=>some ⟨a0,a1⟩ | none=>none) | none=>none) | _=>none)
def beq22 (x y:GAddr):Bool:=(beq3 x.Group y.Group&&(beq3 x.Replica y.Replica&&true))
def cel23 (x:GAddr):List AV:=cel22 x
def enc23 (x:GAddr):TV τ:=enc22 x
def dec23 (x:TV τ):Option (GAddr):=dec22 x
def beq23 (x y:GAddr):Bool:=beq22 x y
def cel24 (x:zu):List AV:=(cel2 x.Round++(cel3 x.Replica++[]))
def enc24 (x:zu):TV τ:=.agg [enc2 x.Round,enc3 x.Replica]
def dec24 (x:TV τ):Option (zu):=(match x with | .agg [x0,x1]=>(match dec2 x0 with | some a0=>(match dec3 x1 with | some a1=>some ⟨a0,a1⟩ | none=>none) | none=>none) | _=>none)
def beq24 (x y:zu):Bool:=(beq2 x.Round y.Round&&(beq3 x.Replica y.Replica&&true))
def cel25 (x:zu):List AV:=cel24 x
def enc25 (x:zu):TV τ:=enc24 x
def dec25 (x:TV τ):Option (zu):=dec24 x
def beq25 (x y:zu):Bool:=beq24 x y
def cel28 (x:z1a):List AV:=(cel2 x.Time++(cel3 x.Site++[]))
def enc28 (x:z1a):TV τ:=.agg [enc2 x.Time,enc3 x.Site]
def dec28 (x:TV τ):Option (z1a):=(match x with | .agg [x0,x1]=>(match dec2 x0 with | some a0=>(match dec3 x1 with | some a1=>some ⟨a0,a1⟩ | none=>none) | none=>none) | _=>none)
def beq28 (x y:z1a):Bool:=(beq2 x.Time y.Time&&(beq3 x.Site y.Site&&true))
def cel30 (x:GOp):List AV:=(cel28 x.Stamp++(cel3 x.Kind++(cel2 x.Node++(cel2 x.Parent++(cel9 x.Name++(cel9 x.Key++(cel9 x.Value++[])))))))
def enc30 (x:GOp):TV τ:=.agg [enc28 x.Stamp,enc3 x.Kind,enc2 x.Node,enc2 x.Parent,enc9 x.Name,enc9 x.Key,enc9 x.Value]
def dec30 (x:TV τ):Option (GOp):=(match x with | .agg [x0,x1,x2,x3,x4,x5,x6]=>(match dec28 x0 with | some a0=>(match dec3 x1 with | some a1=>(match dec2 x2 with | some a2=>(match dec2 x3 with | some a3=>(match dec9 x4 with | some a4=>(match dec9 x5 with | some a5=>(match dec9 x6 with | some a6=>some ⟨a0,a1,a2,a3,a4,a5,a6⟩ | none=>none) | none=>none) | none=>none) | none=>none) | none=>none) | none=>none) | none=>none) | _=>none)
def beq30 (x y:GOp):Bool:=(beq28 x.Stamp y.Stamp&&(beq3 x.Kind y.Kind&&(beq2 x.Node y.Node&&(beq2 x.Parent y.Parent&&(beq9 x.Name y.Name&&(beq9 x.Key y.Key&&(beq9 x.Value y.Value&&true)))))))
def cel31 (x:List (GOp)):List AV:=[.asl 8 (x.map cel30)]
def enc31 (x:List (GOp)):TV τ:=.sl 30 x .any
def dec31 (x:TV τ):Option (List (GOp)):=dSl 30 x
def cel32 (x:Vector (Int) 8):List AV:=x.toList.flatMap cel3
def enc32 (x:Vector (Int) 8):TV τ:=.arr 3 8 x
def dec32 (x:TV τ):Option (Vector (Int) 8):=dArr 3 8 x
def beq32 (x y:Vector (Int) 8):Bool:=vbeq beq3 x y
def cel34 (x:Vector (Int) 8):List AV:=x.toList.flatMap cel2
def enc34 (x:Vector (Int) 8):TV τ:=.arr 2 8 x
def dec34 (x:TV τ):Option (Vector (Int) 8):=dArr 2 8 x
def beq34 (x y:Vector (Int) 8):Bool:=vbeq beq2 x y
def cel36 (x:za):List AV:=(cel2 x.Number++(cel32 x.States++(cel34 x.Seals++(cel32 x.Sponsor++[]))))
def enc36 (x:za):TV τ:=.agg [enc2 x.Number,enc32 x.States,enc34 x.Seals,enc32 x.Sponsor]
def dec36 (x:TV τ):Option (za):=(match x with | .agg [x0,x1,x2,x3]=>(match dec2 x0 with | some a0=>(match dec32 x1 with | some a1=>(match dec34 x2 with | some a2=>(match dec32 x3 with | some a3=>some ⟨a0,a1,a2,a3⟩ | none=>none) | none=>none) | none=>none) | none=>none) | _=>none)
def beq36 (x y:za):Bool:=(beq2 x.Number y.Number&&(beq32 x.States y.States&&(beq34 x.Seals y.Seals&&(beq32 x.Sponsor y.Sponsor&&true))))
def cel37 (x:List (Int)):List AV:=[.asl 1 (x.map cel5)]
def enc37 (x:List (Int)):TV τ:=.sl 5 x .any
def dec37 (x:TV τ):Option (List (Int)):=dSl 5 x
def cel39 (x:GPart):List AV:=(cel2 x.Snap++(cel3 x.Index++(cel3 x.Many++(cel37 x.Data++[]))))
def enc39 (x:GPart):TV τ:=.agg [enc2 x.Snap,enc3 x.Index,enc3 x.Many,enc37 x.Data]
def dec39 (x:TV τ):Option (GPart):=(match x with | .agg [x0,x1,x2,x3]=>(match dec2 x0 with | some a0=>(match dec3 x1 with | some a1=>(match dec3 x2 with | some a2=>(match dec37 x3 with | some a3=>some ⟨a0,a1,a2,a3⟩ | none=>none) | none=>none) | none=>none) | none=>none) | _=>none)
def cel41 (x:z9):List AV:=(cel3 x.Kind++(cel2 x.Session++(cel2 x.Request++(cel30 x.Op++(cel3 x.Origin++(cel2 x.Seq++(cel31 x.Ops++(cel36 x.Epoch++(cel3 x.From++(cel34 x.Vector_++(cel2 x.Clock++(cel39 x.Part++(cel3 x.Site++(cel3 x.Sponsor++(cel2 x.Length++[])))))))))))))))
def enc41 (x:z9):TV τ:=.agg [enc3 x.Kind,enc2 x.Session,enc2 x.Request,enc30 x.Op,enc3 x.Origin,enc2 x.Seq,enc31 x.Ops,enc36 x.Epoch,enc3 x.From,enc34 x.Vector_,enc2 x.Clock,enc39 x.Part,enc3 x.Site,enc3 x.Sponsor,enc2 x.Length]
def dec41 (x:TV τ):Option (z9):=(match x with | .agg [x0,x1,x2,x3,x4,x5,x6,x7,x8,x9,x10,x11,x12,x13,x14]=>(match dec3 x0 with | some a0=>(match dec2 x1 with | some a1=>(match dec2 x2 with | some a2=>(match dec30 x3 with | some a3=>(match dec3 x4 with | some a4=>(match dec2 x5 with | some a5=>(match dec31 x6 with | some a6=>(match dec36 x7 with | some a7=>(match dec3 x8 with | some a8=>(match dec34 x9 with | some a9=>(match dec2 x10 with | some a10=>(match dec39 x11 with | some a11=>(match dec3 x12 with | some a12=>(match dec3 x13 with | some a13=>(match dec2 x14 with | some a14=>some ⟨a0,a1,a2,a3,a4,a5,a6,a7,a8,a9,a10,a11,a12,a13,a14⟩ | none=>none) | none=>none) | none=>none) | none=>none) | none=>none) | none=>none) | none=>none) | none=>none) | none=>none) | none=>none) | none=>none) | none=>none) | none=>none) | none=>none) | none=>none) | _=>none)
def cel155 (x:zc):List AV:=(cel2 x.Slot++(cel25 x.Ballot++(cel41 x.Entry++[])))
def enc155 (x:zc):TV τ:=.agg [enc2 x.Slot,enc25 x.Ballot,enc41 x.Entry]
def dec155 (x:TV τ):Option (zc):=(match x with | .agg [x0,x1,x2]=>(match dec2 x0 with | some a0=>(match dec25 x1 with | some a1=>(match dec41 x2 with | some a2=>some ⟨a0,a1,a2⟩ | none=>none) | none=>none) | none=>none) | _=>none)
def cel26 (x:List (zc)):List AV:=[.asl 59 (x.map cel155)]
def enc26 (x:List (zc)):TV τ:=.sl 155 x .any
def dec26 (x:TV τ):Option (List (zc)):=dSl 155 x
def cel27 (x:z1a):List AV:=cel28 x
def enc27 (x:z1a):TV τ:=enc28 x
def dec27 (x:TV τ):Option (z1a):=dec28 x
def beq27 (x y:z1a):Bool:=beq28 x y
def cel29 (x:GOp):List AV:=cel30 x
def enc29 (x:GOp):TV τ:=enc30 x
def dec29 (x:TV τ):Option (GOp):=dec30 x
def beq29 (x y:GOp):Bool:=beq30 x y
def cel33 (x:Vector (Int) 8):List AV:=x.toList.flatMap cel2
def enc33 (x:Vector (Int) 8):TV τ:=.arr 2 8 x
def dec33 (x:TV τ):Option (Vector (Int) 8):=dArr 2 8 x
def beq33 (x y:Vector (Int) 8):Bool:=vbeq beq2 x y
def cel35 (x:za):List AV:=cel36 x
def enc35 (x:za):TV τ:=enc36 x
def dec35 (x:TV τ):Option (za):=dec36 x
def beq35 (x y:za):Bool:=beq36 x y
def cel38 (x:GPart):List AV:=cel39 x
def enc38 (x:GPart):TV τ:=enc39 x
def dec38 (x:TV τ):Option (GPart):=dec39 x
def cel40 (x:z9):List AV:=cel41 x
def enc40 (x:z9):TV τ:=enc41 x
def dec40 (x:TV τ):Option (z9):=dec41 x
def cel42 (x:GMsg):List AV:=(cel3 x.Kind++(cel23 x.From++(cel23 x.To++(cel25 x.Ballot++(cel2 x.Slot++(cel26 x.List_++(cel41 x.Entry++(cel2 x.Number++(cel34 x.Vector_++(cel2 x.Clock++(cel3 x.Origin++(cel31 x.Ops++(cel36 x.Epoch++(cel39 x.Part++[]))))))))))))))
def enc42 (x:GMsg):TV τ:=.agg [enc3 x.Kind,enc23 x.From,enc23 x.To,enc25 x.Ballot,enc2 x.Slot,enc26 x.List_,enc41 x.Entry,enc2 x.Number,enc34 x.Vector_,enc2 x.Clock,enc3 x.Origin,enc31 x.Ops,enc36 x.Epoch,enc39 x.Part]
def dec42 (x:TV τ):Option (GMsg):=(match x with | .agg [x0,x1,x2,x3,x4,x5,x6,x7,x8,x9,x10,x11,x12,x13]=>(match dec3 x0 with | some a0=>(match dec23 x1 with | some a1=>(match dec23 x2 with | some a2=>(match dec25 x3 with | some a3=>(match dec2 x4 with | some a4=>(match dec26 x5 with | some a5=>(match dec41 x6 with | some a6=>(match dec2 x7 with | some a7=>(match dec34 x8 with | some a8=>(match dec2 x9 with | some a9=>(match dec3 x10 with | some a10=>(match dec31 x11 with | some a11=>(match dec36 x12 with | some a12=>(match dec39 x13 with | some a13=>some ⟨a0,a1,a2,a3,a4,a5,a6,a7,a8,a9,a10,a11,a12,a13⟩ | none=>none) | none=>none) | none=>none) | none=>none) | none=>none) | none=>none) | none=>none) | none=>none) | none=>none) | none=>none) | none=>none) | none=>none) | none=>none) | none=>none) | _=>none)
def cel43 (x:GMsg):List AV:=cel42 x
def enc43 (x:GMsg):TV τ:=enc42 x
def dec43 (x:TV τ):Option (GMsg):=dec42 x
def cel44 (x:Int):List AV:=[.v (.int .u16 x)]
def enc44 (x:Int):TV τ:=.int .u16 x
def dec44 (x:TV τ):Option (Int):=dInt .u16 x
def beq44 (x y:Int):Bool:=(x==y)
def cel48 (x:Int):List AV:=[.v (.int .i64 x)]
def enc48 (x:Int):TV τ:=.int .i64 x
def dec48 (x:TV τ):Option (Int):=dInt .i64 x
def beq48 (x y:Int):Bool:=(x==y)
def cel59 (x:List (GMsg)):List AV:=[.asl 106 (x.map cel43)]
def enc59 (x:List (GMsg)):TV τ:=.sl 43 x .any
def dec59 (x:TV τ):Option (List (GMsg)):=dSl 43 x
def cel60 (x:List (Int)):List AV:=[.asl 1 (x.map cel2)]
def enc60 (x:List (Int)):TV τ:=.sl 2 x .any
def dec60 (x:TV τ):Option (List (Int)):=dSl 2 x
def cel64 (x:GSent):List AV:=(cel2 x.Number++(cel23 x.From++(cel23 x.To++(cel37 x.Data++[]))))
def enc64 (x:GSent):TV τ:=.agg [enc2 x.Number,enc23 x.From,enc23 x.To,enc37 x.Data]
def dec64 (x:TV τ):Option (GSent):=(match x with | .agg [x0,x1,x2,x3]=>(match dec2 x0 with | some a0=>(match dec23 x1 with | some a1=>(match dec23 x2 with | some a2=>(match dec37 x3 with | some a3=>some ⟨a0,a1,a2,a3⟩ | none=>none) | none=>none) | none=>none) | none=>none) | _=>none)
def cel65 (x:GSent):List AV:=cel64 x
def enc65 (x:GSent):TV τ:=enc64 x
def dec65 (x:TV τ):Option (GSent):=dec64 x
def cel70 (x:List (GAddr)):List AV:=[.asl 2 (x.map cel23)]
def enc70 (x:List (GAddr)):TV τ:=.sl 23 x .any
def dec70 (x:TV τ):Option (List (GAddr)):=dSl 23 x
def cel72 (x:z1e):List AV:=(cel3 x.Kind++(cel59 x.Msgs++(cel2 x.Number++(cel3 x.Place++(cel5 x.With++(cel70 x.Addrs++(cel3 x.Stop++[])))))))
def enc72 (x:z1e):TV τ:=.agg [enc3 x.Kind,enc59 x.Msgs,enc2 x.Number,enc3 x.Place,enc5 x.With,enc70 x.Addrs,enc3 x.Stop]
def dec72 (x:TV τ):Option (z1e):=(match x with | .agg [x0,x1,x2,x3,x4,x5,x6]=>(match dec3 x0 with | some a0=>(match dec59 x1 with | some a1=>(match dec2 x2 with | some a2=>(match dec3 x3 with | some a3=>(match dec5 x4 with | some a4=>(match dec70 x5 with | some a5=>(match dec3 x6 with | some a6=>some ⟨a0,a1,a2,a3,a4,a5,a6⟩ | none=>none) | none=>none) | none=>none) | none=>none) | none=>none) | none=>none) | none=>none) | _=>none)
def cel69 (x:List (z1e)):List AV:=[.asl 7 (x.map cel72)]
def enc69 (x:List (z1e)):TV τ:=.sl 72 x .any
def dec69 (x:TV τ):Option (List (z1e)):=dSl 72 x
def cel71 (x:z1e):List AV:=cel72 x
def enc71 (x:z1e):TV τ:=enc72 x
def dec71 (x:TV τ):Option (z1e):=dec72 x
def cel75 (x:List (GSent)):List AV:=[.asl 6 (x.map cel65)]
def enc75 (x:List (GSent)):TV τ:=.sl 65 x .any
def dec75 (x:TV τ):Option (List (GSent)):=dSl 65 x
def cel76 (x:z1y):List AV:=(cel75 x.L++(cel2 x.Last++[]))
def enc76 (x:z1y):TV τ:=.agg [enc75 x.L,enc2 x.Last]
def dec76 (x:TV τ):Option (z1y):=(match x with | .agg [x0,x1]=>(match dec75 x0 with | some a0=>(match dec2 x1 with | some a1=>some ⟨a0,a1⟩ | none=>none) | none=>none) | _=>none)
def cel77 (x:z1y):List AV:=cel76 x
def enc77 (x:z1y):TV τ:=enc76 x
def dec77 (x:TV τ):Option (z1y):=dec76 x
def cel79 (x:z5t):List AV:=(cel75 x.wait++(cel2 x.last++[]))
def enc79 (x:z5t):TV τ:=.agg [enc75 x.wait,enc2 x.last]
def dec79 (x:TV τ):Option (z5t):=(match x with | .agg [x0,x1]=>(match dec75 x0 with | some a0=>(match dec2 x1 with | some a1=>some ⟨a0,a1⟩ | none=>none) | none=>none) | _=>none)
def cel80 (x:z5t):List AV:=cel79 x
def enc80 (x:z5t):TV τ:=enc79 x
def dec80 (x:TV τ):Option (z5t):=dec79 x
def cel81 (x:zbn):List AV:=(cel80 x.queue++(cel4 x.made++[]))
def enc81 (x:zbn):TV τ:=.agg [enc80 x.queue,enc4 x.made]
def dec81 (x:TV τ):Option (zbn):=(match x with | .agg [x0,x1]=>(match dec80 x0 with | some a0=>(match dec4 x1 with | some a1=>some ⟨a0,a1⟩ | none=>none) | none=>none) | _=>none)
def cel82 (x:zbn):List AV:=cel81 x
def enc82 (x:zbn):TV τ:=enc81 x
def dec82 (x:TV τ):Option (zbn):=dec81 x
def cel138 (x:Int):List AV:=[.v (.int .u32 x)]
def enc138 (x:Int):TV τ:=.int .u32 x
def dec138 (x:TV τ):Option (Int):=dInt .u32 x
def beq138 (x y:Int):Bool:=(x==y)
def cel140 (x:Int):List AV:=[.v (.int .u64 x)]
def enc140 (x:Int):TV τ:=.int .u64 x
def dec140 (x:TV τ):Option (Int):=dInt .u64 x
def beq140 (x y:Int):Bool:=(x==y)
def cel154 (x:zc):List AV:=cel155 x
def enc154 (x:zc):TV τ:=enc155 x
def dec154 (x:TV τ):Option (zc):=dec155 x
def cel165 (x:z4):List AV:=(cel4 x.made++(cel37 x.b++[]))
def enc165 (x:z4):TV τ:=.agg [enc4 x.made,enc37 x.b]
def z10j (x:TV τ):Option (z4):=(match x with | .agg [x0,x1]=>(match dec4 x0 with | some a0=>(match dec37 x1 with | some a1=>some ⟨a0,a1⟩ | none=>none) | none=>none) | _=>none)
def cel166 (x:z4):List AV:=cel165 x
def enc166 (x:z4):TV τ:=enc165 x
def dec166 (x:TV τ):Option (z4):=z10j x
def cel186 (x:z4):List AV:=cel165 x
def enc186 (x:z4):TV τ:=enc165 x
def dec186 (x:TV τ):Option (z4):=z10j x
def cel192 (x:z1g):List AV:=(cel37 x.B++(cel3 x.At++(cel48 x.E++[])))
def enc192 (x:z1g):TV τ:=.agg [enc37 x.B,enc3 x.At,enc48 x.E]
def dec192 (x:TV τ):Option (z1g):=(match x with | .agg [x0,x1,x2]=>(match dec37 x0 with | some a0=>(match dec3 x1 with | some a1=>(match dec48 x2 with | some a2=>some ⟨a0,a1,a2⟩ | none=>none) | none=>none) | none=>none) | _=>none)
def cel193 (x:z1g):List AV:=cel192 x
def enc193 (x:z1g):TV τ:=enc192 x
def dec193 (x:TV τ):Option (z1g):=dec192 x
def cel194 (x:List (Int)):List AV:=[.asl 1 (x.map cel3)]
def enc194 (x:List (Int)):TV τ:=.sl 3 x .any
def dec194 (x:TV τ):Option (List (Int)):=dSl 3 x
def cel201 (x:List (List (Int))):List AV:=[.asl 1 (x.map cel37)]
def enc201 (x:List (List (Int))):TV τ:=.sl 37 x .any
def dec201 (x:TV τ):Option (List (List (Int))):=dSl 37 x
def cel203 (x:Int):List AV:=[.v (.int .u64 x)]
def enc203 (x:Int):TV τ:=.int .u64 x
def dec203 (x:TV τ):Option (Int):=dInt .u64 x
def beq203 (x y:Int):Bool:=(x==y)
def cel229 (x:List (List UInt8)):List AV:=[.asl 1 (x.map cel9)]
def enc229 (x:List (List UInt8)):TV τ:=.sl 9 x .any
def dec229 (x:TV τ):Option (List (List UInt8)):=dSl 9 x
def celT:(t:Nat)→τ t→List AV
  | 2=>cel2
  | 3=>cel3
  | 4=>cel4
  | 5=>cel5
  | 9=>cel9
  | 12=>cel12
  | 21=>cel21
  | 22=>cel22
  | 23=>cel23
  | 24=>cel24
  | 25=>cel25
  | 26=>cel26
  | 27=>cel27
  | 28=>cel28
  | 29=>cel29
  | 30=>cel30
  | 31=>cel31
  | 32=>cel32
  | 33=>cel33
  | 34=>cel34
  | 35=>cel35
  | 36=>cel36
  | 37=>cel37
  | 38=>cel38
  | 39=>cel39
  | 40=>cel40
  | 41=>cel41
  | 42=>cel42
  | 43=>cel43
  | 44=>cel44
  | 48=>cel48
  | 59=>cel59
  | 60=>cel60
  | 64=>cel64
  | 65=>cel65
  | 69=>cel69
  | 70=>cel70
  | 71=>cel71
  | 72=>cel72
  | 75=>cel75
  | 76=>cel76
  | 77=>cel77
  | 79=>cel79
  | 80=>cel80
  | 81=>cel81
  | 82=>cel82
  | 138=>cel138
  | 140=>cel140
  | 154=>cel154
  | 155=>cel155
  | 165=>cel165
  | 166=>cel166
  | 186=>cel186
  | 192=>cel192
  | 193=>cel193
  | 194=>cel194
  | 201=>cel201
  | 203=>cel203
  | 229=>cel229
  | _=>fun _=>[]
def encT:(t:Nat)→τ t→TV τ
  | 2=>enc2
  | 3=>enc3
  | 4=>enc4
  | 5=>enc5
  | 9=>enc9
  | 12=>enc12
  | 21=>enc21
  | 22=>enc22
  | 23=>enc23
  | 24=>enc24
  | 25=>enc25
  | 26=>enc26
  | 27=>enc27
  | 28=>enc28
  | 29=>enc29
  | 30=>enc30
  | 31=>enc31
  | 32=>enc32
  | 33=>enc33
  | 34=>enc34
  | 35=>enc35
  | 36=>enc36
  | 37=>enc37
  | 38=>enc38
  | 39=>enc39
  | 40=>enc40
  | 41=>enc41
  | 42=>enc42
  | 43=>enc43
  | 44=>enc44
  | 48=>enc48
  | 59=>enc59
  | 60=>enc60
  | 64=>enc64
  | 65=>enc65
  | 69=>enc69
  | 70=>enc70
  | 71=>enc71
  | 72=>enc72
  | 75=>enc75
  | 76=>enc76
  | 77=>enc77
  | 79=>enc79
  | 80=>enc80
  | 81=>enc81
  | 82=>enc82
  | 138=>enc138
  | 140=>enc140
  | 154=>enc154
  | 155=>enc155
  | 165=>enc165
  | 166=>enc166
  | 186=>enc186
  | 192=>enc192
  | 193=>enc193
  | 194=>enc194
  | 201=>enc201
  | 203=>enc203
  | 229=>enc229
  | _=>fun _=>.agg []
def decT:(t:Nat)→TV τ→Option (τ t)
  | 2=>dec2
  | 3=>dec3
  | 4=>dec4
  | 5=>dec5
  | 9=>dec9
  | 12=>dec12
  | 21=>dec21
  | 22=>dec22
  | 23=>dec23
  | 24=>dec24
  | 25=>dec25
  | 26=>dec26
  | 27=>dec27
  | 28=>dec28
  | 29=>dec29
  | 30=>dec30
  | 31=>dec31
  | 32=>dec32
  | 33=>dec33
  | 34=>dec34
  | 35=>dec35
  | 36=>dec36
  | 37=>dec37
  | 38=>dec38
  | 39=>dec39
  | 40=>dec40
  | 41=>dec41
  | 42=>dec42
  | 43=>dec43
  | 44=>dec44
  | 48=>dec48
  | 59=>dec59
  | 60=>dec60
  | 64=>dec64
  | 65=>dec65
  | 69=>dec69
  | 70=>dec70
  | 71=>dec71
  | 72=>dec72
  | 75=>dec75
  | 76=>dec76
  | 77=>dec77
  | 79=>dec79
  | 80=>dec80
  | 81=>dec81
  | 82=>dec82
  | 138=>dec138
  | 140=>dec140
  | 154=>dec154
  | 155=>dec155
  | 165=>z10j
  | 166=>dec166
  | 186=>dec186
  | 192=>dec192
  | 193=>dec193
  | 194=>dec194
  | 201=>dec201
  | 203=>dec203
  | 229=>dec229
  | _=>fun _=>none
theorem dfN (t:Nat):Nonempty (τ t):=by unfold τ; split<;>exact ⟨default⟩
noncomputable def dfX (t:Nat):τ t:=Classical.choice (dfN t)
noncomputable def dfT:(t:Nat)→τ t
  | 2=>(default:Int)
  | 3=>(default:Int)
  | 4=>(default:Bool)
  | 5=>(default:Int)
  | 9=>(default:List UInt8)
  | 12=>(default:Int)
  | 21=>(default:Int)
  | 22=>(default:GAddr)
  | 23=>(default:GAddr)
  | 24=>(default:zu)
  | 25=>(default:zu)
  | 26=>(default:List (zc))
  | 27=>(default:z1a)
  | 28=>(default:z1a)
  | 29=>(default:GOp)
  | 30=>(default:GOp)
  | 31=>(default:List (GOp))
  | 32=>(default:Vector (Int) 8)
  | 33=>(default:Vector (Int) 8)
  | 34=>(default:Vector (Int) 8)
  | 35=>(default:za)
  | 36=>(default:za)
  | 37=>(default:List (Int))
  | 38=>(default:GPart)
  | 39=>(default:GPart)
  | 40=>(default:z9)
  | 41=>(default:z9)
  | 42=>(default:GMsg)
  | 43=>(default:GMsg)
  | 44=>(default:Int)
  | 48=>(default:Int)
  | 59=>(default:List (GMsg))
  | 60=>(default:List (Int))
  | 64=>(default:GSent)
  | 65=>(default:GSent)
  | 69=>(default:List (z1e))
  | 70=>(default:List (GAddr))
  | 71=>(default:z1e)
  | 72=>(default:z1e)
  | 75=>(default:List (GSent))
  | 76=>(default:z1y)
  | 77=>(default:z1y)
  | 79=>(default:z5t)
  | 80=>(default:z5t)
  | 81=>(default:zbn)
  | 82=>(default:zbn)
  | 138=>(default:Int)
  | 140=>(default:Int)
  | 154=>(default:zc)
  | 155=>(default:zc)
  | 165=>(default:z4)
  | 166=>(default:z4)
  | 186=>(default:z4)
  | 192=>(default:z1g)
  | 193=>(default:z1g)
  | 194=>(default:List (Int))
  | 201=>(default:List (List (Int)))
  | 203=>(default:Int)
  | 229=>(default:List (List UInt8))
  | t=>dfX t
def szT:Nat→Nat
  | 2=>1
  | 3=>1
  | 4=>1
  | 5=>1
  | 9=>1
  | 12=>1
  | 21=>1
  | 22=>2
  | 23=>2
  | 24=>2
  | 25=>2
  | 26=>1
  | 27=>2
  | 28=>2
  | 29=>8
  | 30=>8
  | 31=>1
  | 32=>8
  | 33=>8
  | 34=>8
  | 35=>25
  | 36=>25
  | 37=>1
  | 38=>4
  | 39=>4
  | 40=>56
  | 41=>56
  | 42=>106
  | 43=>106
  | 44=>1
  | 48=>1
  | 59=>1
  | 60=>1
  | 64=>6
  | 65=>6
  | 69=>1
  | 70=>1
  | 71=>7
  | 72=>7
  | 75=>1
  | 76=>2
  | 77=>2
  | 79=>2
  | 80=>2
  | 81=>3
  | 82=>3
  | 138=>1
  | 140=>1
  | 154=>59
  | 155=>59
  | 165=>2
  | 166=>2
  | 186=>2
  | 192=>3
  | 193=>3
  | 194=>1
  | 201=>1
  | 203=>1
  | 229=>1
  | _=>0
def kdT:Nat→Option (List Kd)
  | 2=>some [.i]
  | 3=>some [.i]
  | 4=>some [.b]
  | 5=>some [.i]
  | 9=>some [.s]
  | 12=>some [.i]
  | 21=>some [.i]
  | 22=>some [.i,.i]
  | 23=>some [.i,.i]
  | 24=>some [.i,.i]
  | 25=>some [.i,.i]
  | 27=>some [.i,.i]
  | 28=>some [.i,.i]
  | 29=>some [.i,.i,.i,.i,.i,.s,.s,.s]
  | 30=>some [.i,.i,.i,.i,.i,.s,.s,.s]
  | 32=>some [.i,.i,.i,.i,.i,.i,.i,.i]
  | 33=>some [.i,.i,.i,.i,.i,.i,.i,.i]
  | 34=>some [.i,.i,.i,.i,.i,.i,.i,.i]
  | 35=>some [.i,.i,.i,.i,.i,.i,.i,.i,.i,.i,.i,.i,.i,.i,.i,.i,.i,.i,.i,.i,.i,.i,.i,.i,.i]
  | 36=>some [.i,.i,.i,.i,.i,.i,.i,.i,.i,.i,.i,.i,.i,.i,.i,.i,.i,.i,.i,.i,.i,.i,.i,.i,.i]
  | 44=>some [.i]
  | 48=>some [.i]
  | 138=>some [.i]
  | 140=>some [.i]
  | 203=>some [.i]
  | _=>none
def beqT:(t:Nat)→τ t→τ t→Bool
  | 2=>beq2
  | 3=>beq3
  | 4=>beq4
  | 5=>beq5
  | 9=>beq9
  | 12=>beq12
  | 21=>beq21
  | 22=>beq22
  | 23=>beq23
  | 24=>beq24
  | 25=>beq25
  | 27=>beq27
  | 28=>beq28
  | 29=>beq29
  | 30=>beq30
  | 32=>beq32
  | 33=>beq33
  | 34=>beq34
  | 35=>beq35
  | 36=>beq36
  | 44=>beq44
  | 48=>beq48
  | 138=>beq138
  | 140=>beq140
  | 203=>beq203
  | _=>fun _ _=>false
def b2sT:(t:Nat)→List (τ t)→Option (List UInt8)
  | 5=>fun (l:List Int)=>some (strI l)
  | _=>fun _=>none
def s2bT:(t:Nat)→List UInt8→Option (List (τ t))
  | 5=>fun s=>some (zio s)
  | _=>fun _=>none
noncomputable def siteT:Nat→Nat→Array Tmp×Code×Code:=fun f k=>bif Nat.beq f 4 then siteFn Tryz.f4 k else bif Nat.beq f 5 then siteFn Tryz.f5 k else bif Nat.beq f 6 then siteFn Tryz.f6 k else bif Nat.beq f 23 then siteFn Tryz.f23 k else (#[],.skip,.skip)
noncomputable def C:Cod τ:=⟨celT,encT,decT,dfT,szT,kdT,beqT,b2sT,s2bT,siteT⟩
theorem law2:CodAt C 2:=⟨fun x=>rfl,fun x=>rfl,fun x a h=>by rw [z6w (show dInt .i64 x=some a from h)]; exact .refl _,fun x=>rfl,fun x a h=>by rw [z6w (show dInt .i64 x=some a from h)]; rfl,fun x a h=>by rw [z6w (show dInt .i64 x=some a from h)]; rfl,fun a=>rfl,fun a=>z30 (NoId.v _),fun ks h a b=>by cases h; simp [z29,scal,C,celT,cel2,beqT,beq2],(fun l s h=>nomatch h),(fun s l h=>nomatch h)⟩
theorem law3:CodAt C 3:=⟨fun x=>rfl,fun x=>rfl,fun x a h=>by rw [z6w (show dInt .i64 x=some a from h)]; exact .refl _,fun x=>rfl,fun x a h=>by rw [z6w (show dInt .i64 x=some a from h)]; rfl,fun x a h=>by rw [z6w (show dInt .i64 x=some a from h)]; rfl,fun a=>rfl,fun a=>z30 (NoId.v _),fun ks h a b=>by cases h; simp [z29,scal,C,celT,cel3,beqT,beq3],(fun l s h=>nomatch h),(fun s l h=>nomatch h)⟩
theorem law4:CodAt C 4:=⟨fun x=>rfl,fun x=>rfl,fun x a h=>by rw [z137 (show dBool x=some a from h)]; exact .refl _,fun x=>rfl,fun x a h=>by rw [z137 (show dBool x=some a from h)]; rfl,fun x a h=>by rw [z137 (show dBool x=some a from h)]; rfl,fun a=>rfl,fun a=>z30 (NoId.v _),fun ks h a b=>by cases h; simp [z29,scal,C,celT,cel4,beqT,beq4],(fun l s h=>nomatch h),(fun s l h=>nomatch h)⟩
theorem law5:CodAt C 5:=⟨fun x=>rfl,fun x=>rfl,fun x a h=>by rw [z6w (show dInt .u8 x=some a from h)]; exact .refl _,fun x=>rfl,fun x a h=>by rw [z6w (show dInt .u8 x=some a from h)]; rfl,fun x a h=>by rw [z6w (show dInt .u8 x=some a from h)]; rfl,fun a=>rfl,fun a=>z30 (NoId.v _),fun ks h a b=>by cases h; simp [z29,scal,C,celT,cel5,beqT,beq5],fun l s h=>⟨rfl,(zx1 l).trans h⟩,fun s l h=>⟨rfl,by cases h; show (zio s).map cel5=_; simp [zio,cel5,zlm]⟩⟩
theorem law9:CodAt C 9:=⟨fun x=>rfl,fun x=>rfl,fun x a h=>by rw [dStr_x (show dStr x=some a from h)]; exact .refl _,fun x=>rfl,fun x a h=>by rw [dStr_x (show dStr x=some a from h)]; rfl,fun x a h=>by rw [dStr_x (show dStr x=some a from h)]; rfl,fun a=>rfl,fun a=>z30 (NoId.v _),fun ks h a b=>by cases h; simp [z29,scal,C,celT,cel9,beqT,beq9],(fun l s h=>nomatch h),(fun s l h=>nomatch h)⟩
theorem law12:CodAt C 12:=⟨fun x=>rfl,fun x=>rfl,fun x a h=>by rw [z6w (show dInt .u64 x=some a from h)]; exact .refl _,fun x=>rfl,fun x a h=>by rw [z6w (show dInt .u64 x=some a from h)]; rfl,fun x a h=>by rw [z6w (show dInt .u64 x=some a from h)]; rfl,fun a=>rfl,fun a=>z30 (NoId.v _),fun ks h a b=>by cases h; simp [z29,scal,C,celT,cel12,beqT,beq12],(fun l s h=>nomatch h),(fun s l h=>nomatch h)⟩
theorem law21:CodAt C 21:=⟨fun x=>rfl,fun x=>rfl,fun x a h=>by rw [z6w (show dInt .i32 x=some a from h)]; exact .refl _,fun x=>rfl,fun x a h=>by rw [z6w (show dInt .i32 x=some a from h)]; rfl,fun x a h=>by rw [z6w (show dInt .i32 x=some a from h)]; rfl,fun a=>rfl,fun a=>z30 (NoId.v _),fun ks h a b=>by cases h; simp [z29,scal,C,celT,cel21,beqT,beq21],(fun l s h=>nomatch h),(fun s l h=>nomatch h)⟩
theorem decx22 {x:TV τ} {a:GAddr} (h:dec22 x=some a):∃ x0 x1,x=.agg [x0,x1]∧dec3 x0=some a.Group∧dec3 x1=some a.Replica:=by
  unfold dec22 at h
  split at h
  · rename_i x0 x1
    split at h
    · rename_i a0 h0
      split at h
      · rename_i a1 h1
        cases h
        exact ⟨_,_,rfl,h0,h1⟩
      · cases h
    · cases h
  · cases h
theorem law22:CodAt C 22:=⟨fun x=>z1c (law3.cel _) (z1c (law3.cel _) (rfl)),fun x=>zw (law3.len _) (zw (law3.len _) (rfl)),fun x a h=>by obtain ⟨x0,x1,rfl,h0,h1⟩:=decx22 h; exact CW.append (law3.dec _ _ h0) (CW.append (law3.dec _ _ h1) (CW.refl [])),fun x=>have q:=zh (law3.ok x.Group) (zh (law3.ok x.Replica) (ok_t)); q,fun x a h=>by obtain ⟨x0,x1,rfl,h0,h1⟩:=decx22 h; exact zh (law3.decok _ _ h0) (zh (law3.decok _ _ h1) (rfl)),fun x a h=>by obtain ⟨x0,x1,rfl,h0,h1⟩:=decx22 h; rfl,fun x=>zx (law3.one _) (zx (law3.one _) (rfl)),fun x=>zg (law3.noid _) (zg (law3.noid _) (trivial)),fun ks h a b=>by have:=z1f (law3.kd _ rfl a.Group b.Group) (z1f (law3.kd _ rfl a.Replica b.Replica) ((show z29 [] [] []=some true from rfl))); cases h; exact this,(fun l s h=>nomatch h),(fun s l h=>nomatch h)⟩
theorem law23:CodAt C 23:=let q:=law22; ⟨q.cel,q.len,q.dec,q.ok,q.decok,q.agg,q.one,q.noid,q.kd,q.b2s,q.s2b⟩
theorem decx24 {x:TV τ} {a:zu} (h:dec24 x=some a):∃ x0 x1,x=.agg [x0,x1]∧dec2 x0=some a.Round∧dec3 x1=some a.Replica:=by
  unfold dec24 at h
  split at h
  · rename_i x0 x1
    split at h
    · rename_i a0 h0
      split at h
      · rename_i a1 h1
        cases h
        exact ⟨_,_,rfl,h0,h1⟩
      · cases h
    · cases h
  · cases h
theorem law24:CodAt C 24:=⟨fun x=>z1c (law2.cel _) (z1c (law3.cel _) (rfl)),fun x=>zw (law2.len _) (zw (law3.len _) (rfl)),fun x a h=>by obtain ⟨x0,x1,rfl,h0,h1⟩:=decx24 h; exact CW.append (law2.dec _ _ h0) (CW.append (law3.dec _ _ h1) (CW.refl [])),fun x=>have q:=zh (law2.ok x.Round) (zh (law3.ok x.Replica) (ok_t)); q,fun x a h=>by obtain ⟨x0,x1,rfl,h0,h1⟩:=decx24 h; exact zh (law2.decok _ _ h0) (zh (law3.decok _ _ h1) (rfl)),fun x a h=>by obtain ⟨x0,x1,rfl,h0,h1⟩:=decx24 h; rfl,fun x=>zx (law2.one _) (zx (law3.one _) (rfl)),fun x=>zg (law2.noid _) (zg (law3.noid _) (trivial)),fun ks h a b=>by have:=z1f (law2.kd _ rfl a.Round b.Round) (z1f (law3.kd _ rfl a.Replica b.Replica) ((show z29 [] [] []=some true from rfl))); cases h; exact this,(fun l s h=>nomatch h),(fun s l h=>nomatch h)⟩
theorem law25:CodAt C 25:=let q:=law24; ⟨q.cel,q.len,q.dec,q.ok,q.decok,q.agg,q.one,q.noid,q.kd,q.b2s,q.s2b⟩
theorem decx28 {x:TV τ} {a:z1a} (h:dec28 x=some a):∃ x0 x1,x=.agg [x0,x1]∧dec2 x0=some a.Time∧dec3 x1=some a.Site:=by
  unfold dec28 at h
  split at h
  · rename_i x0 x1
    split at h
    · rename_i a0 h0
      split at h
      · rename_i a1 h1
        cases h
        exact ⟨_,_,rfl,h0,h1⟩
      · cases h
    · cases h
  · cases h
theorem law28:CodAt C 28:=⟨fun x=>z1c (law2.cel _) (z1c (law3.cel _) (rfl)),fun x=>zw (law2.len _) (zw (law3.len _) (rfl)),fun x a h=>by obtain ⟨x0,x1,rfl,h0,h1⟩:=decx28 h; exact CW.append (law2.dec _ _ h0) (CW.append (law3.dec _ _ h1) (CW.refl [])),fun x=>have q:=zh (law2.ok x.Time) (zh (law3.ok x.Site) (ok_t)); q,fun x a h=>by obtain ⟨x0,x1,rfl,h0,h1⟩:=decx28 h; exact zh (law2.decok _ _ h0) (zh (law3.decok _ _ h1) (rfl)),fun x a h=>by obtain ⟨x0,x1,rfl,h0,h1⟩:=decx28 h; rfl,fun x=>zx (law2.one _) (zx (law3.one _) (rfl)),fun x=>zg (law2.noid _) (zg (law3.noid _) (trivial)),fun ks h a b=>by have:=z1f (law2.kd _ rfl a.Time b.Time) (z1f (law3.kd _ rfl a.Site b.Site) ((show z29 [] [] []=some true from rfl))); cases h; exact this,(fun l s h=>nomatch h),(fun s l h=>nomatch h)⟩
theorem decx30 {x:TV τ} {a:GOp} (h:dec30 x=some a):∃ x0 x1 x2 x3 x4 x5 x6,x=.agg [x0,x1,x2,x3,x4,x5,x6]∧dec28 x0=some a.Stamp∧dec3 x1=some a.Kind∧dec2 x2=some a.Node∧dec2 x3=some a.Parent∧dec9 x4=some a.Name∧dec9 x5=some a.Key∧dec9 x6=some a.Value:=by
  unfold dec30 at h
  split at h
  · rename_i x0 x1 x2 x3 x4 x5 x6
    split at h
    · rename_i a0 h0
      split at h
      · rename_i a1 h1
        split at h
        · rename_i a2 h2
          split at h
          · rename_i a3 h3
            split at h
            · rename_i a4 h4
              split at h
              · rename_i a5 h5
                split at h
                · rename_i a6 h6
                  cases h
                  exact ⟨_,_,_,_,_,_,_,rfl,h0,h1,h2,h3,h4,h5,h6⟩
                · cases h
              · cases h
            · cases h
          · cases h
        · cases h
      · cases h
    · cases h
  · cases h
theorem law30:CodAt C 30:=⟨fun x=>z1c (law28.cel _) (z1c (law3.cel _) (z1c (law2.cel _) (z1c (law2.cel _) (z1c (law9.cel _) (z1c (law9.cel _) (z1c (law9.cel _) (rfl))))))),fun x=>zw (law28.len _) (zw (law3.len _) (zw (law2.len _) (zw (law2.len _) (zw (law9.len _) (zw (law9.len _) (zw (law9.len _) (rfl))))))),fun x a h=>by obtain ⟨x0,x1,x2,x3,x4,x5,x6,rfl,h0,h1,h2,h3,h4,h5,h6⟩:=decx30 h; exact CW.append (law28.dec _ _ h0) (CW.append (law3.dec _ _ h1) (CW.append (law2.dec _ _ h2) (CW.append (law2.dec _ _ h3) (CW.append (law9.dec _ _ h4) (CW.append (law9.dec _ _ h5) (CW.append (law9.dec _ _ h6) (CW.refl []))))))),fun x=>have q:=zh (law28.ok x.Stamp) (zh (law3.ok x.Kind) (zh (law2.ok x.Node) (zh (law2.ok x.Parent) (zh (law9.ok x.Name) (zh (law9.ok x.Key) (zh (law9.ok x.Value) (ok_t))))))); q,fun x a h=>by obtain ⟨x0,x1,x2,x3,x4,x5,x6,rfl,h0,h1,h2,h3,h4,h5,h6⟩:=decx30 h; exact zh (law28.decok _ _ h0) (zh (law3.decok _ _ h1) (zh (law2.decok _ _ h2) (zh (law2.decok _ _ h3) (zh (law9.decok _ _ h4) (zh (law9.decok _ _ h5) (zh (law9.decok _ _ h6) (rfl))))))),fun x a h=>by obtain ⟨x0,x1,x2,x3,x4,x5,x6,rfl,h0,h1,h2,h3,h4,h5,h6⟩:=decx30 h; rfl,fun x=>zx (law28.one _) (zx (law3.one _) (zx (law2.one _) (zx (law2.one _) (zx (law9.one _) (zx (law9.one _) (zx (law9.one _) (rfl))))))),fun x=>zg (law28.noid _) (zg (law3.noid _) (zg (law2.noid _) (zg (law2.noid _) (zg (law9.noid _) (zg (law9.noid _) (zg (law9.noid _) (trivial))))))),fun ks h a b=>by have:=z1f (law28.kd _ rfl a.Stamp b.Stamp) (z1f (law3.kd _ rfl a.Kind b.Kind) (z1f (law2.kd _ rfl a.Node b.Node) (z1f (law2.kd _ rfl a.Parent b.Parent) (z1f (law9.kd _ rfl a.Name b.Name) (z1f (law9.kd _ rfl a.Key b.Key) (z1f (law9.kd _ rfl a.Value b.Value) ((show z29 [] [] []=some true from rfl)))))))); cases h; exact this,(fun l s h=>nomatch h),(fun s l h=>nomatch h)⟩
theorem law31:CodAt C 31:=⟨fun x=>rfl,fun x=>rfl,fun x a h=>(z5a (C:=C) (show dSl 30 x=some a from h)).1,fun x=>rfl,fun x a h=>(z5a (C:=C) (show dSl 30 x=some a from h)).2.1,fun x a h=>(z5a (C:=C) (show dSl 30 x=some a from h)).2.2,fun a=>rfl,fun a=>z30 (NoId.asl fun cs hc=>by obtain ⟨y,_,rfl⟩:=List.mem_map.1 hc; exact law30.noid y),(fun ks h=>nomatch h),(fun l s h=>nomatch h),(fun s l h=>nomatch h)⟩
theorem law32:CodAt C 32:=⟨fun x=>rfl,fun x=>zr4 law3 x,fun x a h=>by rw [zsf (show dArr 3 8 x=some a from h)]; exact .refl _,fun x=>rfl,fun x a h=>by rw [zsf (show dArr 3 8 x=some a from h)]; rfl,fun x a h=>by rw [zsf (show dArr 3 8 x=some a from h)]; rfl,fun a=>z105 law3 a.toList,fun a=>zx2 law3 a.toList,fun ks h a b=>by have:=ziq law3 (show C.kd 3=some _ from rfl) a.toList b.toList (by simp); simp only [Vector.length_toList] at this; cases h; exact this,(fun l s h=>nomatch h),(fun s l h=>nomatch h)⟩
theorem law34:CodAt C 34:=⟨fun x=>rfl,fun x=>zr4 law2 x,fun x a h=>by rw [zsf (show dArr 2 8 x=some a from h)]; exact .refl _,fun x=>rfl,fun x a h=>by rw [zsf (show dArr 2 8 x=some a from h)]; rfl,fun x a h=>by rw [zsf (show dArr 2 8 x=some a from h)]; rfl,fun a=>z105 law2 a.toList,fun a=>zx2 law2 a.toList,fun ks h a b=>by have:=ziq law2 (show C.kd 2=some _ from rfl) a.toList b.toList (by simp); simp only [Vector.length_toList] at this; cases h; exact this,(fun l s h=>nomatch h),(fun s l h=>nomatch h)⟩
theorem decx36 {x:TV τ} {a:za} (h:dec36 x=some a):∃ x0 x1 x2 x3,x=.agg [x0,x1,x2,x3]∧dec2 x0=some a.Number∧dec32 x1=some a.States∧dec34 x2=some a.Seals∧dec32 x3=some a.Sponsor:=by
  unfold dec36 at h
  split at h
  · rename_i x0 x1 x2 x3
    split at h
    · rename_i a0 h0
      split at h
      · rename_i a1 h1
        split at h
        · rename_i a2 h2
          split at h
          · rename_i a3 h3
            cases h
            exact ⟨_,_,_,_,rfl,h0,h1,h2,h3⟩
          · cases h
        · cases h
      · cases h
    · cases h
  · cases h
theorem law36:CodAt C 36:=⟨fun x=>z1c (law2.cel _) (z1c (law32.cel _) (z1c (law34.cel _) (z1c (law32.cel _) (rfl)))),fun x=>zw (law2.len _) (zw (law32.len _) (zw (law34.len _) (zw (law32.len _) (rfl)))),fun x a h=>by obtain ⟨x0,x1,x2,x3,rfl,h0,h1,h2,h3⟩:=decx36 h; exact CW.append (law2.dec _ _ h0) (CW.append (law32.dec _ _ h1) (CW.append (law34.dec _ _ h2) (CW.append (law32.dec _ _ h3) (CW.refl [])))),fun x=>have q:=zh (law2.ok x.Number) (zh (law32.ok x.States) (zh (law34.ok x.Seals) (zh (law32.ok x.Sponsor) (ok_t)))); q,fun x a h=>by obtain ⟨x0,x1,x2,x3,rfl,h0,h1,h2,h3⟩:=decx36 h; exact zh (law2.decok _ _ h0) (zh (law32.decok _ _ h1) (zh (law34.decok _ _ h2) (zh (law32.decok _ _ h3) (rfl)))),fun x a h=>by obtain ⟨x0,x1,x2,x3,rfl,h0,h1,h2,h3⟩:=decx36 h; rfl,fun x=>zx (law2.one _) (zx (law32.one _) (zx (law34.one _) (zx (law32.one _) (rfl)))),fun x=>zg (law2.noid _) (zg (law32.noid _) (zg (law34.noid _) (zg (law32.noid _) (trivial)))),fun ks h a b=>by have:=z1f (law2.kd _ rfl a.Number b.Number) (z1f (law32.kd _ rfl a.States b.States) (z1f (law34.kd _ rfl a.Seals b.Seals) (z1f (law32.kd _ rfl a.Sponsor b.Sponsor) ((show z29 [] [] []=some true from rfl))))); cases h; exact this,(fun l s h=>nomatch h),(fun s l h=>nomatch h)⟩
theorem law37:CodAt C 37:=⟨fun x=>rfl,fun x=>rfl,fun x a h=>(z5a (C:=C) (show dSl 5 x=some a from h)).1,fun x=>rfl,fun x a h=>(z5a (C:=C) (show dSl 5 x=some a from h)).2.1,fun x a h=>(z5a (C:=C) (show dSl 5 x=some a from h)).2.2,fun a=>rfl,fun a=>z30 (NoId.asl fun cs hc=>by obtain ⟨y,_,rfl⟩:=List.mem_map.1 hc; exact law5.noid y),(fun ks h=>nomatch h),(fun l s h=>nomatch h),(fun s l h=>nomatch h)⟩
theorem decx39 {x:TV τ} {a:GPart} (h:dec39 x=some a):∃ x0 x1 x2 x3,x=.agg [x0,x1,x2,x3]∧dec2 x0=some a.Snap∧dec3 x1=some a.Index∧dec3 x2=some a.Many∧dec37 x3=some a.Data:=by
  unfold dec39 at h
  split at h
  · rename_i x0 x1 x2 x3
    split at h
    · rename_i a0 h0
      split at h
      · rename_i a1 h1
        split at h
        · rename_i a2 h2
          split at h
          · rename_i a3 h3
            cases h
            exact ⟨_,_,_,_,rfl,h0,h1,h2,h3⟩
          · cases h
        · cases h
      · cases h
    · cases h
  · cases h
theorem law39:CodAt C 39:=⟨fun x=>z1c (law2.cel _) (z1c (law3.cel _) (z1c (law3.cel _) (z1c (law37.cel _) (rfl)))),fun x=>zw (law2.len _) (zw (law3.len _) (zw (law3.len _) (zw (law37.len _) (rfl)))),fun x a h=>by obtain ⟨x0,x1,x2,x3,rfl,h0,h1,h2,h3⟩:=decx39 h; exact CW.append (law2.dec _ _ h0) (CW.append (law3.dec _ _ h1) (CW.append (law3.dec _ _ h2) (CW.append (law37.dec _ _ h3) (CW.refl [])))),fun x=>have q:=zh (law2.ok x.Snap) (zh (law3.ok x.Index) (zh (law3.ok x.Many) (zh (law37.ok x.Data) (ok_t)))); q,fun x a h=>by obtain ⟨x0,x1,x2,x3,rfl,h0,h1,h2,h3⟩:=decx39 h; exact zh (law2.decok _ _ h0) (zh (law3.decok _ _ h1) (zh (law3.decok _ _ h2) (zh (law37.decok _ _ h3) (rfl)))),fun x a h=>by obtain ⟨x0,x1,x2,x3,rfl,h0,h1,h2,h3⟩:=decx39 h; rfl,fun x=>zx (law2.one _) (zx (law3.one _) (zx (law3.one _) (zx (law37.one _) (rfl)))),fun x=>zg (law2.noid _) (zg (law3.noid _) (zg (law3.noid _) (zg (law37.noid _) (trivial)))),(fun ks h=>nomatch h),(fun l s h=>nomatch h),(fun s l h=>nomatch h)⟩
theorem decx41 {x:TV τ} {a:z9} (h:dec41 x=some a):∃ x0 x1 x2 x3 x4 x5 x6 x7 x8 x9 x10 x11 x12 x13 x14,x=.agg [x0,x1,x2,x3,x4,x5,x6,x7,x8,x9,x10,x11,x12,x13,x14]∧dec3 x0=some a.Kind∧dec2 x1=some a.Session∧dec2 x2=some a.Request∧dec30 x3=some a.Op∧dec3 x4=some a.Origin∧dec2 x5=some a.Seq∧dec31 x6=some a.Ops∧dec36 x7=some a.Epoch∧dec3 x8=some a.From∧dec34 x9=some a.Vector_∧dec2 x10=some a.Clock∧dec39 x11=some a.Part∧dec3 x12=some a.Site∧dec3 x13=some a.Sponsor∧dec2 x14=some a.Length:=by
  unfold dec41 at h
  split at h
  · rename_i x0 x1 x2 x3 x4 x5 x6 x7 x8 x9 x10 x11 x12 x13 x14
    split at h
    · rename_i a0 h0
      split at h
      · rename_i a1 h1
        split at h
        · rename_i a2 h2
          split at h
          · rename_i a3 h3
            split at h
            · rename_i a4 h4
              split at h
              · rename_i a5 h5
                split at h
                · rename_i a6 h6
                  split at h
                  · rename_i a7 h7
                    split at h
                    · rename_i a8 h8
                      split at h
                      · rename_i a9 h9
                        split at h
                        · rename_i a10 h10
                          split at h
                          · rename_i a11 h11
                            split at h
                            · rename_i a12 h12
                              split at h
                              · rename_i a13 h13
                                split at h
                                · rename_i a14 h14
                                  cases h
                                  exact ⟨_,_,_,_,_,_,_,_,_,_,_,_,_,_,_,rfl,h0,h1,h2,h3,h4,h5,h6,h7,h8,h9,h10,h11,h12,h13,h14⟩
                                · cases h
                              · cases h
                            · cases h
                          · cases h
                        · cases h
                      · cases h
                    · cases h
                  · cases h
                · cases h
              · cases h
            · cases h
          · cases h
        · cases h
      · cases h
    · cases h
  · cases h
theorem law41:CodAt C 41:=⟨fun x=>z1c (law3.cel _) (z1c (law2.cel _) (z1c (law2.cel _) (z1c (law30.cel _) (z1c (law3.cel _) (z1c (law2.cel _) (z1c (law31.cel _) (z1c (law36.cel _) (z1c (law3.cel _) (z1c (law34.cel _) (z1c (law2.cel _) (z1c (law39.cel _) (z1c (law3.cel _) (z1c (law3.cel _) (z1c (law2.cel _) (rfl))))))))))))))),fun x=>zw (law3.len _) (zw (law2.len _) (zw (law2.len _) (zw (law30.len _) (zw (law3.len _) (zw (law2.len _) (zw (law31.len _) (zw (law36.len _) (zw (law3.len _) (zw (law34.len _) (zw (law2.len _) (zw (law39.len _) (zw (law3.len _) (zw (law3.len _) (zw (law2.len _) (rfl))))))))))))))),fun x a h=>by obtain ⟨x0,x1,x2,x3,x4,x5,x6,x7,x8,x9,x10,x11,x12,x13,x14,rfl,h0,h1,h2,h3,h4,h5,h6,h7,h8,h9,h10,h11,h12,h13,h14⟩:=decx41 h; exact CW.append (law3.dec _ _ h0) (CW.append (law2.dec _ _ h1) (CW.append (law2.dec _ _ h2) (CW.append (law30.dec _ _ h3) (CW.append (law3.dec _ _ h4) (CW.append (law2.dec _ _ h5) (CW.append (law31.dec _ _ h6) (CW.append (law36.dec _ _ h7) (CW.append (law3.dec _ _ h8) (CW.append (law34.dec _ _ h9) (CW.append (law2.dec _ _ h10) (CW.append (law39.dec _ _ h11) (CW.append (law3.dec _ _ h12) (CW.append (law3.dec _ _ h13) (CW.append (law2.dec _ _ h14) (CW.refl []))))))))))))))),fun x=>have q:=zh (law3.ok x.Kind) (zh (law2.ok x.Session) (zh (law2.ok x.Request) (zh (law30.ok x.Op) (zh (law3.ok x.Origin) (zh (law2.ok x.Seq) (zh (law31.ok x.Ops) (zh (law36.ok x.Epoch) (zh (law3.ok x.From) (zh (law34.ok x.Vector_) (zh (law2.ok x.Clock) (zh (law39.ok x.Part) (zh (law3.ok x.Site) (zh (law3.ok x.Sponsor) (zh (law2.ok x.Length) (ok_t))))))))))))))); q,fun x a h=>by obtain ⟨x0,x1,x2,x3,x4,x5,x6,x7,x8,x9,x10,x11,x12,x13,x14,rfl,h0,h1,h2,h3,h4,h5,h6,h7,h8,h9,h10,h11,h12,h13,h14⟩:=decx41 h; exact zh (law3.decok _ _ h0) (zh (law2.decok _ _ h1) (zh (law2.decok _ _ h2) (zh (law30.decok _ _ h3) (zh (law3.decok _ _ h4) (zh (law2.decok _ _ h5) (zh (law31.decok _ _ h6) (zh (law36.decok _ _ h7) (zh (law3.decok _ _ h8) (zh (law34.decok _ _ h9) (zh (law2.decok _ _ h10) (zh (law39.decok _ _ h11) (zh (law3.decok _ _ h12) (zh (law3.decok _ _ h13) (zh (law2.decok _ _ h14) (rfl))))))))))))))),fun x a h=>by obtain ⟨x0,x1,x2,x3,x4,x5,x6,x7,x8,x9,x10,x11,x12,x13,x14,rfl,h0,h1,h2,h3,h4,h5,h6,h7,h8,h9,h10,h11,h12,h13,h14⟩:=decx41 h; rfl,fun x=>zx (law3.one _) (zx (law2.one _) (zx (law2.one _) (zx (law30.one _) (zx (law3.one _) (zx (law2.one _) (zx (law31.one _) (zx (law36.one _) (zx (law3.one _) (zx (law34.one _) (zx (law2.one _) (zx (law39.one _) (zx (law3.one _) (zx (law3.one _) (zx (law2.one _) (rfl))))))))))))))),fun x=>zg (law3.noid _) (zg (law2.noid _) (zg (law2.noid _) (zg (law30.noid _) (zg (law3.noid _) (zg (law2.noid _) (zg (law31.noid _) (zg (law36.noid _) (zg (law3.noid _) (zg (law34.noid _) (zg (law2.noid _) (zg (law39.noid _) (zg (law3.noid _) (zg (law3.noid _) (zg (law2.noid _) (trivial))))))))))))))),(fun ks h=>nomatch h),(fun l s h=>nomatch h),(fun s l h=>nomatch h)⟩
theorem z12g {x:TV τ} {a:zc} (h:dec155 x=some a):∃ x0 x1 x2,x=.agg [x0,x1,x2]∧dec2 x0=some a.Slot∧dec25 x1=some a.Ballot∧dec41 x2=some a.Entry:=by
  unfold dec155 at h
  split at h
  · rename_i x0 x1 x2
    split at h
    · rename_i a0 h0
      split at h
      · rename_i a1 h1
        split at h
        · rename_i a2 h2
          cases h
          exact ⟨_,_,_,rfl,h0,h1,h2⟩
        · cases h
      · cases h
    · cases h
  · cases h
theorem law155:CodAt C 155:=⟨fun x=>z1c (law2.cel _) (z1c (law25.cel _) (z1c (law41.cel _) (rfl))),fun x=>zw (law2.len _) (zw (law25.len _) (zw (law41.len _) (rfl))),fun x a h=>by obtain ⟨x0,x1,x2,rfl,h0,h1,h2⟩:=z12g h; exact CW.append (law2.dec _ _ h0) (CW.append (law25.dec _ _ h1) (CW.append (law41.dec _ _ h2) (CW.refl []))),fun x=>have q:=zh (law2.ok x.Slot) (zh (law25.ok x.Ballot) (zh (law41.ok x.Entry) (ok_t))); q,fun x a h=>by obtain ⟨x0,x1,x2,rfl,h0,h1,h2⟩:=z12g h; exact zh (law2.decok _ _ h0) (zh (law25.decok _ _ h1) (zh (law41.decok _ _ h2) (rfl))),fun x a h=>by obtain ⟨x0,x1,x2,rfl,h0,h1,h2⟩:=z12g h; rfl,fun x=>zx (law2.one _) (zx (law25.one _) (zx (law41.one _) (rfl))),fun x=>zg (law2.noid _) (zg (law25.noid _) (zg (law41.noid _) (trivial))),(fun ks h=>nomatch h),(fun l s h=>nomatch h),(fun s l h=>nomatch h)⟩
theorem law26:CodAt C 26:=⟨fun x=>rfl,fun x=>rfl,fun x a h=>(z5a (C:=C) (show dSl 155 x=some a from h)).1,fun x=>rfl,fun x a h=>(z5a (C:=C) (show dSl 155 x=some a from h)).2.1,fun x a h=>(z5a (C:=C) (show dSl 155 x=some a from h)).2.2,fun a=>rfl,fun a=>z30 (NoId.asl fun cs hc=>by obtain ⟨y,_,rfl⟩:=List.mem_map.1 hc; exact law155.noid y),(fun ks h=>nomatch h),(fun l s h=>nomatch h),(fun s l h=>nomatch h)⟩
theorem law27:CodAt C 27:=let q:=law28; ⟨q.cel,q.len,q.dec,q.ok,q.decok,q.agg,q.one,q.noid,q.kd,q.b2s,q.s2b⟩
theorem law29:CodAt C 29:=let q:=law30; ⟨q.cel,q.len,q.dec,q.ok,q.decok,q.agg,q.one,q.noid,q.kd,q.b2s,q.s2b⟩
theorem law33:CodAt C 33:=⟨fun x=>rfl,fun x=>zr4 law2 x,fun x a h=>by rw [zsf (show dArr 2 8 x=some a from h)]; exact .refl _,fun x=>rfl,fun x a h=>by rw [zsf (show dArr 2 8 x=some a from h)]; rfl,fun x a h=>by rw [zsf (show dArr 2 8 x=some a from h)]; rfl,fun a=>z105 law2 a.toList,fun a=>zx2 law2 a.toList,fun ks h a b=>by have:=ziq law2 (show C.kd 2=some _ from rfl) a.toList b.toList (by simp); simp only [Vector.length_toList] at this; cases h; exact this,(fun l s h=>nomatch h),(fun s l h=>nomatch h)⟩
theorem law35:CodAt C 35:=let q:=law36; ⟨q.cel,q.len,q.dec,q.ok,q.decok,q.agg,q.one,q.noid,q.kd,q.b2s,q.s2b⟩
theorem law38:CodAt C 38:=let q:=law39; ⟨q.cel,q.len,q.dec,q.ok,q.decok,q.agg,q.one,q.noid,q.kd,q.b2s,q.s2b⟩
theorem law40:CodAt C 40:=let q:=law41; ⟨q.cel,q.len,q.dec,q.ok,q.decok,q.agg,q.one,q.noid,q.kd,q.b2s,q.s2b⟩
theorem decx42 {x:TV τ} {a:GMsg} (h:dec42 x=some a):∃ x0 x1 x2 x3 x4 x5 x6 x7 x8 x9 x10 x11 x12 x13,x=.agg [x0,x1,x2,x3,x4,x5,x6,x7,x8,x9,x10,x11,x12,x13]∧dec3 x0=some a.Kind∧dec23 x1=some a.From∧dec23 x2=some a.To∧dec25 x3=some a.Ballot∧dec2 x4=some a.Slot∧dec26 x5=some a.List_∧dec41 x6=some a.Entry∧dec2 x7=some a.Number∧dec34 x8=some a.Vector_∧dec2 x9=some a.Clock∧dec3 x10=some a.Origin∧dec31 x11=some a.Ops∧dec36 x12=some a.Epoch∧dec39 x13=some a.Part:=by
  unfold dec42 at h
  split at h
  · rename_i x0 x1 x2 x3 x4 x5 x6 x7 x8 x9 x10 x11 x12 x13
    split at h
    · rename_i a0 h0
      split at h
      · rename_i a1 h1
        split at h
        · rename_i a2 h2
          split at h
          · rename_i a3 h3
            split at h
            · rename_i a4 h4
              split at h
              · rename_i a5 h5
                split at h
                · rename_i a6 h6
                  split at h
                  · rename_i a7 h7
                    split at h
                    · rename_i a8 h8
                      split at h
                      · rename_i a9 h9
                        split at h
                        · rename_i a10 h10
                          split at h
                          · rename_i a11 h11
                            split at h
                            · rename_i a12 h12
                              split at h
                              · rename_i a13 h13
                                cases h
                                exact ⟨_,_,_,_,_,_,_,_,_,_,_,_,_,_,rfl,h0,h1,h2,h3,h4,h5,h6,h7,h8,h9,h10,h11,h12,h13⟩
                              · cases h
                            · cases h
                          · cases h
                        · cases h
                      · cases h
                    · cases h
                  · cases h
                · cases h
              · cases h
            · cases h
          · cases h
        · cases h
      · cases h
    · cases h
  · cases h
theorem law42:CodAt C 42:=⟨fun x=>z1c (law3.cel _) (z1c (law23.cel _) (z1c (law23.cel _) (z1c (law25.cel _) (z1c (law2.cel _) (z1c (law26.cel _) (z1c (law41.cel _) (z1c (law2.cel _) (z1c (law34.cel _) (z1c (law2.cel _) (z1c (law3.cel _) (z1c (law31.cel _) (z1c (law36.cel _) (z1c (law39.cel _) (rfl)))))))))))))),fun x=>zw (law3.len _) (zw (law23.len _) (zw (law23.len _) (zw (law25.len _) (zw (law2.len _) (zw (law26.len _) (zw (law41.len _) (zw (law2.len _) (zw (law34.len _) (zw (law2.len _) (zw (law3.len _) (zw (law31.len _) (zw (law36.len _) (zw (law39.len _) (rfl)))))))))))))),fun x a h=>by obtain ⟨x0,x1,x2,x3,x4,x5,x6,x7,x8,x9,x10,x11,x12,x13,rfl,h0,h1,h2,h3,h4,h5,h6,h7,h8,h9,h10,h11,h12,h13⟩:=decx42 h; exact CW.append (law3.dec _ _ h0) (CW.append (law23.dec _ _ h1) (CW.append (law23.dec _ _ h2) (CW.append (law25.dec _ _ h3) (CW.append (law2.dec _ _ h4) (CW.append (law26.dec _ _ h5) (CW.append (law41.dec _ _ h6) (CW.append (law2.dec _ _ h7) (CW.append (law34.dec _ _ h8) (CW.append (law2.dec _ _ h9) (CW.append (law3.dec _ _ h10) (CW.append (law31.dec _ _ h11) (CW.append (law36.dec _ _ h12) (CW.append (law39.dec _ _ h13) (CW.refl [])))))))))))))),fun x=>have q:=zh (law3.ok x.Kind) (zh (law23.ok x.From) (zh (law23.ok x.To) (zh (law25.ok x.Ballot) (zh (law2.ok x.Slot) (zh (law26.ok x.List_) (zh (law41.ok x.Entry) (zh (law2.ok x.Number) (zh (law34.ok x.Vector_) (zh (law2.ok x.Clock) (zh (law3.ok x.Origin) (zh (law31.ok x.Ops) (zh (law36.ok x.Epoch) (zh (law39.ok x.Part) (ok_t)))))))))))))); q,fun x a h=>by obtain ⟨x0,x1,x2,x3,x4,x5,x6,x7,x8,x9,x10,x11,x12,x13,rfl,h0,h1,h2,h3,h4,h5,h6,h7,h8,h9,h10,h11,h12,h13⟩:=decx42 h; exact zh (law3.decok _ _ h0) (zh (law23.decok _ _ h1) (zh (law23.decok _ _ h2) (zh (law25.decok _ _ h3) (zh (law2.decok _ _ h4) (zh (law26.decok _ _ h5) (zh (law41.decok _ _ h6) (zh (law2.decok _ _ h7) (zh (law34.decok _ _ h8) (zh (law2.decok _ _ h9) (zh (law3.decok _ _ h10) (zh (law31.decok _ _ h11) (zh (law36.decok _ _ h12) (zh (law39.decok _ _ h13) (rfl)))))))))))))),fun x a h=>by obtain ⟨x0,x1,x2,x3,x4,x5,x6,x7,x8,x9,x10,x11,x12,x13,rfl,h0,h1,h2,h3,h4,h5,h6,h7,h8,h9,h10,h11,h12,h13⟩:=decx42 h; rfl,fun x=>zx (law3.one _) (zx (law23.one _) (zx (law23.one _) (zx (law25.one _) (zx (law2.one _) (zx (law26.one _) (zx (law41.one _) (zx (law2.one _) (zx (law34.one _) (zx (law2.one _) (zx (law3.one _) (zx (law31.one _) (zx (law36.one _) (zx (law39.one _) (rfl)))))))))))))),fun x=>zg (law3.noid _) (zg (law23.noid _) (zg (law23.noid _) (zg (law25.noid _) (zg (law2.noid _) (zg (law26.noid _) (zg (law41.noid _) (zg (law2.noid _) (zg (law34.noid _) (zg (law2.noid _) (zg (law3.noid _) (zg (law31.noid _) (zg (law36.noid _) (zg (law39.noid _) (trivial)))))))))))))),(fun ks h=>nomatch h),(fun l s h=>nomatch h),(fun s l h=>nomatch h)⟩
theorem law43:CodAt C 43:=let q:=law42; ⟨q.cel,q.len,q.dec,q.ok,q.decok,q.agg,q.one,q.noid,q.kd,q.b2s,q.s2b⟩
theorem law44:CodAt C 44:=⟨fun x=>rfl,fun x=>rfl,fun x a h=>by rw [z6w (show dInt .u16 x=some a from h)]; exact .refl _,fun x=>rfl,fun x a h=>by rw [z6w (show dInt .u16 x=some a from h)]; rfl,fun x a h=>by rw [z6w (show dInt .u16 x=some a from h)]; rfl,fun a=>rfl,fun a=>z30 (NoId.v _),fun ks h a b=>by cases h; simp [z29,scal,C,celT,cel44,beqT,beq44],(fun l s h=>nomatch h),(fun s l h=>nomatch h)⟩
theorem law48:CodAt C 48:=⟨fun x=>rfl,fun x=>rfl,fun x a h=>by rw [z6w (show dInt .i64 x=some a from h)]; exact .refl _,fun x=>rfl,fun x a h=>by rw [z6w (show dInt .i64 x=some a from h)]; rfl,fun x a h=>by rw [z6w (show dInt .i64 x=some a from h)]; rfl,fun a=>rfl,fun a=>z30 (NoId.v _),fun ks h a b=>by cases h; simp [z29,scal,C,celT,cel48,beqT,beq48],(fun l s h=>nomatch h),(fun s l h=>nomatch h)⟩
theorem law59:CodAt C 59:=⟨fun x=>rfl,fun x=>rfl,fun x a h=>(z5a (C:=C) (show dSl 43 x=some a from h)).1,fun x=>rfl,fun x a h=>(z5a (C:=C) (show dSl 43 x=some a from h)).2.1,fun x a h=>(z5a (C:=C) (show dSl 43 x=some a from h)).2.2,fun a=>rfl,fun a=>z30 (NoId.asl fun cs hc=>by obtain ⟨y,_,rfl⟩:=List.mem_map.1 hc; exact law43.noid y),(fun ks h=>nomatch h),(fun l s h=>nomatch h),(fun s l h=>nomatch h)⟩
theorem law60:CodAt C 60:=⟨fun x=>rfl,fun x=>rfl,fun x a h=>(z5a (C:=C) (show dSl 2 x=some a from h)).1,fun x=>rfl,fun x a h=>(z5a (C:=C) (show dSl 2 x=some a from h)).2.1,fun x a h=>(z5a (C:=C) (show dSl 2 x=some a from h)).2.2,fun a=>rfl,fun a=>z30 (NoId.asl fun cs hc=>by obtain ⟨y,_,rfl⟩:=List.mem_map.1 hc; exact law2.noid y),(fun ks h=>nomatch h),(fun l s h=>nomatch h),(fun s l h=>nomatch h)⟩
theorem decx64 {x:TV τ} {a:GSent} (h:dec64 x=some a):∃ x0 x1 x2 x3,x=.agg [x0,x1,x2,x3]∧dec2 x0=some a.Number∧dec23 x1=some a.From∧dec23 x2=some a.To∧dec37 x3=some a.Data:=by
  unfold dec64 at h
  split at h
  · rename_i x0 x1 x2 x3
    split at h
    · rename_i a0 h0
      split at h
      · rename_i a1 h1
        split at h
        · rename_i a2 h2
          split at h
          · rename_i a3 h3
            cases h
            exact ⟨_,_,_,_,rfl,h0,h1,h2,h3⟩
          · cases h
        · cases h
      · cases h
    · cases h
  · cases h
theorem law64:CodAt C 64:=⟨fun x=>z1c (law2.cel _) (z1c (law23.cel _) (z1c (law23.cel _) (z1c (law37.cel _) (rfl)))),fun x=>zw (law2.len _) (zw (law23.len _) (zw (law23.len _) (zw (law37.len _) (rfl)))),fun x a h=>by obtain ⟨x0,x1,x2,x3,rfl,h0,h1,h2,h3⟩:=decx64 h; exact CW.append (law2.dec _ _ h0) (CW.append (law23.dec _ _ h1) (CW.append (law23.dec _ _ h2) (CW.append (law37.dec _ _ h3) (CW.refl [])))),fun x=>have q:=zh (law2.ok x.Number) (zh (law23.ok x.From) (zh (law23.ok x.To) (zh (law37.ok x.Data) (ok_t)))); q,fun x a h=>by obtain ⟨x0,x1,x2,x3,rfl,h0,h1,h2,h3⟩:=decx64 h; exact zh (law2.decok _ _ h0) (zh (law23.decok _ _ h1) (zh (law23.decok _ _ h2) (zh (law37.decok _ _ h3) (rfl)))),fun x a h=>by obtain ⟨x0,x1,x2,x3,rfl,h0,h1,h2,h3⟩:=decx64 h; rfl,fun x=>zx (law2.one _) (zx (law23.one _) (zx (law23.one _) (zx (law37.one _) (rfl)))),fun x=>zg (law2.noid _) (zg (law23.noid _) (zg (law23.noid _) (zg (law37.noid _) (trivial)))),(fun ks h=>nomatch h),(fun l s h=>nomatch h),(fun s l h=>nomatch h)⟩
theorem law65:CodAt C 65:=let q:=law64; ⟨q.cel,q.len,q.dec,q.ok,q.decok,q.agg,q.one,q.noid,q.kd,q.b2s,q.s2b⟩
theorem law70:CodAt C 70:=⟨fun x=>rfl,fun x=>rfl,fun x a h=>(z5a (C:=C) (show dSl 23 x=some a from h)).1,fun x=>rfl,fun x a h=>(z5a (C:=C) (show dSl 23 x=some a from h)).2.1,fun x a h=>(z5a (C:=C) (show dSl 23 x=some a from h)).2.2,fun a=>rfl,fun a=>z30 (NoId.asl fun cs hc=>by obtain ⟨y,_,rfl⟩:=List.mem_map.1 hc; exact law23.noid y),(fun ks h=>nomatch h),(fun l s h=>nomatch h),(fun s l h=>nomatch h)⟩
theorem decx72 {x:TV τ} {a:z1e} (h:dec72 x=some a):∃ x0 x1 x2 x3 x4 x5 x6,x=.agg [x0,x1,x2,x3,x4,x5,x6]∧dec3 x0=some a.Kind∧dec59 x1=some a.Msgs∧dec2 x2=some a.Number∧dec3 x3=some a.Place∧dec5 x4=some a.With∧dec70 x5=some a.Addrs∧dec3 x6=some a.Stop:=by
  unfold dec72 at h
  split at h
  · rename_i x0 x1 x2 x3 x4 x5 x6
    split at h
    · rename_i a0 h0
      split at h
      · rename_i a1 h1
        split at h
        · rename_i a2 h2
          split at h
          · rename_i a3 h3
            split at h
            · rename_i a4 h4
              split at h
              · rename_i a5 h5
                split at h
                · rename_i a6 h6
                  cases h
                  exact ⟨_,_,_,_,_,_,_,rfl,h0,h1,h2,h3,h4,h5,h6⟩
                · cases h
              · cases h
            · cases h
          · cases h
        · cases h
      · cases h
    · cases h
  · cases h
theorem law72:CodAt C 72:=⟨fun x=>z1c (law3.cel _) (z1c (law59.cel _) (z1c (law2.cel _) (z1c (law3.cel _) (z1c (law5.cel _) (z1c (law70.cel _) (z1c (law3.cel _) (rfl))))))),fun x=>zw (law3.len _) (zw (law59.len _) (zw (law2.len _) (zw (law3.len _) (zw (law5.len _) (zw (law70.len _) (zw (law3.len _) (rfl))))))),fun x a h=>by obtain ⟨x0,x1,x2,x3,x4,x5,x6,rfl,h0,h1,h2,h3,h4,h5,h6⟩:=decx72 h; exact CW.append (law3.dec _ _ h0) (CW.append (law59.dec _ _ h1) (CW.append (law2.dec _ _ h2) (CW.append (law3.dec _ _ h3) (CW.append (law5.dec _ _ h4) (CW.append (law70.dec _ _ h5) (CW.append (law3.dec _ _ h6) (CW.refl []))))))),fun x=>have q:=zh (law3.ok x.Kind) (zh (law59.ok x.Msgs) (zh (law2.ok x.Number) (zh (law3.ok x.Place) (zh (law5.ok x.With) (zh (law70.ok x.Addrs) (zh (law3.ok x.Stop) (ok_t))))))); q,fun x a h=>by obtain ⟨x0,x1,x2,x3,x4,x5,x6,rfl,h0,h1,h2,h3,h4,h5,h6⟩:=decx72 h; exact zh (law3.decok _ _ h0) (zh (law59.decok _ _ h1) (zh (law2.decok _ _ h2) (zh (law3.decok _ _ h3) (zh (law5.decok _ _ h4) (zh (law70.decok _ _ h5) (zh (law3.decok _ _ h6) (rfl))))))),fun x a h=>by obtain ⟨x0,x1,x2,x3,x4,x5,x6,rfl,h0,h1,h2,h3,h4,h5,h6⟩:=decx72 h; rfl,fun x=>zx (law3.one _) (zx (law59.one _) (zx (law2.one _) (zx (law3.one _) (zx (law5.one _) (zx (law70.one _) (zx (law3.one _) (rfl))))))),fun x=>zg (law3.noid _) (zg (law59.noid _) (zg (law2.noid _) (zg (law3.noid _) (zg (law5.noid _) (zg (law70.noid _) (zg (law3.noid _) (trivial))))))),(fun ks h=>nomatch h),(fun l s h=>nomatch h),(fun s l h=>nomatch h)⟩
theorem law69:CodAt C 69:=⟨fun x=>rfl,fun x=>rfl,fun x a h=>(z5a (C:=C) (show dSl 72 x=some a from h)).1,fun x=>rfl,fun x a h=>(z5a (C:=C) (show dSl 72 x=some a from h)).2.1,fun x a h=>(z5a (C:=C) (show dSl 72 x=some a from h)).2.2,fun a=>rfl,fun a=>z30 (NoId.asl fun cs hc=>by obtain ⟨y,_,rfl⟩:=List.mem_map.1 hc; exact law72.noid y),(fun ks h=>nomatch h),(fun l s h=>nomatch h),(fun s l h=>nomatch h)⟩
theorem law71:CodAt C 71:=let q:=law72; ⟨q.cel,q.len,q.dec,q.ok,q.decok,q.agg,q.one,q.noid,q.kd,q.b2s,q.s2b⟩
theorem law75:CodAt C 75:=⟨fun x=>rfl,fun x=>rfl,fun x a h=>(z5a (C:=C) (show dSl 65 x=some a from h)).1,fun x=>rfl,fun x a h=>(z5a (C:=C) (show dSl 65 x=some a from h)).2.1,fun x a h=>(z5a (C:=C) (show dSl 65 x=some a from h)).2.2,fun a=>rfl,fun a=>z30 (NoId.asl fun cs hc=>by obtain ⟨y,_,rfl⟩:=List.mem_map.1 hc; exact law65.noid y),(fun ks h=>nomatch h),(fun l s h=>nomatch h),(fun s l h=>nomatch h)⟩
theorem decx76 {x:TV τ} {a:z1y} (h:dec76 x=some a):∃ x0 x1,x=.agg [x0,x1]∧dec75 x0=some a.L∧dec2 x1=some a.Last:=by
  unfold dec76 at h
  split at h
  · rename_i x0 x1
    split at h
    · rename_i a0 h0
      split at h
      · rename_i a1 h1
        cases h
        exact ⟨_,_,rfl,h0,h1⟩
      · cases h
    · cases h
  · cases h
theorem law76:CodAt C 76:=⟨fun x=>z1c (law75.cel _) (z1c (law2.cel _) (rfl)),fun x=>zw (law75.len _) (zw (law2.len _) (rfl)),fun x a h=>by obtain ⟨x0,x1,rfl,h0,h1⟩:=decx76 h; exact CW.append (law75.dec _ _ h0) (CW.append (law2.dec _ _ h1) (CW.refl [])),fun x=>have q:=zh (law75.ok x.L) (zh (law2.ok x.Last) (ok_t)); q,fun x a h=>by obtain ⟨x0,x1,rfl,h0,h1⟩:=decx76 h; exact zh (law75.decok _ _ h0) (zh (law2.decok _ _ h1) (rfl)),fun x a h=>by obtain ⟨x0,x1,rfl,h0,h1⟩:=decx76 h; rfl,fun x=>zx (law75.one _) (zx (law2.one _) (rfl)),fun x=>zg (law75.noid _) (zg (law2.noid _) (trivial)),(fun ks h=>nomatch h),(fun l s h=>nomatch h),(fun s l h=>nomatch h)⟩
theorem law77:CodAt C 77:=let q:=law76; ⟨q.cel,q.len,q.dec,q.ok,q.decok,q.agg,q.one,q.noid,q.kd,q.b2s,q.s2b⟩
theorem decx79 {x:TV τ} {a:z5t} (h:dec79 x=some a):∃ x0 x1,x=.agg [x0,x1]∧dec75 x0=some a.wait∧dec2 x1=some a.last:=by
  unfold dec79 at h
  split at h
  · rename_i x0 x1
    split at h
    · rename_i a0 h0
      split at h
      · rename_i a1 h1
        cases h
        exact ⟨_,_,rfl,h0,h1⟩
      · cases h
    · cases h
  · cases h
theorem law79:CodAt C 79:=⟨fun x=>z1c (law75.cel _) (z1c (law2.cel _) (rfl)),fun x=>zw (law75.len _) (zw (law2.len _) (rfl)),fun x a h=>by obtain ⟨x0,x1,rfl,h0,h1⟩:=decx79 h; exact CW.append (law75.dec _ _ h0) (CW.append (law2.dec _ _ h1) (CW.refl [])),fun x=>have q:=zh (law75.ok x.wait) (zh (law2.ok x.last) (ok_t)); q,fun x a h=>by obtain ⟨x0,x1,rfl,h0,h1⟩:=decx79 h; exact zh (law75.decok _ _ h0) (zh (law2.decok _ _ h1) (rfl)),fun x a h=>by obtain ⟨x0,x1,rfl,h0,h1⟩:=decx79 h; rfl,fun x=>zx (law75.one _) (zx (law2.one _) (rfl)),fun x=>zg (law75.noid _) (zg (law2.noid _) (trivial)),(fun ks h=>nomatch h),(fun l s h=>nomatch h),(fun s l h=>nomatch h)⟩
theorem law80:CodAt C 80:=let q:=law79; ⟨q.cel,q.len,q.dec,q.ok,q.decok,q.agg,q.one,q.noid,q.kd,q.b2s,q.s2b⟩
theorem decx81 {x:TV τ} {a:zbn} (h:dec81 x=some a):∃ x0 x1,x=.agg [x0,x1]∧dec80 x0=some a.queue∧dec4 x1=some a.made:=by
  unfold dec81 at h
  split at h
  · rename_i x0 x1
    split at h
    · rename_i a0 h0
      split at h
      · rename_i a1 h1
        cases h
        exact ⟨_,_,rfl,h0,h1⟩
      · cases h
    · cases h
  · cases h
theorem law81:CodAt C 81:=⟨fun x=>z1c (law80.cel _) (z1c (law4.cel _) (rfl)),fun x=>zw (law80.len _) (zw (law4.len _) (rfl)),fun x a h=>by obtain ⟨x0,x1,rfl,h0,h1⟩:=decx81 h; exact CW.append (law80.dec _ _ h0) (CW.append (law4.dec _ _ h1) (CW.refl [])),fun x=>have q:=zh (law80.ok x.queue) (zh (law4.ok x.made) (ok_t)); q,fun x a h=>by obtain ⟨x0,x1,rfl,h0,h1⟩:=decx81 h; exact zh (law80.decok _ _ h0) (zh (law4.decok _ _ h1) (rfl)),fun x a h=>by obtain ⟨x0,x1,rfl,h0,h1⟩:=decx81 h; rfl,fun x=>zx (law80.one _) (zx (law4.one _) (rfl)),fun x=>zg (law80.noid _) (zg (law4.noid _) (trivial)),(fun ks h=>nomatch h),(fun l s h=>nomatch h),(fun s l h=>nomatch h)⟩
theorem law82:CodAt C 82:=let q:=law81; ⟨q.cel,q.len,q.dec,q.ok,q.decok,q.agg,q.one,q.noid,q.kd,q.b2s,q.s2b⟩
theorem law138:CodAt C 138:=⟨fun x=>rfl,fun x=>rfl,fun x a h=>by rw [z6w (show dInt .u32 x=some a from h)]; exact .refl _,fun x=>rfl,fun x a h=>by rw [z6w (show dInt .u32 x=some a from h)]; rfl,fun x a h=>by rw [z6w (show dInt .u32 x=some a from h)]; rfl,fun a=>rfl,fun a=>z30 (NoId.v _),fun ks h a b=>by cases h; simp [z29,scal,C,celT,cel138,beqT,beq138],(fun l s h=>nomatch h),(fun s l h=>nomatch h)⟩
theorem law140:CodAt C 140:=⟨fun x=>rfl,fun x=>rfl,fun x a h=>by rw [z6w (show dInt .u64 x=some a from h)]; exact .refl _,fun x=>rfl,fun x a h=>by rw [z6w (show dInt .u64 x=some a from h)]; rfl,fun x a h=>by rw [z6w (show dInt .u64 x=some a from h)]; rfl,fun a=>rfl,fun a=>z30 (NoId.v _),fun ks h a b=>by cases h; simp [z29,scal,C,celT,cel140,beqT,beq140],(fun l s h=>nomatch h),(fun s l h=>nomatch h)⟩
theorem law154:CodAt C 154:=let q:=law155; ⟨q.cel,q.len,q.dec,q.ok,q.decok,q.agg,q.one,q.noid,q.kd,q.b2s,q.s2b⟩
theorem z12h {x:TV τ} {a:z4} (h:z10j x=some a):∃ x0 x1,x=.agg [x0,x1]∧dec4 x0=some a.made∧dec37 x1=some a.b:=by
  unfold z10j at h
  split at h
  · rename_i x0 x1
    split at h
    · rename_i a0 h0
      split at h
      · rename_i a1 h1
        cases h
        exact ⟨_,_,rfl,h0,h1⟩
      · cases h
    · cases h
  · cases h
theorem law165:CodAt C 165:=⟨fun x=>z1c (law4.cel _) (z1c (law37.cel _) (rfl)),fun x=>zw (law4.len _) (zw (law37.len _) (rfl)),fun x a h=>by obtain ⟨x0,x1,rfl,h0,h1⟩:=z12h h; exact CW.append (law4.dec _ _ h0) (CW.append (law37.dec _ _ h1) (CW.refl [])),fun x=>have q:=zh (law4.ok x.made) (zh (law37.ok x.b) (ok_t)); q,fun x a h=>by obtain ⟨x0,x1,rfl,h0,h1⟩:=z12h h; exact zh (law4.decok _ _ h0) (zh (law37.decok _ _ h1) (rfl)),fun x a h=>by obtain ⟨x0,x1,rfl,h0,h1⟩:=z12h h; rfl,fun x=>zx (law4.one _) (zx (law37.one _) (rfl)),fun x=>zg (law4.noid _) (zg (law37.noid _) (trivial)),(fun ks h=>nomatch h),(fun l s h=>nomatch h),(fun s l h=>nomatch h)⟩
theorem law166:CodAt C 166:=let q:=law165; ⟨q.cel,q.len,q.dec,q.ok,q.decok,q.agg,q.one,q.noid,q.kd,q.b2s,q.s2b⟩
theorem law186:CodAt C 186:=let q:=law165; ⟨q.cel,q.len,q.dec,q.ok,q.decok,q.agg,q.one,q.noid,q.kd,q.b2s,q.s2b⟩
theorem z12i {x:TV τ} {a:z1g} (h:dec192 x=some a):∃ x0 x1 x2,x=.agg [x0,x1,x2]∧dec37 x0=some a.B∧dec3 x1=some a.At∧dec48 x2=some a.E:=by
  unfold dec192 at h
  split at h
  · rename_i x0 x1 x2
    split at h
    · rename_i a0 h0
      split at h
      · rename_i a1 h1
        split at h
        · rename_i a2 h2
          cases h
          exact ⟨_,_,_,rfl,h0,h1,h2⟩
        · cases h
      · cases h
    · cases h
  · cases h
theorem law192:CodAt C 192:=⟨fun x=>z1c (law37.cel _) (z1c (law3.cel _) (z1c (law48.cel _) (rfl))),fun x=>zw (law37.len _) (zw (law3.len _) (zw (law48.len _) (rfl))),fun x a h=>by obtain ⟨x0,x1,x2,rfl,h0,h1,h2⟩:=z12i h; exact CW.append (law37.dec _ _ h0) (CW.append (law3.dec _ _ h1) (CW.append (law48.dec _ _ h2) (CW.refl []))),fun x=>have q:=zh (law37.ok x.B) (zh (law3.ok x.At) (zh (law48.ok x.E) (ok_t))); q,fun x a h=>by obtain ⟨x0,x1,x2,rfl,h0,h1,h2⟩:=z12i h; exact zh (law37.decok _ _ h0) (zh (law3.decok _ _ h1) (zh (law48.decok _ _ h2) (rfl))),fun x a h=>by obtain ⟨x0,x1,x2,rfl,h0,h1,h2⟩:=z12i h; rfl,fun x=>zx (law37.one _) (zx (law3.one _) (zx (law48.one _) (rfl))),fun x=>zg (law37.noid _) (zg (law3.noid _) (zg (law48.noid _) (trivial))),(fun ks h=>nomatch h),(fun l s h=>nomatch h),(fun s l h=>nomatch h)⟩
theorem law193:CodAt C 193:=let q:=law192; ⟨q.cel,q.len,q.dec,q.ok,q.decok,q.agg,q.one,q.noid,q.kd,q.b2s,q.s2b⟩
theorem law194:CodAt C 194:=⟨fun x=>rfl,fun x=>rfl,fun x a h=>(z5a (C:=C) (show dSl 3 x=some a from h)).1,fun x=>rfl,fun x a h=>(z5a (C:=C) (show dSl 3 x=some a from h)).2.1,fun x a h=>(z5a (C:=C) (show dSl 3 x=some a from h)).2.2,fun a=>rfl,fun a=>z30 (NoId.asl fun cs hc=>by obtain ⟨y,_,rfl⟩:=List.mem_map.1 hc; exact law3.noid y),(fun ks h=>nomatch h),(fun l s h=>nomatch h),(fun s l h=>nomatch h)⟩
theorem law201:CodAt C 201:=⟨fun x=>rfl,fun x=>rfl,fun x a h=>(z5a (C:=C) (show dSl 37 x=some a from h)).1,fun x=>rfl,fun x a h=>(z5a (C:=C) (show dSl 37 x=some a from h)).2.1,fun x a h=>(z5a (C:=C) (show dSl 37 x=some a from h)).2.2,fun a=>rfl,fun a=>z30 (NoId.asl fun cs hc=>by obtain ⟨y,_,rfl⟩:=List.mem_map.1 hc; exact law37.noid y),(fun ks h=>nomatch h),(fun l s h=>nomatch h),(fun s l h=>nomatch h)⟩
theorem law203:CodAt C 203:=⟨fun x=>rfl,fun x=>rfl,fun x a h=>by rw [z6w (show dInt .u64 x=some a from h)]; exact .refl _,fun x=>rfl,fun x a h=>by rw [z6w (show dInt .u64 x=some a from h)]; rfl,fun x a h=>by rw [z6w (show dInt .u64 x=some a from h)]; rfl,fun a=>rfl,fun a=>z30 (NoId.v _),fun ks h a b=>by cases h; simp [z29,scal,C,celT,cel203,beqT,beq203],(fun l s h=>nomatch h),(fun s l h=>nomatch h)⟩
theorem law229:CodAt C 229:=⟨fun x=>rfl,fun x=>rfl,fun x a h=>(z5a (C:=C) (show dSl 9 x=some a from h)).1,fun x=>rfl,fun x a h=>(z5a (C:=C) (show dSl 9 x=some a from h)).2.1,fun x a h=>(z5a (C:=C) (show dSl 9 x=some a from h)).2.2,fun a=>rfl,fun a=>z30 (NoId.asl fun cs hc=>by obtain ⟨y,_,rfl⟩:=List.mem_map.1 hc; exact law9.noid y),(fun ks h=>nomatch h),(fun l s h=>nomatch h),(fun s l h=>nomatch h)⟩
theorem lawX {t:Nat} (h:celT t=fun _=>[]) (h1:encT t=fun _=>.agg []) (h2:decT t=fun _=>none) (h3:szT t=0) (h4:kdT t=none) (h5:b2sT t=fun _=>none) (h6:s2bT t=fun _=>none):CodAt C t:=by
  refine ⟨fun x=>?_,fun x=>?_,fun x a hx=>?_,fun x=>?_,fun x a hx=>?_,fun x a hx=>?_,fun a=>?_,fun a=>?_,fun ks hk=>?_,fun l s hl=>?_,fun s l hl=>?_⟩
  · show (encT t x).cells C=celT t x; rw [h,h1]; rfl
  · show (celT t x).length=szT t; rw [h,h3]; rfl
  · have e:decT t x=some a:=hx; rw [h2] at e; cases e
  · show (encT t x).ok=true; rw [h1]; rfl
  · have e:decT t x=some a:=hx; rw [h2] at e; cases e
  · have e:decT t x=some a:=hx; rw [h2] at e; cases e
  · show (celT t a).all AV.one=true; rw [h]; rfl
  · show NoIds (celT t a); rw [h]; trivial
  · have e:kdT t=some ks:=hk; rw [h4] at e; cases e
  · have e:b2sT t l=some s:=hl; rw [h5] at e; cases e
  · have e:s2bT t s=some l:=hl; rw [h6] at e; cases e
theorem lawOther:∀ t:Nat,t≠2→t≠3→t≠4→t≠5→t≠9→t≠12→t≠21→t≠22→t≠23→t≠24→t≠25→t≠26→t≠27→t≠28→t≠29→t≠30→t≠31→t≠32→t≠33→t≠34→t≠35→t≠36→t≠37→t≠38→t≠39→t≠40→t≠41→t≠42→t≠43→t≠44→t≠48→t≠59→t≠60→t≠64→t≠65→t≠69→t≠70→t≠71→t≠72→t≠75→t≠76→t≠77→t≠79→t≠80→t≠81→t≠82→t≠138→t≠140→t≠154→t≠155→t≠165→t≠166→t≠186→t≠192→t≠193→t≠194→t≠201→t≠203→t≠229→CodAt C t
  | t, h2, h3, h4, h5, h9, h12, h21, h22, h23, h24, h25, h26, h27, h28, h29, h30, h31, h32, h33, h34, h35, h36, h37, h38, h39, h40, h41, h42, h43, h44, h48, h59, h60, h64, h65, h69, h70, h71, h72, h75, h76, h77, h79, h80, h81, h82, h138, h140, h154, h155, h165, h166, h186, h192, h193, h194, h201, h203, h229 => by
    apply lawX<;>first
      | (unfold celT; split<;>first | rfl | contradiction | (exfalso; omega))
      | (unfold encT; split<;>first | rfl | contradiction | (exfalso; omega))
      | (unfold decT; split<;>first | rfl | contradiction | (exfalso; omega))
      | (unfold szT; split<;>first | rfl | contradiction | (exfalso; omega))
      | (unfold kdT; split<;>first | rfl | contradiction | (exfalso; omega))
      | (unfold b2sT; split<;>first | rfl | contradiction | (exfalso; omega))
      | (unfold s2bT; split<;>first | rfl | contradiction | (exfalso; omega))
theorem cOk:C.Ok:=Cod.Ok.of fun t=>by
  by_cases h2:t=2
  · subst h2; exact law2
  by_cases h3:t=3
  · subst h3; exact law3
  by_cases h4:t=4
  · subst h4; exact law4
  by_cases h5:t=5
  · subst h5; exact law5
  by_cases h9:t=9
  · subst h9; exact law9
  by_cases h12:t=12
  · subst h12; exact law12
  by_cases h21:t=21
  · subst h21; exact law21
  by_cases h22:t=22
  · subst h22; exact law22
  by_cases h23:t=23
  · subst h23; exact law23
  by_cases h24:t=24
  · subst h24; exact law24
  by_cases h25:t=25
  · subst h25; exact law25
  by_cases h26:t=26
  · subst h26; exact law26
  by_cases h27:t=27
  · subst h27; exact law27
  by_cases h28:t=28
  · subst h28; exact law28
  by_cases h29:t=29
  · subst h29; exact law29
  by_cases h30:t=30
  · subst h30; exact law30
  by_cases h31:t=31
  · subst h31; exact law31
  by_cases h32:t=32
  · subst h32; exact law32
  by_cases h33:t=33
  · subst h33; exact law33
  by_cases h34:t=34
  · subst h34; exact law34
  by_cases h35:t=35
  · subst h35; exact law35
  by_cases h36:t=36
  · subst h36; exact law36
  by_cases h37:t=37
  · subst h37; exact law37
  by_cases h38:t=38
  · subst h38; exact law38
  by_cases h39:t=39
  · subst h39; exact law39
  by_cases h40:t=40
  · subst h40; exact law40
  by_cases h41:t=41
  · subst h41; exact law41
  by_cases h42:t=42
  · subst h42; exact law42
  by_cases h43:t=43
  · subst h43; exact law43
  by_cases h44:t=44
  · subst h44; exact law44
  by_cases h48:t=48
  · subst h48; exact law48
  by_cases h59:t=59
  · subst h59; exact law59
  by_cases h60:t=60
  · subst h60; exact law60
  by_cases h64:t=64
  · subst h64; exact law64
  by_cases h65:t=65
  · subst h65; exact law65
  by_cases h69:t=69
  · subst h69; exact law69
  by_cases h70:t=70
  · subst h70; exact law70
  by_cases h71:t=71
  · subst h71; exact law71
  by_cases h72:t=72
  · subst h72; exact law72
  by_cases h75:t=75
  · subst h75; exact law75
  by_cases h76:t=76
  · subst h76; exact law76
  by_cases h77:t=77
  · subst h77; exact law77
  by_cases h79:t=79
  · subst h79; exact law79
  by_cases h80:t=80
  · subst h80; exact law80
  by_cases h81:t=81
  · subst h81; exact law81
  by_cases h82:t=82
  · subst h82; exact law82
  by_cases h138:t=138
  · subst h138; exact law138
  by_cases h140:t=140
  · subst h140; exact law140
  by_cases h154:t=154
  · subst h154; exact law154
  by_cases h155:t=155
  · subst h155; exact law155
  by_cases h165:t=165
  · subst h165; exact law165
  by_cases h166:t=166
  · subst h166; exact law166
  by_cases h186:t=186
  · subst h186; exact law186
  by_cases h192:t=192
  · subst h192; exact law192
  by_cases h193:t=193
  · subst h193; exact law193
  by_cases h194:t=194
  · subst h194; exact law194
  by_cases h201:t=201
  · subst h201; exact law201
  by_cases h203:t=203
  · subst h203; exact law203
  by_cases h229:t=229
  · subst h229; exact law229
  exact lawOther t h2 h3 h4 h5 h9 h12 h21 h22 h23 h24 h25 h26 h27 h28 h29 h30 h31 h32 h33 h34 h35 h36 h37 h38 h39 h40 h41 h42 h43 h44 h48 h59 h60 h64 h65 h69 h70 h71 h72 h75 h76 h77 h79 h80 h81 h82 h138 h140 h154 h155 h165 h166 h186 h192 h193 h194 h201 h203 h229
def oi:TV τ:=.int .i64 0
def zeroT:Nat→Option (TV τ)
  | 2=>some (oi)
  | 3=>some (oi)
  | 4=>some (.bool false)
  | 5=>some (.int .u8 0)
  | 9=>some (.str [])
  | 12=>some (.int .u64 0)
  | 21=>some (.int .i32 0)
  | 22=>some (.agg [oi,oi])
  | 23=>some (.agg [oi,oi])
  | 24=>some (.agg [oi,oi])
  | 25=>some (.agg [oi,oi])
  | 26=>some (.nil .slice)
  | 27=>some (.agg [oi,oi])
  | 28=>some (.agg [oi,oi])
  | 29=>some (.agg [.agg [oi,oi],oi,oi,oi,(.str []),(.str []),(.str [])])
  | 30=>some (.agg [.agg [oi,oi],oi,oi,oi,(.str []),(.str []),(.str [])])
  | 31=>some (.nil .slice)
  | 32=>some (.arr 3 8 (Vector.replicate 8 (default:Int)))
  | 33=>some (.arr 2 8 (Vector.replicate 8 (default:Int)))
  | 34=>some (.arr 2 8 (Vector.replicate 8 (default:Int)))
  | 35=>some (.agg [oi,(.arr 3 8 (Vector.replicate 8 (default:Int))),(.arr 2 8 (Vector.replicate 8 (default:Int))),(.arr 3 8 (Vector.replicate 8 (default:Int)))])
  | 36=>some (.agg [oi,(.arr 3 8 (Vector.replicate 8 (default:Int))),(.arr 2 8 (Vector.replicate 8 (default:Int))),(.arr 3 8 (Vector.replicate 8 (default:Int)))])
  | 37=>some (.nil .slice)
  | 38=>some (.agg [oi,oi,oi,(.nil .slice)])
  | 39=>some (.agg [oi,oi,oi,(.nil .slice)])
  | 40=>some (.agg [oi,oi,oi,.agg [.agg [oi,oi],oi,oi,oi,(.str []),(.str []),(.str [])],oi,oi,(.nil .slice),.agg [oi,(.arr 3 8 (Vector.replicate 8 (default:Int))),(.arr 2 8 (Vector.replicate 8 (default:Int))),(.arr 3 8 (Vector.replicate 8 (default:Int)))],oi,(.arr 2 8 (Vector.replicate 8 (default:Int))),oi,.agg [oi,oi,oi,(.nil .slice)],oi,oi,oi])
  | 41=>some (.agg [oi,oi,oi,.agg [.agg [oi,oi],oi,oi,oi,(.str []),(.str []),(.str [])],oi,oi,(.nil .slice),.agg [oi,(.arr 3 8 (Vector.replicate 8 (default:Int))),(.arr 2 8 (Vector.replicate 8 (default:Int))),(.arr 3 8 (Vector.replicate 8 (default:Int)))],oi,(.arr 2 8 (Vector.replicate 8 (default:Int))),oi,.agg [oi,oi,oi,(.nil .slice)],oi,oi,oi])
  | 42=>some (.agg [oi,.agg [oi,oi],.agg [oi,oi],.agg [oi,oi],oi,(.nil .slice),.agg [oi,oi,oi,.agg [.agg [oi,oi],oi,oi,oi,(.str []),(.str []),(.str [])],oi,oi,(.nil .slice),.agg [oi,(.arr 3 8 (Vector.replicate 8 (default:Int))),(.arr 2 8 (Vector.replicate 8 (default:Int))),(.arr 3 8 (Vector.replicate 8 (default:Int)))],oi,(.arr 2 8 (Vector.replicate 8 (default:Int))),oi,.agg [oi,oi,oi,(.nil .slice)],oi,oi,oi],oi,(.arr 2 8 (Vector.replicate 8 (default:Int))),oi,oi,(.nil .slice),.agg [oi,(.arr 3 8 (Vector.replicate 8 (default:Int))),(.arr 2 8 (Vector.replicate 8 (default:Int))),(.arr 3 8 (Vector.replicate 8 (default:Int)))],.agg [oi,oi,oi,(.nil .slice)]])
  | 43=>some (.agg [oi,.agg [oi,oi],.agg [oi,oi],.agg [oi,oi],oi,(.nil .slice),.agg [oi,oi,oi,.agg [.agg [oi,oi],oi,oi,oi,(.str []),(.str []),(.str [])],oi,oi,(.nil .slice),.agg [oi,(.arr 3 8 (Vector.replicate 8 (default:Int))),(.arr 2 8 (Vector.replicate 8 (default:Int))),(.arr 3 8 (Vector.replicate 8 (default:Int)))],oi,(.arr 2 8 (Vector.replicate 8 (default:Int))),oi,.agg [oi,oi,oi,(.nil .slice)],oi,oi,oi],oi,(.arr 2 8 (Vector.replicate 8 (default:Int))),oi,oi,(.nil .slice),.agg [oi,(.arr 3 8 (Vector.replicate 8 (default:Int))),(.arr 2 8 (Vector.replicate 8 (default:Int))),(.arr 3 8 (Vector.replicate 8 (default:Int)))],.agg [oi,oi,oi,(.nil .slice)]])
  | 44=>some (.int .u16 0)
  | 45=>some (.nil .ptr)
  | 48=>some (oi)
  | 59=>some (.nil .slice)
  | 60=>some (.nil .slice)
  | 64=>some (.agg [oi,.agg [oi,oi],.agg [oi,oi],(.nil .slice)])
  | 65=>some (.agg [oi,.agg [oi,oi],.agg [oi,oi],(.nil .slice)])
  | 69=>some (.nil .slice)
  | 70=>some (.nil .slice)
  | 71=>some (.agg [oi,(.nil .slice),oi,oi,(.int .u8 0),(.nil .slice),oi])
  | 72=>some (.agg [oi,(.nil .slice),oi,oi,(.int .u8 0),(.nil .slice),oi])
  | 75=>some (.nil .slice)
  | 76=>some (.agg [(.nil .slice),oi])
  | 77=>some (.agg [(.nil .slice),oi])
  | 79=>some (.agg [(.nil .slice),oi])
  | 80=>some (.agg [(.nil .slice),oi])
  | 81=>some (.agg [.agg [(.nil .slice),oi],(.bool false)])
  | 82=>some (.agg [.agg [(.nil .slice),oi],(.bool false)])
  | 112=>some (.nil .ptr)
  | 115=>some (.agg [(.nil .ptr),oi])
  | 138=>some (.int .u32 0)
  | 140=>some (.int .u64 0)
  | 146=>some (.nil .ptr)
  | 149=>some (.agg [(.nil .ptr),oi])
  | 154=>some (.agg [oi,.agg [oi,oi],.agg [oi,oi,oi,.agg [.agg [oi,oi],oi,oi,oi,(.str []),(.str []),(.str [])],oi,oi,(.nil .slice),.agg [oi,(.arr 3 8 (Vector.replicate 8 (default:Int))),(.arr 2 8 (Vector.replicate 8 (default:Int))),(.arr 3 8 (Vector.replicate 8 (default:Int)))],oi,(.arr 2 8 (Vector.replicate 8 (default:Int))),oi,.agg [oi,oi,oi,(.nil .slice)],oi,oi,oi]])
  | 155=>some (.agg [oi,.agg [oi,oi],.agg [oi,oi,oi,.agg [.agg [oi,oi],oi,oi,oi,(.str []),(.str []),(.str [])],oi,oi,(.nil .slice),.agg [oi,(.arr 3 8 (Vector.replicate 8 (default:Int))),(.arr 2 8 (Vector.replicate 8 (default:Int))),(.arr 3 8 (Vector.replicate 8 (default:Int)))],oi,(.arr 2 8 (Vector.replicate 8 (default:Int))),oi,.agg [oi,oi,oi,(.nil .slice)],oi,oi,oi]])
  | 165=>some (.agg [(.bool false),(.nil .slice)])
  | 166=>some (.agg [(.bool false),(.nil .slice)])
  | 186=>some (.agg [(.bool false),(.nil .slice)])
  | 188=>some (.nil .ptr)
  | 192=>some (.agg [(.nil .slice),oi,oi])
  | 193=>some (.agg [(.nil .slice),oi,oi])
  | 194=>some (.nil .slice)
  | 201=>some (.nil .slice)
  | 203=>some (.int .u64 0)
  | 206=>some (.nil .slice)
  | 209=>some (.nil .ptr)
  | 226=>some (.nil .slice)
  | 229=>some (.nil .slice)
  | _=>none
def Zok (t:Nat) (z:TV τ):Prop:=∃ i,E.ty t=some i∧z.ok=true∧CW i.zero (z.cells C)∧z.isAgg=i.agg
theorem zok2:Zok 2 (oi):=⟨ti2,rfl,rfl,CW.of_eq (by kernel_rfl),rfl⟩
theorem zok3:Zok 3 (oi):=⟨ti3,rfl,rfl,CW.of_eq (by kernel_rfl),rfl⟩
theorem zok4:Zok 4 (.bool false):=⟨ti4,rfl,rfl,CW.of_eq (by kernel_rfl),rfl⟩
theorem zok5:Zok 5 (.int .u8 0):=⟨ti5,rfl,rfl,CW.of_eq (by kernel_rfl),rfl⟩
theorem zok9:Zok 9 (.str []):=⟨ti9,rfl,rfl,CW.of_eq (by kernel_rfl),rfl⟩
theorem zok12:Zok 12 (.int .u64 0):=⟨ti12,rfl,rfl,CW.of_eq (by kernel_rfl),rfl⟩
theorem zok21:Zok 21 (.int .i32 0):=⟨ti21,rfl,rfl,CW.of_eq (by kernel_rfl),rfl⟩
theorem zok22:Zok 22 (.agg [oi,oi]):=⟨ti22,rfl,rfl,CW.of_eq (by kernel_rfl),rfl⟩
theorem zok23:Zok 23 (.agg [oi,oi]):=⟨ti23,rfl,rfl,CW.of_eq (by kernel_rfl),rfl⟩
theorem zok24:Zok 24 (.agg [oi,oi]):=⟨ti24,rfl,rfl,CW.of_eq (by kernel_rfl),rfl⟩
theorem zok25:Zok 25 (.agg [oi,oi]):=⟨ti25,rfl,rfl,CW.of_eq (by kernel_rfl),rfl⟩
theorem zok26:Zok 26 (.nil .slice):=⟨ti26,rfl,rfl,CW.of_eq (by kernel_rfl),rfl⟩
theorem zok27:Zok 27 (.agg [oi,oi]):=⟨ti27,rfl,rfl,CW.of_eq (by kernel_rfl),rfl⟩
theorem zok28:Zok 28 (.agg [oi,oi]):=⟨ti28,rfl,rfl,CW.of_eq (by kernel_rfl),rfl⟩
theorem zok29:Zok 29 (.agg [.agg [oi,oi],oi,oi,oi,(.str []),(.str []),(.str [])]):=⟨ti29,rfl,rfl,CW.of_eq (by kernel_rfl),rfl⟩
theorem zok30:Zok 30 (.agg [.agg [oi,oi],oi,oi,oi,(.str []),(.str []),(.str [])]):=⟨ti30,rfl,rfl,CW.of_eq (by kernel_rfl),rfl⟩
theorem zok31:Zok 31 (.nil .slice):=⟨ti31,rfl,rfl,CW.of_eq (by kernel_rfl),rfl⟩
theorem zok32:Zok 32 (.arr 3 8 (Vector.replicate 8 (default:Int))):=⟨ti32,rfl,rfl,CW.of_eq (by kernel_rfl),rfl⟩
theorem zok33:Zok 33 (.arr 2 8 (Vector.replicate 8 (default:Int))):=⟨ti33,rfl,rfl,CW.of_eq (by kernel_rfl),rfl⟩
theorem zok34:Zok 34 (.arr 2 8 (Vector.replicate 8 (default:Int))):=⟨ti34,rfl,rfl,CW.of_eq (by kernel_rfl),rfl⟩
theorem zok35:Zok 35 (.agg [oi,(.arr 3 8 (Vector.replicate 8 (default:Int))),(.arr 2 8 (Vector.replicate 8 (default:Int))),(.arr 3 8 (Vector.replicate 8 (default:Int)))]):=⟨ti35,rfl,rfl,CW.of_eq (by kernel_rfl),rfl⟩
theorem zok36:Zok 36 (.agg [oi,(.arr 3 8 (Vector.replicate 8 (default:Int))),(.arr 2 8 (Vector.replicate 8 (default:Int))),(.arr 3 8 (Vector.replicate 8 (default:Int)))]):=⟨ti36,rfl,rfl,CW.of_eq (by kernel_rfl),rfl⟩
theorem zok37:Zok 37 (.nil .slice):=⟨ti37,rfl,rfl,CW.of_eq (by kernel_rfl),rfl⟩
theorem zok38:Zok 38 (.agg [oi,oi,oi,(.nil .slice)]):=⟨ti38,rfl,rfl,CW.of_eq (by kernel_rfl),rfl⟩
theorem zok39:Zok 39 (.agg [oi,oi,oi,(.nil .slice)]):=⟨ti39,rfl,rfl,CW.of_eq (by kernel_rfl),rfl⟩
theorem zok40:Zok 40 (.agg [oi,oi,oi,.agg [.agg [oi,oi],oi,oi,oi,(.str []),(.str []),(.str [])],oi,oi,(.nil .slice),.agg [oi,(.arr 3 8 (Vector.replicate 8 (default:Int))),(.arr 2 8 (Vector.replicate 8 (default:Int))),(.arr 3 8 (Vector.replicate 8 (default:Int)))],oi,(.arr 2 8 (Vector.replicate 8 (default:Int))),oi,.agg [oi,oi,oi,(.nil .slice)],oi,oi,oi]):=⟨ti40,rfl,rfl,CW.of_eq (by kernel_rfl),rfl⟩
theorem zok41:Zok 41 (.agg [oi,oi,oi,.agg [.agg [oi,oi],oi,oi,oi,(.str []),(.str []),(.str [])],oi,oi,(.nil .slice),.agg [oi,(.arr 3 8 (Vector.replicate 8 (default:Int))),(.arr 2 8 (Vector.replicate 8 (default:Int))),(.arr 3 8 (Vector.replicate 8 (default:Int)))],oi,(.arr 2 8 (Vector.replicate 8 (default:Int))),oi,.agg [oi,oi,oi,(.nil .slice)],oi,oi,oi]):=⟨ti41,rfl,rfl,CW.of_eq (by kernel_rfl),rfl⟩
theorem zok42:Zok 42 (.agg [oi,.agg [oi,oi],.agg [oi,oi],.agg [oi,oi],oi,(.nil .slice),.agg [oi,oi,oi,.agg [.agg [oi,oi],oi,oi,oi,(.str []),(.str []),(.str [])],oi,oi,(.nil .slice),.agg [oi,(.arr 3 8 (Vector.replicate 8 (default:Int))),(.arr 2 8 (Vector.replicate 8 (default:Int))),(.arr 3 8 (Vector.replicate 8 (default:Int)))],oi,(.arr 2 8 (Vector.replicate 8 (default:Int))),oi,.agg [oi,oi,oi,(.nil .slice)],oi,oi,oi],oi,(.arr 2 8 (Vector.replicate 8 (default:Int))),oi,oi,(.nil .slice),.agg [oi,(.arr 3 8 (Vector.replicate 8 (default:Int))),(.arr 2 8 (Vector.replicate 8 (default:Int))),(.arr 3 8 (Vector.replicate 8 (default:Int)))],.agg [oi,oi,oi,(.nil .slice)]]):=⟨ti42,rfl,rfl,CW.of_eq (by kernel_rfl),rfl⟩
theorem zok43:Zok 43 (.agg [oi,.agg [oi,oi],.agg [oi,oi],.agg [oi,oi],oi,(.nil .slice),.agg [oi,oi,oi,.agg [.agg [oi,oi],oi,oi,oi,(.str []),(.str []),(.str [])],oi,oi,(.nil .slice),.agg [oi,(.arr 3 8 (Vector.replicate 8 (default:Int))),(.arr 2 8 (Vector.replicate 8 (default:Int))),(.arr 3 8 (Vector.replicate 8 (default:Int)))],oi,(.arr 2 8 (Vector.replicate 8 (default:Int))),oi,.agg [oi,oi,oi,(.nil .slice)],oi,oi,oi],oi,(.arr 2 8 (Vector.replicate 8 (default:Int))),oi,oi,(.nil .slice),.agg [oi,(.arr 3 8 (Vector.replicate 8 (default:Int))),(.arr 2 8 (Vector.replicate 8 (default:Int))),(.arr 3 8 (Vector.replicate 8 (default:Int)))],.agg [oi,oi,oi,(.nil .slice)]]):=⟨ti43,rfl,rfl,CW.of_eq (by kernel_rfl),rfl⟩
theorem zok44:Zok 44 (.int .u16 0):=⟨ti44,rfl,rfl,CW.of_eq (by kernel_rfl),rfl⟩
theorem zok45:Zok 45 (.nil .ptr):=⟨ti45,rfl,rfl,CW.of_eq (by kernel_rfl),rfl⟩
theorem zok48:Zok 48 (oi):=⟨ti48,rfl,rfl,CW.of_eq (by kernel_rfl),rfl⟩
theorem zok59:Zok 59 (.nil .slice):=⟨ti59,rfl,rfl,CW.of_eq (by kernel_rfl),rfl⟩
theorem zok60:Zok 60 (.nil .slice):=⟨ti60,rfl,rfl,CW.of_eq (by kernel_rfl),rfl⟩
theorem zok64:Zok 64 (.agg [oi,.agg [oi,oi],.agg [oi,oi],(.nil .slice)]):=⟨ti64,rfl,rfl,CW.of_eq (by kernel_rfl),rfl⟩
theorem zok65:Zok 65 (.agg [oi,.agg [oi,oi],.agg [oi,oi],(.nil .slice)]):=⟨ti65,rfl,rfl,CW.of_eq (by kernel_rfl),rfl⟩
theorem zok69:Zok 69 (.nil .slice):=⟨ti69,rfl,rfl,CW.of_eq (by kernel_rfl),rfl⟩
theorem zok70:Zok 70 (.nil .slice):=⟨ti70,rfl,rfl,CW.of_eq (by kernel_rfl),rfl⟩
theorem zok71:Zok 71 (.agg [oi,(.nil .slice),oi,oi,(.int .u8 0),(.nil .slice),oi]):=⟨ti71,rfl,rfl,CW.of_eq (by kernel_rfl),rfl⟩
theorem zok72:Zok 72 (.agg [oi,(.nil .slice),oi,oi,(.int .u8 0),(.nil .slice),oi]):=⟨ti72,rfl,rfl,CW.of_eq (by kernel_rfl),rfl⟩
theorem zok75:Zok 75 (.nil .slice):=⟨ti75,rfl,rfl,CW.of_eq (by kernel_rfl),rfl⟩
theorem zok76:Zok 76 (.agg [(.nil .slice),oi]):=⟨ti76,rfl,rfl,CW.of_eq (by kernel_rfl),rfl⟩
theorem zok77:Zok 77 (.agg [(.nil .slice),oi]):=⟨ti77,rfl,rfl,CW.of_eq (by kernel_rfl),rfl⟩
theorem zok79:Zok 79 (.agg [(.nil .slice),oi]):=⟨ti79,rfl,rfl,CW.of_eq (by kernel_rfl),rfl⟩
theorem zok80:Zok 80 (.agg [(.nil .slice),oi]):=⟨ti80,rfl,rfl,CW.of_eq (by kernel_rfl),rfl⟩
theorem zok81:Zok 81 (.agg [.agg [(.nil .slice),oi],(.bool false)]):=⟨ti81,rfl,rfl,CW.of_eq (by kernel_rfl),rfl⟩
theorem zok82:Zok 82 (.agg [.agg [(.nil .slice),oi],(.bool false)]):=⟨ti82,rfl,rfl,CW.of_eq (by kernel_rfl),rfl⟩
theorem zok112:Zok 112 (.nil .ptr):=⟨ti112,rfl,rfl,CW.of_eq (by kernel_rfl),rfl⟩
theorem zok115:Zok 115 (.agg [(.nil .ptr),oi]):=⟨ti115,rfl,rfl,CW.of_eq (by kernel_rfl),rfl⟩
theorem zok138:Zok 138 (.int .u32 0):=⟨ti138,rfl,rfl,CW.of_eq (by kernel_rfl),rfl⟩
theorem zok140:Zok 140 (.int .u64 0):=⟨ti140,rfl,rfl,CW.of_eq (by kernel_rfl),rfl⟩
theorem zok146:Zok 146 (.nil .ptr):=⟨ti146,rfl,rfl,CW.of_eq (by kernel_rfl),rfl⟩
theorem zok149:Zok 149 (.agg [(.nil .ptr),oi]):=⟨ti149,rfl,rfl,CW.of_eq (by kernel_rfl),rfl⟩
theorem zok154:Zok 154 (.agg [oi,.agg [oi,oi],.agg [oi,oi,oi,.agg [.agg [oi,oi],oi,oi,oi,(.str []),(.str []),(.str [])],oi,oi,(.nil .slice),.agg [oi,(.arr 3 8 (Vector.replicate 8 (default:Int))),(.arr 2 8 (Vector.replicate 8 (default:Int))),(.arr 3 8 (Vector.replicate 8 (default:Int)))],oi,(.arr 2 8 (Vector.replicate 8 (default:Int))),oi,.agg [oi,oi,oi,(.nil .slice)],oi,oi,oi]]):=⟨ti154,rfl,rfl,CW.of_eq (by kernel_rfl),rfl⟩
theorem zok155:Zok 155 (.agg [oi,.agg [oi,oi],.agg [oi,oi,oi,.agg [.agg [oi,oi],oi,oi,oi,(.str []),(.str []),(.str [])],oi,oi,(.nil .slice),.agg [oi,(.arr 3 8 (Vector.replicate 8 (default:Int))),(.arr 2 8 (Vector.replicate 8 (default:Int))),(.arr 3 8 (Vector.replicate 8 (default:Int)))],oi,(.arr 2 8 (Vector.replicate 8 (default:Int))),oi,.agg [oi,oi,oi,(.nil .slice)],oi,oi,oi]]):=⟨ti155,rfl,rfl,CW.of_eq (by kernel_rfl),rfl⟩
theorem zok165:Zok 165 (.agg [(.bool false),(.nil .slice)]):=⟨ti165,rfl,rfl,CW.of_eq (by kernel_rfl),rfl⟩
theorem zok166:Zok 166 (.agg [(.bool false),(.nil .slice)]):=⟨ti166,rfl,rfl,CW.of_eq (by kernel_rfl),rfl⟩
theorem zok186:Zok 186 (.agg [(.bool false),(.nil .slice)]):=⟨ti186,rfl,rfl,CW.of_eq (by kernel_rfl),rfl⟩
theorem zok188:Zok 188 (.nil .ptr):=⟨ti188,rfl,rfl,CW.of_eq (by kernel_rfl),rfl⟩
theorem zok192:Zok 192 (.agg [(.nil .slice),oi,oi]):=⟨ti192,rfl,rfl,CW.of_eq (by kernel_rfl),rfl⟩
theorem zok193:Zok 193 (.agg [(.nil .slice),oi,oi]):=⟨ti193,rfl,rfl,CW.of_eq (by kernel_rfl),rfl⟩
theorem zok194:Zok 194 (.nil .slice):=⟨ti194,rfl,rfl,CW.of_eq (by kernel_rfl),rfl⟩
theorem zok201:Zok 201 (.nil .slice):=⟨ti201,rfl,rfl,CW.of_eq (by kernel_rfl),rfl⟩
theorem zok203:Zok 203 (.int .u64 0):=⟨ti203,rfl,rfl,CW.of_eq (by kernel_rfl),rfl⟩
theorem zok206:Zok 206 (.nil .slice):=⟨ti206,rfl,rfl,CW.of_eq (by kernel_rfl),rfl⟩
theorem zok209:Zok 209 (.nil .ptr):=⟨ti209,rfl,rfl,CW.of_eq (by kernel_rfl),rfl⟩
theorem zok226:Zok 226 (.nil .slice):=⟨ti226,rfl,rfl,CW.of_eq (by kernel_rfl),rfl⟩
theorem zok229:Zok 229 (.nil .slice):=⟨ti229,rfl,rfl,CW.of_eq (by kernel_rfl),rfl⟩
noncomputable def D0:TEnv τ:=⟨E,C,zeroT⟩
theorem zeroOk:∀ t x,zeroT t=some x→∃ i,E.ty t=some i∧x.ok=true∧CW i.zero (x.cells C)∧x.isAgg=i.agg:=by
  intro t x h
  unfold zeroT at h
  split at h<;>first
    | (cases h; first | exact zok2 | exact zok3 | exact zok4 | exact zok5 | exact zok9 | exact zok12 | exact zok21 | exact zok22 | exact zok23 | exact zok24 | exact zok25 | exact zok26 | exact zok27 | exact zok28 | exact zok29 | exact zok30 | exact zok31 | exact zok32 | exact zok33 | exact zok34 | exact zok35 | exact zok36 | exact zok37 | exact zok38 | exact zok39 | exact zok40 | exact zok41 | exact zok42 | exact zok43 | exact zok44 | exact zok45 | exact zok48 | exact zok59 | exact zok60 | exact zok64 | exact zok65 | exact zok69 | exact zok70 | exact zok71 | exact zok72 | exact zok75 | exact zok76 | exact zok77 | exact zok79 | exact zok80 | exact zok81 | exact zok82 | exact zok112 | exact zok115 | exact zok138 | exact zok140 | exact zok146 | exact zok149 | exact zok154 | exact zok155 | exact zok165 | exact zok166 | exact zok186 | exact zok188 | exact zok192 | exact zok193 | exact zok194 | exact zok201 | exact zok203 | exact zok206 | exact zok209 | exact zok226 | exact zok229)
    | cases h
theorem d0Ok:D0.Ok:=⟨eOk,eEq,cOk,zeroOk⟩
end Go.Proofs.YtddpmkmgbdedlaaGreat
