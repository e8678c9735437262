/-
The types of this seat's program,as the evaluator asks them,and how their data are told. Written by wip/tools/gen2.py.
-/
import Derived.Test.YteinehkdjkobnaaGreatProg
import Derived.Test.YteinehkdjkobnaaGreatqTvR
import Derived.KernelRfl
set_option linter.unusedVariables false
set_option linter.unusedSimpArgs false
set_option maxHeartbeats 8000000
set_option maxRecDepth 100000
namespace Go.Proofs.YteinehkdjkobnaaGreat
open Go Go.Ev
def ti2:TI:=⟨.int .i64,1,8,[.v (.int .i64 0)]⟩
def ti3:TI:=⟨.int .i64,1,8,[.v (.int .i64 0)]⟩
def ti4:TI:=⟨.bool,1,1,[.v (.bool false)]⟩
def ti5:TI:=⟨.int .u8,1,1,[.v (.int .u8 0)]⟩
def ti9:TI:=⟨.string,1,16,[.v (.string ⟨#[]⟩)]⟩
def ti12:TI:=⟨.int .u64,1,8,[.v (.int .u64 0)]⟩
def ti21:TI:=⟨.int .i32,1,4,[.v (.int .i32 0)]⟩
def ti22 : TI := ⟨.struct #[⟨ "Time", 2, 0, false, "", "", 0⟩, ⟨ "Site", 3, 1, false, "", "", 8⟩], 2, 16, [.v (.int .i64 0), .v (.int .i64 0)]⟩
def ti23 : TI := ⟨.struct #[⟨ "Time", 2, 0, false, "", "", 0⟩, ⟨ "Site", 3, 1, false, "", "", 8⟩], 2, 16, [.v (.int .i64 0), .v (.int .i64 0)]⟩
def ti24 : TI := ⟨.struct #[⟨ "Stamp", 23, 0, false, "", "", 0⟩, ⟨ "Kind", 3, 2, false, "", "", 16⟩, ⟨ "Node", 2, 3, false, "", "", 24⟩, ⟨ "Parent", 2, 4, false, "", "", 32⟩, ⟨ "Name", 9, 5, false, "", "", 40⟩, ⟨ "Key", 9, 6, false, "", "", 56⟩, ⟨ "Value", 9, 7, false, "", "", 72⟩], 8, 88, [.v (.int .i64 0), .v (.int .i64 0), .v (.int .i64 0), .v (.int .i64 0), .v (.int .i64 0), .v (.string ⟨#[]⟩), .v (.string ⟨#[]⟩), .v (.string ⟨#[]⟩)]⟩
def ti25 : TI := ⟨.struct #[⟨ "Stamp", 23, 0, false, "", "", 0⟩, ⟨ "Kind", 3, 2, false, "", "", 16⟩, ⟨ "Node", 2, 3, false, "", "", 24⟩, ⟨ "Parent", 2, 4, false, "", "", 32⟩, ⟨ "Name", 9, 5, false, "", "", 40⟩, ⟨ "Key", 9, 6, false, "", "", 56⟩, ⟨ "Value", 9, 7, false, "", "", 72⟩], 8, 88, [.v (.int .i64 0), .v (.int .i64 0), .v (.int .i64 0), .v (.int .i64 0), .v (.int .i64 0), .v (.string ⟨#[]⟩), .v (.string ⟨#[]⟩), .v (.string ⟨#[]⟩)]⟩
def ti26:TI:=⟨.array 8 3,8,64,[.v (.int .i64 0),.v (.int .i64 0),.v (.int .i64 0),.v (.int .i64 0),.v (.int .i64 0),.v (.int .i64 0),.v (.int .i64 0),.v (.int .i64 0)]⟩
def ti27:TI:=⟨.array 8 2,8,64,[.v (.int .i64 0),.v (.int .i64 0),.v (.int .i64 0),.v (.int .i64 0),.v (.int .i64 0),.v (.int .i64 0),.v (.int .i64 0),.v (.int .i64 0)]⟩
def ti28:TI:=⟨.array 8 2,8,64,[.v (.int .i64 0),.v (.int .i64 0),.v (.int .i64 0),.v (.int .i64 0),.v (.int .i64 0),.v (.int .i64 0),.v (.int .i64 0),.v (.int .i64 0)]⟩
def ti29 : TI := ⟨.struct #[⟨ "Number", 2, 0, false, "", "", 0⟩, ⟨ "States", 26, 1, false, "", "", 8⟩, ⟨ "Seals", 28, 9, false, "", "", 72⟩, ⟨ "Sponsor", 26, 17, false, "", "", 136⟩], 25, 200, [.v (.int .i64 0), .v (.int .i64 0), .v (.int .i64 0), .v (.int .i64 0), .v (.int .i64 0), .v (.int .i64 0), .v (.int .i64 0), .v (.int .i64 0), .v (.int .i64 0), .v (.int .i64 0), .v (.int .i64 0), .v (.int .i64 0), .v (.int .i64 0), .v (.int .i64 0), .v (.int .i64 0), .v (.int .i64 0), .v (.int .i64 0), .v (.int .i64 0), .v (.int .i64 0), .v (.int .i64 0), .v (.int .i64 0), .v (.int .i64 0), .v (.int .i64 0), .v (.int .i64 0), .v (.int .i64 0)]⟩
def ti30 : TI := ⟨.struct #[⟨ "Number", 2, 0, false, "", "", 0⟩, ⟨ "States", 26, 1, false, "", "", 8⟩, ⟨ "Seals", 28, 9, false, "", "", 72⟩, ⟨ "Sponsor", 26, 17, false, "", "", 136⟩], 25, 200, [.v (.int .i64 0), .v (.int .i64 0), .v (.int .i64 0), .v (.int .i64 0), .v (.int .i64 0), .v (.int .i64 0), .v (.int .i64 0), .v (.int .i64 0), .v (.int .i64 0), .v (.int .i64 0), .v (.int .i64 0), .v (.int .i64 0), .v (.int .i64 0), .v (.int .i64 0), .v (.int .i64 0), .v (.int .i64 0), .v (.int .i64 0), .v (.int .i64 0), .v (.int .i64 0), .v (.int .i64 0), .v (.int .i64 0), .v (.int .i64 0), .v (.int .i64 0), .v (.int .i64 0), .v (.int .i64 0)]⟩
def ti31:TI:=⟨.slice 5,1,24,[.v (.slice none 0 0)]⟩
def ti32:TI:=⟨.pointer 87,1,8,[.v (.pointer none)]⟩
def ti35:TI:=⟨.int .i64,1,8,[.v (.int .i64 0)]⟩
def ti44:TI:=⟨.pointer 99,1,8,[.v (.pointer none)]⟩
def ti47 : TI := ⟨.struct #[⟨ "B", 31, 0, false, "", "", 0⟩, ⟨ "At", 3, 1, false, "", "", 24⟩, ⟨ "E", 35, 2, false, "", "", 32⟩], 3, 40, [.v (.slice none 0 0), .v (.int .i64 0), .v (.int .i64 0)]⟩
def ti48 : TI := ⟨.struct #[⟨ "B", 31, 0, false, "", "", 0⟩, ⟨ "At", 3, 1, false, "", "", 24⟩, ⟨ "E", 35, 2, false, "", "", 32⟩], 3, 40, [.v (.slice none 0 0), .v (.int .i64 0), .v (.int .i64 0)]⟩
def ti60:TI:=⟨.slice 25,1,24,[.v (.slice none 0 0)]⟩
def ti61 : TI := ⟨.struct #[⟨ "Snap", 2, 0, false, "", "", 0⟩, ⟨ "Index", 3, 1, false, "", "", 8⟩, ⟨ "Many", 3, 2, false, "", "", 16⟩, ⟨ "Data", 31, 3, false, "", "", 24⟩], 4, 48, [.v (.int .i64 0), .v (.int .i64 0), .v (.int .i64 0), .v (.slice none 0 0)]⟩
def ti62 : TI := ⟨.struct #[⟨ "Snap", 2, 0, false, "", "", 0⟩, ⟨ "Index", 3, 1, false, "", "", 8⟩, ⟨ "Many", 3, 2, false, "", "", 16⟩, ⟨ "Data", 31, 3, false, "", "", 24⟩], 4, 48, [.v (.int .i64 0), .v (.int .i64 0), .v (.int .i64 0), .v (.slice none 0 0)]⟩
def ti63 : TI := ⟨.struct #[⟨ "Kind", 3, 0, false, "", "", 0⟩, ⟨ "Session", 2, 1, false, "", "", 8⟩, ⟨ "Request", 2, 2, false, "", "", 16⟩, ⟨ "Op", 25, 3, false, "", "", 24⟩, ⟨ "Origin", 3, 11, false, "", "", 112⟩, ⟨ "Seq", 2, 12, false, "", "", 120⟩, ⟨ "Ops", 60, 13, false, "", "", 128⟩, ⟨ "Epoch", 30, 14, false, "", "", 152⟩, ⟨ "From", 3, 39, false, "", "", 352⟩, ⟨ "Vector", 28, 40, false, "", "", 360⟩, ⟨ "Clock", 2, 48, false, "", "", 424⟩, ⟨ "Part", 62, 49, false, "", "", 432⟩, ⟨ "Site", 3, 53, false, "", "", 480⟩, ⟨ "Sponsor", 3, 54, false, "", "", 488⟩, ⟨ "Length", 2, 55, false, "", "", 496⟩], 56, 504, [.v (.int .i64 0), .v (.int .i64 0), .v (.int .i64 0), .v (.int .i64 0), .v (.int .i64 0), .v (.int .i64 0), .v (.int .i64 0), .v (.int .i64 0), .v (.string ⟨#[]⟩), .v (.string ⟨#[]⟩), .v (.string ⟨#[]⟩), .v (.int .i64 0), .v (.int .i64 0), .v (.slice none 0 0), .v (.int .i64 0), .v (.int .i64 0), .v (.int .i64 0), .v (.int .i64 0), .v (.int .i64 0), .v (.int .i64 0), .v (.int .i64 0), .v (.int .i64 0), .v (.int .i64 0), .v (.int .i64 0), .v (.int .i64 0), .v (.int .i64 0), .v (.int .i64 0), .v (.int .i64 0), .v (.int .i64 0), .v (.int .i64 0), .v (.int .i64 0), .v (.int .i64 0), .v (.int .i64 0), .v (.int .i64 0), .v (.int .i64 0), .v (.int .i64 0), .v (.int .i64 0), .v (.int .i64 0), .v (.int .i64 0), .v (.int .i64 0), .v (.int .i64 0), .v (.int .i64 0), .v (.int .i64 0), .v (.int .i64 0), .v (.int .i64 0), .v (.int .i64 0), .v (.int .i64 0), .v (.int .i64 0), .v (.int .i64 0), .v (.int .i64 0), .v (.int .i64 0), .v (.int .i64 0), .v (.slice none 0 0), .v (.int .i64 0), .v (.int .i64 0), .v (.int .i64 0)]⟩
def ti64 : TI := ⟨.struct #[⟨ "Kind", 3, 0, false, "", "", 0⟩, ⟨ "Session", 2, 1, false, "", "", 8⟩, ⟨ "Request", 2, 2, false, "", "", 16⟩, ⟨ "Op", 25, 3, false, "", "", 24⟩, ⟨ "Origin", 3, 11, false, "", "", 112⟩, ⟨ "Seq", 2, 12, false, "", "", 120⟩, ⟨ "Ops", 60, 13, false, "", "", 128⟩, ⟨ "Epoch", 30, 14, false, "", "", 152⟩, ⟨ "From", 3, 39, false, "", "", 352⟩, ⟨ "Vector", 28, 40, false, "", "", 360⟩, ⟨ "Clock", 2, 48, false, "", "", 424⟩, ⟨ "Part", 62, 49, false, "", "", 432⟩, ⟨ "Site", 3, 53, false, "", "", 480⟩, ⟨ "Sponsor", 3, 54, false, "", "", 488⟩, ⟨ "Length", 2, 55, false, "", "", 496⟩], 56, 504, [.v (.int .i64 0), .v (.int .i64 0), .v (.int .i64 0), .v (.int .i64 0), .v (.int .i64 0), .v (.int .i64 0), .v (.int .i64 0), .v (.int .i64 0), .v (.string ⟨#[]⟩), .v (.string ⟨#[]⟩), .v (.string ⟨#[]⟩), .v (.int .i64 0), .v (.int .i64 0), .v (.slice none 0 0), .v (.int .i64 0), .v (.int .i64 0), .v (.int .i64 0), .v (.int .i64 0), .v (.int .i64 0), .v (.int .i64 0), .v (.int .i64 0), .v (.int .i64 0), .v (.int .i64 0), .v (.int .i64 0), .v (.int .i64 0), .v (.int .i64 0), .v (.int .i64 0), .v (.int .i64 0), .v (.int .i64 0), .v (.int .i64 0), .v (.int .i64 0), .v (.int .i64 0), .v (.int .i64 0), .v (.int .i64 0), .v (.int .i64 0), .v (.int .i64 0), .v (.int .i64 0), .v (.int .i64 0), .v (.int .i64 0), .v (.int .i64 0), .v (.int .i64 0), .v (.int .i64 0), .v (.int .i64 0), .v (.int .i64 0), .v (.int .i64 0), .v (.int .i64 0), .v (.int .i64 0), .v (.int .i64 0), .v (.int .i64 0), .v (.int .i64 0), .v (.int .i64 0), .v (.int .i64 0), .v (.slice none 0 0), .v (.int .i64 0), .v (.int .i64 0), .v (.int .i64 0)]⟩
def ti65 : TI := ⟨.struct #[⟨ "Group", 3, 0, false, "", "", 0⟩, ⟨ "Replica", 3, 1, false, "", "", 8⟩], 2, 16, [.v (.int .i64 0), .v (.int .i64 0)]⟩
def ti66 : TI := ⟨.struct #[⟨ "Group", 3, 0, false, "", "", 0⟩, ⟨ "Replica", 3, 1, false, "", "", 8⟩], 2, 16, [.v (.int .i64 0), .v (.int .i64 0)]⟩
def ti67 : TI := ⟨.struct #[⟨ "Round", 2, 0, false, "", "", 0⟩, ⟨ "Replica", 3, 1, false, "", "", 8⟩], 2, 16, [.v (.int .i64 0), .v (.int .i64 0)]⟩
def ti68 : TI := ⟨.struct #[⟨ "Round", 2, 0, false, "", "", 0⟩, ⟨ "Replica", 3, 1, false, "", "", 8⟩], 2, 16, [.v (.int .i64 0), .v (.int .i64 0)]⟩
def ti69:TI:=⟨.slice 178,1,24,[.v (.slice none 0 0)]⟩
def ti70 : TI := ⟨.struct #[⟨ "Kind", 3, 0, false, "", "", 0⟩, ⟨ "From", 66, 1, false, "", "", 8⟩, ⟨ "To", 66, 3, false, "", "", 24⟩, ⟨ "Ballot", 68, 5, false, "", "", 40⟩, ⟨ "Slot", 2, 7, false, "", "", 56⟩, ⟨ "List", 69, 8, false, "", "", 64⟩, ⟨ "Entry", 64, 9, false, "", "", 88⟩, ⟨ "Number", 2, 65, false, "", "", 592⟩, ⟨ "Vector", 28, 66, false, "", "", 600⟩, ⟨ "Clock", 2, 74, false, "", "", 664⟩, ⟨ "Origin", 3, 75, false, "", "", 672⟩, ⟨ "Ops", 60, 76, false, "", "", 680⟩, ⟨ "Epoch", 30, 77, false, "", "", 704⟩, ⟨ "Part", 62, 102, false, "", "", 904⟩], 106, 952, [.v (.int .i64 0), .v (.int .i64 0), .v (.int .i64 0), .v (.int .i64 0), .v (.int .i64 0), .v (.int .i64 0), .v (.int .i64 0), .v (.int .i64 0), .v (.slice none 0 0), .v (.int .i64 0), .v (.int .i64 0), .v (.int .i64 0), .v (.int .i64 0), .v (.int .i64 0), .v (.int .i64 0), .v (.int .i64 0), .v (.int .i64 0), .v (.string ⟨#[]⟩), .v (.string ⟨#[]⟩), .v (.string ⟨#[]⟩), .v (.int .i64 0), .v (.int .i64 0), .v (.slice none 0 0), .v (.int .i64 0), .v (.int .i64 0), .v (.int .i64 0), .v (.int .i64 0), .v (.int .i64 0), .v (.int .i64 0), .v (.int .i64 0), .v (.int .i64 0), .v (.int .i64 0), .v (.int .i64 0), .v (.int .i64 0), .v (.int .i64 0), .v (.int .i64 0), .v (.int .i64 0), .v (.int .i64 0), .v (.int .i64 0), .v (.int .i64 0), .v (.int .i64 0), .v (.int .i64 0), .v (.int .i64 0), .v (.int .i64 0), .v (.int .i64 0), .v (.int .i64 0), .v (.int .i64 0), .v (.int .i64 0), .v (.int .i64 0), .v (.int .i64 0), .v (.int .i64 0), .v (.int .i64 0), .v (.int .i64 0), .v (.int .i64 0), .v (.int .i64 0), .v (.int .i64 0), .v (.int .i64 0), .v (.int .i64 0), .v (.int .i64 0), .v (.int .i64 0), .v (.int .i64 0), .v (.slice none 0 0), .v (.int .i64 0), .v (.int .i64 0), .v (.int .i64 0), .v (.int .i64 0), .v (.int .i64 0), .v (.int .i64 0), .v (.int .i64 0), .v (.int .i64 0), .v (.int .i64 0), .v (.int .i64 0), .v (.int .i64 0), .v (.int .i64 0), .v (.int .i64 0), .v (.int .i64 0), .v (.slice none 0 0), .v (.int .i64 0), .v (.int .i64 0), .v (.int .i64 0), .v (.int .i64 0), .v (.int .i64 0), .v (.int .i64 0), .v (.int .i64 0), .v (.int .i64 0), .v (.int .i64 0), .v (.int .i64 0), .v (.int .i64 0), .v (.int .i64 0), .v (.int .i64 0), .v (.int .i64 0), .v (.int .i64 0), .v (.int .i64 0), .v (.int .i64 0), .v (.int .i64 0), .v (.int .i64 0), .v (.int .i64 0), .v (.int .i64 0), .v (.int .i64 0), .v (.int .i64 0), .v (.int .i64 0), .v (.int .i64 0), .v (.int .i64 0), .v (.int .i64 0), .v (.int .i64 0), .v (.slice none 0 0)]⟩
def ti71 : TI := ⟨.struct #[⟨ "Kind", 3, 0, false, "", "", 0⟩, ⟨ "From", 66, 1, false, "", "", 8⟩, ⟨ "To", 66, 3, false, "", "", 24⟩, ⟨ "Ballot", 68, 5, false, "", "", 40⟩, ⟨ "Slot", 2, 7, false, "", "", 56⟩, ⟨ "List", 69, 8, false, "", "", 64⟩, ⟨ "Entry", 64, 9, false, "", "", 88⟩, ⟨ "Number", 2, 65, false, "", "", 592⟩, ⟨ "Vector", 28, 66, false, "", "", 600⟩, ⟨ "Clock", 2, 74, false, "", "", 664⟩, ⟨ "Origin", 3, 75, false, "", "", 672⟩, ⟨ "Ops", 60, 76, false, "", "", 680⟩, ⟨ "Epoch", 30, 77, false, "", "", 704⟩, ⟨ "Part", 62, 102, false, "", "", 904⟩], 106, 952, [.v (.int .i64 0), .v (.int .i64 0), .v (.int .i64 0), .v (.int .i64 0), .v (.int .i64 0), .v (.int .i64 0), .v (.int .i64 0), .v (.int .i64 0), .v (.slice none 0 0), .v (.int .i64 0), .v (.int .i64 0), .v (.int .i64 0), .v (.int .i64 0), .v (.int .i64 0), .v (.int .i64 0), .v (.int .i64 0), .v (.int .i64 0), .v (.string ⟨#[]⟩), .v (.string ⟨#[]⟩), .v (.string ⟨#[]⟩), .v (.int .i64 0), .v (.int .i64 0), .v (.slice none 0 0), .v (.int .i64 0), .v (.int .i64 0), .v (.int .i64 0), .v (.int .i64 0), .v (.int .i64 0), .v (.int .i64 0), .v (.int .i64 0), .v (.int .i64 0), .v (.int .i64 0), .v (.int .i64 0), .v (.int .i64 0), .v (.int .i64 0), .v (.int .i64 0), .v (.int .i64 0), .v (.int .i64 0), .v (.int .i64 0), .v (.int .i64 0), .v (.int .i64 0), .v (.int .i64 0), .v (.int .i64 0), .v (.int .i64 0), .v (.int .i64 0), .v (.int .i64 0), .v (.int .i64 0), .v (.int .i64 0), .v (.int .i64 0), .v (.int .i64 0), .v (.int .i64 0), .v (.int .i64 0), .v (.int .i64 0), .v (.int .i64 0), .v (.int .i64 0), .v (.int .i64 0), .v (.int .i64 0), .v (.int .i64 0), .v (.int .i64 0), .v (.int .i64 0), .v (.int .i64 0), .v (.slice none 0 0), .v (.int .i64 0), .v (.int .i64 0), .v (.int .i64 0), .v (.int .i64 0), .v (.int .i64 0), .v (.int .i64 0), .v (.int .i64 0), .v (.int .i64 0), .v (.int .i64 0), .v (.int .i64 0), .v (.int .i64 0), .v (.int .i64 0), .v (.int .i64 0), .v (.int .i64 0), .v (.slice none 0 0), .v (.int .i64 0), .v (.int .i64 0), .v (.int .i64 0), .v (.int .i64 0), .v (.int .i64 0), .v (.int .i64 0), .v (.int .i64 0), .v (.int .i64 0), .v (.int .i64 0), .v (.int .i64 0), .v (.int .i64 0), .v (.int .i64 0), .v (.int .i64 0), .v (.int .i64 0), .v (.int .i64 0), .v (.int .i64 0), .v (.int .i64 0), .v (.int .i64 0), .v (.int .i64 0), .v (.int .i64 0), .v (.int .i64 0), .v (.int .i64 0), .v (.int .i64 0), .v (.int .i64 0), .v (.int .i64 0), .v (.int .i64 0), .v (.int .i64 0), .v (.int .i64 0), .v (.slice none 0 0)]⟩
def ti86 : TI := ⟨.struct #[⟨ "made", 4, 0, false, "", "orchard/wire", 0⟩, ⟨ "b", 31, 1, false, "", "orchard/wire", 8⟩], 2, 32, [.v (.bool false), .v (.slice none 0 0)]⟩
def ti87 : TI := ⟨.struct #[⟨ "made", 4, 0, false, "", "orchard/wire", 0⟩, ⟨ "b", 31, 1, false, "", "orchard/wire", 8⟩], 2, 32, [.v (.bool false), .v (.slice none 0 0)]⟩
def ti99 : TI := ⟨.struct #[⟨ "made", 4, 0, false, "", "orchard/wire", 0⟩, ⟨ "b", 31, 1, false, "", "orchard/wire", 8⟩], 2, 32, [.v (.bool false), .v (.slice none 0 0)]⟩
def ti111 : TI := ⟨.struct #[⟨ "Writer", 32, 0, true, "", "", 0⟩, ⟨ "e", 35, 1, false, "", "orchard/record", 8⟩], 2, 16, [.v (.pointer none), .v (.int .i64 0)]⟩
def ti119 : TI := ⟨.struct #[⟨ "Reader", 44, 0, true, "", "", 0⟩, ⟨ "e", 35, 1, false, "", "orchard/record", 8⟩], 2, 16, [.v (.pointer none), .v (.int .i64 0)]⟩
def ti143:TI:=⟨.slice 2,1,24,[.v (.slice none 0 0)]⟩
def ti145:TI:=⟨.slice 3,1,24,[.v (.slice none 0 0)]⟩
def ti147:TI:=⟨.pointer 2,1,8,[.v (.pointer none)]⟩
def ti149:TI:=⟨.pointer 3,1,8,[.v (.pointer none)]⟩
def ti167:TI:=⟨.int .u32,1,4,[.v (.int .u32 0)]⟩
def ti171:TI:=⟨.int .u64,1,8,[.v (.int .u64 0)]⟩
def ti177 : TI := ⟨.struct #[⟨ "Slot", 2, 0, false, "", "", 0⟩, ⟨ "Ballot", 68, 1, false, "", "", 8⟩, ⟨ "Entry", 64, 3, false, "", "", 24⟩], 59, 528, [.v (.int .i64 0), .v (.int .i64 0), .v (.int .i64 0), .v (.int .i64 0), .v (.int .i64 0), .v (.int .i64 0), .v (.int .i64 0), .v (.int .i64 0), .v (.int .i64 0), .v (.int .i64 0), .v (.int .i64 0), .v (.string ⟨#[]⟩), .v (.string ⟨#[]⟩), .v (.string ⟨#[]⟩), .v (.int .i64 0), .v (.int .i64 0), .v (.slice none 0 0), .v (.int .i64 0), .v (.int .i64 0), .v (.int .i64 0), .v (.int .i64 0), .v (.int .i64 0), .v (.int .i64 0), .v (.int .i64 0), .v (.int .i64 0), .v (.int .i64 0), .v (.int .i64 0), .v (.int .i64 0), .v (.int .i64 0), .v (.int .i64 0), .v (.int .i64 0), .v (.int .i64 0), .v (.int .i64 0), .v (.int .i64 0), .v (.int .i64 0), .v (.int .i64 0), .v (.int .i64 0), .v (.int .i64 0), .v (.int .i64 0), .v (.int .i64 0), .v (.int .i64 0), .v (.int .i64 0), .v (.int .i64 0), .v (.int .i64 0), .v (.int .i64 0), .v (.int .i64 0), .v (.int .i64 0), .v (.int .i64 0), .v (.int .i64 0), .v (.int .i64 0), .v (.int .i64 0), .v (.int .i64 0), .v (.int .i64 0), .v (.int .i64 0), .v (.int .i64 0), .v (.slice none 0 0), .v (.int .i64 0), .v (.int .i64 0), .v (.int .i64 0)]⟩
def ti178 : TI := ⟨.struct #[⟨ "Slot", 2, 0, false, "", "", 0⟩, ⟨ "Ballot", 68, 1, false, "", "", 8⟩, ⟨ "Entry", 64, 3, false, "", "", 24⟩], 59, 528, [.v (.int .i64 0), .v (.int .i64 0), .v (.int .i64 0), .v (.int .i64 0), .v (.int .i64 0), .v (.int .i64 0), .v (.int .i64 0), .v (.int .i64 0), .v (.int .i64 0), .v (.int .i64 0), .v (.int .i64 0), .v (.string ⟨#[]⟩), .v (.string ⟨#[]⟩), .v (.string ⟨#[]⟩), .v (.int .i64 0), .v (.int .i64 0), .v (.slice none 0 0), .v (.int .i64 0), .v (.int .i64 0), .v (.int .i64 0), .v (.int .i64 0), .v (.int .i64 0), .v (.int .i64 0), .v (.int .i64 0), .v (.int .i64 0), .v (.int .i64 0), .v (.int .i64 0), .v (.int .i64 0), .v (.int .i64 0), .v (.int .i64 0), .v (.int .i64 0), .v (.int .i64 0), .v (.int .i64 0), .v (.int .i64 0), .v (.int .i64 0), .v (.int .i64 0), .v (.int .i64 0), .v (.int .i64 0), .v (.int .i64 0), .v (.int .i64 0), .v (.int .i64 0), .v (.int .i64 0), .v (.int .i64 0), .v (.int .i64 0), .v (.int .i64 0), .v (.int .i64 0), .v (.int .i64 0), .v (.int .i64 0), .v (.int .i64 0), .v (.int .i64 0), .v (.int .i64 0), .v (.int .i64 0), .v (.int .i64 0), .v (.int .i64 0), .v (.int .i64 0), .v (.slice none 0 0), .v (.int .i64 0), .v (.int .i64 0), .v (.int .i64 0)]⟩
def ti181:TI:=⟨.slice 9,1,24,[.v (.slice none 0 0)]⟩
def ti183:TI:=⟨.int .u64,1,8,[.v (.int .u64 0)]⟩
def ti184:TI:=⟨.slice 147,1,24,[.v (.slice none 0 0)]⟩
def ti185:TI:=⟨.slice 149,1,24,[.v (.slice none 0 0)]⟩
def ti190:TI:=⟨.slice 66,1,24,[.v (.slice none 0 0)]⟩
def ti194:TI:=⟨.slice 31,1,24,[.v (.slice none 0 0)]⟩
def tyT:Nat→Option TI
  | 2=>some ti2
  | 3=>some ti3
  | 4=>some ti4
  | 5=>some ti5
  | 9=>some ti9
  | 12=>some ti12
  | 21=>some ti21
  | 22=>some ti22
  | 23=>some ti23
  | 24=>some ti24
  | 25=>some ti25
  | 26=>some ti26
  | 27=>some ti27
  | 28=>some ti28
  | 29=>some ti29
  | 30=>some ti30
  | 31=>some ti31
  | 32=>some ti32
  | 35=>some ti35
  | 44=>some ti44
  | 47=>some ti47
  | 48=>some ti48
  | 60=>some ti60
  | 61=>some ti61
  | 62=>some ti62
  | 63=>some ti63
  | 64=>some ti64
  | 65=>some ti65
  | 66=>some ti66
  | 67=>some ti67
  | 68=>some ti68
  | 69=>some ti69
  | 70=>some ti70
  | 71=>some ti71
  | 86=>some ti86
  | 87=>some ti87
  | 99=>some ti99
  | 111=>some ti111
  | 119=>some ti119
  | 143=>some ti143
  | 145=>some ti145
  | 147=>some ti147
  | 149=>some ti149
  | 167=>some ti167
  | 171=>some ti171
  | 177=>some ti177
  | 178=>some ti178
  | 181=>some ti181
  | 183=>some ti183
  | 184=>some ti184
  | 185=>some ti185
  | 190=>some ti190
  | 194=>some ti194
  | _=>none
def eqT:Nat→Option (List Kd)
  | 22=>some [.i,.i]
  | 23=>some [.i,.i]
  | 24=>some [.i,.i,.i,.i,.i,.s,.s,.s]
  | 25=>some [.i,.i,.i,.i,.i,.s,.s,.s]
  | 26=>some [.i,.i,.i,.i,.i,.i,.i,.i]
  | 27=>some [.i,.i,.i,.i,.i,.i,.i,.i]
  | 28=>some [.i,.i,.i,.i,.i,.i,.i,.i]
  | 29=>some [.i,.i,.i,.i,.i,.i,.i,.i,.i,.i,.i,.i,.i,.i,.i,.i,.i,.i,.i,.i,.i,.i,.i,.i,.i]
  | 30=>some [.i,.i,.i,.i,.i,.i,.i,.i,.i,.i,.i,.i,.i,.i,.i,.i,.i,.i,.i,.i,.i,.i,.i,.i,.i]
  | 65=>some [.i,.i]
  | 66=>some [.i,.i]
  | 67=>some [.i,.i]
  | 68=>some [.i,.i]
  | _=>none
noncomputable def E:Env:=⟨Tryz.prog,tyT,eqT,none⟩
theorem tok2:TyOk E.P 2 ti2:=tyOkV (z:=(.int .i64 0)) (by kernel_rfl) rfl (by kernel_rfl) (by kernel_rfl)
theorem tok3:TyOk E.P 3 ti3:=tyOkV (z:=(.int .i64 0)) (by kernel_rfl) rfl (by kernel_rfl) (by kernel_rfl)
theorem tok4:TyOk E.P 4 ti4:=tyOkV (z:=(.bool false)) (by kernel_rfl) rfl (by kernel_rfl) (by kernel_rfl)
theorem tok5:TyOk E.P 5 ti5:=tyOkV (z:=(.int .u8 0)) (by kernel_rfl) rfl (by kernel_rfl) (by kernel_rfl)
theorem tok9:TyOk E.P 9 ti9:=tyOkV (z:=(.string ⟨#[]⟩)) (by kernel_rfl) rfl (by kernel_rfl) (by kernel_rfl)
theorem tok12:TyOk E.P 12 ti12:=tyOkV (z:=(.int .u64 0)) (by kernel_rfl) rfl (by kernel_rfl) (by kernel_rfl)
theorem tok21:TyOk E.P 21 ti21:=tyOkV (z:=(.int .i32 0)) (by kernel_rfl) rfl (by kernel_rfl) (by kernel_rfl)
theorem tok22:TyOk E.P 22 ti22:=tyOkV (z:=(.agg #[(.int .i64 0),(.int .i64 0)])) (by kernel_rfl) rfl (by kernel_rfl) (by kernel_rfl)
theorem tok23:TyOk E.P 23 ti23:=tyOkV (z:=(.agg #[(.int .i64 0),(.int .i64 0)])) (by kernel_rfl) rfl (by kernel_rfl) (by kernel_rfl)
theorem tok24:TyOk E.P 24 ti24:=tyOkV (z:=(.agg #[(.int .i64 0),(.int .i64 0),(.int .i64 0),(.int .i64 0),(.int .i64 0),(.string ⟨#[]⟩),(.string ⟨#[]⟩),(.string ⟨#[]⟩)])) (by kernel_rfl) rfl (by kernel_rfl) (by kernel_rfl)
theorem tok25:TyOk E.P 25 ti25:=tyOkV (z:=(.agg #[(.int .i64 0),(.int .i64 0),(.int .i64 0),(.int .i64 0),(.int .i64 0),(.string ⟨#[]⟩),(.string ⟨#[]⟩),(.string ⟨#[]⟩)])) (by kernel_rfl) rfl (by kernel_rfl) (by kernel_rfl)
theorem tok26:TyOk E.P 26 ti26:=tyOkV (z:=(.agg #[(.int .i64 0),(.int .i64 0),(.int .i64 0),(.int .i64 0),(.int .i64 0),(.int .i64 0),(.int .i64 0),(.int .i64 0)])) (by kernel_rfl) rfl (by kernel_rfl) (by kernel_rfl)
theorem tok27:TyOk E.P 27 ti27:=tyOkV (z:=(.agg #[(.int .i64 0),(.int .i64 0),(.int .i64 0),(.int .i64 0),(.int .i64 0),(.int .i64 0),(.int .i64 0),(.int .i64 0)])) (by kernel_rfl) rfl (by kernel_rfl) (by kernel_rfl)
theorem tok28:TyOk E.P 28 ti28:=tyOkV (z:=(.agg #[(.int .i64 0),(.int .i64 0),(.int .i64 0),(.int .i64 0),(.int .i64 0),(.int .i64 0),(.int .i64 0),(.int .i64 0)])) (by kernel_rfl) rfl (by kernel_rfl) (by kernel_rfl)
theorem tok29:TyOk E.P 29 ti29:=tyOkV (z:=(.agg #[(.int .i64 0),(.int .i64 0),(.int .i64 0),(.int .i64 0),(.int .i64 0),(.int .i64 0),(.int .i64 0),(.int .i64 0),(.int .i64 0),(.int .i64 0),(.int .i64 0),(.int .i64 0),(.int .i64 0),(.int .i64 0),(.int .i64 0),(.int .i64 0),(.int .i64 0),(.int .i64 0),(.int .i64 0),(.int .i64 0),(.int .i64 0),(.int .i64 0),(.int .i64 0),(.int .i64 0),(.int .i64 0)])) (by kernel_rfl) rfl (by kernel_rfl) (by kernel_rfl)
theorem tok30:TyOk E.P 30 ti30:=tyOkV (z:=(.agg #[(.int .i64 0),(.int .i64 0),(.int .i64 0),(.int .i64 0),(.int .i64 0),(.int .i64 0),(.int .i64 0),(.int .i64 0),(.int .i64 0),(.int .i64 0),(.int .i64 0),(.int .i64 0),(.int .i64 0),(.int .i64 0),(.int .i64 0),(.int .i64 0),(.int .i64 0),(.int .i64 0),(.int .i64 0),(.int .i64 0),(.int .i64 0),(.int .i64 0),(.int .i64 0),(.int .i64 0),(.int .i64 0)])) (by kernel_rfl) rfl (by kernel_rfl) (by kernel_rfl)
theorem tok31:TyOk E.P 31 ti31:=tyOkV (z:=(.slice none 0 0)) (by kernel_rfl) rfl (by kernel_rfl) (by kernel_rfl)
theorem tok32:TyOk E.P 32 ti32:=tyOkV (z:=(.pointer none)) (by kernel_rfl) rfl (by kernel_rfl) (by kernel_rfl)
theorem tok35:TyOk E.P 35 ti35:=tyOkV (z:=(.int .i64 0)) (by kernel_rfl) rfl (by kernel_rfl) (by kernel_rfl)
theorem tok44:TyOk E.P 44 ti44:=tyOkV (z:=(.pointer none)) (by kernel_rfl) rfl (by kernel_rfl) (by kernel_rfl)
theorem tok47:TyOk E.P 47 ti47:=tyOkV (z:=(.agg #[(.slice none 0 0),(.int .i64 0),(.int .i64 0)])) (by kernel_rfl) rfl (by kernel_rfl) (by kernel_rfl)
theorem tok48:TyOk E.P 48 ti48:=tyOkV (z:=(.agg #[(.slice none 0 0),(.int .i64 0),(.int .i64 0)])) (by kernel_rfl) rfl (by kernel_rfl) (by kernel_rfl)
theorem tok60:TyOk E.P 60 ti60:=tyOkV (z:=(.slice none 0 0)) (by kernel_rfl) rfl (by kernel_rfl) (by kernel_rfl)
theorem tok61:TyOk E.P 61 ti61:=tyOkV (z:=(.agg #[(.int .i64 0),(.int .i64 0),(.int .i64 0),(.slice none 0 0)])) (by kernel_rfl) rfl (by kernel_rfl) (by kernel_rfl)
theorem tok62:TyOk E.P 62 ti62:=tyOkV (z:=(.agg #[(.int .i64 0),(.int .i64 0),(.int .i64 0),(.slice none 0 0)])) (by kernel_rfl) rfl (by kernel_rfl) (by kernel_rfl)
theorem tok63:TyOk E.P 63 ti63:=tyOkV (z:=(.agg #[(.int .i64 0),(.int .i64 0),(.int .i64 0),(.int .i64 0),(.int .i64 0),(.int .i64 0),(.int .i64 0),(.int .i64 0),(.string ⟨#[]⟩),(.string ⟨#[]⟩),(.string ⟨#[]⟩),(.int .i64 0),(.int .i64 0),(.slice none 0 0),(.int .i64 0),(.int .i64 0),(.int .i64 0),(.int .i64 0),(.int .i64 0),(.int .i64 0),(.int .i64 0),(.int .i64 0),(.int .i64 0),(.int .i64 0),(.int .i64 0),(.int .i64 0),(.int .i64 0),(.int .i64 0),(.int .i64 0),(.int .i64 0),(.int .i64 0),(.int .i64 0),(.int .i64 0),(.int .i64 0),(.int .i64 0),(.int .i64 0),(.int .i64 0),(.int .i64 0),(.int .i64 0),(.int .i64 0),(.int .i64 0),(.int .i64 0),(.int .i64 0),(.int .i64 0),(.int .i64 0),(.int .i64 0),(.int .i64 0),(.int .i64 0),(.int .i64 0),(.int .i64 0),(.int .i64 0),(.int .i64 0),(.slice none 0 0),(.int .i64 0),(.int .i64 0),(.int .i64 0)])) (by kernel_rfl) rfl (by kernel_rfl) (by kernel_rfl)
theorem tok64:TyOk E.P 64 ti64:=tyOkV (z:=(.agg #[(.int .i64 0),(.int .i64 0),(.int .i64 0),(.int .i64 0),(.int .i64 0),(.int .i64 0),(.int .i64 0),(.int .i64 0),(.string ⟨#[]⟩),(.string ⟨#[]⟩),(.string ⟨#[]⟩),(.int .i64 0),(.int .i64 0),(.slice none 0 0),(.int .i64 0),(.int .i64 0),(.int .i64 0),(.int .i64 0),(.int .i64 0),(.int .i64 0),(.int .i64 0),(.int .i64 0),(.int .i64 0),(.int .i64 0),(.int .i64 0),(.int .i64 0),(.int .i64 0),(.int .i64 0),(.int .i64 0),(.int .i64 0),(.int .i64 0),(.int .i64 0),(.int .i64 0),(.int .i64 0),(.int .i64 0),(.int .i64 0),(.int .i64 0),(.int .i64 0),(.int .i64 0),(.int .i64 0),(.int .i64 0),(.int .i64 0),(.int .i64 0),(.int .i64 0),(.int .i64 0),(.int .i64 0),(.int .i64 0),(.int .i64 0),(.int .i64 0),(.int .i64 0),(.int .i64 0),(.int .i64 0),(.slice none 0 0),(.int .i64 0),(.int .i64 0),(.int .i64 0)])) (by kernel_rfl) rfl (by kernel_rfl) (by kernel_rfl)
theorem tok65:TyOk E.P 65 ti65:=tyOkV (z:=(.agg #[(.int .i64 0),(.int .i64 0)])) (by kernel_rfl) rfl (by kernel_rfl) (by kernel_rfl)
theorem tok66:TyOk E.P 66 ti66:=tyOkV (z:=(.agg #[(.int .i64 0),(.int .i64 0)])) (by kernel_rfl) rfl (by kernel_rfl) (by kernel_rfl)
theorem tok67:TyOk E.P 67 ti67:=tyOkV (z:=(.agg #[(.int .i64 0),(.int .i64 0)])) (by kernel_rfl) rfl (by kernel_rfl) (by kernel_rfl)
theorem tok68:TyOk E.P 68 ti68:=tyOkV (z:=(.agg #[(.int .i64 0),(.int .i64 0)])) (by kernel_rfl) rfl (by kernel_rfl) (by kernel_rfl)
theorem tok69:TyOk E.P 69 ti69:=tyOkV (z:=(.slice none 0 0)) (by kernel_rfl) rfl (by kernel_rfl) (by kernel_rfl)
theorem tok70:TyOk E.P 70 ti70:=tyOkV (z:=(.agg #[(.int .i64 0),(.int .i64 0),(.int .i64 0),(.int .i64 0),(.int .i64 0),(.int .i64 0),(.int .i64 0),(.int .i64 0),(.slice none 0 0),(.int .i64 0),(.int .i64 0),(.int .i64 0),(.int .i64 0),(.int .i64 0),(.int .i64 0),(.int .i64 0),(.int .i64 0),(.string ⟨#[]⟩),(.string ⟨#[]⟩),(.string ⟨#[]⟩),(.int .i64 0),(.int .i64 0),(.slice none 0 0),(.int .i64 0),(.int .i64 0),(.int .i64 0),(.int .i64 0),(.int .i64 0),(.int .i64 0),(.int .i64 0),(.int .i64 0),(.int .i64 0),(.int .i64 0),(.int .i64 0),(.int .i64 0),(.int .i64 0),(.int .i64 0),(.int .i64 0),(.int .i64 0),(.int .i64 0),(.int .i64 0),(.int .i64 0),(.int .i64 0),(.int .i64 0),(.int .i64 0),(.int .i64 0),(.int .i64 0),(.int .i64 0),(.int .i64 0),(.int .i64 0),(.int .i64 0),(.int .i64 0),(.int .i64 0),(.int .i64 0),(.int .i64 0),(.int .i64 0),(.int .i64 0),(.int .i64 0),(.int .i64 0),(.int .i64 0),(.int .i64 0),(.slice none 0 0),(.int .i64 0),(.int .i64 0),(.int .i64 0),(.int .i64 0),(.int .i64 0),(.int .i64 0),(.int .i64 0),(.int .i64 0),(.int .i64 0),(.int .i64 0),(.int .i64 0),(.int .i64 0),(.int .i64 0),(.int .i64 0),(.slice none 0 0),(.int .i64 0),(.int .i64 0),(.int .i64 0),(.int .i64 0),(.int .i64 0),(.int .i64 0),(.int .i64 0),(.int .i64 0),(.int .i64 0),(.int .i64 0),(.int .i64 0),(.int .i64 0),(.int .i64 0),(.int .i64 0),(.int .i64 0),(.int .i64 0),(.int .i64 0),(.int .i64 0),(.int .i64 0),(.int .i64 0),(.int .i64 0),(.int .i64 0),(.int .i64 0),(.int .i64 0),(.int .i64 0),(.int .i64 0),(.int .i64 0),(.int .i64 0),(.slice none 0 0)])) (by kernel_rfl) rfl (by kernel_rfl) (by kernel_rfl)
theorem tok71:TyOk E.P 71 ti71:=tyOkV (z:=(.agg #[(.int .i64 0),(.int .i64 0),(.int .i64 0),(.int .i64 0),(.int .i64 0),(.int .i64 0),(.int .i64 0),(.int .i64 0),(.slice none 0 0),(.int .i64 0),(.int .i64 0),(.int .i64 0),(.int .i64 0),(.int .i64 0),(.int .i64 0),(.int .i64 0),(.int .i64 0),(.string ⟨#[]⟩),(.string ⟨#[]⟩),(.string ⟨#[]⟩),(.int .i64 0),(.int .i64 0),(.slice none 0 0),(.int .i64 0),(.int .i64 0),(.int .i64 0),(.int .i64 0),(.int .i64 0),(.int .i64 0),(.int .i64 0),(.int .i64 0),(.int .i64 0),(.int .i64 0),(.int .i64 0),(.int .i64 0),(.int .i64 0),(.int .i64 0),(.int .i64 0),(.int .i64 0),(.int .i64 0),(.int .i64 0),(.int .i64 0),(.int .i64 0),(.int .i64 0),(.int .i64 0),(.int .i64 0),(.int .i64 0),(.int .i64 0),(.int .i64 0),(.int .i64 0),(.int .i64 0),(.int .i64 0),(.int .i64 0),(.int .i64 0),(.int .i64 0),(.int .i64 0),(.int .i64 0),(.int .i64 0),(.int .i64 0),(.int .i64 0),(.int .i64 0),(.slice none 0 0),(.int .i64 0),(.int .i64 0),(.int .i64 0),(.int .i64 0),(.int .i64 0),(.int .i64 0),(.int .i64 0),(.int .i64 0),(.int .i64 0),(.int .i64 0),(.int .i64 0),(.int .i64 0),(.int .i64 0),(.int .i64 0),(.slice none 0 0),(.int .i64 0),(.int .i64 0),(.int .i64 0),(.int .i64 0),(.int .i64 0),(.int .i64 0),(.int .i64 0),(.int .i64 0),(.int .i64 0),(.int .i64 0),(.int .i64 0),(.int .i64 0),(.int .i64 0),(.int .i64 0),(.int .i64 0),(.int .i64 0),(.int .i64 0),(.int .i64 0),(.int .i64 0),(.int .i64 0),(.int .i64 0),(.int .i64 0),(.int .i64 0),(.int .i64 0),(.int .i64 0),(.int .i64 0),(.int .i64 0),(.int .i64 0),(.slice none 0 0)])) (by kernel_rfl) rfl (by kernel_rfl) (by kernel_rfl)
theorem tok86:TyOk E.P 86 ti86:=tyOkV (z:=(.agg #[(.bool false),(.slice none 0 0)])) (by kernel_rfl) rfl (by kernel_rfl) (by kernel_rfl)
theorem tok87:TyOk E.P 87 ti87:=tyOkV (z:=(.agg #[(.bool false),(.slice none 0 0)])) (by kernel_rfl) rfl (by kernel_rfl) (by kernel_rfl)
theorem tok99:TyOk E.P 99 ti99:=tyOkV (z:=(.agg #[(.bool false),(.slice none 0 0)])) (by kernel_rfl) rfl (by kernel_rfl) (by kernel_rfl)
theorem tok111:TyOk E.P 111 ti111:=tyOkV (z:=(.agg #[(.pointer none),(.int .i64 0)])) (by kernel_rfl) rfl (by kernel_rfl) (by kernel_rfl)
theorem tok119:TyOk E.P 119 ti119:=tyOkV (z:=(.agg #[(.pointer none),(.int .i64 0)])) (by kernel_rfl) rfl (by kernel_rfl) (by kernel_rfl)
theorem tok143:TyOk E.P 143 ti143:=tyOkV (z:=(.slice none 0 0)) (by kernel_rfl) rfl (by kernel_rfl) (by kernel_rfl)
theorem tok145:TyOk E.P 145 ti145:=tyOkV (z:=(.slice none 0 0)) (by kernel_rfl) rfl (by kernel_rfl) (by kernel_rfl)
theorem tok147:TyOk E.P 147 ti147:=tyOkV (z:=(.pointer none)) (by kernel_rfl) rfl (by kernel_rfl) (by kernel_rfl)
theorem tok149:TyOk E.P 149 ti149:=tyOkV (z:=(.pointer none)) (by kernel_rfl) rfl (by kernel_rfl) (by kernel_rfl)
theorem tok167:TyOk E.P 167 ti167:=tyOkV (z:=(.int .u32 0)) (by kernel_rfl) rfl (by kernel_rfl) (by kernel_rfl)
theorem tok171:TyOk E.P 171 ti171:=tyOkV (z:=(.int .u64 0)) (by kernel_rfl) rfl (by kernel_rfl) (by kernel_rfl)
theorem tok177:TyOk E.P 177 ti177:=tyOkV (z:=(.agg #[(.int .i64 0),(.int .i64 0),(.int .i64 0),(.int .i64 0),(.int .i64 0),(.int .i64 0),(.int .i64 0),(.int .i64 0),(.int .i64 0),(.int .i64 0),(.int .i64 0),(.string ⟨#[]⟩),(.string ⟨#[]⟩),(.string ⟨#[]⟩),(.int .i64 0),(.int .i64 0),(.slice none 0 0),(.int .i64 0),(.int .i64 0),(.int .i64 0),(.int .i64 0),(.int .i64 0),(.int .i64 0),(.int .i64 0),(.int .i64 0),(.int .i64 0),(.int .i64 0),(.int .i64 0),(.int .i64 0),(.int .i64 0),(.int .i64 0),(.int .i64 0),(.int .i64 0),(.int .i64 0),(.int .i64 0),(.int .i64 0),(.int .i64 0),(.int .i64 0),(.int .i64 0),(.int .i64 0),(.int .i64 0),(.int .i64 0),(.int .i64 0),(.int .i64 0),(.int .i64 0),(.int .i64 0),(.int .i64 0),(.int .i64 0),(.int .i64 0),(.int .i64 0),(.int .i64 0),(.int .i64 0),(.int .i64 0),(.int .i64 0),(.int .i64 0),(.slice none 0 0),(.int .i64 0),(.int .i64 0),(.int .i64 0)])) (by kernel_rfl) rfl (by kernel_rfl) (by kernel_rfl)
theorem tok178:TyOk E.P 178 ti178:=tyOkV (z:=(.agg #[(.int .i64 0),(.int .i64 0),(.int .i64 0),(.int .i64 0),(.int .i64 0),(.int .i64 0),(.int .i64 0),(.int .i64 0),(.int .i64 0),(.int .i64 0),(.int .i64 0),(.string ⟨#[]⟩),(.string ⟨#[]⟩),(.string ⟨#[]⟩),(.int .i64 0),(.int .i64 0),(.slice none 0 0),(.int .i64 0),(.int .i64 0),(.int .i64 0),(.int .i64 0),(.int .i64 0),(.int .i64 0),(.int .i64 0),(.int .i64 0),(.int .i64 0),(.int .i64 0),(.int .i64 0),(.int .i64 0),(.int .i64 0),(.int .i64 0),(.int .i64 0),(.int .i64 0),(.int .i64 0),(.int .i64 0),(.int .i64 0),(.int .i64 0),(.int .i64 0),(.int .i64 0),(.int .i64 0),(.int .i64 0),(.int .i64 0),(.int .i64 0),(.int .i64 0),(.int .i64 0),(.int .i64 0),(.int .i64 0),(.int .i64 0),(.int .i64 0),(.int .i64 0),(.int .i64 0),(.int .i64 0),(.int .i64 0),(.int .i64 0),(.int .i64 0),(.slice none 0 0),(.int .i64 0),(.int .i64 0),(.int .i64 0)])) (by kernel_rfl) rfl (by kernel_rfl) (by kernel_rfl)
theorem tok181:TyOk E.P 181 ti181:=tyOkV (z:=(.slice none 0 0)) (by kernel_rfl) rfl (by kernel_rfl) (by kernel_rfl)
theorem tok183:TyOk E.P 183 ti183:=tyOkV (z:=(.int .u64 0)) (by kernel_rfl) rfl (by kernel_rfl) (by kernel_rfl)
theorem tok184:TyOk E.P 184 ti184:=tyOkV (z:=(.slice none 0 0)) (by kernel_rfl) rfl (by kernel_rfl) (by kernel_rfl)
theorem tok185:TyOk E.P 185 ti185:=tyOkV (z:=(.slice none 0 0)) (by kernel_rfl) rfl (by kernel_rfl) (by kernel_rfl)
theorem tok190:TyOk E.P 190 ti190:=tyOkV (z:=(.slice none 0 0)) (by kernel_rfl) rfl (by kernel_rfl) (by kernel_rfl)
theorem tok194:TyOk E.P 194 ti194:=tyOkV (z:=(.slice none 0 0)) (by kernel_rfl) rfl (by kernel_rfl) (by kernel_rfl)
theorem eOk:E.Ok:=by
  intro t i h
  have h':tyT t=some i:=h
  unfold tyT at h'
  split at h' <;> first
    | (cases h'; first | exact tok2 | exact tok3 | exact tok4 | exact tok5 | exact tok9 | exact tok12 | exact tok21 | exact tok22 | exact tok23 | exact tok24 | exact tok25 | exact tok26 | exact tok27 | exact tok28 | exact tok29 | exact tok30 | exact tok31 | exact tok32 | exact tok35 | exact tok44 | exact tok47 | exact tok48 | exact tok60 | exact tok61 | exact tok62 | exact tok63 | exact tok64 | exact tok65 | exact tok66 | exact tok67 | exact tok68 | exact tok69 | exact tok70 | exact tok71 | exact tok86 | exact tok87 | exact tok99 | exact tok111 | exact tok119 | exact tok143 | exact tok145 | exact tok147 | exact tok149 | exact tok167 | exact tok171 | exact tok177 | exact tok178 | exact tok181 | exact tok183 | exact tok184 | exact tok185 | exact tok190 | exact tok194)
    | cases h'
theorem eEq:E.EqOk:=by
  intro t ks h
  have h':eqT t=some ks:=h
  unfold eqT at h'
  split at h' <;> first
    | (cases h'; exact ⟨by kernel_rfl,by kernel_rfl,by kernel_rfl⟩)
    | cases h'
theorem eGood:Go.Ev.Good E:=⟨eOk,eEq,by kernel_rfl⟩
structure zj where
  Time:Int
  Site:Int
instance:Inhabited zj:=⟨⟨default,default⟩⟩
structure GOp where
  Stamp:zj
  Kind:Int
  Node:Int
  Parent:Int
  Name:List UInt8
  Key:List UInt8
  Value:List UInt8
instance:Inhabited GOp:=⟨⟨default,default,default,default,default,default,default⟩⟩
structure z7 where
  Number:Int
  States:Vector (Int) 8
  Seals:Vector (Int) 8
  Sponsor:Vector (Int) 8
instance:Inhabited z7:=⟨⟨default,default,default,default⟩⟩
structure z18 where
  B:List (Int)
  At:Int
  E:Int
instance:Inhabited z18:=⟨⟨default,default,default⟩⟩
structure GPart where
  Snap:Int
  Index:Int
  Many:Int
  Data:List (Int)
instance:Inhabited GPart:=⟨⟨default,default,default,default⟩⟩
structure z6 where
  Kind:Int
  Session:Int
  Request:Int
  Op:GOp
  Origin:Int
  Seq:Int
  Ops:List (GOp)
  Epoch:z7
  From:Int
  Vector_:Vector (Int) 8
  Clock:Int
  Part:GPart
  Site:Int
  Sponsor:Int
  Length:Int
instance:Inhabited z6:=⟨⟨default,default,default,default,default,default,default,default,default,default,default,default,default,default,default⟩⟩
structure GAddr where
  Group:Int
  Replica:Int
instance:Inhabited GAddr:=⟨⟨default,default⟩⟩
structure zc where
  Round:Int
  Replica:Int
instance:Inhabited zc:=⟨⟨default,default⟩⟩
structure zd where
  Slot:Int
  Ballot:zc
  Entry:z6
instance:Inhabited zd:=⟨⟨default,default,default⟩⟩
structure GMsg where
  Kind:Int
  From:GAddr
  To:GAddr
  Ballot:zc
  Slot:Int
  List_:List (zd)
  Entry:z6
  Number:Int
  Vector_:Vector (Int) 8
  Clock:Int
  Origin:Int
  Ops:List (GOp)
  Epoch:z7
  Part:GPart
instance:Inhabited GMsg:=⟨⟨default,default,default,default,default,default,default,default,default,default,default,default,default,default⟩⟩
structure z4 where
  made:Bool
  b:List (Int)
instance:Inhabited z4:=⟨⟨default,default⟩⟩
@[reducible] def τ:Nat→Type
  | 2=>Int
  | 3=>Int
  | 4=>Bool
  | 5=>Int
  | 9=>List UInt8
  | 12=>Int
  | 21=>Int
  | 22=>zj
  | 23=>zj
  | 24=>GOp
  | 25=>GOp
  | 26=>Vector (Int) 8
  | 27=>Vector (Int) 8
  | 28=>Vector (Int) 8
  | 29=>z7
  | 30=>z7
  | 31=>List (Int)
  | 35=>Int
  | 47=>z18
  | 48=>z18
  | 60=>List (GOp)
  | 61=>GPart
  | 62=>GPart
  | 63=>z6
  | 64=>z6
  | 65=>GAddr
  | 66=>GAddr
  | 67=>zc
  | 68=>zc
  | 69=>List (zd)
  | 70=>GMsg
  | 71=>GMsg
  | 86=>z4
  | 87=>z4
  | 99=>z4
  | 143=>List (Int)
  | 145=>List (Int)
  | 167=>Int
  | 171=>Int
  | 177=>zd
  | 178=>zd
  | 181=>List (List UInt8)
  | 183=>Int
  | 190=>List (GAddr)
  | 194=>List (List (Int))
  | _=>Unit
def cel2 (x:Int):List AV:=[.v (.int .i64 x)]
def enc2 (x:Int):TV τ:=.int .i64 x
def dec2 (x:TV τ):Option (Int):=dInt .i64 x
def beq2 (x y:Int):Bool:=(x==y)
def cel3 (x:Int):List AV:=[.v (.int .i64 x)]
def enc3 (x:Int):TV τ:=.int .i64 x
def dec3 (x:TV τ):Option (Int):=dInt .i64 x
def beq3 (x y:Int):Bool:=(x==y)
def cel4 (x:Bool):List AV:=[.v (.bool x)]
def enc4 (x:Bool):TV τ:=.bool x
def dec4 (x:TV τ):Option (Bool):=dBool x
def beq4 (x y:Bool):Bool:=(x==y)
def cel5 (x:Int):List AV:=[.v (.int .u8 x)]
def enc5 (x:Int):TV τ:=.int .u8 x
def dec5 (x:TV τ):Option (Int):=dInt .u8 x
def beq5 (x y:Int):Bool:=(x==y)
def cel9 (x:List UInt8):List AV:=[.v (.string ⟨⟨x⟩⟩)]
def enc9 (x:List UInt8):TV τ:=.str x
def dec9 (x:TV τ):Option (List UInt8):=dStr x
def beq9 (x y:List UInt8):Bool:=(x==y)
def cel12 (x:Int):List AV:=[.v (.int .u64 x)]
def enc12 (x:Int):TV τ:=.int .u64 x
def dec12 (x:TV τ):Option (Int):=dInt .u64 x
def beq12 (x y:Int):Bool:=(x==y)
def cel21 (x:Int):List AV:=[.v (.int .i32 x)]
def enc21 (x:Int):TV τ:=.int .i32 x
def dec21 (x:TV τ):Option (Int):=dInt .i32 x
def beq21 (x y:Int):Bool:=(x==y)
def cel22 (x:zj):List AV:=(cel2 x.Time++(cel3 x.Site++[]))
def enc22 (x:zj):TV τ:=.agg [enc2 x.Time,enc3 x.Site]
def dec22 (x:TV τ):Option (zj):=(match x with | .agg [x0,x1]=>(match dec2 x0 with | some a0=>(match dec3 x1 with | some a1=>some ⟨a0,a1⟩ | none=>none) | none=>none) | _=>none)
def beq22 (x y:zj):Bool:=(beq2 x.Time y.Time&&(beq3 x.Site y.Site&&true))
def cel23 (x:zj):List AV:=(cel2 x.Time++(cel3 x.Site++[]))
def enc23 (x:zj):TV τ:=.agg [enc2 x.Time,enc3 x.Site]
def dec23 (x:TV τ):Option (zj):=(match x with | .agg [x0,x1]=>(match dec2 x0 with | some a0=>(match dec3 x1 with | some a1=>some ⟨a0,a1⟩ | none=>none) | none=>none) | _=>none)
def beq23 (x y:zj):Bool:=(beq2 x.Time y.Time&&(beq3 x.Site y.Site&&true))
def cel24 (x:GOp):List AV:=(cel23 x.Stamp++(cel3 x.Kind++(cel2 x.Node++(cel2 x.Parent++(cel9 x.Name++(cel9 x.Key++(cel9 x.Value++[])))))))
def enc24 (x:GOp):TV τ:=.agg [enc23 x.Stamp,enc3 x.Kind,enc2 x.Node,enc2 x.Parent,enc9 x.Name,enc9 x.Key,enc9 x.Value]
def dec24 (x:TV τ):Option (GOp):=(match x with | .agg [x0,x1,x2,x3,x4,x5,x6]=>(match dec23 x0 with | some a0=>(match dec3 x1 with | some a1=>(match dec2 x2 with | some a2=>(match dec2 x3 with | some a3=>(match dec9 x4 with | some a4=>(match dec9 x5 with | some a5=>(match dec9 x6 with | some a6=>some ⟨a0,a1,a2,a3,a4,a5,a6⟩ | none=>none) | none=>none) | none=>none) | none=>none) | none=>none) | none=>none) | none=>none) | _=>none)
def beq24 (x y:GOp):Bool:=(beq23 x.Stamp y.Stamp&&(beq3 x.Kind y.Kind&&(beq2 x.Node y.Node&&(beq2 x.Parent y.Parent&&(beq9 x.Name y.Name&&(beq9 x.Key y.Key&&(beq9 x.Value y.Value&&true)))))))
def cel25 (x:GOp):List AV:=(cel23 x.Stamp++(cel3 x.Kind++(cel2 x.Node++(cel2 x.Parent++(cel9 x.Name++(cel9 x.Key++(cel9 x.Value++[])))))))
def enc25 (x:GOp):TV τ:=.agg [enc23 x.Stamp,enc3 x.Kind,enc2 x.Node,enc2 x.Parent,enc9 x.Name,enc9 x.Key,enc9 x.Value]
def dec25 (x:TV τ):Option (GOp):=(match x with | .agg [x0,x1,x2,x3,x4,x5,x6]=>(match dec23 x0 with | some a0=>(match dec3 x1 with | some a1=>(match dec2 x2 with | some a2=>(match dec2 x3 with | some a3=>(match dec9 x4 with | some a4=>(match dec9 x5 with | some a5=>(match dec9 x6 with | some a6=>some ⟨a0,a1,a2,a3,a4,a5,a6⟩ | none=>none) | none=>none) | none=>none) | none=>none) | none=>none) | none=>none) | none=>none) | _=>none)
def beq25 (x y:GOp):Bool:=(beq23 x.Stamp y.Stamp&&(beq3 x.Kind y.Kind&&(beq2 x.Node y.Node&&(beq2 x.Parent y.Parent&&(beq9 x.Name y.Name&&(beq9 x.Key y.Key&&(beq9 x.Value y.Value&&true)))))))
def cel26 (x:Vector (Int) 8):List AV:=x.toList.flatMap cel3
def enc26 (x:Vector (Int) 8):TV τ:=.arr 3 8 x
def dec26 (x:TV τ):Option (Vector (Int) 8):=dArr 3 8 x
def beq26 (x y:Vector (Int) 8):Bool:=vbeq beq3 x y
def cel27 (x:Vector (Int) 8):List AV:=x.toList.flatMap cel2
def enc27 (x:Vector (Int) 8):TV τ:=.arr 2 8 x
def dec27 (x:TV τ):Option (Vector (Int) 8):=dArr 2 8 x
def beq27 (x y:Vector (Int) 8):Bool:=vbeq beq2 x y
def cel28 (x:Vector (Int) 8):List AV:=x.toList.flatMap cel2
def enc28 (x:Vector (Int) 8):TV τ:=.arr 2 8 x
def dec28 (x:TV τ):Option (Vector (Int) 8):=dArr 2 8 x
def beq28 (x y:Vector (Int) 8):Bool:=vbeq beq2 x y
def cel29 (x:z7):List AV:=(cel2 x.Number++(cel26 x.States++(cel28 x.Seals++(cel26 x.Sponsor++[]))))
def enc29 (x:z7):TV τ:=.agg [enc2 x.Number,enc26 x.States,enc28 x.Seals,enc26 x.Sponsor]
def dec29 (x:TV τ):Option (z7):=(match x with | .agg [x0,x1,x2,x3]=>(match dec2 x0 with | some a0=>(match dec26 x1 with | some a1=>(match dec28 x2 with | some a2=>(match dec26 x3 with | some a3=>some ⟨a0,a1,a2,a3⟩ | none=>none) | none=>none) | none=>none) | none=>none) | _=>none)
def beq29 (x y:z7):Bool:=(beq2 x.Number y.Number&&(beq26 x.States y.States&&(beq28 x.Seals y.Seals&&(beq26 x.Sponsor y.Sponsor&&true))))
def cel30 (x:z7):List AV:=(cel2 x.Number++(cel26 x.States++(cel28 x.Seals++(cel26 x.Sponsor++[]))))
def enc30 (x:z7):TV τ:=.agg [enc2 x.Number,enc26 x.States,enc28 x.Seals,enc26 x.Sponsor]
def dec30 (x:TV τ):Option (z7):=(match x with | .agg [x0,x1,x2,x3]=>(match dec2 x0 with | some a0=>(match dec26 x1 with | some a1=>(match dec28 x2 with | some a2=>(match dec26 x3 with | some a3=>some ⟨a0,a1,a2,a3⟩ | none=>none) | none=>none) | none=>none) | none=>none) | _=>none)
def beq30 (x y:z7):Bool:=(beq2 x.Number y.Number&&(beq26 x.States y.States&&(beq28 x.Seals y.Seals&&(beq26 x.Sponsor y.Sponsor&&true))))
def cel31 (x:List (Int)):List AV:=[.asl 1 (x.map cel5)]
def enc31 (x:List (Int)):TV τ:=.sl 5 x .any
def dec31 (x:TV τ):Option (List (Int)):=dSl 5 x
def cel35 (x:Int):List AV:=[.v (.int .i64 x)]
def enc35 (x:Int):TV τ:=.int .i64 x
def dec35 (x:TV τ):Option (Int):=dInt .i64 x
def beq35 (x y:Int):Bool:=(x==y)
def cel47 (x:z18):List AV:=(cel31 x.B++(cel3 x.At++(cel35 x.E++[])))
def enc47 (x:z18):TV τ:=.agg [enc31 x.B,enc3 x.At,enc35 x.E]
def dec47 (x:TV τ):Option (z18):=(match x with | .agg [x0,x1,x2]=>(match dec31 x0 with | some a0=>(match dec3 x1 with | some a1=>(match dec35 x2 with | some a2=>some ⟨a0,a1,a2⟩ | none=>none) | none=>none) | none=>none) | _=>none)
def cel48 (x:z18):List AV:=(cel31 x.B++(cel3 x.At++(cel35 x.E++[])))
def enc48 (x:z18):TV τ:=.agg [enc31 x.B,enc3 x.At,enc35 x.E]
def dec48 (x:TV τ):Option (z18):=(match x with | .agg [x0,x1,x2]=>(match dec31 x0 with | some a0=>(match dec3 x1 with | some a1=>(match dec35 x2 with | some a2=>some ⟨a0,a1,a2⟩ | none=>none) | none=>none) | none=>none) | _=>none)
def cel60 (x:List (GOp)):List AV:=[.asl 8 (x.map cel25)]
def enc60 (x:List (GOp)):TV τ:=.sl 25 x .any
def dec60 (x:TV τ):Option (List (GOp)):=dSl 25 x
def cel61 (x:GPart):List AV:=(cel2 x.Snap++(cel3 x.Index++(cel3 x.Many++(cel31 x.Data++[]))))
def enc61 (x:GPart):TV τ:=.agg [enc2 x.Snap,enc3 x.Index,enc3 x.Many,enc31 x.Data]
def dec61 (x:TV τ):Option (GPart):=(match x with | .agg [x0,x1,x2,x3]=>(match dec2 x0 with | some a0=>(match dec3 x1 with | some a1=>(match dec3 x2 with | some a2=>(match dec31 x3 with | some a3=>some ⟨a0,a1,a2,a3⟩ | none=>none) | none=>none) | none=>none) | none=>none) | _=>none)
def cel62 (x:GPart):List AV:=(cel2 x.Snap++(cel3 x.Index++(cel3 x.Many++(cel31 x.Data++[]))))
def enc62 (x:GPart):TV τ:=.agg [enc2 x.Snap,enc3 x.Index,enc3 x.Many,enc31 x.Data]
def dec62 (x:TV τ):Option (GPart):=(match x with | .agg [x0,x1,x2,x3]=>(match dec2 x0 with | some a0=>(match dec3 x1 with | some a1=>(match dec3 x2 with | some a2=>(match dec31 x3 with | some a3=>some ⟨a0,a1,a2,a3⟩ | none=>none) | none=>none) | none=>none) | none=>none) | _=>none)
def cel63 (x:z6):List AV:=(cel3 x.Kind++(cel2 x.Session++(cel2 x.Request++(cel25 x.Op++(cel3 x.Origin++(cel2 x.Seq++(cel60 x.Ops++(cel30 x.Epoch++(cel3 x.From++(cel28 x.Vector_++(cel2 x.Clock++(cel62 x.Part++(cel3 x.Site++(cel3 x.Sponsor++(cel2 x.Length++[])))))))))))))))
def enc63 (x:z6):TV τ:=.agg [enc3 x.Kind,enc2 x.Session,enc2 x.Request,enc25 x.Op,enc3 x.Origin,enc2 x.Seq,enc60 x.Ops,enc30 x.Epoch,enc3 x.From,enc28 x.Vector_,enc2 x.Clock,enc62 x.Part,enc3 x.Site,enc3 x.Sponsor,enc2 x.Length]
def dec63 (x:TV τ):Option (z6):=(match x with | .agg [x0,x1,x2,x3,x4,x5,x6,x7,x8,x9,x10,x11,x12,x13,x14]=>(match dec3 x0 with | some a0=>(match dec2 x1 with | some a1=>(match dec2 x2 with | some a2=>(match dec25 x3 with | some a3=>(match dec3 x4 with | some a4=>(match dec2 x5 with | some a5=>(match dec60 x6 with | some a6=>(match dec30 x7 with | some a7=>(match dec3 x8 with | some a8=>(match dec28 x9 with | some a9=>(match dec2 x10 with | some a10=>(match dec62 x11 with | some a11=>(match dec3 x12 with | some a12=>(match dec3 x13 with | some a13=>(match dec2 x14 with | some a14=>some ⟨a0,a1,a2,a3,a4,a5,a6,a7,a8,a9,a10,a11,a12,a13,a14⟩ | none=>none) | none=>none) | none=>none) | none=>none) | none=>none) | none=>none) | none=>none) | none=>none) | none=>none) | none=>none) | none=>none) | none=>none) | none=>none) | none=>none) | none=>none) | _=>none)
def cel64 (x:z6):List AV:=(cel3 x.Kind++(cel2 x.Session++(cel2 x.Request++(cel25 x.Op++(cel3 x.Origin++(cel2 x.Seq++(cel60 x.Ops++(cel30 x.Epoch++(cel3 x.From++(cel28 x.Vector_++(cel2 x.Clock++(cel62 x.Part++(cel3 x.Site++(cel3 x.Sponsor++(cel2 x.Length++[])))))))))))))))
def enc64 (x:z6):TV τ:=.agg [enc3 x.Kind,enc2 x.Session,enc2 x.Request,enc25 x.Op,enc3 x.Origin,enc2 x.Seq,enc60 x.Ops,enc30 x.Epoch,enc3 x.From,enc28 x.Vector_,enc2 x.Clock,enc62 x.Part,enc3 x.Site,enc3 x.Sponsor,enc2 x.Length]
def dec64 (x:TV τ):Option (z6):=(match x with | .agg [x0,x1,x2,x3,x4,x5,x6,x7,x8,x9,x10,x11,x12,x13,x14]=>(match dec3 x0 with | some a0=>(match dec2 x1 with | some a1=>(match dec2 x2 with | some a2=>(match dec25 x3 with | some a3=>(match dec3 x4 with | some a4=>(match dec2 x5 with | some a5=>(match dec60 x6 with | some a6=>(match dec30 x7 with | some a7=>(match dec3 x8 with | some a8=>(match dec28 x9 with | some a9=>(match dec2 x10 with | some a10=>(match dec62 x11 with | some a11=>(match dec3 x12 with | some a12=>(match dec3 x13 with | some a13=>(match dec2 x14 with | some a14=>some ⟨a0,a1,a2,a3,a4,a5,a6,a7,a8,a9,a10,a11,a12,a13,a14⟩ | none=>none) | none=>none) | none=>none) | none=>none) | none=>none) | none=>none) | none=>none) | none=>none) | none=>none) | none=>none) | none=>none) | none=>none) | none=>none) | none=>none) | none=>none) | _=>none)
def cel65 (x:GAddr):List AV:=(cel3 x.Group++(cel3 x.Replica++[]))
def enc65 (x:GAddr):TV τ:=.agg [enc3 x.Group,enc3 x.Replica]
def dec65 (x:TV τ):Option (GAddr):=(match x with | .agg [x0,x1]=>(match dec3 x0 with | some a0=>(match dec3 x1 with | some a1=>some ⟨a0,a1⟩ | none=>none) | none=>none) | _=>none)
def beq65 (x y:GAddr):Bool:=(beq3 x.Group y.Group&&(beq3 x.Replica y.Replica&&true))
def cel66 (x:GAddr):List AV:=(cel3 x.Group++(cel3 x.Replica++[]))
def enc66 (x:GAddr):TV τ:=.agg [enc3 x.Group,enc3 x.Replica]
def dec66 (x:TV τ):Option (GAddr):=(match x with | .agg [x0,x1]=>(match dec3 x0 with | some a0=>(match dec3 x1 with | some a1=>some ⟨a0,a1⟩ | none=>none) | none=>none) | _=>none)
def beq66 (x y:GAddr):Bool:=(beq3 x.Group y.Group&&(beq3 x.Replica y.Replica&&true))
def cel67 (x:zc):List AV:=(cel2 x.Round++(cel3 x.Replica++[]))
def enc67 (x:zc):TV τ:=.agg [enc2 x.Round,enc3 x.Replica]
def dec67 (x:TV τ):Option (zc):=(match x with | .agg [x0,x1]=>(match dec2 x0 with | some a0=>(match dec3 x1 with | some a1=>some ⟨a0,a1⟩ | none=>none) | none=>none) | _=>none)
def beq67 (x y:zc):Bool:=(beq2 x.Round y.Round&&(beq3 x.Replica y.Replica&&true))
def cel68 (x:zc):List AV:=(cel2 x.Round++(cel3 x.Replica++[]))
def enc68 (x:zc):TV τ:=.agg [enc2 x.Round,enc3 x.Replica]
def dec68 (x:TV τ):Option (zc):=(match x with | .agg [x0,x1]=>(match dec2 x0 with | some a0=>(match dec3 x1 with | some a1=>some ⟨a0,a1⟩ | none=>none) | none=>none) | _=>none)
def beq68 (x y:zc):Bool:=(beq2 x.Round y.Round&&(beq3 x.Replica y.Replica&&true))
def cel178 (x:zd):List AV:=(cel2 x.Slot++(cel68 x.Ballot++(cel64 x.Entry++[])))
def enc178 (x:zd):TV τ:=.agg [enc2 x.Slot,enc68 x.Ballot,enc64 x.Entry]
def zxm (x:TV τ):Option (zd):=(match x with | .agg [x0,x1,x2]=>(match dec2 x0 with | some a0=>(match dec68 x1 with | some a1=>(match dec64 x2 with | some a2=>some ⟨a0,a1,a2⟩ | none=>none) | none=>none) | none=>none) | _=>none)
def cel69 (x:List (zd)):List AV:=[.asl 59 (x.map cel178)]
def enc69 (x:List (zd)):TV τ:=.sl 178 x .any
def dec69 (x:TV τ):Option (List (zd)):=dSl 178 x
def cel70 (x:GMsg):List AV:=(cel3 x.Kind++(cel66 x.From++(cel66 x.To++(cel68 x.Ballot++(cel2 x.Slot++(cel69 x.List_++(cel64 x.Entry++(cel2 x.Number++(cel28 x.Vector_++(cel2 x.Clock++(cel3 x.Origin++(cel60 x.Ops++(cel30 x.Epoch++(cel62 x.Part++[]))))))))))))))
def enc70 (x:GMsg):TV τ:=.agg [enc3 x.Kind,enc66 x.From,enc66 x.To,enc68 x.Ballot,enc2 x.Slot,enc69 x.List_,enc64 x.Entry,enc2 x.Number,enc28 x.Vector_,enc2 x.Clock,enc3 x.Origin,enc60 x.Ops,enc30 x.Epoch,enc62 x.Part]
def dec70 (x:TV τ):Option (GMsg):=(match x with | .agg [x0,x1,x2,x3,x4,x5,x6,x7,x8,x9,x10,x11,x12,x13]=>(match dec3 x0 with | some a0=>(match dec66 x1 with | some a1=>(match dec66 x2 with | some a2=>(match dec68 x3 with | some a3=>(match dec2 x4 with | some a4=>(match dec69 x5 with | some a5=>(match dec64 x6 with | some a6=>(match dec2 x7 with | some a7=>(match dec28 x8 with | some a8=>(match dec2 x9 with | some a9=>(match dec3 x10 with | some a10=>(match dec60 x11 with | some a11=>(match dec30 x12 with | some a12=>(match dec62 x13 with | some a13=>some ⟨a0,a1,a2,a3,a4,a5,a6,a7,a8,a9,a10,a11,a12,a13⟩ | none=>none) | none=>none) | none=>none) | none=>none) | none=>none) | none=>none) | none=>none) | none=>none) | none=>none) | none=>none) | none=>none) | none=>none) | none=>none) | none=>none) | _=>none)
def cel71 (x:GMsg):List AV:=(cel3 x.Kind++(cel66 x.From++(cel66 x.To++(cel68 x.Ballot++(cel2 x.Slot++(cel69 x.List_++(cel64 x.Entry++(cel2 x.Number++(cel28 x.Vector_++(cel2 x.Clock++(cel3 x.Origin++(cel60 x.Ops++(cel30 x.Epoch++(cel62 x.Part++[]))))))))))))))
def enc71 (x:GMsg):TV τ:=.agg [enc3 x.Kind,enc66 x.From,enc66 x.To,enc68 x.Ballot,enc2 x.Slot,enc69 x.List_,enc64 x.Entry,enc2 x.Number,enc28 x.Vector_,enc2 x.Clock,enc3 x.Origin,enc60 x.Ops,enc30 x.Epoch,enc62 x.Part]
def dec71 (x:TV τ):Option (GMsg):=(match x with | .agg [x0,x1,x2,x3,x4,x5,x6,x7,x8,x9,x10,x11,x12,x13]=>(match dec3 x0 with | some a0=>(match dec66 x1 with | some a1=>(match dec66 x2 with | some a2=>(match dec68 x3 with | some a3=>(match dec2 x4 with | some a4=>(match dec69 x5 with | some a5=>(match dec64 x6 with | some a6=>(match dec2 x7 with | some a7=>(match dec28 x8 with | some a8=>(match dec2 x9 with | some a9=>(match dec3 x10 with | some a10=>(match dec60 x11 with | some a11=>(match dec30 x12 with | some a12=>(match dec62 x13 with | some a13=>some ⟨a0,a1,a2,a3,a4,a5,a6,a7,a8,a9,a10,a11,a12,a13⟩ | none=>none) | none=>none) | none=>none) | none=>none) | none=>none) | none=>none) | none=>none) | none=>none) | none=>none) | none=>none) | none=>none) | none=>none) | none=>none) | none=>none) | _=>none)
def cel86 (x:z4):List AV:=(cel4 x.made++(cel31 x.b++[]))
def enc86 (x:z4):TV τ:=.agg [enc4 x.made,enc31 x.b]
def dec86 (x:TV τ):Option (z4):=(match x with | .agg [x0,x1]=>(match dec4 x0 with | some a0=>(match dec31 x1 with | some a1=>some ⟨a0,a1⟩ | none=>none) | none=>none) | _=>none)
def cel87 (x:z4):List AV:=(cel4 x.made++(cel31 x.b++[]))
def enc87 (x:z4):TV τ:=.agg [enc4 x.made,enc31 x.b]
def dec87 (x:TV τ):Option (z4):=(match x with | .agg [x0,x1]=>(match dec4 x0 with | some a0=>(match dec31 x1 with | some a1=>some ⟨a0,a1⟩ | none=>none) | none=>none) | _=>none)
def cel99 (x:z4):List AV:=(cel4 x.made++(cel31 x.b++[]))
def enc99 (x:z4):TV τ:=.agg [enc4 x.made,enc31 x.b]
def dec99 (x:TV τ):Option (z4):=(match x with | .agg [x0,x1]=>(match dec4 x0 with | some a0=>(match dec31 x1 with | some a1=>some ⟨a0,a1⟩ | none=>none) | none=>none) | _=>none)
def cel143 (x:List (Int)):List AV:=[.asl 1 (x.map cel2)]
def enc143 (x:List (Int)):TV τ:=.sl 2 x .any
def dec143 (x:TV τ):Option (List (Int)):=dSl 2 x
def cel145 (x:List (Int)):List AV:=[.asl 1 (x.map cel3)]
def enc145 (x:List (Int)):TV τ:=.sl 3 x .any
def dec145 (x:TV τ):Option (List (Int)):=dSl 3 x
def cel167 (x:Int):List AV:=[.v (.int .u32 x)]
def enc167 (x:Int):TV τ:=.int .u32 x
def dec167 (x:TV τ):Option (Int):=dInt .u32 x
def beq167 (x y:Int):Bool:=(x==y)
def cel171 (x:Int):List AV:=[.v (.int .u64 x)]
def enc171 (x:Int):TV τ:=.int .u64 x
def dec171 (x:TV τ):Option (Int):=dInt .u64 x
def beq171 (x y:Int):Bool:=(x==y)
def cel177 (x:zd):List AV:=(cel2 x.Slot++(cel68 x.Ballot++(cel64 x.Entry++[])))
def enc177 (x:zd):TV τ:=.agg [enc2 x.Slot,enc68 x.Ballot,enc64 x.Entry]
def zxn (x:TV τ):Option (zd):=(match x with | .agg [x0,x1,x2]=>(match dec2 x0 with | some a0=>(match dec68 x1 with | some a1=>(match dec64 x2 with | some a2=>some ⟨a0,a1,a2⟩ | none=>none) | none=>none) | none=>none) | _=>none)
def cel181 (x:List (List UInt8)):List AV:=[.asl 1 (x.map cel9)]
def enc181 (x:List (List UInt8)):TV τ:=.sl 9 x .any
def dec181 (x:TV τ):Option (List (List UInt8)):=dSl 9 x
def cel183 (x:Int):List AV:=[.v (.int .u64 x)]
def enc183 (x:Int):TV τ:=.int .u64 x
def dec183 (x:TV τ):Option (Int):=dInt .u64 x
def beq183 (x y:Int):Bool:=(x==y)
def cel190 (x:List (GAddr)):List AV:=[.asl 2 (x.map cel66)]
def enc190 (x:List (GAddr)):TV τ:=.sl 66 x .any
def dec190 (x:TV τ):Option (List (GAddr)):=dSl 66 x
def cel194 (x:List (List (Int))):List AV:=[.asl 1 (x.map cel31)]
def enc194 (x:List (List (Int))):TV τ:=.sl 31 x .any
def dec194 (x:TV τ):Option (List (List (Int))):=dSl 31 x
def celT:(t:Nat)→τ t→List AV
  | 2=>cel2
  | 3=>cel3
  | 4=>cel4
  | 5=>cel5
  | 9=>cel9
  | 12=>cel12
  | 21=>cel21
  | 22=>cel22
  | 23=>cel23
  | 24=>cel24
  | 25=>cel25
  | 26=>cel26
  | 27=>cel27
  | 28=>cel28
  | 29=>cel29
  | 30=>cel30
  | 31=>cel31
  | 35=>cel35
  | 47=>cel47
  | 48=>cel48
  | 60=>cel60
  | 61=>cel61
  | 62=>cel62
  | 63=>cel63
  | 64=>cel64
  | 65=>cel65
  | 66=>cel66
  | 67=>cel67
  | 68=>cel68
  | 69=>cel69
  | 70=>cel70
  | 71=>cel71
  | 86=>cel86
  | 87=>cel87
  | 99=>cel99
  | 143=>cel143
  | 145=>cel145
  | 167=>cel167
  | 171=>cel171
  | 177=>cel177
  | 178=>cel178
  | 181=>cel181
  | 183=>cel183
  | 190=>cel190
  | 194=>cel194
  | _=>fun _=>[]
def encT:(t:Nat)→τ t→TV τ
  | 2=>enc2
  | 3=>enc3
  | 4=>enc4
  | 5=>enc5
  | 9=>enc9
  | 12=>enc12
  | 21=>enc21
  | 22=>enc22
  | 23=>enc23
  | 24=>enc24
  | 25=>enc25
  | 26=>enc26
  | 27=>enc27
  | 28=>enc28
  | 29=>enc29
  | 30=>enc30
  | 31=>enc31
  | 35=>enc35
  | 47=>enc47
  | 48=>enc48
  | 60=>enc60
  | 61=>enc61
  | 62=>enc62
  | 63=>enc63
  | 64=>enc64
  | 65=>enc65
  | 66=>enc66
  | 67=>enc67
  | 68=>enc68
  | 69=>enc69
  | 70=>enc70
  | 71=>enc71
  | 86=>enc86
  | 87=>enc87
  | 99=>enc99
  | 143=>enc143
  | 145=>enc145
  | 167=>enc167
  | 171=>enc171
  | 177=>enc177
  | 178=>enc178
  | 181=>enc181
  | 183=>enc183
  | 190=>enc190
  | 194=>enc194
  | _=>fun _=>.agg []
def decT:(t:Nat)→TV τ→Option (τ t)
  | 2=>dec2
  | 3=>dec3
  | 4=>dec4
  | 5=>dec5
  | 9=>dec9
  | 12=>dec12
  | 21=>dec21
  | 22=>dec22
  | 23=>dec23
  | 24=>dec24
  | 25=>dec25
  | 26=>dec26
  | 27=>dec27
  | 28=>dec28
  | 29=>dec29
  | 30=>dec30
  | 31=>dec31
  | 35=>dec35
  | 47=>dec47
  | 48=>dec48
  | 60=>dec60
  | 61=>dec61
  | 62=>dec62
  | 63=>dec63
  | 64=>dec64
  | 65=>dec65
  | 66=>dec66
  | 67=>dec67
  | 68=>dec68
  | 69=>dec69
  | 70=>dec70
  | 71=>dec71
  | 86=>dec86
  | 87=>dec87
  | 99=>dec99
  | 143=>dec143
  | 145=>dec145
  | 167=>dec167
  | 171=>dec171
  | 177=>zxn
  | 178=>zxm
  | 181=>dec181
  | 183=>dec183
  | 190=>dec190
  | 194=>dec194
  | _=>fun _=>none
theorem dfN (t:Nat):Nonempty (τ t):=by unfold τ; split <;> exact ⟨default⟩
noncomputable def dfX (t:Nat):τ t:=Classical.choice (dfN t)
noncomputable def dfT:(t:Nat)→τ t
  | 2=>(default:Int)
  | 3=>(default:Int)
  | 4=>(default:Bool)
  | 5=>(default:Int)
  | 9=>(default:List UInt8)
  | 12=>(default:Int)
  | 21=>(default:Int)
  | 22=>(default:zj)
  | 23=>(default:zj)
  | 24=>(default:GOp)
  | 25=>(default:GOp)
  | 26=>(default:Vector (Int) 8)
  | 27=>(default:Vector (Int) 8)
  | 28=>(default:Vector (Int) 8)
  | 29=>(default:z7)
  | 30=>(default:z7)
  | 31=>(default:List (Int))
  | 35=>(default:Int)
  | 47=>(default:z18)
  | 48=>(default:z18)
  | 60=>(default:List (GOp))
  | 61=>(default:GPart)
  | 62=>(default:GPart)
  | 63=>(default:z6)
  | 64=>(default:z6)
  | 65=>(default:GAddr)
  | 66=>(default:GAddr)
  | 67=>(default:zc)
  | 68=>(default:zc)
  | 69=>(default:List (zd))
  | 70=>(default:GMsg)
  | 71=>(default:GMsg)
  | 86=>(default:z4)
  | 87=>(default:z4)
  | 99=>(default:z4)
  | 143=>(default:List (Int))
  | 145=>(default:List (Int))
  | 167=>(default:Int)
  | 171=>(default:Int)
  | 177=>(default:zd)
  | 178=>(default:zd)
  | 181=>(default:List (List UInt8))
  | 183=>(default:Int)
  | 190=>(default:List (GAddr))
  | 194=>(default:List (List (Int)))
  | t=>dfX t
def szT:Nat→Nat
  | 2=>1
  | 3=>1
  | 4=>1
  | 5=>1
  | 9=>1
  | 12=>1
  | 21=>1
  | 22=>2
  | 23=>2
  | 24=>8
  | 25=>8
  | 26=>8
  | 27=>8
  | 28=>8
  | 29=>25
  | 30=>25
  | 31=>1
  | 35=>1
  | 47=>3
  | 48=>3
  | 60=>1
  | 61=>4
  | 62=>4
  | 63=>56
  | 64=>56
  | 65=>2
  | 66=>2
  | 67=>2
  | 68=>2
  | 69=>1
  | 70=>106
  | 71=>106
  | 86=>2
  | 87=>2
  | 99=>2
  | 143=>1
  | 145=>1
  | 167=>1
  | 171=>1
  | 177=>59
  | 178=>59
  | 181=>1
  | 183=>1
  | 190=>1
  | 194=>1
  | _=>0
def kdT:Nat→Option (List Kd)
  | 2=>some [.i]
  | 3=>some [.i]
  | 4=>some [.b]
  | 5=>some [.i]
  | 9=>some [.s]
  | 12=>some [.i]
  | 21=>some [.i]
  | 22=>some [.i,.i]
  | 23=>some [.i,.i]
  | 24=>some [.i,.i,.i,.i,.i,.s,.s,.s]
  | 25=>some [.i,.i,.i,.i,.i,.s,.s,.s]
  | 26=>some [.i,.i,.i,.i,.i,.i,.i,.i]
  | 27=>some [.i,.i,.i,.i,.i,.i,.i,.i]
  | 28=>some [.i,.i,.i,.i,.i,.i,.i,.i]
  | 29=>some [.i,.i,.i,.i,.i,.i,.i,.i,.i,.i,.i,.i,.i,.i,.i,.i,.i,.i,.i,.i,.i,.i,.i,.i,.i]
  | 30=>some [.i,.i,.i,.i,.i,.i,.i,.i,.i,.i,.i,.i,.i,.i,.i,.i,.i,.i,.i,.i,.i,.i,.i,.i,.i]
  | 35=>some [.i]
  | 65=>some [.i,.i]
  | 66=>some [.i,.i]
  | 67=>some [.i,.i]
  | 68=>some [.i,.i]
  | 167=>some [.i]
  | 171=>some [.i]
  | 183=>some [.i]
  | _=>none
def beqT:(t:Nat)→τ t→τ t→Bool
  | 2=>beq2
  | 3=>beq3
  | 4=>beq4
  | 5=>beq5
  | 9=>beq9
  | 12=>beq12
  | 21=>beq21
  | 22=>beq22
  | 23=>beq23
  | 24=>beq24
  | 25=>beq25
  | 26=>beq26
  | 27=>beq27
  | 28=>beq28
  | 29=>beq29
  | 30=>beq30
  | 35=>beq35
  | 65=>beq65
  | 66=>beq66
  | 67=>beq67
  | 68=>beq68
  | 167=>beq167
  | 171=>beq171
  | 183=>beq183
  | _=>fun _ _=>false
def b2sT:(t:Nat)→List (τ t)→Option (List UInt8)
  | 5=>fun (l:List Int)=>some (strI l)
  | _=>fun _=>none
def s2bT:(t:Nat)→List UInt8→Option (List (τ t))
  | 5=>fun s=>some (zo3 s)
  | _=>fun _=>none
noncomputable def siteT:Nat→Nat→Array Tmp×Code×Code:=fun f k=>(#[],.skip,.skip)
noncomputable def C:Cod τ:=⟨celT,encT,decT,dfT,szT,kdT,beqT,b2sT,s2bT,siteT⟩
theorem law2:CodAt C 2:=⟨fun x=>rfl,fun x=>rfl,fun x a h=>by rw [z8a (show dInt .i64 x=some a from h)]; exact .refl _,fun x=>rfl,fun x a h=>by rw [z8a (show dInt .i64 x=some a from h)]; rfl,fun x a h=>by rw [z8a (show dInt .i64 x=some a from h)]; rfl,fun a=>rfl,fun a=>z3h (NoId.v _),fun ks h a b=>by cases h; simp [z1o,scal,C,celT,cel2,beqT,beq2],(fun l s h=>nomatch h),(fun s l h=>nomatch h)⟩
theorem law3:CodAt C 3:=⟨fun x=>rfl,fun x=>rfl,fun x a h=>by rw [z8a (show dInt .i64 x=some a from h)]; exact .refl _,fun x=>rfl,fun x a h=>by rw [z8a (show dInt .i64 x=some a from h)]; rfl,fun x a h=>by rw [z8a (show dInt .i64 x=some a from h)]; rfl,fun a=>rfl,fun a=>z3h (NoId.v _),fun ks h a b=>by cases h; simp [z1o,scal,C,celT,cel3,beqT,beq3],(fun l s h=>nomatch h),(fun s l h=>nomatch h)⟩
theorem law4:CodAt C 4:=⟨fun x=>rfl,fun x=>rfl,fun x a h=>by rw [z12k (show dBool x=some a from h)]; exact .refl _,fun x=>rfl,fun x a h=>by rw [z12k (show dBool x=some a from h)]; rfl,fun x a h=>by rw [z12k (show dBool x=some a from h)]; rfl,fun a=>rfl,fun a=>z3h (NoId.v _),fun ks h a b=>by cases h; simp [z1o,scal,C,celT,cel4,beqT,beq4],(fun l s h=>nomatch h),(fun s l h=>nomatch h)⟩
theorem law5:CodAt C 5:=⟨fun x=>rfl,fun x=>rfl,fun x a h=>by rw [z8a (show dInt .u8 x=some a from h)]; exact .refl _,fun x=>rfl,fun x a h=>by rw [z8a (show dInt .u8 x=some a from h)]; rfl,fun x a h=>by rw [z8a (show dInt .u8 x=some a from h)]; rfl,fun a=>rfl,fun a=>z3h (NoId.v _),fun ks h a b=>by cases h; simp [z1o,scal,C,celT,cel5,beqT,beq5],fun l s h=>⟨rfl,(zwb l).trans h⟩,fun s l h=>⟨rfl,by cases h; show (zo3 s).map cel5=_; simp [zo3,cel5,zl9]⟩⟩
theorem law9:CodAt C 9:=⟨fun x=>rfl,fun x=>rfl,fun x a h=>by rw [dStr_x (show dStr x=some a from h)]; exact .refl _,fun x=>rfl,fun x a h=>by rw [dStr_x (show dStr x=some a from h)]; rfl,fun x a h=>by rw [dStr_x (show dStr x=some a from h)]; rfl,fun a=>rfl,fun a=>z3h (NoId.v _),fun ks h a b=>by cases h; simp [z1o,scal,C,celT,cel9,beqT,beq9],(fun l s h=>nomatch h),(fun s l h=>nomatch h)⟩
theorem law12:CodAt C 12:=⟨fun x=>rfl,fun x=>rfl,fun x a h=>by rw [z8a (show dInt .u64 x=some a from h)]; exact .refl _,fun x=>rfl,fun x a h=>by rw [z8a (show dInt .u64 x=some a from h)]; rfl,fun x a h=>by rw [z8a (show dInt .u64 x=some a from h)]; rfl,fun a=>rfl,fun a=>z3h (NoId.v _),fun ks h a b=>by cases h; simp [z1o,scal,C,celT,cel12,beqT,beq12],(fun l s h=>nomatch h),(fun s l h=>nomatch h)⟩
theorem law21:CodAt C 21:=⟨fun x=>rfl,fun x=>rfl,fun x a h=>by rw [z8a (show dInt .i32 x=some a from h)]; exact .refl _,fun x=>rfl,fun x a h=>by rw [z8a (show dInt .i32 x=some a from h)]; rfl,fun x a h=>by rw [z8a (show dInt .i32 x=some a from h)]; rfl,fun a=>rfl,fun a=>z3h (NoId.v _),fun ks h a b=>by cases h; simp [z1o,scal,C,celT,cel21,beqT,beq21],(fun l s h=>nomatch h),(fun s l h=>nomatch h)⟩
theorem decx22 {x:TV τ} {a:zj} (h:dec22 x=some a):∃ x0 x1,x=.agg [x0,x1]∧dec2 x0=some a.Time∧dec3 x1=some a.Site:=by
  unfold dec22 at h
  split at h
  · rename_i x0 x1
    split at h
    · rename_i a0 h0
      split at h
      · rename_i a1 h1
        cases h
        exact ⟨_,_,rfl,h0,h1⟩
      · cases h
    · cases h
  · cases h
theorem law22:CodAt C 22:=⟨fun x=>by show ((enc2 x.Time).cells C++((enc3 x.Site).cells C++[]))=cel22 x; unfold cel22; exact congr (congrArg (·++·) (law2.cel x.Time)) (congr (congrArg (·++·) (law3.cel x.Site)) (rfl)),fun x=>by show ((cel2 x.Time++(cel3 x.Site++[]))).length=2; rw [List.length_append,List.length_append]; have e0:(cel2 x.Time).length=1:=law2.len x.Time; have e1:(cel3 x.Site).length=1:=law3.len x.Site; simp only [e0,e1,List.length_nil],fun x a h=>by obtain ⟨x0,x1,rfl,h0,h1⟩:=decx22 (show dec22 x=some a from h); exact CW.append (law2.dec _ _ h0) (CW.append (law3.dec _ _ h1) (CW.refl [])),fun x=>by show (((enc2 x.Time).ok&&((enc3 x.Site).ok&&true)))=true; simp only [show (enc2 x.Time).ok=true from law2.ok _,show (enc3 x.Site).ok=true from law3.ok _,Bool.and_self],fun x a h=>by obtain ⟨x0,x1,rfl,h0,h1⟩:=decx22 (show dec22 x=some a from h); show ((x0.ok&&(x1.ok&&true)))=true; simp only [law2.decok _ _ h0,law3.decok _ _ h1,Bool.and_self],fun x a h=>by obtain ⟨x0,x1,rfl,h0,h1⟩:=decx22 (show dec22 x=some a from h); rfl,fun x=>by show ((cel2 x.Time++(cel3 x.Site++[]))).all AV.one=true; simp only [List.all_append,List.all_nil,show (cel2 x.Time).all AV.one=true from law2.one _,show (cel3 x.Site).all AV.one=true from law3.one _,Bool.and_self],fun x=>za (law2.noid x.Time) (za (law3.noid x.Site) (trivial)),fun ks h a b=>by have:=zi (law2.kd _ rfl a.Time b.Time) (zi (law3.kd _ rfl a.Site b.Site) ((show z1o [] [] []=some true from rfl))); cases h; exact this,(fun l s h=>nomatch h),(fun s l h=>nomatch h)⟩
theorem decx23 {x:TV τ} {a:zj} (h:dec23 x=some a):∃ x0 x1,x=.agg [x0,x1]∧dec2 x0=some a.Time∧dec3 x1=some a.Site:=by
  unfold dec23 at h
  split at h
  · rename_i x0 x1
    split at h
    · rename_i a0 h0
      split at h
      · rename_i a1 h1
        cases h
        exact ⟨_,_,rfl,h0,h1⟩
      · cases h
    · cases h
  · cases h
theorem law23:CodAt C 23:=⟨fun x=>by show ((enc2 x.Time).cells C++((enc3 x.Site).cells C++[]))=cel23 x; unfold cel23; exact congr (congrArg (·++·) (law2.cel x.Time)) (congr (congrArg (·++·) (law3.cel x.Site)) (rfl)),fun x=>by show ((cel2 x.Time++(cel3 x.Site++[]))).length=2; rw [List.length_append,List.length_append]; have e0:(cel2 x.Time).length=1:=law2.len x.Time; have e1:(cel3 x.Site).length=1:=law3.len x.Site; simp only [e0,e1,List.length_nil],fun x a h=>by obtain ⟨x0,x1,rfl,h0,h1⟩:=decx23 (show dec23 x=some a from h); exact CW.append (law2.dec _ _ h0) (CW.append (law3.dec _ _ h1) (CW.refl [])),fun x=>by show (((enc2 x.Time).ok&&((enc3 x.Site).ok&&true)))=true; simp only [show (enc2 x.Time).ok=true from law2.ok _,show (enc3 x.Site).ok=true from law3.ok _,Bool.and_self],fun x a h=>by obtain ⟨x0,x1,rfl,h0,h1⟩:=decx23 (show dec23 x=some a from h); show ((x0.ok&&(x1.ok&&true)))=true; simp only [law2.decok _ _ h0,law3.decok _ _ h1,Bool.and_self],fun x a h=>by obtain ⟨x0,x1,rfl,h0,h1⟩:=decx23 (show dec23 x=some a from h); rfl,fun x=>by show ((cel2 x.Time++(cel3 x.Site++[]))).all AV.one=true; simp only [List.all_append,List.all_nil,show (cel2 x.Time).all AV.one=true from law2.one _,show (cel3 x.Site).all AV.one=true from law3.one _,Bool.and_self],fun x=>za (law2.noid x.Time) (za (law3.noid x.Site) (trivial)),fun ks h a b=>by have:=zi (law2.kd _ rfl a.Time b.Time) (zi (law3.kd _ rfl a.Site b.Site) ((show z1o [] [] []=some true from rfl))); cases h; exact this,(fun l s h=>nomatch h),(fun s l h=>nomatch h)⟩
theorem decx24 {x:TV τ} {a:GOp} (h:dec24 x=some a):∃ x0 x1 x2 x3 x4 x5 x6,x=.agg [x0,x1,x2,x3,x4,x5,x6]∧dec23 x0=some a.Stamp∧dec3 x1=some a.Kind∧dec2 x2=some a.Node∧dec2 x3=some a.Parent∧dec9 x4=some a.Name∧dec9 x5=some a.Key∧dec9 x6=some a.Value:=by
  unfold dec24 at h
  split at h
  · rename_i x0 x1 x2 x3 x4 x5 x6
    split at h
    · rename_i a0 h0
      split at h
      · rename_i a1 h1
        split at h
        · rename_i a2 h2
          split at h
          · rename_i a3 h3
            split at h
            · rename_i a4 h4
              split at h
              · rename_i a5 h5
                split at h
                · rename_i a6 h6
                  cases h
                  exact ⟨_,_,_,_,_,_,_,rfl,h0,h1,h2,h3,h4,h5,h6⟩
                · cases h
              · cases h
            · cases h
          · cases h
        · cases h
      · cases h
    · cases h
  · cases h
theorem law24:CodAt C 24:=⟨fun x=>by show ((enc23 x.Stamp).cells C++((enc3 x.Kind).cells C++((enc2 x.Node).cells C++((enc2 x.Parent).cells C++((enc9 x.Name).cells C++((enc9 x.Key).cells C++((enc9 x.Value).cells C++[])))))))=cel24 x; unfold cel24; exact congr (congrArg (·++·) (law23.cel x.Stamp)) (congr (congrArg (·++·) (law3.cel x.Kind)) (congr (congrArg (·++·) (law2.cel x.Node)) (congr (congrArg (·++·) (law2.cel x.Parent)) (congr (congrArg (·++·) (law9.cel x.Name)) (congr (congrArg (·++·) (law9.cel x.Key)) (congr (congrArg (·++·) (law9.cel x.Value)) (rfl))))))),fun x=>by show ((cel23 x.Stamp++(cel3 x.Kind++(cel2 x.Node++(cel2 x.Parent++(cel9 x.Name++(cel9 x.Key++(cel9 x.Value++[])))))))).length=8; rw [List.length_append,List.length_append,List.length_append,List.length_append,List.length_append,List.length_append,List.length_append]; have e0:(cel23 x.Stamp).length=2:=law23.len x.Stamp; have e1:(cel3 x.Kind).length=1:=law3.len x.Kind; have e2:(cel2 x.Node).length=1:=law2.len x.Node; have e3:(cel2 x.Parent).length=1:=law2.len x.Parent; have e4:(cel9 x.Name).length=1:=law9.len x.Name; have e5:(cel9 x.Key).length=1:=law9.len x.Key; have e6:(cel9 x.Value).length=1:=law9.len x.Value; simp only [e0,e1,e2,e3,e4,e5,e6,List.length_nil],fun x a h=>by obtain ⟨x0,x1,x2,x3,x4,x5,x6,rfl,h0,h1,h2,h3,h4,h5,h6⟩:=decx24 (show dec24 x=some a from h); exact CW.append (law23.dec _ _ h0) (CW.append (law3.dec _ _ h1) (CW.append (law2.dec _ _ h2) (CW.append (law2.dec _ _ h3) (CW.append (law9.dec _ _ h4) (CW.append (law9.dec _ _ h5) (CW.append (law9.dec _ _ h6) (CW.refl []))))))),fun x=>by show (((enc23 x.Stamp).ok&&((enc3 x.Kind).ok&&((enc2 x.Node).ok&&((enc2 x.Parent).ok&&((enc9 x.Name).ok&&((enc9 x.Key).ok&&((enc9 x.Value).ok&&true))))))))=true; simp only [show (enc23 x.Stamp).ok=true from law23.ok _,show (enc3 x.Kind).ok=true from law3.ok _,show (enc2 x.Node).ok=true from law2.ok _,show (enc2 x.Parent).ok=true from law2.ok _,show (enc9 x.Name).ok=true from law9.ok _,show (enc9 x.Key).ok=true from law9.ok _,show (enc9 x.Value).ok=true from law9.ok _,Bool.and_self],fun x a h=>by obtain ⟨x0,x1,x2,x3,x4,x5,x6,rfl,h0,h1,h2,h3,h4,h5,h6⟩:=decx24 (show dec24 x=some a from h); show ((x0.ok&&(x1.ok&&(x2.ok&&(x3.ok&&(x4.ok&&(x5.ok&&(x6.ok&&true))))))))=true; simp only [law23.decok _ _ h0,law3.decok _ _ h1,law2.decok _ _ h2,law2.decok _ _ h3,law9.decok _ _ h4,law9.decok _ _ h5,law9.decok _ _ h6,Bool.and_self],fun x a h=>by obtain ⟨x0,x1,x2,x3,x4,x5,x6,rfl,h0,h1,h2,h3,h4,h5,h6⟩:=decx24 (show dec24 x=some a from h); rfl,fun x=>by show ((cel23 x.Stamp++(cel3 x.Kind++(cel2 x.Node++(cel2 x.Parent++(cel9 x.Name++(cel9 x.Key++(cel9 x.Value++[])))))))).all AV.one=true; simp only [List.all_append,List.all_nil,show (cel23 x.Stamp).all AV.one=true from law23.one _,show (cel3 x.Kind).all AV.one=true from law3.one _,show (cel2 x.Node).all AV.one=true from law2.one _,show (cel2 x.Parent).all AV.one=true from law2.one _,show (cel9 x.Name).all AV.one=true from law9.one _,show (cel9 x.Key).all AV.one=true from law9.one _,show (cel9 x.Value).all AV.one=true from law9.one _,Bool.and_self],fun x=>za (law23.noid x.Stamp) (za (law3.noid x.Kind) (za (law2.noid x.Node) (za (law2.noid x.Parent) (za (law9.noid x.Name) (za (law9.noid x.Key) (za (law9.noid x.Value) (trivial))))))),fun ks h a b=>by have:=zi (law23.kd _ rfl a.Stamp b.Stamp) (zi (law3.kd _ rfl a.Kind b.Kind) (zi (law2.kd _ rfl a.Node b.Node) (zi (law2.kd _ rfl a.Parent b.Parent) (zi (law9.kd _ rfl a.Name b.Name) (zi (law9.kd _ rfl a.Key b.Key) (zi (law9.kd _ rfl a.Value b.Value) ((show z1o [] [] []=some true from rfl)))))))); cases h; exact this,(fun l s h=>nomatch h),(fun s l h=>nomatch h)⟩
theorem decx25 {x:TV τ} {a:GOp} (h:dec25 x=some a):∃ x0 x1 x2 x3 x4 x5 x6,x=.agg [x0,x1,x2,x3,x4,x5,x6]∧dec23 x0=some a.Stamp∧dec3 x1=some a.Kind∧dec2 x2=some a.Node∧dec2 x3=some a.Parent∧dec9 x4=some a.Name∧dec9 x5=some a.Key∧dec9 x6=some a.Value:=by
  unfold dec25 at h
  split at h
  · rename_i x0 x1 x2 x3 x4 x5 x6
    split at h
    · rename_i a0 h0
      split at h
      · rename_i a1 h1
        split at h
        · rename_i a2 h2
          split at h
          · rename_i a3 h3
            split at h
            · rename_i a4 h4
              split at h
              · rename_i a5 h5
                split at h
                · rename_i a6 h6
                  cases h
                  exact ⟨_,_,_,_,_,_,_,rfl,h0,h1,h2,h3,h4,h5,h6⟩
                · cases h
              · cases h
            · cases h
          · cases h
        · cases h
      · cases h
    · cases h
  · cases h
theorem law25:CodAt C 25:=⟨fun x=>by show ((enc23 x.Stamp).cells C++((enc3 x.Kind).cells C++((enc2 x.Node).cells C++((enc2 x.Parent).cells C++((enc9 x.Name).cells C++((enc9 x.Key).cells C++((enc9 x.Value).cells C++[])))))))=cel25 x; unfold cel25; exact congr (congrArg (·++·) (law23.cel x.Stamp)) (congr (congrArg (·++·) (law3.cel x.Kind)) (congr (congrArg (·++·) (law2.cel x.Node)) (congr (congrArg (·++·) (law2.cel x.Parent)) (congr (congrArg (·++·) (law9.cel x.Name)) (congr (congrArg (·++·) (law9.cel x.Key)) (congr (congrArg (·++·) (law9.cel x.Value)) (rfl))))))),fun x=>by show ((cel23 x.Stamp++(cel3 x.Kind++(cel2 x.Node++(cel2 x.Parent++(cel9 x.Name++(cel9 x.Key++(cel9 x.Value++[])))))))).length=8; rw [List.length_append,List.length_append,List.length_append,List.length_append,List.length_append,List.length_append,List.length_append]; have e0:(cel23 x.Stamp).length=2:=law23.len x.Stamp; have e1:(cel3 x.Kind).length=1:=law3.len x.Kind; have e2:(cel2 x.Node).length=1:=law2.len x.Node; have e3:(cel2 x.Parent).length=1:=law2.len x.Parent; have e4:(cel9 x.Name).length=1:=law9.len x.Name; have e5:(cel9 x.Key).length=1:=law9.len x.Key; have e6:(cel9 x.Value).length=1:=law9.len x.Value; simp only [e0,e1,e2,e3,e4,e5,e6,List.length_nil],fun x a h=>by obtain ⟨x0,x1,x2,x3,x4,x5,x6,rfl,h0,h1,h2,h3,h4,h5,h6⟩:=decx25 (show dec25 x=some a from h); exact CW.append (law23.dec _ _ h0) (CW.append (law3.dec _ _ h1) (CW.append (law2.dec _ _ h2) (CW.append (law2.dec _ _ h3) (CW.append (law9.dec _ _ h4) (CW.append (law9.dec _ _ h5) (CW.append (law9.dec _ _ h6) (CW.refl []))))))),fun x=>by show (((enc23 x.Stamp).ok&&((enc3 x.Kind).ok&&((enc2 x.Node).ok&&((enc2 x.Parent).ok&&((enc9 x.Name).ok&&((enc9 x.Key).ok&&((enc9 x.Value).ok&&true))))))))=true; simp only [show (enc23 x.Stamp).ok=true from law23.ok _,show (enc3 x.Kind).ok=true from law3.ok _,show (enc2 x.Node).ok=true from law2.ok _,show (enc2 x.Parent).ok=true from law2.ok _,show (enc9 x.Name).ok=true from law9.ok _,show (enc9 x.Key).ok=true from law9.ok _,show (enc9 x.Value).ok=true from law9.ok _,Bool.and_self],fun x a h=>by obtain ⟨x0,x1,x2,x3,x4,x5,x6,rfl,h0,h1,h2,h3,h4,h5,h6⟩:=decx25 (show dec25 x=some a from h); show ((x0.ok&&(x1.ok&&(x2.ok&&(x3.ok&&(x4.ok&&(x5.ok&&(x6.ok&&true))))))))=true; simp only [law23.decok _ _ h0,law3.decok _ _ h1,law2.decok _ _ h2,law2.decok _ _ h3,law9.decok _ _ h4,law9.decok _ _ h5,law9.decok _ _ h6,Bool.and_self],fun x a h=>by obtain ⟨x0,x1,x2,x3,x4,x5,x6,rfl,h0,h1,h2,h3,h4,h5,h6⟩:=decx25 (show dec25 x=some a from h); rfl,fun x=>by show ((cel23 x.Stamp++(cel3 x.Kind++(cel2 x.Node++(cel2 x.Parent++(cel9 x.Name++(cel9 x.Key++(cel9 x.Value++[])))))))).all AV.one=true; simp only [List.all_append,List.all_nil,show (cel23 x.Stamp).all AV.one=true from law23.one _,show (cel3 x.Kind).all AV.one=true from law3.one _,show (cel2 x.Node).all AV.one=true from law2.one _,show (cel2 x.Parent).all AV.one=true from law2.one _,show (cel9 x.Name).all AV.one=true from law9.one _,show (cel9 x.Key).all AV.one=true from law9.one _,show (cel9 x.Value).all AV.one=true from law9.one _,Bool.and_self],fun x=>za (law23.noid x.Stamp) (za (law3.noid x.Kind) (za (law2.noid x.Node) (za (law2.noid x.Parent) (za (law9.noid x.Name) (za (law9.noid x.Key) (za (law9.noid x.Value) (trivial))))))),fun ks h a b=>by have:=zi (law23.kd _ rfl a.Stamp b.Stamp) (zi (law3.kd _ rfl a.Kind b.Kind) (zi (law2.kd _ rfl a.Node b.Node) (zi (law2.kd _ rfl a.Parent b.Parent) (zi (law9.kd _ rfl a.Name b.Name) (zi (law9.kd _ rfl a.Key b.Key) (zi (law9.kd _ rfl a.Value b.Value) ((show z1o [] [] []=some true from rfl)))))))); cases h; exact this,(fun l s h=>nomatch h),(fun s l h=>nomatch h)⟩
theorem law26:CodAt C 26:=⟨fun x=>rfl,fun x=>zqe law3 x,fun x a h=>by rw [zry (show dArr 3 8 x=some a from h)]; exact .refl _,fun x=>rfl,fun x a h=>by rw [zry (show dArr 3 8 x=some a from h)]; rfl,fun x a h=>by rw [zry (show dArr 3 8 x=some a from h)]; rfl,fun a=>zzr law3 a.toList,fun a=>zwc law3 a.toList,fun ks h a b=>by have:=zi7 law3 (show C.kd 3=some _ from rfl) a.toList b.toList (by simp); simp only [Vector.length_toList] at this; cases h; exact this,(fun l s h=>nomatch h),(fun s l h=>nomatch h)⟩
theorem law27:CodAt C 27:=⟨fun x=>rfl,fun x=>zqe law2 x,fun x a h=>by rw [zry (show dArr 2 8 x=some a from h)]; exact .refl _,fun x=>rfl,fun x a h=>by rw [zry (show dArr 2 8 x=some a from h)]; rfl,fun x a h=>by rw [zry (show dArr 2 8 x=some a from h)]; rfl,fun a=>zzr law2 a.toList,fun a=>zwc law2 a.toList,fun ks h a b=>by have:=zi7 law2 (show C.kd 2=some _ from rfl) a.toList b.toList (by simp); simp only [Vector.length_toList] at this; cases h; exact this,(fun l s h=>nomatch h),(fun s l h=>nomatch h)⟩
theorem law28:CodAt C 28:=⟨fun x=>rfl,fun x=>zqe law2 x,fun x a h=>by rw [zry (show dArr 2 8 x=some a from h)]; exact .refl _,fun x=>rfl,fun x a h=>by rw [zry (show dArr 2 8 x=some a from h)]; rfl,fun x a h=>by rw [zry (show dArr 2 8 x=some a from h)]; rfl,fun a=>zzr law2 a.toList,fun a=>zwc law2 a.toList,fun ks h a b=>by have:=zi7 law2 (show C.kd 2=some _ from rfl) a.toList b.toList (by simp); simp only [Vector.length_toList] at this; cases h; exact this,(fun l s h=>nomatch h),(fun s l h=>nomatch h)⟩
theorem decx29 {x:TV τ} {a:z7} (h:dec29 x=some a):∃ x0 x1 x2 x3,x=.agg [x0,x1,x2,x3]∧dec2 x0=some a.Number∧dec26 x1=some a.States∧dec28 x2=some a.Seals∧dec26 x3=some a.Sponsor:=by
  unfold dec29 at h
  split at h
  · rename_i x0 x1 x2 x3
    split at h
    · rename_i a0 h0
      split at h
      · rename_i a1 h1
        split at h
        · rename_i a2 h2
          split at h
          · rename_i a3 h3
            cases h
            exact ⟨_,_,_,_,rfl,h0,h1,h2,h3⟩
          · cases h
        · cases h
      · cases h
    · cases h
  · cases h
theorem law29:CodAt C 29:=⟨fun x=>by show ((enc2 x.Number).cells C++((enc26 x.States).cells C++((enc28 x.Seals).cells C++((enc26 x.Sponsor).cells C++[]))))=cel29 x; unfold cel29; exact congr (congrArg (·++·) (law2.cel x.Number)) (congr (congrArg (·++·) (law26.cel x.States)) (congr (congrArg (·++·) (law28.cel x.Seals)) (congr (congrArg (·++·) (law26.cel x.Sponsor)) (rfl)))),fun x=>by show ((cel2 x.Number++(cel26 x.States++(cel28 x.Seals++(cel26 x.Sponsor++[]))))).length=25; rw [List.length_append,List.length_append,List.length_append,List.length_append]; have e0:(cel2 x.Number).length=1:=law2.len x.Number; have e1:(cel26 x.States).length=8:=law26.len x.States; have e2:(cel28 x.Seals).length=8:=law28.len x.Seals; have e3:(cel26 x.Sponsor).length=8:=law26.len x.Sponsor; simp only [e0,e1,e2,e3,List.length_nil],fun x a h=>by obtain ⟨x0,x1,x2,x3,rfl,h0,h1,h2,h3⟩:=decx29 (show dec29 x=some a from h); exact CW.append (law2.dec _ _ h0) (CW.append (law26.dec _ _ h1) (CW.append (law28.dec _ _ h2) (CW.append (law26.dec _ _ h3) (CW.refl [])))),fun x=>by show (((enc2 x.Number).ok&&((enc26 x.States).ok&&((enc28 x.Seals).ok&&((enc26 x.Sponsor).ok&&true)))))=true; simp only [show (enc2 x.Number).ok=true from law2.ok _,show (enc26 x.States).ok=true from law26.ok _,show (enc28 x.Seals).ok=true from law28.ok _,show (enc26 x.Sponsor).ok=true from law26.ok _,Bool.and_self],fun x a h=>by obtain ⟨x0,x1,x2,x3,rfl,h0,h1,h2,h3⟩:=decx29 (show dec29 x=some a from h); show ((x0.ok&&(x1.ok&&(x2.ok&&(x3.ok&&true)))))=true; simp only [law2.decok _ _ h0,law26.decok _ _ h1,law28.decok _ _ h2,law26.decok _ _ h3,Bool.and_self],fun x a h=>by obtain ⟨x0,x1,x2,x3,rfl,h0,h1,h2,h3⟩:=decx29 (show dec29 x=some a from h); rfl,fun x=>by show ((cel2 x.Number++(cel26 x.States++(cel28 x.Seals++(cel26 x.Sponsor++[]))))).all AV.one=true; simp only [List.all_append,List.all_nil,show (cel2 x.Number).all AV.one=true from law2.one _,show (cel26 x.States).all AV.one=true from law26.one _,show (cel28 x.Seals).all AV.one=true from law28.one _,show (cel26 x.Sponsor).all AV.one=true from law26.one _,Bool.and_self],fun x=>za (law2.noid x.Number) (za (law26.noid x.States) (za (law28.noid x.Seals) (za (law26.noid x.Sponsor) (trivial)))),fun ks h a b=>by have:=zi (law2.kd _ rfl a.Number b.Number) (zi (law26.kd _ rfl a.States b.States) (zi (law28.kd _ rfl a.Seals b.Seals) (zi (law26.kd _ rfl a.Sponsor b.Sponsor) ((show z1o [] [] []=some true from rfl))))); cases h; exact this,(fun l s h=>nomatch h),(fun s l h=>nomatch h)⟩
theorem decx30 {x:TV τ} {a:z7} (h:dec30 x=some a):∃ x0 x1 x2 x3,x=.agg [x0,x1,x2,x3]∧dec2 x0=some a.Number∧dec26 x1=some a.States∧dec28 x2=some a.Seals∧dec26 x3=some a.Sponsor:=by
  unfold dec30 at h
  split at h
  · rename_i x0 x1 x2 x3
    split at h
    · rename_i a0 h0
      split at h
      · rename_i a1 h1
        split at h
        · rename_i a2 h2
          split at h
          · rename_i a3 h3
            cases h
            exact ⟨_,_,_,_,rfl,h0,h1,h2,h3⟩
          · cases h
        · cases h
      · cases h
    · cases h
  · cases h
theorem law30:CodAt C 30:=⟨fun x=>by show ((enc2 x.Number).cells C++((enc26 x.States).cells C++((enc28 x.Seals).cells C++((enc26 x.Sponsor).cells C++[]))))=cel30 x; unfold cel30; exact congr (congrArg (·++·) (law2.cel x.Number)) (congr (congrArg (·++·) (law26.cel x.States)) (congr (congrArg (·++·) (law28.cel x.Seals)) (congr (congrArg (·++·) (law26.cel x.Sponsor)) (rfl)))),fun x=>by show ((cel2 x.Number++(cel26 x.States++(cel28 x.Seals++(cel26 x.Sponsor++[]))))).length=25; rw [List.length_append,List.length_append,List.length_append,List.length_append]; have e0:(cel2 x.Number).length=1:=law2.len x.Number; have e1:(cel26 x.States).length=8:=law26.len x.States; have e2:(cel28 x.Seals).length=8:=law28.len x.Seals; have e3:(cel26 x.Sponsor).length=8:=law26.len x.Sponsor; simp only [e0,e1,e2,e3,List.length_nil],fun x a h=>by obtain ⟨x0,x1,x2,x3,rfl,h0,h1,h2,h3⟩:=decx30 (show dec30 x=some a from h); exact CW.append (law2.dec _ _ h0) (CW.append (law26.dec _ _ h1) (CW.append (law28.dec _ _ h2) (CW.append (law26.dec _ _ h3) (CW.refl [])))),fun x=>by show (((enc2 x.Number).ok&&((enc26 x.States).ok&&((enc28 x.Seals).ok&&((enc26 x.Sponsor).ok&&true)))))=true; simp only [show (enc2 x.Number).ok=true from law2.ok _,show (enc26 x.States).ok=true from law26.ok _,show (enc28 x.Seals).ok=true from law28.ok _,show (enc26 x.Sponsor).ok=true from law26.ok _,Bool.and_self],fun x a h=>by obtain ⟨x0,x1,x2,x3,rfl,h0,h1,h2,h3⟩:=decx30 (show dec30 x=some a from h); show ((x0.ok&&(x1.ok&&(x2.ok&&(x3.ok&&true)))))=true; simp only [law2.decok _ _ h0,law26.decok _ _ h1,law28.decok _ _ h2,law26.decok _ _ h3,Bool.and_self],fun x a h=>by obtain ⟨x0,x1,x2,x3,rfl,h0,h1,h2,h3⟩:=decx30 (show dec30 x=some a from h); rfl,fun x=>by show ((cel2 x.Number++(cel26 x.States++(cel28 x.Seals++(cel26 x.Sponsor++[]))))).all AV.one=true; simp only [List.all_append,List.all_nil,show (cel2 x.Number).all AV.one=true from law2.one _,show (cel26 x.States).all AV.one=true from law26.one _,show (cel28 x.Seals).all AV.one=true from law28.one _,show (cel26 x.Sponsor).all AV.one=true from law26.one _,Bool.and_self],fun x=>za (law2.noid x.Number) (za (law26.noid x.States) (za (law28.noid x.Seals) (za (law26.noid x.Sponsor) (trivial)))),fun ks h a b=>by have:=zi (law2.kd _ rfl a.Number b.Number) (zi (law26.kd _ rfl a.States b.States) (zi (law28.kd _ rfl a.Seals b.Seals) (zi (law26.kd _ rfl a.Sponsor b.Sponsor) ((show z1o [] [] []=some true from rfl))))); cases h; exact this,(fun l s h=>nomatch h),(fun s l h=>nomatch h)⟩
theorem law31:CodAt C 31:=⟨fun x=>rfl,fun x=>rfl,fun x a h=>(z99 (C:=C) (show dSl 5 x=some a from h)).1,fun x=>rfl,fun x a h=>(z99 (C:=C) (show dSl 5 x=some a from h)).2.1,fun x a h=>(z99 (C:=C) (show dSl 5 x=some a from h)).2.2,fun a=>rfl,fun a=>z3h (NoId.asl fun cs hc=>by obtain ⟨y,_,rfl⟩:=List.mem_map.1 hc; exact law5.noid y),(fun ks h=>nomatch h),(fun l s h=>nomatch h),(fun s l h=>nomatch h)⟩
theorem law35:CodAt C 35:=⟨fun x=>rfl,fun x=>rfl,fun x a h=>by rw [z8a (show dInt .i64 x=some a from h)]; exact .refl _,fun x=>rfl,fun x a h=>by rw [z8a (show dInt .i64 x=some a from h)]; rfl,fun x a h=>by rw [z8a (show dInt .i64 x=some a from h)]; rfl,fun a=>rfl,fun a=>z3h (NoId.v _),fun ks h a b=>by cases h; simp [z1o,scal,C,celT,cel35,beqT,beq35],(fun l s h=>nomatch h),(fun s l h=>nomatch h)⟩
theorem decx47 {x:TV τ} {a:z18} (h:dec47 x=some a):∃ x0 x1 x2,x=.agg [x0,x1,x2]∧dec31 x0=some a.B∧dec3 x1=some a.At∧dec35 x2=some a.E:=by
  unfold dec47 at h
  split at h
  · rename_i x0 x1 x2
    split at h
    · rename_i a0 h0
      split at h
      · rename_i a1 h1
        split at h
        · rename_i a2 h2
          cases h
          exact ⟨_,_,_,rfl,h0,h1,h2⟩
        · cases h
      · cases h
    · cases h
  · cases h
theorem law47:CodAt C 47:=⟨fun x=>by show ((enc31 x.B).cells C++((enc3 x.At).cells C++((enc35 x.E).cells C++[])))=cel47 x; unfold cel47; exact congr (congrArg (·++·) (law31.cel x.B)) (congr (congrArg (·++·) (law3.cel x.At)) (congr (congrArg (·++·) (law35.cel x.E)) (rfl))),fun x=>by show ((cel31 x.B++(cel3 x.At++(cel35 x.E++[])))).length=3; rw [List.length_append,List.length_append,List.length_append]; have e0:(cel31 x.B).length=1:=law31.len x.B; have e1:(cel3 x.At).length=1:=law3.len x.At; have e2:(cel35 x.E).length=1:=law35.len x.E; simp only [e0,e1,e2,List.length_nil],fun x a h=>by obtain ⟨x0,x1,x2,rfl,h0,h1,h2⟩:=decx47 (show dec47 x=some a from h); exact CW.append (law31.dec _ _ h0) (CW.append (law3.dec _ _ h1) (CW.append (law35.dec _ _ h2) (CW.refl []))),fun x=>by show (((enc31 x.B).ok&&((enc3 x.At).ok&&((enc35 x.E).ok&&true))))=true; simp only [show (enc31 x.B).ok=true from law31.ok _,show (enc3 x.At).ok=true from law3.ok _,show (enc35 x.E).ok=true from law35.ok _,Bool.and_self],fun x a h=>by obtain ⟨x0,x1,x2,rfl,h0,h1,h2⟩:=decx47 (show dec47 x=some a from h); show ((x0.ok&&(x1.ok&&(x2.ok&&true))))=true; simp only [law31.decok _ _ h0,law3.decok _ _ h1,law35.decok _ _ h2,Bool.and_self],fun x a h=>by obtain ⟨x0,x1,x2,rfl,h0,h1,h2⟩:=decx47 (show dec47 x=some a from h); rfl,fun x=>by show ((cel31 x.B++(cel3 x.At++(cel35 x.E++[])))).all AV.one=true; simp only [List.all_append,List.all_nil,show (cel31 x.B).all AV.one=true from law31.one _,show (cel3 x.At).all AV.one=true from law3.one _,show (cel35 x.E).all AV.one=true from law35.one _,Bool.and_self],fun x=>za (law31.noid x.B) (za (law3.noid x.At) (za (law35.noid x.E) (trivial))),(fun ks h=>nomatch h),(fun l s h=>nomatch h),(fun s l h=>nomatch h)⟩
theorem decx48 {x:TV τ} {a:z18} (h:dec48 x=some a):∃ x0 x1 x2,x=.agg [x0,x1,x2]∧dec31 x0=some a.B∧dec3 x1=some a.At∧dec35 x2=some a.E:=by
  unfold dec48 at h
  split at h
  · rename_i x0 x1 x2
    split at h
    · rename_i a0 h0
      split at h
      · rename_i a1 h1
        split at h
        · rename_i a2 h2
          cases h
          exact ⟨_,_,_,rfl,h0,h1,h2⟩
        · cases h
      · cases h
    · cases h
  · cases h
theorem law48:CodAt C 48:=⟨fun x=>by show ((enc31 x.B).cells C++((enc3 x.At).cells C++((enc35 x.E).cells C++[])))=cel48 x; unfold cel48; exact congr (congrArg (·++·) (law31.cel x.B)) (congr (congrArg (·++·) (law3.cel x.At)) (congr (congrArg (·++·) (law35.cel x.E)) (rfl))),fun x=>by show ((cel31 x.B++(cel3 x.At++(cel35 x.E++[])))).length=3; rw [List.length_append,List.length_append,List.length_append]; have e0:(cel31 x.B).length=1:=law31.len x.B; have e1:(cel3 x.At).length=1:=law3.len x.At; have e2:(cel35 x.E).length=1:=law35.len x.E; simp only [e0,e1,e2,List.length_nil],fun x a h=>by obtain ⟨x0,x1,x2,rfl,h0,h1,h2⟩:=decx48 (show dec48 x=some a from h); exact CW.append (law31.dec _ _ h0) (CW.append (law3.dec _ _ h1) (CW.append (law35.dec _ _ h2) (CW.refl []))),fun x=>by show (((enc31 x.B).ok&&((enc3 x.At).ok&&((enc35 x.E).ok&&true))))=true; simp only [show (enc31 x.B).ok=true from law31.ok _,show (enc3 x.At).ok=true from law3.ok _,show (enc35 x.E).ok=true from law35.ok _,Bool.and_self],fun x a h=>by obtain ⟨x0,x1,x2,rfl,h0,h1,h2⟩:=decx48 (show dec48 x=some a from h); show ((x0.ok&&(x1.ok&&(x2.ok&&true))))=true; simp only [law31.decok _ _ h0,law3.decok _ _ h1,law35.decok _ _ h2,Bool.and_self],fun x a h=>by obtain ⟨x0,x1,x2,rfl,h0,h1,h2⟩:=decx48 (show dec48 x=some a from h); rfl,fun x=>by show ((cel31 x.B++(cel3 x.At++(cel35 x.E++[])))).all AV.one=true; simp only [List.all_append,List.all_nil,show (cel31 x.B).all AV.one=true from law31.one _,show (cel3 x.At).all AV.one=true from law3.one _,show (cel35 x.E).all AV.one=true from law35.one _,Bool.and_self],fun x=>za (law31.noid x.B) (za (law3.noid x.At) (za (law35.noid x.E) (trivial))),(fun ks h=>nomatch h),(fun l s h=>nomatch h),(fun s l h=>nomatch h)⟩
theorem law60:CodAt C 60:=⟨fun x=>rfl,fun x=>rfl,fun x a h=>(z99 (C:=C) (show dSl 25 x=some a from h)).1,fun x=>rfl,fun x a h=>(z99 (C:=C) (show dSl 25 x=some a from h)).2.1,fun x a h=>(z99 (C:=C) (show dSl 25 x=some a from h)).2.2,fun a=>rfl,fun a=>z3h (NoId.asl fun cs hc=>by obtain ⟨y,_,rfl⟩:=List.mem_map.1 hc; exact law25.noid y),(fun ks h=>nomatch h),(fun l s h=>nomatch h),(fun s l h=>nomatch h)⟩
theorem decx61 {x:TV τ} {a:GPart} (h:dec61 x=some a):∃ x0 x1 x2 x3,x=.agg [x0,x1,x2,x3]∧dec2 x0=some a.Snap∧dec3 x1=some a.Index∧dec3 x2=some a.Many∧dec31 x3=some a.Data:=by
  unfold dec61 at h
  split at h
  · rename_i x0 x1 x2 x3
    split at h
    · rename_i a0 h0
      split at h
      · rename_i a1 h1
        split at h
        · rename_i a2 h2
          split at h
          · rename_i a3 h3
            cases h
            exact ⟨_,_,_,_,rfl,h0,h1,h2,h3⟩
          · cases h
        · cases h
      · cases h
    · cases h
  · cases h
theorem law61:CodAt C 61:=⟨fun x=>by show ((enc2 x.Snap).cells C++((enc3 x.Index).cells C++((enc3 x.Many).cells C++((enc31 x.Data).cells C++[]))))=cel61 x; unfold cel61; exact congr (congrArg (·++·) (law2.cel x.Snap)) (congr (congrArg (·++·) (law3.cel x.Index)) (congr (congrArg (·++·) (law3.cel x.Many)) (congr (congrArg (·++·) (law31.cel x.Data)) (rfl)))),fun x=>by show ((cel2 x.Snap++(cel3 x.Index++(cel3 x.Many++(cel31 x.Data++[]))))).length=4; rw [List.length_append,List.length_append,List.length_append,List.length_append]; have e0:(cel2 x.Snap).length=1:=law2.len x.Snap; have e1:(cel3 x.Index).length=1:=law3.len x.Index; have e2:(cel3 x.Many).length=1:=law3.len x.Many; have e3:(cel31 x.Data).length=1:=law31.len x.Data; simp only [e0,e1,e2,e3,List.length_nil],fun x a h=>by obtain ⟨x0,x1,x2,x3,rfl,h0,h1,h2,h3⟩:=decx61 (show dec61 x=some a from h); exact CW.append (law2.dec _ _ h0) (CW.append (law3.dec _ _ h1) (CW.append (law3.dec _ _ h2) (CW.append (law31.dec _ _ h3) (CW.refl [])))),fun x=>by show (((enc2 x.Snap).ok&&((enc3 x.Index).ok&&((enc3 x.Many).ok&&((enc31 x.Data).ok&&true)))))=true; simp only [show (enc2 x.Snap).ok=true from law2.ok _,show (enc3 x.Index).ok=true from law3.ok _,show (enc3 x.Many).ok=true from law3.ok _,show (enc31 x.Data).ok=true from law31.ok _,Bool.and_self],fun x a h=>by obtain ⟨x0,x1,x2,x3,rfl,h0,h1,h2,h3⟩:=decx61 (show dec61 x=some a from h); show ((x0.ok&&(x1.ok&&(x2.ok&&(x3.ok&&true)))))=true; simp only [law2.decok _ _ h0,law3.decok _ _ h1,law3.decok _ _ h2,law31.decok _ _ h3,Bool.and_self],fun x a h=>by obtain ⟨x0,x1,x2,x3,rfl,h0,h1,h2,h3⟩:=decx61 (show dec61 x=some a from h); rfl,fun x=>by show ((cel2 x.Snap++(cel3 x.Index++(cel3 x.Many++(cel31 x.Data++[]))))).all AV.one=true; simp only [List.all_append,List.all_nil,show (cel2 x.Snap).all AV.one=true from law2.one _,show (cel3 x.Index).all AV.one=true from law3.one _,show (cel3 x.Many).all AV.one=true from law3.one _,show (cel31 x.Data).all AV.one=true from law31.one _,Bool.and_self],fun x=>za (law2.noid x.Snap) (za (law3.noid x.Index) (za (law3.noid x.Many) (za (law31.noid x.Data) (trivial)))),(fun ks h=>nomatch h),(fun l s h=>nomatch h),(fun s l h=>nomatch h)⟩
theorem decx62 {x:TV τ} {a:GPart} (h:dec62 x=some a):∃ x0 x1 x2 x3,x=.agg [x0,x1,x2,x3]∧dec2 x0=some a.Snap∧dec3 x1=some a.Index∧dec3 x2=some a.Many∧dec31 x3=some a.Data:=by
  unfold dec62 at h
  split at h
  · rename_i x0 x1 x2 x3
    split at h
    · rename_i a0 h0
      split at h
      · rename_i a1 h1
        split at h
        · rename_i a2 h2
          split at h
          · rename_i a3 h3
            cases h
            exact ⟨_,_,_,_,rfl,h0,h1,h2,h3⟩
          · cases h
        · cases h
      · cases h
    · cases h
  · cases h
theorem law62:CodAt C 62:=⟨fun x=>by show ((enc2 x.Snap).cells C++((enc3 x.Index).cells C++((enc3 x.Many).cells C++((enc31 x.Data).cells C++[]))))=cel62 x; unfold cel62; exact congr (congrArg (·++·) (law2.cel x.Snap)) (congr (congrArg (·++·) (law3.cel x.Index)) (congr (congrArg (·++·) (law3.cel x.Many)) (congr (congrArg (·++·) (law31.cel x.Data)) (rfl)))),fun x=>by show ((cel2 x.Snap++(cel3 x.Index++(cel3 x.Many++(cel31 x.Data++[]))))).length=4; rw [List.length_append,List.length_append,List.length_append,List.length_append]; have e0:(cel2 x.Snap).length=1:=law2.len x.Snap; have e1:(cel3 x.Index).length=1:=law3.len x.Index; have e2:(cel3 x.Many).length=1:=law3.len x.Many; have e3:(cel31 x.Data).length=1:=law31.len x.Data; simp only [e0,e1,e2,e3,List.length_nil],fun x a h=>by obtain ⟨x0,x1,x2,x3,rfl,h0,h1,h2,h3⟩:=decx62 (show dec62 x=some a from h); exact CW.append (law2.dec _ _ h0) (CW.append (law3.dec _ _ h1) (CW.append (law3.dec _ _ h2) (CW.append (law31.dec _ _ h3) (CW.refl [])))),fun x=>by show (((enc2 x.Snap).ok&&((enc3 x.Index).ok&&((enc3 x.Many).ok&&((enc31 x.Data).ok&&true)))))=true; simp only [show (enc2 x.Snap).ok=true from law2.ok _,show (enc3 x.Index).ok=true from law3.ok _,show (enc3 x.Many).ok=true from law3.ok _,show (enc31 x.Data).ok=true from law31.ok _,Bool.and_self],fun x a h=>by obtain ⟨x0,x1,x2,x3,rfl,h0,h1,h2,h3⟩:=decx62 (show dec62 x=some a from h); show ((x0.ok&&(x1.ok&&(x2.ok&&(x3.ok&&true)))))=true; simp only [law2.decok _ _ h0,law3.decok _ _ h1,law3.decok _ _ h2,law31.decok _ _ h3,Bool.and_self],fun x a h=>by obtain ⟨x0,x1,x2,x3,rfl,h0,h1,h2,h3⟩:=decx62 (show dec62 x=some a from h); rfl,fun x=>by show ((cel2 x.Snap++(cel3 x.Index++(cel3 x.Many++(cel31 x.Data++[]))))).all AV.one=true; simp only [List.all_append,List.all_nil,show (cel2 x.Snap).all AV.one=true from law2.one _,show (cel3 x.Index).all AV.one=true from law3.one _,show (cel3 x.Many).all AV.one=true from law3.one _,show (cel31 x.Data).all AV.one=true from law31.one _,Bool.and_self],fun x=>za (law2.noid x.Snap) (za (law3.noid x.Index) (za (law3.noid x.Many) (za (law31.noid x.Data) (trivial)))),(fun ks h=>nomatch h),(fun l s h=>nomatch h),(fun s l h=>nomatch h)⟩
theorem decx63 {x:TV τ} {a:z6} (h:dec63 x=some a):∃ x0 x1 x2 x3 x4 x5 x6 x7 x8 x9 x10 x11 x12 x13 x14,x=.agg [x0,x1,x2,x3,x4,x5,x6,x7,x8,x9,x10,x11,x12,x13,x14]∧dec3 x0=some a.Kind∧dec2 x1=some a.Session∧dec2 x2=some a.Request∧dec25 x3=some a.Op∧dec3 x4=some a.Origin∧dec2 x5=some a.Seq∧dec60 x6=some a.Ops∧dec30 x7=some a.Epoch∧dec3 x8=some a.From∧dec28 x9=some a.Vector_∧dec2 x10=some a.Clock∧dec62 x11=some a.Part∧dec3 x12=some a.Site∧dec3 x13=some a.Sponsor∧dec2 x14=some a.Length:=by
  unfold dec63 at h
  split at h
  · rename_i x0 x1 x2 x3 x4 x5 x6 x7 x8 x9 x10 x11 x12 x13 x14
    split at h
    · rename_i a0 h0
      split at h
      · rename_i a1 h1
        split at h
        · rename_i a2 h2
          split at h
          · rename_i a3 h3
            split at h
            · rename_i a4 h4
              split at h
              · rename_i a5 h5
                split at h
                · rename_i a6 h6
                  split at h
                  · rename_i a7 h7
                    split at h
                    · rename_i a8 h8
                      split at h
                      · rename_i a9 h9
                        split at h
                        · rename_i a10 h10
                          split at h
                          · rename_i a11 h11
                            split at h
                            · rename_i a12 h12
                              split at h
                              · rename_i a13 h13
                                split at h
                                · rename_i a14 h14
                                  cases h
                                  exact ⟨_,_,_,_,_,_,_,_,_,_,_,_,_,_,_,rfl,h0,h1,h2,h3,h4,h5,h6,h7,h8,h9,h10,h11,h12,h13,h14⟩
                                · cases h
                              · cases h
                            · cases h
                          · cases h
                        · cases h
                      · cases h
                    · cases h
                  · cases h
                · cases h
              · cases h
            · cases h
          · cases h
        · cases h
      · cases h
    · cases h
  · cases h
theorem law63:CodAt C 63:=⟨fun x=>by show ((enc3 x.Kind).cells C++((enc2 x.Session).cells C++((enc2 x.Request).cells C++((enc25 x.Op).cells C++((enc3 x.Origin).cells C++((enc2 x.Seq).cells C++((enc60 x.Ops).cells C++((enc30 x.Epoch).cells C++((enc3 x.From).cells C++((enc28 x.Vector_).cells C++((enc2 x.Clock).cells C++((enc62 x.Part).cells C++((enc3 x.Site).cells C++((enc3 x.Sponsor).cells C++((enc2 x.Length).cells C++[])))))))))))))))=cel63 x; unfold cel63; exact congr (congrArg (·++·) (law3.cel x.Kind)) (congr (congrArg (·++·) (law2.cel x.Session)) (congr (congrArg (·++·) (law2.cel x.Request)) (congr (congrArg (·++·) (law25.cel x.Op)) (congr (congrArg (·++·) (law3.cel x.Origin)) (congr (congrArg (·++·) (law2.cel x.Seq)) (congr (congrArg (·++·) (law60.cel x.Ops)) (congr (congrArg (·++·) (law30.cel x.Epoch)) (congr (congrArg (·++·) (law3.cel x.From)) (congr (congrArg (·++·) (law28.cel x.Vector_)) (congr (congrArg (·++·) (law2.cel x.Clock)) (congr (congrArg (·++·) (law62.cel x.Part)) (congr (congrArg (·++·) (law3.cel x.Site)) (congr (congrArg (·++·) (law3.cel x.Sponsor)) (congr (congrArg (·++·) (law2.cel x.Length)) (rfl))))))))))))))),fun x=>by show ((cel3 x.Kind++(cel2 x.Session++(cel2 x.Request++(cel25 x.Op++(cel3 x.Origin++(cel2 x.Seq++(cel60 x.Ops++(cel30 x.Epoch++(cel3 x.From++(cel28 x.Vector_++(cel2 x.Clock++(cel62 x.Part++(cel3 x.Site++(cel3 x.Sponsor++(cel2 x.Length++[])))))))))))))))).length=56; rw [List.length_append,List.length_append,List.length_append,List.length_append,List.length_append,List.length_append,List.length_append,List.length_append,List.length_append,List.length_append,List.length_append,List.length_append,List.length_append,List.length_append,List.length_append]; have e0:(cel3 x.Kind).length=1:=law3.len x.Kind; have e1:(cel2 x.Session).length=1:=law2.len x.Session; have e2:(cel2 x.Request).length=1:=law2.len x.Request; have e3:(cel25 x.Op).length=8:=law25.len x.Op; have e4:(cel3 x.Origin).length=1:=law3.len x.Origin; have e5:(cel2 x.Seq).length=1:=law2.len x.Seq; have e6:(cel60 x.Ops).length=1:=law60.len x.Ops; have e7:(cel30 x.Epoch).length=25:=law30.len x.Epoch; have e8:(cel3 x.From).length=1:=law3.len x.From; have e9:(cel28 x.Vector_).length=8:=law28.len x.Vector_; have e10:(cel2 x.Clock).length=1:=law2.len x.Clock; have e11:(cel62 x.Part).length=4:=law62.len x.Part; have e12:(cel3 x.Site).length=1:=law3.len x.Site; have e13:(cel3 x.Sponsor).length=1:=law3.len x.Sponsor; have e14:(cel2 x.Length).length=1:=law2.len x.Length; simp only [e0,e1,e2,e3,e4,e5,e6,e7,e8,e9,e10,e11,e12,e13,e14,List.length_nil],fun x a h=>by obtain ⟨x0,x1,x2,x3,x4,x5,x6,x7,x8,x9,x10,x11,x12,x13,x14,rfl,h0,h1,h2,h3,h4,h5,h6,h7,h8,h9,h10,h11,h12,h13,h14⟩:=decx63 (show dec63 x=some a from h); exact CW.append (law3.dec _ _ h0) (CW.append (law2.dec _ _ h1) (CW.append (law2.dec _ _ h2) (CW.append (law25.dec _ _ h3) (CW.append (law3.dec _ _ h4) (CW.append (law2.dec _ _ h5) (CW.append (law60.dec _ _ h6) (CW.append (law30.dec _ _ h7) (CW.append (law3.dec _ _ h8) (CW.append (law28.dec _ _ h9) (CW.append (law2.dec _ _ h10) (CW.append (law62.dec _ _ h11) (CW.append (law3.dec _ _ h12) (CW.append (law3.dec _ _ h13) (CW.append (law2.dec _ _ h14) (CW.refl []))))))))))))))),fun x=>by show (((enc3 x.Kind).ok&&((enc2 x.Session).ok&&((enc2 x.Request).ok&&((enc25 x.Op).ok&&((enc3 x.Origin).ok&&((enc2 x.Seq).ok&&((enc60 x.Ops).ok&&((enc30 x.Epoch).ok&&((enc3 x.From).ok&&((enc28 x.Vector_).ok&&((enc2 x.Clock).ok&&((enc62 x.Part).ok&&((enc3 x.Site).ok&&((enc3 x.Sponsor).ok&&((enc2 x.Length).ok&&true))))))))))))))))=true; simp only [show (enc3 x.Kind).ok=true from law3.ok _,show (enc2 x.Session).ok=true from law2.ok _,show (enc2 x.Request).ok=true from law2.ok _,show (enc25 x.Op).ok=true from law25.ok _,show (enc3 x.Origin).ok=true from law3.ok _,show (enc2 x.Seq).ok=true from law2.ok _,show (enc60 x.Ops).ok=true from law60.ok _,show (enc30 x.Epoch).ok=true from law30.ok _,show (enc3 x.From).ok=true from law3.ok _,show (enc28 x.Vector_).ok=true from law28.ok _,show (enc2 x.Clock).ok=true from law2.ok _,show (enc62 x.Part).ok=true from law62.ok _,show (enc3 x.Site).ok=true from law3.ok _,show (enc3 x.Sponsor).ok=true from law3.ok _,show (enc2 x.Length).ok=true from law2.ok _,Bool.and_self],fun x a h=>by obtain ⟨x0,x1,x2,x3,x4,x5,x6,x7,x8,x9,x10,x11,x12,x13,x14,rfl,h0,h1,h2,h3,h4,h5,h6,h7,h8,h9,h10,h11,h12,h13,h14⟩:=decx63 (show dec63 x=some a from h); show ((x0.ok&&(x1.ok&&(x2.ok&&(x3.ok&&(x4.ok&&(x5.ok&&(x6.ok&&(x7.ok&&(x8.ok&&(x9.ok&&(x10.ok&&(x11.ok&&(x12.ok&&(x13.ok&&(x14.ok&&true))))))))))))))))=true; simp only [law3.decok _ _ h0,law2.decok _ _ h1,law2.decok _ _ h2,law25.decok _ _ h3,law3.decok _ _ h4,law2.decok _ _ h5,law60.decok _ _ h6,law30.decok _ _ h7,law3.decok _ _ h8,law28.decok _ _ h9,law2.decok _ _ h10,law62.decok _ _ h11,law3.decok _ _ h12,law3.decok _ _ h13,law2.decok _ _ h14,Bool.and_self],fun x a h=>by obtain ⟨x0,x1,x2,x3,x4,x5,x6,x7,x8,x9,x10,x11,x12,x13,x14,rfl,h0,h1,h2,h3,h4,h5,h6,h7,h8,h9,h10,h11,h12,h13,h14⟩:=decx63 (show dec63 x=some a from h); rfl,fun x=>by show ((cel3 x.Kind++(cel2 x.Session++(cel2 x.Request++(cel25 x.Op++(cel3 x.Origin++(cel2 x.Seq++(cel60 x.Ops++(cel30 x.Epoch++(cel3 x.From++(cel28 x.Vector_++(cel2 x.Clock++(cel62 x.Part++(cel3 x.Site++(cel3 x.Sponsor++(cel2 x.Length++[])))))))))))))))).all AV.one=true; simp only [List.all_append,List.all_nil,show (cel3 x.Kind).all AV.one=true from law3.one _,show (cel2 x.Session).all AV.one=true from law2.one _,show (cel2 x.Request).all AV.one=true from law2.one _,show (cel25 x.Op).all AV.one=true from law25.one _,show (cel3 x.Origin).all AV.one=true from law3.one _,show (cel2 x.Seq).all AV.one=true from law2.one _,show (cel60 x.Ops).all AV.one=true from law60.one _,show (cel30 x.Epoch).all AV.one=true from law30.one _,show (cel3 x.From).all AV.one=true from law3.one _,show (cel28 x.Vector_).all AV.one=true from law28.one _,show (cel2 x.Clock).all AV.one=true from law2.one _,show (cel62 x.Part).all AV.one=true from law62.one _,show (cel3 x.Site).all AV.one=true from law3.one _,show (cel3 x.Sponsor).all AV.one=true from law3.one _,show (cel2 x.Length).all AV.one=true from law2.one _,Bool.and_self],fun x=>za (law3.noid x.Kind) (za (law2.noid x.Session) (za (law2.noid x.Request) (za (law25.noid x.Op) (za (law3.noid x.Origin) (za (law2.noid x.Seq) (za (law60.noid x.Ops) (za (law30.noid x.Epoch) (za (law3.noid x.From) (za (law28.noid x.Vector_) (za (law2.noid x.Clock) (za (law62.noid x.Part) (za (law3.noid x.Site) (za (law3.noid x.Sponsor) (za (law2.noid x.Length) (trivial))))))))))))))),(fun ks h=>nomatch h),(fun l s h=>nomatch h),(fun s l h=>nomatch h)⟩
theorem decx64 {x:TV τ} {a:z6} (h:dec64 x=some a):∃ x0 x1 x2 x3 x4 x5 x6 x7 x8 x9 x10 x11 x12 x13 x14,x=.agg [x0,x1,x2,x3,x4,x5,x6,x7,x8,x9,x10,x11,x12,x13,x14]∧dec3 x0=some a.Kind∧dec2 x1=some a.Session∧dec2 x2=some a.Request∧dec25 x3=some a.Op∧dec3 x4=some a.Origin∧dec2 x5=some a.Seq∧dec60 x6=some a.Ops∧dec30 x7=some a.Epoch∧dec3 x8=some a.From∧dec28 x9=some a.Vector_∧dec2 x10=some a.Clock∧dec62 x11=some a.Part∧dec3 x12=some a.Site∧dec3 x13=some a.Sponsor∧dec2 x14=some a.Length:=by
  unfold dec64 at h
  split at h
  · rename_i x0 x1 x2 x3 x4 x5 x6 x7 x8 x9 x10 x11 x12 x13 x14
    split at h
    · rename_i a0 h0
      split at h
      · rename_i a1 h1
        split at h
        · rename_i a2 h2
          split at h
          · rename_i a3 h3
            split at h
            · rename_i a4 h4
              split at h
              · rename_i a5 h5
                split at h
                · rename_i a6 h6
                  split at h
                  · rename_i a7 h7
                    split at h
                    · rename_i a8 h8
                      split at h
                      · rename_i a9 h9
                        split at h
                        · rename_i a10 h10
                          split at h
                          · rename_i a11 h11
                            split at h
                            · rename_i a12 h12
                              split at h
                              · rename_i a13 h13
                                split at h
                                · rename_i a14 h14
                                  cases h
                                  exact ⟨_,_,_,_,_,_,_,_,_,_,_,_,_,_,_,rfl,h0,h1,h2,h3,h4,h5,h6,h7,h8,h9,h10,h11,h12,h13,h14⟩
                                · cases h
                              · cases h
                            · cases h
                          · cases h
                        · cases h
                      · cases h
                    · cases h
                  · cases h
                · cases h
              · cases h
            · cases h
          · cases h
        · cases h
      · cases h
    · cases h
  · cases h
theorem law64:CodAt C 64:=⟨fun x=>by show ((enc3 x.Kind).cells C++((enc2 x.Session).cells C++((enc2 x.Request).cells C++((enc25 x.Op).cells C++((enc3 x.Origin).cells C++((enc2 x.Seq).cells C++((enc60 x.Ops).cells C++((enc30 x.Epoch).cells C++((enc3 x.From).cells C++((enc28 x.Vector_).cells C++((enc2 x.Clock).cells C++((enc62 x.Part).cells C++((enc3 x.Site).cells C++((enc3 x.Sponsor).cells C++((enc2 x.Length).cells C++[])))))))))))))))=cel64 x; unfold cel64; exact congr (congrArg (·++·) (law3.cel x.Kind)) (congr (congrArg (·++·) (law2.cel x.Session)) (congr (congrArg (·++·) (law2.cel x.Request)) (congr (congrArg (·++·) (law25.cel x.Op)) (congr (congrArg (·++·) (law3.cel x.Origin)) (congr (congrArg (·++·) (law2.cel x.Seq)) (congr (congrArg (·++·) (law60.cel x.Ops)) (congr (congrArg (·++·) (law30.cel x.Epoch)) (congr (congrArg (·++·) (law3.cel x.From)) (congr (congrArg (·++·) (law28.cel x.Vector_)) (congr (congrArg (·++·) (law2.cel x.Clock)) (congr (congrArg (·++·) (law62.cel x.Part)) (congr (congrArg (·++·) (law3.cel x.Site)) (congr (congrArg (·++·) (law3.cel x.Sponsor)) (congr (congrArg (·++·) (law2.cel x.Length)) (rfl))))))))))))))),fun x=>by show ((cel3 x.Kind++(cel2 x.Session++(cel2 x.Request++(cel25 x.Op++(cel3 x.Origin++(cel2 x.Seq++(cel60 x.Ops++(cel30 x.Epoch++(cel3 x.From++(cel28 x.Vector_++(cel2 x.Clock++(cel62 x.Part++(cel3 x.Site++(cel3 x.Sponsor++(cel2 x.Length++[])))))))))))))))).length=56; rw [List.length_append,List.length_append,List.length_append,List.length_append,List.length_append,List.length_append,List.length_append,List.length_append,List.length_append,List.length_append,List.length_append,List.length_append,List.length_append,List.length_append,List.length_append]; have e0:(cel3 x.Kind).length=1:=law3.len x.Kind; have e1:(cel2 x.Session).length=1:=law2.len x.Session; have e2:(cel2 x.Request).length=1:=law2.len x.Request; have e3:(cel25 x.Op).length=8:=law25.len x.Op; have e4:(cel3 x.Origin).length=1:=law3.len x.Origin; have e5:(cel2 x.Seq).length=1:=law2.len x.Seq; have e6:(cel60 x.Ops).length=1:=law60.len x.Ops; have e7:(cel30 x.Epoch).length=25:=law30.len x.Epoch; have e8:(cel3 x.From).length=1:=law3.len x.From; have e9:(cel28 x.Vector_).length=8:=law28.len x.Vector_; have e10:(cel2 x.Clock).length=1:=law2.len x.Clock; have e11:(cel62 x.Part).length=4:=law62.len x.Part; have e12:(cel3 x.Site).length=1:=law3.len x.Site; have e13:(cel3 x.Sponsor).length=1:=law3.len x.Sponsor; have e14:(cel2 x.Length).length=1:=law2.len x.Length; simp only [e0,e1,e2,e3,e4,e5,e6,e7,e8,e9,e10,e11,e12,e13,e14,List.length_nil],fun x a h=>by obtain ⟨x0,x1,x2,x3,x4,x5,x6,x7,x8,x9,x10,x11,x12,x13,x14,rfl,h0,h1,h2,h3,h4,h5,h6,h7,h8,h9,h10,h11,h12,h13,h14⟩:=decx64 (show dec64 x=some a from h); exact CW.append (law3.dec _ _ h0) (CW.append (law2.dec _ _ h1) (CW.append (law2.dec _ _ h2) (CW.append (law25.dec _ _ h3) (CW.append (law3.dec _ _ h4) (CW.append (law2.dec _ _ h5) (CW.append (law60.dec _ _ h6) (CW.append (law30.dec _ _ h7) (CW.append (law3.dec _ _ h8) (CW.append (law28.dec _ _ h9) (CW.append (law2.dec _ _ h10) (CW.append (law62.dec _ _ h11) (CW.append (law3.dec _ _ h12) (CW.append (law3.dec _ _ h13) (CW.append (law2.dec _ _ h14) (CW.refl []))))))))))))))),fun x=>by show (((enc3 x.Kind).ok&&((enc2 x.Session).ok&&((enc2 x.Request).ok&&((enc25 x.Op).ok&&((enc3 x.Origin).ok&&((enc2 x.Seq).ok&&((enc60 x.Ops).ok&&((enc30 x.Epoch).ok&&((enc3 x.From).ok&&((enc28 x.Vector_).ok&&((enc2 x.Clock).ok&&((enc62 x.Part).ok&&((enc3 x.Site).ok&&((enc3 x.Sponsor).ok&&((enc2 x.Length).ok&&true))))))))))))))))=true; simp only [show (enc3 x.Kind).ok=true from law3.ok _,show (enc2 x.Session).ok=true from law2.ok _,show (enc2 x.Request).ok=true from law2.ok _,show (enc25 x.Op).ok=true from law25.ok _,show (enc3 x.Origin).ok=true from law3.ok _,show (enc2 x.Seq).ok=true from law2.ok _,show (enc60 x.Ops).ok=true from law60.ok _,show (enc30 x.Epoch).ok=true from law30.ok _,show (enc3 x.From).ok=true from law3.ok _,show (enc28 x.Vector_).ok=true from law28.ok _,show (enc2 x.Clock).ok=true from law2.ok _,show (enc62 x.Part).ok=true from law62.ok _,show (enc3 x.Site).ok=true from law3.ok _,show (enc3 x.Sponsor).ok=true from law3.ok _,show (enc2 x.Length).ok=true from law2.ok _,Bool.and_self],fun x a h=>by obtain ⟨x0,x1,x2,x3,x4,x5,x6,x7,x8,x9,x10,x11,x12,x13,x14,rfl,h0,h1,h2,h3,h4,h5,h6,h7,h8,h9,h10,h11,h12,h13,h14⟩:=decx64 (show dec64 x=some a from h); show ((x0.ok&&(x1.ok&&(x2.ok&&(x3.ok&&(x4.ok&&(x5.ok&&(x6.ok&&(x7.ok&&(x8.ok&&(x9.ok&&(x10.ok&&(x11.ok&&(x12.ok&&(x13.ok&&(x14.ok&&true))))))))))))))))=true; simp only [law3.decok _ _ h0,law2.decok _ _ h1,law2.decok _ _ h2,law25.decok _ _ h3,law3.decok _ _ h4,law2.decok _ _ h5,law60.decok _ _ h6,law30.decok _ _ h7,law3.decok _ _ h8,law28.decok _ _ h9,law2.decok _ _ h10,law62.decok _ _ h11,law3.decok _ _ h12,law3.decok _ _ h13,law2.decok _ _ h14,Bool.and_self],fun x a h=>by obtain ⟨x0,x1,x2,x3,x4,x5,x6,x7,x8,x9,x10,x11,x12,x13,x14,rfl,h0,h1,h2,h3,h4,h5,h6,h7,h8,h9,h10,h11,h12,h13,h14⟩:=decx64 (show dec64 x=some a from h); rfl,fun x=>by show ((cel3 x.Kind++(cel2 x.Session++(cel2 x.Request++(cel25 x.Op++(cel3 x.Origin++(cel2 x.Seq++(cel60 x.Ops++(cel30 x.Epoch++(cel3 x.From++(cel28 x.Vector_++(cel2 x.Clock++(cel62 x.Part++(cel3 x.Site++(cel3 x.Sponsor++(cel2 x.Length++[])))))))))))))))).all AV.one=true; simp only [List.all_append,List.all_nil,show (cel3 x.Kind).all AV.one=true from law3.one _,show (cel2 x.Session).all AV.one=true from law2.one _,show (cel2 x.Request).all AV.one=true from law2.one _,show (cel25 x.Op).all AV.one=true from law25.one _,show (cel3 x.Origin).all AV.one=true from law3.one _,show (cel2 x.Seq).all AV.one=true from law2.one _,show (cel60 x.Ops).all AV.one=true from law60.one _,show (cel30 x.Epoch).all AV.one=true from law30.one _,show (cel3 x.From).all AV.one=true from law3.one _,show (cel28 x.Vector_).all AV.one=true from law28.one _,show (cel2 x.Clock).all AV.one=true from law2.one _,show (cel62 x.Part).all AV.one=true from law62.one _,show (cel3 x.Site).all AV.one=true from law3.one _,show (cel3 x.Sponsor).all AV.one=true from law3.one _,show (cel2 x.Length).all AV.one=true from law2.one _,Bool.and_self],fun x=>za (law3.noid x.Kind) (za (law2.noid x.Session) (za (law2.noid x.Request) (za (law25.noid x.Op) (za (law3.noid x.Origin) (za (law2.noid x.Seq) (za (law60.noid x.Ops) (za (law30.noid x.Epoch) (za (law3.noid x.From) (za (law28.noid x.Vector_) (za (law2.noid x.Clock) (za (law62.noid x.Part) (za (law3.noid x.Site) (za (law3.noid x.Sponsor) (za (law2.noid x.Length) (trivial))))))))))))))),(fun ks h=>nomatch h),(fun l s h=>nomatch h),(fun s l h=>nomatch h)⟩
theorem decx65 {x:TV τ} {a:GAddr} (h:dec65 x=some a):∃ x0 x1,x=.agg [x0,x1]∧dec3 x0=some a.Group∧dec3 x1=some a.Replica:=by
  unfold dec65 at h
  split at h
  · rename_i x0 x1
    split at h
    · rename_i a0 h0
      split at h
      · rename_i a1 h1
        cases h
        exact ⟨_,_,rfl,h0,h1⟩
      · cases h
    · cases h
  · cases h
theorem law65:CodAt C 65:=⟨fun x=>by show ((enc3 x.Group).cells C++((enc3 x.Replica).cells C++[]))=cel65 x; unfold cel65; exact congr (congrArg (·++·) (law3.cel x.Group)) (congr (congrArg (·++·) (law3.cel x.Replica)) (rfl)),fun x=>by show ((cel3 x.Group++(cel3 x.Replica++[]))).length=2; rw [List.length_append,List.length_append]; have e0:(cel3 x.Group).length=1:=law3.len x.Group; have e1:(cel3 x.Replica).length=1:=law3.len x.Replica; simp only [e0,e1,List.length_nil],fun x a h=>by obtain ⟨x0,x1,rfl,h0,h1⟩:=decx65 (show dec65 x=some a from h); exact CW.append (law3.dec _ _ h0) (CW.append (law3.dec _ _ h1) (CW.refl [])),fun x=>by show (((enc3 x.Group).ok&&((enc3 x.Replica).ok&&true)))=true; simp only [show (enc3 x.Group).ok=true from law3.ok _,show (enc3 x.Replica).ok=true from law3.ok _,Bool.and_self],fun x a h=>by obtain ⟨x0,x1,rfl,h0,h1⟩:=decx65 (show dec65 x=some a from h); show ((x0.ok&&(x1.ok&&true)))=true; simp only [law3.decok _ _ h0,law3.decok _ _ h1,Bool.and_self],fun x a h=>by obtain ⟨x0,x1,rfl,h0,h1⟩:=decx65 (show dec65 x=some a from h); rfl,fun x=>by show ((cel3 x.Group++(cel3 x.Replica++[]))).all AV.one=true; simp only [List.all_append,List.all_nil,show (cel3 x.Group).all AV.one=true from law3.one _,show (cel3 x.Replica).all AV.one=true from law3.one _,Bool.and_self],fun x=>za (law3.noid x.Group) (za (law3.noid x.Replica) (trivial)),fun ks h a b=>by have:=zi (law3.kd _ rfl a.Group b.Group) (zi (law3.kd _ rfl a.Replica b.Replica) ((show z1o [] [] []=some true from rfl))); cases h; exact this,(fun l s h=>nomatch h),(fun s l h=>nomatch h)⟩
theorem decx66 {x:TV τ} {a:GAddr} (h:dec66 x=some a):∃ x0 x1,x=.agg [x0,x1]∧dec3 x0=some a.Group∧dec3 x1=some a.Replica:=by
  unfold dec66 at h
  split at h
  · rename_i x0 x1
    split at h
    · rename_i a0 h0
      split at h
      · rename_i a1 h1
        cases h
        exact ⟨_,_,rfl,h0,h1⟩
      · cases h
    · cases h
  · cases h
theorem law66:CodAt C 66:=⟨fun x=>by show ((enc3 x.Group).cells C++((enc3 x.Replica).cells C++[]))=cel66 x; unfold cel66; exact congr (congrArg (·++·) (law3.cel x.Group)) (congr (congrArg (·++·) (law3.cel x.Replica)) (rfl)),fun x=>by show ((cel3 x.Group++(cel3 x.Replica++[]))).length=2; rw [List.length_append,List.length_append]; have e0:(cel3 x.Group).length=1:=law3.len x.Group; have e1:(cel3 x.Replica).length=1:=law3.len x.Replica; simp only [e0,e1,List.length_nil],fun x a h=>by obtain ⟨x0,x1,rfl,h0,h1⟩:=decx66 (show dec66 x=some a from h); exact CW.append (law3.dec _ _ h0) (CW.append (law3.dec _ _ h1) (CW.refl [])),fun x=>by show (((enc3 x.Group).ok&&((enc3 x.Replica).ok&&true)))=true; simp only [show (enc3 x.Group).ok=true from law3.ok _,show (enc3 x.Replica).ok=true from law3.ok _,Bool.and_self],fun x a h=>by obtain ⟨x0,x1,rfl,h0,h1⟩:=decx66 (show dec66 x=some a from h); show ((x0.ok&&(x1.ok&&true)))=true; simp only [law3.decok _ _ h0,law3.decok _ _ h1,Bool.and_self],fun x a h=>by obtain ⟨x0,x1,rfl,h0,h1⟩:=decx66 (show dec66 x=some a from h); rfl,fun x=>by show ((cel3 x.Group++(cel3 x.Replica++[]))).all AV.one=true; simp only [List.all_append,List.all_nil,show (cel3 x.Group).all AV.one=true from law3.one _,show (cel3 x.Replica).all AV.one=true from law3.one _,Bool.and_self],fun x=>za (law3.noid x.Group) (za (law3.noid x.Replica) (trivial)),fun ks h a b=>by have:=zi (law3.kd _ rfl a.Group b.Group) (zi (law3.kd _ rfl a.Replica b.Replica) ((show z1o [] [] []=some true from rfl))); cases h; exact this,(fun l s h=>nomatch h),(fun s l h=>nomatch h)⟩
theorem decx67 {x:TV τ} {a:zc} (h:dec67 x=some a):∃ x0 x1,x=.agg [x0,x1]∧dec2 x0=some a.Round∧dec3 x1=some a.Replica:=by
  unfold dec67 at h
  split at h
  · rename_i x0 x1
    split at h
    · rename_i a0 h0
      split at h
      · rename_i a1 h1
        cases h
        exact ⟨_,_,rfl,h0,h1⟩
      · cases h
    · cases h
  · cases h
theorem law67:CodAt C 67:=⟨fun x=>by show ((enc2 x.Round).cells C++((enc3 x.Replica).cells C++[]))=cel67 x; unfold cel67; exact congr (congrArg (·++·) (law2.cel x.Round)) (congr (congrArg (·++·) (law3.cel x.Replica)) (rfl)),fun x=>by show ((cel2 x.Round++(cel3 x.Replica++[]))).length=2; rw [List.length_append,List.length_append]; have e0:(cel2 x.Round).length=1:=law2.len x.Round; have e1:(cel3 x.Replica).length=1:=law3.len x.Replica; simp only [e0,e1,List.length_nil],fun x a h=>by obtain ⟨x0,x1,rfl,h0,h1⟩:=decx67 (show dec67 x=some a from h); exact CW.append (law2.dec _ _ h0) (CW.append (law3.dec _ _ h1) (CW.refl [])),fun x=>by show (((enc2 x.Round).ok&&((enc3 x.Replica).ok&&true)))=true; simp only [show (enc2 x.Round).ok=true from law2.ok _,show (enc3 x.Replica).ok=true from law3.ok _,Bool.and_self],fun x a h=>by obtain ⟨x0,x1,rfl,h0,h1⟩:=decx67 (show dec67 x=some a from h); show ((x0.ok&&(x1.ok&&true)))=true; simp only [law2.decok _ _ h0,law3.decok _ _ h1,Bool.and_self],fun x a h=>by obtain ⟨x0,x1,rfl,h0,h1⟩:=decx67 (show dec67 x=some a from h); rfl,fun x=>by show ((cel2 x.Round++(cel3 x.Replica++[]))).all AV.one=true; simp only [List.all_append,List.all_nil,show (cel2 x.Round).all AV.one=true from law2.one _,show (cel3 x.Replica).all AV.one=true from law3.one _,Bool.and_self],fun x=>za (law2.noid x.Round) (za (law3.noid x.Replica) (trivial)),fun ks h a b=>by have:=zi (law2.kd _ rfl a.Round b.Round) (zi (law3.kd _ rfl a.Replica b.Replica) ((show z1o [] [] []=some true from rfl))); cases h; exact this,(fun l s h=>nomatch h),(fun s l h=>nomatch h)⟩
theorem decx68 {x:TV τ} {a:zc} (h:dec68 x=some a):∃ x0 x1,x=.agg [x0,x1]∧dec2 x0=some a.Round∧dec3 x1=some a.Replica:=by
  unfold dec68 at h
  split at h
  · rename_i x0 x1
    split at h
    · rename_i a0 h0
      split at h
      · rename_i a1 h1
        cases h
        exact ⟨_,_,rfl,h0,h1⟩
      · cases h
    · cases h
  · cases h
theorem law68:CodAt C 68:=⟨fun x=>by show ((enc2 x.Round).cells C++((enc3 x.Replica).cells C++[]))=cel68 x; unfold cel68; exact congr (congrArg (·++·) (law2.cel x.Round)) (congr (congrArg (·++·) (law3.cel x.Replica)) (rfl)),fun x=>by show ((cel2 x.Round++(cel3 x.Replica++[]))).length=2; rw [List.length_append,List.length_append]; have e0:(cel2 x.Round).length=1:=law2.len x.Round; have e1:(cel3 x.Replica).length=1:=law3.len x.Replica; simp only [e0,e1,List.length_nil],fun x a h=>by obtain ⟨x0,x1,rfl,h0,h1⟩:=decx68 (show dec68 x=some a from h); exact CW.append (law2.dec _ _ h0) (CW.append (law3.dec _ _ h1) (CW.refl [])),fun x=>by show (((enc2 x.Round).ok&&((enc3 x.Replica).ok&&true)))=true; simp only [show (enc2 x.Round).ok=true from law2.ok _,show (enc3 x.Replica).ok=true from law3.ok _,Bool.and_self],fun x a h=>by obtain ⟨x0,x1,rfl,h0,h1⟩:=decx68 (show dec68 x=some a from h); show ((x0.ok&&(x1.ok&&true)))=true; simp only [law2.decok _ _ h0,law3.decok _ _ h1,Bool.and_self],fun x a h=>by obtain ⟨x0,x1,rfl,h0,h1⟩:=decx68 (show dec68 x=some a from h); rfl,fun x=>by show ((cel2 x.Round++(cel3 x.Replica++[]))).all AV.one=true; simp only [List.all_append,List.all_nil,show (cel2 x.Round).all AV.one=true from law2.one _,show (cel3 x.Replica).all AV.one=true from law3.one _,Bool.and_self],fun x=>za (law2.noid x.Round) (za (law3.noid x.Replica) (trivial)),fun ks h a b=>by have:=zi (law2.kd _ rfl a.Round b.Round) (zi (law3.kd _ rfl a.Replica b.Replica) ((show z1o [] [] []=some true from rfl))); cases h; exact this,(fun l s h=>nomatch h),(fun s l h=>nomatch h)⟩
theorem z11u {x:TV τ} {a:zd} (h:zxm x=some a):∃ x0 x1 x2,x=.agg [x0,x1,x2]∧dec2 x0=some a.Slot∧dec68 x1=some a.Ballot∧dec64 x2=some a.Entry:=by
  unfold zxm at h
  split at h
  · rename_i x0 x1 x2
    split at h
    · rename_i a0 h0
      split at h
      · rename_i a1 h1
        split at h
        · rename_i a2 h2
          cases h
          exact ⟨_,_,_,rfl,h0,h1,h2⟩
        · cases h
      · cases h
    · cases h
  · cases h
theorem law178:CodAt C 178:=⟨fun x=>by show ((enc2 x.Slot).cells C++((enc68 x.Ballot).cells C++((enc64 x.Entry).cells C++[])))=cel178 x; unfold cel178; exact congr (congrArg (·++·) (law2.cel x.Slot)) (congr (congrArg (·++·) (law68.cel x.Ballot)) (congr (congrArg (·++·) (law64.cel x.Entry)) (rfl))),fun x=>by show ((cel2 x.Slot++(cel68 x.Ballot++(cel64 x.Entry++[])))).length=59; rw [List.length_append,List.length_append,List.length_append]; have e0:(cel2 x.Slot).length=1:=law2.len x.Slot; have e1:(cel68 x.Ballot).length=2:=law68.len x.Ballot; have e2:(cel64 x.Entry).length=56:=law64.len x.Entry; simp only [e0,e1,e2,List.length_nil],fun x a h=>by obtain ⟨x0,x1,x2,rfl,h0,h1,h2⟩:=z11u (show zxm x=some a from h); exact CW.append (law2.dec _ _ h0) (CW.append (law68.dec _ _ h1) (CW.append (law64.dec _ _ h2) (CW.refl []))),fun x=>by show (((enc2 x.Slot).ok&&((enc68 x.Ballot).ok&&((enc64 x.Entry).ok&&true))))=true; simp only [show (enc2 x.Slot).ok=true from law2.ok _,show (enc68 x.Ballot).ok=true from law68.ok _,show (enc64 x.Entry).ok=true from law64.ok _,Bool.and_self],fun x a h=>by obtain ⟨x0,x1,x2,rfl,h0,h1,h2⟩:=z11u (show zxm x=some a from h); show ((x0.ok&&(x1.ok&&(x2.ok&&true))))=true; simp only [law2.decok _ _ h0,law68.decok _ _ h1,law64.decok _ _ h2,Bool.and_self],fun x a h=>by obtain ⟨x0,x1,x2,rfl,h0,h1,h2⟩:=z11u (show zxm x=some a from h); rfl,fun x=>by show ((cel2 x.Slot++(cel68 x.Ballot++(cel64 x.Entry++[])))).all AV.one=true; simp only [List.all_append,List.all_nil,show (cel2 x.Slot).all AV.one=true from law2.one _,show (cel68 x.Ballot).all AV.one=true from law68.one _,show (cel64 x.Entry).all AV.one=true from law64.one _,Bool.and_self],fun x=>za (law2.noid x.Slot) (za (law68.noid x.Ballot) (za (law64.noid x.Entry) (trivial))),(fun ks h=>nomatch h),(fun l s h=>nomatch h),(fun s l h=>nomatch h)⟩
theorem law69:CodAt C 69:=⟨fun x=>rfl,fun x=>rfl,fun x a h=>(z99 (C:=C) (show dSl 178 x=some a from h)).1,fun x=>rfl,fun x a h=>(z99 (C:=C) (show dSl 178 x=some a from h)).2.1,fun x a h=>(z99 (C:=C) (show dSl 178 x=some a from h)).2.2,fun a=>rfl,fun a=>z3h (NoId.asl fun cs hc=>by obtain ⟨y,_,rfl⟩:=List.mem_map.1 hc; exact law178.noid y),(fun ks h=>nomatch h),(fun l s h=>nomatch h),(fun s l h=>nomatch h)⟩
theorem decx70 {x:TV τ} {a:GMsg} (h:dec70 x=some a):∃ x0 x1 x2 x3 x4 x5 x6 x7 x8 x9 x10 x11 x12 x13,x=.agg [x0,x1,x2,x3,x4,x5,x6,x7,x8,x9,x10,x11,x12,x13]∧dec3 x0=some a.Kind∧dec66 x1=some a.From∧dec66 x2=some a.To∧dec68 x3=some a.Ballot∧dec2 x4=some a.Slot∧dec69 x5=some a.List_∧dec64 x6=some a.Entry∧dec2 x7=some a.Number∧dec28 x8=some a.Vector_∧dec2 x9=some a.Clock∧dec3 x10=some a.Origin∧dec60 x11=some a.Ops∧dec30 x12=some a.Epoch∧dec62 x13=some a.Part:=by
  unfold dec70 at h
  split at h
  · rename_i x0 x1 x2 x3 x4 x5 x6 x7 x8 x9 x10 x11 x12 x13
    split at h
    · rename_i a0 h0
      split at h
      · rename_i a1 h1
        split at h
        · rename_i a2 h2
          split at h
          · rename_i a3 h3
            split at h
            · rename_i a4 h4
              split at h
              · rename_i a5 h5
                split at h
                · rename_i a6 h6
                  split at h
                  · rename_i a7 h7
                    split at h
                    · rename_i a8 h8
                      split at h
                      · rename_i a9 h9
                        split at h
                        · rename_i a10 h10
                          split at h
                          · rename_i a11 h11
                            split at h
                            · rename_i a12 h12
                              split at h
                              · rename_i a13 h13
                                cases h
                                exact ⟨_,_,_,_,_,_,_,_,_,_,_,_,_,_,rfl,h0,h1,h2,h3,h4,h5,h6,h7,h8,h9,h10,h11,h12,h13⟩
                              · cases h
                            · cases h
                          · cases h
                        · cases h
                      · cases h
                    · cases h
                  · cases h
                · cases h
              · cases h
            · cases h
          · cases h
        · cases h
      · cases h
    · cases h
  · cases h
theorem law70:CodAt C 70:=⟨fun x=>by show ((enc3 x.Kind).cells C++((enc66 x.From).cells C++((enc66 x.To).cells C++((enc68 x.Ballot).cells C++((enc2 x.Slot).cells C++((enc69 x.List_).cells C++((enc64 x.Entry).cells C++((enc2 x.Number).cells C++((enc28 x.Vector_).cells C++((enc2 x.Clock).cells C++((enc3 x.Origin).cells C++((enc60 x.Ops).cells C++((enc30 x.Epoch).cells C++((enc62 x.Part).cells C++[]))))))))))))))=cel70 x; unfold cel70; exact congr (congrArg (·++·) (law3.cel x.Kind)) (congr (congrArg (·++·) (law66.cel x.From)) (congr (congrArg (·++·) (law66.cel x.To)) (congr (congrArg (·++·) (law68.cel x.Ballot)) (congr (congrArg (·++·) (law2.cel x.Slot)) (congr (congrArg (·++·) (law69.cel x.List_)) (congr (congrArg (·++·) (law64.cel x.Entry)) (congr (congrArg (·++·) (law2.cel x.Number)) (congr (congrArg (·++·) (law28.cel x.Vector_)) (congr (congrArg (·++·) (law2.cel x.Clock)) (congr (congrArg (·++·) (law3.cel x.Origin)) (congr (congrArg (·++·) (law60.cel x.Ops)) (congr (congrArg (·++·) (law30.cel x.Epoch)) (congr (congrArg (·++·) (law62.cel x.Part)) (rfl)))))))))))))),fun x=>by show ((cel3 x.Kind++(cel66 x.From++(cel66 x.To++(cel68 x.Ballot++(cel2 x.Slot++(cel69 x.List_++(cel64 x.Entry++(cel2 x.Number++(cel28 x.Vector_++(cel2 x.Clock++(cel3 x.Origin++(cel60 x.Ops++(cel30 x.Epoch++(cel62 x.Part++[]))))))))))))))).length=106; rw [List.length_append,List.length_append,List.length_append,List.length_append,List.length_append,List.length_append,List.length_append,List.length_append,List.length_append,List.length_append,List.length_append,List.length_append,List.length_append,List.length_append]; have e0:(cel3 x.Kind).length=1:=law3.len x.Kind; have e1:(cel66 x.From).length=2:=law66.len x.From; have e2:(cel66 x.To).length=2:=law66.len x.To; have e3:(cel68 x.Ballot).length=2:=law68.len x.Ballot; have e4:(cel2 x.Slot).length=1:=law2.len x.Slot; have e5:(cel69 x.List_).length=1:=law69.len x.List_; have e6:(cel64 x.Entry).length=56:=law64.len x.Entry; have e7:(cel2 x.Number).length=1:=law2.len x.Number; have e8:(cel28 x.Vector_).length=8:=law28.len x.Vector_; have e9:(cel2 x.Clock).length=1:=law2.len x.Clock; have e10:(cel3 x.Origin).length=1:=law3.len x.Origin; have e11:(cel60 x.Ops).length=1:=law60.len x.Ops; have e12:(cel30 x.Epoch).length=25:=law30.len x.Epoch; have e13:(cel62 x.Part).length=4:=law62.len x.Part; simp only [e0,e1,e2,e3,e4,e5,e6,e7,e8,e9,e10,e11,e12,e13,List.length_nil],fun x a h=>by obtain ⟨x0,x1,x2,x3,x4,x5,x6,x7,x8,x9,x10,x11,x12,x13,rfl,h0,h1,h2,h3,h4,h5,h6,h7,h8,h9,h10,h11,h12,h13⟩:=decx70 (show dec70 x=some a from h); exact CW.append (law3.dec _ _ h0) (CW.append (law66.dec _ _ h1) (CW.append (law66.dec _ _ h2) (CW.append (law68.dec _ _ h3) (CW.append (law2.dec _ _ h4) (CW.append (law69.dec _ _ h5) (CW.append (law64.dec _ _ h6) (CW.append (law2.dec _ _ h7) (CW.append (law28.dec _ _ h8) (CW.append (law2.dec _ _ h9) (CW.append (law3.dec _ _ h10) (CW.append (law60.dec _ _ h11) (CW.append (law30.dec _ _ h12) (CW.append (law62.dec _ _ h13) (CW.refl [])))))))))))))),fun x=>by show (((enc3 x.Kind).ok&&((enc66 x.From).ok&&((enc66 x.To).ok&&((enc68 x.Ballot).ok&&((enc2 x.Slot).ok&&((enc69 x.List_).ok&&((enc64 x.Entry).ok&&((enc2 x.Number).ok&&((enc28 x.Vector_).ok&&((enc2 x.Clock).ok&&((enc3 x.Origin).ok&&((enc60 x.Ops).ok&&((enc30 x.Epoch).ok&&((enc62 x.Part).ok&&true)))))))))))))))=true; simp only [show (enc3 x.Kind).ok=true from law3.ok _,show (enc66 x.From).ok=true from law66.ok _,show (enc66 x.To).ok=true from law66.ok _,show (enc68 x.Ballot).ok=true from law68.ok _,show (enc2 x.Slot).ok=true from law2.ok _,show (enc69 x.List_).ok=true from law69.ok _,show (enc64 x.Entry).ok=true from law64.ok _,show (enc2 x.Number).ok=true from law2.ok _,show (enc28 x.Vector_).ok=true from law28.ok _,show (enc2 x.Clock).ok=true from law2.ok _,show (enc3 x.Origin).ok=true from law3.ok _,show (enc60 x.Ops).ok=true from law60.ok _,show (enc30 x.Epoch).ok=true from law30.ok _,show (enc62 x.Part).ok=true from law62.ok _,Bool.and_self],fun x a h=>by obtain ⟨x0,x1,x2,x3,x4,x5,x6,x7,x8,x9,x10,x11,x12,x13,rfl,h0,h1,h2,h3,h4,h5,h6,h7,h8,h9,h10,h11,h12,h13⟩:=decx70 (show dec70 x=some a from h); show ((x0.ok&&(x1.ok&&(x2.ok&&(x3.ok&&(x4.ok&&(x5.ok&&(x6.ok&&(x7.ok&&(x8.ok&&(x9.ok&&(x10.ok&&(x11.ok&&(x12.ok&&(x13.ok&&true)))))))))))))))=true; simp only [law3.decok _ _ h0,law66.decok _ _ h1,law66.decok _ _ h2,law68.decok _ _ h3,law2.decok _ _ h4,law69.decok _ _ h5,law64.decok _ _ h6,law2.decok _ _ h7,law28.decok _ _ h8,law2.decok _ _ h9,law3.decok _ _ h10,law60.decok _ _ h11,law30.decok _ _ h12,law62.decok _ _ h13,Bool.and_self],fun x a h=>by obtain ⟨x0,x1,x2,x3,x4,x5,x6,x7,x8,x9,x10,x11,x12,x13,rfl,h0,h1,h2,h3,h4,h5,h6,h7,h8,h9,h10,h11,h12,h13⟩:=decx70 (show dec70 x=some a from h); rfl,fun x=>by show ((cel3 x.Kind++(cel66 x.From++(cel66 x.To++(cel68 x.Ballot++(cel2 x.Slot++(cel69 x.List_++(cel64 x.Entry++(cel2 x.Number++(cel28 x.Vector_++(cel2 x.Clock++(cel3 x.Origin++(cel60 x.Ops++(cel30 x.Epoch++(cel62 x.Part++[]))))))))))))))).all AV.one=true; simp only [List.all_append,List.all_nil,show (cel3 x.Kind).all AV.one=true from law3.one _,show (cel66 x.From).all AV.one=true from law66.one _,show (cel66 x.To).all AV.one=true from law66.one _,show (cel68 x.Ballot).all AV.one=true from law68.one _,show (cel2 x.Slot).all AV.one=true from law2.one _,show (cel69 x.List_).all AV.one=true from law69.one _,show (cel64 x.Entry).all AV.one=true from law64.one _,show (cel2 x.Number).all AV.one=true from law2.one _,show (cel28 x.Vector_).all AV.one=true from law28.one _,show (cel2 x.Clock).all AV.one=true from law2.one _,show (cel3 x.Origin).all AV.one=true from law3.one _,show (cel60 x.Ops).all AV.one=true from law60.one _,show (cel30 x.Epoch).all AV.one=true from law30.one _,show (cel62 x.Part).all AV.one=true from law62.one _,Bool.and_self],fun x=>za (law3.noid x.Kind) (za (law66.noid x.From) (za (law66.noid x.To) (za (law68.noid x.Ballot) (za (law2.noid x.Slot) (za (law69.noid x.List_) (za (law64.noid x.Entry) (za (law2.noid x.Number) (za (law28.noid x.Vector_) (za (law2.noid x.Clock) (za (law3.noid x.Origin) (za (law60.noid x.Ops) (za (law30.noid x.Epoch) (za (law62.noid x.Part) (trivial)))))))))))))),(fun ks h=>nomatch h),(fun l s h=>nomatch h),(fun s l h=>nomatch h)⟩
theorem decx71 {x:TV τ} {a:GMsg} (h:dec71 x=some a):∃ x0 x1 x2 x3 x4 x5 x6 x7 x8 x9 x10 x11 x12 x13,x=.agg [x0,x1,x2,x3,x4,x5,x6,x7,x8,x9,x10,x11,x12,x13]∧dec3 x0=some a.Kind∧dec66 x1=some a.From∧dec66 x2=some a.To∧dec68 x3=some a.Ballot∧dec2 x4=some a.Slot∧dec69 x5=some a.List_∧dec64 x6=some a.Entry∧dec2 x7=some a.Number∧dec28 x8=some a.Vector_∧dec2 x9=some a.Clock∧dec3 x10=some a.Origin∧dec60 x11=some a.Ops∧dec30 x12=some a.Epoch∧dec62 x13=some a.Part:=by
  unfold dec71 at h
  split at h
  · rename_i x0 x1 x2 x3 x4 x5 x6 x7 x8 x9 x10 x11 x12 x13
    split at h
    · rename_i a0 h0
      split at h
      · rename_i a1 h1
        split at h
        · rename_i a2 h2
          split at h
          · rename_i a3 h3
            split at h
            · rename_i a4 h4
              split at h
              · rename_i a5 h5
                split at h
                · rename_i a6 h6
                  split at h
                  · rename_i a7 h7
                    split at h
                    · rename_i a8 h8
                      split at h
                      · rename_i a9 h9
                        split at h
                        · rename_i a10 h10
                          split at h
                          · rename_i a11 h11
                            split at h
                            · rename_i a12 h12
                              split at h
                              · rename_i a13 h13
                                cases h
                                exact ⟨_,_,_,_,_,_,_,_,_,_,_,_,_,_,rfl,h0,h1,h2,h3,h4,h5,h6,h7,h8,h9,h10,h11,h12,h13⟩
                              · cases h
                            · cases h
                          · cases h
                        · cases h
                      · cases h
                    · cases h
                  · cases h
                · cases h
              · cases h
            · cases h
          · cases h
        · cases h
      · cases h
    · cases h
  · cases h
theorem law71:CodAt C 71:=⟨fun x=>by show ((enc3 x.Kind).cells C++((enc66 x.From).cells C++((enc66 x.To).cells C++((enc68 x.Ballot).cells C++((enc2 x.Slot).cells C++((enc69 x.List_).cells C++((enc64 x.Entry).cells C++((enc2 x.Number).cells C++((enc28 x.Vector_).cells C++((enc2 x.Clock).cells C++((enc3 x.Origin).cells C++((enc60 x.Ops).cells C++((enc30 x.Epoch).cells C++((enc62 x.Part).cells C++[]))))))))))))))=cel71 x; unfold cel71; exact congr (congrArg (·++·) (law3.cel x.Kind)) (congr (congrArg (·++·) (law66.cel x.From)) (congr (congrArg (·++·) (law66.cel x.To)) (congr (congrArg (·++·) (law68.cel x.Ballot)) (congr (congrArg (·++·) (law2.cel x.Slot)) (congr (congrArg (·++·) (law69.cel x.List_)) (congr (congrArg (·++·) (law64.cel x.Entry)) (congr (congrArg (·++·) (law2.cel x.Number)) (congr (congrArg (·++·) (law28.cel x.Vector_)) (congr (congrArg (·++·) (law2.cel x.Clock)) (congr (congrArg (·++·) (law3.cel x.Origin)) (congr (congrArg (·++·) (law60.cel x.Ops)) (congr (congrArg (·++·) (law30.cel x.Epoch)) (congr (congrArg (·++·) (law62.cel x.Part)) (rfl)))))))))))))),fun x=>by show ((cel3 x.Kind++(cel66 x.From++(cel66 x.To++(cel68 x.Ballot++(cel2 x.Slot++(cel69 x.List_++(cel64 x.Entry++(cel2 x.Number++(cel28 x.Vector_++(cel2 x.Clock++(cel3 x.Origin++(cel60 x.Ops++(cel30 x.Epoch++(cel62 x.Part++[]))))))))))))))).length=106; rw [List.length_append,List.length_append,List.length_append,List.length_append,List.length_append,List.length_append,List.length_append,List.length_append,List.length_append,List.length_append,List.length_append,List.length_append,List.length_append,List.length_append]; have e0:(cel3 x.Kind).length=1:=law3.len x.Kind; have e1:(cel66 x.From).length=2:=law66.len x.From; have e2:(cel66 x.To).length=2:=law66.len x.To; have e3:(cel68 x.Ballot).length=2:=law68.len x.Ballot; have e4:(cel2 x.Slot).length=1:=law2.len x.Slot; have e5:(cel69 x.List_).length=1:=law69.len x.List_; have e6:(cel64 x.Entry).length=56:=law64.len x.Entry; have e7:(cel2 x.Number).length=1:=law2.len x.Number; have e8:(cel28 x.Vector_).length=8:=law28.len x.Vector_; have e9:(cel2 x.Clock).length=1:=law2.len x.Clock; have e10:(cel3 x.Origin).length=1:=law3.len x.Origin; have e11:(cel60 x.Ops).length=1:=law60.len x.Ops; have e12:(cel30 x.Epoch).length=25:=law30.len x.Epoch; have e13:(cel62 x.Part).length=4:=law62.len x.Part; simp only [e0,e1,e2,e3,e4,e5,e6,e7,e8,e9,e10,e11,e12,e13,List.length_nil],fun x a h=>by obtain ⟨x0,x1,x2,x3,x4,x5,x6,x7,x8,x9,x10,x11,x12,x13,rfl,h0,h1,h2,h3,h4,h5,h6,h7,h8,h9,h10,h11,h12,h13⟩:=decx71 (show dec71 x=some a from h); exact CW.append (law3.dec _ _ h0) (CW.append (law66.dec _ _ h1) (CW.append (law66.dec _ _ h2) (CW.append (law68.dec _ _ h3) (CW.append (law2.dec _ _ h4) (CW.append (law69.dec _ _ h5) (CW.append (law64.dec _ _ h6) (CW.append (law2.dec _ _ h7) (CW.append (law28.dec _ _ h8) (CW.append (law2.dec _ _ h9) (CW.append (law3.dec _ _ h10) (CW.append (law60.dec _ _ h11) (CW.append (law30.dec _ _ h12) (CW.append (law62.dec _ _ h13) (CW.refl [])))))))))))))),fun x=>by show (((enc3 x.Kind).ok&&((enc66 x.From).ok&&((enc66 x.To).ok&&((enc68 x.Ballot).ok&&((enc2 x.Slot).ok&&((enc69 x.List_).ok&&((enc64 x.Entry).ok&&((enc2 x.Number).ok&&((enc28 x.Vector_).ok&&((enc2 x.Clock).ok&&((enc3 x.Origin).ok&&((enc60 x.Ops).ok&&((enc30 x.Epoch).ok&&((enc62 x.Part).ok&&true)))))))))))))))=true; simp only [show (enc3 x.Kind).ok=true from law3.ok _,show (enc66 x.From).ok=true from law66.ok _,show (enc66 x.To).ok=true from law66.ok _,show (enc68 x.Ballot).ok=true from law68.ok _,show (enc2 x.Slot).ok=true from law2.ok _,show (enc69 x.List_).ok=true from law69.ok _,show (enc64 x.Entry).ok=true from law64.ok _,show (enc2 x.Number).ok=true from law2.ok _,show (enc28 x.Vector_).ok=true from law28.ok _,show (enc2 x.Clock).ok=true from law2.ok _,show (enc3 x.Origin).ok=true from law3.ok _,show (enc60 x.Ops).ok=true from law60.ok _,show (enc30 x.Epoch).ok=true from law30.ok _,show (enc62 x.Part).ok=true from law62.ok _,Bool.and_self],fun x a h=>by obtain ⟨x0,x1,x2,x3,x4,x5,x6,x7,x8,x9,x10,x11,x12,x13,rfl,h0,h1,h2,h3,h4,h5,h6,h7,h8,h9,h10,h11,h12,h13⟩:=decx71 (show dec71 x=some a from h); show ((x0.ok&&(x1.ok&&(x2.ok&&(x3.ok&&(x4.ok&&(x5.ok&&(x6.ok&&(x7.ok&&(x8.ok&&(x9.ok&&(x10.ok&&(x11.ok&&(x12.ok&&(x13.ok&&true)))))))))))))))=true; simp only [law3.decok _ _ h0,law66.decok _ _ h1,law66.decok _ _ h2,law68.decok _ _ h3,law2.decok _ _ h4,law69.decok _ _ h5,law64.decok _ _ h6,law2.decok _ _ h7,law28.decok _ _ h8,law2.decok _ _ h9,law3.decok _ _ h10,law60.decok _ _ h11,law30.decok _ _ h12,law62.decok _ _ h13,Bool.and_self],fun x a h=>by obtain ⟨x0,x1,x2,x3,x4,x5,x6,x7,x8,x9,x10,x11,x12,x13,rfl,h0,h1,h2,h3,h4,h5,h6,h7,h8,h9,h10,h11,h12,h13⟩:=decx71 (show dec71 x=some a from h); rfl,fun x=>by show ((cel3 x.Kind++(cel66 x.From++(cel66 x.To++(cel68 x.Ballot++(cel2 x.Slot++(cel69 x.List_++(cel64 x.Entry++(cel2 x.Number++(cel28 x.Vector_++(cel2 x.Clock++(cel3 x.Origin++(cel60 x.Ops++(cel30 x.Epoch++(cel62 x.Part++[]))))))))))))))).all AV.one=true; simp only [List.all_append,List.all_nil,show (cel3 x.Kind).all AV.one=true from law3.one _,show (cel66 x.From).all AV.one=true from law66.one _,show (cel66 x.To).all AV.one=true from law66.one _,show (cel68 x.Ballot).all AV.one=true from law68.one _,show (cel2 x.Slot).all AV.one=true from law2.one _,show (cel69 x.List_).all AV.one=true from law69.one _,show (cel64 x.Entry).all AV.one=true from law64.one _,show (cel2 x.Number).all AV.one=true from law2.one _,show (cel28 x.Vector_).all AV.one=true from law28.one _,show (cel2 x.Clock).all AV.one=true from law2.one _,show (cel3 x.Origin).all AV.one=true from law3.one _,show (cel60 x.Ops).all AV.one=true from law60.one _,show (cel30 x.Epoch).all AV.one=true from law30.one _,show (cel62 x.Part).all AV.one=true from law62.one _,Bool.and_self],fun x=>za (law3.noid x.Kind) (za (law66.noid x.From) (za (law66.noid x.To) (za (law68.noid x.Ballot) (za (law2.noid x.Slot) (za (law69.noid x.List_) (za (law64.noid x.Entry) (za (law2.noid x.Number) (za (law28.noid x.Vector_) (za (law2.noid x.Clock) (za (law3.noid x.Origin) (za (law60.noid x.Ops) (za (law30.noid x.Epoch) (za (law62.noid x.Part) (trivial)))))))))))))),(fun ks h=>nomatch h),(fun l s h=>nomatch h),(fun s l h=>nomatch h)⟩
theorem decx86 {x:TV τ} {a:z4} (h:dec86 x=some a):∃ x0 x1,x=.agg [x0,x1]∧dec4 x0=some a.made∧dec31 x1=some a.b:=by
  unfold dec86 at h
  split at h
  · rename_i x0 x1
    split at h
    · rename_i a0 h0
      split at h
      · rename_i a1 h1
        cases h
        exact ⟨_,_,rfl,h0,h1⟩
      · cases h
    · cases h
  · cases h
theorem law86:CodAt C 86:=⟨fun x=>by show ((enc4 x.made).cells C++((enc31 x.b).cells C++[]))=cel86 x; unfold cel86; exact congr (congrArg (·++·) (law4.cel x.made)) (congr (congrArg (·++·) (law31.cel x.b)) (rfl)),fun x=>by show ((cel4 x.made++(cel31 x.b++[]))).length=2; rw [List.length_append,List.length_append]; have e0:(cel4 x.made).length=1:=law4.len x.made; have e1:(cel31 x.b).length=1:=law31.len x.b; simp only [e0,e1,List.length_nil],fun x a h=>by obtain ⟨x0,x1,rfl,h0,h1⟩:=decx86 (show dec86 x=some a from h); exact CW.append (law4.dec _ _ h0) (CW.append (law31.dec _ _ h1) (CW.refl [])),fun x=>by show (((enc4 x.made).ok&&((enc31 x.b).ok&&true)))=true; simp only [show (enc4 x.made).ok=true from law4.ok _,show (enc31 x.b).ok=true from law31.ok _,Bool.and_self],fun x a h=>by obtain ⟨x0,x1,rfl,h0,h1⟩:=decx86 (show dec86 x=some a from h); show ((x0.ok&&(x1.ok&&true)))=true; simp only [law4.decok _ _ h0,law31.decok _ _ h1,Bool.and_self],fun x a h=>by obtain ⟨x0,x1,rfl,h0,h1⟩:=decx86 (show dec86 x=some a from h); rfl,fun x=>by show ((cel4 x.made++(cel31 x.b++[]))).all AV.one=true; simp only [List.all_append,List.all_nil,show (cel4 x.made).all AV.one=true from law4.one _,show (cel31 x.b).all AV.one=true from law31.one _,Bool.and_self],fun x=>za (law4.noid x.made) (za (law31.noid x.b) (trivial)),(fun ks h=>nomatch h),(fun l s h=>nomatch h),(fun s l h=>nomatch h)⟩
theorem decx87 {x:TV τ} {a:z4} (h:dec87 x=some a):∃ x0 x1,x=.agg [x0,x1]∧dec4 x0=some a.made∧dec31 x1=some a.b:=by
  unfold dec87 at h
  split at h
  · rename_i x0 x1
    split at h
    · rename_i a0 h0
      split at h
      · rename_i a1 h1
        cases h
        exact ⟨_,_,rfl,h0,h1⟩
      · cases h
    · cases h
  · cases h
theorem law87:CodAt C 87:=⟨fun x=>by show ((enc4 x.made).cells C++((enc31 x.b).cells C++[]))=cel87 x; unfold cel87; exact congr (congrArg (·++·) (law4.cel x.made)) (congr (congrArg (·++·) (law31.cel x.b)) (rfl)),fun x=>by show ((cel4 x.made++(cel31 x.b++[]))).length=2; rw [List.length_append,List.length_append]; have e0:(cel4 x.made).length=1:=law4.len x.made; have e1:(cel31 x.b).length=1:=law31.len x.b; simp only [e0,e1,List.length_nil],fun x a h=>by obtain ⟨x0,x1,rfl,h0,h1⟩:=decx87 (show dec87 x=some a from h); exact CW.append (law4.dec _ _ h0) (CW.append (law31.dec _ _ h1) (CW.refl [])),fun x=>by show (((enc4 x.made).ok&&((enc31 x.b).ok&&true)))=true; simp only [show (enc4 x.made).ok=true from law4.ok _,show (enc31 x.b).ok=true from law31.ok _,Bool.and_self],fun x a h=>by obtain ⟨x0,x1,rfl,h0,h1⟩:=decx87 (show dec87 x=some a from h); show ((x0.ok&&(x1.ok&&true)))=true; simp only [law4.decok _ _ h0,law31.decok _ _ h1,Bool.and_self],fun x a h=>by obtain ⟨x0,x1,rfl,h0,h1⟩:=decx87 (show dec87 x=some a from h); rfl,fun x=>by show ((cel4 x.made++(cel31 x.b++[]))).all AV.one=true; simp only [List.all_append,List.all_nil,show (cel4 x.made).all AV.one=true from law4.one _,show (cel31 x.b).all AV.one=true from law31.one _,Bool.and_self],fun x=>za (law4.noid x.made) (za (law31.noid x.b) (trivial)),(fun ks h=>nomatch h),(fun l s h=>nomatch h),(fun s l h=>nomatch h)⟩
theorem decx99 {x:TV τ} {a:z4} (h:dec99 x=some a):∃ x0 x1,x=.agg [x0,x1]∧dec4 x0=some a.made∧dec31 x1=some a.b:=by
  unfold dec99 at h
  split at h
  · rename_i x0 x1
    split at h
    · rename_i a0 h0
      split at h
      · rename_i a1 h1
        cases h
        exact ⟨_,_,rfl,h0,h1⟩
      · cases h
    · cases h
  · cases h
theorem law99:CodAt C 99:=⟨fun x=>by show ((enc4 x.made).cells C++((enc31 x.b).cells C++[]))=cel99 x; unfold cel99; exact congr (congrArg (·++·) (law4.cel x.made)) (congr (congrArg (·++·) (law31.cel x.b)) (rfl)),fun x=>by show ((cel4 x.made++(cel31 x.b++[]))).length=2; rw [List.length_append,List.length_append]; have e0:(cel4 x.made).length=1:=law4.len x.made; have e1:(cel31 x.b).length=1:=law31.len x.b; simp only [e0,e1,List.length_nil],fun x a h=>by obtain ⟨x0,x1,rfl,h0,h1⟩:=decx99 (show dec99 x=some a from h); exact CW.append (law4.dec _ _ h0) (CW.append (law31.dec _ _ h1) (CW.refl [])),fun x=>by show (((enc4 x.made).ok&&((enc31 x.b).ok&&true)))=true; simp only [show (enc4 x.made).ok=true from law4.ok _,show (enc31 x.b).ok=true from law31.ok _,Bool.and_self],fun x a h=>by obtain ⟨x0,x1,rfl,h0,h1⟩:=decx99 (show dec99 x=some a from h); show ((x0.ok&&(x1.ok&&true)))=true; simp only [law4.decok _ _ h0,law31.decok _ _ h1,Bool.and_self],fun x a h=>by obtain ⟨x0,x1,rfl,h0,h1⟩:=decx99 (show dec99 x=some a from h); rfl,fun x=>by show ((cel4 x.made++(cel31 x.b++[]))).all AV.one=true; simp only [List.all_append,List.all_nil,show (cel4 x.made).all AV.one=true from law4.one _,show (cel31 x.b).all AV.one=true from law31.one _,Bool.and_self],fun x=>za (law4.noid x.made) (za (law31.noid x.b) (trivial)),(fun ks h=>nomatch h),(fun l s h=>nomatch h),(fun s l h=>nomatch h)⟩
theorem law143:CodAt C 143:=⟨fun x=>rfl,fun x=>rfl,fun x a h=>(z99 (C:=C) (show dSl 2 x=some a from h)).1,fun x=>rfl,fun x a h=>(z99 (C:=C) (show dSl 2 x=some a from h)).2.1,fun x a h=>(z99 (C:=C) (show dSl 2 x=some a from h)).2.2,fun a=>rfl,fun a=>z3h (NoId.asl fun cs hc=>by obtain ⟨y,_,rfl⟩:=List.mem_map.1 hc; exact law2.noid y),(fun ks h=>nomatch h),(fun l s h=>nomatch h),(fun s l h=>nomatch h)⟩
theorem law145:CodAt C 145:=⟨fun x=>rfl,fun x=>rfl,fun x a h=>(z99 (C:=C) (show dSl 3 x=some a from h)).1,fun x=>rfl,fun x a h=>(z99 (C:=C) (show dSl 3 x=some a from h)).2.1,fun x a h=>(z99 (C:=C) (show dSl 3 x=some a from h)).2.2,fun a=>rfl,fun a=>z3h (NoId.asl fun cs hc=>by obtain ⟨y,_,rfl⟩:=List.mem_map.1 hc; exact law3.noid y),(fun ks h=>nomatch h),(fun l s h=>nomatch h),(fun s l h=>nomatch h)⟩
theorem law167:CodAt C 167:=⟨fun x=>rfl,fun x=>rfl,fun x a h=>by rw [z8a (show dInt .u32 x=some a from h)]; exact .refl _,fun x=>rfl,fun x a h=>by rw [z8a (show dInt .u32 x=some a from h)]; rfl,fun x a h=>by rw [z8a (show dInt .u32 x=some a from h)]; rfl,fun a=>rfl,fun a=>z3h (NoId.v _),fun ks h a b=>by cases h; simp [z1o,scal,C,celT,cel167,beqT,beq167],(fun l s h=>nomatch h),(fun s l h=>nomatch h)⟩
theorem law171:CodAt C 171:=⟨fun x=>rfl,fun x=>rfl,fun x a h=>by rw [z8a (show dInt .u64 x=some a from h)]; exact .refl _,fun x=>rfl,fun x a h=>by rw [z8a (show dInt .u64 x=some a from h)]; rfl,fun x a h=>by rw [z8a (show dInt .u64 x=some a from h)]; rfl,fun a=>rfl,fun a=>z3h (NoId.v _),fun ks h a b=>by cases h; simp [z1o,scal,C,celT,cel171,beqT,beq171],(fun l s h=>nomatch h),(fun s l h=>nomatch h)⟩
theorem z11v {x:TV τ} {a:zd} (h:zxn x=some a):∃ x0 x1 x2,x=.agg [x0,x1,x2]∧dec2 x0=some a.Slot∧dec68 x1=some a.Ballot∧dec64 x2=some a.Entry:=by
  unfold zxn at h
  split at h
  · rename_i x0 x1 x2
    split at h
    · rename_i a0 h0
      split at h
      · rename_i a1 h1
        split at h
        · rename_i a2 h2
          cases h
          exact ⟨_,_,_,rfl,h0,h1,h2⟩
        · cases h
      · cases h
    · cases h
  · cases h
theorem law177:CodAt C 177:=⟨fun x=>by show ((enc2 x.Slot).cells C++((enc68 x.Ballot).cells C++((enc64 x.Entry).cells C++[])))=cel177 x; unfold cel177; exact congr (congrArg (·++·) (law2.cel x.Slot)) (congr (congrArg (·++·) (law68.cel x.Ballot)) (congr (congrArg (·++·) (law64.cel x.Entry)) (rfl))),fun x=>by show ((cel2 x.Slot++(cel68 x.Ballot++(cel64 x.Entry++[])))).length=59; rw [List.length_append,List.length_append,List.length_append]; have e0:(cel2 x.Slot).length=1:=law2.len x.Slot; have e1:(cel68 x.Ballot).length=2:=law68.len x.Ballot; have e2:(cel64 x.Entry).length=56:=law64.len x.Entry; simp only [e0,e1,e2,List.length_nil],fun x a h=>by obtain ⟨x0,x1,x2,rfl,h0,h1,h2⟩:=z11v (show zxn x=some a from h); exact CW.append (law2.dec _ _ h0) (CW.append (law68.dec _ _ h1) (CW.append (law64.dec _ _ h2) (CW.refl []))),fun x=>by show (((enc2 x.Slot).ok&&((enc68 x.Ballot).ok&&((enc64 x.Entry).ok&&true))))=true; simp only [show (enc2 x.Slot).ok=true from law2.ok _,show (enc68 x.Ballot).ok=true from law68.ok _,show (enc64 x.Entry).ok=true from law64.ok _,Bool.and_self],fun x a h=>by obtain ⟨x0,x1,x2,rfl,h0,h1,h2⟩:=z11v (show zxn x=some a from h); show ((x0.ok&&(x1.ok&&(x2.ok&&true))))=true; simp only [law2.decok _ _ h0,law68.decok _ _ h1,law64.decok _ _ h2,Bool.and_self],fun x a h=>by obtain ⟨x0,x1,x2,rfl,h0,h1,h2⟩:=z11v (show zxn x=some a from h); rfl,fun x=>by show ((cel2 x.Slot++(cel68 x.Ballot++(cel64 x.Entry++[])))).all AV.one=true; simp only [List.all_append,List.all_nil,show (cel2 x.Slot).all AV.one=true from law2.one _,show (cel68 x.Ballot).all AV.one=true from law68.one _,show (cel64 x.Entry).all AV.one=true from law64.one _,Bool.and_self],fun x=>za (law2.noid x.Slot) (za (law68.noid x.Ballot) (za (law64.noid x.Entry) (trivial))),(fun ks h=>nomatch h),(fun l s h=>nomatch h),(fun s l h=>nomatch h)⟩
theorem law181:CodAt C 181:=⟨fun x=>rfl,fun x=>rfl,fun x a h=>(z99 (C:=C) (show dSl 9 x=some a from h)).1,fun x=>rfl,fun x a h=>(z99 (C:=C) (show dSl 9 x=some a from h)).2.1,fun x a h=>(z99 (C:=C) (show dSl 9 x=some a from h)).2.2,fun a=>rfl,fun a=>z3h (NoId.asl fun cs hc=>by obtain ⟨y,_,rfl⟩:=List.mem_map.1 hc; exact law9.noid y),(fun ks h=>nomatch h),(fun l s h=>nomatch h),(fun s l h=>nomatch h)⟩
theorem law183:CodAt C 183:=⟨fun x=>rfl,fun x=>rfl,fun x a h=>by rw [z8a (show dInt .u64 x=some a from h)]; exact .refl _,fun x=>rfl,fun x a h=>by rw [z8a (show dInt .u64 x=some a from h)]; rfl,fun x a h=>by rw [z8a (show dInt .u64 x=some a from h)]; rfl,fun a=>rfl,fun a=>z3h (NoId.v _),fun ks h a b=>by cases h; simp [z1o,scal,C,celT,cel183,beqT,beq183],(fun l s h=>nomatch h),(fun s l h=>nomatch h)⟩
theorem law190:CodAt C 190:=⟨fun x=>rfl,fun x=>rfl,fun x a h=>(z99 (C:=C) (show dSl 66 x=some a from h)).1,fun x=>rfl,fun x a h=>(z99 (C:=C) (show dSl 66 x=some a from h)).2.1,fun x a h=>(z99 (C:=C) (show dSl 66 x=some a from h)).2.2,fun a=>rfl,fun a=>z3h (NoId.asl fun cs hc=>by obtain ⟨y,_,rfl⟩:=List.mem_map.1 hc; exact law66.noid y),(fun ks h=>nomatch h),(fun l s h=>nomatch h),(fun s l h=>nomatch h)⟩
theorem law194:CodAt C 194:=⟨fun x=>rfl,fun x=>rfl,fun x a h=>(z99 (C:=C) (show dSl 31 x=some a from h)).1,fun x=>rfl,fun x a h=>(z99 (C:=C) (show dSl 31 x=some a from h)).2.1,fun x a h=>(z99 (C:=C) (show dSl 31 x=some a from h)).2.2,fun a=>rfl,fun a=>z3h (NoId.asl fun cs hc=>by obtain ⟨y,_,rfl⟩:=List.mem_map.1 hc; exact law31.noid y),(fun ks h=>nomatch h),(fun l s h=>nomatch h),(fun s l h=>nomatch h)⟩
theorem lawX {t:Nat} (h:celT t=fun _=>[]) (h1:encT t=fun _=>.agg []) (h2:decT t=fun _=>none) (h3:szT t=0) (h4:kdT t=none) (h5:b2sT t=fun _=>none) (h6:s2bT t=fun _=>none):CodAt C t:=by
  refine ⟨fun x=>?_,fun x=>?_,fun x a hx=>?_,fun x=>?_,fun x a hx=>?_,fun x a hx=>?_,fun a=>?_,fun a=>?_,fun ks hk=>?_,fun l s hl=>?_,fun s l hl=>?_⟩
  · show (encT t x).cells C=celT t x; rw [h,h1]; rfl
  · show (celT t x).length=szT t; rw [h,h3]; rfl
  · have e:decT t x=some a:=hx; rw [h2] at e; cases e
  · show (encT t x).ok=true; rw [h1]; rfl
  · have e:decT t x=some a:=hx; rw [h2] at e; cases e
  · have e:decT t x=some a:=hx; rw [h2] at e; cases e
  · show (celT t a).all AV.one=true; rw [h]; rfl
  · show NoIds (celT t a); rw [h]; trivial
  · have e:kdT t=some ks:=hk; rw [h4] at e; cases e
  · have e:b2sT t l=some s:=hl; rw [h5] at e; cases e
  · have e:s2bT t s=some l:=hl; rw [h6] at e; cases e
theorem lawOther:∀ t:Nat,t ≠ 2→t ≠ 3→t ≠ 4→t ≠ 5→t ≠ 9→t ≠ 12→t ≠ 21→t ≠ 22→t ≠ 23→t ≠ 24→t ≠ 25→t ≠ 26→t ≠ 27→t ≠ 28→t ≠ 29→t ≠ 30→t ≠ 31→t ≠ 35→t ≠ 47→t ≠ 48→t ≠ 60→t ≠ 61→t ≠ 62→t ≠ 63→t ≠ 64→t ≠ 65→t ≠ 66→t ≠ 67→t ≠ 68→t ≠ 69→t ≠ 70→t ≠ 71→t ≠ 86→t ≠ 87→t ≠ 99→t ≠ 143→t ≠ 145→t ≠ 167→t ≠ 171→t ≠ 177→t ≠ 178→t ≠ 181→t ≠ 183→t ≠ 190→t ≠ 194→CodAt C t
  | t,h2,h3,h4,h5,h9,h12,h21,h22,h23,h24,h25,h26,h27,h28,h29,h30,h31,h35,h47,h48,h60,h61,h62,h63,h64,h65,h66,h67,h68,h69,h70,h71,h86,h87,h99,h143,h145,h167,h171,h177,h178,h181,h183,h190,h194=>by
    apply lawX <;> first
      | (unfold celT; split <;> first | rfl | contradiction | (exfalso; omega))
      | (unfold encT; split <;> first | rfl | contradiction | (exfalso; omega))
      | (unfold decT; split <;> first | rfl | contradiction | (exfalso; omega))
      | (unfold szT; split <;> first | rfl | contradiction | (exfalso; omega))
      | (unfold kdT; split <;> first | rfl | contradiction | (exfalso; omega))
      | (unfold b2sT; split <;> first | rfl | contradiction | (exfalso; omega))
      | (unfold s2bT; split <;> first | rfl | contradiction | (exfalso; omega))
theorem cOk:C.Ok:=Cod.Ok.of fun t=>by
  by_cases h2:t=2
  · subst h2; exact law2
  by_cases h3:t=3
  · subst h3; exact law3
  by_cases h4:t=4
  · subst h4; exact law4
  by_cases h5:t=5
  · subst h5; exact law5
  by_cases h9:t=9
  · subst h9; exact law9
  by_cases h12:t=12
  · subst h12; exact law12
  by_cases h21:t=21
  · subst h21; exact law21
  by_cases h22:t=22
  · subst h22; exact law22
  by_cases h23:t=23
  · subst h23; exact law23
  by_cases h24:t=24
  · subst h24; exact law24
  by_cases h25:t=25
  · subst h25; exact law25
  by_cases h26:t=26
  · subst h26; exact law26
  by_cases h27:t=27
  · subst h27; exact law27
  by_cases h28:t=28
  · subst h28; exact law28
  by_cases h29:t=29
  · subst h29; exact law29
  by_cases h30:t=30
  · subst h30; exact law30
  by_cases h31:t=31
  · subst h31; exact law31
  by_cases h35:t=35
  · subst h35; exact law35
  by_cases h47:t=47
  · subst h47; exact law47
  by_cases h48:t=48
  · subst h48; exact law48
  by_cases h60:t=60
  · subst h60; exact law60
  by_cases h61:t=61
  · subst h61; exact law61
  by_cases h62:t=62
  · subst h62; exact law62
  by_cases h63:t=63
  · subst h63; exact law63
  by_cases h64:t=64
  · subst h64; exact law64
  by_cases h65:t=65
  · subst h65; exact law65
  by_cases h66:t=66
  · subst h66; exact law66
  by_cases h67:t=67
  · subst h67; exact law67
  by_cases h68:t=68
  · subst h68; exact law68
  by_cases h69:t=69
  · subst h69; exact law69
  by_cases h70:t=70
  · subst h70; exact law70
  by_cases h71:t=71
  · subst h71; exact law71
  by_cases h86:t=86
  · subst h86; exact law86
  by_cases h87:t=87
  · subst h87; exact law87
  by_cases h99:t=99
  · subst h99; exact law99
  by_cases h143:t=143
  · subst h143; exact law143
  by_cases h145:t=145
  · subst h145; exact law145
  by_cases h167:t=167
  · subst h167; exact law167
  by_cases h171:t=171
  · subst h171; exact law171
  by_cases h177:t=177
  · subst h177; exact law177
  by_cases h178:t=178
  · subst h178; exact law178
  by_cases h181:t=181
  · subst h181; exact law181
  by_cases h183:t=183
  · subst h183; exact law183
  by_cases h190:t=190
  · subst h190; exact law190
  by_cases h194:t=194
  · subst h194; exact law194
  exact lawOther t h2 h3 h4 h5 h9 h12 h21 h22 h23 h24 h25 h26 h27 h28 h29 h30 h31 h35 h47 h48 h60 h61 h62 h63 h64 h65 h66 h67 h68 h69 h70 h71 h86 h87 h99 h143 h145 h167 h171 h177 h178 h181 h183 h190 h194
def zeroT:Nat→Option (TV τ)
  | 2=>some (.int .i64 0)
  | 3=>some (.int .i64 0)
  | 4=>some (.bool false)
  | 5=>some (.int .u8 0)
  | 9=>some (.str [])
  | 12=>some (.int .u64 0)
  | 21=>some (.int .i32 0)
  | 22=>some (.agg [(.int .i64 0),(.int .i64 0)])
  | 23=>some (.agg [(.int .i64 0),(.int .i64 0)])
  | 24=>some (.agg [(.agg [(.int .i64 0),(.int .i64 0)]),(.int .i64 0),(.int .i64 0),(.int .i64 0),(.str []),(.str []),(.str [])])
  | 25=>some (.agg [(.agg [(.int .i64 0),(.int .i64 0)]),(.int .i64 0),(.int .i64 0),(.int .i64 0),(.str []),(.str []),(.str [])])
  | 26=>some (.arr 3 8 (Vector.replicate 8 (default:Int)))
  | 27=>some (.arr 2 8 (Vector.replicate 8 (default:Int)))
  | 28=>some (.arr 2 8 (Vector.replicate 8 (default:Int)))
  | 29=>some (.agg [(.int .i64 0),(.arr 3 8 (Vector.replicate 8 (default:Int))),(.arr 2 8 (Vector.replicate 8 (default:Int))),(.arr 3 8 (Vector.replicate 8 (default:Int)))])
  | 30=>some (.agg [(.int .i64 0),(.arr 3 8 (Vector.replicate 8 (default:Int))),(.arr 2 8 (Vector.replicate 8 (default:Int))),(.arr 3 8 (Vector.replicate 8 (default:Int)))])
  | 31=>some (.nil .slice)
  | 32=>some (.nil .ptr)
  | 35=>some (.int .i64 0)
  | 44=>some (.nil .ptr)
  | 47=>some (.agg [(.nil .slice),(.int .i64 0),(.int .i64 0)])
  | 48=>some (.agg [(.nil .slice),(.int .i64 0),(.int .i64 0)])
  | 60=>some (.nil .slice)
  | 61=>some (.agg [(.int .i64 0),(.int .i64 0),(.int .i64 0),(.nil .slice)])
  | 62=>some (.agg [(.int .i64 0),(.int .i64 0),(.int .i64 0),(.nil .slice)])
  | 63=>some (.agg [(.int .i64 0),(.int .i64 0),(.int .i64 0),(.agg [(.agg [(.int .i64 0),(.int .i64 0)]),(.int .i64 0),(.int .i64 0),(.int .i64 0),(.str []),(.str []),(.str [])]),(.int .i64 0),(.int .i64 0),(.nil .slice),(.agg [(.int .i64 0),(.arr 3 8 (Vector.replicate 8 (default:Int))),(.arr 2 8 (Vector.replicate 8 (default:Int))),(.arr 3 8 (Vector.replicate 8 (default:Int)))]),(.int .i64 0),(.arr 2 8 (Vector.replicate 8 (default:Int))),(.int .i64 0),(.agg [(.int .i64 0),(.int .i64 0),(.int .i64 0),(.nil .slice)]),(.int .i64 0),(.int .i64 0),(.int .i64 0)])
  | 64=>some (.agg [(.int .i64 0),(.int .i64 0),(.int .i64 0),(.agg [(.agg [(.int .i64 0),(.int .i64 0)]),(.int .i64 0),(.int .i64 0),(.int .i64 0),(.str []),(.str []),(.str [])]),(.int .i64 0),(.int .i64 0),(.nil .slice),(.agg [(.int .i64 0),(.arr 3 8 (Vector.replicate 8 (default:Int))),(.arr 2 8 (Vector.replicate 8 (default:Int))),(.arr 3 8 (Vector.replicate 8 (default:Int)))]),(.int .i64 0),(.arr 2 8 (Vector.replicate 8 (default:Int))),(.int .i64 0),(.agg [(.int .i64 0),(.int .i64 0),(.int .i64 0),(.nil .slice)]),(.int .i64 0),(.int .i64 0),(.int .i64 0)])
  | 65=>some (.agg [(.int .i64 0),(.int .i64 0)])
  | 66=>some (.agg [(.int .i64 0),(.int .i64 0)])
  | 67=>some (.agg [(.int .i64 0),(.int .i64 0)])
  | 68=>some (.agg [(.int .i64 0),(.int .i64 0)])
  | 69=>some (.nil .slice)
  | 70=>some (.agg [(.int .i64 0),(.agg [(.int .i64 0),(.int .i64 0)]),(.agg [(.int .i64 0),(.int .i64 0)]),(.agg [(.int .i64 0),(.int .i64 0)]),(.int .i64 0),(.nil .slice),(.agg [(.int .i64 0),(.int .i64 0),(.int .i64 0),(.agg [(.agg [(.int .i64 0),(.int .i64 0)]),(.int .i64 0),(.int .i64 0),(.int .i64 0),(.str []),(.str []),(.str [])]),(.int .i64 0),(.int .i64 0),(.nil .slice),(.agg [(.int .i64 0),(.arr 3 8 (Vector.replicate 8 (default:Int))),(.arr 2 8 (Vector.replicate 8 (default:Int))),(.arr 3 8 (Vector.replicate 8 (default:Int)))]),(.int .i64 0),(.arr 2 8 (Vector.replicate 8 (default:Int))),(.int .i64 0),(.agg [(.int .i64 0),(.int .i64 0),(.int .i64 0),(.nil .slice)]),(.int .i64 0),(.int .i64 0),(.int .i64 0)]),(.int .i64 0),(.arr 2 8 (Vector.replicate 8 (default:Int))),(.int .i64 0),(.int .i64 0),(.nil .slice),(.agg [(.int .i64 0),(.arr 3 8 (Vector.replicate 8 (default:Int))),(.arr 2 8 (Vector.replicate 8 (default:Int))),(.arr 3 8 (Vector.replicate 8 (default:Int)))]),(.agg [(.int .i64 0),(.int .i64 0),(.int .i64 0),(.nil .slice)])])
  | 71=>some (.agg [(.int .i64 0),(.agg [(.int .i64 0),(.int .i64 0)]),(.agg [(.int .i64 0),(.int .i64 0)]),(.agg [(.int .i64 0),(.int .i64 0)]),(.int .i64 0),(.nil .slice),(.agg [(.int .i64 0),(.int .i64 0),(.int .i64 0),(.agg [(.agg [(.int .i64 0),(.int .i64 0)]),(.int .i64 0),(.int .i64 0),(.int .i64 0),(.str []),(.str []),(.str [])]),(.int .i64 0),(.int .i64 0),(.nil .slice),(.agg [(.int .i64 0),(.arr 3 8 (Vector.replicate 8 (default:Int))),(.arr 2 8 (Vector.replicate 8 (default:Int))),(.arr 3 8 (Vector.replicate 8 (default:Int)))]),(.int .i64 0),(.arr 2 8 (Vector.replicate 8 (default:Int))),(.int .i64 0),(.agg [(.int .i64 0),(.int .i64 0),(.int .i64 0),(.nil .slice)]),(.int .i64 0),(.int .i64 0),(.int .i64 0)]),(.int .i64 0),(.arr 2 8 (Vector.replicate 8 (default:Int))),(.int .i64 0),(.int .i64 0),(.nil .slice),(.agg [(.int .i64 0),(.arr 3 8 (Vector.replicate 8 (default:Int))),(.arr 2 8 (Vector.replicate 8 (default:Int))),(.arr 3 8 (Vector.replicate 8 (default:Int)))]),(.agg [(.int .i64 0),(.int .i64 0),(.int .i64 0),(.nil .slice)])])
  | 86=>some (.agg [(.bool false),(.nil .slice)])
  | 87=>some (.agg [(.bool false),(.nil .slice)])
  | 99=>some (.agg [(.bool false),(.nil .slice)])
  | 111=>some (.agg [(.nil .ptr),(.int .i64 0)])
  | 119=>some (.agg [(.nil .ptr),(.int .i64 0)])
  | 143=>some (.nil .slice)
  | 145=>some (.nil .slice)
  | 147=>some (.nil .ptr)
  | 149=>some (.nil .ptr)
  | 167=>some (.int .u32 0)
  | 171=>some (.int .u64 0)
  | 177=>some (.agg [(.int .i64 0),(.agg [(.int .i64 0),(.int .i64 0)]),(.agg [(.int .i64 0),(.int .i64 0),(.int .i64 0),(.agg [(.agg [(.int .i64 0),(.int .i64 0)]),(.int .i64 0),(.int .i64 0),(.int .i64 0),(.str []),(.str []),(.str [])]),(.int .i64 0),(.int .i64 0),(.nil .slice),(.agg [(.int .i64 0),(.arr 3 8 (Vector.replicate 8 (default:Int))),(.arr 2 8 (Vector.replicate 8 (default:Int))),(.arr 3 8 (Vector.replicate 8 (default:Int)))]),(.int .i64 0),(.arr 2 8 (Vector.replicate 8 (default:Int))),(.int .i64 0),(.agg [(.int .i64 0),(.int .i64 0),(.int .i64 0),(.nil .slice)]),(.int .i64 0),(.int .i64 0),(.int .i64 0)])])
  | 178=>some (.agg [(.int .i64 0),(.agg [(.int .i64 0),(.int .i64 0)]),(.agg [(.int .i64 0),(.int .i64 0),(.int .i64 0),(.agg [(.agg [(.int .i64 0),(.int .i64 0)]),(.int .i64 0),(.int .i64 0),(.int .i64 0),(.str []),(.str []),(.str [])]),(.int .i64 0),(.int .i64 0),(.nil .slice),(.agg [(.int .i64 0),(.arr 3 8 (Vector.replicate 8 (default:Int))),(.arr 2 8 (Vector.replicate 8 (default:Int))),(.arr 3 8 (Vector.replicate 8 (default:Int)))]),(.int .i64 0),(.arr 2 8 (Vector.replicate 8 (default:Int))),(.int .i64 0),(.agg [(.int .i64 0),(.int .i64 0),(.int .i64 0),(.nil .slice)]),(.int .i64 0),(.int .i64 0),(.int .i64 0)])])
  | 181=>some (.nil .slice)
  | 183=>some (.int .u64 0)
  | 184=>some (.nil .slice)
  | 185=>some (.nil .slice)
  | 190=>some (.nil .slice)
  | 194=>some (.nil .slice)
  | _=>none
theorem zok2:∃ i,E.ty 2=some i∧(.int .i64 0:TV τ).ok=true∧CW i.zero ((.int .i64 0:TV τ).cells C)∧(.int .i64 0:TV τ).isAgg=i.agg:=⟨ti2,rfl,rfl,CW.of_eq (by kernel_rfl),rfl⟩
theorem zok3:∃ i,E.ty 3=some i∧(.int .i64 0:TV τ).ok=true∧CW i.zero ((.int .i64 0:TV τ).cells C)∧(.int .i64 0:TV τ).isAgg=i.agg:=⟨ti3,rfl,rfl,CW.of_eq (by kernel_rfl),rfl⟩
theorem zok4:∃ i,E.ty 4=some i∧(.bool false:TV τ).ok=true∧CW i.zero ((.bool false:TV τ).cells C)∧(.bool false:TV τ).isAgg=i.agg:=⟨ti4,rfl,rfl,CW.of_eq (by kernel_rfl),rfl⟩
theorem zok5:∃ i,E.ty 5=some i∧(.int .u8 0:TV τ).ok=true∧CW i.zero ((.int .u8 0:TV τ).cells C)∧(.int .u8 0:TV τ).isAgg=i.agg:=⟨ti5,rfl,rfl,CW.of_eq (by kernel_rfl),rfl⟩
theorem zok9:∃ i,E.ty 9=some i∧(.str []:TV τ).ok=true∧CW i.zero ((.str []:TV τ).cells C)∧(.str []:TV τ).isAgg=i.agg:=⟨ti9,rfl,rfl,CW.of_eq (by kernel_rfl),rfl⟩
theorem zok12:∃ i,E.ty 12=some i∧(.int .u64 0:TV τ).ok=true∧CW i.zero ((.int .u64 0:TV τ).cells C)∧(.int .u64 0:TV τ).isAgg=i.agg:=⟨ti12,rfl,rfl,CW.of_eq (by kernel_rfl),rfl⟩
theorem zok21:∃ i,E.ty 21=some i∧(.int .i32 0:TV τ).ok=true∧CW i.zero ((.int .i32 0:TV τ).cells C)∧(.int .i32 0:TV τ).isAgg=i.agg:=⟨ti21,rfl,rfl,CW.of_eq (by kernel_rfl),rfl⟩
theorem zok22:∃ i,E.ty 22=some i∧(.agg [(.int .i64 0),(.int .i64 0)]:TV τ).ok=true∧CW i.zero ((.agg [(.int .i64 0),(.int .i64 0)]:TV τ).cells C)∧(.agg [(.int .i64 0),(.int .i64 0)]:TV τ).isAgg=i.agg:=⟨ti22,rfl,rfl,CW.of_eq (by kernel_rfl),rfl⟩
theorem zok23:∃ i,E.ty 23=some i∧(.agg [(.int .i64 0),(.int .i64 0)]:TV τ).ok=true∧CW i.zero ((.agg [(.int .i64 0),(.int .i64 0)]:TV τ).cells C)∧(.agg [(.int .i64 0),(.int .i64 0)]:TV τ).isAgg=i.agg:=⟨ti23,rfl,rfl,CW.of_eq (by kernel_rfl),rfl⟩
theorem zok24:∃ i,E.ty 24=some i∧(.agg [(.agg [(.int .i64 0),(.int .i64 0)]),(.int .i64 0),(.int .i64 0),(.int .i64 0),(.str []),(.str []),(.str [])]:TV τ).ok=true∧CW i.zero ((.agg [(.agg [(.int .i64 0),(.int .i64 0)]),(.int .i64 0),(.int .i64 0),(.int .i64 0),(.str []),(.str []),(.str [])]:TV τ).cells C)∧(.agg [(.agg [(.int .i64 0),(.int .i64 0)]),(.int .i64 0),(.int .i64 0),(.int .i64 0),(.str []),(.str []),(.str [])]:TV τ).isAgg=i.agg:=⟨ti24,rfl,rfl,CW.of_eq (by kernel_rfl),rfl⟩
theorem zok25:∃ i,E.ty 25=some i∧(.agg [(.agg [(.int .i64 0),(.int .i64 0)]),(.int .i64 0),(.int .i64 0),(.int .i64 0),(.str []),(.str []),(.str [])]:TV τ).ok=true∧CW i.zero ((.agg [(.agg [(.int .i64 0),(.int .i64 0)]),(.int .i64 0),(.int .i64 0),(.int .i64 0),(.str []),(.str []),(.str [])]:TV τ).cells C)∧(.agg [(.agg [(.int .i64 0),(.int .i64 0)]),(.int .i64 0),(.int .i64 0),(.int .i64 0),(.str []),(.str []),(.str [])]:TV τ).isAgg=i.agg:=⟨ti25,rfl,rfl,CW.of_eq (by kernel_rfl),rfl⟩
theorem zok26:∃ i,E.ty 26=some i∧(.arr 3 8 (Vector.replicate 8 (default:Int)):TV τ).ok=true∧CW i.zero ((.arr 3 8 (Vector.replicate 8 (default:Int)):TV τ).cells C)∧(.arr 3 8 (Vector.replicate 8 (default:Int)):TV τ).isAgg=i.agg:=⟨ti26,rfl,rfl,CW.of_eq (by kernel_rfl),rfl⟩
theorem zok27:∃ i,E.ty 27=some i∧(.arr 2 8 (Vector.replicate 8 (default:Int)):TV τ).ok=true∧CW i.zero ((.arr 2 8 (Vector.replicate 8 (default:Int)):TV τ).cells C)∧(.arr 2 8 (Vector.replicate 8 (default:Int)):TV τ).isAgg=i.agg:=⟨ti27,rfl,rfl,CW.of_eq (by kernel_rfl),rfl⟩
theorem zok28:∃ i,E.ty 28=some i∧(.arr 2 8 (Vector.replicate 8 (default:Int)):TV τ).ok=true∧CW i.zero ((.arr 2 8 (Vector.replicate 8 (default:Int)):TV τ).cells C)∧(.arr 2 8 (Vector.replicate 8 (default:Int)):TV τ).isAgg=i.agg:=⟨ti28,rfl,rfl,CW.of_eq (by kernel_rfl),rfl⟩
theorem zok29:∃ i,E.ty 29=some i∧(.agg [(.int .i64 0),(.arr 3 8 (Vector.replicate 8 (default:Int))),(.arr 2 8 (Vector.replicate 8 (default:Int))),(.arr 3 8 (Vector.replicate 8 (default:Int)))]:TV τ).ok=true∧CW i.zero ((.agg [(.int .i64 0),(.arr 3 8 (Vector.replicate 8 (default:Int))),(.arr 2 8 (Vector.replicate 8 (default:Int))),(.arr 3 8 (Vector.replicate 8 (default:Int)))]:TV τ).cells C)∧(.agg [(.int .i64 0),(.arr 3 8 (Vector.replicate 8 (default:Int))),(.arr 2 8 (Vector.replicate 8 (default:Int))),(.arr 3 8 (Vector.replicate 8 (default:Int)))]:TV τ).isAgg=i.agg:=⟨ti29,rfl,rfl,CW.of_eq (by kernel_rfl),rfl⟩
theorem zok30:∃ i,E.ty 30=some i∧(.agg [(.int .i64 0),(.arr 3 8 (Vector.replicate 8 (default:Int))),(.arr 2 8 (Vector.replicate 8 (default:Int))),(.arr 3 8 (Vector.replicate 8 (default:Int)))]:TV τ).ok=true∧CW i.zero ((.agg [(.int .i64 0),(.arr 3 8 (Vector.replicate 8 (default:Int))),(.arr 2 8 (Vector.replicate 8 (default:Int))),(.arr 3 8 (Vector.replicate 8 (default:Int)))]:TV τ).cells C)∧(.agg [(.int .i64 0),(.arr 3 8 (Vector.replicate 8 (default:Int))),(.arr 2 8 (Vector.replicate 8 (default:Int))),(.arr 3 8 (Vector.replicate 8 (default:Int)))]:TV τ).isAgg=i.agg:=⟨ti30,rfl,rfl,CW.of_eq (by kernel_rfl),rfl⟩
theorem zok31:∃ i,E.ty 31=some i∧(.nil .slice:TV τ).ok=true∧CW i.zero ((.nil .slice:TV τ).cells C)∧(.nil .slice:TV τ).isAgg=i.agg:=⟨ti31,rfl,rfl,CW.of_eq (by kernel_rfl),rfl⟩
theorem zok32:∃ i,E.ty 32=some i∧(.nil .ptr:TV τ).ok=true∧CW i.zero ((.nil .ptr:TV τ).cells C)∧(.nil .ptr:TV τ).isAgg=i.agg:=⟨ti32,rfl,rfl,CW.of_eq (by kernel_rfl),rfl⟩
theorem zok35:∃ i,E.ty 35=some i∧(.int .i64 0:TV τ).ok=true∧CW i.zero ((.int .i64 0:TV τ).cells C)∧(.int .i64 0:TV τ).isAgg=i.agg:=⟨ti35,rfl,rfl,CW.of_eq (by kernel_rfl),rfl⟩
theorem zok44:∃ i,E.ty 44=some i∧(.nil .ptr:TV τ).ok=true∧CW i.zero ((.nil .ptr:TV τ).cells C)∧(.nil .ptr:TV τ).isAgg=i.agg:=⟨ti44,rfl,rfl,CW.of_eq (by kernel_rfl),rfl⟩
theorem zok47:∃ i,E.ty 47=some i∧(.agg [(.nil .slice),(.int .i64 0),(.int .i64 0)]:TV τ).ok=true∧CW i.zero ((.agg [(.nil .slice),(.int .i64 0),(.int .i64 0)]:TV τ).cells C)∧(.agg [(.nil .slice),(.int .i64 0),(.int .i64 0)]:TV τ).isAgg=i.agg:=⟨ti47,rfl,rfl,CW.of_eq (by kernel_rfl),rfl⟩
theorem zok48:∃ i,E.ty 48=some i∧(.agg [(.nil .slice),(.int .i64 0),(.int .i64 0)]:TV τ).ok=true∧CW i.zero ((.agg [(.nil .slice),(.int .i64 0),(.int .i64 0)]:TV τ).cells C)∧(.agg [(.nil .slice),(.int .i64 0),(.int .i64 0)]:TV τ).isAgg=i.agg:=⟨ti48,rfl,rfl,CW.of_eq (by kernel_rfl),rfl⟩
theorem zok60:∃ i,E.ty 60=some i∧(.nil .slice:TV τ).ok=true∧CW i.zero ((.nil .slice:TV τ).cells C)∧(.nil .slice:TV τ).isAgg=i.agg:=⟨ti60,rfl,rfl,CW.of_eq (by kernel_rfl),rfl⟩
theorem zok61:∃ i,E.ty 61=some i∧(.agg [(.int .i64 0),(.int .i64 0),(.int .i64 0),(.nil .slice)]:TV τ).ok=true∧CW i.zero ((.agg [(.int .i64 0),(.int .i64 0),(.int .i64 0),(.nil .slice)]:TV τ).cells C)∧(.agg [(.int .i64 0),(.int .i64 0),(.int .i64 0),(.nil .slice)]:TV τ).isAgg=i.agg:=⟨ti61,rfl,rfl,CW.of_eq (by kernel_rfl),rfl⟩
theorem zok62:∃ i,E.ty 62=some i∧(.agg [(.int .i64 0),(.int .i64 0),(.int .i64 0),(.nil .slice)]:TV τ).ok=true∧CW i.zero ((.agg [(.int .i64 0),(.int .i64 0),(.int .i64 0),(.nil .slice)]:TV τ).cells C)∧(.agg [(.int .i64 0),(.int .i64 0),(.int .i64 0),(.nil .slice)]:TV τ).isAgg=i.agg:=⟨ti62,rfl,rfl,CW.of_eq (by kernel_rfl),rfl⟩
theorem zok63:∃ i,E.ty 63=some i∧(.agg [(.int .i64 0),(.int .i64 0),(.int .i64 0),(.agg [(.agg [(.int .i64 0),(.int .i64 0)]),(.int .i64 0),(.int .i64 0),(.int .i64 0),(.str []),(.str []),(.str [])]),(.int .i64 0),(.int .i64 0),(.nil .slice),(.agg [(.int .i64 0),(.arr 3 8 (Vector.replicate 8 (default:Int))),(.arr 2 8 (Vector.replicate 8 (default:Int))),(.arr 3 8 (Vector.replicate 8 (default:Int)))]),(.int .i64 0),(.arr 2 8 (Vector.replicate 8 (default:Int))),(.int .i64 0),(.agg [(.int .i64 0),(.int .i64 0),(.int .i64 0),(.nil .slice)]),(.int .i64 0),(.int .i64 0),(.int .i64 0)]:TV τ).ok=true∧CW i.zero ((.agg [(.int .i64 0),(.int .i64 0),(.int .i64 0),(.agg [(.agg [(.int .i64 0),(.int .i64 0)]),(.int .i64 0),(.int .i64 0),(.int .i64 0),(.str []),(.str []),(.str [])]),(.int .i64 0),(.int .i64 0),(.nil .slice),(.agg [(.int .i64 0),(.arr 3 8 (Vector.replicate 8 (default:Int))),(.arr 2 8 (Vector.replicate 8 (default:Int))),(.arr 3 8 (Vector.replicate 8 (default:Int)))]),(.int .i64 0),(.arr 2 8 (Vector.replicate 8 (default:Int))),(.int .i64 0),(.agg [(.int .i64 0),(.int .i64 0),(.int .i64 0),(.nil .slice)]),(.int .i64 0),(.int .i64 0),(.int .i64 0)]:TV τ).cells C)∧(.agg [(.int .i64 0),(.int .i64 0),(.int .i64 0),(.agg [(.agg [(.int .i64 0),(.int .i64 0)]),(.int .i64 0),(.int .i64 0),(.int .i64 0),(.str []),(.str []),(.str [])]),(.int .i64 0),(.int .i64 0),(.nil .slice),(.agg [(.int .i64 0),(.arr 3 8 (Vector.replicate 8 (default:Int))),(.arr 2 8 (Vector.replicate 8 (default:Int))),(.arr 3 8 (Vector.replicate 8 (default:Int)))]),(.int .i64 0),(.arr 2 8 (Vector.replicate 8 (default:Int))),(.int .i64 0),(.agg [(.int .i64 0),(.int .i64 0),(.int .i64 0),(.nil .slice)]),(.int .i64 0),(.int .i64 0),(.int .i64 0)]:TV τ).isAgg=i.agg:=⟨ti63,rfl,rfl,CW.of_eq (by kernel_rfl),rfl⟩
theorem zok64:∃ i,E.ty 64=some i∧(.agg [(.int .i64 0),(.int .i64 0),(.int .i64 0),(.agg [(.agg [(.int .i64 0),(.int .i64 0)]),(.int .i64 0),(.int .i64 0),(.int .i64 0),(.str []),(.str []),(.str [])]),(.int .i64 0),(.int .i64 0),(.nil .slice),(.agg [(.int .i64 0),(.arr 3 8 (Vector.replicate 8 (default:Int))),(.arr 2 8 (Vector.replicate 8 (default:Int))),(.arr 3 8 (Vector.replicate 8 (default:Int)))]),(.int .i64 0),(.arr 2 8 (Vector.replicate 8 (default:Int))),(.int .i64 0),(.agg [(.int .i64 0),(.int .i64 0),(.int .i64 0),(.nil .slice)]),(.int .i64 0),(.int .i64 0),(.int .i64 0)]:TV τ).ok=true∧CW i.zero ((.agg [(.int .i64 0),(.int .i64 0),(.int .i64 0),(.agg [(.agg [(.int .i64 0),(.int .i64 0)]),(.int .i64 0),(.int .i64 0),(.int .i64 0),(.str []),(.str []),(.str [])]),(.int .i64 0),(.int .i64 0),(.nil .slice),(.agg [(.int .i64 0),(.arr 3 8 (Vector.replicate 8 (default:Int))),(.arr 2 8 (Vector.replicate 8 (default:Int))),(.arr 3 8 (Vector.replicate 8 (default:Int)))]),(.int .i64 0),(.arr 2 8 (Vector.replicate 8 (default:Int))),(.int .i64 0),(.agg [(.int .i64 0),(.int .i64 0),(.int .i64 0),(.nil .slice)]),(.int .i64 0),(.int .i64 0),(.int .i64 0)]:TV τ).cells C)∧(.agg [(.int .i64 0),(.int .i64 0),(.int .i64 0),(.agg [(.agg [(.int .i64 0),(.int .i64 0)]),(.int .i64 0),(.int .i64 0),(.int .i64 0),(.str []),(.str []),(.str [])]),(.int .i64 0),(.int .i64 0),(.nil .slice),(.agg [(.int .i64 0),(.arr 3 8 (Vector.replicate 8 (default:Int))),(.arr 2 8 (Vector.replicate 8 (default:Int))),(.arr 3 8 (Vector.replicate 8 (default:Int)))]),(.int .i64 0),(.arr 2 8 (Vector.replicate 8 (default:Int))),(.int .i64 0),(.agg [(.int .i64 0),(.int .i64 0),(.int .i64 0),(.nil .slice)]),(.int .i64 0),(.int .i64 0),(.int .i64 0)]:TV τ).isAgg=i.agg:=⟨ti64,rfl,rfl,CW.of_eq (by kernel_rfl),rfl⟩
theorem zok65:∃ i,E.ty 65=some i∧(.agg [(.int .i64 0),(.int .i64 0)]:TV τ).ok=true∧CW i.zero ((.agg [(.int .i64 0),(.int .i64 0)]:TV τ).cells C)∧(.agg [(.int .i64 0),(.int .i64 0)]:TV τ).isAgg=i.agg:=⟨ti65,rfl,rfl,CW.of_eq (by kernel_rfl),rfl⟩
theorem zok66:∃ i,E.ty 66=some i∧(.agg [(.int .i64 0),(.int .i64 0)]:TV τ).ok=true∧CW i.zero ((.agg [(.int .i64 0),(.int .i64 0)]:TV τ).cells C)∧(.agg [(.int .i64 0),(.int .i64 0)]:TV τ).isAgg=i.agg:=⟨ti66,rfl,rfl,CW.of_eq (by kernel_rfl),rfl⟩
theorem zok67:∃ i,E.ty 67=some i∧(.agg [(.int .i64 0),(.int .i64 0)]:TV τ).ok=true∧CW i.zero ((.agg [(.int .i64 0),(.int .i64 0)]:TV τ).cells C)∧(.agg [(.int .i64 0),(.int .i64 0)]:TV τ).isAgg=i.agg:=⟨ti67,rfl,rfl,CW.of_eq (by kernel_rfl),rfl⟩
theorem zok68:∃ i,E.ty 68=some i∧(.agg [(.int .i64 0),(.int .i64 0)]:TV τ).ok=true∧CW i.zero ((.agg [(.int .i64 0),(.int .i64 0)]:TV τ).cells C)∧(.agg [(.int .i64 0),(.int .i64 0)]:TV τ).isAgg=i.agg:=⟨ti68,rfl,rfl,CW.of_eq (by kernel_rfl),rfl⟩
theorem zok69:∃ i,E.ty 69=some i∧(.nil .slice:TV τ).ok=true∧CW i.zero ((.nil .slice:TV τ).cells C)∧(.nil .slice:TV τ).isAgg=i.agg:=⟨ti69,rfl,rfl,CW.of_eq (by kernel_rfl),rfl⟩
theorem zok70:∃ i,E.ty 70=some i∧(.agg [(.int .i64 0),(.agg [(.int .i64 0),(.int .i64 0)]),(.agg [(.int .i64 0),(.int .i64 0)]),(.agg [(.int .i64 0),(.int .i64 0)]),(.int .i64 0),(.nil .slice),(.agg [(.int .i64 0),(.int .i64 0),(.int .i64 0),(.agg [(.agg [(.int .i64 0),(.int .i64 0)]),(.int .i64 0),(.int .i64 0),(.int .i64 0),(.str []),(.str []),(.str [])]),(.int .i64 0),(.int .i64 0),(.nil .slice),(.agg [(.int .i64 0),(.arr 3 8 (Vector.replicate 8 (default:Int))),(.arr 2 8 (Vector.replicate 8 (default:Int))),(.arr 3 8 (Vector.replicate 8 (default:Int)))]),(.int .i64 0),(.arr 2 8 (Vector.replicate 8 (default:Int))),(.int .i64 0),(.agg [(.int .i64 0),(.int .i64 0),(.int .i64 0),(.nil .slice)]),(.int .i64 0),(.int .i64 0),(.int .i64 0)]),(.int .i64 0),(.arr 2 8 (Vector.replicate 8 (default:Int))),(.int .i64 0),(.int .i64 0),(.nil .slice),(.agg [(.int .i64 0),(.arr 3 8 (Vector.replicate 8 (default:Int))),(.arr 2 8 (Vector.replicate 8 (default:Int))),(.arr 3 8 (Vector.replicate 8 (default:Int)))]),(.agg [(.int .i64 0),(.int .i64 0),(.int .i64 0),(.nil .slice)])]:TV τ).ok=true∧CW i.zero ((.agg [(.int .i64 0),(.agg [(.int .i64 0),(.int .i64 0)]),(.agg [(.int .i64 0),(.int .i64 0)]),(.agg [(.int .i64 0),(.int .i64 0)]),(.int .i64 0),(.nil .slice),(.agg [(.int .i64 0),(.int .i64 0),(.int .i64 0),(.agg [(.agg [(.int .i64 0),(.int .i64 0)]),(.int .i64 0),(.int .i64 0),(.int .i64 0),(.str []),(.str []),(.str [])]),(.int .i64 0),(.int .i64 0),(.nil .slice),(.agg [(.int .i64 0),(.arr 3 8 (Vector.replicate 8 (default:Int))),(.arr 2 8 (Vector.replicate 8 (default:Int))),(.arr 3 8 (Vector.replicate 8 (default:Int)))]),(.int .i64 0),(.arr 2 8 (Vector.replicate 8 (default:Int))),(.int .i64 0),(.agg [(.int .i64 0),(.int .i64 0),(.int .i64 0),(.nil .slice)]),(.int .i64 0),(.int .i64 0),(.int .i64 0)]),(.int .i64 0),(.arr 2 8 (Vector.replicate 8 (default:Int))),(.int .i64 0),(.int .i64 0),(.nil .slice),(.agg [(.int .i64 0),(.arr 3 8 (Vector.replicate 8 (default:Int))),(.arr 2 8 (Vector.replicate 8 (default:Int))),(.arr 3 8 (Vector.replicate 8 (default:Int)))]),(.agg [(.int .i64 0),(.int .i64 0),(.int .i64 0),(.nil .slice)])]:TV τ).cells C)∧(.agg [(.int .i64 0),(.agg [(.int .i64 0),(.int .i64 0)]),(.agg [(.int .i64 0),(.int .i64 0)]),(.agg [(.int .i64 0),(.int .i64 0)]),(.int .i64 0),(.nil .slice),(.agg [(.int .i64 0),(.int .i64 0),(.int .i64 0),(.agg [(.agg [(.int .i64 0),(.int .i64 0)]),(.int .i64 0),(.int .i64 0),(.int .i64 0),(.str []),(.str []),(.str [])]),(.int .i64 0),(.int .i64 0),(.nil .slice),(.agg [(.int .i64 0),(.arr 3 8 (Vector.replicate 8 (default:Int))),(.arr 2 8 (Vector.replicate 8 (default:Int))),(.arr 3 8 (Vector.replicate 8 (default:Int)))]),(.int .i64 0),(.arr 2 8 (Vector.replicate 8 (default:Int))),(.int .i64 0),(.agg [(.int .i64 0),(.int .i64 0),(.int .i64 0),(.nil .slice)]),(.int .i64 0),(.int .i64 0),(.int .i64 0)]),(.int .i64 0),(.arr 2 8 (Vector.replicate 8 (default:Int))),(.int .i64 0),(.int .i64 0),(.nil .slice),(.agg [(.int .i64 0),(.arr 3 8 (Vector.replicate 8 (default:Int))),(.arr 2 8 (Vector.replicate 8 (default:Int))),(.arr 3 8 (Vector.replicate 8 (default:Int)))]),(.agg [(.int .i64 0),(.int .i64 0),(.int .i64 0),(.nil .slice)])]:TV τ).isAgg=i.agg:=⟨ti70,rfl,rfl,CW.of_eq (by kernel_rfl),rfl⟩
theorem zok71:∃ i,E.ty 71=some i∧(.agg [(.int .i64 0),(.agg [(.int .i64 0),(.int .i64 0)]),(.agg [(.int .i64 0),(.int .i64 0)]),(.agg [(.int .i64 0),(.int .i64 0)]),(.int .i64 0),(.nil .slice),(.agg [(.int .i64 0),(.int .i64 0),(.int .i64 0),(.agg [(.agg [(.int .i64 0),(.int .i64 0)]),(.int .i64 0),(.int .i64 0),(.int .i64 0),(.str []),(.str []),(.str [])]),(.int .i64 0),(.int .i64 0),(.nil .slice),(.agg [(.int .i64 0),(.arr 3 8 (Vector.replicate 8 (default:Int))),(.arr 2 8 (Vector.replicate 8 (default:Int))),(.arr 3 8 (Vector.replicate 8 (default:Int)))]),(.int .i64 0),(.arr 2 8 (Vector.replicate 8 (default:Int))),(.int .i64 0),(.agg [(.int .i64 0),(.int .i64 0),(.int .i64 0),(.nil .slice)]),(.int .i64 0),(.int .i64 0),(.int .i64 0)]),(.int .i64 0),(.arr 2 8 (Vector.replicate 8 (default:Int))),(.int .i64 0),(.int .i64 0),(.nil .slice),(.agg [(.int .i64 0),(.arr 3 8 (Vector.replicate 8 (default:Int))),(.arr 2 8 (Vector.replicate 8 (default:Int))),(.arr 3 8 (Vector.replicate 8 (default:Int)))]),(.agg [(.int .i64 0),(.int .i64 0),(.int .i64 0),(.nil .slice)])]:TV τ).ok=true∧CW i.zero ((.agg [(.int .i64 0),(.agg [(.int .i64 0),(.int .i64 0)]),(.agg [(.int .i64 0),(.int .i64 0)]),(.agg [(.int .i64 0),(.int .i64 0)]),(.int .i64 0),(.nil .slice),(.agg [(.int .i64 0),(.int .i64 0),(.int .i64 0),(.agg [(.agg [(.int .i64 0),(.int .i64 0)]),(.int .i64 0),(.int .i64 0),(.int .i64 0),(.str []),(.str []),(.str [])]),(.int .i64 0),(.int .i64 0),(.nil .slice),(.agg [(.int .i64 0),(.arr 3 8 (Vector.replicate 8 (default:Int))),(.arr 2 8 (Vector.replicate 8 (default:Int))),(.arr 3 8 (Vector.replicate 8 (default:Int)))]),(.int .i64 0),(.arr 2 8 (Vector.replicate 8 (default:Int))),(.int .i64 0),(.agg [(.int .i64 0),(.int .i64 0),(.int .i64 0),(.nil .slice)]),(.int .i64 0),(.int .i64 0),(.int .i64 0)]),(.int .i64 0),(.arr 2 8 (Vector.replicate 8 (default:Int))),(.int .i64 0),(.int .i64 0),(.nil .slice),(.agg [(.int .i64 0),(.arr 3 8 (Vector.replicate 8 (default:Int))),(.arr 2 8 (Vector.replicate 8 (default:Int))),(.arr 3 8 (Vector.replicate 8 (default:Int)))]),(.agg [(.int .i64 0),(.int .i64 0),(.int .i64 0),(.nil .slice)])]:TV τ).cells C)∧(.agg [(.int .i64 0),(.agg [(.int .i64 0),(.int .i64 0)]),(.agg [(.int .i64 0),(.int .i64 0)]),(.agg [(.int .i64 0),(.int .i64 0)]),(.int .i64 0),(.nil .slice),(.agg [(.int .i64 0),(.int .i64 0),(.int .i64 0),(.agg [(.agg [(.int .i64 0),(.int .i64 0)]),(.int .i64 0),(.int .i64 0),(.int .i64 0),(.str []),(.str []),(.str [])]),(.int .i64 0),(.int .i64 0),(.nil .slice),(.agg [(.int .i64 0),(.arr 3 8 (Vector.replicate 8 (default:Int))),(.arr 2 8 (Vector.replicate 8 (default:Int))),(.arr 3 8 (Vector.replicate 8 (default:Int)))]),(.int .i64 0),(.arr 2 8 (Vector.replicate 8 (default:Int))),(.int .i64 0),(.agg [(.int .i64 0),(.int .i64 0),(.int .i64 0),(.nil .slice)]),(.int .i64 0),(.int .i64 0),(.int .i64 0)]),(.int .i64 0),(.arr 2 8 (Vector.replicate 8 (default:Int))),(.int .i64 0),(.int .i64 0),(.nil .slice),(.agg [(.int .i64 0),(.arr 3 8 (Vector.replicate 8 (default:Int))),(.arr 2 8 (Vector.replicate 8 (default:Int))),(.arr 3 8 (Vector.replicate 8 (default:Int)))]),(.agg [(.int .i64 0),(.int .i64 0),(.int .i64 0),(.nil .slice)])]:TV τ).isAgg=i.agg:=⟨ti71,rfl,rfl,CW.of_eq (by kernel_rfl),rfl⟩
theorem zok86:∃ i,E.ty 86=some i∧(.agg [(.bool false),(.nil .slice)]:TV τ).ok=true∧CW i.zero ((.agg [(.bool false),(.nil .slice)]:TV τ).cells C)∧(.agg [(.bool false),(.nil .slice)]:TV τ).isAgg=i.agg:=⟨ti86,rfl,rfl,CW.of_eq (by kernel_rfl),rfl⟩
theorem zok87:∃ i,E.ty 87=some i∧(.agg [(.bool false),(.nil .slice)]:TV τ).ok=true∧CW i.zero ((.agg [(.bool false),(.nil .slice)]:TV τ).cells C)∧(.agg [(.bool false),(.nil .slice)]:TV τ).isAgg=i.agg:=⟨ti87,rfl,rfl,CW.of_eq (by kernel_rfl),rfl⟩
theorem zok99:∃ i,E.ty 99=some i∧(.agg [(.bool false),(.nil .slice)]:TV τ).ok=true∧CW i.zero ((.agg [(.bool false),(.nil .slice)]:TV τ).cells C)∧(.agg [(.bool false),(.nil .slice)]:TV τ).isAgg=i.agg:=⟨ti99,rfl,rfl,CW.of_eq (by kernel_rfl),rfl⟩
theorem zok111:∃ i,E.ty 111=some i∧(.agg [(.nil .ptr),(.int .i64 0)]:TV τ).ok=true∧CW i.zero ((.agg [(.nil .ptr),(.int .i64 0)]:TV τ).cells C)∧(.agg [(.nil .ptr),(.int .i64 0)]:TV τ).isAgg=i.agg:=⟨ti111,rfl,rfl,CW.of_eq (by kernel_rfl),rfl⟩
theorem zok119:∃ i,E.ty 119=some i∧(.agg [(.nil .ptr),(.int .i64 0)]:TV τ).ok=true∧CW i.zero ((.agg [(.nil .ptr),(.int .i64 0)]:TV τ).cells C)∧(.agg [(.nil .ptr),(.int .i64 0)]:TV τ).isAgg=i.agg:=⟨ti119,rfl,rfl,CW.of_eq (by kernel_rfl),rfl⟩
theorem zok143:∃ i,E.ty 143=some i∧(.nil .slice:TV τ).ok=true∧CW i.zero ((.nil .slice:TV τ).cells C)∧(.nil .slice:TV τ).isAgg=i.agg:=⟨ti143,rfl,rfl,CW.of_eq (by kernel_rfl),rfl⟩
theorem zok145:∃ i,E.ty 145=some i∧(.nil .slice:TV τ).ok=true∧CW i.zero ((.nil .slice:TV τ).cells C)∧(.nil .slice:TV τ).isAgg=i.agg:=⟨ti145,rfl,rfl,CW.of_eq (by kernel_rfl),rfl⟩
theorem zok147:∃ i,E.ty 147=some i∧(.nil .ptr:TV τ).ok=true∧CW i.zero ((.nil .ptr:TV τ).cells C)∧(.nil .ptr:TV τ).isAgg=i.agg:=⟨ti147,rfl,rfl,CW.of_eq (by kernel_rfl),rfl⟩
theorem zok149:∃ i,E.ty 149=some i∧(.nil .ptr:TV τ).ok=true∧CW i.zero ((.nil .ptr:TV τ).cells C)∧(.nil .ptr:TV τ).isAgg=i.agg:=⟨ti149,rfl,rfl,CW.of_eq (by kernel_rfl),rfl⟩
theorem zok167:∃ i,E.ty 167=some i∧(.int .u32 0:TV τ).ok=true∧CW i.zero ((.int .u32 0:TV τ).cells C)∧(.int .u32 0:TV τ).isAgg=i.agg:=⟨ti167,rfl,rfl,CW.of_eq (by kernel_rfl),rfl⟩
theorem zok171:∃ i,E.ty 171=some i∧(.int .u64 0:TV τ).ok=true∧CW i.zero ((.int .u64 0:TV τ).cells C)∧(.int .u64 0:TV τ).isAgg=i.agg:=⟨ti171,rfl,rfl,CW.of_eq (by kernel_rfl),rfl⟩
theorem zok177:∃ i,E.ty 177=some i∧(.agg [(.int .i64 0),(.agg [(.int .i64 0),(.int .i64 0)]),(.agg [(.int .i64 0),(.int .i64 0),(.int .i64 0),(.agg [(.agg [(.int .i64 0),(.int .i64 0)]),(.int .i64 0),(.int .i64 0),(.int .i64 0),(.str []),(.str []),(.str [])]),(.int .i64 0),(.int .i64 0),(.nil .slice),(.agg [(.int .i64 0),(.arr 3 8 (Vector.replicate 8 (default:Int))),(.arr 2 8 (Vector.replicate 8 (default:Int))),(.arr 3 8 (Vector.replicate 8 (default:Int)))]),(.int .i64 0),(.arr 2 8 (Vector.replicate 8 (default:Int))),(.int .i64 0),(.agg [(.int .i64 0),(.int .i64 0),(.int .i64 0),(.nil .slice)]),(.int .i64 0),(.int .i64 0),(.int .i64 0)])]:TV τ).ok=true∧CW i.zero ((.agg [(.int .i64 0),(.agg [(.int .i64 0),(.int .i64 0)]),(.agg [(.int .i64 0),(.int .i64 0),(.int .i64 0),(.agg [(.agg [(.int .i64 0),(.int .i64 0)]),(.int .i64 0),(.int .i64 0),(.int .i64 0),(.str []),(.str []),(.str [])]),(.int .i64 0),(.int .i64 0),(.nil .slice),(.agg [(.int .i64 0),(.arr 3 8 (Vector.replicate 8 (default:Int))),(.arr 2 8 (Vector.replicate 8 (default:Int))),(.arr 3 8 (Vector.replicate 8 (default:Int)))]),(.int .i64 0),(.arr 2 8 (Vector.replicate 8 (default:Int))),(.int .i64 0),(.agg [(.int .i64 0),(.int .i64 0),(.int .i64 0),(.nil .slice)]),(.int .i64 0),(.int .i64 0),(.int .i64 0)])]:TV τ).cells C)∧(.agg [(.int .i64 0),(.agg [(.int .i64 0),(.int .i64 0)]),(.agg [(.int .i64 0),(.int .i64 0),(.int .i64 0),(.agg [(.agg [(.int .i64 0),(.int .i64 0)]),(.int .i64 0),(.int .i64 0),(.int .i64 0),(.str []),(.str []),(.str [])]),(.int .i64 0),(.int .i64 0),(.nil .slice),(.agg [(.int .i64 0),(.arr 3 8 (Vector.replicate 8 (default:Int))),(.arr 2 8 (Vector.replicate 8 (default:Int))),(.arr 3 8 (Vector.replicate 8 (default:Int)))]),(.int .i64 0),(.arr 2 8 (Vector.replicate 8 (default:Int))),(.int .i64 0),(.agg [(.int .i64 0),(.int .i64 0),(.int .i64 0),(.nil .slice)]),(.int .i64 0),(.int .i64 0),(.int .i64 0)])]:TV τ).isAgg=i.agg:=⟨ti177,rfl,rfl,CW.of_eq (by kernel_rfl),rfl⟩
theorem zok178:∃ i,E.ty 178=some i∧(.agg [(.int .i64 0),(.agg [(.int .i64 0),(.int .i64 0)]),(.agg [(.int .i64 0),(.int .i64 0),(.int .i64 0),(.agg [(.agg [(.int .i64 0),(.int .i64 0)]),(.int .i64 0),(.int .i64 0),(.int .i64 0),(.str []),(.str []),(.str [])]),(.int .i64 0),(.int .i64 0),(.nil .slice),(.agg [(.int .i64 0),(.arr 3 8 (Vector.replicate 8 (default:Int))),(.arr 2 8 (Vector.replicate 8 (default:Int))),(.arr 3 8 (Vector.replicate 8 (default:Int)))]),(.int .i64 0),(.arr 2 8 (Vector.replicate 8 (default:Int))),(.int .i64 0),(.agg [(.int .i64 0),(.int .i64 0),(.int .i64 0),(.nil .slice)]),(.int .i64 0),(.int .i64 0),(.int .i64 0)])]:TV τ).ok=true∧CW i.zero ((.agg [(.int .i64 0),(.agg [(.int .i64 0),(.int .i64 0)]),(.agg [(.int .i64 0),(.int .i64 0),(.int .i64 0),(.agg [(.agg [(.int .i64 0),(.int .i64 0)]),(.int .i64 0),(.int .i64 0),(.int .i64 0),(.str []),(.str []),(.str [])]),(.int .i64 0),(.int .i64 0),(.nil .slice),(.agg [(.int .i64 0),(.arr 3 8 (Vector.replicate 8 (default:Int))),(.arr 2 8 (Vector.replicate 8 (default:Int))),(.arr 3 8 (Vector.replicate 8 (default:Int)))]),(.int .i64 0),(.arr 2 8 (Vector.replicate 8 (default:Int))),(.int .i64 0),(.agg [(.int .i64 0),(.int .i64 0),(.int .i64 0),(.nil .slice)]),(.int .i64 0),(.int .i64 0),(.int .i64 0)])]:TV τ).cells C)∧(.agg [(.int .i64 0),(.agg [(.int .i64 0),(.int .i64 0)]),(.agg [(.int .i64 0),(.int .i64 0),(.int .i64 0),(.agg [(.agg [(.int .i64 0),(.int .i64 0)]),(.int .i64 0),(.int .i64 0),(.int .i64 0),(.str []),(.str []),(.str [])]),(.int .i64 0),(.int .i64 0),(.nil .slice),(.agg [(.int .i64 0),(.arr 3 8 (Vector.replicate 8 (default:Int))),(.arr 2 8 (Vector.replicate 8 (default:Int))),(.arr 3 8 (Vector.replicate 8 (default:Int)))]),(.int .i64 0),(.arr 2 8 (Vector.replicate 8 (default:Int))),(.int .i64 0),(.agg [(.int .i64 0),(.int .i64 0),(.int .i64 0),(.nil .slice)]),(.int .i64 0),(.int .i64 0),(.int .i64 0)])]:TV τ).isAgg=i.agg:=⟨ti178,rfl,rfl,CW.of_eq (by kernel_rfl),rfl⟩
theorem zok181:∃ i,E.ty 181=some i∧(.nil .slice:TV τ).ok=true∧CW i.zero ((.nil .slice:TV τ).cells C)∧(.nil .slice:TV τ).isAgg=i.agg:=⟨ti181,rfl,rfl,CW.of_eq (by kernel_rfl),rfl⟩
theorem zok183:∃ i,E.ty 183=some i∧(.int .u64 0:TV τ).ok=true∧CW i.zero ((.int .u64 0:TV τ).cells C)∧(.int .u64 0:TV τ).isAgg=i.agg:=⟨ti183,rfl,rfl,CW.of_eq (by kernel_rfl),rfl⟩
theorem zok184:∃ i,E.ty 184=some i∧(.nil .slice:TV τ).ok=true∧CW i.zero ((.nil .slice:TV τ).cells C)∧(.nil .slice:TV τ).isAgg=i.agg:=⟨ti184,rfl,rfl,CW.of_eq (by kernel_rfl),rfl⟩
theorem zok185:∃ i,E.ty 185=some i∧(.nil .slice:TV τ).ok=true∧CW i.zero ((.nil .slice:TV τ).cells C)∧(.nil .slice:TV τ).isAgg=i.agg:=⟨ti185,rfl,rfl,CW.of_eq (by kernel_rfl),rfl⟩
theorem zok190:∃ i,E.ty 190=some i∧(.nil .slice:TV τ).ok=true∧CW i.zero ((.nil .slice:TV τ).cells C)∧(.nil .slice:TV τ).isAgg=i.agg:=⟨ti190,rfl,rfl,CW.of_eq (by kernel_rfl),rfl⟩
theorem zok194:∃ i,E.ty 194=some i∧(.nil .slice:TV τ).ok=true∧CW i.zero ((.nil .slice:TV τ).cells C)∧(.nil .slice:TV τ).isAgg=i.agg:=⟨ti194,rfl,rfl,CW.of_eq (by kernel_rfl),rfl⟩
noncomputable def D0:TEnv τ:=⟨E,C,zeroT⟩
theorem zeroOk:∀ t x,zeroT t=some x→∃ i,E.ty t=some i∧x.ok=true∧CW i.zero (x.cells C)∧x.isAgg=i.agg:=by
  intro t x h
  unfold zeroT at h
  split at h <;> first
    | (cases h; first | exact zok2 | exact zok3 | exact zok4 | exact zok5 | exact zok9 | exact zok12 | exact zok21 | exact zok22 | exact zok23 | exact zok24 | exact zok25 | exact zok26 | exact zok27 | exact zok28 | exact zok29 | exact zok30 | exact zok31 | exact zok32 | exact zok35 | exact zok44 | exact zok47 | exact zok48 | exact zok60 | exact zok61 | exact zok62 | exact zok63 | exact zok64 | exact zok65 | exact zok66 | exact zok67 | exact zok68 | exact zok69 | exact zok70 | exact zok71 | exact zok86 | exact zok87 | exact zok99 | exact zok111 | exact zok119 | exact zok143 | exact zok145 | exact zok147 | exact zok149 | exact zok167 | exact zok171 | exact zok177 | exact zok178 | exact zok181 | exact zok183 | exact zok184 | exact zok185 | exact zok190 | exact zok194)
    | cases h
theorem d0Ok:D0.Ok:=⟨eOk,eEq,cOk,zeroOk⟩
end Go.Proofs.YteinehkdjkobnaaGreat
