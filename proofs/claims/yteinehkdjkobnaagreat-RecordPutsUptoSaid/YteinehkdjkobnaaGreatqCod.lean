/-
The types of this seat's program, as the evaluator asks them, and how their data are told. Written by wip/tools/gen2.py.
-/
import Derived.Test.YteinehkdjkobnaaGreatProg
import Derived.Test.YteinehkdjkobnaaGreatqTvR
import Derived.KernelRfl
set_option linter.unusedVariables false
set_option linter.unusedSimpArgs false
set_option maxHeartbeats 8000000
set_option maxRecDepth 100000
namespace Go.Proofs.YteinehkdjkobnaaGreat
open Go Go.Ev
def ti1 : TI := ⟨.func #[] #[] false, 1, 8, [.v .nilFunc]⟩
def ti2 : TI := ⟨.int .i64, 1, 8, [.v (.int .i64 0)]⟩
def ti3 : TI := ⟨.int .i64, 1, 8, [.v (.int .i64 0)]⟩
def ti4 : TI := ⟨.bool, 1, 1, [.v (.bool false)]⟩
def ti5 : TI := ⟨.int .u8, 1, 1, [.v (.int .u8 0)]⟩
def ti9 : TI := ⟨.string, 1, 16, [.v (.string ⟨#[]⟩)]⟩
def ti12 : TI := ⟨.int .u64, 1, 8, [.v (.int .u64 0)]⟩
def ti17 : TI := ⟨.pointer 215, 1, 8, [.v (.pointer none)]⟩
def ti21 : TI := ⟨.int .i32, 1, 4, [.v (.int .i32 0)]⟩
def ti22 : TI := ⟨.struct #[⟨ "Time", 2, 0, false, "", "", 0⟩, ⟨ "Site", 3, 1, false, "", "", 8⟩], 2, 16, [.v (.int .i64 0), .v (.int .i64 0)]⟩
def ti23 : TI := ⟨.struct #[⟨ "Time", 2, 0, false, "", "", 0⟩, ⟨ "Site", 3, 1, false, "", "", 8⟩], 2, 16, [.v (.int .i64 0), .v (.int .i64 0)]⟩
def ti24 : TI := ⟨.struct #[⟨ "Stamp", 23, 0, false, "", "", 0⟩, ⟨ "Kind", 3, 2, false, "", "", 16⟩, ⟨ "Node", 2, 3, false, "", "", 24⟩, ⟨ "Parent", 2, 4, false, "", "", 32⟩, ⟨ "Name", 9, 5, false, "", "", 40⟩, ⟨ "Key", 9, 6, false, "", "", 56⟩, ⟨ "Value", 9, 7, false, "", "", 72⟩], 8, 88, [.v (.int .i64 0), .v (.int .i64 0), .v (.int .i64 0), .v (.int .i64 0), .v (.int .i64 0), .v (.string ⟨#[]⟩), .v (.string ⟨#[]⟩), .v (.string ⟨#[]⟩)]⟩
def ti25 : TI := ⟨.struct #[⟨ "Stamp", 23, 0, false, "", "", 0⟩, ⟨ "Kind", 3, 2, false, "", "", 16⟩, ⟨ "Node", 2, 3, false, "", "", 24⟩, ⟨ "Parent", 2, 4, false, "", "", 32⟩, ⟨ "Name", 9, 5, false, "", "", 40⟩, ⟨ "Key", 9, 6, false, "", "", 56⟩, ⟨ "Value", 9, 7, false, "", "", 72⟩], 8, 88, [.v (.int .i64 0), .v (.int .i64 0), .v (.int .i64 0), .v (.int .i64 0), .v (.int .i64 0), .v (.string ⟨#[]⟩), .v (.string ⟨#[]⟩), .v (.string ⟨#[]⟩)]⟩
def ti26 : TI := ⟨.array 8 3, 8, 64, [.v (.int .i64 0), .v (.int .i64 0), .v (.int .i64 0), .v (.int .i64 0), .v (.int .i64 0), .v (.int .i64 0), .v (.int .i64 0), .v (.int .i64 0)]⟩
def ti27 : TI := ⟨.array 8 2, 8, 64, [.v (.int .i64 0), .v (.int .i64 0), .v (.int .i64 0), .v (.int .i64 0), .v (.int .i64 0), .v (.int .i64 0), .v (.int .i64 0), .v (.int .i64 0)]⟩
def ti28 : TI := ⟨.array 8 2, 8, 64, [.v (.int .i64 0), .v (.int .i64 0), .v (.int .i64 0), .v (.int .i64 0), .v (.int .i64 0), .v (.int .i64 0), .v (.int .i64 0), .v (.int .i64 0)]⟩
def ti29 : TI := ⟨.struct #[⟨ "Number", 2, 0, false, "", "", 0⟩, ⟨ "States", 26, 1, false, "", "", 8⟩, ⟨ "Seals", 28, 9, false, "", "", 72⟩, ⟨ "Sponsor", 26, 17, false, "", "", 136⟩], 25, 200, [.v (.int .i64 0), .v (.int .i64 0), .v (.int .i64 0), .v (.int .i64 0), .v (.int .i64 0), .v (.int .i64 0), .v (.int .i64 0), .v (.int .i64 0), .v (.int .i64 0), .v (.int .i64 0), .v (.int .i64 0), .v (.int .i64 0), .v (.int .i64 0), .v (.int .i64 0), .v (.int .i64 0), .v (.int .i64 0), .v (.int .i64 0), .v (.int .i64 0), .v (.int .i64 0), .v (.int .i64 0), .v (.int .i64 0), .v (.int .i64 0), .v (.int .i64 0), .v (.int .i64 0), .v (.int .i64 0)]⟩
def ti30 : TI := ⟨.struct #[⟨ "Number", 2, 0, false, "", "", 0⟩, ⟨ "States", 26, 1, false, "", "", 8⟩, ⟨ "Seals", 28, 9, false, "", "", 72⟩, ⟨ "Sponsor", 26, 17, false, "", "", 136⟩], 25, 200, [.v (.int .i64 0), .v (.int .i64 0), .v (.int .i64 0), .v (.int .i64 0), .v (.int .i64 0), .v (.int .i64 0), .v (.int .i64 0), .v (.int .i64 0), .v (.int .i64 0), .v (.int .i64 0), .v (.int .i64 0), .v (.int .i64 0), .v (.int .i64 0), .v (.int .i64 0), .v (.int .i64 0), .v (.int .i64 0), .v (.int .i64 0), .v (.int .i64 0), .v (.int .i64 0), .v (.int .i64 0), .v (.int .i64 0), .v (.int .i64 0), .v (.int .i64 0), .v (.int .i64 0), .v (.int .i64 0)]⟩
def ti31 : TI := ⟨.slice 5, 1, 24, [.v (.slice none 0 0)]⟩
def ti32 : TI := ⟨.pointer 87, 1, 8, [.v (.pointer none)]⟩
def ti33 : TI := ⟨.func #[] #[32] false, 1, 8, [.v .nilFunc]⟩
def ti34 : TI := ⟨.func #[] #[4] false, 1, 8, [.v .nilFunc]⟩
def ti35 : TI := ⟨.int .i64, 1, 8, [.v (.int .i64 0)]⟩
def ti36 : TI := ⟨.func #[32, 25] #[35] false, 1, 8, [.v .nilFunc]⟩
def ti37 : TI := ⟨.func #[25] #[35] false, 1, 8, [.v .nilFunc]⟩
def ti38 : TI := ⟨.func #[25] #[31] false, 1, 8, [.v .nilFunc]⟩
def ti39 : TI := ⟨.func #[32, 30] #[35] false, 1, 8, [.v .nilFunc]⟩
def ti40 : TI := ⟨.func #[30] #[35] false, 1, 8, [.v .nilFunc]⟩
def ti41 : TI := ⟨.func #[30] #[31] false, 1, 8, [.v .nilFunc]⟩
def ti42 : TI := ⟨.func #[31, 31] #[4] false, 1, 8, [.v .nilFunc]⟩
def ti43 : TI := ⟨.func #[] #[31] false, 1, 8, [.v .nilFunc]⟩
def ti44 : TI := ⟨.pointer 99, 1, 8, [.v (.pointer none)]⟩
def ti45 : TI := ⟨.func #[31] #[44] false, 1, 8, [.v .nilFunc]⟩
def ti46 : TI := ⟨.pointer 48, 1, 8, [.v (.pointer none)]⟩
def ti47 : TI := ⟨.struct #[⟨ "B", 31, 0, false, "", "", 0⟩, ⟨ "At", 3, 1, false, "", "", 24⟩, ⟨ "E", 35, 2, false, "", "", 32⟩], 3, 40, [.v (.slice none 0 0), .v (.int .i64 0), .v (.int .i64 0)]⟩
def ti48 : TI := ⟨.struct #[⟨ "B", 31, 0, false, "", "", 0⟩, ⟨ "At", 3, 1, false, "", "", 24⟩, ⟨ "E", 35, 2, false, "", "", 32⟩], 3, 40, [.v (.slice none 0 0), .v (.int .i64 0), .v (.int .i64 0)]⟩
def ti50 : TI := ⟨.func #[44] #[25, 35] false, 1, 8, [.v .nilFunc]⟩
def ti51 : TI := ⟨.func #[] #[25] false, 1, 8, [.v .nilFunc]⟩
def ti52 : TI := ⟨.func #[46, 4] #[35] false, 1, 8, [.v .nilFunc]⟩
def ti53 : TI := ⟨.func #[25] #[4] false, 1, 8, [.v .nilFunc]⟩
def ti55 : TI := ⟨.func #[44] #[30, 35] false, 1, 8, [.v .nilFunc]⟩
def ti56 : TI := ⟨.func #[] #[30] false, 1, 8, [.v .nilFunc]⟩
def ti57 : TI := ⟨.func #[30] #[4] false, 1, 8, [.v .nilFunc]⟩
def ti58 : TI := ⟨.func #[] #[3] false, 1, 8, [.v .nilFunc]⟩
def ti59 : TI := ⟨.func #[25, 30, 31] #[4] false, 1, 8, [.v .nilFunc]⟩
def ti60 : TI := ⟨.slice 25, 1, 24, [.v (.slice none 0 0)]⟩
def ti61 : TI := ⟨.struct #[⟨ "Snap", 2, 0, false, "", "", 0⟩, ⟨ "Index", 3, 1, false, "", "", 8⟩, ⟨ "Many", 3, 2, false, "", "", 16⟩, ⟨ "Data", 31, 3, false, "", "", 24⟩], 4, 48, [.v (.int .i64 0), .v (.int .i64 0), .v (.int .i64 0), .v (.slice none 0 0)]⟩
def ti62 : TI := ⟨.struct #[⟨ "Snap", 2, 0, false, "", "", 0⟩, ⟨ "Index", 3, 1, false, "", "", 8⟩, ⟨ "Many", 3, 2, false, "", "", 16⟩, ⟨ "Data", 31, 3, false, "", "", 24⟩], 4, 48, [.v (.int .i64 0), .v (.int .i64 0), .v (.int .i64 0), .v (.slice none 0 0)]⟩
def ti63 : TI := ⟨.struct #[⟨ "Kind", 3, 0, false, "", "", 0⟩, ⟨ "Session", 2, 1, false, "", "", 8⟩, ⟨ "Request", 2, 2, false, "", "", 16⟩, ⟨ "Op", 25, 3, false, "", "", 24⟩, ⟨ "Origin", 3, 11, false, "", "", 112⟩, ⟨ "Seq", 2, 12, false, "", "", 120⟩, ⟨ "Ops", 60, 13, false, "", "", 128⟩, ⟨ "Epoch", 30, 14, false, "", "", 152⟩, ⟨ "From", 3, 39, false, "", "", 352⟩, ⟨ "Vector", 28, 40, false, "", "", 360⟩, ⟨ "Clock", 2, 48, false, "", "", 424⟩, ⟨ "Part", 62, 49, false, "", "", 432⟩, ⟨ "Site", 3, 53, false, "", "", 480⟩, ⟨ "Sponsor", 3, 54, false, "", "", 488⟩, ⟨ "Length", 2, 55, false, "", "", 496⟩], 56, 504, [.v (.int .i64 0), .v (.int .i64 0), .v (.int .i64 0), .v (.int .i64 0), .v (.int .i64 0), .v (.int .i64 0), .v (.int .i64 0), .v (.int .i64 0), .v (.string ⟨#[]⟩), .v (.string ⟨#[]⟩), .v (.string ⟨#[]⟩), .v (.int .i64 0), .v (.int .i64 0), .v (.slice none 0 0), .v (.int .i64 0), .v (.int .i64 0), .v (.int .i64 0), .v (.int .i64 0), .v (.int .i64 0), .v (.int .i64 0), .v (.int .i64 0), .v (.int .i64 0), .v (.int .i64 0), .v (.int .i64 0), .v (.int .i64 0), .v (.int .i64 0), .v (.int .i64 0), .v (.int .i64 0), .v (.int .i64 0), .v (.int .i64 0), .v (.int .i64 0), .v (.int .i64 0), .v (.int .i64 0), .v (.int .i64 0), .v (.int .i64 0), .v (.int .i64 0), .v (.int .i64 0), .v (.int .i64 0), .v (.int .i64 0), .v (.int .i64 0), .v (.int .i64 0), .v (.int .i64 0), .v (.int .i64 0), .v (.int .i64 0), .v (.int .i64 0), .v (.int .i64 0), .v (.int .i64 0), .v (.int .i64 0), .v (.int .i64 0), .v (.int .i64 0), .v (.int .i64 0), .v (.int .i64 0), .v (.slice none 0 0), .v (.int .i64 0), .v (.int .i64 0), .v (.int .i64 0)]⟩
def ti64 : TI := ⟨.struct #[⟨ "Kind", 3, 0, false, "", "", 0⟩, ⟨ "Session", 2, 1, false, "", "", 8⟩, ⟨ "Request", 2, 2, false, "", "", 16⟩, ⟨ "Op", 25, 3, false, "", "", 24⟩, ⟨ "Origin", 3, 11, false, "", "", 112⟩, ⟨ "Seq", 2, 12, false, "", "", 120⟩, ⟨ "Ops", 60, 13, false, "", "", 128⟩, ⟨ "Epoch", 30, 14, false, "", "", 152⟩, ⟨ "From", 3, 39, false, "", "", 352⟩, ⟨ "Vector", 28, 40, false, "", "", 360⟩, ⟨ "Clock", 2, 48, false, "", "", 424⟩, ⟨ "Part", 62, 49, false, "", "", 432⟩, ⟨ "Site", 3, 53, false, "", "", 480⟩, ⟨ "Sponsor", 3, 54, false, "", "", 488⟩, ⟨ "Length", 2, 55, false, "", "", 496⟩], 56, 504, [.v (.int .i64 0), .v (.int .i64 0), .v (.int .i64 0), .v (.int .i64 0), .v (.int .i64 0), .v (.int .i64 0), .v (.int .i64 0), .v (.int .i64 0), .v (.string ⟨#[]⟩), .v (.string ⟨#[]⟩), .v (.string ⟨#[]⟩), .v (.int .i64 0), .v (.int .i64 0), .v (.slice none 0 0), .v (.int .i64 0), .v (.int .i64 0), .v (.int .i64 0), .v (.int .i64 0), .v (.int .i64 0), .v (.int .i64 0), .v (.int .i64 0), .v (.int .i64 0), .v (.int .i64 0), .v (.int .i64 0), .v (.int .i64 0), .v (.int .i64 0), .v (.int .i64 0), .v (.int .i64 0), .v (.int .i64 0), .v (.int .i64 0), .v (.int .i64 0), .v (.int .i64 0), .v (.int .i64 0), .v (.int .i64 0), .v (.int .i64 0), .v (.int .i64 0), .v (.int .i64 0), .v (.int .i64 0), .v (.int .i64 0), .v (.int .i64 0), .v (.int .i64 0), .v (.int .i64 0), .v (.int .i64 0), .v (.int .i64 0), .v (.int .i64 0), .v (.int .i64 0), .v (.int .i64 0), .v (.int .i64 0), .v (.int .i64 0), .v (.int .i64 0), .v (.int .i64 0), .v (.int .i64 0), .v (.slice none 0 0), .v (.int .i64 0), .v (.int .i64 0), .v (.int .i64 0)]⟩
def ti65 : TI := ⟨.struct #[⟨ "Group", 3, 0, false, "", "", 0⟩, ⟨ "Replica", 3, 1, false, "", "", 8⟩], 2, 16, [.v (.int .i64 0), .v (.int .i64 0)]⟩
def ti66 : TI := ⟨.struct #[⟨ "Group", 3, 0, false, "", "", 0⟩, ⟨ "Replica", 3, 1, false, "", "", 8⟩], 2, 16, [.v (.int .i64 0), .v (.int .i64 0)]⟩
def ti67 : TI := ⟨.struct #[⟨ "Round", 2, 0, false, "", "", 0⟩, ⟨ "Replica", 3, 1, false, "", "", 8⟩], 2, 16, [.v (.int .i64 0), .v (.int .i64 0)]⟩
def ti68 : TI := ⟨.struct #[⟨ "Round", 2, 0, false, "", "", 0⟩, ⟨ "Replica", 3, 1, false, "", "", 8⟩], 2, 16, [.v (.int .i64 0), .v (.int .i64 0)]⟩
def ti69 : TI := ⟨.slice 178, 1, 24, [.v (.slice none 0 0)]⟩
def ti70 : TI := ⟨.struct #[⟨ "Kind", 3, 0, false, "", "", 0⟩, ⟨ "From", 66, 1, false, "", "", 8⟩, ⟨ "To", 66, 3, false, "", "", 24⟩, ⟨ "Ballot", 68, 5, false, "", "", 40⟩, ⟨ "Slot", 2, 7, false, "", "", 56⟩, ⟨ "List", 69, 8, false, "", "", 64⟩, ⟨ "Entry", 64, 9, false, "", "", 88⟩, ⟨ "Number", 2, 65, false, "", "", 592⟩, ⟨ "Vector", 28, 66, false, "", "", 600⟩, ⟨ "Clock", 2, 74, false, "", "", 664⟩, ⟨ "Origin", 3, 75, false, "", "", 672⟩, ⟨ "Ops", 60, 76, false, "", "", 680⟩, ⟨ "Epoch", 30, 77, false, "", "", 704⟩, ⟨ "Part", 62, 102, false, "", "", 904⟩], 106, 952, [.v (.int .i64 0), .v (.int .i64 0), .v (.int .i64 0), .v (.int .i64 0), .v (.int .i64 0), .v (.int .i64 0), .v (.int .i64 0), .v (.int .i64 0), .v (.slice none 0 0), .v (.int .i64 0), .v (.int .i64 0), .v (.int .i64 0), .v (.int .i64 0), .v (.int .i64 0), .v (.int .i64 0), .v (.int .i64 0), .v (.int .i64 0), .v (.string ⟨#[]⟩), .v (.string ⟨#[]⟩), .v (.string ⟨#[]⟩), .v (.int .i64 0), .v (.int .i64 0), .v (.slice none 0 0), .v (.int .i64 0), .v (.int .i64 0), .v (.int .i64 0), .v (.int .i64 0), .v (.int .i64 0), .v (.int .i64 0), .v (.int .i64 0), .v (.int .i64 0), .v (.int .i64 0), .v (.int .i64 0), .v (.int .i64 0), .v (.int .i64 0), .v (.int .i64 0), .v (.int .i64 0), .v (.int .i64 0), .v (.int .i64 0), .v (.int .i64 0), .v (.int .i64 0), .v (.int .i64 0), .v (.int .i64 0), .v (.int .i64 0), .v (.int .i64 0), .v (.int .i64 0), .v (.int .i64 0), .v (.int .i64 0), .v (.int .i64 0), .v (.int .i64 0), .v (.int .i64 0), .v (.int .i64 0), .v (.int .i64 0), .v (.int .i64 0), .v (.int .i64 0), .v (.int .i64 0), .v (.int .i64 0), .v (.int .i64 0), .v (.int .i64 0), .v (.int .i64 0), .v (.int .i64 0), .v (.slice none 0 0), .v (.int .i64 0), .v (.int .i64 0), .v (.int .i64 0), .v (.int .i64 0), .v (.int .i64 0), .v (.int .i64 0), .v (.int .i64 0), .v (.int .i64 0), .v (.int .i64 0), .v (.int .i64 0), .v (.int .i64 0), .v (.int .i64 0), .v (.int .i64 0), .v (.int .i64 0), .v (.slice none 0 0), .v (.int .i64 0), .v (.int .i64 0), .v (.int .i64 0), .v (.int .i64 0), .v (.int .i64 0), .v (.int .i64 0), .v (.int .i64 0), .v (.int .i64 0), .v (.int .i64 0), .v (.int .i64 0), .v (.int .i64 0), .v (.int .i64 0), .v (.int .i64 0), .v (.int .i64 0), .v (.int .i64 0), .v (.int .i64 0), .v (.int .i64 0), .v (.int .i64 0), .v (.int .i64 0), .v (.int .i64 0), .v (.int .i64 0), .v (.int .i64 0), .v (.int .i64 0), .v (.int .i64 0), .v (.int .i64 0), .v (.int .i64 0), .v (.int .i64 0), .v (.int .i64 0), .v (.slice none 0 0)]⟩
def ti71 : TI := ⟨.struct #[⟨ "Kind", 3, 0, false, "", "", 0⟩, ⟨ "From", 66, 1, false, "", "", 8⟩, ⟨ "To", 66, 3, false, "", "", 24⟩, ⟨ "Ballot", 68, 5, false, "", "", 40⟩, ⟨ "Slot", 2, 7, false, "", "", 56⟩, ⟨ "List", 69, 8, false, "", "", 64⟩, ⟨ "Entry", 64, 9, false, "", "", 88⟩, ⟨ "Number", 2, 65, false, "", "", 592⟩, ⟨ "Vector", 28, 66, false, "", "", 600⟩, ⟨ "Clock", 2, 74, false, "", "", 664⟩, ⟨ "Origin", 3, 75, false, "", "", 672⟩, ⟨ "Ops", 60, 76, false, "", "", 680⟩, ⟨ "Epoch", 30, 77, false, "", "", 704⟩, ⟨ "Part", 62, 102, false, "", "", 904⟩], 106, 952, [.v (.int .i64 0), .v (.int .i64 0), .v (.int .i64 0), .v (.int .i64 0), .v (.int .i64 0), .v (.int .i64 0), .v (.int .i64 0), .v (.int .i64 0), .v (.slice none 0 0), .v (.int .i64 0), .v (.int .i64 0), .v (.int .i64 0), .v (.int .i64 0), .v (.int .i64 0), .v (.int .i64 0), .v (.int .i64 0), .v (.int .i64 0), .v (.string ⟨#[]⟩), .v (.string ⟨#[]⟩), .v (.string ⟨#[]⟩), .v (.int .i64 0), .v (.int .i64 0), .v (.slice none 0 0), .v (.int .i64 0), .v (.int .i64 0), .v (.int .i64 0), .v (.int .i64 0), .v (.int .i64 0), .v (.int .i64 0), .v (.int .i64 0), .v (.int .i64 0), .v (.int .i64 0), .v (.int .i64 0), .v (.int .i64 0), .v (.int .i64 0), .v (.int .i64 0), .v (.int .i64 0), .v (.int .i64 0), .v (.int .i64 0), .v (.int .i64 0), .v (.int .i64 0), .v (.int .i64 0), .v (.int .i64 0), .v (.int .i64 0), .v (.int .i64 0), .v (.int .i64 0), .v (.int .i64 0), .v (.int .i64 0), .v (.int .i64 0), .v (.int .i64 0), .v (.int .i64 0), .v (.int .i64 0), .v (.int .i64 0), .v (.int .i64 0), .v (.int .i64 0), .v (.int .i64 0), .v (.int .i64 0), .v (.int .i64 0), .v (.int .i64 0), .v (.int .i64 0), .v (.int .i64 0), .v (.slice none 0 0), .v (.int .i64 0), .v (.int .i64 0), .v (.int .i64 0), .v (.int .i64 0), .v (.int .i64 0), .v (.int .i64 0), .v (.int .i64 0), .v (.int .i64 0), .v (.int .i64 0), .v (.int .i64 0), .v (.int .i64 0), .v (.int .i64 0), .v (.int .i64 0), .v (.int .i64 0), .v (.slice none 0 0), .v (.int .i64 0), .v (.int .i64 0), .v (.int .i64 0), .v (.int .i64 0), .v (.int .i64 0), .v (.int .i64 0), .v (.int .i64 0), .v (.int .i64 0), .v (.int .i64 0), .v (.int .i64 0), .v (.int .i64 0), .v (.int .i64 0), .v (.int .i64 0), .v (.int .i64 0), .v (.int .i64 0), .v (.int .i64 0), .v (.int .i64 0), .v (.int .i64 0), .v (.int .i64 0), .v (.int .i64 0), .v (.int .i64 0), .v (.int .i64 0), .v (.int .i64 0), .v (.int .i64 0), .v (.int .i64 0), .v (.int .i64 0), .v (.int .i64 0), .v (.int .i64 0), .v (.slice none 0 0)]⟩
def ti73 : TI := ⟨.func #[64] #[31, 35] false, 1, 8, [.v .nilFunc]⟩
def ti74 : TI := ⟨.func #[71] #[31, 35] false, 1, 8, [.v .nilFunc]⟩
def ti75 : TI := ⟨.func #[64, 71] #[4] false, 1, 8, [.v .nilFunc]⟩
def ti77 : TI := ⟨.func #[31] #[64, 35] false, 1, 8, [.v .nilFunc]⟩
def ti78 : TI := ⟨.func #[64, 64] #[4] false, 1, 8, [.v .nilFunc]⟩
def ti79 : TI := ⟨.func #[64] #[4] false, 1, 8, [.v .nilFunc]⟩
def ti81 : TI := ⟨.func #[31] #[71, 35] false, 1, 8, [.v .nilFunc]⟩
def ti82 : TI := ⟨.func #[71, 71] #[4] false, 1, 8, [.v .nilFunc]⟩
def ti83 : TI := ⟨.func #[71] #[4] false, 1, 8, [.v .nilFunc]⟩
def ti84 : TI := ⟨.func #[64, 71, 31] #[4] false, 1, 8, [.v .nilFunc]⟩
def ti85 : TI := ⟨.func #[71, 3, 3] #[4] false, 1, 8, [.v .nilFunc]⟩
def ti86 : TI := ⟨.struct #[⟨ "made", 4, 0, false, "", "orchard/wire", 0⟩, ⟨ "b", 31, 1, false, "", "orchard/wire", 8⟩], 2, 32, [.v (.bool false), .v (.slice none 0 0)]⟩
def ti87 : TI := ⟨.struct #[⟨ "made", 4, 0, false, "", "orchard/wire", 0⟩, ⟨ "b", 31, 1, false, "", "orchard/wire", 8⟩], 2, 32, [.v (.bool false), .v (.slice none 0 0)]⟩
def ti88 : TI := ⟨.func #[32] #[35] false, 1, 8, [.v .nilFunc]⟩
def ti89 : TI := ⟨.func #[32, 92] #[35] false, 1, 8, [.v .nilFunc]⟩
def ti90 : TI := ⟨.pointer 111, 1, 8, [.v (.pointer none)]⟩
def ti91 : TI := ⟨.func #[25] #[] false, 1, 8, [.v .nilFunc]⟩
def ti92 : TI := ⟨.func #[90] #[] false, 1, 8, [.v .nilFunc]⟩
def ti93 : TI := ⟨.func #[4] #[35] false, 1, 8, [.v .nilFunc]⟩
def ti94 : TI := ⟨.func #[31, 143] #[31] true, 1, 8, [.v .nilFunc]⟩
def ti95 : TI := ⟨.func #[31, 9] #[31] false, 1, 8, [.v .nilFunc]⟩
def ti96 : TI := ⟨.func #[30] #[] false, 1, 8, [.v .nilFunc]⟩
def ti97 : TI := ⟨.func #[28] #[31] false, 1, 8, [.v .nilFunc]⟩
def ti98 : TI := ⟨.func #[31] #[31] false, 1, 8, [.v .nilFunc]⟩
def ti99 : TI := ⟨.struct #[⟨ "made", 4, 0, false, "", "orchard/wire", 0⟩, ⟨ "b", 31, 1, false, "", "orchard/wire", 8⟩], 2, 32, [.v (.bool false), .v (.slice none 0 0)]⟩
def ti100 : TI := ⟨.func #[44, 102] #[35] false, 1, 8, [.v .nilFunc]⟩
def ti101 : TI := ⟨.pointer 119, 1, 8, [.v (.pointer none)]⟩
def ti102 : TI := ⟨.func #[101] #[35] false, 1, 8, [.v .nilFunc]⟩
def ti103 : TI := ⟨.func #[] #[2] false, 1, 8, [.v .nilFunc]⟩
def ti104 : TI := ⟨.func #[] #[9] false, 1, 8, [.v .nilFunc]⟩
def ti105 : TI := ⟨.func #[23] #[4] false, 1, 8, [.v .nilFunc]⟩
def ti106 : TI := ⟨.func #[2] #[4] false, 1, 8, [.v .nilFunc]⟩
def ti107 : TI := ⟨.func #[] #[28] false, 1, 8, [.v .nilFunc]⟩
def ti108 : TI := ⟨.func #[28] #[4] false, 1, 8, [.v .nilFunc]⟩
def ti109 : TI := ⟨.func #[64] #[35] false, 1, 8, [.v .nilFunc]⟩
def ti110 : TI := ⟨.struct #[⟨ "Writer", 32, 0, true, "", "", 0⟩, ⟨ "e", 35, 1, false, "", "orchard/record", 8⟩], 2, 16, [.v (.pointer none), .v (.int .i64 0)]⟩
def ti111 : TI := ⟨.struct #[⟨ "Writer", 32, 0, true, "", "", 0⟩, ⟨ "e", 35, 1, false, "", "orchard/record", 8⟩], 2, 16, [.v (.pointer none), .v (.int .i64 0)]⟩
def ti112 : TI := ⟨.func #[64] #[] false, 1, 8, [.v .nilFunc]⟩
def ti113 : TI := ⟨.func #[64] #[31] false, 1, 8, [.v .nilFunc]⟩
def ti114 : TI := ⟨.func #[71] #[35] false, 1, 8, [.v .nilFunc]⟩
def ti115 : TI := ⟨.func #[71] #[] false, 1, 8, [.v .nilFunc]⟩
def ti116 : TI := ⟨.func #[31] #[31, 35] false, 1, 8, [.v .nilFunc]⟩
def ti117 : TI := ⟨.func #[71] #[31] false, 1, 8, [.v .nilFunc]⟩
def ti118 : TI := ⟨.struct #[⟨ "Reader", 44, 0, true, "", "", 0⟩, ⟨ "e", 35, 1, false, "", "orchard/record", 8⟩], 2, 16, [.v (.pointer none), .v (.int .i64 0)]⟩
def ti119 : TI := ⟨.struct #[⟨ "Reader", 44, 0, true, "", "", 0⟩, ⟨ "e", 35, 1, false, "", "orchard/record", 8⟩], 2, 16, [.v (.pointer none), .v (.int .i64 0)]⟩
def ti120 : TI := ⟨.func #[] #[64] false, 1, 8, [.v .nilFunc]⟩
def ti121 : TI := ⟨.func #[35] #[] false, 1, 8, [.v .nilFunc]⟩
def ti122 : TI := ⟨.func #[] #[35] false, 1, 8, [.v .nilFunc]⟩
def ti123 : TI := ⟨.func #[60, 60] #[4] false, 1, 8, [.v .nilFunc]⟩
def ti124 : TI := ⟨.func #[62, 62] #[4] false, 1, 8, [.v .nilFunc]⟩
def ti126 : TI := ⟨.func #[64] #[64, 4] false, 1, 8, [.v .nilFunc]⟩
def ti127 : TI := ⟨.func #[3] #[4] false, 1, 8, [.v .nilFunc]⟩
def ti128 : TI := ⟨.func #[60] #[4] false, 1, 8, [.v .nilFunc]⟩
def ti129 : TI := ⟨.func #[62] #[4] false, 1, 8, [.v .nilFunc]⟩
def ti131 : TI := ⟨.func #[31] #[31, 3, 35] false, 1, 8, [.v .nilFunc]⟩
def ti132 : TI := ⟨.func #[] #[71] false, 1, 8, [.v .nilFunc]⟩
def ti133 : TI := ⟨.func #[69, 69] #[4] false, 1, 8, [.v .nilFunc]⟩
def ti135 : TI := ⟨.func #[71] #[71, 4] false, 1, 8, [.v .nilFunc]⟩
def ti136 : TI := ⟨.func #[66] #[4] false, 1, 8, [.v .nilFunc]⟩
def ti137 : TI := ⟨.func #[68] #[4] false, 1, 8, [.v .nilFunc]⟩
def ti138 : TI := ⟨.func #[69, 3, 3] #[4] false, 1, 8, [.v .nilFunc]⟩
def ti139 : TI := ⟨.func #[2] #[35] false, 1, 8, [.v .nilFunc]⟩
def ti140 : TI := ⟨.func #[143] #[] true, 1, 8, [.v .nilFunc]⟩
def ti141 : TI := ⟨.func #[145] #[] true, 1, 8, [.v .nilFunc]⟩
def ti142 : TI := ⟨.func #[181] #[] true, 1, 8, [.v .nilFunc]⟩
def ti143 : TI := ⟨.slice 2, 1, 24, [.v (.slice none 0 0)]⟩
def ti144 : TI := ⟨.func #[2] #[31] false, 1, 8, [.v .nilFunc]⟩
def ti145 : TI := ⟨.slice 3, 1, 24, [.v (.slice none 0 0)]⟩
def ti146 : TI := ⟨.func #[184] #[] true, 1, 8, [.v .nilFunc]⟩
def ti147 : TI := ⟨.pointer 2, 1, 8, [.v (.pointer none)]⟩
def ti148 : TI := ⟨.func #[185] #[] true, 1, 8, [.v .nilFunc]⟩
def ti149 : TI := ⟨.pointer 3, 1, 8, [.v (.pointer none)]⟩
def ti151 : TI := ⟨.func #[31] #[2, 3, 35] false, 1, 8, [.v .nilFunc]⟩
def ti152 : TI := ⟨.func #[153] #[] false, 1, 8, [.v .nilFunc]⟩
def ti153 : TI := ⟨.pointer 28, 1, 8, [.v (.pointer none)]⟩
def ti154 : TI := ⟨.func #[143] #[4] true, 1, 8, [.v .nilFunc]⟩
def ti155 : TI := ⟨.func #[145] #[4] true, 1, 8, [.v .nilFunc]⟩
def ti156 : TI := ⟨.func #[60, 3] #[4] false, 1, 8, [.v .nilFunc]⟩
def ti157 : TI := ⟨.func #[60] #[] false, 1, 8, [.v .nilFunc]⟩
def ti158 : TI := ⟨.func #[62] #[] false, 1, 8, [.v .nilFunc]⟩
def ti159 : TI := ⟨.func #[60] #[31] false, 1, 8, [.v .nilFunc]⟩
def ti160 : TI := ⟨.func #[62] #[31] false, 1, 8, [.v .nilFunc]⟩
def ti161 : TI := ⟨.func #[190] #[4] true, 1, 8, [.v .nilFunc]⟩
def ti162 : TI := ⟨.func #[66] #[] false, 1, 8, [.v .nilFunc]⟩
def ti163 : TI := ⟨.func #[68] #[] false, 1, 8, [.v .nilFunc]⟩
def ti164 : TI := ⟨.func #[69] #[] false, 1, 8, [.v .nilFunc]⟩
def ti165 : TI := ⟨.func #[194] #[31] true, 1, 8, [.v .nilFunc]⟩
def ti166 : TI := ⟨.func #[167] #[31] false, 1, 8, [.v .nilFunc]⟩
def ti167 : TI := ⟨.int .u32, 1, 4, [.v (.int .u32 0)]⟩
def ti168 : TI := ⟨.func #[194] #[167] true, 1, 8, [.v .nilFunc]⟩
def ti169 : TI := ⟨.func #[69] #[31] false, 1, 8, [.v .nilFunc]⟩
def ti170 : TI := ⟨.func #[31] #[167] false, 1, 8, [.v .nilFunc]⟩
def ti171 : TI := ⟨.int .u64, 1, 8, [.v (.int .u64 0)]⟩
def ti172 : TI := ⟨.func #[] #[60] false, 1, 8, [.v .nilFunc]⟩
def ti173 : TI := ⟨.func #[] #[62] false, 1, 8, [.v .nilFunc]⟩
def ti174 : TI := ⟨.func #[175] #[] false, 1, 8, [.v .nilFunc]⟩
def ti175 : TI := ⟨.pointer 71, 1, 8, [.v (.pointer none)]⟩
def ti176 : TI := ⟨.func #[178, 178] #[4] false, 1, 8, [.v .nilFunc]⟩
def ti177 : TI := ⟨.struct #[⟨ "Slot", 2, 0, false, "", "", 0⟩, ⟨ "Ballot", 68, 1, false, "", "", 8⟩, ⟨ "Entry", 64, 3, false, "", "", 24⟩], 59, 528, [.v (.int .i64 0), .v (.int .i64 0), .v (.int .i64 0), .v (.int .i64 0), .v (.int .i64 0), .v (.int .i64 0), .v (.int .i64 0), .v (.int .i64 0), .v (.int .i64 0), .v (.int .i64 0), .v (.int .i64 0), .v (.string ⟨#[]⟩), .v (.string ⟨#[]⟩), .v (.string ⟨#[]⟩), .v (.int .i64 0), .v (.int .i64 0), .v (.slice none 0 0), .v (.int .i64 0), .v (.int .i64 0), .v (.int .i64 0), .v (.int .i64 0), .v (.int .i64 0), .v (.int .i64 0), .v (.int .i64 0), .v (.int .i64 0), .v (.int .i64 0), .v (.int .i64 0), .v (.int .i64 0), .v (.int .i64 0), .v (.int .i64 0), .v (.int .i64 0), .v (.int .i64 0), .v (.int .i64 0), .v (.int .i64 0), .v (.int .i64 0), .v (.int .i64 0), .v (.int .i64 0), .v (.int .i64 0), .v (.int .i64 0), .v (.int .i64 0), .v (.int .i64 0), .v (.int .i64 0), .v (.int .i64 0), .v (.int .i64 0), .v (.int .i64 0), .v (.int .i64 0), .v (.int .i64 0), .v (.int .i64 0), .v (.int .i64 0), .v (.int .i64 0), .v (.int .i64 0), .v (.int .i64 0), .v (.int .i64 0), .v (.int .i64 0), .v (.int .i64 0), .v (.slice none 0 0), .v (.int .i64 0), .v (.int .i64 0), .v (.int .i64 0)]⟩
def ti178 : TI := ⟨.struct #[⟨ "Slot", 2, 0, false, "", "", 0⟩, ⟨ "Ballot", 68, 1, false, "", "", 8⟩, ⟨ "Entry", 64, 3, false, "", "", 24⟩], 59, 528, [.v (.int .i64 0), .v (.int .i64 0), .v (.int .i64 0), .v (.int .i64 0), .v (.int .i64 0), .v (.int .i64 0), .v (.int .i64 0), .v (.int .i64 0), .v (.int .i64 0), .v (.int .i64 0), .v (.int .i64 0), .v (.string ⟨#[]⟩), .v (.string ⟨#[]⟩), .v (.string ⟨#[]⟩), .v (.int .i64 0), .v (.int .i64 0), .v (.slice none 0 0), .v (.int .i64 0), .v (.int .i64 0), .v (.int .i64 0), .v (.int .i64 0), .v (.int .i64 0), .v (.int .i64 0), .v (.int .i64 0), .v (.int .i64 0), .v (.int .i64 0), .v (.int .i64 0), .v (.int .i64 0), .v (.int .i64 0), .v (.int .i64 0), .v (.int .i64 0), .v (.int .i64 0), .v (.int .i64 0), .v (.int .i64 0), .v (.int .i64 0), .v (.int .i64 0), .v (.int .i64 0), .v (.int .i64 0), .v (.int .i64 0), .v (.int .i64 0), .v (.int .i64 0), .v (.int .i64 0), .v (.int .i64 0), .v (.int .i64 0), .v (.int .i64 0), .v (.int .i64 0), .v (.int .i64 0), .v (.int .i64 0), .v (.int .i64 0), .v (.int .i64 0), .v (.int .i64 0), .v (.int .i64 0), .v (.int .i64 0), .v (.int .i64 0), .v (.int .i64 0), .v (.slice none 0 0), .v (.int .i64 0), .v (.int .i64 0), .v (.int .i64 0)]⟩
def ti179 : TI := ⟨.func #[194] #[35] true, 1, 8, [.v .nilFunc]⟩
def ti180 : TI := ⟨.func #[181] #[4] true, 1, 8, [.v .nilFunc]⟩
def ti181 : TI := ⟨.slice 9, 1, 24, [.v (.slice none 0 0)]⟩
def ti182 : TI := ⟨.func #[9] #[35] false, 1, 8, [.v .nilFunc]⟩
def ti183 : TI := ⟨.int .u64, 1, 8, [.v (.int .u64 0)]⟩
def ti184 : TI := ⟨.slice 147, 1, 24, [.v (.slice none 0 0)]⟩
def ti185 : TI := ⟨.slice 149, 1, 24, [.v (.slice none 0 0)]⟩
def ti187 : TI := ⟨.func #[] #[9, 35] false, 1, 8, [.v .nilFunc]⟩
def ti188 : TI := ⟨.func #[60, 53] #[4] false, 1, 8, [.v .nilFunc]⟩
def ti189 : TI := ⟨.func #[31] #[35] false, 1, 8, [.v .nilFunc]⟩
def ti190 : TI := ⟨.slice 66, 1, 24, [.v (.slice none 0 0)]⟩
def ti191 : TI := ⟨.func #[69, 192] #[4] false, 1, 8, [.v .nilFunc]⟩
def ti192 : TI := ⟨.func #[178] #[4] false, 1, 8, [.v .nilFunc]⟩
def ti193 : TI := ⟨.func #[69, 69, 176] #[4] false, 1, 8, [.v .nilFunc]⟩
def ti194 : TI := ⟨.slice 31, 1, 24, [.v (.slice none 0 0)]⟩
def ti195 : TI := ⟨.func #[31, 3] #[31] false, 1, 8, [.v .nilFunc]⟩
def ti196 : TI := ⟨.func #[] #[68] false, 1, 8, [.v .nilFunc]⟩
def ti197 : TI := ⟨.func #[] #[69] false, 1, 8, [.v .nilFunc]⟩
def ti199 : TI := ⟨.func #[] #[2, 35] false, 1, 8, [.v .nilFunc]⟩
def ti200 : TI := ⟨.func #[] #[31, 35] false, 1, 8, [.v .nilFunc]⟩
def ti201 : TI := ⟨.func #[60, 53] #[3] false, 1, 8, [.v .nilFunc]⟩
def ti202 : TI := ⟨.func #[69, 192] #[3] false, 1, 8, [.v .nilFunc]⟩
def ti211 : TI := ⟨.pointer 5, 1, 8, [.v (.pointer none)]⟩
def tyT : Nat → Option TI
  | 1 => some ti1
  | 2 => some ti2
  | 3 => some ti3
  | 4 => some ti4
  | 5 => some ti5
  | 9 => some ti9
  | 12 => some ti12
  | 17 => some ti17
  | 21 => some ti21
  | 22 => some ti22
  | 23 => some ti23
  | 24 => some ti24
  | 25 => some ti25
  | 26 => some ti26
  | 27 => some ti27
  | 28 => some ti28
  | 29 => some ti29
  | 30 => some ti30
  | 31 => some ti31
  | 32 => some ti32
  | 33 => some ti33
  | 34 => some ti34
  | 35 => some ti35
  | 36 => some ti36
  | 37 => some ti37
  | 38 => some ti38
  | 39 => some ti39
  | 40 => some ti40
  | 41 => some ti41
  | 42 => some ti42
  | 43 => some ti43
  | 44 => some ti44
  | 45 => some ti45
  | 46 => some ti46
  | 47 => some ti47
  | 48 => some ti48
  | 50 => some ti50
  | 51 => some ti51
  | 52 => some ti52
  | 53 => some ti53
  | 55 => some ti55
  | 56 => some ti56
  | 57 => some ti57
  | 58 => some ti58
  | 59 => some ti59
  | 60 => some ti60
  | 61 => some ti61
  | 62 => some ti62
  | 63 => some ti63
  | 64 => some ti64
  | 65 => some ti65
  | 66 => some ti66
  | 67 => some ti67
  | 68 => some ti68
  | 69 => some ti69
  | 70 => some ti70
  | 71 => some ti71
  | 73 => some ti73
  | 74 => some ti74
  | 75 => some ti75
  | 77 => some ti77
  | 78 => some ti78
  | 79 => some ti79
  | 81 => some ti81
  | 82 => some ti82
  | 83 => some ti83
  | 84 => some ti84
  | 85 => some ti85
  | 86 => some ti86
  | 87 => some ti87
  | 88 => some ti88
  | 89 => some ti89
  | 90 => some ti90
  | 91 => some ti91
  | 92 => some ti92
  | 93 => some ti93
  | 94 => some ti94
  | 95 => some ti95
  | 96 => some ti96
  | 97 => some ti97
  | 98 => some ti98
  | 99 => some ti99
  | 100 => some ti100
  | 101 => some ti101
  | 102 => some ti102
  | 103 => some ti103
  | 104 => some ti104
  | 105 => some ti105
  | 106 => some ti106
  | 107 => some ti107
  | 108 => some ti108
  | 109 => some ti109
  | 110 => some ti110
  | 111 => some ti111
  | 112 => some ti112
  | 113 => some ti113
  | 114 => some ti114
  | 115 => some ti115
  | 116 => some ti116
  | 117 => some ti117
  | 118 => some ti118
  | 119 => some ti119
  | 120 => some ti120
  | 121 => some ti121
  | 122 => some ti122
  | 123 => some ti123
  | 124 => some ti124
  | 126 => some ti126
  | 127 => some ti127
  | 128 => some ti128
  | 129 => some ti129
  | 131 => some ti131
  | 132 => some ti132
  | 133 => some ti133
  | 135 => some ti135
  | 136 => some ti136
  | 137 => some ti137
  | 138 => some ti138
  | 139 => some ti139
  | 140 => some ti140
  | 141 => some ti141
  | 142 => some ti142
  | 143 => some ti143
  | 144 => some ti144
  | 145 => some ti145
  | 146 => some ti146
  | 147 => some ti147
  | 148 => some ti148
  | 149 => some ti149
  | 151 => some ti151
  | 152 => some ti152
  | 153 => some ti153
  | 154 => some ti154
  | 155 => some ti155
  | 156 => some ti156
  | 157 => some ti157
  | 158 => some ti158
  | 159 => some ti159
  | 160 => some ti160
  | 161 => some ti161
  | 162 => some ti162
  | 163 => some ti163
  | 164 => some ti164
  | 165 => some ti165
  | 166 => some ti166
  | 167 => some ti167
  | 168 => some ti168
  | 169 => some ti169
  | 170 => some ti170
  | 171 => some ti171
  | 172 => some ti172
  | 173 => some ti173
  | 174 => some ti174
  | 175 => some ti175
  | 176 => some ti176
  | 177 => some ti177
  | 178 => some ti178
  | 179 => some ti179
  | 180 => some ti180
  | 181 => some ti181
  | 182 => some ti182
  | 183 => some ti183
  | 184 => some ti184
  | 185 => some ti185
  | 187 => some ti187
  | 188 => some ti188
  | 189 => some ti189
  | 190 => some ti190
  | 191 => some ti191
  | 192 => some ti192
  | 193 => some ti193
  | 194 => some ti194
  | 195 => some ti195
  | 196 => some ti196
  | 197 => some ti197
  | 199 => some ti199
  | 200 => some ti200
  | 201 => some ti201
  | 202 => some ti202
  | 211 => some ti211
  | _ => none
def eqT : Nat → Option (List Kd)
  | 22 => some [.i, .i]
  | 23 => some [.i, .i]
  | 24 => some [.i, .i, .i, .i, .i, .s, .s, .s]
  | 25 => some [.i, .i, .i, .i, .i, .s, .s, .s]
  | 26 => some [.i, .i, .i, .i, .i, .i, .i, .i]
  | 27 => some [.i, .i, .i, .i, .i, .i, .i, .i]
  | 28 => some [.i, .i, .i, .i, .i, .i, .i, .i]
  | 29 => some [.i, .i, .i, .i, .i, .i, .i, .i, .i, .i, .i, .i, .i, .i, .i, .i, .i, .i, .i, .i, .i, .i, .i, .i, .i]
  | 30 => some [.i, .i, .i, .i, .i, .i, .i, .i, .i, .i, .i, .i, .i, .i, .i, .i, .i, .i, .i, .i, .i, .i, .i, .i, .i]
  | 65 => some [.i, .i]
  | 66 => some [.i, .i]
  | 67 => some [.i, .i]
  | 68 => some [.i, .i]
  | _ => none
noncomputable def E : Env := ⟨Tryz.prog, tyT, eqT, none⟩
theorem tok1 : TyOk E.P 1 ti1 := tyOkV (z := .nilFunc) (by kernel_rfl) rfl (by kernel_rfl) (by kernel_rfl)
theorem tok2 : TyOk E.P 2 ti2 := tyOkV (z := (.int .i64 0)) (by kernel_rfl) rfl (by kernel_rfl) (by kernel_rfl)
theorem tok3 : TyOk E.P 3 ti3 := tyOkV (z := (.int .i64 0)) (by kernel_rfl) rfl (by kernel_rfl) (by kernel_rfl)
theorem tok4 : TyOk E.P 4 ti4 := tyOkV (z := (.bool false)) (by kernel_rfl) rfl (by kernel_rfl) (by kernel_rfl)
theorem tok5 : TyOk E.P 5 ti5 := tyOkV (z := (.int .u8 0)) (by kernel_rfl) rfl (by kernel_rfl) (by kernel_rfl)
theorem tok9 : TyOk E.P 9 ti9 := tyOkV (z := (.string ⟨#[]⟩)) (by kernel_rfl) rfl (by kernel_rfl) (by kernel_rfl)
theorem tok12 : TyOk E.P 12 ti12 := tyOkV (z := (.int .u64 0)) (by kernel_rfl) rfl (by kernel_rfl) (by kernel_rfl)
theorem tok17 : TyOk E.P 17 ti17 := tyOkV (z := (.pointer none)) (by kernel_rfl) rfl (by kernel_rfl) (by kernel_rfl)
theorem tok21 : TyOk E.P 21 ti21 := tyOkV (z := (.int .i32 0)) (by kernel_rfl) rfl (by kernel_rfl) (by kernel_rfl)
theorem tok22 : TyOk E.P 22 ti22 := tyOkV (z := (.agg #[(.int .i64 0), (.int .i64 0)])) (by kernel_rfl) rfl (by kernel_rfl) (by kernel_rfl)
theorem tok23 : TyOk E.P 23 ti23 := tyOkV (z := (.agg #[(.int .i64 0), (.int .i64 0)])) (by kernel_rfl) rfl (by kernel_rfl) (by kernel_rfl)
theorem tok24 : TyOk E.P 24 ti24 := tyOkV (z := (.agg #[(.int .i64 0), (.int .i64 0), (.int .i64 0), (.int .i64 0), (.int .i64 0), (.string ⟨#[]⟩), (.string ⟨#[]⟩), (.string ⟨#[]⟩)])) (by kernel_rfl) rfl (by kernel_rfl) (by kernel_rfl)
theorem tok25 : TyOk E.P 25 ti25 := tyOkV (z := (.agg #[(.int .i64 0), (.int .i64 0), (.int .i64 0), (.int .i64 0), (.int .i64 0), (.string ⟨#[]⟩), (.string ⟨#[]⟩), (.string ⟨#[]⟩)])) (by kernel_rfl) rfl (by kernel_rfl) (by kernel_rfl)
theorem tok26 : TyOk E.P 26 ti26 := tyOkV (z := (.agg #[(.int .i64 0), (.int .i64 0), (.int .i64 0), (.int .i64 0), (.int .i64 0), (.int .i64 0), (.int .i64 0), (.int .i64 0)])) (by kernel_rfl) rfl (by kernel_rfl) (by kernel_rfl)
theorem tok27 : TyOk E.P 27 ti27 := tyOkV (z := (.agg #[(.int .i64 0), (.int .i64 0), (.int .i64 0), (.int .i64 0), (.int .i64 0), (.int .i64 0), (.int .i64 0), (.int .i64 0)])) (by kernel_rfl) rfl (by kernel_rfl) (by kernel_rfl)
theorem tok28 : TyOk E.P 28 ti28 := tyOkV (z := (.agg #[(.int .i64 0), (.int .i64 0), (.int .i64 0), (.int .i64 0), (.int .i64 0), (.int .i64 0), (.int .i64 0), (.int .i64 0)])) (by kernel_rfl) rfl (by kernel_rfl) (by kernel_rfl)
theorem tok29 : TyOk E.P 29 ti29 := tyOkV (z := (.agg #[(.int .i64 0), (.int .i64 0), (.int .i64 0), (.int .i64 0), (.int .i64 0), (.int .i64 0), (.int .i64 0), (.int .i64 0), (.int .i64 0), (.int .i64 0), (.int .i64 0), (.int .i64 0), (.int .i64 0), (.int .i64 0), (.int .i64 0), (.int .i64 0), (.int .i64 0), (.int .i64 0), (.int .i64 0), (.int .i64 0), (.int .i64 0), (.int .i64 0), (.int .i64 0), (.int .i64 0), (.int .i64 0)])) (by kernel_rfl) rfl (by kernel_rfl) (by kernel_rfl)
theorem tok30 : TyOk E.P 30 ti30 := tyOkV (z := (.agg #[(.int .i64 0), (.int .i64 0), (.int .i64 0), (.int .i64 0), (.int .i64 0), (.int .i64 0), (.int .i64 0), (.int .i64 0), (.int .i64 0), (.int .i64 0), (.int .i64 0), (.int .i64 0), (.int .i64 0), (.int .i64 0), (.int .i64 0), (.int .i64 0), (.int .i64 0), (.int .i64 0), (.int .i64 0), (.int .i64 0), (.int .i64 0), (.int .i64 0), (.int .i64 0), (.int .i64 0), (.int .i64 0)])) (by kernel_rfl) rfl (by kernel_rfl) (by kernel_rfl)
theorem tok31 : TyOk E.P 31 ti31 := tyOkV (z := (.slice none 0 0)) (by kernel_rfl) rfl (by kernel_rfl) (by kernel_rfl)
theorem tok32 : TyOk E.P 32 ti32 := tyOkV (z := (.pointer none)) (by kernel_rfl) rfl (by kernel_rfl) (by kernel_rfl)
theorem tok33 : TyOk E.P 33 ti33 := tyOkV (z := .nilFunc) (by kernel_rfl) rfl (by kernel_rfl) (by kernel_rfl)
theorem tok34 : TyOk E.P 34 ti34 := tyOkV (z := .nilFunc) (by kernel_rfl) rfl (by kernel_rfl) (by kernel_rfl)
theorem tok35 : TyOk E.P 35 ti35 := tyOkV (z := (.int .i64 0)) (by kernel_rfl) rfl (by kernel_rfl) (by kernel_rfl)
theorem tok36 : TyOk E.P 36 ti36 := tyOkV (z := .nilFunc) (by kernel_rfl) rfl (by kernel_rfl) (by kernel_rfl)
theorem tok37 : TyOk E.P 37 ti37 := tyOkV (z := .nilFunc) (by kernel_rfl) rfl (by kernel_rfl) (by kernel_rfl)
theorem tok38 : TyOk E.P 38 ti38 := tyOkV (z := .nilFunc) (by kernel_rfl) rfl (by kernel_rfl) (by kernel_rfl)
theorem tok39 : TyOk E.P 39 ti39 := tyOkV (z := .nilFunc) (by kernel_rfl) rfl (by kernel_rfl) (by kernel_rfl)
theorem tok40 : TyOk E.P 40 ti40 := tyOkV (z := .nilFunc) (by kernel_rfl) rfl (by kernel_rfl) (by kernel_rfl)
theorem tok41 : TyOk E.P 41 ti41 := tyOkV (z := .nilFunc) (by kernel_rfl) rfl (by kernel_rfl) (by kernel_rfl)
theorem tok42 : TyOk E.P 42 ti42 := tyOkV (z := .nilFunc) (by kernel_rfl) rfl (by kernel_rfl) (by kernel_rfl)
theorem tok43 : TyOk E.P 43 ti43 := tyOkV (z := .nilFunc) (by kernel_rfl) rfl (by kernel_rfl) (by kernel_rfl)
theorem tok44 : TyOk E.P 44 ti44 := tyOkV (z := (.pointer none)) (by kernel_rfl) rfl (by kernel_rfl) (by kernel_rfl)
theorem tok45 : TyOk E.P 45 ti45 := tyOkV (z := .nilFunc) (by kernel_rfl) rfl (by kernel_rfl) (by kernel_rfl)
theorem tok46 : TyOk E.P 46 ti46 := tyOkV (z := (.pointer none)) (by kernel_rfl) rfl (by kernel_rfl) (by kernel_rfl)
theorem tok47 : TyOk E.P 47 ti47 := tyOkV (z := (.agg #[(.slice none 0 0), (.int .i64 0), (.int .i64 0)])) (by kernel_rfl) rfl (by kernel_rfl) (by kernel_rfl)
theorem tok48 : TyOk E.P 48 ti48 := tyOkV (z := (.agg #[(.slice none 0 0), (.int .i64 0), (.int .i64 0)])) (by kernel_rfl) rfl (by kernel_rfl) (by kernel_rfl)
theorem tok50 : TyOk E.P 50 ti50 := tyOkV (z := .nilFunc) (by kernel_rfl) rfl (by kernel_rfl) (by kernel_rfl)
theorem tok51 : TyOk E.P 51 ti51 := tyOkV (z := .nilFunc) (by kernel_rfl) rfl (by kernel_rfl) (by kernel_rfl)
theorem tok52 : TyOk E.P 52 ti52 := tyOkV (z := .nilFunc) (by kernel_rfl) rfl (by kernel_rfl) (by kernel_rfl)
theorem tok53 : TyOk E.P 53 ti53 := tyOkV (z := .nilFunc) (by kernel_rfl) rfl (by kernel_rfl) (by kernel_rfl)
theorem tok55 : TyOk E.P 55 ti55 := tyOkV (z := .nilFunc) (by kernel_rfl) rfl (by kernel_rfl) (by kernel_rfl)
theorem tok56 : TyOk E.P 56 ti56 := tyOkV (z := .nilFunc) (by kernel_rfl) rfl (by kernel_rfl) (by kernel_rfl)
theorem tok57 : TyOk E.P 57 ti57 := tyOkV (z := .nilFunc) (by kernel_rfl) rfl (by kernel_rfl) (by kernel_rfl)
theorem tok58 : TyOk E.P 58 ti58 := tyOkV (z := .nilFunc) (by kernel_rfl) rfl (by kernel_rfl) (by kernel_rfl)
theorem tok59 : TyOk E.P 59 ti59 := tyOkV (z := .nilFunc) (by kernel_rfl) rfl (by kernel_rfl) (by kernel_rfl)
theorem tok60 : TyOk E.P 60 ti60 := tyOkV (z := (.slice none 0 0)) (by kernel_rfl) rfl (by kernel_rfl) (by kernel_rfl)
theorem tok61 : TyOk E.P 61 ti61 := tyOkV (z := (.agg #[(.int .i64 0), (.int .i64 0), (.int .i64 0), (.slice none 0 0)])) (by kernel_rfl) rfl (by kernel_rfl) (by kernel_rfl)
theorem tok62 : TyOk E.P 62 ti62 := tyOkV (z := (.agg #[(.int .i64 0), (.int .i64 0), (.int .i64 0), (.slice none 0 0)])) (by kernel_rfl) rfl (by kernel_rfl) (by kernel_rfl)
theorem tok63 : TyOk E.P 63 ti63 := tyOkV (z := (.agg #[(.int .i64 0), (.int .i64 0), (.int .i64 0), (.int .i64 0), (.int .i64 0), (.int .i64 0), (.int .i64 0), (.int .i64 0), (.string ⟨#[]⟩), (.string ⟨#[]⟩), (.string ⟨#[]⟩), (.int .i64 0), (.int .i64 0), (.slice none 0 0), (.int .i64 0), (.int .i64 0), (.int .i64 0), (.int .i64 0), (.int .i64 0), (.int .i64 0), (.int .i64 0), (.int .i64 0), (.int .i64 0), (.int .i64 0), (.int .i64 0), (.int .i64 0), (.int .i64 0), (.int .i64 0), (.int .i64 0), (.int .i64 0), (.int .i64 0), (.int .i64 0), (.int .i64 0), (.int .i64 0), (.int .i64 0), (.int .i64 0), (.int .i64 0), (.int .i64 0), (.int .i64 0), (.int .i64 0), (.int .i64 0), (.int .i64 0), (.int .i64 0), (.int .i64 0), (.int .i64 0), (.int .i64 0), (.int .i64 0), (.int .i64 0), (.int .i64 0), (.int .i64 0), (.int .i64 0), (.int .i64 0), (.slice none 0 0), (.int .i64 0), (.int .i64 0), (.int .i64 0)])) (by kernel_rfl) rfl (by kernel_rfl) (by kernel_rfl)
theorem tok64 : TyOk E.P 64 ti64 := tyOkV (z := (.agg #[(.int .i64 0), (.int .i64 0), (.int .i64 0), (.int .i64 0), (.int .i64 0), (.int .i64 0), (.int .i64 0), (.int .i64 0), (.string ⟨#[]⟩), (.string ⟨#[]⟩), (.string ⟨#[]⟩), (.int .i64 0), (.int .i64 0), (.slice none 0 0), (.int .i64 0), (.int .i64 0), (.int .i64 0), (.int .i64 0), (.int .i64 0), (.int .i64 0), (.int .i64 0), (.int .i64 0), (.int .i64 0), (.int .i64 0), (.int .i64 0), (.int .i64 0), (.int .i64 0), (.int .i64 0), (.int .i64 0), (.int .i64 0), (.int .i64 0), (.int .i64 0), (.int .i64 0), (.int .i64 0), (.int .i64 0), (.int .i64 0), (.int .i64 0), (.int .i64 0), (.int .i64 0), (.int .i64 0), (.int .i64 0), (.int .i64 0), (.int .i64 0), (.int .i64 0), (.int .i64 0), (.int .i64 0), (.int .i64 0), (.int .i64 0), (.int .i64 0), (.int .i64 0), (.int .i64 0), (.int .i64 0), (.slice none 0 0), (.int .i64 0), (.int .i64 0), (.int .i64 0)])) (by kernel_rfl) rfl (by kernel_rfl) (by kernel_rfl)
theorem tok65 : TyOk E.P 65 ti65 := tyOkV (z := (.agg #[(.int .i64 0), (.int .i64 0)])) (by kernel_rfl) rfl (by kernel_rfl) (by kernel_rfl)
theorem tok66 : TyOk E.P 66 ti66 := tyOkV (z := (.agg #[(.int .i64 0), (.int .i64 0)])) (by kernel_rfl) rfl (by kernel_rfl) (by kernel_rfl)
theorem tok67 : TyOk E.P 67 ti67 := tyOkV (z := (.agg #[(.int .i64 0), (.int .i64 0)])) (by kernel_rfl) rfl (by kernel_rfl) (by kernel_rfl)
theorem tok68 : TyOk E.P 68 ti68 := tyOkV (z := (.agg #[(.int .i64 0), (.int .i64 0)])) (by kernel_rfl) rfl (by kernel_rfl) (by kernel_rfl)
theorem tok69 : TyOk E.P 69 ti69 := tyOkV (z := (.slice none 0 0)) (by kernel_rfl) rfl (by kernel_rfl) (by kernel_rfl)
theorem tok70 : TyOk E.P 70 ti70 := tyOkV (z := (.agg #[(.int .i64 0), (.int .i64 0), (.int .i64 0), (.int .i64 0), (.int .i64 0), (.int .i64 0), (.int .i64 0), (.int .i64 0), (.slice none 0 0), (.int .i64 0), (.int .i64 0), (.int .i64 0), (.int .i64 0), (.int .i64 0), (.int .i64 0), (.int .i64 0), (.int .i64 0), (.string ⟨#[]⟩), (.string ⟨#[]⟩), (.string ⟨#[]⟩), (.int .i64 0), (.int .i64 0), (.slice none 0 0), (.int .i64 0), (.int .i64 0), (.int .i64 0), (.int .i64 0), (.int .i64 0), (.int .i64 0), (.int .i64 0), (.int .i64 0), (.int .i64 0), (.int .i64 0), (.int .i64 0), (.int .i64 0), (.int .i64 0), (.int .i64 0), (.int .i64 0), (.int .i64 0), (.int .i64 0), (.int .i64 0), (.int .i64 0), (.int .i64 0), (.int .i64 0), (.int .i64 0), (.int .i64 0), (.int .i64 0), (.int .i64 0), (.int .i64 0), (.int .i64 0), (.int .i64 0), (.int .i64 0), (.int .i64 0), (.int .i64 0), (.int .i64 0), (.int .i64 0), (.int .i64 0), (.int .i64 0), (.int .i64 0), (.int .i64 0), (.int .i64 0), (.slice none 0 0), (.int .i64 0), (.int .i64 0), (.int .i64 0), (.int .i64 0), (.int .i64 0), (.int .i64 0), (.int .i64 0), (.int .i64 0), (.int .i64 0), (.int .i64 0), (.int .i64 0), (.int .i64 0), (.int .i64 0), (.int .i64 0), (.slice none 0 0), (.int .i64 0), (.int .i64 0), (.int .i64 0), (.int .i64 0), (.int .i64 0), (.int .i64 0), (.int .i64 0), (.int .i64 0), (.int .i64 0), (.int .i64 0), (.int .i64 0), (.int .i64 0), (.int .i64 0), (.int .i64 0), (.int .i64 0), (.int .i64 0), (.int .i64 0), (.int .i64 0), (.int .i64 0), (.int .i64 0), (.int .i64 0), (.int .i64 0), (.int .i64 0), (.int .i64 0), (.int .i64 0), (.int .i64 0), (.int .i64 0), (.int .i64 0), (.slice none 0 0)])) (by kernel_rfl) rfl (by kernel_rfl) (by kernel_rfl)
theorem tok71 : TyOk E.P 71 ti71 := tyOkV (z := (.agg #[(.int .i64 0), (.int .i64 0), (.int .i64 0), (.int .i64 0), (.int .i64 0), (.int .i64 0), (.int .i64 0), (.int .i64 0), (.slice none 0 0), (.int .i64 0), (.int .i64 0), (.int .i64 0), (.int .i64 0), (.int .i64 0), (.int .i64 0), (.int .i64 0), (.int .i64 0), (.string ⟨#[]⟩), (.string ⟨#[]⟩), (.string ⟨#[]⟩), (.int .i64 0), (.int .i64 0), (.slice none 0 0), (.int .i64 0), (.int .i64 0), (.int .i64 0), (.int .i64 0), (.int .i64 0), (.int .i64 0), (.int .i64 0), (.int .i64 0), (.int .i64 0), (.int .i64 0), (.int .i64 0), (.int .i64 0), (.int .i64 0), (.int .i64 0), (.int .i64 0), (.int .i64 0), (.int .i64 0), (.int .i64 0), (.int .i64 0), (.int .i64 0), (.int .i64 0), (.int .i64 0), (.int .i64 0), (.int .i64 0), (.int .i64 0), (.int .i64 0), (.int .i64 0), (.int .i64 0), (.int .i64 0), (.int .i64 0), (.int .i64 0), (.int .i64 0), (.int .i64 0), (.int .i64 0), (.int .i64 0), (.int .i64 0), (.int .i64 0), (.int .i64 0), (.slice none 0 0), (.int .i64 0), (.int .i64 0), (.int .i64 0), (.int .i64 0), (.int .i64 0), (.int .i64 0), (.int .i64 0), (.int .i64 0), (.int .i64 0), (.int .i64 0), (.int .i64 0), (.int .i64 0), (.int .i64 0), (.int .i64 0), (.slice none 0 0), (.int .i64 0), (.int .i64 0), (.int .i64 0), (.int .i64 0), (.int .i64 0), (.int .i64 0), (.int .i64 0), (.int .i64 0), (.int .i64 0), (.int .i64 0), (.int .i64 0), (.int .i64 0), (.int .i64 0), (.int .i64 0), (.int .i64 0), (.int .i64 0), (.int .i64 0), (.int .i64 0), (.int .i64 0), (.int .i64 0), (.int .i64 0), (.int .i64 0), (.int .i64 0), (.int .i64 0), (.int .i64 0), (.int .i64 0), (.int .i64 0), (.int .i64 0), (.slice none 0 0)])) (by kernel_rfl) rfl (by kernel_rfl) (by kernel_rfl)
theorem tok73 : TyOk E.P 73 ti73 := tyOkV (z := .nilFunc) (by kernel_rfl) rfl (by kernel_rfl) (by kernel_rfl)
theorem tok74 : TyOk E.P 74 ti74 := tyOkV (z := .nilFunc) (by kernel_rfl) rfl (by kernel_rfl) (by kernel_rfl)
theorem tok75 : TyOk E.P 75 ti75 := tyOkV (z := .nilFunc) (by kernel_rfl) rfl (by kernel_rfl) (by kernel_rfl)
theorem tok77 : TyOk E.P 77 ti77 := tyOkV (z := .nilFunc) (by kernel_rfl) rfl (by kernel_rfl) (by kernel_rfl)
theorem tok78 : TyOk E.P 78 ti78 := tyOkV (z := .nilFunc) (by kernel_rfl) rfl (by kernel_rfl) (by kernel_rfl)
theorem tok79 : TyOk E.P 79 ti79 := tyOkV (z := .nilFunc) (by kernel_rfl) rfl (by kernel_rfl) (by kernel_rfl)
theorem tok81 : TyOk E.P 81 ti81 := tyOkV (z := .nilFunc) (by kernel_rfl) rfl (by kernel_rfl) (by kernel_rfl)
theorem tok82 : TyOk E.P 82 ti82 := tyOkV (z := .nilFunc) (by kernel_rfl) rfl (by kernel_rfl) (by kernel_rfl)
theorem tok83 : TyOk E.P 83 ti83 := tyOkV (z := .nilFunc) (by kernel_rfl) rfl (by kernel_rfl) (by kernel_rfl)
theorem tok84 : TyOk E.P 84 ti84 := tyOkV (z := .nilFunc) (by kernel_rfl) rfl (by kernel_rfl) (by kernel_rfl)
theorem tok85 : TyOk E.P 85 ti85 := tyOkV (z := .nilFunc) (by kernel_rfl) rfl (by kernel_rfl) (by kernel_rfl)
theorem tok86 : TyOk E.P 86 ti86 := tyOkV (z := (.agg #[(.bool false), (.slice none 0 0)])) (by kernel_rfl) rfl (by kernel_rfl) (by kernel_rfl)
theorem tok87 : TyOk E.P 87 ti87 := tyOkV (z := (.agg #[(.bool false), (.slice none 0 0)])) (by kernel_rfl) rfl (by kernel_rfl) (by kernel_rfl)
theorem tok88 : TyOk E.P 88 ti88 := tyOkV (z := .nilFunc) (by kernel_rfl) rfl (by kernel_rfl) (by kernel_rfl)
theorem tok89 : TyOk E.P 89 ti89 := tyOkV (z := .nilFunc) (by kernel_rfl) rfl (by kernel_rfl) (by kernel_rfl)
theorem tok90 : TyOk E.P 90 ti90 := tyOkV (z := (.pointer none)) (by kernel_rfl) rfl (by kernel_rfl) (by kernel_rfl)
theorem tok91 : TyOk E.P 91 ti91 := tyOkV (z := .nilFunc) (by kernel_rfl) rfl (by kernel_rfl) (by kernel_rfl)
theorem tok92 : TyOk E.P 92 ti92 := tyOkV (z := .nilFunc) (by kernel_rfl) rfl (by kernel_rfl) (by kernel_rfl)
theorem tok93 : TyOk E.P 93 ti93 := tyOkV (z := .nilFunc) (by kernel_rfl) rfl (by kernel_rfl) (by kernel_rfl)
theorem tok94 : TyOk E.P 94 ti94 := tyOkV (z := .nilFunc) (by kernel_rfl) rfl (by kernel_rfl) (by kernel_rfl)
theorem tok95 : TyOk E.P 95 ti95 := tyOkV (z := .nilFunc) (by kernel_rfl) rfl (by kernel_rfl) (by kernel_rfl)
theorem tok96 : TyOk E.P 96 ti96 := tyOkV (z := .nilFunc) (by kernel_rfl) rfl (by kernel_rfl) (by kernel_rfl)
theorem tok97 : TyOk E.P 97 ti97 := tyOkV (z := .nilFunc) (by kernel_rfl) rfl (by kernel_rfl) (by kernel_rfl)
theorem tok98 : TyOk E.P 98 ti98 := tyOkV (z := .nilFunc) (by kernel_rfl) rfl (by kernel_rfl) (by kernel_rfl)
theorem tok99 : TyOk E.P 99 ti99 := tyOkV (z := (.agg #[(.bool false), (.slice none 0 0)])) (by kernel_rfl) rfl (by kernel_rfl) (by kernel_rfl)
theorem tok100 : TyOk E.P 100 ti100 := tyOkV (z := .nilFunc) (by kernel_rfl) rfl (by kernel_rfl) (by kernel_rfl)
theorem tok101 : TyOk E.P 101 ti101 := tyOkV (z := (.pointer none)) (by kernel_rfl) rfl (by kernel_rfl) (by kernel_rfl)
theorem tok102 : TyOk E.P 102 ti102 := tyOkV (z := .nilFunc) (by kernel_rfl) rfl (by kernel_rfl) (by kernel_rfl)
theorem tok103 : TyOk E.P 103 ti103 := tyOkV (z := .nilFunc) (by kernel_rfl) rfl (by kernel_rfl) (by kernel_rfl)
theorem tok104 : TyOk E.P 104 ti104 := tyOkV (z := .nilFunc) (by kernel_rfl) rfl (by kernel_rfl) (by kernel_rfl)
theorem tok105 : TyOk E.P 105 ti105 := tyOkV (z := .nilFunc) (by kernel_rfl) rfl (by kernel_rfl) (by kernel_rfl)
theorem tok106 : TyOk E.P 106 ti106 := tyOkV (z := .nilFunc) (by kernel_rfl) rfl (by kernel_rfl) (by kernel_rfl)
theorem tok107 : TyOk E.P 107 ti107 := tyOkV (z := .nilFunc) (by kernel_rfl) rfl (by kernel_rfl) (by kernel_rfl)
theorem tok108 : TyOk E.P 108 ti108 := tyOkV (z := .nilFunc) (by kernel_rfl) rfl (by kernel_rfl) (by kernel_rfl)
theorem tok109 : TyOk E.P 109 ti109 := tyOkV (z := .nilFunc) (by kernel_rfl) rfl (by kernel_rfl) (by kernel_rfl)
theorem tok110 : TyOk E.P 110 ti110 := tyOkV (z := (.agg #[(.pointer none), (.int .i64 0)])) (by kernel_rfl) rfl (by kernel_rfl) (by kernel_rfl)
theorem tok111 : TyOk E.P 111 ti111 := tyOkV (z := (.agg #[(.pointer none), (.int .i64 0)])) (by kernel_rfl) rfl (by kernel_rfl) (by kernel_rfl)
theorem tok112 : TyOk E.P 112 ti112 := tyOkV (z := .nilFunc) (by kernel_rfl) rfl (by kernel_rfl) (by kernel_rfl)
theorem tok113 : TyOk E.P 113 ti113 := tyOkV (z := .nilFunc) (by kernel_rfl) rfl (by kernel_rfl) (by kernel_rfl)
theorem tok114 : TyOk E.P 114 ti114 := tyOkV (z := .nilFunc) (by kernel_rfl) rfl (by kernel_rfl) (by kernel_rfl)
theorem tok115 : TyOk E.P 115 ti115 := tyOkV (z := .nilFunc) (by kernel_rfl) rfl (by kernel_rfl) (by kernel_rfl)
theorem tok116 : TyOk E.P 116 ti116 := tyOkV (z := .nilFunc) (by kernel_rfl) rfl (by kernel_rfl) (by kernel_rfl)
theorem tok117 : TyOk E.P 117 ti117 := tyOkV (z := .nilFunc) (by kernel_rfl) rfl (by kernel_rfl) (by kernel_rfl)
theorem tok118 : TyOk E.P 118 ti118 := tyOkV (z := (.agg #[(.pointer none), (.int .i64 0)])) (by kernel_rfl) rfl (by kernel_rfl) (by kernel_rfl)
theorem tok119 : TyOk E.P 119 ti119 := tyOkV (z := (.agg #[(.pointer none), (.int .i64 0)])) (by kernel_rfl) rfl (by kernel_rfl) (by kernel_rfl)
theorem tok120 : TyOk E.P 120 ti120 := tyOkV (z := .nilFunc) (by kernel_rfl) rfl (by kernel_rfl) (by kernel_rfl)
theorem tok121 : TyOk E.P 121 ti121 := tyOkV (z := .nilFunc) (by kernel_rfl) rfl (by kernel_rfl) (by kernel_rfl)
theorem tok122 : TyOk E.P 122 ti122 := tyOkV (z := .nilFunc) (by kernel_rfl) rfl (by kernel_rfl) (by kernel_rfl)
theorem tok123 : TyOk E.P 123 ti123 := tyOkV (z := .nilFunc) (by kernel_rfl) rfl (by kernel_rfl) (by kernel_rfl)
theorem tok124 : TyOk E.P 124 ti124 := tyOkV (z := .nilFunc) (by kernel_rfl) rfl (by kernel_rfl) (by kernel_rfl)
theorem tok126 : TyOk E.P 126 ti126 := tyOkV (z := .nilFunc) (by kernel_rfl) rfl (by kernel_rfl) (by kernel_rfl)
theorem tok127 : TyOk E.P 127 ti127 := tyOkV (z := .nilFunc) (by kernel_rfl) rfl (by kernel_rfl) (by kernel_rfl)
theorem tok128 : TyOk E.P 128 ti128 := tyOkV (z := .nilFunc) (by kernel_rfl) rfl (by kernel_rfl) (by kernel_rfl)
theorem tok129 : TyOk E.P 129 ti129 := tyOkV (z := .nilFunc) (by kernel_rfl) rfl (by kernel_rfl) (by kernel_rfl)
theorem tok131 : TyOk E.P 131 ti131 := tyOkV (z := .nilFunc) (by kernel_rfl) rfl (by kernel_rfl) (by kernel_rfl)
theorem tok132 : TyOk E.P 132 ti132 := tyOkV (z := .nilFunc) (by kernel_rfl) rfl (by kernel_rfl) (by kernel_rfl)
theorem tok133 : TyOk E.P 133 ti133 := tyOkV (z := .nilFunc) (by kernel_rfl) rfl (by kernel_rfl) (by kernel_rfl)
theorem tok135 : TyOk E.P 135 ti135 := tyOkV (z := .nilFunc) (by kernel_rfl) rfl (by kernel_rfl) (by kernel_rfl)
theorem tok136 : TyOk E.P 136 ti136 := tyOkV (z := .nilFunc) (by kernel_rfl) rfl (by kernel_rfl) (by kernel_rfl)
theorem tok137 : TyOk E.P 137 ti137 := tyOkV (z := .nilFunc) (by kernel_rfl) rfl (by kernel_rfl) (by kernel_rfl)
theorem tok138 : TyOk E.P 138 ti138 := tyOkV (z := .nilFunc) (by kernel_rfl) rfl (by kernel_rfl) (by kernel_rfl)
theorem tok139 : TyOk E.P 139 ti139 := tyOkV (z := .nilFunc) (by kernel_rfl) rfl (by kernel_rfl) (by kernel_rfl)
theorem tok140 : TyOk E.P 140 ti140 := tyOkV (z := .nilFunc) (by kernel_rfl) rfl (by kernel_rfl) (by kernel_rfl)
theorem tok141 : TyOk E.P 141 ti141 := tyOkV (z := .nilFunc) (by kernel_rfl) rfl (by kernel_rfl) (by kernel_rfl)
theorem tok142 : TyOk E.P 142 ti142 := tyOkV (z := .nilFunc) (by kernel_rfl) rfl (by kernel_rfl) (by kernel_rfl)
theorem tok143 : TyOk E.P 143 ti143 := tyOkV (z := (.slice none 0 0)) (by kernel_rfl) rfl (by kernel_rfl) (by kernel_rfl)
theorem tok144 : TyOk E.P 144 ti144 := tyOkV (z := .nilFunc) (by kernel_rfl) rfl (by kernel_rfl) (by kernel_rfl)
theorem tok145 : TyOk E.P 145 ti145 := tyOkV (z := (.slice none 0 0)) (by kernel_rfl) rfl (by kernel_rfl) (by kernel_rfl)
theorem tok146 : TyOk E.P 146 ti146 := tyOkV (z := .nilFunc) (by kernel_rfl) rfl (by kernel_rfl) (by kernel_rfl)
theorem tok147 : TyOk E.P 147 ti147 := tyOkV (z := (.pointer none)) (by kernel_rfl) rfl (by kernel_rfl) (by kernel_rfl)
theorem tok148 : TyOk E.P 148 ti148 := tyOkV (z := .nilFunc) (by kernel_rfl) rfl (by kernel_rfl) (by kernel_rfl)
theorem tok149 : TyOk E.P 149 ti149 := tyOkV (z := (.pointer none)) (by kernel_rfl) rfl (by kernel_rfl) (by kernel_rfl)
theorem tok151 : TyOk E.P 151 ti151 := tyOkV (z := .nilFunc) (by kernel_rfl) rfl (by kernel_rfl) (by kernel_rfl)
theorem tok152 : TyOk E.P 152 ti152 := tyOkV (z := .nilFunc) (by kernel_rfl) rfl (by kernel_rfl) (by kernel_rfl)
theorem tok153 : TyOk E.P 153 ti153 := tyOkV (z := (.pointer none)) (by kernel_rfl) rfl (by kernel_rfl) (by kernel_rfl)
theorem tok154 : TyOk E.P 154 ti154 := tyOkV (z := .nilFunc) (by kernel_rfl) rfl (by kernel_rfl) (by kernel_rfl)
theorem tok155 : TyOk E.P 155 ti155 := tyOkV (z := .nilFunc) (by kernel_rfl) rfl (by kernel_rfl) (by kernel_rfl)
theorem tok156 : TyOk E.P 156 ti156 := tyOkV (z := .nilFunc) (by kernel_rfl) rfl (by kernel_rfl) (by kernel_rfl)
theorem tok157 : TyOk E.P 157 ti157 := tyOkV (z := .nilFunc) (by kernel_rfl) rfl (by kernel_rfl) (by kernel_rfl)
theorem tok158 : TyOk E.P 158 ti158 := tyOkV (z := .nilFunc) (by kernel_rfl) rfl (by kernel_rfl) (by kernel_rfl)
theorem tok159 : TyOk E.P 159 ti159 := tyOkV (z := .nilFunc) (by kernel_rfl) rfl (by kernel_rfl) (by kernel_rfl)
theorem tok160 : TyOk E.P 160 ti160 := tyOkV (z := .nilFunc) (by kernel_rfl) rfl (by kernel_rfl) (by kernel_rfl)
theorem tok161 : TyOk E.P 161 ti161 := tyOkV (z := .nilFunc) (by kernel_rfl) rfl (by kernel_rfl) (by kernel_rfl)
theorem tok162 : TyOk E.P 162 ti162 := tyOkV (z := .nilFunc) (by kernel_rfl) rfl (by kernel_rfl) (by kernel_rfl)
theorem tok163 : TyOk E.P 163 ti163 := tyOkV (z := .nilFunc) (by kernel_rfl) rfl (by kernel_rfl) (by kernel_rfl)
theorem tok164 : TyOk E.P 164 ti164 := tyOkV (z := .nilFunc) (by kernel_rfl) rfl (by kernel_rfl) (by kernel_rfl)
theorem tok165 : TyOk E.P 165 ti165 := tyOkV (z := .nilFunc) (by kernel_rfl) rfl (by kernel_rfl) (by kernel_rfl)
theorem tok166 : TyOk E.P 166 ti166 := tyOkV (z := .nilFunc) (by kernel_rfl) rfl (by kernel_rfl) (by kernel_rfl)
theorem tok167 : TyOk E.P 167 ti167 := tyOkV (z := (.int .u32 0)) (by kernel_rfl) rfl (by kernel_rfl) (by kernel_rfl)
theorem tok168 : TyOk E.P 168 ti168 := tyOkV (z := .nilFunc) (by kernel_rfl) rfl (by kernel_rfl) (by kernel_rfl)
theorem tok169 : TyOk E.P 169 ti169 := tyOkV (z := .nilFunc) (by kernel_rfl) rfl (by kernel_rfl) (by kernel_rfl)
theorem tok170 : TyOk E.P 170 ti170 := tyOkV (z := .nilFunc) (by kernel_rfl) rfl (by kernel_rfl) (by kernel_rfl)
theorem tok171 : TyOk E.P 171 ti171 := tyOkV (z := (.int .u64 0)) (by kernel_rfl) rfl (by kernel_rfl) (by kernel_rfl)
theorem tok172 : TyOk E.P 172 ti172 := tyOkV (z := .nilFunc) (by kernel_rfl) rfl (by kernel_rfl) (by kernel_rfl)
theorem tok173 : TyOk E.P 173 ti173 := tyOkV (z := .nilFunc) (by kernel_rfl) rfl (by kernel_rfl) (by kernel_rfl)
theorem tok174 : TyOk E.P 174 ti174 := tyOkV (z := .nilFunc) (by kernel_rfl) rfl (by kernel_rfl) (by kernel_rfl)
theorem tok175 : TyOk E.P 175 ti175 := tyOkV (z := (.pointer none)) (by kernel_rfl) rfl (by kernel_rfl) (by kernel_rfl)
theorem tok176 : TyOk E.P 176 ti176 := tyOkV (z := .nilFunc) (by kernel_rfl) rfl (by kernel_rfl) (by kernel_rfl)
theorem tok177 : TyOk E.P 177 ti177 := tyOkV (z := (.agg #[(.int .i64 0), (.int .i64 0), (.int .i64 0), (.int .i64 0), (.int .i64 0), (.int .i64 0), (.int .i64 0), (.int .i64 0), (.int .i64 0), (.int .i64 0), (.int .i64 0), (.string ⟨#[]⟩), (.string ⟨#[]⟩), (.string ⟨#[]⟩), (.int .i64 0), (.int .i64 0), (.slice none 0 0), (.int .i64 0), (.int .i64 0), (.int .i64 0), (.int .i64 0), (.int .i64 0), (.int .i64 0), (.int .i64 0), (.int .i64 0), (.int .i64 0), (.int .i64 0), (.int .i64 0), (.int .i64 0), (.int .i64 0), (.int .i64 0), (.int .i64 0), (.int .i64 0), (.int .i64 0), (.int .i64 0), (.int .i64 0), (.int .i64 0), (.int .i64 0), (.int .i64 0), (.int .i64 0), (.int .i64 0), (.int .i64 0), (.int .i64 0), (.int .i64 0), (.int .i64 0), (.int .i64 0), (.int .i64 0), (.int .i64 0), (.int .i64 0), (.int .i64 0), (.int .i64 0), (.int .i64 0), (.int .i64 0), (.int .i64 0), (.int .i64 0), (.slice none 0 0), (.int .i64 0), (.int .i64 0), (.int .i64 0)])) (by kernel_rfl) rfl (by kernel_rfl) (by kernel_rfl)
theorem tok178 : TyOk E.P 178 ti178 := tyOkV (z := (.agg #[(.int .i64 0), (.int .i64 0), (.int .i64 0), (.int .i64 0), (.int .i64 0), (.int .i64 0), (.int .i64 0), (.int .i64 0), (.int .i64 0), (.int .i64 0), (.int .i64 0), (.string ⟨#[]⟩), (.string ⟨#[]⟩), (.string ⟨#[]⟩), (.int .i64 0), (.int .i64 0), (.slice none 0 0), (.int .i64 0), (.int .i64 0), (.int .i64 0), (.int .i64 0), (.int .i64 0), (.int .i64 0), (.int .i64 0), (.int .i64 0), (.int .i64 0), (.int .i64 0), (.int .i64 0), (.int .i64 0), (.int .i64 0), (.int .i64 0), (.int .i64 0), (.int .i64 0), (.int .i64 0), (.int .i64 0), (.int .i64 0), (.int .i64 0), (.int .i64 0), (.int .i64 0), (.int .i64 0), (.int .i64 0), (.int .i64 0), (.int .i64 0), (.int .i64 0), (.int .i64 0), (.int .i64 0), (.int .i64 0), (.int .i64 0), (.int .i64 0), (.int .i64 0), (.int .i64 0), (.int .i64 0), (.int .i64 0), (.int .i64 0), (.int .i64 0), (.slice none 0 0), (.int .i64 0), (.int .i64 0), (.int .i64 0)])) (by kernel_rfl) rfl (by kernel_rfl) (by kernel_rfl)
theorem tok179 : TyOk E.P 179 ti179 := tyOkV (z := .nilFunc) (by kernel_rfl) rfl (by kernel_rfl) (by kernel_rfl)
theorem tok180 : TyOk E.P 180 ti180 := tyOkV (z := .nilFunc) (by kernel_rfl) rfl (by kernel_rfl) (by kernel_rfl)
theorem tok181 : TyOk E.P 181 ti181 := tyOkV (z := (.slice none 0 0)) (by kernel_rfl) rfl (by kernel_rfl) (by kernel_rfl)
theorem tok182 : TyOk E.P 182 ti182 := tyOkV (z := .nilFunc) (by kernel_rfl) rfl (by kernel_rfl) (by kernel_rfl)
theorem tok183 : TyOk E.P 183 ti183 := tyOkV (z := (.int .u64 0)) (by kernel_rfl) rfl (by kernel_rfl) (by kernel_rfl)
theorem tok184 : TyOk E.P 184 ti184 := tyOkV (z := (.slice none 0 0)) (by kernel_rfl) rfl (by kernel_rfl) (by kernel_rfl)
theorem tok185 : TyOk E.P 185 ti185 := tyOkV (z := (.slice none 0 0)) (by kernel_rfl) rfl (by kernel_rfl) (by kernel_rfl)
theorem tok187 : TyOk E.P 187 ti187 := tyOkV (z := .nilFunc) (by kernel_rfl) rfl (by kernel_rfl) (by kernel_rfl)
theorem tok188 : TyOk E.P 188 ti188 := tyOkV (z := .nilFunc) (by kernel_rfl) rfl (by kernel_rfl) (by kernel_rfl)
theorem tok189 : TyOk E.P 189 ti189 := tyOkV (z := .nilFunc) (by kernel_rfl) rfl (by kernel_rfl) (by kernel_rfl)
theorem tok190 : TyOk E.P 190 ti190 := tyOkV (z := (.slice none 0 0)) (by kernel_rfl) rfl (by kernel_rfl) (by kernel_rfl)
theorem tok191 : TyOk E.P 191 ti191 := tyOkV (z := .nilFunc) (by kernel_rfl) rfl (by kernel_rfl) (by kernel_rfl)
theorem tok192 : TyOk E.P 192 ti192 := tyOkV (z := .nilFunc) (by kernel_rfl) rfl (by kernel_rfl) (by kernel_rfl)
theorem tok193 : TyOk E.P 193 ti193 := tyOkV (z := .nilFunc) (by kernel_rfl) rfl (by kernel_rfl) (by kernel_rfl)
theorem tok194 : TyOk E.P 194 ti194 := tyOkV (z := (.slice none 0 0)) (by kernel_rfl) rfl (by kernel_rfl) (by kernel_rfl)
theorem tok195 : TyOk E.P 195 ti195 := tyOkV (z := .nilFunc) (by kernel_rfl) rfl (by kernel_rfl) (by kernel_rfl)
theorem tok196 : TyOk E.P 196 ti196 := tyOkV (z := .nilFunc) (by kernel_rfl) rfl (by kernel_rfl) (by kernel_rfl)
theorem tok197 : TyOk E.P 197 ti197 := tyOkV (z := .nilFunc) (by kernel_rfl) rfl (by kernel_rfl) (by kernel_rfl)
theorem tok199 : TyOk E.P 199 ti199 := tyOkV (z := .nilFunc) (by kernel_rfl) rfl (by kernel_rfl) (by kernel_rfl)
theorem tok200 : TyOk E.P 200 ti200 := tyOkV (z := .nilFunc) (by kernel_rfl) rfl (by kernel_rfl) (by kernel_rfl)
theorem tok201 : TyOk E.P 201 ti201 := tyOkV (z := .nilFunc) (by kernel_rfl) rfl (by kernel_rfl) (by kernel_rfl)
theorem tok202 : TyOk E.P 202 ti202 := tyOkV (z := .nilFunc) (by kernel_rfl) rfl (by kernel_rfl) (by kernel_rfl)
theorem tok211 : TyOk E.P 211 ti211 := tyOkV (z := (.pointer none)) (by kernel_rfl) rfl (by kernel_rfl) (by kernel_rfl)
theorem eOk : E.Ok := by
  intro t i h
  have h' : tyT t = some i := h
  unfold tyT at h'
  split at h' <;> first
    | (cases h'; first | exact tok1 | exact tok2 | exact tok3 | exact tok4 | exact tok5 | exact tok9 | exact tok12 | exact tok17 | exact tok21 | exact tok22 | exact tok23 | exact tok24 | exact tok25 | exact tok26 | exact tok27 | exact tok28 | exact tok29 | exact tok30 | exact tok31 | exact tok32 | exact tok33 | exact tok34 | exact tok35 | exact tok36 | exact tok37 | exact tok38 | exact tok39 | exact tok40 | exact tok41 | exact tok42 | exact tok43 | exact tok44 | exact tok45 | exact tok46 | exact tok47 | exact tok48 | exact tok50 | exact tok51 | exact tok52 | exact tok53 | exact tok55 | exact tok56 | exact tok57 | exact tok58 | exact tok59 | exact tok60 | exact tok61 | exact tok62 | exact tok63 | exact tok64 | exact tok65 | exact tok66 | exact tok67 | exact tok68 | exact tok69 | exact tok70 | exact tok71 | exact tok73 | exact tok74 | exact tok75 | exact tok77 | exact tok78 | exact tok79 | exact tok81 | exact tok82 | exact tok83 | exact tok84 | exact tok85 | exact tok86 | exact tok87 | exact tok88 | exact tok89 | exact tok90 | exact tok91 | exact tok92 | exact tok93 | exact tok94 | exact tok95 | exact tok96 | exact tok97 | exact tok98 | exact tok99 | exact tok100 | exact tok101 | exact tok102 | exact tok103 | exact tok104 | exact tok105 | exact tok106 | exact tok107 | exact tok108 | exact tok109 | exact tok110 | exact tok111 | exact tok112 | exact tok113 | exact tok114 | exact tok115 | exact tok116 | exact tok117 | exact tok118 | exact tok119 | exact tok120 | exact tok121 | exact tok122 | exact tok123 | exact tok124 | exact tok126 | exact tok127 | exact tok128 | exact tok129 | exact tok131 | exact tok132 | exact tok133 | exact tok135 | exact tok136 | exact tok137 | exact tok138 | exact tok139 | exact tok140 | exact tok141 | exact tok142 | exact tok143 | exact tok144 | exact tok145 | exact tok146 | exact tok147 | exact tok148 | exact tok149 | exact tok151 | exact tok152 | exact tok153 | exact tok154 | exact tok155 | exact tok156 | exact tok157 | exact tok158 | exact tok159 | exact tok160 | exact tok161 | exact tok162 | exact tok163 | exact tok164 | exact tok165 | exact tok166 | exact tok167 | exact tok168 | exact tok169 | exact tok170 | exact tok171 | exact tok172 | exact tok173 | exact tok174 | exact tok175 | exact tok176 | exact tok177 | exact tok178 | exact tok179 | exact tok180 | exact tok181 | exact tok182 | exact tok183 | exact tok184 | exact tok185 | exact tok187 | exact tok188 | exact tok189 | exact tok190 | exact tok191 | exact tok192 | exact tok193 | exact tok194 | exact tok195 | exact tok196 | exact tok197 | exact tok199 | exact tok200 | exact tok201 | exact tok202 | exact tok211)
    | cases h'
theorem eEq : E.EqOk := by
  intro t ks h
  have h' : eqT t = some ks := h
  unfold eqT at h'
  split at h' <;> first
    | (cases h'; exact ⟨by kernel_rfl, by kernel_rfl, by kernel_rfl⟩)
    | cases h'
theorem eGood : Go.Ev.Good E := ⟨eOk, eEq, by kernel_rfl⟩
structure GStamp where
  Time : Int
  Site : Int
instance : Inhabited GStamp := ⟨⟨default, default⟩⟩
structure GOp where
  Stamp : GStamp
  Kind : Int
  Node : Int
  Parent : Int
  Name : List UInt8
  Key : List UInt8
  Value : List UInt8
instance : Inhabited GOp := ⟨⟨default, default, default, default, default, default, default⟩⟩
structure GEpoch where
  Number : Int
  States : Vector (Int) 8
  Seals : Vector (Int) 8
  Sponsor : Vector (Int) 8
instance : Inhabited GEpoch := ⟨⟨default, default, default, default⟩⟩
structure Gorchardref04_Reader where
  B : List (Int)
  At : Int
  E : Int
instance : Inhabited Gorchardref04_Reader := ⟨⟨default, default, default⟩⟩
structure GPart where
  Snap : Int
  Index : Int
  Many : Int
  Data : List (Int)
instance : Inhabited GPart := ⟨⟨default, default, default, default⟩⟩
structure GEntry where
  Kind : Int
  Session : Int
  Request : Int
  Op : GOp
  Origin : Int
  Seq : Int
  Ops : List (GOp)
  Epoch : GEpoch
  From : Int
  Vector_ : Vector (Int) 8
  Clock : Int
  Part : GPart
  Site : Int
  Sponsor : Int
  Length : Int
instance : Inhabited GEntry := ⟨⟨default, default, default, default, default, default, default, default, default, default, default, default, default, default, default⟩⟩
structure GAddr where
  Group : Int
  Replica : Int
instance : Inhabited GAddr := ⟨⟨default, default⟩⟩
structure GBallot where
  Round : Int
  Replica : Int
instance : Inhabited GBallot := ⟨⟨default, default⟩⟩
structure GSlotted where
  Slot : Int
  Ballot : GBallot
  Entry : GEntry
instance : Inhabited GSlotted := ⟨⟨default, default, default⟩⟩
structure GMsg where
  Kind : Int
  From : GAddr
  To : GAddr
  Ballot : GBallot
  Slot : Int
  List_ : List (GSlotted)
  Entry : GEntry
  Number : Int
  Vector_ : Vector (Int) 8
  Clock : Int
  Origin : Int
  Ops : List (GOp)
  Epoch : GEpoch
  Part : GPart
instance : Inhabited GMsg := ⟨⟨default, default, default, default, default, default, default, default, default, default, default, default, default, default⟩⟩
structure Gwire_Writer where
  made : Bool
  b : List (Int)
instance : Inhabited Gwire_Writer := ⟨⟨default, default⟩⟩
@[reducible] def τ : Nat → Type
  | 2 => Int
  | 3 => Int
  | 4 => Bool
  | 5 => Int
  | 9 => List UInt8
  | 12 => Int
  | 21 => Int
  | 22 => GStamp
  | 23 => GStamp
  | 24 => GOp
  | 25 => GOp
  | 26 => Vector (Int) 8
  | 27 => Vector (Int) 8
  | 28 => Vector (Int) 8
  | 29 => GEpoch
  | 30 => GEpoch
  | 31 => List (Int)
  | 35 => Int
  | 47 => Gorchardref04_Reader
  | 48 => Gorchardref04_Reader
  | 60 => List (GOp)
  | 61 => GPart
  | 62 => GPart
  | 63 => GEntry
  | 64 => GEntry
  | 65 => GAddr
  | 66 => GAddr
  | 67 => GBallot
  | 68 => GBallot
  | 69 => List (GSlotted)
  | 70 => GMsg
  | 71 => GMsg
  | 86 => Gwire_Writer
  | 87 => Gwire_Writer
  | 99 => Gwire_Writer
  | 143 => List (Int)
  | 145 => List (Int)
  | 167 => Int
  | 171 => Int
  | 177 => GSlotted
  | 178 => GSlotted
  | 181 => List (List UInt8)
  | 183 => Int
  | 190 => List (GAddr)
  | 194 => List (List (Int))
  | _ => Unit
def cel2 (x : Int) : List AV := [.v (.int .i64 x)]
def enc2 (x : Int) : TV τ := .int .i64 x
def dec2 (x : TV τ) : Option (Int) := dInt .i64 x
def beq2 (x y : Int) : Bool := (x == y)
def cel3 (x : Int) : List AV := [.v (.int .i64 x)]
def enc3 (x : Int) : TV τ := .int .i64 x
def dec3 (x : TV τ) : Option (Int) := dInt .i64 x
def beq3 (x y : Int) : Bool := (x == y)
def cel4 (x : Bool) : List AV := [.v (.bool x)]
def enc4 (x : Bool) : TV τ := .bool x
def dec4 (x : TV τ) : Option (Bool) := dBool x
def beq4 (x y : Bool) : Bool := (x == y)
def cel5 (x : Int) : List AV := [.v (.int .u8 x)]
def enc5 (x : Int) : TV τ := .int .u8 x
def dec5 (x : TV τ) : Option (Int) := dInt .u8 x
def beq5 (x y : Int) : Bool := (x == y)
def cel9 (x : List UInt8) : List AV := [.v (.string ⟨⟨x⟩⟩)]
def enc9 (x : List UInt8) : TV τ := .str x
def dec9 (x : TV τ) : Option (List UInt8) := dStr x
def beq9 (x y : List UInt8) : Bool := (x == y)
def cel12 (x : Int) : List AV := [.v (.int .u64 x)]
def enc12 (x : Int) : TV τ := .int .u64 x
def dec12 (x : TV τ) : Option (Int) := dInt .u64 x
def beq12 (x y : Int) : Bool := (x == y)
def cel21 (x : Int) : List AV := [.v (.int .i32 x)]
def enc21 (x : Int) : TV τ := .int .i32 x
def dec21 (x : TV τ) : Option (Int) := dInt .i32 x
def beq21 (x y : Int) : Bool := (x == y)
def cel22 (x : GStamp) : List AV := (cel2 x.Time ++ (cel3 x.Site ++ []))
def enc22 (x : GStamp) : TV τ := .agg [enc2 x.Time, enc3 x.Site]
def dec22 (x : TV τ) : Option (GStamp) := (match x with | .agg [x0, x1] => (match dec2 x0 with | some a0 => (match dec3 x1 with | some a1 => some ⟨a0, a1⟩ | none => none) | none => none) | _ => none)
def beq22 (x y : GStamp) : Bool := (beq2 x.Time y.Time && (beq3 x.Site y.Site && true))
def cel23 (x : GStamp) : List AV := (cel2 x.Time ++ (cel3 x.Site ++ []))
def enc23 (x : GStamp) : TV τ := .agg [enc2 x.Time, enc3 x.Site]
def dec23 (x : TV τ) : Option (GStamp) := (match x with | .agg [x0, x1] => (match dec2 x0 with | some a0 => (match dec3 x1 with | some a1 => some ⟨a0, a1⟩ | none => none) | none => none) | _ => none)
def beq23 (x y : GStamp) : Bool := (beq2 x.Time y.Time && (beq3 x.Site y.Site && true))
def cel24 (x : GOp) : List AV := (cel23 x.Stamp ++ (cel3 x.Kind ++ (cel2 x.Node ++ (cel2 x.Parent ++ (cel9 x.Name ++ (cel9 x.Key ++ (cel9 x.Value ++ [])))))))
def enc24 (x : GOp) : TV τ := .agg [enc23 x.Stamp, enc3 x.Kind, enc2 x.Node, enc2 x.Parent, enc9 x.Name, enc9 x.Key, enc9 x.Value]
def dec24 (x : TV τ) : Option (GOp) := (match x with | .agg [x0, x1, x2, x3, x4, x5, x6] => (match dec23 x0 with | some a0 => (match dec3 x1 with | some a1 => (match dec2 x2 with | some a2 => (match dec2 x3 with | some a3 => (match dec9 x4 with | some a4 => (match dec9 x5 with | some a5 => (match dec9 x6 with | some a6 => some ⟨a0, a1, a2, a3, a4, a5, a6⟩ | none => none) | none => none) | none => none) | none => none) | none => none) | none => none) | none => none) | _ => none)
def beq24 (x y : GOp) : Bool := (beq23 x.Stamp y.Stamp && (beq3 x.Kind y.Kind && (beq2 x.Node y.Node && (beq2 x.Parent y.Parent && (beq9 x.Name y.Name && (beq9 x.Key y.Key && (beq9 x.Value y.Value && true)))))))
def cel25 (x : GOp) : List AV := (cel23 x.Stamp ++ (cel3 x.Kind ++ (cel2 x.Node ++ (cel2 x.Parent ++ (cel9 x.Name ++ (cel9 x.Key ++ (cel9 x.Value ++ [])))))))
def enc25 (x : GOp) : TV τ := .agg [enc23 x.Stamp, enc3 x.Kind, enc2 x.Node, enc2 x.Parent, enc9 x.Name, enc9 x.Key, enc9 x.Value]
def dec25 (x : TV τ) : Option (GOp) := (match x with | .agg [x0, x1, x2, x3, x4, x5, x6] => (match dec23 x0 with | some a0 => (match dec3 x1 with | some a1 => (match dec2 x2 with | some a2 => (match dec2 x3 with | some a3 => (match dec9 x4 with | some a4 => (match dec9 x5 with | some a5 => (match dec9 x6 with | some a6 => some ⟨a0, a1, a2, a3, a4, a5, a6⟩ | none => none) | none => none) | none => none) | none => none) | none => none) | none => none) | none => none) | _ => none)
def beq25 (x y : GOp) : Bool := (beq23 x.Stamp y.Stamp && (beq3 x.Kind y.Kind && (beq2 x.Node y.Node && (beq2 x.Parent y.Parent && (beq9 x.Name y.Name && (beq9 x.Key y.Key && (beq9 x.Value y.Value && true)))))))
def cel26 (x : Vector (Int) 8) : List AV := x.toList.flatMap cel3
def enc26 (x : Vector (Int) 8) : TV τ := .arr 3 8 x
def dec26 (x : TV τ) : Option (Vector (Int) 8) := dArr 3 8 x
def beq26 (x y : Vector (Int) 8) : Bool := vbeq beq3 x y
def cel27 (x : Vector (Int) 8) : List AV := x.toList.flatMap cel2
def enc27 (x : Vector (Int) 8) : TV τ := .arr 2 8 x
def dec27 (x : TV τ) : Option (Vector (Int) 8) := dArr 2 8 x
def beq27 (x y : Vector (Int) 8) : Bool := vbeq beq2 x y
def cel28 (x : Vector (Int) 8) : List AV := x.toList.flatMap cel2
def enc28 (x : Vector (Int) 8) : TV τ := .arr 2 8 x
def dec28 (x : TV τ) : Option (Vector (Int) 8) := dArr 2 8 x
def beq28 (x y : Vector (Int) 8) : Bool := vbeq beq2 x y
def cel29 (x : GEpoch) : List AV := (cel2 x.Number ++ (cel26 x.States ++ (cel28 x.Seals ++ (cel26 x.Sponsor ++ []))))
def enc29 (x : GEpoch) : TV τ := .agg [enc2 x.Number, enc26 x.States, enc28 x.Seals, enc26 x.Sponsor]
def dec29 (x : TV τ) : Option (GEpoch) := (match x with | .agg [x0, x1, x2, x3] => (match dec2 x0 with | some a0 => (match dec26 x1 with | some a1 => (match dec28 x2 with | some a2 => (match dec26 x3 with | some a3 => some ⟨a0, a1, a2, a3⟩ | none => none) | none => none) | none => none) | none => none) | _ => none)
def beq29 (x y : GEpoch) : Bool := (beq2 x.Number y.Number && (beq26 x.States y.States && (beq28 x.Seals y.Seals && (beq26 x.Sponsor y.Sponsor && true))))
def cel30 (x : GEpoch) : List AV := (cel2 x.Number ++ (cel26 x.States ++ (cel28 x.Seals ++ (cel26 x.Sponsor ++ []))))
def enc30 (x : GEpoch) : TV τ := .agg [enc2 x.Number, enc26 x.States, enc28 x.Seals, enc26 x.Sponsor]
def dec30 (x : TV τ) : Option (GEpoch) := (match x with | .agg [x0, x1, x2, x3] => (match dec2 x0 with | some a0 => (match dec26 x1 with | some a1 => (match dec28 x2 with | some a2 => (match dec26 x3 with | some a3 => some ⟨a0, a1, a2, a3⟩ | none => none) | none => none) | none => none) | none => none) | _ => none)
def beq30 (x y : GEpoch) : Bool := (beq2 x.Number y.Number && (beq26 x.States y.States && (beq28 x.Seals y.Seals && (beq26 x.Sponsor y.Sponsor && true))))
def cel31 (x : List (Int)) : List AV := [.asl 1 (x.map cel5)]
def enc31 (x : List (Int)) : TV τ := .sl 5 x .any
def dec31 (x : TV τ) : Option (List (Int)) := dSl 5 x
def cel35 (x : Int) : List AV := [.v (.int .i64 x)]
def enc35 (x : Int) : TV τ := .int .i64 x
def dec35 (x : TV τ) : Option (Int) := dInt .i64 x
def beq35 (x y : Int) : Bool := (x == y)
def cel47 (x : Gorchardref04_Reader) : List AV := (cel31 x.B ++ (cel3 x.At ++ (cel35 x.E ++ [])))
def enc47 (x : Gorchardref04_Reader) : TV τ := .agg [enc31 x.B, enc3 x.At, enc35 x.E]
def dec47 (x : TV τ) : Option (Gorchardref04_Reader) := (match x with | .agg [x0, x1, x2] => (match dec31 x0 with | some a0 => (match dec3 x1 with | some a1 => (match dec35 x2 with | some a2 => some ⟨a0, a1, a2⟩ | none => none) | none => none) | none => none) | _ => none)
def cel48 (x : Gorchardref04_Reader) : List AV := (cel31 x.B ++ (cel3 x.At ++ (cel35 x.E ++ [])))
def enc48 (x : Gorchardref04_Reader) : TV τ := .agg [enc31 x.B, enc3 x.At, enc35 x.E]
def dec48 (x : TV τ) : Option (Gorchardref04_Reader) := (match x with | .agg [x0, x1, x2] => (match dec31 x0 with | some a0 => (match dec3 x1 with | some a1 => (match dec35 x2 with | some a2 => some ⟨a0, a1, a2⟩ | none => none) | none => none) | none => none) | _ => none)
def cel60 (x : List (GOp)) : List AV := [.asl 8 (x.map cel25)]
def enc60 (x : List (GOp)) : TV τ := .sl 25 x .any
def dec60 (x : TV τ) : Option (List (GOp)) := dSl 25 x
def cel61 (x : GPart) : List AV := (cel2 x.Snap ++ (cel3 x.Index ++ (cel3 x.Many ++ (cel31 x.Data ++ []))))
def enc61 (x : GPart) : TV τ := .agg [enc2 x.Snap, enc3 x.Index, enc3 x.Many, enc31 x.Data]
def dec61 (x : TV τ) : Option (GPart) := (match x with | .agg [x0, x1, x2, x3] => (match dec2 x0 with | some a0 => (match dec3 x1 with | some a1 => (match dec3 x2 with | some a2 => (match dec31 x3 with | some a3 => some ⟨a0, a1, a2, a3⟩ | none => none) | none => none) | none => none) | none => none) | _ => none)
def cel62 (x : GPart) : List AV := (cel2 x.Snap ++ (cel3 x.Index ++ (cel3 x.Many ++ (cel31 x.Data ++ []))))
def enc62 (x : GPart) : TV τ := .agg [enc2 x.Snap, enc3 x.Index, enc3 x.Many, enc31 x.Data]
def dec62 (x : TV τ) : Option (GPart) := (match x with | .agg [x0, x1, x2, x3] => (match dec2 x0 with | some a0 => (match dec3 x1 with | some a1 => (match dec3 x2 with | some a2 => (match dec31 x3 with | some a3 => some ⟨a0, a1, a2, a3⟩ | none => none) | none => none) | none => none) | none => none) | _ => none)
def cel63 (x : GEntry) : List AV := (cel3 x.Kind ++ (cel2 x.Session ++ (cel2 x.Request ++ (cel25 x.Op ++ (cel3 x.Origin ++ (cel2 x.Seq ++ (cel60 x.Ops ++ (cel30 x.Epoch ++ (cel3 x.From ++ (cel28 x.Vector_ ++ (cel2 x.Clock ++ (cel62 x.Part ++ (cel3 x.Site ++ (cel3 x.Sponsor ++ (cel2 x.Length ++ [])))))))))))))))
def enc63 (x : GEntry) : TV τ := .agg [enc3 x.Kind, enc2 x.Session, enc2 x.Request, enc25 x.Op, enc3 x.Origin, enc2 x.Seq, enc60 x.Ops, enc30 x.Epoch, enc3 x.From, enc28 x.Vector_, enc2 x.Clock, enc62 x.Part, enc3 x.Site, enc3 x.Sponsor, enc2 x.Length]
def dec63 (x : TV τ) : Option (GEntry) := (match x with | .agg [x0, x1, x2, x3, x4, x5, x6, x7, x8, x9, x10, x11, x12, x13, x14] => (match dec3 x0 with | some a0 => (match dec2 x1 with | some a1 => (match dec2 x2 with | some a2 => (match dec25 x3 with | some a3 => (match dec3 x4 with | some a4 => (match dec2 x5 with | some a5 => (match dec60 x6 with | some a6 => (match dec30 x7 with | some a7 => (match dec3 x8 with | some a8 => (match dec28 x9 with | some a9 => (match dec2 x10 with | some a10 => (match dec62 x11 with | some a11 => (match dec3 x12 with | some a12 => (match dec3 x13 with | some a13 => (match dec2 x14 with | some a14 => some ⟨a0, a1, a2, a3, a4, a5, a6, a7, a8, a9, a10, a11, a12, a13, a14⟩ | none => none) | none => none) | none => none) | none => none) | none => none) | none => none) | none => none) | none => none) | none => none) | none => none) | none => none) | none => none) | none => none) | none => none) | none => none) | _ => none)
def cel64 (x : GEntry) : List AV := (cel3 x.Kind ++ (cel2 x.Session ++ (cel2 x.Request ++ (cel25 x.Op ++ (cel3 x.Origin ++ (cel2 x.Seq ++ (cel60 x.Ops ++ (cel30 x.Epoch ++ (cel3 x.From ++ (cel28 x.Vector_ ++ (cel2 x.Clock ++ (cel62 x.Part ++ (cel3 x.Site ++ (cel3 x.Sponsor ++ (cel2 x.Length ++ [])))))))))))))))
def enc64 (x : GEntry) : TV τ := .agg [enc3 x.Kind, enc2 x.Session, enc2 x.Request, enc25 x.Op, enc3 x.Origin, enc2 x.Seq, enc60 x.Ops, enc30 x.Epoch, enc3 x.From, enc28 x.Vector_, enc2 x.Clock, enc62 x.Part, enc3 x.Site, enc3 x.Sponsor, enc2 x.Length]
def dec64 (x : TV τ) : Option (GEntry) := (match x with | .agg [x0, x1, x2, x3, x4, x5, x6, x7, x8, x9, x10, x11, x12, x13, x14] => (match dec3 x0 with | some a0 => (match dec2 x1 with | some a1 => (match dec2 x2 with | some a2 => (match dec25 x3 with | some a3 => (match dec3 x4 with | some a4 => (match dec2 x5 with | some a5 => (match dec60 x6 with | some a6 => (match dec30 x7 with | some a7 => (match dec3 x8 with | some a8 => (match dec28 x9 with | some a9 => (match dec2 x10 with | some a10 => (match dec62 x11 with | some a11 => (match dec3 x12 with | some a12 => (match dec3 x13 with | some a13 => (match dec2 x14 with | some a14 => some ⟨a0, a1, a2, a3, a4, a5, a6, a7, a8, a9, a10, a11, a12, a13, a14⟩ | none => none) | none => none) | none => none) | none => none) | none => none) | none => none) | none => none) | none => none) | none => none) | none => none) | none => none) | none => none) | none => none) | none => none) | none => none) | _ => none)
def cel65 (x : GAddr) : List AV := (cel3 x.Group ++ (cel3 x.Replica ++ []))
def enc65 (x : GAddr) : TV τ := .agg [enc3 x.Group, enc3 x.Replica]
def dec65 (x : TV τ) : Option (GAddr) := (match x with | .agg [x0, x1] => (match dec3 x0 with | some a0 => (match dec3 x1 with | some a1 => some ⟨a0, a1⟩ | none => none) | none => none) | _ => none)
def beq65 (x y : GAddr) : Bool := (beq3 x.Group y.Group && (beq3 x.Replica y.Replica && true))
def cel66 (x : GAddr) : List AV := (cel3 x.Group ++ (cel3 x.Replica ++ []))
def enc66 (x : GAddr) : TV τ := .agg [enc3 x.Group, enc3 x.Replica]
def dec66 (x : TV τ) : Option (GAddr) := (match x with | .agg [x0, x1] => (match dec3 x0 with | some a0 => (match dec3 x1 with | some a1 => some ⟨a0, a1⟩ | none => none) | none => none) | _ => none)
def beq66 (x y : GAddr) : Bool := (beq3 x.Group y.Group && (beq3 x.Replica y.Replica && true))
def cel67 (x : GBallot) : List AV := (cel2 x.Round ++ (cel3 x.Replica ++ []))
def enc67 (x : GBallot) : TV τ := .agg [enc2 x.Round, enc3 x.Replica]
def dec67 (x : TV τ) : Option (GBallot) := (match x with | .agg [x0, x1] => (match dec2 x0 with | some a0 => (match dec3 x1 with | some a1 => some ⟨a0, a1⟩ | none => none) | none => none) | _ => none)
def beq67 (x y : GBallot) : Bool := (beq2 x.Round y.Round && (beq3 x.Replica y.Replica && true))
def cel68 (x : GBallot) : List AV := (cel2 x.Round ++ (cel3 x.Replica ++ []))
def enc68 (x : GBallot) : TV τ := .agg [enc2 x.Round, enc3 x.Replica]
def dec68 (x : TV τ) : Option (GBallot) := (match x with | .agg [x0, x1] => (match dec2 x0 with | some a0 => (match dec3 x1 with | some a1 => some ⟨a0, a1⟩ | none => none) | none => none) | _ => none)
def beq68 (x y : GBallot) : Bool := (beq2 x.Round y.Round && (beq3 x.Replica y.Replica && true))
def cel178 (x : GSlotted) : List AV := (cel2 x.Slot ++ (cel68 x.Ballot ++ (cel64 x.Entry ++ [])))
def enc178 (x : GSlotted) : TV τ := .agg [enc2 x.Slot, enc68 x.Ballot, enc64 x.Entry]
def dec178 (x : TV τ) : Option (GSlotted) := (match x with | .agg [x0, x1, x2] => (match dec2 x0 with | some a0 => (match dec68 x1 with | some a1 => (match dec64 x2 with | some a2 => some ⟨a0, a1, a2⟩ | none => none) | none => none) | none => none) | _ => none)
def cel69 (x : List (GSlotted)) : List AV := [.asl 59 (x.map cel178)]
def enc69 (x : List (GSlotted)) : TV τ := .sl 178 x .any
def dec69 (x : TV τ) : Option (List (GSlotted)) := dSl 178 x
def cel70 (x : GMsg) : List AV := (cel3 x.Kind ++ (cel66 x.From ++ (cel66 x.To ++ (cel68 x.Ballot ++ (cel2 x.Slot ++ (cel69 x.List_ ++ (cel64 x.Entry ++ (cel2 x.Number ++ (cel28 x.Vector_ ++ (cel2 x.Clock ++ (cel3 x.Origin ++ (cel60 x.Ops ++ (cel30 x.Epoch ++ (cel62 x.Part ++ []))))))))))))))
def enc70 (x : GMsg) : TV τ := .agg [enc3 x.Kind, enc66 x.From, enc66 x.To, enc68 x.Ballot, enc2 x.Slot, enc69 x.List_, enc64 x.Entry, enc2 x.Number, enc28 x.Vector_, enc2 x.Clock, enc3 x.Origin, enc60 x.Ops, enc30 x.Epoch, enc62 x.Part]
def dec70 (x : TV τ) : Option (GMsg) := (match x with | .agg [x0, x1, x2, x3, x4, x5, x6, x7, x8, x9, x10, x11, x12, x13] => (match dec3 x0 with | some a0 => (match dec66 x1 with | some a1 => (match dec66 x2 with | some a2 => (match dec68 x3 with | some a3 => (match dec2 x4 with | some a4 => (match dec69 x5 with | some a5 => (match dec64 x6 with | some a6 => (match dec2 x7 with | some a7 => (match dec28 x8 with | some a8 => (match dec2 x9 with | some a9 => (match dec3 x10 with | some a10 => (match dec60 x11 with | some a11 => (match dec30 x12 with | some a12 => (match dec62 x13 with | some a13 => some ⟨a0, a1, a2, a3, a4, a5, a6, a7, a8, a9, a10, a11, a12, a13⟩ | none => none) | none => none) | none => none) | none => none) | none => none) | none => none) | none => none) | none => none) | none => none) | none => none) | none => none) | none => none) | none => none) | none => none) | _ => none)
def cel71 (x : GMsg) : List AV := (cel3 x.Kind ++ (cel66 x.From ++ (cel66 x.To ++ (cel68 x.Ballot ++ (cel2 x.Slot ++ (cel69 x.List_ ++ (cel64 x.Entry ++ (cel2 x.Number ++ (cel28 x.Vector_ ++ (cel2 x.Clock ++ (cel3 x.Origin ++ (cel60 x.Ops ++ (cel30 x.Epoch ++ (cel62 x.Part ++ []))))))))))))))
def enc71 (x : GMsg) : TV τ := .agg [enc3 x.Kind, enc66 x.From, enc66 x.To, enc68 x.Ballot, enc2 x.Slot, enc69 x.List_, enc64 x.Entry, enc2 x.Number, enc28 x.Vector_, enc2 x.Clock, enc3 x.Origin, enc60 x.Ops, enc30 x.Epoch, enc62 x.Part]
def dec71 (x : TV τ) : Option (GMsg) := (match x with | .agg [x0, x1, x2, x3, x4, x5, x6, x7, x8, x9, x10, x11, x12, x13] => (match dec3 x0 with | some a0 => (match dec66 x1 with | some a1 => (match dec66 x2 with | some a2 => (match dec68 x3 with | some a3 => (match dec2 x4 with | some a4 => (match dec69 x5 with | some a5 => (match dec64 x6 with | some a6 => (match dec2 x7 with | some a7 => (match dec28 x8 with | some a8 => (match dec2 x9 with | some a9 => (match dec3 x10 with | some a10 => (match dec60 x11 with | some a11 => (match dec30 x12 with | some a12 => (match dec62 x13 with | some a13 => some ⟨a0, a1, a2, a3, a4, a5, a6, a7, a8, a9, a10, a11, a12, a13⟩ | none => none) | none => none) | none => none) | none => none) | none => none) | none => none) | none => none) | none => none) | none => none) | none => none) | none => none) | none => none) | none => none) | none => none) | _ => none)
def cel86 (x : Gwire_Writer) : List AV := (cel4 x.made ++ (cel31 x.b ++ []))
def enc86 (x : Gwire_Writer) : TV τ := .agg [enc4 x.made, enc31 x.b]
def dec86 (x : TV τ) : Option (Gwire_Writer) := (match x with | .agg [x0, x1] => (match dec4 x0 with | some a0 => (match dec31 x1 with | some a1 => some ⟨a0, a1⟩ | none => none) | none => none) | _ => none)
def cel87 (x : Gwire_Writer) : List AV := (cel4 x.made ++ (cel31 x.b ++ []))
def enc87 (x : Gwire_Writer) : TV τ := .agg [enc4 x.made, enc31 x.b]
def dec87 (x : TV τ) : Option (Gwire_Writer) := (match x with | .agg [x0, x1] => (match dec4 x0 with | some a0 => (match dec31 x1 with | some a1 => some ⟨a0, a1⟩ | none => none) | none => none) | _ => none)
def cel99 (x : Gwire_Writer) : List AV := (cel4 x.made ++ (cel31 x.b ++ []))
def enc99 (x : Gwire_Writer) : TV τ := .agg [enc4 x.made, enc31 x.b]
def dec99 (x : TV τ) : Option (Gwire_Writer) := (match x with | .agg [x0, x1] => (match dec4 x0 with | some a0 => (match dec31 x1 with | some a1 => some ⟨a0, a1⟩ | none => none) | none => none) | _ => none)
def cel143 (x : List (Int)) : List AV := [.asl 1 (x.map cel2)]
def enc143 (x : List (Int)) : TV τ := .sl 2 x .any
def dec143 (x : TV τ) : Option (List (Int)) := dSl 2 x
def cel145 (x : List (Int)) : List AV := [.asl 1 (x.map cel3)]
def enc145 (x : List (Int)) : TV τ := .sl 3 x .any
def dec145 (x : TV τ) : Option (List (Int)) := dSl 3 x
def cel167 (x : Int) : List AV := [.v (.int .u32 x)]
def enc167 (x : Int) : TV τ := .int .u32 x
def dec167 (x : TV τ) : Option (Int) := dInt .u32 x
def beq167 (x y : Int) : Bool := (x == y)
def cel171 (x : Int) : List AV := [.v (.int .u64 x)]
def enc171 (x : Int) : TV τ := .int .u64 x
def dec171 (x : TV τ) : Option (Int) := dInt .u64 x
def beq171 (x y : Int) : Bool := (x == y)
def cel177 (x : GSlotted) : List AV := (cel2 x.Slot ++ (cel68 x.Ballot ++ (cel64 x.Entry ++ [])))
def enc177 (x : GSlotted) : TV τ := .agg [enc2 x.Slot, enc68 x.Ballot, enc64 x.Entry]
def dec177 (x : TV τ) : Option (GSlotted) := (match x with | .agg [x0, x1, x2] => (match dec2 x0 with | some a0 => (match dec68 x1 with | some a1 => (match dec64 x2 with | some a2 => some ⟨a0, a1, a2⟩ | none => none) | none => none) | none => none) | _ => none)
def cel181 (x : List (List UInt8)) : List AV := [.asl 1 (x.map cel9)]
def enc181 (x : List (List UInt8)) : TV τ := .sl 9 x .any
def dec181 (x : TV τ) : Option (List (List UInt8)) := dSl 9 x
def cel183 (x : Int) : List AV := [.v (.int .u64 x)]
def enc183 (x : Int) : TV τ := .int .u64 x
def dec183 (x : TV τ) : Option (Int) := dInt .u64 x
def beq183 (x y : Int) : Bool := (x == y)
def cel190 (x : List (GAddr)) : List AV := [.asl 2 (x.map cel66)]
def enc190 (x : List (GAddr)) : TV τ := .sl 66 x .any
def dec190 (x : TV τ) : Option (List (GAddr)) := dSl 66 x
def cel194 (x : List (List (Int))) : List AV := [.asl 1 (x.map cel31)]
def enc194 (x : List (List (Int))) : TV τ := .sl 31 x .any
def dec194 (x : TV τ) : Option (List (List (Int))) := dSl 31 x
def celT : (t : Nat) → τ t → List AV
  | 2 => cel2
  | 3 => cel3
  | 4 => cel4
  | 5 => cel5
  | 9 => cel9
  | 12 => cel12
  | 21 => cel21
  | 22 => cel22
  | 23 => cel23
  | 24 => cel24
  | 25 => cel25
  | 26 => cel26
  | 27 => cel27
  | 28 => cel28
  | 29 => cel29
  | 30 => cel30
  | 31 => cel31
  | 35 => cel35
  | 47 => cel47
  | 48 => cel48
  | 60 => cel60
  | 61 => cel61
  | 62 => cel62
  | 63 => cel63
  | 64 => cel64
  | 65 => cel65
  | 66 => cel66
  | 67 => cel67
  | 68 => cel68
  | 69 => cel69
  | 70 => cel70
  | 71 => cel71
  | 86 => cel86
  | 87 => cel87
  | 99 => cel99
  | 143 => cel143
  | 145 => cel145
  | 167 => cel167
  | 171 => cel171
  | 177 => cel177
  | 178 => cel178
  | 181 => cel181
  | 183 => cel183
  | 190 => cel190
  | 194 => cel194
  | _ => fun _ => []
def encT : (t : Nat) → τ t → TV τ
  | 2 => enc2
  | 3 => enc3
  | 4 => enc4
  | 5 => enc5
  | 9 => enc9
  | 12 => enc12
  | 21 => enc21
  | 22 => enc22
  | 23 => enc23
  | 24 => enc24
  | 25 => enc25
  | 26 => enc26
  | 27 => enc27
  | 28 => enc28
  | 29 => enc29
  | 30 => enc30
  | 31 => enc31
  | 35 => enc35
  | 47 => enc47
  | 48 => enc48
  | 60 => enc60
  | 61 => enc61
  | 62 => enc62
  | 63 => enc63
  | 64 => enc64
  | 65 => enc65
  | 66 => enc66
  | 67 => enc67
  | 68 => enc68
  | 69 => enc69
  | 70 => enc70
  | 71 => enc71
  | 86 => enc86
  | 87 => enc87
  | 99 => enc99
  | 143 => enc143
  | 145 => enc145
  | 167 => enc167
  | 171 => enc171
  | 177 => enc177
  | 178 => enc178
  | 181 => enc181
  | 183 => enc183
  | 190 => enc190
  | 194 => enc194
  | _ => fun _ => .agg []
def decT : (t : Nat) → TV τ → Option (τ t)
  | 2 => dec2
  | 3 => dec3
  | 4 => dec4
  | 5 => dec5
  | 9 => dec9
  | 12 => dec12
  | 21 => dec21
  | 22 => dec22
  | 23 => dec23
  | 24 => dec24
  | 25 => dec25
  | 26 => dec26
  | 27 => dec27
  | 28 => dec28
  | 29 => dec29
  | 30 => dec30
  | 31 => dec31
  | 35 => dec35
  | 47 => dec47
  | 48 => dec48
  | 60 => dec60
  | 61 => dec61
  | 62 => dec62
  | 63 => dec63
  | 64 => dec64
  | 65 => dec65
  | 66 => dec66
  | 67 => dec67
  | 68 => dec68
  | 69 => dec69
  | 70 => dec70
  | 71 => dec71
  | 86 => dec86
  | 87 => dec87
  | 99 => dec99
  | 143 => dec143
  | 145 => dec145
  | 167 => dec167
  | 171 => dec171
  | 177 => dec177
  | 178 => dec178
  | 181 => dec181
  | 183 => dec183
  | 190 => dec190
  | 194 => dec194
  | _ => fun _ => none
theorem dfN (t : Nat) : Nonempty (τ t) := by unfold τ; split <;> exact ⟨default⟩
noncomputable def dfX (t : Nat) : τ t := Classical.choice (dfN t)
noncomputable def dfT : (t : Nat) → τ t
  | 2 => (default : Int)
  | 3 => (default : Int)
  | 4 => (default : Bool)
  | 5 => (default : Int)
  | 9 => (default : List UInt8)
  | 12 => (default : Int)
  | 21 => (default : Int)
  | 22 => (default : GStamp)
  | 23 => (default : GStamp)
  | 24 => (default : GOp)
  | 25 => (default : GOp)
  | 26 => (default : Vector (Int) 8)
  | 27 => (default : Vector (Int) 8)
  | 28 => (default : Vector (Int) 8)
  | 29 => (default : GEpoch)
  | 30 => (default : GEpoch)
  | 31 => (default : List (Int))
  | 35 => (default : Int)
  | 47 => (default : Gorchardref04_Reader)
  | 48 => (default : Gorchardref04_Reader)
  | 60 => (default : List (GOp))
  | 61 => (default : GPart)
  | 62 => (default : GPart)
  | 63 => (default : GEntry)
  | 64 => (default : GEntry)
  | 65 => (default : GAddr)
  | 66 => (default : GAddr)
  | 67 => (default : GBallot)
  | 68 => (default : GBallot)
  | 69 => (default : List (GSlotted))
  | 70 => (default : GMsg)
  | 71 => (default : GMsg)
  | 86 => (default : Gwire_Writer)
  | 87 => (default : Gwire_Writer)
  | 99 => (default : Gwire_Writer)
  | 143 => (default : List (Int))
  | 145 => (default : List (Int))
  | 167 => (default : Int)
  | 171 => (default : Int)
  | 177 => (default : GSlotted)
  | 178 => (default : GSlotted)
  | 181 => (default : List (List UInt8))
  | 183 => (default : Int)
  | 190 => (default : List (GAddr))
  | 194 => (default : List (List (Int)))
  | t => dfX t
def szT : Nat → Nat
  | 2 => 1
  | 3 => 1
  | 4 => 1
  | 5 => 1
  | 9 => 1
  | 12 => 1
  | 21 => 1
  | 22 => 2
  | 23 => 2
  | 24 => 8
  | 25 => 8
  | 26 => 8
  | 27 => 8
  | 28 => 8
  | 29 => 25
  | 30 => 25
  | 31 => 1
  | 35 => 1
  | 47 => 3
  | 48 => 3
  | 60 => 1
  | 61 => 4
  | 62 => 4
  | 63 => 56
  | 64 => 56
  | 65 => 2
  | 66 => 2
  | 67 => 2
  | 68 => 2
  | 69 => 1
  | 70 => 106
  | 71 => 106
  | 86 => 2
  | 87 => 2
  | 99 => 2
  | 143 => 1
  | 145 => 1
  | 167 => 1
  | 171 => 1
  | 177 => 59
  | 178 => 59
  | 181 => 1
  | 183 => 1
  | 190 => 1
  | 194 => 1
  | _ => 0
def kdT : Nat → Option (List Kd)
  | 2 => some [.i]
  | 3 => some [.i]
  | 4 => some [.b]
  | 5 => some [.i]
  | 9 => some [.s]
  | 12 => some [.i]
  | 21 => some [.i]
  | 22 => some [.i, .i]
  | 23 => some [.i, .i]
  | 24 => some [.i, .i, .i, .i, .i, .s, .s, .s]
  | 25 => some [.i, .i, .i, .i, .i, .s, .s, .s]
  | 26 => some [.i, .i, .i, .i, .i, .i, .i, .i]
  | 27 => some [.i, .i, .i, .i, .i, .i, .i, .i]
  | 28 => some [.i, .i, .i, .i, .i, .i, .i, .i]
  | 29 => some [.i, .i, .i, .i, .i, .i, .i, .i, .i, .i, .i, .i, .i, .i, .i, .i, .i, .i, .i, .i, .i, .i, .i, .i, .i]
  | 30 => some [.i, .i, .i, .i, .i, .i, .i, .i, .i, .i, .i, .i, .i, .i, .i, .i, .i, .i, .i, .i, .i, .i, .i, .i, .i]
  | 35 => some [.i]
  | 65 => some [.i, .i]
  | 66 => some [.i, .i]
  | 67 => some [.i, .i]
  | 68 => some [.i, .i]
  | 167 => some [.i]
  | 171 => some [.i]
  | 183 => some [.i]
  | _ => none
def beqT : (t : Nat) → τ t → τ t → Bool
  | 2 => beq2
  | 3 => beq3
  | 4 => beq4
  | 5 => beq5
  | 9 => beq9
  | 12 => beq12
  | 21 => beq21
  | 22 => beq22
  | 23 => beq23
  | 24 => beq24
  | 25 => beq25
  | 26 => beq26
  | 27 => beq27
  | 28 => beq28
  | 29 => beq29
  | 30 => beq30
  | 35 => beq35
  | 65 => beq65
  | 66 => beq66
  | 67 => beq67
  | 68 => beq68
  | 167 => beq167
  | 171 => beq171
  | 183 => beq183
  | _ => fun _ _ => false
def b2sT : (t : Nat) → List (τ t) → Option (List UInt8)
  | 5 => fun (l : List Int) => some (strI l)
  | _ => fun _ => none
def s2bT : (t : Nat) → List UInt8 → Option (List (τ t))
  | 5 => fun s => some (bytesI s)
  | _ => fun _ => none
noncomputable def siteT : Nat → Nat → Array Tmp × Code × Code := fun f k => (#[], .skip, .skip)
noncomputable def C : Cod τ := ⟨celT, encT, decT, dfT, szT, kdT, beqT, b2sT, s2bT, siteT⟩
theorem law2 : CodAt C 2 := ⟨fun x => rfl, fun x => rfl, fun x a h => by rw [dInt_x (show dInt .i64 x = some a from h)]; exact .refl _, fun x => rfl, fun x a h => by rw [dInt_x (show dInt .i64 x = some a from h)]; rfl, fun x a h => by rw [dInt_x (show dInt .i64 x = some a from h)]; rfl, fun a => rfl, fun a => noids_one (NoId.v _), fun ks h a b => by cases h; simp [eqCells, scal, C, celT, cel2, beqT, beq2], (fun l s h => nomatch h), (fun s l h => nomatch h)⟩
theorem law3 : CodAt C 3 := ⟨fun x => rfl, fun x => rfl, fun x a h => by rw [dInt_x (show dInt .i64 x = some a from h)]; exact .refl _, fun x => rfl, fun x a h => by rw [dInt_x (show dInt .i64 x = some a from h)]; rfl, fun x a h => by rw [dInt_x (show dInt .i64 x = some a from h)]; rfl, fun a => rfl, fun a => noids_one (NoId.v _), fun ks h a b => by cases h; simp [eqCells, scal, C, celT, cel3, beqT, beq3], (fun l s h => nomatch h), (fun s l h => nomatch h)⟩
theorem law4 : CodAt C 4 := ⟨fun x => rfl, fun x => rfl, fun x a h => by rw [dBool_x (show dBool x = some a from h)]; exact .refl _, fun x => rfl, fun x a h => by rw [dBool_x (show dBool x = some a from h)]; rfl, fun x a h => by rw [dBool_x (show dBool x = some a from h)]; rfl, fun a => rfl, fun a => noids_one (NoId.v _), fun ks h a b => by cases h; simp [eqCells, scal, C, celT, cel4, beqT, beq4], (fun l s h => nomatch h), (fun s l h => nomatch h)⟩
theorem law5 : CodAt C 5 := ⟨fun x => rfl, fun x => rfl, fun x a h => by rw [dInt_x (show dInt .u8 x = some a from h)]; exact .refl _, fun x => rfl, fun x a h => by rw [dInt_x (show dInt .u8 x = some a from h)]; rfl, fun x a h => by rw [dInt_x (show dInt .u8 x = some a from h)]; rfl, fun a => rfl, fun a => noids_one (NoId.v _), fun ks h a b => by cases h; simp [eqCells, scal, C, celT, cel5, beqT, beq5], fun l s h => ⟨rfl, (unbytes_int l).trans h⟩, fun s l h => ⟨rfl, by cases h; show (bytesI s).map cel5 = _; simp [bytesI, cel5, byteCell]⟩⟩
theorem law9 : CodAt C 9 := ⟨fun x => rfl, fun x => rfl, fun x a h => by rw [dStr_x (show dStr x = some a from h)]; exact .refl _, fun x => rfl, fun x a h => by rw [dStr_x (show dStr x = some a from h)]; rfl, fun x a h => by rw [dStr_x (show dStr x = some a from h)]; rfl, fun a => rfl, fun a => noids_one (NoId.v _), fun ks h a b => by cases h; simp [eqCells, scal, C, celT, cel9, beqT, beq9], (fun l s h => nomatch h), (fun s l h => nomatch h)⟩
theorem law12 : CodAt C 12 := ⟨fun x => rfl, fun x => rfl, fun x a h => by rw [dInt_x (show dInt .u64 x = some a from h)]; exact .refl _, fun x => rfl, fun x a h => by rw [dInt_x (show dInt .u64 x = some a from h)]; rfl, fun x a h => by rw [dInt_x (show dInt .u64 x = some a from h)]; rfl, fun a => rfl, fun a => noids_one (NoId.v _), fun ks h a b => by cases h; simp [eqCells, scal, C, celT, cel12, beqT, beq12], (fun l s h => nomatch h), (fun s l h => nomatch h)⟩
theorem law21 : CodAt C 21 := ⟨fun x => rfl, fun x => rfl, fun x a h => by rw [dInt_x (show dInt .i32 x = some a from h)]; exact .refl _, fun x => rfl, fun x a h => by rw [dInt_x (show dInt .i32 x = some a from h)]; rfl, fun x a h => by rw [dInt_x (show dInt .i32 x = some a from h)]; rfl, fun a => rfl, fun a => noids_one (NoId.v _), fun ks h a b => by cases h; simp [eqCells, scal, C, celT, cel21, beqT, beq21], (fun l s h => nomatch h), (fun s l h => nomatch h)⟩
theorem decx22 {x : TV τ} {a : GStamp} (h : dec22 x = some a) : ∃ x0 x1, x = .agg [x0, x1] ∧ dec2 x0 = some a.Time ∧ dec3 x1 = some a.Site := by
  unfold dec22 at h
  split at h
  · rename_i x0 x1
    split at h
    · rename_i a0 h0
      split at h
      · rename_i a1 h1
        cases h
        exact ⟨_, _, rfl, h0, h1⟩
      · cases h
    · cases h
  · cases h
theorem law22 : CodAt C 22 := ⟨fun x => by show ((enc2 x.Time).cells C ++ ((enc3 x.Site).cells C ++ [])) = cel22 x; unfold cel22; exact congr (congrArg (· ++ ·) (law2.cel x.Time)) (congr (congrArg (· ++ ·) (law3.cel x.Site)) (rfl)), fun x => by show ((cel2 x.Time ++ (cel3 x.Site ++ []))).length = 2; rw [List.length_append, List.length_append]; have e0 : (cel2 x.Time).length = 1 := law2.len x.Time; have e1 : (cel3 x.Site).length = 1 := law3.len x.Site; simp only [e0, e1, List.length_nil], fun x a h => by obtain ⟨x0, x1, rfl, h0, h1⟩ := decx22 (show dec22 x = some a from h); exact CW.append (law2.dec _ _ h0) (CW.append (law3.dec _ _ h1) (CW.refl [])), fun x => by show (((enc2 x.Time).ok && ((enc3 x.Site).ok && true))) = true; simp only [show (enc2 x.Time).ok = true from law2.ok _, show (enc3 x.Site).ok = true from law3.ok _, Bool.and_self], fun x a h => by obtain ⟨x0, x1, rfl, h0, h1⟩ := decx22 (show dec22 x = some a from h); show ((x0.ok && (x1.ok && true))) = true; simp only [law2.decok _ _ h0, law3.decok _ _ h1, Bool.and_self], fun x a h => by obtain ⟨x0, x1, rfl, h0, h1⟩ := decx22 (show dec22 x = some a from h); rfl, fun x => by show ((cel2 x.Time ++ (cel3 x.Site ++ []))).all AV.one = true; simp only [List.all_append, List.all_nil, show (cel2 x.Time).all AV.one = true from law2.one _, show (cel3 x.Site).all AV.one = true from law3.one _, Bool.and_self], fun x => noids_app (law2.noid x.Time) (noids_app (law3.noid x.Site) (trivial)), fun ks h a b => by have := eqCells_append (law2.kd _ rfl a.Time b.Time) (eqCells_append (law3.kd _ rfl a.Site b.Site) ((show eqCells [] [] [] = some true from rfl))); cases h; exact this, (fun l s h => nomatch h), (fun s l h => nomatch h)⟩
theorem decx23 {x : TV τ} {a : GStamp} (h : dec23 x = some a) : ∃ x0 x1, x = .agg [x0, x1] ∧ dec2 x0 = some a.Time ∧ dec3 x1 = some a.Site := by
  unfold dec23 at h
  split at h
  · rename_i x0 x1
    split at h
    · rename_i a0 h0
      split at h
      · rename_i a1 h1
        cases h
        exact ⟨_, _, rfl, h0, h1⟩
      · cases h
    · cases h
  · cases h
theorem law23 : CodAt C 23 := ⟨fun x => by show ((enc2 x.Time).cells C ++ ((enc3 x.Site).cells C ++ [])) = cel23 x; unfold cel23; exact congr (congrArg (· ++ ·) (law2.cel x.Time)) (congr (congrArg (· ++ ·) (law3.cel x.Site)) (rfl)), fun x => by show ((cel2 x.Time ++ (cel3 x.Site ++ []))).length = 2; rw [List.length_append, List.length_append]; have e0 : (cel2 x.Time).length = 1 := law2.len x.Time; have e1 : (cel3 x.Site).length = 1 := law3.len x.Site; simp only [e0, e1, List.length_nil], fun x a h => by obtain ⟨x0, x1, rfl, h0, h1⟩ := decx23 (show dec23 x = some a from h); exact CW.append (law2.dec _ _ h0) (CW.append (law3.dec _ _ h1) (CW.refl [])), fun x => by show (((enc2 x.Time).ok && ((enc3 x.Site).ok && true))) = true; simp only [show (enc2 x.Time).ok = true from law2.ok _, show (enc3 x.Site).ok = true from law3.ok _, Bool.and_self], fun x a h => by obtain ⟨x0, x1, rfl, h0, h1⟩ := decx23 (show dec23 x = some a from h); show ((x0.ok && (x1.ok && true))) = true; simp only [law2.decok _ _ h0, law3.decok _ _ h1, Bool.and_self], fun x a h => by obtain ⟨x0, x1, rfl, h0, h1⟩ := decx23 (show dec23 x = some a from h); rfl, fun x => by show ((cel2 x.Time ++ (cel3 x.Site ++ []))).all AV.one = true; simp only [List.all_append, List.all_nil, show (cel2 x.Time).all AV.one = true from law2.one _, show (cel3 x.Site).all AV.one = true from law3.one _, Bool.and_self], fun x => noids_app (law2.noid x.Time) (noids_app (law3.noid x.Site) (trivial)), fun ks h a b => by have := eqCells_append (law2.kd _ rfl a.Time b.Time) (eqCells_append (law3.kd _ rfl a.Site b.Site) ((show eqCells [] [] [] = some true from rfl))); cases h; exact this, (fun l s h => nomatch h), (fun s l h => nomatch h)⟩
theorem decx24 {x : TV τ} {a : GOp} (h : dec24 x = some a) : ∃ x0 x1 x2 x3 x4 x5 x6, x = .agg [x0, x1, x2, x3, x4, x5, x6] ∧ dec23 x0 = some a.Stamp ∧ dec3 x1 = some a.Kind ∧ dec2 x2 = some a.Node ∧ dec2 x3 = some a.Parent ∧ dec9 x4 = some a.Name ∧ dec9 x5 = some a.Key ∧ dec9 x6 = some a.Value := by
  unfold dec24 at h
  split at h
  · rename_i x0 x1 x2 x3 x4 x5 x6
    split at h
    · rename_i a0 h0
      split at h
      · rename_i a1 h1
        split at h
        · rename_i a2 h2
          split at h
          · rename_i a3 h3
            split at h
            · rename_i a4 h4
              split at h
              · rename_i a5 h5
                split at h
                · rename_i a6 h6
                  cases h
                  exact ⟨_, _, _, _, _, _, _, rfl, h0, h1, h2, h3, h4, h5, h6⟩
                · cases h
              · cases h
            · cases h
          · cases h
        · cases h
      · cases h
    · cases h
  · cases h
theorem law24 : CodAt C 24 := ⟨fun x => by show ((enc23 x.Stamp).cells C ++ ((enc3 x.Kind).cells C ++ ((enc2 x.Node).cells C ++ ((enc2 x.Parent).cells C ++ ((enc9 x.Name).cells C ++ ((enc9 x.Key).cells C ++ ((enc9 x.Value).cells C ++ []))))))) = cel24 x; unfold cel24; exact congr (congrArg (· ++ ·) (law23.cel x.Stamp)) (congr (congrArg (· ++ ·) (law3.cel x.Kind)) (congr (congrArg (· ++ ·) (law2.cel x.Node)) (congr (congrArg (· ++ ·) (law2.cel x.Parent)) (congr (congrArg (· ++ ·) (law9.cel x.Name)) (congr (congrArg (· ++ ·) (law9.cel x.Key)) (congr (congrArg (· ++ ·) (law9.cel x.Value)) (rfl))))))), fun x => by show ((cel23 x.Stamp ++ (cel3 x.Kind ++ (cel2 x.Node ++ (cel2 x.Parent ++ (cel9 x.Name ++ (cel9 x.Key ++ (cel9 x.Value ++ [])))))))).length = 8; rw [List.length_append, List.length_append, List.length_append, List.length_append, List.length_append, List.length_append, List.length_append]; have e0 : (cel23 x.Stamp).length = 2 := law23.len x.Stamp; have e1 : (cel3 x.Kind).length = 1 := law3.len x.Kind; have e2 : (cel2 x.Node).length = 1 := law2.len x.Node; have e3 : (cel2 x.Parent).length = 1 := law2.len x.Parent; have e4 : (cel9 x.Name).length = 1 := law9.len x.Name; have e5 : (cel9 x.Key).length = 1 := law9.len x.Key; have e6 : (cel9 x.Value).length = 1 := law9.len x.Value; simp only [e0, e1, e2, e3, e4, e5, e6, List.length_nil], fun x a h => by obtain ⟨x0, x1, x2, x3, x4, x5, x6, rfl, h0, h1, h2, h3, h4, h5, h6⟩ := decx24 (show dec24 x = some a from h); exact CW.append (law23.dec _ _ h0) (CW.append (law3.dec _ _ h1) (CW.append (law2.dec _ _ h2) (CW.append (law2.dec _ _ h3) (CW.append (law9.dec _ _ h4) (CW.append (law9.dec _ _ h5) (CW.append (law9.dec _ _ h6) (CW.refl []))))))), fun x => by show (((enc23 x.Stamp).ok && ((enc3 x.Kind).ok && ((enc2 x.Node).ok && ((enc2 x.Parent).ok && ((enc9 x.Name).ok && ((enc9 x.Key).ok && ((enc9 x.Value).ok && true)))))))) = true; simp only [show (enc23 x.Stamp).ok = true from law23.ok _, show (enc3 x.Kind).ok = true from law3.ok _, show (enc2 x.Node).ok = true from law2.ok _, show (enc2 x.Parent).ok = true from law2.ok _, show (enc9 x.Name).ok = true from law9.ok _, show (enc9 x.Key).ok = true from law9.ok _, show (enc9 x.Value).ok = true from law9.ok _, Bool.and_self], fun x a h => by obtain ⟨x0, x1, x2, x3, x4, x5, x6, rfl, h0, h1, h2, h3, h4, h5, h6⟩ := decx24 (show dec24 x = some a from h); show ((x0.ok && (x1.ok && (x2.ok && (x3.ok && (x4.ok && (x5.ok && (x6.ok && true)))))))) = true; simp only [law23.decok _ _ h0, law3.decok _ _ h1, law2.decok _ _ h2, law2.decok _ _ h3, law9.decok _ _ h4, law9.decok _ _ h5, law9.decok _ _ h6, Bool.and_self], fun x a h => by obtain ⟨x0, x1, x2, x3, x4, x5, x6, rfl, h0, h1, h2, h3, h4, h5, h6⟩ := decx24 (show dec24 x = some a from h); rfl, fun x => by show ((cel23 x.Stamp ++ (cel3 x.Kind ++ (cel2 x.Node ++ (cel2 x.Parent ++ (cel9 x.Name ++ (cel9 x.Key ++ (cel9 x.Value ++ [])))))))).all AV.one = true; simp only [List.all_append, List.all_nil, show (cel23 x.Stamp).all AV.one = true from law23.one _, show (cel3 x.Kind).all AV.one = true from law3.one _, show (cel2 x.Node).all AV.one = true from law2.one _, show (cel2 x.Parent).all AV.one = true from law2.one _, show (cel9 x.Name).all AV.one = true from law9.one _, show (cel9 x.Key).all AV.one = true from law9.one _, show (cel9 x.Value).all AV.one = true from law9.one _, Bool.and_self], fun x => noids_app (law23.noid x.Stamp) (noids_app (law3.noid x.Kind) (noids_app (law2.noid x.Node) (noids_app (law2.noid x.Parent) (noids_app (law9.noid x.Name) (noids_app (law9.noid x.Key) (noids_app (law9.noid x.Value) (trivial))))))), fun ks h a b => by have := eqCells_append (law23.kd _ rfl a.Stamp b.Stamp) (eqCells_append (law3.kd _ rfl a.Kind b.Kind) (eqCells_append (law2.kd _ rfl a.Node b.Node) (eqCells_append (law2.kd _ rfl a.Parent b.Parent) (eqCells_append (law9.kd _ rfl a.Name b.Name) (eqCells_append (law9.kd _ rfl a.Key b.Key) (eqCells_append (law9.kd _ rfl a.Value b.Value) ((show eqCells [] [] [] = some true from rfl)))))))); cases h; exact this, (fun l s h => nomatch h), (fun s l h => nomatch h)⟩
theorem decx25 {x : TV τ} {a : GOp} (h : dec25 x = some a) : ∃ x0 x1 x2 x3 x4 x5 x6, x = .agg [x0, x1, x2, x3, x4, x5, x6] ∧ dec23 x0 = some a.Stamp ∧ dec3 x1 = some a.Kind ∧ dec2 x2 = some a.Node ∧ dec2 x3 = some a.Parent ∧ dec9 x4 = some a.Name ∧ dec9 x5 = some a.Key ∧ dec9 x6 = some a.Value := by
  unfold dec25 at h
  split at h
  · rename_i x0 x1 x2 x3 x4 x5 x6
    split at h
    · rename_i a0 h0
      split at h
      · rename_i a1 h1
        split at h
        · rename_i a2 h2
          split at h
          · rename_i a3 h3
            split at h
            · rename_i a4 h4
              split at h
              · rename_i a5 h5
                split at h
                · rename_i a6 h6
                  cases h
                  exact ⟨_, _, _, _, _, _, _, rfl, h0, h1, h2, h3, h4, h5, h6⟩
                · cases h
              · cases h
            · cases h
          · cases h
        · cases h
      · cases h
    · cases h
  · cases h
theorem law25 : CodAt C 25 := ⟨fun x => by show ((enc23 x.Stamp).cells C ++ ((enc3 x.Kind).cells C ++ ((enc2 x.Node).cells C ++ ((enc2 x.Parent).cells C ++ ((enc9 x.Name).cells C ++ ((enc9 x.Key).cells C ++ ((enc9 x.Value).cells C ++ []))))))) = cel25 x; unfold cel25; exact congr (congrArg (· ++ ·) (law23.cel x.Stamp)) (congr (congrArg (· ++ ·) (law3.cel x.Kind)) (congr (congrArg (· ++ ·) (law2.cel x.Node)) (congr (congrArg (· ++ ·) (law2.cel x.Parent)) (congr (congrArg (· ++ ·) (law9.cel x.Name)) (congr (congrArg (· ++ ·) (law9.cel x.Key)) (congr (congrArg (· ++ ·) (law9.cel x.Value)) (rfl))))))), fun x => by show ((cel23 x.Stamp ++ (cel3 x.Kind ++ (cel2 x.Node ++ (cel2 x.Parent ++ (cel9 x.Name ++ (cel9 x.Key ++ (cel9 x.Value ++ [])))))))).length = 8; rw [List.length_append, List.length_append, List.length_append, List.length_append, List.length_append, List.length_append, List.length_append]; have e0 : (cel23 x.Stamp).length = 2 := law23.len x.Stamp; have e1 : (cel3 x.Kind).length = 1 := law3.len x.Kind; have e2 : (cel2 x.Node).length = 1 := law2.len x.Node; have e3 : (cel2 x.Parent).length = 1 := law2.len x.Parent; have e4 : (cel9 x.Name).length = 1 := law9.len x.Name; have e5 : (cel9 x.Key).length = 1 := law9.len x.Key; have e6 : (cel9 x.Value).length = 1 := law9.len x.Value; simp only [e0, e1, e2, e3, e4, e5, e6, List.length_nil], fun x a h => by obtain ⟨x0, x1, x2, x3, x4, x5, x6, rfl, h0, h1, h2, h3, h4, h5, h6⟩ := decx25 (show dec25 x = some a from h); exact CW.append (law23.dec _ _ h0) (CW.append (law3.dec _ _ h1) (CW.append (law2.dec _ _ h2) (CW.append (law2.dec _ _ h3) (CW.append (law9.dec _ _ h4) (CW.append (law9.dec _ _ h5) (CW.append (law9.dec _ _ h6) (CW.refl []))))))), fun x => by show (((enc23 x.Stamp).ok && ((enc3 x.Kind).ok && ((enc2 x.Node).ok && ((enc2 x.Parent).ok && ((enc9 x.Name).ok && ((enc9 x.Key).ok && ((enc9 x.Value).ok && true)))))))) = true; simp only [show (enc23 x.Stamp).ok = true from law23.ok _, show (enc3 x.Kind).ok = true from law3.ok _, show (enc2 x.Node).ok = true from law2.ok _, show (enc2 x.Parent).ok = true from law2.ok _, show (enc9 x.Name).ok = true from law9.ok _, show (enc9 x.Key).ok = true from law9.ok _, show (enc9 x.Value).ok = true from law9.ok _, Bool.and_self], fun x a h => by obtain ⟨x0, x1, x2, x3, x4, x5, x6, rfl, h0, h1, h2, h3, h4, h5, h6⟩ := decx25 (show dec25 x = some a from h); show ((x0.ok && (x1.ok && (x2.ok && (x3.ok && (x4.ok && (x5.ok && (x6.ok && true)))))))) = true; simp only [law23.decok _ _ h0, law3.decok _ _ h1, law2.decok _ _ h2, law2.decok _ _ h3, law9.decok _ _ h4, law9.decok _ _ h5, law9.decok _ _ h6, Bool.and_self], fun x a h => by obtain ⟨x0, x1, x2, x3, x4, x5, x6, rfl, h0, h1, h2, h3, h4, h5, h6⟩ := decx25 (show dec25 x = some a from h); rfl, fun x => by show ((cel23 x.Stamp ++ (cel3 x.Kind ++ (cel2 x.Node ++ (cel2 x.Parent ++ (cel9 x.Name ++ (cel9 x.Key ++ (cel9 x.Value ++ [])))))))).all AV.one = true; simp only [List.all_append, List.all_nil, show (cel23 x.Stamp).all AV.one = true from law23.one _, show (cel3 x.Kind).all AV.one = true from law3.one _, show (cel2 x.Node).all AV.one = true from law2.one _, show (cel2 x.Parent).all AV.one = true from law2.one _, show (cel9 x.Name).all AV.one = true from law9.one _, show (cel9 x.Key).all AV.one = true from law9.one _, show (cel9 x.Value).all AV.one = true from law9.one _, Bool.and_self], fun x => noids_app (law23.noid x.Stamp) (noids_app (law3.noid x.Kind) (noids_app (law2.noid x.Node) (noids_app (law2.noid x.Parent) (noids_app (law9.noid x.Name) (noids_app (law9.noid x.Key) (noids_app (law9.noid x.Value) (trivial))))))), fun ks h a b => by have := eqCells_append (law23.kd _ rfl a.Stamp b.Stamp) (eqCells_append (law3.kd _ rfl a.Kind b.Kind) (eqCells_append (law2.kd _ rfl a.Node b.Node) (eqCells_append (law2.kd _ rfl a.Parent b.Parent) (eqCells_append (law9.kd _ rfl a.Name b.Name) (eqCells_append (law9.kd _ rfl a.Key b.Key) (eqCells_append (law9.kd _ rfl a.Value b.Value) ((show eqCells [] [] [] = some true from rfl)))))))); cases h; exact this, (fun l s h => nomatch h), (fun s l h => nomatch h)⟩
theorem law26 : CodAt C 26 := ⟨fun x => rfl, fun x => length_flat law3 x, fun x a h => by rw [dArr_x (show dArr 3 8 x = some a from h)]; exact .refl _, fun x => rfl, fun x a h => by rw [dArr_x (show dArr 3 8 x = some a from h)]; rfl, fun x a h => by rw [dArr_x (show dArr 3 8 x = some a from h)]; rfl, fun a => one_flat law3 a.toList, fun a => noid_flat law3 a.toList, fun ks h a b => by have := eqCells_arr' law3 (show C.kd 3 = some _ from rfl) a.toList b.toList (by simp); simp only [Vector.length_toList] at this; cases h; exact this, (fun l s h => nomatch h), (fun s l h => nomatch h)⟩
theorem law27 : CodAt C 27 := ⟨fun x => rfl, fun x => length_flat law2 x, fun x a h => by rw [dArr_x (show dArr 2 8 x = some a from h)]; exact .refl _, fun x => rfl, fun x a h => by rw [dArr_x (show dArr 2 8 x = some a from h)]; rfl, fun x a h => by rw [dArr_x (show dArr 2 8 x = some a from h)]; rfl, fun a => one_flat law2 a.toList, fun a => noid_flat law2 a.toList, fun ks h a b => by have := eqCells_arr' law2 (show C.kd 2 = some _ from rfl) a.toList b.toList (by simp); simp only [Vector.length_toList] at this; cases h; exact this, (fun l s h => nomatch h), (fun s l h => nomatch h)⟩
theorem law28 : CodAt C 28 := ⟨fun x => rfl, fun x => length_flat law2 x, fun x a h => by rw [dArr_x (show dArr 2 8 x = some a from h)]; exact .refl _, fun x => rfl, fun x a h => by rw [dArr_x (show dArr 2 8 x = some a from h)]; rfl, fun x a h => by rw [dArr_x (show dArr 2 8 x = some a from h)]; rfl, fun a => one_flat law2 a.toList, fun a => noid_flat law2 a.toList, fun ks h a b => by have := eqCells_arr' law2 (show C.kd 2 = some _ from rfl) a.toList b.toList (by simp); simp only [Vector.length_toList] at this; cases h; exact this, (fun l s h => nomatch h), (fun s l h => nomatch h)⟩
theorem decx29 {x : TV τ} {a : GEpoch} (h : dec29 x = some a) : ∃ x0 x1 x2 x3, x = .agg [x0, x1, x2, x3] ∧ dec2 x0 = some a.Number ∧ dec26 x1 = some a.States ∧ dec28 x2 = some a.Seals ∧ dec26 x3 = some a.Sponsor := by
  unfold dec29 at h
  split at h
  · rename_i x0 x1 x2 x3
    split at h
    · rename_i a0 h0
      split at h
      · rename_i a1 h1
        split at h
        · rename_i a2 h2
          split at h
          · rename_i a3 h3
            cases h
            exact ⟨_, _, _, _, rfl, h0, h1, h2, h3⟩
          · cases h
        · cases h
      · cases h
    · cases h
  · cases h
theorem law29 : CodAt C 29 := ⟨fun x => by show ((enc2 x.Number).cells C ++ ((enc26 x.States).cells C ++ ((enc28 x.Seals).cells C ++ ((enc26 x.Sponsor).cells C ++ [])))) = cel29 x; unfold cel29; exact congr (congrArg (· ++ ·) (law2.cel x.Number)) (congr (congrArg (· ++ ·) (law26.cel x.States)) (congr (congrArg (· ++ ·) (law28.cel x.Seals)) (congr (congrArg (· ++ ·) (law26.cel x.Sponsor)) (rfl)))), fun x => by show ((cel2 x.Number ++ (cel26 x.States ++ (cel28 x.Seals ++ (cel26 x.Sponsor ++ []))))).length = 25; rw [List.length_append, List.length_append, List.length_append, List.length_append]; have e0 : (cel2 x.Number).length = 1 := law2.len x.Number; have e1 : (cel26 x.States).length = 8 := law26.len x.States; have e2 : (cel28 x.Seals).length = 8 := law28.len x.Seals; have e3 : (cel26 x.Sponsor).length = 8 := law26.len x.Sponsor; simp only [e0, e1, e2, e3, List.length_nil], fun x a h => by obtain ⟨x0, x1, x2, x3, rfl, h0, h1, h2, h3⟩ := decx29 (show dec29 x = some a from h); exact CW.append (law2.dec _ _ h0) (CW.append (law26.dec _ _ h1) (CW.append (law28.dec _ _ h2) (CW.append (law26.dec _ _ h3) (CW.refl [])))), fun x => by show (((enc2 x.Number).ok && ((enc26 x.States).ok && ((enc28 x.Seals).ok && ((enc26 x.Sponsor).ok && true))))) = true; simp only [show (enc2 x.Number).ok = true from law2.ok _, show (enc26 x.States).ok = true from law26.ok _, show (enc28 x.Seals).ok = true from law28.ok _, show (enc26 x.Sponsor).ok = true from law26.ok _, Bool.and_self], fun x a h => by obtain ⟨x0, x1, x2, x3, rfl, h0, h1, h2, h3⟩ := decx29 (show dec29 x = some a from h); show ((x0.ok && (x1.ok && (x2.ok && (x3.ok && true))))) = true; simp only [law2.decok _ _ h0, law26.decok _ _ h1, law28.decok _ _ h2, law26.decok _ _ h3, Bool.and_self], fun x a h => by obtain ⟨x0, x1, x2, x3, rfl, h0, h1, h2, h3⟩ := decx29 (show dec29 x = some a from h); rfl, fun x => by show ((cel2 x.Number ++ (cel26 x.States ++ (cel28 x.Seals ++ (cel26 x.Sponsor ++ []))))).all AV.one = true; simp only [List.all_append, List.all_nil, show (cel2 x.Number).all AV.one = true from law2.one _, show (cel26 x.States).all AV.one = true from law26.one _, show (cel28 x.Seals).all AV.one = true from law28.one _, show (cel26 x.Sponsor).all AV.one = true from law26.one _, Bool.and_self], fun x => noids_app (law2.noid x.Number) (noids_app (law26.noid x.States) (noids_app (law28.noid x.Seals) (noids_app (law26.noid x.Sponsor) (trivial)))), fun ks h a b => by have := eqCells_append (law2.kd _ rfl a.Number b.Number) (eqCells_append (law26.kd _ rfl a.States b.States) (eqCells_append (law28.kd _ rfl a.Seals b.Seals) (eqCells_append (law26.kd _ rfl a.Sponsor b.Sponsor) ((show eqCells [] [] [] = some true from rfl))))); cases h; exact this, (fun l s h => nomatch h), (fun s l h => nomatch h)⟩
theorem decx30 {x : TV τ} {a : GEpoch} (h : dec30 x = some a) : ∃ x0 x1 x2 x3, x = .agg [x0, x1, x2, x3] ∧ dec2 x0 = some a.Number ∧ dec26 x1 = some a.States ∧ dec28 x2 = some a.Seals ∧ dec26 x3 = some a.Sponsor := by
  unfold dec30 at h
  split at h
  · rename_i x0 x1 x2 x3
    split at h
    · rename_i a0 h0
      split at h
      · rename_i a1 h1
        split at h
        · rename_i a2 h2
          split at h
          · rename_i a3 h3
            cases h
            exact ⟨_, _, _, _, rfl, h0, h1, h2, h3⟩
          · cases h
        · cases h
      · cases h
    · cases h
  · cases h
theorem law30 : CodAt C 30 := ⟨fun x => by show ((enc2 x.Number).cells C ++ ((enc26 x.States).cells C ++ ((enc28 x.Seals).cells C ++ ((enc26 x.Sponsor).cells C ++ [])))) = cel30 x; unfold cel30; exact congr (congrArg (· ++ ·) (law2.cel x.Number)) (congr (congrArg (· ++ ·) (law26.cel x.States)) (congr (congrArg (· ++ ·) (law28.cel x.Seals)) (congr (congrArg (· ++ ·) (law26.cel x.Sponsor)) (rfl)))), fun x => by show ((cel2 x.Number ++ (cel26 x.States ++ (cel28 x.Seals ++ (cel26 x.Sponsor ++ []))))).length = 25; rw [List.length_append, List.length_append, List.length_append, List.length_append]; have e0 : (cel2 x.Number).length = 1 := law2.len x.Number; have e1 : (cel26 x.States).length = 8 := law26.len x.States; have e2 : (cel28 x.Seals).length = 8 := law28.len x.Seals; have e3 : (cel26 x.Sponsor).length = 8 := law26.len x.Sponsor; simp only [e0, e1, e2, e3, List.length_nil], fun x a h => by obtain ⟨x0, x1, x2, x3, rfl, h0, h1, h2, h3⟩ := decx30 (show dec30 x = some a from h); exact CW.append (law2.dec _ _ h0) (CW.append (law26.dec _ _ h1) (CW.append (law28.dec _ _ h2) (CW.append (law26.dec _ _ h3) (CW.refl [])))), fun x => by show (((enc2 x.Number).ok && ((enc26 x.States).ok && ((enc28 x.Seals).ok && ((enc26 x.Sponsor).ok && true))))) = true; simp only [show (enc2 x.Number).ok = true from law2.ok _, show (enc26 x.States).ok = true from law26.ok _, show (enc28 x.Seals).ok = true from law28.ok _, show (enc26 x.Sponsor).ok = true from law26.ok _, Bool.and_self], fun x a h => by obtain ⟨x0, x1, x2, x3, rfl, h0, h1, h2, h3⟩ := decx30 (show dec30 x = some a from h); show ((x0.ok && (x1.ok && (x2.ok && (x3.ok && true))))) = true; simp only [law2.decok _ _ h0, law26.decok _ _ h1, law28.decok _ _ h2, law26.decok _ _ h3, Bool.and_self], fun x a h => by obtain ⟨x0, x1, x2, x3, rfl, h0, h1, h2, h3⟩ := decx30 (show dec30 x = some a from h); rfl, fun x => by show ((cel2 x.Number ++ (cel26 x.States ++ (cel28 x.Seals ++ (cel26 x.Sponsor ++ []))))).all AV.one = true; simp only [List.all_append, List.all_nil, show (cel2 x.Number).all AV.one = true from law2.one _, show (cel26 x.States).all AV.one = true from law26.one _, show (cel28 x.Seals).all AV.one = true from law28.one _, show (cel26 x.Sponsor).all AV.one = true from law26.one _, Bool.and_self], fun x => noids_app (law2.noid x.Number) (noids_app (law26.noid x.States) (noids_app (law28.noid x.Seals) (noids_app (law26.noid x.Sponsor) (trivial)))), fun ks h a b => by have := eqCells_append (law2.kd _ rfl a.Number b.Number) (eqCells_append (law26.kd _ rfl a.States b.States) (eqCells_append (law28.kd _ rfl a.Seals b.Seals) (eqCells_append (law26.kd _ rfl a.Sponsor b.Sponsor) ((show eqCells [] [] [] = some true from rfl))))); cases h; exact this, (fun l s h => nomatch h), (fun s l h => nomatch h)⟩
theorem law31 : CodAt C 31 := ⟨fun x => rfl, fun x => rfl, fun x a h => (dSl_cw (C := C) (show dSl 5 x = some a from h)).1, fun x => rfl, fun x a h => (dSl_cw (C := C) (show dSl 5 x = some a from h)).2.1, fun x a h => (dSl_cw (C := C) (show dSl 5 x = some a from h)).2.2, fun a => rfl, fun a => noids_one (NoId.asl fun cs hc => by obtain ⟨y, _, rfl⟩ := List.mem_map.1 hc; exact law5.noid y), (fun ks h => nomatch h), (fun l s h => nomatch h), (fun s l h => nomatch h)⟩
theorem law35 : CodAt C 35 := ⟨fun x => rfl, fun x => rfl, fun x a h => by rw [dInt_x (show dInt .i64 x = some a from h)]; exact .refl _, fun x => rfl, fun x a h => by rw [dInt_x (show dInt .i64 x = some a from h)]; rfl, fun x a h => by rw [dInt_x (show dInt .i64 x = some a from h)]; rfl, fun a => rfl, fun a => noids_one (NoId.v _), fun ks h a b => by cases h; simp [eqCells, scal, C, celT, cel35, beqT, beq35], (fun l s h => nomatch h), (fun s l h => nomatch h)⟩
theorem decx47 {x : TV τ} {a : Gorchardref04_Reader} (h : dec47 x = some a) : ∃ x0 x1 x2, x = .agg [x0, x1, x2] ∧ dec31 x0 = some a.B ∧ dec3 x1 = some a.At ∧ dec35 x2 = some a.E := by
  unfold dec47 at h
  split at h
  · rename_i x0 x1 x2
    split at h
    · rename_i a0 h0
      split at h
      · rename_i a1 h1
        split at h
        · rename_i a2 h2
          cases h
          exact ⟨_, _, _, rfl, h0, h1, h2⟩
        · cases h
      · cases h
    · cases h
  · cases h
theorem law47 : CodAt C 47 := ⟨fun x => by show ((enc31 x.B).cells C ++ ((enc3 x.At).cells C ++ ((enc35 x.E).cells C ++ []))) = cel47 x; unfold cel47; exact congr (congrArg (· ++ ·) (law31.cel x.B)) (congr (congrArg (· ++ ·) (law3.cel x.At)) (congr (congrArg (· ++ ·) (law35.cel x.E)) (rfl))), fun x => by show ((cel31 x.B ++ (cel3 x.At ++ (cel35 x.E ++ [])))).length = 3; rw [List.length_append, List.length_append, List.length_append]; have e0 : (cel31 x.B).length = 1 := law31.len x.B; have e1 : (cel3 x.At).length = 1 := law3.len x.At; have e2 : (cel35 x.E).length = 1 := law35.len x.E; simp only [e0, e1, e2, List.length_nil], fun x a h => by obtain ⟨x0, x1, x2, rfl, h0, h1, h2⟩ := decx47 (show dec47 x = some a from h); exact CW.append (law31.dec _ _ h0) (CW.append (law3.dec _ _ h1) (CW.append (law35.dec _ _ h2) (CW.refl []))), fun x => by show (((enc31 x.B).ok && ((enc3 x.At).ok && ((enc35 x.E).ok && true)))) = true; simp only [show (enc31 x.B).ok = true from law31.ok _, show (enc3 x.At).ok = true from law3.ok _, show (enc35 x.E).ok = true from law35.ok _, Bool.and_self], fun x a h => by obtain ⟨x0, x1, x2, rfl, h0, h1, h2⟩ := decx47 (show dec47 x = some a from h); show ((x0.ok && (x1.ok && (x2.ok && true)))) = true; simp only [law31.decok _ _ h0, law3.decok _ _ h1, law35.decok _ _ h2, Bool.and_self], fun x a h => by obtain ⟨x0, x1, x2, rfl, h0, h1, h2⟩ := decx47 (show dec47 x = some a from h); rfl, fun x => by show ((cel31 x.B ++ (cel3 x.At ++ (cel35 x.E ++ [])))).all AV.one = true; simp only [List.all_append, List.all_nil, show (cel31 x.B).all AV.one = true from law31.one _, show (cel3 x.At).all AV.one = true from law3.one _, show (cel35 x.E).all AV.one = true from law35.one _, Bool.and_self], fun x => noids_app (law31.noid x.B) (noids_app (law3.noid x.At) (noids_app (law35.noid x.E) (trivial))), (fun ks h => nomatch h), (fun l s h => nomatch h), (fun s l h => nomatch h)⟩
theorem decx48 {x : TV τ} {a : Gorchardref04_Reader} (h : dec48 x = some a) : ∃ x0 x1 x2, x = .agg [x0, x1, x2] ∧ dec31 x0 = some a.B ∧ dec3 x1 = some a.At ∧ dec35 x2 = some a.E := by
  unfold dec48 at h
  split at h
  · rename_i x0 x1 x2
    split at h
    · rename_i a0 h0
      split at h
      · rename_i a1 h1
        split at h
        · rename_i a2 h2
          cases h
          exact ⟨_, _, _, rfl, h0, h1, h2⟩
        · cases h
      · cases h
    · cases h
  · cases h
theorem law48 : CodAt C 48 := ⟨fun x => by show ((enc31 x.B).cells C ++ ((enc3 x.At).cells C ++ ((enc35 x.E).cells C ++ []))) = cel48 x; unfold cel48; exact congr (congrArg (· ++ ·) (law31.cel x.B)) (congr (congrArg (· ++ ·) (law3.cel x.At)) (congr (congrArg (· ++ ·) (law35.cel x.E)) (rfl))), fun x => by show ((cel31 x.B ++ (cel3 x.At ++ (cel35 x.E ++ [])))).length = 3; rw [List.length_append, List.length_append, List.length_append]; have e0 : (cel31 x.B).length = 1 := law31.len x.B; have e1 : (cel3 x.At).length = 1 := law3.len x.At; have e2 : (cel35 x.E).length = 1 := law35.len x.E; simp only [e0, e1, e2, List.length_nil], fun x a h => by obtain ⟨x0, x1, x2, rfl, h0, h1, h2⟩ := decx48 (show dec48 x = some a from h); exact CW.append (law31.dec _ _ h0) (CW.append (law3.dec _ _ h1) (CW.append (law35.dec _ _ h2) (CW.refl []))), fun x => by show (((enc31 x.B).ok && ((enc3 x.At).ok && ((enc35 x.E).ok && true)))) = true; simp only [show (enc31 x.B).ok = true from law31.ok _, show (enc3 x.At).ok = true from law3.ok _, show (enc35 x.E).ok = true from law35.ok _, Bool.and_self], fun x a h => by obtain ⟨x0, x1, x2, rfl, h0, h1, h2⟩ := decx48 (show dec48 x = some a from h); show ((x0.ok && (x1.ok && (x2.ok && true)))) = true; simp only [law31.decok _ _ h0, law3.decok _ _ h1, law35.decok _ _ h2, Bool.and_self], fun x a h => by obtain ⟨x0, x1, x2, rfl, h0, h1, h2⟩ := decx48 (show dec48 x = some a from h); rfl, fun x => by show ((cel31 x.B ++ (cel3 x.At ++ (cel35 x.E ++ [])))).all AV.one = true; simp only [List.all_append, List.all_nil, show (cel31 x.B).all AV.one = true from law31.one _, show (cel3 x.At).all AV.one = true from law3.one _, show (cel35 x.E).all AV.one = true from law35.one _, Bool.and_self], fun x => noids_app (law31.noid x.B) (noids_app (law3.noid x.At) (noids_app (law35.noid x.E) (trivial))), (fun ks h => nomatch h), (fun l s h => nomatch h), (fun s l h => nomatch h)⟩
theorem law60 : CodAt C 60 := ⟨fun x => rfl, fun x => rfl, fun x a h => (dSl_cw (C := C) (show dSl 25 x = some a from h)).1, fun x => rfl, fun x a h => (dSl_cw (C := C) (show dSl 25 x = some a from h)).2.1, fun x a h => (dSl_cw (C := C) (show dSl 25 x = some a from h)).2.2, fun a => rfl, fun a => noids_one (NoId.asl fun cs hc => by obtain ⟨y, _, rfl⟩ := List.mem_map.1 hc; exact law25.noid y), (fun ks h => nomatch h), (fun l s h => nomatch h), (fun s l h => nomatch h)⟩
theorem decx61 {x : TV τ} {a : GPart} (h : dec61 x = some a) : ∃ x0 x1 x2 x3, x = .agg [x0, x1, x2, x3] ∧ dec2 x0 = some a.Snap ∧ dec3 x1 = some a.Index ∧ dec3 x2 = some a.Many ∧ dec31 x3 = some a.Data := by
  unfold dec61 at h
  split at h
  · rename_i x0 x1 x2 x3
    split at h
    · rename_i a0 h0
      split at h
      · rename_i a1 h1
        split at h
        · rename_i a2 h2
          split at h
          · rename_i a3 h3
            cases h
            exact ⟨_, _, _, _, rfl, h0, h1, h2, h3⟩
          · cases h
        · cases h
      · cases h
    · cases h
  · cases h
theorem law61 : CodAt C 61 := ⟨fun x => by show ((enc2 x.Snap).cells C ++ ((enc3 x.Index).cells C ++ ((enc3 x.Many).cells C ++ ((enc31 x.Data).cells C ++ [])))) = cel61 x; unfold cel61; exact congr (congrArg (· ++ ·) (law2.cel x.Snap)) (congr (congrArg (· ++ ·) (law3.cel x.Index)) (congr (congrArg (· ++ ·) (law3.cel x.Many)) (congr (congrArg (· ++ ·) (law31.cel x.Data)) (rfl)))), fun x => by show ((cel2 x.Snap ++ (cel3 x.Index ++ (cel3 x.Many ++ (cel31 x.Data ++ []))))).length = 4; rw [List.length_append, List.length_append, List.length_append, List.length_append]; have e0 : (cel2 x.Snap).length = 1 := law2.len x.Snap; have e1 : (cel3 x.Index).length = 1 := law3.len x.Index; have e2 : (cel3 x.Many).length = 1 := law3.len x.Many; have e3 : (cel31 x.Data).length = 1 := law31.len x.Data; simp only [e0, e1, e2, e3, List.length_nil], fun x a h => by obtain ⟨x0, x1, x2, x3, rfl, h0, h1, h2, h3⟩ := decx61 (show dec61 x = some a from h); exact CW.append (law2.dec _ _ h0) (CW.append (law3.dec _ _ h1) (CW.append (law3.dec _ _ h2) (CW.append (law31.dec _ _ h3) (CW.refl [])))), fun x => by show (((enc2 x.Snap).ok && ((enc3 x.Index).ok && ((enc3 x.Many).ok && ((enc31 x.Data).ok && true))))) = true; simp only [show (enc2 x.Snap).ok = true from law2.ok _, show (enc3 x.Index).ok = true from law3.ok _, show (enc3 x.Many).ok = true from law3.ok _, show (enc31 x.Data).ok = true from law31.ok _, Bool.and_self], fun x a h => by obtain ⟨x0, x1, x2, x3, rfl, h0, h1, h2, h3⟩ := decx61 (show dec61 x = some a from h); show ((x0.ok && (x1.ok && (x2.ok && (x3.ok && true))))) = true; simp only [law2.decok _ _ h0, law3.decok _ _ h1, law3.decok _ _ h2, law31.decok _ _ h3, Bool.and_self], fun x a h => by obtain ⟨x0, x1, x2, x3, rfl, h0, h1, h2, h3⟩ := decx61 (show dec61 x = some a from h); rfl, fun x => by show ((cel2 x.Snap ++ (cel3 x.Index ++ (cel3 x.Many ++ (cel31 x.Data ++ []))))).all AV.one = true; simp only [List.all_append, List.all_nil, show (cel2 x.Snap).all AV.one = true from law2.one _, show (cel3 x.Index).all AV.one = true from law3.one _, show (cel3 x.Many).all AV.one = true from law3.one _, show (cel31 x.Data).all AV.one = true from law31.one _, Bool.and_self], fun x => noids_app (law2.noid x.Snap) (noids_app (law3.noid x.Index) (noids_app (law3.noid x.Many) (noids_app (law31.noid x.Data) (trivial)))), (fun ks h => nomatch h), (fun l s h => nomatch h), (fun s l h => nomatch h)⟩
theorem decx62 {x : TV τ} {a : GPart} (h : dec62 x = some a) : ∃ x0 x1 x2 x3, x = .agg [x0, x1, x2, x3] ∧ dec2 x0 = some a.Snap ∧ dec3 x1 = some a.Index ∧ dec3 x2 = some a.Many ∧ dec31 x3 = some a.Data := by
  unfold dec62 at h
  split at h
  · rename_i x0 x1 x2 x3
    split at h
    · rename_i a0 h0
      split at h
      · rename_i a1 h1
        split at h
        · rename_i a2 h2
          split at h
          · rename_i a3 h3
            cases h
            exact ⟨_, _, _, _, rfl, h0, h1, h2, h3⟩
          · cases h
        · cases h
      · cases h
    · cases h
  · cases h
theorem law62 : CodAt C 62 := ⟨fun x => by show ((enc2 x.Snap).cells C ++ ((enc3 x.Index).cells C ++ ((enc3 x.Many).cells C ++ ((enc31 x.Data).cells C ++ [])))) = cel62 x; unfold cel62; exact congr (congrArg (· ++ ·) (law2.cel x.Snap)) (congr (congrArg (· ++ ·) (law3.cel x.Index)) (congr (congrArg (· ++ ·) (law3.cel x.Many)) (congr (congrArg (· ++ ·) (law31.cel x.Data)) (rfl)))), fun x => by show ((cel2 x.Snap ++ (cel3 x.Index ++ (cel3 x.Many ++ (cel31 x.Data ++ []))))).length = 4; rw [List.length_append, List.length_append, List.length_append, List.length_append]; have e0 : (cel2 x.Snap).length = 1 := law2.len x.Snap; have e1 : (cel3 x.Index).length = 1 := law3.len x.Index; have e2 : (cel3 x.Many).length = 1 := law3.len x.Many; have e3 : (cel31 x.Data).length = 1 := law31.len x.Data; simp only [e0, e1, e2, e3, List.length_nil], fun x a h => by obtain ⟨x0, x1, x2, x3, rfl, h0, h1, h2, h3⟩ := decx62 (show dec62 x = some a from h); exact CW.append (law2.dec _ _ h0) (CW.append (law3.dec _ _ h1) (CW.append (law3.dec _ _ h2) (CW.append (law31.dec _ _ h3) (CW.refl [])))), fun x => by show (((enc2 x.Snap).ok && ((enc3 x.Index).ok && ((enc3 x.Many).ok && ((enc31 x.Data).ok && true))))) = true; simp only [show (enc2 x.Snap).ok = true from law2.ok _, show (enc3 x.Index).ok = true from law3.ok _, show (enc3 x.Many).ok = true from law3.ok _, show (enc31 x.Data).ok = true from law31.ok _, Bool.and_self], fun x a h => by obtain ⟨x0, x1, x2, x3, rfl, h0, h1, h2, h3⟩ := decx62 (show dec62 x = some a from h); show ((x0.ok && (x1.ok && (x2.ok && (x3.ok && true))))) = true; simp only [law2.decok _ _ h0, law3.decok _ _ h1, law3.decok _ _ h2, law31.decok _ _ h3, Bool.and_self], fun x a h => by obtain ⟨x0, x1, x2, x3, rfl, h0, h1, h2, h3⟩ := decx62 (show dec62 x = some a from h); rfl, fun x => by show ((cel2 x.Snap ++ (cel3 x.Index ++ (cel3 x.Many ++ (cel31 x.Data ++ []))))).all AV.one = true; simp only [List.all_append, List.all_nil, show (cel2 x.Snap).all AV.one = true from law2.one _, show (cel3 x.Index).all AV.one = true from law3.one _, show (cel3 x.Many).all AV.one = true from law3.one _, show (cel31 x.Data).all AV.one = true from law31.one _, Bool.and_self], fun x => noids_app (law2.noid x.Snap) (noids_app (law3.noid x.Index) (noids_app (law3.noid x.Many) (noids_app (law31.noid x.Data) (trivial)))), (fun ks h => nomatch h), (fun l s h => nomatch h), (fun s l h => nomatch h)⟩
theorem decx63 {x : TV τ} {a : GEntry} (h : dec63 x = some a) : ∃ x0 x1 x2 x3 x4 x5 x6 x7 x8 x9 x10 x11 x12 x13 x14, x = .agg [x0, x1, x2, x3, x4, x5, x6, x7, x8, x9, x10, x11, x12, x13, x14] ∧ dec3 x0 = some a.Kind ∧ dec2 x1 = some a.Session ∧ dec2 x2 = some a.Request ∧ dec25 x3 = some a.Op ∧ dec3 x4 = some a.Origin ∧ dec2 x5 = some a.Seq ∧ dec60 x6 = some a.Ops ∧ dec30 x7 = some a.Epoch ∧ dec3 x8 = some a.From ∧ dec28 x9 = some a.Vector_ ∧ dec2 x10 = some a.Clock ∧ dec62 x11 = some a.Part ∧ dec3 x12 = some a.Site ∧ dec3 x13 = some a.Sponsor ∧ dec2 x14 = some a.Length := by
  unfold dec63 at h
  split at h
  · rename_i x0 x1 x2 x3 x4 x5 x6 x7 x8 x9 x10 x11 x12 x13 x14
    split at h
    · rename_i a0 h0
      split at h
      · rename_i a1 h1
        split at h
        · rename_i a2 h2
          split at h
          · rename_i a3 h3
            split at h
            · rename_i a4 h4
              split at h
              · rename_i a5 h5
                split at h
                · rename_i a6 h6
                  split at h
                  · rename_i a7 h7
                    split at h
                    · rename_i a8 h8
                      split at h
                      · rename_i a9 h9
                        split at h
                        · rename_i a10 h10
                          split at h
                          · rename_i a11 h11
                            split at h
                            · rename_i a12 h12
                              split at h
                              · rename_i a13 h13
                                split at h
                                · rename_i a14 h14
                                  cases h
                                  exact ⟨_, _, _, _, _, _, _, _, _, _, _, _, _, _, _, rfl, h0, h1, h2, h3, h4, h5, h6, h7, h8, h9, h10, h11, h12, h13, h14⟩
                                · cases h
                              · cases h
                            · cases h
                          · cases h
                        · cases h
                      · cases h
                    · cases h
                  · cases h
                · cases h
              · cases h
            · cases h
          · cases h
        · cases h
      · cases h
    · cases h
  · cases h
theorem law63 : CodAt C 63 := ⟨fun x => by show ((enc3 x.Kind).cells C ++ ((enc2 x.Session).cells C ++ ((enc2 x.Request).cells C ++ ((enc25 x.Op).cells C ++ ((enc3 x.Origin).cells C ++ ((enc2 x.Seq).cells C ++ ((enc60 x.Ops).cells C ++ ((enc30 x.Epoch).cells C ++ ((enc3 x.From).cells C ++ ((enc28 x.Vector_).cells C ++ ((enc2 x.Clock).cells C ++ ((enc62 x.Part).cells C ++ ((enc3 x.Site).cells C ++ ((enc3 x.Sponsor).cells C ++ ((enc2 x.Length).cells C ++ []))))))))))))))) = cel63 x; unfold cel63; exact congr (congrArg (· ++ ·) (law3.cel x.Kind)) (congr (congrArg (· ++ ·) (law2.cel x.Session)) (congr (congrArg (· ++ ·) (law2.cel x.Request)) (congr (congrArg (· ++ ·) (law25.cel x.Op)) (congr (congrArg (· ++ ·) (law3.cel x.Origin)) (congr (congrArg (· ++ ·) (law2.cel x.Seq)) (congr (congrArg (· ++ ·) (law60.cel x.Ops)) (congr (congrArg (· ++ ·) (law30.cel x.Epoch)) (congr (congrArg (· ++ ·) (law3.cel x.From)) (congr (congrArg (· ++ ·) (law28.cel x.Vector_)) (congr (congrArg (· ++ ·) (law2.cel x.Clock)) (congr (congrArg (· ++ ·) (law62.cel x.Part)) (congr (congrArg (· ++ ·) (law3.cel x.Site)) (congr (congrArg (· ++ ·) (law3.cel x.Sponsor)) (congr (congrArg (· ++ ·) (law2.cel x.Length)) (rfl))))))))))))))), fun x => by show ((cel3 x.Kind ++ (cel2 x.Session ++ (cel2 x.Request ++ (cel25 x.Op ++ (cel3 x.Origin ++ (cel2 x.Seq ++ (cel60 x.Ops ++ (cel30 x.Epoch ++ (cel3 x.From ++ (cel28 x.Vector_ ++ (cel2 x.Clock ++ (cel62 x.Part ++ (cel3 x.Site ++ (cel3 x.Sponsor ++ (cel2 x.Length ++ [])))))))))))))))).length = 56; rw [List.length_append, List.length_append, List.length_append, List.length_append, List.length_append, List.length_append, List.length_append, List.length_append, List.length_append, List.length_append, List.length_append, List.length_append, List.length_append, List.length_append, List.length_append]; have e0 : (cel3 x.Kind).length = 1 := law3.len x.Kind; have e1 : (cel2 x.Session).length = 1 := law2.len x.Session; have e2 : (cel2 x.Request).length = 1 := law2.len x.Request; have e3 : (cel25 x.Op).length = 8 := law25.len x.Op; have e4 : (cel3 x.Origin).length = 1 := law3.len x.Origin; have e5 : (cel2 x.Seq).length = 1 := law2.len x.Seq; have e6 : (cel60 x.Ops).length = 1 := law60.len x.Ops; have e7 : (cel30 x.Epoch).length = 25 := law30.len x.Epoch; have e8 : (cel3 x.From).length = 1 := law3.len x.From; have e9 : (cel28 x.Vector_).length = 8 := law28.len x.Vector_; have e10 : (cel2 x.Clock).length = 1 := law2.len x.Clock; have e11 : (cel62 x.Part).length = 4 := law62.len x.Part; have e12 : (cel3 x.Site).length = 1 := law3.len x.Site; have e13 : (cel3 x.Sponsor).length = 1 := law3.len x.Sponsor; have e14 : (cel2 x.Length).length = 1 := law2.len x.Length; simp only [e0, e1, e2, e3, e4, e5, e6, e7, e8, e9, e10, e11, e12, e13, e14, List.length_nil], fun x a h => by obtain ⟨x0, x1, x2, x3, x4, x5, x6, x7, x8, x9, x10, x11, x12, x13, x14, rfl, h0, h1, h2, h3, h4, h5, h6, h7, h8, h9, h10, h11, h12, h13, h14⟩ := decx63 (show dec63 x = some a from h); exact CW.append (law3.dec _ _ h0) (CW.append (law2.dec _ _ h1) (CW.append (law2.dec _ _ h2) (CW.append (law25.dec _ _ h3) (CW.append (law3.dec _ _ h4) (CW.append (law2.dec _ _ h5) (CW.append (law60.dec _ _ h6) (CW.append (law30.dec _ _ h7) (CW.append (law3.dec _ _ h8) (CW.append (law28.dec _ _ h9) (CW.append (law2.dec _ _ h10) (CW.append (law62.dec _ _ h11) (CW.append (law3.dec _ _ h12) (CW.append (law3.dec _ _ h13) (CW.append (law2.dec _ _ h14) (CW.refl []))))))))))))))), fun x => by show (((enc3 x.Kind).ok && ((enc2 x.Session).ok && ((enc2 x.Request).ok && ((enc25 x.Op).ok && ((enc3 x.Origin).ok && ((enc2 x.Seq).ok && ((enc60 x.Ops).ok && ((enc30 x.Epoch).ok && ((enc3 x.From).ok && ((enc28 x.Vector_).ok && ((enc2 x.Clock).ok && ((enc62 x.Part).ok && ((enc3 x.Site).ok && ((enc3 x.Sponsor).ok && ((enc2 x.Length).ok && true)))))))))))))))) = true; simp only [show (enc3 x.Kind).ok = true from law3.ok _, show (enc2 x.Session).ok = true from law2.ok _, show (enc2 x.Request).ok = true from law2.ok _, show (enc25 x.Op).ok = true from law25.ok _, show (enc3 x.Origin).ok = true from law3.ok _, show (enc2 x.Seq).ok = true from law2.ok _, show (enc60 x.Ops).ok = true from law60.ok _, show (enc30 x.Epoch).ok = true from law30.ok _, show (enc3 x.From).ok = true from law3.ok _, show (enc28 x.Vector_).ok = true from law28.ok _, show (enc2 x.Clock).ok = true from law2.ok _, show (enc62 x.Part).ok = true from law62.ok _, show (enc3 x.Site).ok = true from law3.ok _, show (enc3 x.Sponsor).ok = true from law3.ok _, show (enc2 x.Length).ok = true from law2.ok _, Bool.and_self], fun x a h => by obtain ⟨x0, x1, x2, x3, x4, x5, x6, x7, x8, x9, x10, x11, x12, x13, x14, rfl, h0, h1, h2, h3, h4, h5, h6, h7, h8, h9, h10, h11, h12, h13, h14⟩ := decx63 (show dec63 x = some a from h); show ((x0.ok && (x1.ok && (x2.ok && (x3.ok && (x4.ok && (x5.ok && (x6.ok && (x7.ok && (x8.ok && (x9.ok && (x10.ok && (x11.ok && (x12.ok && (x13.ok && (x14.ok && true)))))))))))))))) = true; simp only [law3.decok _ _ h0, law2.decok _ _ h1, law2.decok _ _ h2, law25.decok _ _ h3, law3.decok _ _ h4, law2.decok _ _ h5, law60.decok _ _ h6, law30.decok _ _ h7, law3.decok _ _ h8, law28.decok _ _ h9, law2.decok _ _ h10, law62.decok _ _ h11, law3.decok _ _ h12, law3.decok _ _ h13, law2.decok _ _ h14, Bool.and_self], fun x a h => by obtain ⟨x0, x1, x2, x3, x4, x5, x6, x7, x8, x9, x10, x11, x12, x13, x14, rfl, h0, h1, h2, h3, h4, h5, h6, h7, h8, h9, h10, h11, h12, h13, h14⟩ := decx63 (show dec63 x = some a from h); rfl, fun x => by show ((cel3 x.Kind ++ (cel2 x.Session ++ (cel2 x.Request ++ (cel25 x.Op ++ (cel3 x.Origin ++ (cel2 x.Seq ++ (cel60 x.Ops ++ (cel30 x.Epoch ++ (cel3 x.From ++ (cel28 x.Vector_ ++ (cel2 x.Clock ++ (cel62 x.Part ++ (cel3 x.Site ++ (cel3 x.Sponsor ++ (cel2 x.Length ++ [])))))))))))))))).all AV.one = true; simp only [List.all_append, List.all_nil, show (cel3 x.Kind).all AV.one = true from law3.one _, show (cel2 x.Session).all AV.one = true from law2.one _, show (cel2 x.Request).all AV.one = true from law2.one _, show (cel25 x.Op).all AV.one = true from law25.one _, show (cel3 x.Origin).all AV.one = true from law3.one _, show (cel2 x.Seq).all AV.one = true from law2.one _, show (cel60 x.Ops).all AV.one = true from law60.one _, show (cel30 x.Epoch).all AV.one = true from law30.one _, show (cel3 x.From).all AV.one = true from law3.one _, show (cel28 x.Vector_).all AV.one = true from law28.one _, show (cel2 x.Clock).all AV.one = true from law2.one _, show (cel62 x.Part).all AV.one = true from law62.one _, show (cel3 x.Site).all AV.one = true from law3.one _, show (cel3 x.Sponsor).all AV.one = true from law3.one _, show (cel2 x.Length).all AV.one = true from law2.one _, Bool.and_self], fun x => noids_app (law3.noid x.Kind) (noids_app (law2.noid x.Session) (noids_app (law2.noid x.Request) (noids_app (law25.noid x.Op) (noids_app (law3.noid x.Origin) (noids_app (law2.noid x.Seq) (noids_app (law60.noid x.Ops) (noids_app (law30.noid x.Epoch) (noids_app (law3.noid x.From) (noids_app (law28.noid x.Vector_) (noids_app (law2.noid x.Clock) (noids_app (law62.noid x.Part) (noids_app (law3.noid x.Site) (noids_app (law3.noid x.Sponsor) (noids_app (law2.noid x.Length) (trivial))))))))))))))), (fun ks h => nomatch h), (fun l s h => nomatch h), (fun s l h => nomatch h)⟩
theorem decx64 {x : TV τ} {a : GEntry} (h : dec64 x = some a) : ∃ x0 x1 x2 x3 x4 x5 x6 x7 x8 x9 x10 x11 x12 x13 x14, x = .agg [x0, x1, x2, x3, x4, x5, x6, x7, x8, x9, x10, x11, x12, x13, x14] ∧ dec3 x0 = some a.Kind ∧ dec2 x1 = some a.Session ∧ dec2 x2 = some a.Request ∧ dec25 x3 = some a.Op ∧ dec3 x4 = some a.Origin ∧ dec2 x5 = some a.Seq ∧ dec60 x6 = some a.Ops ∧ dec30 x7 = some a.Epoch ∧ dec3 x8 = some a.From ∧ dec28 x9 = some a.Vector_ ∧ dec2 x10 = some a.Clock ∧ dec62 x11 = some a.Part ∧ dec3 x12 = some a.Site ∧ dec3 x13 = some a.Sponsor ∧ dec2 x14 = some a.Length := by
  unfold dec64 at h
  split at h
  · rename_i x0 x1 x2 x3 x4 x5 x6 x7 x8 x9 x10 x11 x12 x13 x14
    split at h
    · rename_i a0 h0
      split at h
      · rename_i a1 h1
        split at h
        · rename_i a2 h2
          split at h
          · rename_i a3 h3
            split at h
            · rename_i a4 h4
              split at h
              · rename_i a5 h5
                split at h
                · rename_i a6 h6
                  split at h
                  · rename_i a7 h7
                    split at h
                    · rename_i a8 h8
                      split at h
                      · rename_i a9 h9
                        split at h
                        · rename_i a10 h10
                          split at h
                          · rename_i a11 h11
                            split at h
                            · rename_i a12 h12
                              split at h
                              · rename_i a13 h13
                                split at h
                                · rename_i a14 h14
                                  cases h
                                  exact ⟨_, _, _, _, _, _, _, _, _, _, _, _, _, _, _, rfl, h0, h1, h2, h3, h4, h5, h6, h7, h8, h9, h10, h11, h12, h13, h14⟩
                                · cases h
                              · cases h
                            · cases h
                          · cases h
                        · cases h
                      · cases h
                    · cases h
                  · cases h
                · cases h
              · cases h
            · cases h
          · cases h
        · cases h
      · cases h
    · cases h
  · cases h
theorem law64 : CodAt C 64 := ⟨fun x => by show ((enc3 x.Kind).cells C ++ ((enc2 x.Session).cells C ++ ((enc2 x.Request).cells C ++ ((enc25 x.Op).cells C ++ ((enc3 x.Origin).cells C ++ ((enc2 x.Seq).cells C ++ ((enc60 x.Ops).cells C ++ ((enc30 x.Epoch).cells C ++ ((enc3 x.From).cells C ++ ((enc28 x.Vector_).cells C ++ ((enc2 x.Clock).cells C ++ ((enc62 x.Part).cells C ++ ((enc3 x.Site).cells C ++ ((enc3 x.Sponsor).cells C ++ ((enc2 x.Length).cells C ++ []))))))))))))))) = cel64 x; unfold cel64; exact congr (congrArg (· ++ ·) (law3.cel x.Kind)) (congr (congrArg (· ++ ·) (law2.cel x.Session)) (congr (congrArg (· ++ ·) (law2.cel x.Request)) (congr (congrArg (· ++ ·) (law25.cel x.Op)) (congr (congrArg (· ++ ·) (law3.cel x.Origin)) (congr (congrArg (· ++ ·) (law2.cel x.Seq)) (congr (congrArg (· ++ ·) (law60.cel x.Ops)) (congr (congrArg (· ++ ·) (law30.cel x.Epoch)) (congr (congrArg (· ++ ·) (law3.cel x.From)) (congr (congrArg (· ++ ·) (law28.cel x.Vector_)) (congr (congrArg (· ++ ·) (law2.cel x.Clock)) (congr (congrArg (· ++ ·) (law62.cel x.Part)) (congr (congrArg (· ++ ·) (law3.cel x.Site)) (congr (congrArg (· ++ ·) (law3.cel x.Sponsor)) (congr (congrArg (· ++ ·) (law2.cel x.Length)) (rfl))))))))))))))), fun x => by show ((cel3 x.Kind ++ (cel2 x.Session ++ (cel2 x.Request ++ (cel25 x.Op ++ (cel3 x.Origin ++ (cel2 x.Seq ++ (cel60 x.Ops ++ (cel30 x.Epoch ++ (cel3 x.From ++ (cel28 x.Vector_ ++ (cel2 x.Clock ++ (cel62 x.Part ++ (cel3 x.Site ++ (cel3 x.Sponsor ++ (cel2 x.Length ++ [])))))))))))))))).length = 56; rw [List.length_append, List.length_append, List.length_append, List.length_append, List.length_append, List.length_append, List.length_append, List.length_append, List.length_append, List.length_append, List.length_append, List.length_append, List.length_append, List.length_append, List.length_append]; have e0 : (cel3 x.Kind).length = 1 := law3.len x.Kind; have e1 : (cel2 x.Session).length = 1 := law2.len x.Session; have e2 : (cel2 x.Request).length = 1 := law2.len x.Request; have e3 : (cel25 x.Op).length = 8 := law25.len x.Op; have e4 : (cel3 x.Origin).length = 1 := law3.len x.Origin; have e5 : (cel2 x.Seq).length = 1 := law2.len x.Seq; have e6 : (cel60 x.Ops).length = 1 := law60.len x.Ops; have e7 : (cel30 x.Epoch).length = 25 := law30.len x.Epoch; have e8 : (cel3 x.From).length = 1 := law3.len x.From; have e9 : (cel28 x.Vector_).length = 8 := law28.len x.Vector_; have e10 : (cel2 x.Clock).length = 1 := law2.len x.Clock; have e11 : (cel62 x.Part).length = 4 := law62.len x.Part; have e12 : (cel3 x.Site).length = 1 := law3.len x.Site; have e13 : (cel3 x.Sponsor).length = 1 := law3.len x.Sponsor; have e14 : (cel2 x.Length).length = 1 := law2.len x.Length; simp only [e0, e1, e2, e3, e4, e5, e6, e7, e8, e9, e10, e11, e12, e13, e14, List.length_nil], fun x a h => by obtain ⟨x0, x1, x2, x3, x4, x5, x6, x7, x8, x9, x10, x11, x12, x13, x14, rfl, h0, h1, h2, h3, h4, h5, h6, h7, h8, h9, h10, h11, h12, h13, h14⟩ := decx64 (show dec64 x = some a from h); exact CW.append (law3.dec _ _ h0) (CW.append (law2.dec _ _ h1) (CW.append (law2.dec _ _ h2) (CW.append (law25.dec _ _ h3) (CW.append (law3.dec _ _ h4) (CW.append (law2.dec _ _ h5) (CW.append (law60.dec _ _ h6) (CW.append (law30.dec _ _ h7) (CW.append (law3.dec _ _ h8) (CW.append (law28.dec _ _ h9) (CW.append (law2.dec _ _ h10) (CW.append (law62.dec _ _ h11) (CW.append (law3.dec _ _ h12) (CW.append (law3.dec _ _ h13) (CW.append (law2.dec _ _ h14) (CW.refl []))))))))))))))), fun x => by show (((enc3 x.Kind).ok && ((enc2 x.Session).ok && ((enc2 x.Request).ok && ((enc25 x.Op).ok && ((enc3 x.Origin).ok && ((enc2 x.Seq).ok && ((enc60 x.Ops).ok && ((enc30 x.Epoch).ok && ((enc3 x.From).ok && ((enc28 x.Vector_).ok && ((enc2 x.Clock).ok && ((enc62 x.Part).ok && ((enc3 x.Site).ok && ((enc3 x.Sponsor).ok && ((enc2 x.Length).ok && true)))))))))))))))) = true; simp only [show (enc3 x.Kind).ok = true from law3.ok _, show (enc2 x.Session).ok = true from law2.ok _, show (enc2 x.Request).ok = true from law2.ok _, show (enc25 x.Op).ok = true from law25.ok _, show (enc3 x.Origin).ok = true from law3.ok _, show (enc2 x.Seq).ok = true from law2.ok _, show (enc60 x.Ops).ok = true from law60.ok _, show (enc30 x.Epoch).ok = true from law30.ok _, show (enc3 x.From).ok = true from law3.ok _, show (enc28 x.Vector_).ok = true from law28.ok _, show (enc2 x.Clock).ok = true from law2.ok _, show (enc62 x.Part).ok = true from law62.ok _, show (enc3 x.Site).ok = true from law3.ok _, show (enc3 x.Sponsor).ok = true from law3.ok _, show (enc2 x.Length).ok = true from law2.ok _, Bool.and_self], fun x a h => by obtain ⟨x0, x1, x2, x3, x4, x5, x6, x7, x8, x9, x10, x11, x12, x13, x14, rfl, h0, h1, h2, h3, h4, h5, h6, h7, h8, h9, h10, h11, h12, h13, h14⟩ := decx64 (show dec64 x = some a from h); show ((x0.ok && (x1.ok && (x2.ok && (x3.ok && (x4.ok && (x5.ok && (x6.ok && (x7.ok && (x8.ok && (x9.ok && (x10.ok && (x11.ok && (x12.ok && (x13.ok && (x14.ok && true)))))))))))))))) = true; simp only [law3.decok _ _ h0, law2.decok _ _ h1, law2.decok _ _ h2, law25.decok _ _ h3, law3.decok _ _ h4, law2.decok _ _ h5, law60.decok _ _ h6, law30.decok _ _ h7, law3.decok _ _ h8, law28.decok _ _ h9, law2.decok _ _ h10, law62.decok _ _ h11, law3.decok _ _ h12, law3.decok _ _ h13, law2.decok _ _ h14, Bool.and_self], fun x a h => by obtain ⟨x0, x1, x2, x3, x4, x5, x6, x7, x8, x9, x10, x11, x12, x13, x14, rfl, h0, h1, h2, h3, h4, h5, h6, h7, h8, h9, h10, h11, h12, h13, h14⟩ := decx64 (show dec64 x = some a from h); rfl, fun x => by show ((cel3 x.Kind ++ (cel2 x.Session ++ (cel2 x.Request ++ (cel25 x.Op ++ (cel3 x.Origin ++ (cel2 x.Seq ++ (cel60 x.Ops ++ (cel30 x.Epoch ++ (cel3 x.From ++ (cel28 x.Vector_ ++ (cel2 x.Clock ++ (cel62 x.Part ++ (cel3 x.Site ++ (cel3 x.Sponsor ++ (cel2 x.Length ++ [])))))))))))))))).all AV.one = true; simp only [List.all_append, List.all_nil, show (cel3 x.Kind).all AV.one = true from law3.one _, show (cel2 x.Session).all AV.one = true from law2.one _, show (cel2 x.Request).all AV.one = true from law2.one _, show (cel25 x.Op).all AV.one = true from law25.one _, show (cel3 x.Origin).all AV.one = true from law3.one _, show (cel2 x.Seq).all AV.one = true from law2.one _, show (cel60 x.Ops).all AV.one = true from law60.one _, show (cel30 x.Epoch).all AV.one = true from law30.one _, show (cel3 x.From).all AV.one = true from law3.one _, show (cel28 x.Vector_).all AV.one = true from law28.one _, show (cel2 x.Clock).all AV.one = true from law2.one _, show (cel62 x.Part).all AV.one = true from law62.one _, show (cel3 x.Site).all AV.one = true from law3.one _, show (cel3 x.Sponsor).all AV.one = true from law3.one _, show (cel2 x.Length).all AV.one = true from law2.one _, Bool.and_self], fun x => noids_app (law3.noid x.Kind) (noids_app (law2.noid x.Session) (noids_app (law2.noid x.Request) (noids_app (law25.noid x.Op) (noids_app (law3.noid x.Origin) (noids_app (law2.noid x.Seq) (noids_app (law60.noid x.Ops) (noids_app (law30.noid x.Epoch) (noids_app (law3.noid x.From) (noids_app (law28.noid x.Vector_) (noids_app (law2.noid x.Clock) (noids_app (law62.noid x.Part) (noids_app (law3.noid x.Site) (noids_app (law3.noid x.Sponsor) (noids_app (law2.noid x.Length) (trivial))))))))))))))), (fun ks h => nomatch h), (fun l s h => nomatch h), (fun s l h => nomatch h)⟩
theorem decx65 {x : TV τ} {a : GAddr} (h : dec65 x = some a) : ∃ x0 x1, x = .agg [x0, x1] ∧ dec3 x0 = some a.Group ∧ dec3 x1 = some a.Replica := by
  unfold dec65 at h
  split at h
  · rename_i x0 x1
    split at h
    · rename_i a0 h0
      split at h
      · rename_i a1 h1
        cases h
        exact ⟨_, _, rfl, h0, h1⟩
      · cases h
    · cases h
  · cases h
theorem law65 : CodAt C 65 := ⟨fun x => by show ((enc3 x.Group).cells C ++ ((enc3 x.Replica).cells C ++ [])) = cel65 x; unfold cel65; exact congr (congrArg (· ++ ·) (law3.cel x.Group)) (congr (congrArg (· ++ ·) (law3.cel x.Replica)) (rfl)), fun x => by show ((cel3 x.Group ++ (cel3 x.Replica ++ []))).length = 2; rw [List.length_append, List.length_append]; have e0 : (cel3 x.Group).length = 1 := law3.len x.Group; have e1 : (cel3 x.Replica).length = 1 := law3.len x.Replica; simp only [e0, e1, List.length_nil], fun x a h => by obtain ⟨x0, x1, rfl, h0, h1⟩ := decx65 (show dec65 x = some a from h); exact CW.append (law3.dec _ _ h0) (CW.append (law3.dec _ _ h1) (CW.refl [])), fun x => by show (((enc3 x.Group).ok && ((enc3 x.Replica).ok && true))) = true; simp only [show (enc3 x.Group).ok = true from law3.ok _, show (enc3 x.Replica).ok = true from law3.ok _, Bool.and_self], fun x a h => by obtain ⟨x0, x1, rfl, h0, h1⟩ := decx65 (show dec65 x = some a from h); show ((x0.ok && (x1.ok && true))) = true; simp only [law3.decok _ _ h0, law3.decok _ _ h1, Bool.and_self], fun x a h => by obtain ⟨x0, x1, rfl, h0, h1⟩ := decx65 (show dec65 x = some a from h); rfl, fun x => by show ((cel3 x.Group ++ (cel3 x.Replica ++ []))).all AV.one = true; simp only [List.all_append, List.all_nil, show (cel3 x.Group).all AV.one = true from law3.one _, show (cel3 x.Replica).all AV.one = true from law3.one _, Bool.and_self], fun x => noids_app (law3.noid x.Group) (noids_app (law3.noid x.Replica) (trivial)), fun ks h a b => by have := eqCells_append (law3.kd _ rfl a.Group b.Group) (eqCells_append (law3.kd _ rfl a.Replica b.Replica) ((show eqCells [] [] [] = some true from rfl))); cases h; exact this, (fun l s h => nomatch h), (fun s l h => nomatch h)⟩
theorem decx66 {x : TV τ} {a : GAddr} (h : dec66 x = some a) : ∃ x0 x1, x = .agg [x0, x1] ∧ dec3 x0 = some a.Group ∧ dec3 x1 = some a.Replica := by
  unfold dec66 at h
  split at h
  · rename_i x0 x1
    split at h
    · rename_i a0 h0
      split at h
      · rename_i a1 h1
        cases h
        exact ⟨_, _, rfl, h0, h1⟩
      · cases h
    · cases h
  · cases h
theorem law66 : CodAt C 66 := ⟨fun x => by show ((enc3 x.Group).cells C ++ ((enc3 x.Replica).cells C ++ [])) = cel66 x; unfold cel66; exact congr (congrArg (· ++ ·) (law3.cel x.Group)) (congr (congrArg (· ++ ·) (law3.cel x.Replica)) (rfl)), fun x => by show ((cel3 x.Group ++ (cel3 x.Replica ++ []))).length = 2; rw [List.length_append, List.length_append]; have e0 : (cel3 x.Group).length = 1 := law3.len x.Group; have e1 : (cel3 x.Replica).length = 1 := law3.len x.Replica; simp only [e0, e1, List.length_nil], fun x a h => by obtain ⟨x0, x1, rfl, h0, h1⟩ := decx66 (show dec66 x = some a from h); exact CW.append (law3.dec _ _ h0) (CW.append (law3.dec _ _ h1) (CW.refl [])), fun x => by show (((enc3 x.Group).ok && ((enc3 x.Replica).ok && true))) = true; simp only [show (enc3 x.Group).ok = true from law3.ok _, show (enc3 x.Replica).ok = true from law3.ok _, Bool.and_self], fun x a h => by obtain ⟨x0, x1, rfl, h0, h1⟩ := decx66 (show dec66 x = some a from h); show ((x0.ok && (x1.ok && true))) = true; simp only [law3.decok _ _ h0, law3.decok _ _ h1, Bool.and_self], fun x a h => by obtain ⟨x0, x1, rfl, h0, h1⟩ := decx66 (show dec66 x = some a from h); rfl, fun x => by show ((cel3 x.Group ++ (cel3 x.Replica ++ []))).all AV.one = true; simp only [List.all_append, List.all_nil, show (cel3 x.Group).all AV.one = true from law3.one _, show (cel3 x.Replica).all AV.one = true from law3.one _, Bool.and_self], fun x => noids_app (law3.noid x.Group) (noids_app (law3.noid x.Replica) (trivial)), fun ks h a b => by have := eqCells_append (law3.kd _ rfl a.Group b.Group) (eqCells_append (law3.kd _ rfl a.Replica b.Replica) ((show eqCells [] [] [] = some true from rfl))); cases h; exact this, (fun l s h => nomatch h), (fun s l h => nomatch h)⟩
theorem decx67 {x : TV τ} {a : GBallot} (h : dec67 x = some a) : ∃ x0 x1, x = .agg [x0, x1] ∧ dec2 x0 = some a.Round ∧ dec3 x1 = some a.Replica := by
  unfold dec67 at h
  split at h
  · rename_i x0 x1
    split at h
    · rename_i a0 h0
      split at h
      · rename_i a1 h1
        cases h
        exact ⟨_, _, rfl, h0, h1⟩
      · cases h
    · cases h
  · cases h
theorem law67 : CodAt C 67 := ⟨fun x => by show ((enc2 x.Round).cells C ++ ((enc3 x.Replica).cells C ++ [])) = cel67 x; unfold cel67; exact congr (congrArg (· ++ ·) (law2.cel x.Round)) (congr (congrArg (· ++ ·) (law3.cel x.Replica)) (rfl)), fun x => by show ((cel2 x.Round ++ (cel3 x.Replica ++ []))).length = 2; rw [List.length_append, List.length_append]; have e0 : (cel2 x.Round).length = 1 := law2.len x.Round; have e1 : (cel3 x.Replica).length = 1 := law3.len x.Replica; simp only [e0, e1, List.length_nil], fun x a h => by obtain ⟨x0, x1, rfl, h0, h1⟩ := decx67 (show dec67 x = some a from h); exact CW.append (law2.dec _ _ h0) (CW.append (law3.dec _ _ h1) (CW.refl [])), fun x => by show (((enc2 x.Round).ok && ((enc3 x.Replica).ok && true))) = true; simp only [show (enc2 x.Round).ok = true from law2.ok _, show (enc3 x.Replica).ok = true from law3.ok _, Bool.and_self], fun x a h => by obtain ⟨x0, x1, rfl, h0, h1⟩ := decx67 (show dec67 x = some a from h); show ((x0.ok && (x1.ok && true))) = true; simp only [law2.decok _ _ h0, law3.decok _ _ h1, Bool.and_self], fun x a h => by obtain ⟨x0, x1, rfl, h0, h1⟩ := decx67 (show dec67 x = some a from h); rfl, fun x => by show ((cel2 x.Round ++ (cel3 x.Replica ++ []))).all AV.one = true; simp only [List.all_append, List.all_nil, show (cel2 x.Round).all AV.one = true from law2.one _, show (cel3 x.Replica).all AV.one = true from law3.one _, Bool.and_self], fun x => noids_app (law2.noid x.Round) (noids_app (law3.noid x.Replica) (trivial)), fun ks h a b => by have := eqCells_append (law2.kd _ rfl a.Round b.Round) (eqCells_append (law3.kd _ rfl a.Replica b.Replica) ((show eqCells [] [] [] = some true from rfl))); cases h; exact this, (fun l s h => nomatch h), (fun s l h => nomatch h)⟩
theorem decx68 {x : TV τ} {a : GBallot} (h : dec68 x = some a) : ∃ x0 x1, x = .agg [x0, x1] ∧ dec2 x0 = some a.Round ∧ dec3 x1 = some a.Replica := by
  unfold dec68 at h
  split at h
  · rename_i x0 x1
    split at h
    · rename_i a0 h0
      split at h
      · rename_i a1 h1
        cases h
        exact ⟨_, _, rfl, h0, h1⟩
      · cases h
    · cases h
  · cases h
theorem law68 : CodAt C 68 := ⟨fun x => by show ((enc2 x.Round).cells C ++ ((enc3 x.Replica).cells C ++ [])) = cel68 x; unfold cel68; exact congr (congrArg (· ++ ·) (law2.cel x.Round)) (congr (congrArg (· ++ ·) (law3.cel x.Replica)) (rfl)), fun x => by show ((cel2 x.Round ++ (cel3 x.Replica ++ []))).length = 2; rw [List.length_append, List.length_append]; have e0 : (cel2 x.Round).length = 1 := law2.len x.Round; have e1 : (cel3 x.Replica).length = 1 := law3.len x.Replica; simp only [e0, e1, List.length_nil], fun x a h => by obtain ⟨x0, x1, rfl, h0, h1⟩ := decx68 (show dec68 x = some a from h); exact CW.append (law2.dec _ _ h0) (CW.append (law3.dec _ _ h1) (CW.refl [])), fun x => by show (((enc2 x.Round).ok && ((enc3 x.Replica).ok && true))) = true; simp only [show (enc2 x.Round).ok = true from law2.ok _, show (enc3 x.Replica).ok = true from law3.ok _, Bool.and_self], fun x a h => by obtain ⟨x0, x1, rfl, h0, h1⟩ := decx68 (show dec68 x = some a from h); show ((x0.ok && (x1.ok && true))) = true; simp only [law2.decok _ _ h0, law3.decok _ _ h1, Bool.and_self], fun x a h => by obtain ⟨x0, x1, rfl, h0, h1⟩ := decx68 (show dec68 x = some a from h); rfl, fun x => by show ((cel2 x.Round ++ (cel3 x.Replica ++ []))).all AV.one = true; simp only [List.all_append, List.all_nil, show (cel2 x.Round).all AV.one = true from law2.one _, show (cel3 x.Replica).all AV.one = true from law3.one _, Bool.and_self], fun x => noids_app (law2.noid x.Round) (noids_app (law3.noid x.Replica) (trivial)), fun ks h a b => by have := eqCells_append (law2.kd _ rfl a.Round b.Round) (eqCells_append (law3.kd _ rfl a.Replica b.Replica) ((show eqCells [] [] [] = some true from rfl))); cases h; exact this, (fun l s h => nomatch h), (fun s l h => nomatch h)⟩
theorem decx178 {x : TV τ} {a : GSlotted} (h : dec178 x = some a) : ∃ x0 x1 x2, x = .agg [x0, x1, x2] ∧ dec2 x0 = some a.Slot ∧ dec68 x1 = some a.Ballot ∧ dec64 x2 = some a.Entry := by
  unfold dec178 at h
  split at h
  · rename_i x0 x1 x2
    split at h
    · rename_i a0 h0
      split at h
      · rename_i a1 h1
        split at h
        · rename_i a2 h2
          cases h
          exact ⟨_, _, _, rfl, h0, h1, h2⟩
        · cases h
      · cases h
    · cases h
  · cases h
theorem law178 : CodAt C 178 := ⟨fun x => by show ((enc2 x.Slot).cells C ++ ((enc68 x.Ballot).cells C ++ ((enc64 x.Entry).cells C ++ []))) = cel178 x; unfold cel178; exact congr (congrArg (· ++ ·) (law2.cel x.Slot)) (congr (congrArg (· ++ ·) (law68.cel x.Ballot)) (congr (congrArg (· ++ ·) (law64.cel x.Entry)) (rfl))), fun x => by show ((cel2 x.Slot ++ (cel68 x.Ballot ++ (cel64 x.Entry ++ [])))).length = 59; rw [List.length_append, List.length_append, List.length_append]; have e0 : (cel2 x.Slot).length = 1 := law2.len x.Slot; have e1 : (cel68 x.Ballot).length = 2 := law68.len x.Ballot; have e2 : (cel64 x.Entry).length = 56 := law64.len x.Entry; simp only [e0, e1, e2, List.length_nil], fun x a h => by obtain ⟨x0, x1, x2, rfl, h0, h1, h2⟩ := decx178 (show dec178 x = some a from h); exact CW.append (law2.dec _ _ h0) (CW.append (law68.dec _ _ h1) (CW.append (law64.dec _ _ h2) (CW.refl []))), fun x => by show (((enc2 x.Slot).ok && ((enc68 x.Ballot).ok && ((enc64 x.Entry).ok && true)))) = true; simp only [show (enc2 x.Slot).ok = true from law2.ok _, show (enc68 x.Ballot).ok = true from law68.ok _, show (enc64 x.Entry).ok = true from law64.ok _, Bool.and_self], fun x a h => by obtain ⟨x0, x1, x2, rfl, h0, h1, h2⟩ := decx178 (show dec178 x = some a from h); show ((x0.ok && (x1.ok && (x2.ok && true)))) = true; simp only [law2.decok _ _ h0, law68.decok _ _ h1, law64.decok _ _ h2, Bool.and_self], fun x a h => by obtain ⟨x0, x1, x2, rfl, h0, h1, h2⟩ := decx178 (show dec178 x = some a from h); rfl, fun x => by show ((cel2 x.Slot ++ (cel68 x.Ballot ++ (cel64 x.Entry ++ [])))).all AV.one = true; simp only [List.all_append, List.all_nil, show (cel2 x.Slot).all AV.one = true from law2.one _, show (cel68 x.Ballot).all AV.one = true from law68.one _, show (cel64 x.Entry).all AV.one = true from law64.one _, Bool.and_self], fun x => noids_app (law2.noid x.Slot) (noids_app (law68.noid x.Ballot) (noids_app (law64.noid x.Entry) (trivial))), (fun ks h => nomatch h), (fun l s h => nomatch h), (fun s l h => nomatch h)⟩
theorem law69 : CodAt C 69 := ⟨fun x => rfl, fun x => rfl, fun x a h => (dSl_cw (C := C) (show dSl 178 x = some a from h)).1, fun x => rfl, fun x a h => (dSl_cw (C := C) (show dSl 178 x = some a from h)).2.1, fun x a h => (dSl_cw (C := C) (show dSl 178 x = some a from h)).2.2, fun a => rfl, fun a => noids_one (NoId.asl fun cs hc => by obtain ⟨y, _, rfl⟩ := List.mem_map.1 hc; exact law178.noid y), (fun ks h => nomatch h), (fun l s h => nomatch h), (fun s l h => nomatch h)⟩
theorem decx70 {x : TV τ} {a : GMsg} (h : dec70 x = some a) : ∃ x0 x1 x2 x3 x4 x5 x6 x7 x8 x9 x10 x11 x12 x13, x = .agg [x0, x1, x2, x3, x4, x5, x6, x7, x8, x9, x10, x11, x12, x13] ∧ dec3 x0 = some a.Kind ∧ dec66 x1 = some a.From ∧ dec66 x2 = some a.To ∧ dec68 x3 = some a.Ballot ∧ dec2 x4 = some a.Slot ∧ dec69 x5 = some a.List_ ∧ dec64 x6 = some a.Entry ∧ dec2 x7 = some a.Number ∧ dec28 x8 = some a.Vector_ ∧ dec2 x9 = some a.Clock ∧ dec3 x10 = some a.Origin ∧ dec60 x11 = some a.Ops ∧ dec30 x12 = some a.Epoch ∧ dec62 x13 = some a.Part := by
  unfold dec70 at h
  split at h
  · rename_i x0 x1 x2 x3 x4 x5 x6 x7 x8 x9 x10 x11 x12 x13
    split at h
    · rename_i a0 h0
      split at h
      · rename_i a1 h1
        split at h
        · rename_i a2 h2
          split at h
          · rename_i a3 h3
            split at h
            · rename_i a4 h4
              split at h
              · rename_i a5 h5
                split at h
                · rename_i a6 h6
                  split at h
                  · rename_i a7 h7
                    split at h
                    · rename_i a8 h8
                      split at h
                      · rename_i a9 h9
                        split at h
                        · rename_i a10 h10
                          split at h
                          · rename_i a11 h11
                            split at h
                            · rename_i a12 h12
                              split at h
                              · rename_i a13 h13
                                cases h
                                exact ⟨_, _, _, _, _, _, _, _, _, _, _, _, _, _, rfl, h0, h1, h2, h3, h4, h5, h6, h7, h8, h9, h10, h11, h12, h13⟩
                              · cases h
                            · cases h
                          · cases h
                        · cases h
                      · cases h
                    · cases h
                  · cases h
                · cases h
              · cases h
            · cases h
          · cases h
        · cases h
      · cases h
    · cases h
  · cases h
theorem law70 : CodAt C 70 := ⟨fun x => by show ((enc3 x.Kind).cells C ++ ((enc66 x.From).cells C ++ ((enc66 x.To).cells C ++ ((enc68 x.Ballot).cells C ++ ((enc2 x.Slot).cells C ++ ((enc69 x.List_).cells C ++ ((enc64 x.Entry).cells C ++ ((enc2 x.Number).cells C ++ ((enc28 x.Vector_).cells C ++ ((enc2 x.Clock).cells C ++ ((enc3 x.Origin).cells C ++ ((enc60 x.Ops).cells C ++ ((enc30 x.Epoch).cells C ++ ((enc62 x.Part).cells C ++ [])))))))))))))) = cel70 x; unfold cel70; exact congr (congrArg (· ++ ·) (law3.cel x.Kind)) (congr (congrArg (· ++ ·) (law66.cel x.From)) (congr (congrArg (· ++ ·) (law66.cel x.To)) (congr (congrArg (· ++ ·) (law68.cel x.Ballot)) (congr (congrArg (· ++ ·) (law2.cel x.Slot)) (congr (congrArg (· ++ ·) (law69.cel x.List_)) (congr (congrArg (· ++ ·) (law64.cel x.Entry)) (congr (congrArg (· ++ ·) (law2.cel x.Number)) (congr (congrArg (· ++ ·) (law28.cel x.Vector_)) (congr (congrArg (· ++ ·) (law2.cel x.Clock)) (congr (congrArg (· ++ ·) (law3.cel x.Origin)) (congr (congrArg (· ++ ·) (law60.cel x.Ops)) (congr (congrArg (· ++ ·) (law30.cel x.Epoch)) (congr (congrArg (· ++ ·) (law62.cel x.Part)) (rfl)))))))))))))), fun x => by show ((cel3 x.Kind ++ (cel66 x.From ++ (cel66 x.To ++ (cel68 x.Ballot ++ (cel2 x.Slot ++ (cel69 x.List_ ++ (cel64 x.Entry ++ (cel2 x.Number ++ (cel28 x.Vector_ ++ (cel2 x.Clock ++ (cel3 x.Origin ++ (cel60 x.Ops ++ (cel30 x.Epoch ++ (cel62 x.Part ++ []))))))))))))))).length = 106; rw [List.length_append, List.length_append, List.length_append, List.length_append, List.length_append, List.length_append, List.length_append, List.length_append, List.length_append, List.length_append, List.length_append, List.length_append, List.length_append, List.length_append]; have e0 : (cel3 x.Kind).length = 1 := law3.len x.Kind; have e1 : (cel66 x.From).length = 2 := law66.len x.From; have e2 : (cel66 x.To).length = 2 := law66.len x.To; have e3 : (cel68 x.Ballot).length = 2 := law68.len x.Ballot; have e4 : (cel2 x.Slot).length = 1 := law2.len x.Slot; have e5 : (cel69 x.List_).length = 1 := law69.len x.List_; have e6 : (cel64 x.Entry).length = 56 := law64.len x.Entry; have e7 : (cel2 x.Number).length = 1 := law2.len x.Number; have e8 : (cel28 x.Vector_).length = 8 := law28.len x.Vector_; have e9 : (cel2 x.Clock).length = 1 := law2.len x.Clock; have e10 : (cel3 x.Origin).length = 1 := law3.len x.Origin; have e11 : (cel60 x.Ops).length = 1 := law60.len x.Ops; have e12 : (cel30 x.Epoch).length = 25 := law30.len x.Epoch; have e13 : (cel62 x.Part).length = 4 := law62.len x.Part; simp only [e0, e1, e2, e3, e4, e5, e6, e7, e8, e9, e10, e11, e12, e13, List.length_nil], fun x a h => by obtain ⟨x0, x1, x2, x3, x4, x5, x6, x7, x8, x9, x10, x11, x12, x13, rfl, h0, h1, h2, h3, h4, h5, h6, h7, h8, h9, h10, h11, h12, h13⟩ := decx70 (show dec70 x = some a from h); exact CW.append (law3.dec _ _ h0) (CW.append (law66.dec _ _ h1) (CW.append (law66.dec _ _ h2) (CW.append (law68.dec _ _ h3) (CW.append (law2.dec _ _ h4) (CW.append (law69.dec _ _ h5) (CW.append (law64.dec _ _ h6) (CW.append (law2.dec _ _ h7) (CW.append (law28.dec _ _ h8) (CW.append (law2.dec _ _ h9) (CW.append (law3.dec _ _ h10) (CW.append (law60.dec _ _ h11) (CW.append (law30.dec _ _ h12) (CW.append (law62.dec _ _ h13) (CW.refl [])))))))))))))), fun x => by show (((enc3 x.Kind).ok && ((enc66 x.From).ok && ((enc66 x.To).ok && ((enc68 x.Ballot).ok && ((enc2 x.Slot).ok && ((enc69 x.List_).ok && ((enc64 x.Entry).ok && ((enc2 x.Number).ok && ((enc28 x.Vector_).ok && ((enc2 x.Clock).ok && ((enc3 x.Origin).ok && ((enc60 x.Ops).ok && ((enc30 x.Epoch).ok && ((enc62 x.Part).ok && true))))))))))))))) = true; simp only [show (enc3 x.Kind).ok = true from law3.ok _, show (enc66 x.From).ok = true from law66.ok _, show (enc66 x.To).ok = true from law66.ok _, show (enc68 x.Ballot).ok = true from law68.ok _, show (enc2 x.Slot).ok = true from law2.ok _, show (enc69 x.List_).ok = true from law69.ok _, show (enc64 x.Entry).ok = true from law64.ok _, show (enc2 x.Number).ok = true from law2.ok _, show (enc28 x.Vector_).ok = true from law28.ok _, show (enc2 x.Clock).ok = true from law2.ok _, show (enc3 x.Origin).ok = true from law3.ok _, show (enc60 x.Ops).ok = true from law60.ok _, show (enc30 x.Epoch).ok = true from law30.ok _, show (enc62 x.Part).ok = true from law62.ok _, Bool.and_self], fun x a h => by obtain ⟨x0, x1, x2, x3, x4, x5, x6, x7, x8, x9, x10, x11, x12, x13, rfl, h0, h1, h2, h3, h4, h5, h6, h7, h8, h9, h10, h11, h12, h13⟩ := decx70 (show dec70 x = some a from h); show ((x0.ok && (x1.ok && (x2.ok && (x3.ok && (x4.ok && (x5.ok && (x6.ok && (x7.ok && (x8.ok && (x9.ok && (x10.ok && (x11.ok && (x12.ok && (x13.ok && true))))))))))))))) = true; simp only [law3.decok _ _ h0, law66.decok _ _ h1, law66.decok _ _ h2, law68.decok _ _ h3, law2.decok _ _ h4, law69.decok _ _ h5, law64.decok _ _ h6, law2.decok _ _ h7, law28.decok _ _ h8, law2.decok _ _ h9, law3.decok _ _ h10, law60.decok _ _ h11, law30.decok _ _ h12, law62.decok _ _ h13, Bool.and_self], fun x a h => by obtain ⟨x0, x1, x2, x3, x4, x5, x6, x7, x8, x9, x10, x11, x12, x13, rfl, h0, h1, h2, h3, h4, h5, h6, h7, h8, h9, h10, h11, h12, h13⟩ := decx70 (show dec70 x = some a from h); rfl, fun x => by show ((cel3 x.Kind ++ (cel66 x.From ++ (cel66 x.To ++ (cel68 x.Ballot ++ (cel2 x.Slot ++ (cel69 x.List_ ++ (cel64 x.Entry ++ (cel2 x.Number ++ (cel28 x.Vector_ ++ (cel2 x.Clock ++ (cel3 x.Origin ++ (cel60 x.Ops ++ (cel30 x.Epoch ++ (cel62 x.Part ++ []))))))))))))))).all AV.one = true; simp only [List.all_append, List.all_nil, show (cel3 x.Kind).all AV.one = true from law3.one _, show (cel66 x.From).all AV.one = true from law66.one _, show (cel66 x.To).all AV.one = true from law66.one _, show (cel68 x.Ballot).all AV.one = true from law68.one _, show (cel2 x.Slot).all AV.one = true from law2.one _, show (cel69 x.List_).all AV.one = true from law69.one _, show (cel64 x.Entry).all AV.one = true from law64.one _, show (cel2 x.Number).all AV.one = true from law2.one _, show (cel28 x.Vector_).all AV.one = true from law28.one _, show (cel2 x.Clock).all AV.one = true from law2.one _, show (cel3 x.Origin).all AV.one = true from law3.one _, show (cel60 x.Ops).all AV.one = true from law60.one _, show (cel30 x.Epoch).all AV.one = true from law30.one _, show (cel62 x.Part).all AV.one = true from law62.one _, Bool.and_self], fun x => noids_app (law3.noid x.Kind) (noids_app (law66.noid x.From) (noids_app (law66.noid x.To) (noids_app (law68.noid x.Ballot) (noids_app (law2.noid x.Slot) (noids_app (law69.noid x.List_) (noids_app (law64.noid x.Entry) (noids_app (law2.noid x.Number) (noids_app (law28.noid x.Vector_) (noids_app (law2.noid x.Clock) (noids_app (law3.noid x.Origin) (noids_app (law60.noid x.Ops) (noids_app (law30.noid x.Epoch) (noids_app (law62.noid x.Part) (trivial)))))))))))))), (fun ks h => nomatch h), (fun l s h => nomatch h), (fun s l h => nomatch h)⟩
theorem decx71 {x : TV τ} {a : GMsg} (h : dec71 x = some a) : ∃ x0 x1 x2 x3 x4 x5 x6 x7 x8 x9 x10 x11 x12 x13, x = .agg [x0, x1, x2, x3, x4, x5, x6, x7, x8, x9, x10, x11, x12, x13] ∧ dec3 x0 = some a.Kind ∧ dec66 x1 = some a.From ∧ dec66 x2 = some a.To ∧ dec68 x3 = some a.Ballot ∧ dec2 x4 = some a.Slot ∧ dec69 x5 = some a.List_ ∧ dec64 x6 = some a.Entry ∧ dec2 x7 = some a.Number ∧ dec28 x8 = some a.Vector_ ∧ dec2 x9 = some a.Clock ∧ dec3 x10 = some a.Origin ∧ dec60 x11 = some a.Ops ∧ dec30 x12 = some a.Epoch ∧ dec62 x13 = some a.Part := by
  unfold dec71 at h
  split at h
  · rename_i x0 x1 x2 x3 x4 x5 x6 x7 x8 x9 x10 x11 x12 x13
    split at h
    · rename_i a0 h0
      split at h
      · rename_i a1 h1
        split at h
        · rename_i a2 h2
          split at h
          · rename_i a3 h3
            split at h
            · rename_i a4 h4
              split at h
              · rename_i a5 h5
                split at h
                · rename_i a6 h6
                  split at h
                  · rename_i a7 h7
                    split at h
                    · rename_i a8 h8
                      split at h
                      · rename_i a9 h9
                        split at h
                        · rename_i a10 h10
                          split at h
                          · rename_i a11 h11
                            split at h
                            · rename_i a12 h12
                              split at h
                              · rename_i a13 h13
                                cases h
                                exact ⟨_, _, _, _, _, _, _, _, _, _, _, _, _, _, rfl, h0, h1, h2, h3, h4, h5, h6, h7, h8, h9, h10, h11, h12, h13⟩
                              · cases h
                            · cases h
                          · cases h
                        · cases h
                      · cases h
                    · cases h
                  · cases h
                · cases h
              · cases h
            · cases h
          · cases h
        · cases h
      · cases h
    · cases h
  · cases h
theorem law71 : CodAt C 71 := ⟨fun x => by show ((enc3 x.Kind).cells C ++ ((enc66 x.From).cells C ++ ((enc66 x.To).cells C ++ ((enc68 x.Ballot).cells C ++ ((enc2 x.Slot).cells C ++ ((enc69 x.List_).cells C ++ ((enc64 x.Entry).cells C ++ ((enc2 x.Number).cells C ++ ((enc28 x.Vector_).cells C ++ ((enc2 x.Clock).cells C ++ ((enc3 x.Origin).cells C ++ ((enc60 x.Ops).cells C ++ ((enc30 x.Epoch).cells C ++ ((enc62 x.Part).cells C ++ [])))))))))))))) = cel71 x; unfold cel71; exact congr (congrArg (· ++ ·) (law3.cel x.Kind)) (congr (congrArg (· ++ ·) (law66.cel x.From)) (congr (congrArg (· ++ ·) (law66.cel x.To)) (congr (congrArg (· ++ ·) (law68.cel x.Ballot)) (congr (congrArg (· ++ ·) (law2.cel x.Slot)) (congr (congrArg (· ++ ·) (law69.cel x.List_)) (congr (congrArg (· ++ ·) (law64.cel x.Entry)) (congr (congrArg (· ++ ·) (law2.cel x.Number)) (congr (congrArg (· ++ ·) (law28.cel x.Vector_)) (congr (congrArg (· ++ ·) (law2.cel x.Clock)) (congr (congrArg (· ++ ·) (law3.cel x.Origin)) (congr (congrArg (· ++ ·) (law60.cel x.Ops)) (congr (congrArg (· ++ ·) (law30.cel x.Epoch)) (congr (congrArg (· ++ ·) (law62.cel x.Part)) (rfl)))))))))))))), fun x => by show ((cel3 x.Kind ++ (cel66 x.From ++ (cel66 x.To ++ (cel68 x.Ballot ++ (cel2 x.Slot ++ (cel69 x.List_ ++ (cel64 x.Entry ++ (cel2 x.Number ++ (cel28 x.Vector_ ++ (cel2 x.Clock ++ (cel3 x.Origin ++ (cel60 x.Ops ++ (cel30 x.Epoch ++ (cel62 x.Part ++ []))))))))))))))).length = 106; rw [List.length_append, List.length_append, List.length_append, List.length_append, List.length_append, List.length_append, List.length_append, List.length_append, List.length_append, List.length_append, List.length_append, List.length_append, List.length_append, List.length_append]; have e0 : (cel3 x.Kind).length = 1 := law3.len x.Kind; have e1 : (cel66 x.From).length = 2 := law66.len x.From; have e2 : (cel66 x.To).length = 2 := law66.len x.To; have e3 : (cel68 x.Ballot).length = 2 := law68.len x.Ballot; have e4 : (cel2 x.Slot).length = 1 := law2.len x.Slot; have e5 : (cel69 x.List_).length = 1 := law69.len x.List_; have e6 : (cel64 x.Entry).length = 56 := law64.len x.Entry; have e7 : (cel2 x.Number).length = 1 := law2.len x.Number; have e8 : (cel28 x.Vector_).length = 8 := law28.len x.Vector_; have e9 : (cel2 x.Clock).length = 1 := law2.len x.Clock; have e10 : (cel3 x.Origin).length = 1 := law3.len x.Origin; have e11 : (cel60 x.Ops).length = 1 := law60.len x.Ops; have e12 : (cel30 x.Epoch).length = 25 := law30.len x.Epoch; have e13 : (cel62 x.Part).length = 4 := law62.len x.Part; simp only [e0, e1, e2, e3, e4, e5, e6, e7, e8, e9, e10, e11, e12, e13, List.length_nil], fun x a h => by obtain ⟨x0, x1, x2, x3, x4, x5, x6, x7, x8, x9, x10, x11, x12, x13, rfl, h0, h1, h2, h3, h4, h5, h6, h7, h8, h9, h10, h11, h12, h13⟩ := decx71 (show dec71 x = some a from h); exact CW.append (law3.dec _ _ h0) (CW.append (law66.dec _ _ h1) (CW.append (law66.dec _ _ h2) (CW.append (law68.dec _ _ h3) (CW.append (law2.dec _ _ h4) (CW.append (law69.dec _ _ h5) (CW.append (law64.dec _ _ h6) (CW.append (law2.dec _ _ h7) (CW.append (law28.dec _ _ h8) (CW.append (law2.dec _ _ h9) (CW.append (law3.dec _ _ h10) (CW.append (law60.dec _ _ h11) (CW.append (law30.dec _ _ h12) (CW.append (law62.dec _ _ h13) (CW.refl [])))))))))))))), fun x => by show (((enc3 x.Kind).ok && ((enc66 x.From).ok && ((enc66 x.To).ok && ((enc68 x.Ballot).ok && ((enc2 x.Slot).ok && ((enc69 x.List_).ok && ((enc64 x.Entry).ok && ((enc2 x.Number).ok && ((enc28 x.Vector_).ok && ((enc2 x.Clock).ok && ((enc3 x.Origin).ok && ((enc60 x.Ops).ok && ((enc30 x.Epoch).ok && ((enc62 x.Part).ok && true))))))))))))))) = true; simp only [show (enc3 x.Kind).ok = true from law3.ok _, show (enc66 x.From).ok = true from law66.ok _, show (enc66 x.To).ok = true from law66.ok _, show (enc68 x.Ballot).ok = true from law68.ok _, show (enc2 x.Slot).ok = true from law2.ok _, show (enc69 x.List_).ok = true from law69.ok _, show (enc64 x.Entry).ok = true from law64.ok _, show (enc2 x.Number).ok = true from law2.ok _, show (enc28 x.Vector_).ok = true from law28.ok _, show (enc2 x.Clock).ok = true from law2.ok _, show (enc3 x.Origin).ok = true from law3.ok _, show (enc60 x.Ops).ok = true from law60.ok _, show (enc30 x.Epoch).ok = true from law30.ok _, show (enc62 x.Part).ok = true from law62.ok _, Bool.and_self], fun x a h => by obtain ⟨x0, x1, x2, x3, x4, x5, x6, x7, x8, x9, x10, x11, x12, x13, rfl, h0, h1, h2, h3, h4, h5, h6, h7, h8, h9, h10, h11, h12, h13⟩ := decx71 (show dec71 x = some a from h); show ((x0.ok && (x1.ok && (x2.ok && (x3.ok && (x4.ok && (x5.ok && (x6.ok && (x7.ok && (x8.ok && (x9.ok && (x10.ok && (x11.ok && (x12.ok && (x13.ok && true))))))))))))))) = true; simp only [law3.decok _ _ h0, law66.decok _ _ h1, law66.decok _ _ h2, law68.decok _ _ h3, law2.decok _ _ h4, law69.decok _ _ h5, law64.decok _ _ h6, law2.decok _ _ h7, law28.decok _ _ h8, law2.decok _ _ h9, law3.decok _ _ h10, law60.decok _ _ h11, law30.decok _ _ h12, law62.decok _ _ h13, Bool.and_self], fun x a h => by obtain ⟨x0, x1, x2, x3, x4, x5, x6, x7, x8, x9, x10, x11, x12, x13, rfl, h0, h1, h2, h3, h4, h5, h6, h7, h8, h9, h10, h11, h12, h13⟩ := decx71 (show dec71 x = some a from h); rfl, fun x => by show ((cel3 x.Kind ++ (cel66 x.From ++ (cel66 x.To ++ (cel68 x.Ballot ++ (cel2 x.Slot ++ (cel69 x.List_ ++ (cel64 x.Entry ++ (cel2 x.Number ++ (cel28 x.Vector_ ++ (cel2 x.Clock ++ (cel3 x.Origin ++ (cel60 x.Ops ++ (cel30 x.Epoch ++ (cel62 x.Part ++ []))))))))))))))).all AV.one = true; simp only [List.all_append, List.all_nil, show (cel3 x.Kind).all AV.one = true from law3.one _, show (cel66 x.From).all AV.one = true from law66.one _, show (cel66 x.To).all AV.one = true from law66.one _, show (cel68 x.Ballot).all AV.one = true from law68.one _, show (cel2 x.Slot).all AV.one = true from law2.one _, show (cel69 x.List_).all AV.one = true from law69.one _, show (cel64 x.Entry).all AV.one = true from law64.one _, show (cel2 x.Number).all AV.one = true from law2.one _, show (cel28 x.Vector_).all AV.one = true from law28.one _, show (cel2 x.Clock).all AV.one = true from law2.one _, show (cel3 x.Origin).all AV.one = true from law3.one _, show (cel60 x.Ops).all AV.one = true from law60.one _, show (cel30 x.Epoch).all AV.one = true from law30.one _, show (cel62 x.Part).all AV.one = true from law62.one _, Bool.and_self], fun x => noids_app (law3.noid x.Kind) (noids_app (law66.noid x.From) (noids_app (law66.noid x.To) (noids_app (law68.noid x.Ballot) (noids_app (law2.noid x.Slot) (noids_app (law69.noid x.List_) (noids_app (law64.noid x.Entry) (noids_app (law2.noid x.Number) (noids_app (law28.noid x.Vector_) (noids_app (law2.noid x.Clock) (noids_app (law3.noid x.Origin) (noids_app (law60.noid x.Ops) (noids_app (law30.noid x.Epoch) (noids_app (law62.noid x.Part) (trivial)))))))))))))), (fun ks h => nomatch h), (fun l s h => nomatch h), (fun s l h => nomatch h)⟩
theorem decx86 {x : TV τ} {a : Gwire_Writer} (h : dec86 x = some a) : ∃ x0 x1, x = .agg [x0, x1] ∧ dec4 x0 = some a.made ∧ dec31 x1 = some a.b := by
  unfold dec86 at h
  split at h
  · rename_i x0 x1
    split at h
    · rename_i a0 h0
      split at h
      · rename_i a1 h1
        cases h
        exact ⟨_, _, rfl, h0, h1⟩
      · cases h
    · cases h
  · cases h
theorem law86 : CodAt C 86 := ⟨fun x => by show ((enc4 x.made).cells C ++ ((enc31 x.b).cells C ++ [])) = cel86 x; unfold cel86; exact congr (congrArg (· ++ ·) (law4.cel x.made)) (congr (congrArg (· ++ ·) (law31.cel x.b)) (rfl)), fun x => by show ((cel4 x.made ++ (cel31 x.b ++ []))).length = 2; rw [List.length_append, List.length_append]; have e0 : (cel4 x.made).length = 1 := law4.len x.made; have e1 : (cel31 x.b).length = 1 := law31.len x.b; simp only [e0, e1, List.length_nil], fun x a h => by obtain ⟨x0, x1, rfl, h0, h1⟩ := decx86 (show dec86 x = some a from h); exact CW.append (law4.dec _ _ h0) (CW.append (law31.dec _ _ h1) (CW.refl [])), fun x => by show (((enc4 x.made).ok && ((enc31 x.b).ok && true))) = true; simp only [show (enc4 x.made).ok = true from law4.ok _, show (enc31 x.b).ok = true from law31.ok _, Bool.and_self], fun x a h => by obtain ⟨x0, x1, rfl, h0, h1⟩ := decx86 (show dec86 x = some a from h); show ((x0.ok && (x1.ok && true))) = true; simp only [law4.decok _ _ h0, law31.decok _ _ h1, Bool.and_self], fun x a h => by obtain ⟨x0, x1, rfl, h0, h1⟩ := decx86 (show dec86 x = some a from h); rfl, fun x => by show ((cel4 x.made ++ (cel31 x.b ++ []))).all AV.one = true; simp only [List.all_append, List.all_nil, show (cel4 x.made).all AV.one = true from law4.one _, show (cel31 x.b).all AV.one = true from law31.one _, Bool.and_self], fun x => noids_app (law4.noid x.made) (noids_app (law31.noid x.b) (trivial)), (fun ks h => nomatch h), (fun l s h => nomatch h), (fun s l h => nomatch h)⟩
theorem decx87 {x : TV τ} {a : Gwire_Writer} (h : dec87 x = some a) : ∃ x0 x1, x = .agg [x0, x1] ∧ dec4 x0 = some a.made ∧ dec31 x1 = some a.b := by
  unfold dec87 at h
  split at h
  · rename_i x0 x1
    split at h
    · rename_i a0 h0
      split at h
      · rename_i a1 h1
        cases h
        exact ⟨_, _, rfl, h0, h1⟩
      · cases h
    · cases h
  · cases h
theorem law87 : CodAt C 87 := ⟨fun x => by show ((enc4 x.made).cells C ++ ((enc31 x.b).cells C ++ [])) = cel87 x; unfold cel87; exact congr (congrArg (· ++ ·) (law4.cel x.made)) (congr (congrArg (· ++ ·) (law31.cel x.b)) (rfl)), fun x => by show ((cel4 x.made ++ (cel31 x.b ++ []))).length = 2; rw [List.length_append, List.length_append]; have e0 : (cel4 x.made).length = 1 := law4.len x.made; have e1 : (cel31 x.b).length = 1 := law31.len x.b; simp only [e0, e1, List.length_nil], fun x a h => by obtain ⟨x0, x1, rfl, h0, h1⟩ := decx87 (show dec87 x = some a from h); exact CW.append (law4.dec _ _ h0) (CW.append (law31.dec _ _ h1) (CW.refl [])), fun x => by show (((enc4 x.made).ok && ((enc31 x.b).ok && true))) = true; simp only [show (enc4 x.made).ok = true from law4.ok _, show (enc31 x.b).ok = true from law31.ok _, Bool.and_self], fun x a h => by obtain ⟨x0, x1, rfl, h0, h1⟩ := decx87 (show dec87 x = some a from h); show ((x0.ok && (x1.ok && true))) = true; simp only [law4.decok _ _ h0, law31.decok _ _ h1, Bool.and_self], fun x a h => by obtain ⟨x0, x1, rfl, h0, h1⟩ := decx87 (show dec87 x = some a from h); rfl, fun x => by show ((cel4 x.made ++ (cel31 x.b ++ []))).all AV.one = true; simp only [List.all_append, List.all_nil, show (cel4 x.made).all AV.one = true from law4.one _, show (cel31 x.b).all AV.one = true from law31.one _, Bool.and_self], fun x => noids_app (law4.noid x.made) (noids_app (law31.noid x.b) (trivial)), (fun ks h => nomatch h), (fun l s h => nomatch h), (fun s l h => nomatch h)⟩
theorem decx99 {x : TV τ} {a : Gwire_Writer} (h : dec99 x = some a) : ∃ x0 x1, x = .agg [x0, x1] ∧ dec4 x0 = some a.made ∧ dec31 x1 = some a.b := by
  unfold dec99 at h
  split at h
  · rename_i x0 x1
    split at h
    · rename_i a0 h0
      split at h
      · rename_i a1 h1
        cases h
        exact ⟨_, _, rfl, h0, h1⟩
      · cases h
    · cases h
  · cases h
theorem law99 : CodAt C 99 := ⟨fun x => by show ((enc4 x.made).cells C ++ ((enc31 x.b).cells C ++ [])) = cel99 x; unfold cel99; exact congr (congrArg (· ++ ·) (law4.cel x.made)) (congr (congrArg (· ++ ·) (law31.cel x.b)) (rfl)), fun x => by show ((cel4 x.made ++ (cel31 x.b ++ []))).length = 2; rw [List.length_append, List.length_append]; have e0 : (cel4 x.made).length = 1 := law4.len x.made; have e1 : (cel31 x.b).length = 1 := law31.len x.b; simp only [e0, e1, List.length_nil], fun x a h => by obtain ⟨x0, x1, rfl, h0, h1⟩ := decx99 (show dec99 x = some a from h); exact CW.append (law4.dec _ _ h0) (CW.append (law31.dec _ _ h1) (CW.refl [])), fun x => by show (((enc4 x.made).ok && ((enc31 x.b).ok && true))) = true; simp only [show (enc4 x.made).ok = true from law4.ok _, show (enc31 x.b).ok = true from law31.ok _, Bool.and_self], fun x a h => by obtain ⟨x0, x1, rfl, h0, h1⟩ := decx99 (show dec99 x = some a from h); show ((x0.ok && (x1.ok && true))) = true; simp only [law4.decok _ _ h0, law31.decok _ _ h1, Bool.and_self], fun x a h => by obtain ⟨x0, x1, rfl, h0, h1⟩ := decx99 (show dec99 x = some a from h); rfl, fun x => by show ((cel4 x.made ++ (cel31 x.b ++ []))).all AV.one = true; simp only [List.all_append, List.all_nil, show (cel4 x.made).all AV.one = true from law4.one _, show (cel31 x.b).all AV.one = true from law31.one _, Bool.and_self], fun x => noids_app (law4.noid x.made) (noids_app (law31.noid x.b) (trivial)), (fun ks h => nomatch h), (fun l s h => nomatch h), (fun s l h => nomatch h)⟩
theorem law143 : CodAt C 143 := ⟨fun x => rfl, fun x => rfl, fun x a h => (dSl_cw (C := C) (show dSl 2 x = some a from h)).1, fun x => rfl, fun x a h => (dSl_cw (C := C) (show dSl 2 x = some a from h)).2.1, fun x a h => (dSl_cw (C := C) (show dSl 2 x = some a from h)).2.2, fun a => rfl, fun a => noids_one (NoId.asl fun cs hc => by obtain ⟨y, _, rfl⟩ := List.mem_map.1 hc; exact law2.noid y), (fun ks h => nomatch h), (fun l s h => nomatch h), (fun s l h => nomatch h)⟩
theorem law145 : CodAt C 145 := ⟨fun x => rfl, fun x => rfl, fun x a h => (dSl_cw (C := C) (show dSl 3 x = some a from h)).1, fun x => rfl, fun x a h => (dSl_cw (C := C) (show dSl 3 x = some a from h)).2.1, fun x a h => (dSl_cw (C := C) (show dSl 3 x = some a from h)).2.2, fun a => rfl, fun a => noids_one (NoId.asl fun cs hc => by obtain ⟨y, _, rfl⟩ := List.mem_map.1 hc; exact law3.noid y), (fun ks h => nomatch h), (fun l s h => nomatch h), (fun s l h => nomatch h)⟩
theorem law167 : CodAt C 167 := ⟨fun x => rfl, fun x => rfl, fun x a h => by rw [dInt_x (show dInt .u32 x = some a from h)]; exact .refl _, fun x => rfl, fun x a h => by rw [dInt_x (show dInt .u32 x = some a from h)]; rfl, fun x a h => by rw [dInt_x (show dInt .u32 x = some a from h)]; rfl, fun a => rfl, fun a => noids_one (NoId.v _), fun ks h a b => by cases h; simp [eqCells, scal, C, celT, cel167, beqT, beq167], (fun l s h => nomatch h), (fun s l h => nomatch h)⟩
theorem law171 : CodAt C 171 := ⟨fun x => rfl, fun x => rfl, fun x a h => by rw [dInt_x (show dInt .u64 x = some a from h)]; exact .refl _, fun x => rfl, fun x a h => by rw [dInt_x (show dInt .u64 x = some a from h)]; rfl, fun x a h => by rw [dInt_x (show dInt .u64 x = some a from h)]; rfl, fun a => rfl, fun a => noids_one (NoId.v _), fun ks h a b => by cases h; simp [eqCells, scal, C, celT, cel171, beqT, beq171], (fun l s h => nomatch h), (fun s l h => nomatch h)⟩
theorem decx177 {x : TV τ} {a : GSlotted} (h : dec177 x = some a) : ∃ x0 x1 x2, x = .agg [x0, x1, x2] ∧ dec2 x0 = some a.Slot ∧ dec68 x1 = some a.Ballot ∧ dec64 x2 = some a.Entry := by
  unfold dec177 at h
  split at h
  · rename_i x0 x1 x2
    split at h
    · rename_i a0 h0
      split at h
      · rename_i a1 h1
        split at h
        · rename_i a2 h2
          cases h
          exact ⟨_, _, _, rfl, h0, h1, h2⟩
        · cases h
      · cases h
    · cases h
  · cases h
theorem law177 : CodAt C 177 := ⟨fun x => by show ((enc2 x.Slot).cells C ++ ((enc68 x.Ballot).cells C ++ ((enc64 x.Entry).cells C ++ []))) = cel177 x; unfold cel177; exact congr (congrArg (· ++ ·) (law2.cel x.Slot)) (congr (congrArg (· ++ ·) (law68.cel x.Ballot)) (congr (congrArg (· ++ ·) (law64.cel x.Entry)) (rfl))), fun x => by show ((cel2 x.Slot ++ (cel68 x.Ballot ++ (cel64 x.Entry ++ [])))).length = 59; rw [List.length_append, List.length_append, List.length_append]; have e0 : (cel2 x.Slot).length = 1 := law2.len x.Slot; have e1 : (cel68 x.Ballot).length = 2 := law68.len x.Ballot; have e2 : (cel64 x.Entry).length = 56 := law64.len x.Entry; simp only [e0, e1, e2, List.length_nil], fun x a h => by obtain ⟨x0, x1, x2, rfl, h0, h1, h2⟩ := decx177 (show dec177 x = some a from h); exact CW.append (law2.dec _ _ h0) (CW.append (law68.dec _ _ h1) (CW.append (law64.dec _ _ h2) (CW.refl []))), fun x => by show (((enc2 x.Slot).ok && ((enc68 x.Ballot).ok && ((enc64 x.Entry).ok && true)))) = true; simp only [show (enc2 x.Slot).ok = true from law2.ok _, show (enc68 x.Ballot).ok = true from law68.ok _, show (enc64 x.Entry).ok = true from law64.ok _, Bool.and_self], fun x a h => by obtain ⟨x0, x1, x2, rfl, h0, h1, h2⟩ := decx177 (show dec177 x = some a from h); show ((x0.ok && (x1.ok && (x2.ok && true)))) = true; simp only [law2.decok _ _ h0, law68.decok _ _ h1, law64.decok _ _ h2, Bool.and_self], fun x a h => by obtain ⟨x0, x1, x2, rfl, h0, h1, h2⟩ := decx177 (show dec177 x = some a from h); rfl, fun x => by show ((cel2 x.Slot ++ (cel68 x.Ballot ++ (cel64 x.Entry ++ [])))).all AV.one = true; simp only [List.all_append, List.all_nil, show (cel2 x.Slot).all AV.one = true from law2.one _, show (cel68 x.Ballot).all AV.one = true from law68.one _, show (cel64 x.Entry).all AV.one = true from law64.one _, Bool.and_self], fun x => noids_app (law2.noid x.Slot) (noids_app (law68.noid x.Ballot) (noids_app (law64.noid x.Entry) (trivial))), (fun ks h => nomatch h), (fun l s h => nomatch h), (fun s l h => nomatch h)⟩
theorem law181 : CodAt C 181 := ⟨fun x => rfl, fun x => rfl, fun x a h => (dSl_cw (C := C) (show dSl 9 x = some a from h)).1, fun x => rfl, fun x a h => (dSl_cw (C := C) (show dSl 9 x = some a from h)).2.1, fun x a h => (dSl_cw (C := C) (show dSl 9 x = some a from h)).2.2, fun a => rfl, fun a => noids_one (NoId.asl fun cs hc => by obtain ⟨y, _, rfl⟩ := List.mem_map.1 hc; exact law9.noid y), (fun ks h => nomatch h), (fun l s h => nomatch h), (fun s l h => nomatch h)⟩
theorem law183 : CodAt C 183 := ⟨fun x => rfl, fun x => rfl, fun x a h => by rw [dInt_x (show dInt .u64 x = some a from h)]; exact .refl _, fun x => rfl, fun x a h => by rw [dInt_x (show dInt .u64 x = some a from h)]; rfl, fun x a h => by rw [dInt_x (show dInt .u64 x = some a from h)]; rfl, fun a => rfl, fun a => noids_one (NoId.v _), fun ks h a b => by cases h; simp [eqCells, scal, C, celT, cel183, beqT, beq183], (fun l s h => nomatch h), (fun s l h => nomatch h)⟩
theorem law190 : CodAt C 190 := ⟨fun x => rfl, fun x => rfl, fun x a h => (dSl_cw (C := C) (show dSl 66 x = some a from h)).1, fun x => rfl, fun x a h => (dSl_cw (C := C) (show dSl 66 x = some a from h)).2.1, fun x a h => (dSl_cw (C := C) (show dSl 66 x = some a from h)).2.2, fun a => rfl, fun a => noids_one (NoId.asl fun cs hc => by obtain ⟨y, _, rfl⟩ := List.mem_map.1 hc; exact law66.noid y), (fun ks h => nomatch h), (fun l s h => nomatch h), (fun s l h => nomatch h)⟩
theorem law194 : CodAt C 194 := ⟨fun x => rfl, fun x => rfl, fun x a h => (dSl_cw (C := C) (show dSl 31 x = some a from h)).1, fun x => rfl, fun x a h => (dSl_cw (C := C) (show dSl 31 x = some a from h)).2.1, fun x a h => (dSl_cw (C := C) (show dSl 31 x = some a from h)).2.2, fun a => rfl, fun a => noids_one (NoId.asl fun cs hc => by obtain ⟨y, _, rfl⟩ := List.mem_map.1 hc; exact law31.noid y), (fun ks h => nomatch h), (fun l s h => nomatch h), (fun s l h => nomatch h)⟩
theorem lawX {t : Nat} (h : celT t = fun _ => []) (h1 : encT t = fun _ => .agg []) (h2 : decT t = fun _ => none) (h3 : szT t = 0) (h4 : kdT t = none) (h5 : b2sT t = fun _ => none) (h6 : s2bT t = fun _ => none) : CodAt C t := by
  refine ⟨fun x => ?_, fun x => ?_, fun x a hx => ?_, fun x => ?_, fun x a hx => ?_, fun x a hx => ?_, fun a => ?_, fun a => ?_, fun ks hk => ?_, fun l s hl => ?_, fun s l hl => ?_⟩
  · show (encT t x).cells C = celT t x; rw [h, h1]; rfl
  · show (celT t x).length = szT t; rw [h, h3]; rfl
  · have e : decT t x = some a := hx; rw [h2] at e; cases e
  · show (encT t x).ok = true; rw [h1]; rfl
  · have e : decT t x = some a := hx; rw [h2] at e; cases e
  · have e : decT t x = some a := hx; rw [h2] at e; cases e
  · show (celT t a).all AV.one = true; rw [h]; rfl
  · show NoIds (celT t a); rw [h]; trivial
  · have e : kdT t = some ks := hk; rw [h4] at e; cases e
  · have e : b2sT t l = some s := hl; rw [h5] at e; cases e
  · have e : s2bT t s = some l := hl; rw [h6] at e; cases e
theorem lawOther : ∀ t : Nat, t ≠ 2 → t ≠ 3 → t ≠ 4 → t ≠ 5 → t ≠ 9 → t ≠ 12 → t ≠ 21 → t ≠ 22 → t ≠ 23 → t ≠ 24 → t ≠ 25 → t ≠ 26 → t ≠ 27 → t ≠ 28 → t ≠ 29 → t ≠ 30 → t ≠ 31 → t ≠ 35 → t ≠ 47 → t ≠ 48 → t ≠ 60 → t ≠ 61 → t ≠ 62 → t ≠ 63 → t ≠ 64 → t ≠ 65 → t ≠ 66 → t ≠ 67 → t ≠ 68 → t ≠ 69 → t ≠ 70 → t ≠ 71 → t ≠ 86 → t ≠ 87 → t ≠ 99 → t ≠ 143 → t ≠ 145 → t ≠ 167 → t ≠ 171 → t ≠ 177 → t ≠ 178 → t ≠ 181 → t ≠ 183 → t ≠ 190 → t ≠ 194 → CodAt C t
  | t, h2, h3, h4, h5, h9, h12, h21, h22, h23, h24, h25, h26, h27, h28, h29, h30, h31, h35, h47, h48, h60, h61, h62, h63, h64, h65, h66, h67, h68, h69, h70, h71, h86, h87, h99, h143, h145, h167, h171, h177, h178, h181, h183, h190, h194 => by
    apply lawX <;> first
      | (unfold celT; split <;> first | rfl | contradiction | (exfalso; omega))
      | (unfold encT; split <;> first | rfl | contradiction | (exfalso; omega))
      | (unfold decT; split <;> first | rfl | contradiction | (exfalso; omega))
      | (unfold szT; split <;> first | rfl | contradiction | (exfalso; omega))
      | (unfold kdT; split <;> first | rfl | contradiction | (exfalso; omega))
      | (unfold b2sT; split <;> first | rfl | contradiction | (exfalso; omega))
      | (unfold s2bT; split <;> first | rfl | contradiction | (exfalso; omega))
theorem cOk : C.Ok := Cod.Ok.of fun t => by
  by_cases h2 : t = 2
  · subst h2; exact law2
  by_cases h3 : t = 3
  · subst h3; exact law3
  by_cases h4 : t = 4
  · subst h4; exact law4
  by_cases h5 : t = 5
  · subst h5; exact law5
  by_cases h9 : t = 9
  · subst h9; exact law9
  by_cases h12 : t = 12
  · subst h12; exact law12
  by_cases h21 : t = 21
  · subst h21; exact law21
  by_cases h22 : t = 22
  · subst h22; exact law22
  by_cases h23 : t = 23
  · subst h23; exact law23
  by_cases h24 : t = 24
  · subst h24; exact law24
  by_cases h25 : t = 25
  · subst h25; exact law25
  by_cases h26 : t = 26
  · subst h26; exact law26
  by_cases h27 : t = 27
  · subst h27; exact law27
  by_cases h28 : t = 28
  · subst h28; exact law28
  by_cases h29 : t = 29
  · subst h29; exact law29
  by_cases h30 : t = 30
  · subst h30; exact law30
  by_cases h31 : t = 31
  · subst h31; exact law31
  by_cases h35 : t = 35
  · subst h35; exact law35
  by_cases h47 : t = 47
  · subst h47; exact law47
  by_cases h48 : t = 48
  · subst h48; exact law48
  by_cases h60 : t = 60
  · subst h60; exact law60
  by_cases h61 : t = 61
  · subst h61; exact law61
  by_cases h62 : t = 62
  · subst h62; exact law62
  by_cases h63 : t = 63
  · subst h63; exact law63
  by_cases h64 : t = 64
  · subst h64; exact law64
  by_cases h65 : t = 65
  · subst h65; exact law65
  by_cases h66 : t = 66
  · subst h66; exact law66
  by_cases h67 : t = 67
  · subst h67; exact law67
  by_cases h68 : t = 68
  · subst h68; exact law68
  by_cases h69 : t = 69
  · subst h69; exact law69
  by_cases h70 : t = 70
  · subst h70; exact law70
  by_cases h71 : t = 71
  · subst h71; exact law71
  by_cases h86 : t = 86
  · subst h86; exact law86
  by_cases h87 : t = 87
  · subst h87; exact law87
  by_cases h99 : t = 99
  · subst h99; exact law99
  by_cases h143 : t = 143
  · subst h143; exact law143
  by_cases h145 : t = 145
  · subst h145; exact law145
  by_cases h167 : t = 167
  · subst h167; exact law167
  by_cases h171 : t = 171
  · subst h171; exact law171
  by_cases h177 : t = 177
  · subst h177; exact law177
  by_cases h178 : t = 178
  · subst h178; exact law178
  by_cases h181 : t = 181
  · subst h181; exact law181
  by_cases h183 : t = 183
  · subst h183; exact law183
  by_cases h190 : t = 190
  · subst h190; exact law190
  by_cases h194 : t = 194
  · subst h194; exact law194
  exact lawOther t h2 h3 h4 h5 h9 h12 h21 h22 h23 h24 h25 h26 h27 h28 h29 h30 h31 h35 h47 h48 h60 h61 h62 h63 h64 h65 h66 h67 h68 h69 h70 h71 h86 h87 h99 h143 h145 h167 h171 h177 h178 h181 h183 h190 h194
def zeroT : Nat → Option (TV τ)
  | 1 => some (.nil .func)
  | 2 => some (.int .i64 0)
  | 3 => some (.int .i64 0)
  | 4 => some (.bool false)
  | 5 => some (.int .u8 0)
  | 9 => some (.str [])
  | 12 => some (.int .u64 0)
  | 17 => some (.nil .ptr)
  | 21 => some (.int .i32 0)
  | 22 => some (.agg [(.int .i64 0), (.int .i64 0)])
  | 23 => some (.agg [(.int .i64 0), (.int .i64 0)])
  | 24 => some (.agg [(.agg [(.int .i64 0), (.int .i64 0)]), (.int .i64 0), (.int .i64 0), (.int .i64 0), (.str []), (.str []), (.str [])])
  | 25 => some (.agg [(.agg [(.int .i64 0), (.int .i64 0)]), (.int .i64 0), (.int .i64 0), (.int .i64 0), (.str []), (.str []), (.str [])])
  | 26 => some (.arr 3 8 (Vector.replicate 8 (default : Int)))
  | 27 => some (.arr 2 8 (Vector.replicate 8 (default : Int)))
  | 28 => some (.arr 2 8 (Vector.replicate 8 (default : Int)))
  | 29 => some (.agg [(.int .i64 0), (.arr 3 8 (Vector.replicate 8 (default : Int))), (.arr 2 8 (Vector.replicate 8 (default : Int))), (.arr 3 8 (Vector.replicate 8 (default : Int)))])
  | 30 => some (.agg [(.int .i64 0), (.arr 3 8 (Vector.replicate 8 (default : Int))), (.arr 2 8 (Vector.replicate 8 (default : Int))), (.arr 3 8 (Vector.replicate 8 (default : Int)))])
  | 31 => some (.nil .slice)
  | 32 => some (.nil .ptr)
  | 33 => some (.nil .func)
  | 34 => some (.nil .func)
  | 35 => some (.int .i64 0)
  | 36 => some (.nil .func)
  | 37 => some (.nil .func)
  | 38 => some (.nil .func)
  | 39 => some (.nil .func)
  | 40 => some (.nil .func)
  | 41 => some (.nil .func)
  | 42 => some (.nil .func)
  | 43 => some (.nil .func)
  | 44 => some (.nil .ptr)
  | 45 => some (.nil .func)
  | 46 => some (.nil .ptr)
  | 47 => some (.agg [(.nil .slice), (.int .i64 0), (.int .i64 0)])
  | 48 => some (.agg [(.nil .slice), (.int .i64 0), (.int .i64 0)])
  | 50 => some (.nil .func)
  | 51 => some (.nil .func)
  | 52 => some (.nil .func)
  | 53 => some (.nil .func)
  | 55 => some (.nil .func)
  | 56 => some (.nil .func)
  | 57 => some (.nil .func)
  | 58 => some (.nil .func)
  | 59 => some (.nil .func)
  | 60 => some (.nil .slice)
  | 61 => some (.agg [(.int .i64 0), (.int .i64 0), (.int .i64 0), (.nil .slice)])
  | 62 => some (.agg [(.int .i64 0), (.int .i64 0), (.int .i64 0), (.nil .slice)])
  | 63 => some (.agg [(.int .i64 0), (.int .i64 0), (.int .i64 0), (.agg [(.agg [(.int .i64 0), (.int .i64 0)]), (.int .i64 0), (.int .i64 0), (.int .i64 0), (.str []), (.str []), (.str [])]), (.int .i64 0), (.int .i64 0), (.nil .slice), (.agg [(.int .i64 0), (.arr 3 8 (Vector.replicate 8 (default : Int))), (.arr 2 8 (Vector.replicate 8 (default : Int))), (.arr 3 8 (Vector.replicate 8 (default : Int)))]), (.int .i64 0), (.arr 2 8 (Vector.replicate 8 (default : Int))), (.int .i64 0), (.agg [(.int .i64 0), (.int .i64 0), (.int .i64 0), (.nil .slice)]), (.int .i64 0), (.int .i64 0), (.int .i64 0)])
  | 64 => some (.agg [(.int .i64 0), (.int .i64 0), (.int .i64 0), (.agg [(.agg [(.int .i64 0), (.int .i64 0)]), (.int .i64 0), (.int .i64 0), (.int .i64 0), (.str []), (.str []), (.str [])]), (.int .i64 0), (.int .i64 0), (.nil .slice), (.agg [(.int .i64 0), (.arr 3 8 (Vector.replicate 8 (default : Int))), (.arr 2 8 (Vector.replicate 8 (default : Int))), (.arr 3 8 (Vector.replicate 8 (default : Int)))]), (.int .i64 0), (.arr 2 8 (Vector.replicate 8 (default : Int))), (.int .i64 0), (.agg [(.int .i64 0), (.int .i64 0), (.int .i64 0), (.nil .slice)]), (.int .i64 0), (.int .i64 0), (.int .i64 0)])
  | 65 => some (.agg [(.int .i64 0), (.int .i64 0)])
  | 66 => some (.agg [(.int .i64 0), (.int .i64 0)])
  | 67 => some (.agg [(.int .i64 0), (.int .i64 0)])
  | 68 => some (.agg [(.int .i64 0), (.int .i64 0)])
  | 69 => some (.nil .slice)
  | 70 => some (.agg [(.int .i64 0), (.agg [(.int .i64 0), (.int .i64 0)]), (.agg [(.int .i64 0), (.int .i64 0)]), (.agg [(.int .i64 0), (.int .i64 0)]), (.int .i64 0), (.nil .slice), (.agg [(.int .i64 0), (.int .i64 0), (.int .i64 0), (.agg [(.agg [(.int .i64 0), (.int .i64 0)]), (.int .i64 0), (.int .i64 0), (.int .i64 0), (.str []), (.str []), (.str [])]), (.int .i64 0), (.int .i64 0), (.nil .slice), (.agg [(.int .i64 0), (.arr 3 8 (Vector.replicate 8 (default : Int))), (.arr 2 8 (Vector.replicate 8 (default : Int))), (.arr 3 8 (Vector.replicate 8 (default : Int)))]), (.int .i64 0), (.arr 2 8 (Vector.replicate 8 (default : Int))), (.int .i64 0), (.agg [(.int .i64 0), (.int .i64 0), (.int .i64 0), (.nil .slice)]), (.int .i64 0), (.int .i64 0), (.int .i64 0)]), (.int .i64 0), (.arr 2 8 (Vector.replicate 8 (default : Int))), (.int .i64 0), (.int .i64 0), (.nil .slice), (.agg [(.int .i64 0), (.arr 3 8 (Vector.replicate 8 (default : Int))), (.arr 2 8 (Vector.replicate 8 (default : Int))), (.arr 3 8 (Vector.replicate 8 (default : Int)))]), (.agg [(.int .i64 0), (.int .i64 0), (.int .i64 0), (.nil .slice)])])
  | 71 => some (.agg [(.int .i64 0), (.agg [(.int .i64 0), (.int .i64 0)]), (.agg [(.int .i64 0), (.int .i64 0)]), (.agg [(.int .i64 0), (.int .i64 0)]), (.int .i64 0), (.nil .slice), (.agg [(.int .i64 0), (.int .i64 0), (.int .i64 0), (.agg [(.agg [(.int .i64 0), (.int .i64 0)]), (.int .i64 0), (.int .i64 0), (.int .i64 0), (.str []), (.str []), (.str [])]), (.int .i64 0), (.int .i64 0), (.nil .slice), (.agg [(.int .i64 0), (.arr 3 8 (Vector.replicate 8 (default : Int))), (.arr 2 8 (Vector.replicate 8 (default : Int))), (.arr 3 8 (Vector.replicate 8 (default : Int)))]), (.int .i64 0), (.arr 2 8 (Vector.replicate 8 (default : Int))), (.int .i64 0), (.agg [(.int .i64 0), (.int .i64 0), (.int .i64 0), (.nil .slice)]), (.int .i64 0), (.int .i64 0), (.int .i64 0)]), (.int .i64 0), (.arr 2 8 (Vector.replicate 8 (default : Int))), (.int .i64 0), (.int .i64 0), (.nil .slice), (.agg [(.int .i64 0), (.arr 3 8 (Vector.replicate 8 (default : Int))), (.arr 2 8 (Vector.replicate 8 (default : Int))), (.arr 3 8 (Vector.replicate 8 (default : Int)))]), (.agg [(.int .i64 0), (.int .i64 0), (.int .i64 0), (.nil .slice)])])
  | 73 => some (.nil .func)
  | 74 => some (.nil .func)
  | 75 => some (.nil .func)
  | 77 => some (.nil .func)
  | 78 => some (.nil .func)
  | 79 => some (.nil .func)
  | 81 => some (.nil .func)
  | 82 => some (.nil .func)
  | 83 => some (.nil .func)
  | 84 => some (.nil .func)
  | 85 => some (.nil .func)
  | 86 => some (.agg [(.bool false), (.nil .slice)])
  | 87 => some (.agg [(.bool false), (.nil .slice)])
  | 88 => some (.nil .func)
  | 89 => some (.nil .func)
  | 90 => some (.nil .ptr)
  | 91 => some (.nil .func)
  | 92 => some (.nil .func)
  | 93 => some (.nil .func)
  | 94 => some (.nil .func)
  | 95 => some (.nil .func)
  | 96 => some (.nil .func)
  | 97 => some (.nil .func)
  | 98 => some (.nil .func)
  | 99 => some (.agg [(.bool false), (.nil .slice)])
  | 100 => some (.nil .func)
  | 101 => some (.nil .ptr)
  | 102 => some (.nil .func)
  | 103 => some (.nil .func)
  | 104 => some (.nil .func)
  | 105 => some (.nil .func)
  | 106 => some (.nil .func)
  | 107 => some (.nil .func)
  | 108 => some (.nil .func)
  | 109 => some (.nil .func)
  | 110 => some (.agg [(.nil .ptr), (.int .i64 0)])
  | 111 => some (.agg [(.nil .ptr), (.int .i64 0)])
  | 112 => some (.nil .func)
  | 113 => some (.nil .func)
  | 114 => some (.nil .func)
  | 115 => some (.nil .func)
  | 116 => some (.nil .func)
  | 117 => some (.nil .func)
  | 118 => some (.agg [(.nil .ptr), (.int .i64 0)])
  | 119 => some (.agg [(.nil .ptr), (.int .i64 0)])
  | 120 => some (.nil .func)
  | 121 => some (.nil .func)
  | 122 => some (.nil .func)
  | 123 => some (.nil .func)
  | 124 => some (.nil .func)
  | 126 => some (.nil .func)
  | 127 => some (.nil .func)
  | 128 => some (.nil .func)
  | 129 => some (.nil .func)
  | 131 => some (.nil .func)
  | 132 => some (.nil .func)
  | 133 => some (.nil .func)
  | 135 => some (.nil .func)
  | 136 => some (.nil .func)
  | 137 => some (.nil .func)
  | 138 => some (.nil .func)
  | 139 => some (.nil .func)
  | 140 => some (.nil .func)
  | 141 => some (.nil .func)
  | 142 => some (.nil .func)
  | 143 => some (.nil .slice)
  | 144 => some (.nil .func)
  | 145 => some (.nil .slice)
  | 146 => some (.nil .func)
  | 147 => some (.nil .ptr)
  | 148 => some (.nil .func)
  | 149 => some (.nil .ptr)
  | 151 => some (.nil .func)
  | 152 => some (.nil .func)
  | 153 => some (.nil .ptr)
  | 154 => some (.nil .func)
  | 155 => some (.nil .func)
  | 156 => some (.nil .func)
  | 157 => some (.nil .func)
  | 158 => some (.nil .func)
  | 159 => some (.nil .func)
  | 160 => some (.nil .func)
  | 161 => some (.nil .func)
  | 162 => some (.nil .func)
  | 163 => some (.nil .func)
  | 164 => some (.nil .func)
  | 165 => some (.nil .func)
  | 166 => some (.nil .func)
  | 167 => some (.int .u32 0)
  | 168 => some (.nil .func)
  | 169 => some (.nil .func)
  | 170 => some (.nil .func)
  | 171 => some (.int .u64 0)
  | 172 => some (.nil .func)
  | 173 => some (.nil .func)
  | 174 => some (.nil .func)
  | 175 => some (.nil .ptr)
  | 176 => some (.nil .func)
  | 177 => some (.agg [(.int .i64 0), (.agg [(.int .i64 0), (.int .i64 0)]), (.agg [(.int .i64 0), (.int .i64 0), (.int .i64 0), (.agg [(.agg [(.int .i64 0), (.int .i64 0)]), (.int .i64 0), (.int .i64 0), (.int .i64 0), (.str []), (.str []), (.str [])]), (.int .i64 0), (.int .i64 0), (.nil .slice), (.agg [(.int .i64 0), (.arr 3 8 (Vector.replicate 8 (default : Int))), (.arr 2 8 (Vector.replicate 8 (default : Int))), (.arr 3 8 (Vector.replicate 8 (default : Int)))]), (.int .i64 0), (.arr 2 8 (Vector.replicate 8 (default : Int))), (.int .i64 0), (.agg [(.int .i64 0), (.int .i64 0), (.int .i64 0), (.nil .slice)]), (.int .i64 0), (.int .i64 0), (.int .i64 0)])])
  | 178 => some (.agg [(.int .i64 0), (.agg [(.int .i64 0), (.int .i64 0)]), (.agg [(.int .i64 0), (.int .i64 0), (.int .i64 0), (.agg [(.agg [(.int .i64 0), (.int .i64 0)]), (.int .i64 0), (.int .i64 0), (.int .i64 0), (.str []), (.str []), (.str [])]), (.int .i64 0), (.int .i64 0), (.nil .slice), (.agg [(.int .i64 0), (.arr 3 8 (Vector.replicate 8 (default : Int))), (.arr 2 8 (Vector.replicate 8 (default : Int))), (.arr 3 8 (Vector.replicate 8 (default : Int)))]), (.int .i64 0), (.arr 2 8 (Vector.replicate 8 (default : Int))), (.int .i64 0), (.agg [(.int .i64 0), (.int .i64 0), (.int .i64 0), (.nil .slice)]), (.int .i64 0), (.int .i64 0), (.int .i64 0)])])
  | 179 => some (.nil .func)
  | 180 => some (.nil .func)
  | 181 => some (.nil .slice)
  | 182 => some (.nil .func)
  | 183 => some (.int .u64 0)
  | 184 => some (.nil .slice)
  | 185 => some (.nil .slice)
  | 187 => some (.nil .func)
  | 188 => some (.nil .func)
  | 189 => some (.nil .func)
  | 190 => some (.nil .slice)
  | 191 => some (.nil .func)
  | 192 => some (.nil .func)
  | 193 => some (.nil .func)
  | 194 => some (.nil .slice)
  | 195 => some (.nil .func)
  | 196 => some (.nil .func)
  | 197 => some (.nil .func)
  | 199 => some (.nil .func)
  | 200 => some (.nil .func)
  | 201 => some (.nil .func)
  | 202 => some (.nil .func)
  | 211 => some (.nil .ptr)
  | _ => none
theorem zok1 : ∃ i, E.ty 1 = some i ∧ (.nil .func : TV τ).ok = true ∧ CW i.zero ((.nil .func : TV τ).cells C) ∧ (.nil .func : TV τ).isAgg = i.agg := ⟨ti1, rfl, rfl, CW.of_eq (by kernel_rfl), rfl⟩
theorem zok2 : ∃ i, E.ty 2 = some i ∧ (.int .i64 0 : TV τ).ok = true ∧ CW i.zero ((.int .i64 0 : TV τ).cells C) ∧ (.int .i64 0 : TV τ).isAgg = i.agg := ⟨ti2, rfl, rfl, CW.of_eq (by kernel_rfl), rfl⟩
theorem zok3 : ∃ i, E.ty 3 = some i ∧ (.int .i64 0 : TV τ).ok = true ∧ CW i.zero ((.int .i64 0 : TV τ).cells C) ∧ (.int .i64 0 : TV τ).isAgg = i.agg := ⟨ti3, rfl, rfl, CW.of_eq (by kernel_rfl), rfl⟩
theorem zok4 : ∃ i, E.ty 4 = some i ∧ (.bool false : TV τ).ok = true ∧ CW i.zero ((.bool false : TV τ).cells C) ∧ (.bool false : TV τ).isAgg = i.agg := ⟨ti4, rfl, rfl, CW.of_eq (by kernel_rfl), rfl⟩
theorem zok5 : ∃ i, E.ty 5 = some i ∧ (.int .u8 0 : TV τ).ok = true ∧ CW i.zero ((.int .u8 0 : TV τ).cells C) ∧ (.int .u8 0 : TV τ).isAgg = i.agg := ⟨ti5, rfl, rfl, CW.of_eq (by kernel_rfl), rfl⟩
theorem zok9 : ∃ i, E.ty 9 = some i ∧ (.str [] : TV τ).ok = true ∧ CW i.zero ((.str [] : TV τ).cells C) ∧ (.str [] : TV τ).isAgg = i.agg := ⟨ti9, rfl, rfl, CW.of_eq (by kernel_rfl), rfl⟩
theorem zok12 : ∃ i, E.ty 12 = some i ∧ (.int .u64 0 : TV τ).ok = true ∧ CW i.zero ((.int .u64 0 : TV τ).cells C) ∧ (.int .u64 0 : TV τ).isAgg = i.agg := ⟨ti12, rfl, rfl, CW.of_eq (by kernel_rfl), rfl⟩
theorem zok17 : ∃ i, E.ty 17 = some i ∧ (.nil .ptr : TV τ).ok = true ∧ CW i.zero ((.nil .ptr : TV τ).cells C) ∧ (.nil .ptr : TV τ).isAgg = i.agg := ⟨ti17, rfl, rfl, CW.of_eq (by kernel_rfl), rfl⟩
theorem zok21 : ∃ i, E.ty 21 = some i ∧ (.int .i32 0 : TV τ).ok = true ∧ CW i.zero ((.int .i32 0 : TV τ).cells C) ∧ (.int .i32 0 : TV τ).isAgg = i.agg := ⟨ti21, rfl, rfl, CW.of_eq (by kernel_rfl), rfl⟩
theorem zok22 : ∃ i, E.ty 22 = some i ∧ (.agg [(.int .i64 0), (.int .i64 0)] : TV τ).ok = true ∧ CW i.zero ((.agg [(.int .i64 0), (.int .i64 0)] : TV τ).cells C) ∧ (.agg [(.int .i64 0), (.int .i64 0)] : TV τ).isAgg = i.agg := ⟨ti22, rfl, rfl, CW.of_eq (by kernel_rfl), rfl⟩
theorem zok23 : ∃ i, E.ty 23 = some i ∧ (.agg [(.int .i64 0), (.int .i64 0)] : TV τ).ok = true ∧ CW i.zero ((.agg [(.int .i64 0), (.int .i64 0)] : TV τ).cells C) ∧ (.agg [(.int .i64 0), (.int .i64 0)] : TV τ).isAgg = i.agg := ⟨ti23, rfl, rfl, CW.of_eq (by kernel_rfl), rfl⟩
theorem zok24 : ∃ i, E.ty 24 = some i ∧ (.agg [(.agg [(.int .i64 0), (.int .i64 0)]), (.int .i64 0), (.int .i64 0), (.int .i64 0), (.str []), (.str []), (.str [])] : TV τ).ok = true ∧ CW i.zero ((.agg [(.agg [(.int .i64 0), (.int .i64 0)]), (.int .i64 0), (.int .i64 0), (.int .i64 0), (.str []), (.str []), (.str [])] : TV τ).cells C) ∧ (.agg [(.agg [(.int .i64 0), (.int .i64 0)]), (.int .i64 0), (.int .i64 0), (.int .i64 0), (.str []), (.str []), (.str [])] : TV τ).isAgg = i.agg := ⟨ti24, rfl, rfl, CW.of_eq (by kernel_rfl), rfl⟩
theorem zok25 : ∃ i, E.ty 25 = some i ∧ (.agg [(.agg [(.int .i64 0), (.int .i64 0)]), (.int .i64 0), (.int .i64 0), (.int .i64 0), (.str []), (.str []), (.str [])] : TV τ).ok = true ∧ CW i.zero ((.agg [(.agg [(.int .i64 0), (.int .i64 0)]), (.int .i64 0), (.int .i64 0), (.int .i64 0), (.str []), (.str []), (.str [])] : TV τ).cells C) ∧ (.agg [(.agg [(.int .i64 0), (.int .i64 0)]), (.int .i64 0), (.int .i64 0), (.int .i64 0), (.str []), (.str []), (.str [])] : TV τ).isAgg = i.agg := ⟨ti25, rfl, rfl, CW.of_eq (by kernel_rfl), rfl⟩
theorem zok26 : ∃ i, E.ty 26 = some i ∧ (.arr 3 8 (Vector.replicate 8 (default : Int)) : TV τ).ok = true ∧ CW i.zero ((.arr 3 8 (Vector.replicate 8 (default : Int)) : TV τ).cells C) ∧ (.arr 3 8 (Vector.replicate 8 (default : Int)) : TV τ).isAgg = i.agg := ⟨ti26, rfl, rfl, CW.of_eq (by kernel_rfl), rfl⟩
theorem zok27 : ∃ i, E.ty 27 = some i ∧ (.arr 2 8 (Vector.replicate 8 (default : Int)) : TV τ).ok = true ∧ CW i.zero ((.arr 2 8 (Vector.replicate 8 (default : Int)) : TV τ).cells C) ∧ (.arr 2 8 (Vector.replicate 8 (default : Int)) : TV τ).isAgg = i.agg := ⟨ti27, rfl, rfl, CW.of_eq (by kernel_rfl), rfl⟩
theorem zok28 : ∃ i, E.ty 28 = some i ∧ (.arr 2 8 (Vector.replicate 8 (default : Int)) : TV τ).ok = true ∧ CW i.zero ((.arr 2 8 (Vector.replicate 8 (default : Int)) : TV τ).cells C) ∧ (.arr 2 8 (Vector.replicate 8 (default : Int)) : TV τ).isAgg = i.agg := ⟨ti28, rfl, rfl, CW.of_eq (by kernel_rfl), rfl⟩
theorem zok29 : ∃ i, E.ty 29 = some i ∧ (.agg [(.int .i64 0), (.arr 3 8 (Vector.replicate 8 (default : Int))), (.arr 2 8 (Vector.replicate 8 (default : Int))), (.arr 3 8 (Vector.replicate 8 (default : Int)))] : TV τ).ok = true ∧ CW i.zero ((.agg [(.int .i64 0), (.arr 3 8 (Vector.replicate 8 (default : Int))), (.arr 2 8 (Vector.replicate 8 (default : Int))), (.arr 3 8 (Vector.replicate 8 (default : Int)))] : TV τ).cells C) ∧ (.agg [(.int .i64 0), (.arr 3 8 (Vector.replicate 8 (default : Int))), (.arr 2 8 (Vector.replicate 8 (default : Int))), (.arr 3 8 (Vector.replicate 8 (default : Int)))] : TV τ).isAgg = i.agg := ⟨ti29, rfl, rfl, CW.of_eq (by kernel_rfl), rfl⟩
theorem zok30 : ∃ i, E.ty 30 = some i ∧ (.agg [(.int .i64 0), (.arr 3 8 (Vector.replicate 8 (default : Int))), (.arr 2 8 (Vector.replicate 8 (default : Int))), (.arr 3 8 (Vector.replicate 8 (default : Int)))] : TV τ).ok = true ∧ CW i.zero ((.agg [(.int .i64 0), (.arr 3 8 (Vector.replicate 8 (default : Int))), (.arr 2 8 (Vector.replicate 8 (default : Int))), (.arr 3 8 (Vector.replicate 8 (default : Int)))] : TV τ).cells C) ∧ (.agg [(.int .i64 0), (.arr 3 8 (Vector.replicate 8 (default : Int))), (.arr 2 8 (Vector.replicate 8 (default : Int))), (.arr 3 8 (Vector.replicate 8 (default : Int)))] : TV τ).isAgg = i.agg := ⟨ti30, rfl, rfl, CW.of_eq (by kernel_rfl), rfl⟩
theorem zok31 : ∃ i, E.ty 31 = some i ∧ (.nil .slice : TV τ).ok = true ∧ CW i.zero ((.nil .slice : TV τ).cells C) ∧ (.nil .slice : TV τ).isAgg = i.agg := ⟨ti31, rfl, rfl, CW.of_eq (by kernel_rfl), rfl⟩
theorem zok32 : ∃ i, E.ty 32 = some i ∧ (.nil .ptr : TV τ).ok = true ∧ CW i.zero ((.nil .ptr : TV τ).cells C) ∧ (.nil .ptr : TV τ).isAgg = i.agg := ⟨ti32, rfl, rfl, CW.of_eq (by kernel_rfl), rfl⟩
theorem zok33 : ∃ i, E.ty 33 = some i ∧ (.nil .func : TV τ).ok = true ∧ CW i.zero ((.nil .func : TV τ).cells C) ∧ (.nil .func : TV τ).isAgg = i.agg := ⟨ti33, rfl, rfl, CW.of_eq (by kernel_rfl), rfl⟩
theorem zok34 : ∃ i, E.ty 34 = some i ∧ (.nil .func : TV τ).ok = true ∧ CW i.zero ((.nil .func : TV τ).cells C) ∧ (.nil .func : TV τ).isAgg = i.agg := ⟨ti34, rfl, rfl, CW.of_eq (by kernel_rfl), rfl⟩
theorem zok35 : ∃ i, E.ty 35 = some i ∧ (.int .i64 0 : TV τ).ok = true ∧ CW i.zero ((.int .i64 0 : TV τ).cells C) ∧ (.int .i64 0 : TV τ).isAgg = i.agg := ⟨ti35, rfl, rfl, CW.of_eq (by kernel_rfl), rfl⟩
theorem zok36 : ∃ i, E.ty 36 = some i ∧ (.nil .func : TV τ).ok = true ∧ CW i.zero ((.nil .func : TV τ).cells C) ∧ (.nil .func : TV τ).isAgg = i.agg := ⟨ti36, rfl, rfl, CW.of_eq (by kernel_rfl), rfl⟩
theorem zok37 : ∃ i, E.ty 37 = some i ∧ (.nil .func : TV τ).ok = true ∧ CW i.zero ((.nil .func : TV τ).cells C) ∧ (.nil .func : TV τ).isAgg = i.agg := ⟨ti37, rfl, rfl, CW.of_eq (by kernel_rfl), rfl⟩
theorem zok38 : ∃ i, E.ty 38 = some i ∧ (.nil .func : TV τ).ok = true ∧ CW i.zero ((.nil .func : TV τ).cells C) ∧ (.nil .func : TV τ).isAgg = i.agg := ⟨ti38, rfl, rfl, CW.of_eq (by kernel_rfl), rfl⟩
theorem zok39 : ∃ i, E.ty 39 = some i ∧ (.nil .func : TV τ).ok = true ∧ CW i.zero ((.nil .func : TV τ).cells C) ∧ (.nil .func : TV τ).isAgg = i.agg := ⟨ti39, rfl, rfl, CW.of_eq (by kernel_rfl), rfl⟩
theorem zok40 : ∃ i, E.ty 40 = some i ∧ (.nil .func : TV τ).ok = true ∧ CW i.zero ((.nil .func : TV τ).cells C) ∧ (.nil .func : TV τ).isAgg = i.agg := ⟨ti40, rfl, rfl, CW.of_eq (by kernel_rfl), rfl⟩
theorem zok41 : ∃ i, E.ty 41 = some i ∧ (.nil .func : TV τ).ok = true ∧ CW i.zero ((.nil .func : TV τ).cells C) ∧ (.nil .func : TV τ).isAgg = i.agg := ⟨ti41, rfl, rfl, CW.of_eq (by kernel_rfl), rfl⟩
theorem zok42 : ∃ i, E.ty 42 = some i ∧ (.nil .func : TV τ).ok = true ∧ CW i.zero ((.nil .func : TV τ).cells C) ∧ (.nil .func : TV τ).isAgg = i.agg := ⟨ti42, rfl, rfl, CW.of_eq (by kernel_rfl), rfl⟩
theorem zok43 : ∃ i, E.ty 43 = some i ∧ (.nil .func : TV τ).ok = true ∧ CW i.zero ((.nil .func : TV τ).cells C) ∧ (.nil .func : TV τ).isAgg = i.agg := ⟨ti43, rfl, rfl, CW.of_eq (by kernel_rfl), rfl⟩
theorem zok44 : ∃ i, E.ty 44 = some i ∧ (.nil .ptr : TV τ).ok = true ∧ CW i.zero ((.nil .ptr : TV τ).cells C) ∧ (.nil .ptr : TV τ).isAgg = i.agg := ⟨ti44, rfl, rfl, CW.of_eq (by kernel_rfl), rfl⟩
theorem zok45 : ∃ i, E.ty 45 = some i ∧ (.nil .func : TV τ).ok = true ∧ CW i.zero ((.nil .func : TV τ).cells C) ∧ (.nil .func : TV τ).isAgg = i.agg := ⟨ti45, rfl, rfl, CW.of_eq (by kernel_rfl), rfl⟩
theorem zok46 : ∃ i, E.ty 46 = some i ∧ (.nil .ptr : TV τ).ok = true ∧ CW i.zero ((.nil .ptr : TV τ).cells C) ∧ (.nil .ptr : TV τ).isAgg = i.agg := ⟨ti46, rfl, rfl, CW.of_eq (by kernel_rfl), rfl⟩
theorem zok47 : ∃ i, E.ty 47 = some i ∧ (.agg [(.nil .slice), (.int .i64 0), (.int .i64 0)] : TV τ).ok = true ∧ CW i.zero ((.agg [(.nil .slice), (.int .i64 0), (.int .i64 0)] : TV τ).cells C) ∧ (.agg [(.nil .slice), (.int .i64 0), (.int .i64 0)] : TV τ).isAgg = i.agg := ⟨ti47, rfl, rfl, CW.of_eq (by kernel_rfl), rfl⟩
theorem zok48 : ∃ i, E.ty 48 = some i ∧ (.agg [(.nil .slice), (.int .i64 0), (.int .i64 0)] : TV τ).ok = true ∧ CW i.zero ((.agg [(.nil .slice), (.int .i64 0), (.int .i64 0)] : TV τ).cells C) ∧ (.agg [(.nil .slice), (.int .i64 0), (.int .i64 0)] : TV τ).isAgg = i.agg := ⟨ti48, rfl, rfl, CW.of_eq (by kernel_rfl), rfl⟩
theorem zok50 : ∃ i, E.ty 50 = some i ∧ (.nil .func : TV τ).ok = true ∧ CW i.zero ((.nil .func : TV τ).cells C) ∧ (.nil .func : TV τ).isAgg = i.agg := ⟨ti50, rfl, rfl, CW.of_eq (by kernel_rfl), rfl⟩
theorem zok51 : ∃ i, E.ty 51 = some i ∧ (.nil .func : TV τ).ok = true ∧ CW i.zero ((.nil .func : TV τ).cells C) ∧ (.nil .func : TV τ).isAgg = i.agg := ⟨ti51, rfl, rfl, CW.of_eq (by kernel_rfl), rfl⟩
theorem zok52 : ∃ i, E.ty 52 = some i ∧ (.nil .func : TV τ).ok = true ∧ CW i.zero ((.nil .func : TV τ).cells C) ∧ (.nil .func : TV τ).isAgg = i.agg := ⟨ti52, rfl, rfl, CW.of_eq (by kernel_rfl), rfl⟩
theorem zok53 : ∃ i, E.ty 53 = some i ∧ (.nil .func : TV τ).ok = true ∧ CW i.zero ((.nil .func : TV τ).cells C) ∧ (.nil .func : TV τ).isAgg = i.agg := ⟨ti53, rfl, rfl, CW.of_eq (by kernel_rfl), rfl⟩
theorem zok55 : ∃ i, E.ty 55 = some i ∧ (.nil .func : TV τ).ok = true ∧ CW i.zero ((.nil .func : TV τ).cells C) ∧ (.nil .func : TV τ).isAgg = i.agg := ⟨ti55, rfl, rfl, CW.of_eq (by kernel_rfl), rfl⟩
theorem zok56 : ∃ i, E.ty 56 = some i ∧ (.nil .func : TV τ).ok = true ∧ CW i.zero ((.nil .func : TV τ).cells C) ∧ (.nil .func : TV τ).isAgg = i.agg := ⟨ti56, rfl, rfl, CW.of_eq (by kernel_rfl), rfl⟩
theorem zok57 : ∃ i, E.ty 57 = some i ∧ (.nil .func : TV τ).ok = true ∧ CW i.zero ((.nil .func : TV τ).cells C) ∧ (.nil .func : TV τ).isAgg = i.agg := ⟨ti57, rfl, rfl, CW.of_eq (by kernel_rfl), rfl⟩
theorem zok58 : ∃ i, E.ty 58 = some i ∧ (.nil .func : TV τ).ok = true ∧ CW i.zero ((.nil .func : TV τ).cells C) ∧ (.nil .func : TV τ).isAgg = i.agg := ⟨ti58, rfl, rfl, CW.of_eq (by kernel_rfl), rfl⟩
theorem zok59 : ∃ i, E.ty 59 = some i ∧ (.nil .func : TV τ).ok = true ∧ CW i.zero ((.nil .func : TV τ).cells C) ∧ (.nil .func : TV τ).isAgg = i.agg := ⟨ti59, rfl, rfl, CW.of_eq (by kernel_rfl), rfl⟩
theorem zok60 : ∃ i, E.ty 60 = some i ∧ (.nil .slice : TV τ).ok = true ∧ CW i.zero ((.nil .slice : TV τ).cells C) ∧ (.nil .slice : TV τ).isAgg = i.agg := ⟨ti60, rfl, rfl, CW.of_eq (by kernel_rfl), rfl⟩
theorem zok61 : ∃ i, E.ty 61 = some i ∧ (.agg [(.int .i64 0), (.int .i64 0), (.int .i64 0), (.nil .slice)] : TV τ).ok = true ∧ CW i.zero ((.agg [(.int .i64 0), (.int .i64 0), (.int .i64 0), (.nil .slice)] : TV τ).cells C) ∧ (.agg [(.int .i64 0), (.int .i64 0), (.int .i64 0), (.nil .slice)] : TV τ).isAgg = i.agg := ⟨ti61, rfl, rfl, CW.of_eq (by kernel_rfl), rfl⟩
theorem zok62 : ∃ i, E.ty 62 = some i ∧ (.agg [(.int .i64 0), (.int .i64 0), (.int .i64 0), (.nil .slice)] : TV τ).ok = true ∧ CW i.zero ((.agg [(.int .i64 0), (.int .i64 0), (.int .i64 0), (.nil .slice)] : TV τ).cells C) ∧ (.agg [(.int .i64 0), (.int .i64 0), (.int .i64 0), (.nil .slice)] : TV τ).isAgg = i.agg := ⟨ti62, rfl, rfl, CW.of_eq (by kernel_rfl), rfl⟩
theorem zok63 : ∃ i, E.ty 63 = some i ∧ (.agg [(.int .i64 0), (.int .i64 0), (.int .i64 0), (.agg [(.agg [(.int .i64 0), (.int .i64 0)]), (.int .i64 0), (.int .i64 0), (.int .i64 0), (.str []), (.str []), (.str [])]), (.int .i64 0), (.int .i64 0), (.nil .slice), (.agg [(.int .i64 0), (.arr 3 8 (Vector.replicate 8 (default : Int))), (.arr 2 8 (Vector.replicate 8 (default : Int))), (.arr 3 8 (Vector.replicate 8 (default : Int)))]), (.int .i64 0), (.arr 2 8 (Vector.replicate 8 (default : Int))), (.int .i64 0), (.agg [(.int .i64 0), (.int .i64 0), (.int .i64 0), (.nil .slice)]), (.int .i64 0), (.int .i64 0), (.int .i64 0)] : TV τ).ok = true ∧ CW i.zero ((.agg [(.int .i64 0), (.int .i64 0), (.int .i64 0), (.agg [(.agg [(.int .i64 0), (.int .i64 0)]), (.int .i64 0), (.int .i64 0), (.int .i64 0), (.str []), (.str []), (.str [])]), (.int .i64 0), (.int .i64 0), (.nil .slice), (.agg [(.int .i64 0), (.arr 3 8 (Vector.replicate 8 (default : Int))), (.arr 2 8 (Vector.replicate 8 (default : Int))), (.arr 3 8 (Vector.replicate 8 (default : Int)))]), (.int .i64 0), (.arr 2 8 (Vector.replicate 8 (default : Int))), (.int .i64 0), (.agg [(.int .i64 0), (.int .i64 0), (.int .i64 0), (.nil .slice)]), (.int .i64 0), (.int .i64 0), (.int .i64 0)] : TV τ).cells C) ∧ (.agg [(.int .i64 0), (.int .i64 0), (.int .i64 0), (.agg [(.agg [(.int .i64 0), (.int .i64 0)]), (.int .i64 0), (.int .i64 0), (.int .i64 0), (.str []), (.str []), (.str [])]), (.int .i64 0), (.int .i64 0), (.nil .slice), (.agg [(.int .i64 0), (.arr 3 8 (Vector.replicate 8 (default : Int))), (.arr 2 8 (Vector.replicate 8 (default : Int))), (.arr 3 8 (Vector.replicate 8 (default : Int)))]), (.int .i64 0), (.arr 2 8 (Vector.replicate 8 (default : Int))), (.int .i64 0), (.agg [(.int .i64 0), (.int .i64 0), (.int .i64 0), (.nil .slice)]), (.int .i64 0), (.int .i64 0), (.int .i64 0)] : TV τ).isAgg = i.agg := ⟨ti63, rfl, rfl, CW.of_eq (by kernel_rfl), rfl⟩
theorem zok64 : ∃ i, E.ty 64 = some i ∧ (.agg [(.int .i64 0), (.int .i64 0), (.int .i64 0), (.agg [(.agg [(.int .i64 0), (.int .i64 0)]), (.int .i64 0), (.int .i64 0), (.int .i64 0), (.str []), (.str []), (.str [])]), (.int .i64 0), (.int .i64 0), (.nil .slice), (.agg [(.int .i64 0), (.arr 3 8 (Vector.replicate 8 (default : Int))), (.arr 2 8 (Vector.replicate 8 (default : Int))), (.arr 3 8 (Vector.replicate 8 (default : Int)))]), (.int .i64 0), (.arr 2 8 (Vector.replicate 8 (default : Int))), (.int .i64 0), (.agg [(.int .i64 0), (.int .i64 0), (.int .i64 0), (.nil .slice)]), (.int .i64 0), (.int .i64 0), (.int .i64 0)] : TV τ).ok = true ∧ CW i.zero ((.agg [(.int .i64 0), (.int .i64 0), (.int .i64 0), (.agg [(.agg [(.int .i64 0), (.int .i64 0)]), (.int .i64 0), (.int .i64 0), (.int .i64 0), (.str []), (.str []), (.str [])]), (.int .i64 0), (.int .i64 0), (.nil .slice), (.agg [(.int .i64 0), (.arr 3 8 (Vector.replicate 8 (default : Int))), (.arr 2 8 (Vector.replicate 8 (default : Int))), (.arr 3 8 (Vector.replicate 8 (default : Int)))]), (.int .i64 0), (.arr 2 8 (Vector.replicate 8 (default : Int))), (.int .i64 0), (.agg [(.int .i64 0), (.int .i64 0), (.int .i64 0), (.nil .slice)]), (.int .i64 0), (.int .i64 0), (.int .i64 0)] : TV τ).cells C) ∧ (.agg [(.int .i64 0), (.int .i64 0), (.int .i64 0), (.agg [(.agg [(.int .i64 0), (.int .i64 0)]), (.int .i64 0), (.int .i64 0), (.int .i64 0), (.str []), (.str []), (.str [])]), (.int .i64 0), (.int .i64 0), (.nil .slice), (.agg [(.int .i64 0), (.arr 3 8 (Vector.replicate 8 (default : Int))), (.arr 2 8 (Vector.replicate 8 (default : Int))), (.arr 3 8 (Vector.replicate 8 (default : Int)))]), (.int .i64 0), (.arr 2 8 (Vector.replicate 8 (default : Int))), (.int .i64 0), (.agg [(.int .i64 0), (.int .i64 0), (.int .i64 0), (.nil .slice)]), (.int .i64 0), (.int .i64 0), (.int .i64 0)] : TV τ).isAgg = i.agg := ⟨ti64, rfl, rfl, CW.of_eq (by kernel_rfl), rfl⟩
theorem zok65 : ∃ i, E.ty 65 = some i ∧ (.agg [(.int .i64 0), (.int .i64 0)] : TV τ).ok = true ∧ CW i.zero ((.agg [(.int .i64 0), (.int .i64 0)] : TV τ).cells C) ∧ (.agg [(.int .i64 0), (.int .i64 0)] : TV τ).isAgg = i.agg := ⟨ti65, rfl, rfl, CW.of_eq (by kernel_rfl), rfl⟩
theorem zok66 : ∃ i, E.ty 66 = some i ∧ (.agg [(.int .i64 0), (.int .i64 0)] : TV τ).ok = true ∧ CW i.zero ((.agg [(.int .i64 0), (.int .i64 0)] : TV τ).cells C) ∧ (.agg [(.int .i64 0), (.int .i64 0)] : TV τ).isAgg = i.agg := ⟨ti66, rfl, rfl, CW.of_eq (by kernel_rfl), rfl⟩
theorem zok67 : ∃ i, E.ty 67 = some i ∧ (.agg [(.int .i64 0), (.int .i64 0)] : TV τ).ok = true ∧ CW i.zero ((.agg [(.int .i64 0), (.int .i64 0)] : TV τ).cells C) ∧ (.agg [(.int .i64 0), (.int .i64 0)] : TV τ).isAgg = i.agg := ⟨ti67, rfl, rfl, CW.of_eq (by kernel_rfl), rfl⟩
theorem zok68 : ∃ i, E.ty 68 = some i ∧ (.agg [(.int .i64 0), (.int .i64 0)] : TV τ).ok = true ∧ CW i.zero ((.agg [(.int .i64 0), (.int .i64 0)] : TV τ).cells C) ∧ (.agg [(.int .i64 0), (.int .i64 0)] : TV τ).isAgg = i.agg := ⟨ti68, rfl, rfl, CW.of_eq (by kernel_rfl), rfl⟩
theorem zok69 : ∃ i, E.ty 69 = some i ∧ (.nil .slice : TV τ).ok = true ∧ CW i.zero ((.nil .slice : TV τ).cells C) ∧ (.nil .slice : TV τ).isAgg = i.agg := ⟨ti69, rfl, rfl, CW.of_eq (by kernel_rfl), rfl⟩
theorem zok70 : ∃ i, E.ty 70 = some i ∧ (.agg [(.int .i64 0), (.agg [(.int .i64 0), (.int .i64 0)]), (.agg [(.int .i64 0), (.int .i64 0)]), (.agg [(.int .i64 0), (.int .i64 0)]), (.int .i64 0), (.nil .slice), (.agg [(.int .i64 0), (.int .i64 0), (.int .i64 0), (.agg [(.agg [(.int .i64 0), (.int .i64 0)]), (.int .i64 0), (.int .i64 0), (.int .i64 0), (.str []), (.str []), (.str [])]), (.int .i64 0), (.int .i64 0), (.nil .slice), (.agg [(.int .i64 0), (.arr 3 8 (Vector.replicate 8 (default : Int))), (.arr 2 8 (Vector.replicate 8 (default : Int))), (.arr 3 8 (Vector.replicate 8 (default : Int)))]), (.int .i64 0), (.arr 2 8 (Vector.replicate 8 (default : Int))), (.int .i64 0), (.agg [(.int .i64 0), (.int .i64 0), (.int .i64 0), (.nil .slice)]), (.int .i64 0), (.int .i64 0), (.int .i64 0)]), (.int .i64 0), (.arr 2 8 (Vector.replicate 8 (default : Int))), (.int .i64 0), (.int .i64 0), (.nil .slice), (.agg [(.int .i64 0), (.arr 3 8 (Vector.replicate 8 (default : Int))), (.arr 2 8 (Vector.replicate 8 (default : Int))), (.arr 3 8 (Vector.replicate 8 (default : Int)))]), (.agg [(.int .i64 0), (.int .i64 0), (.int .i64 0), (.nil .slice)])] : TV τ).ok = true ∧ CW i.zero ((.agg [(.int .i64 0), (.agg [(.int .i64 0), (.int .i64 0)]), (.agg [(.int .i64 0), (.int .i64 0)]), (.agg [(.int .i64 0), (.int .i64 0)]), (.int .i64 0), (.nil .slice), (.agg [(.int .i64 0), (.int .i64 0), (.int .i64 0), (.agg [(.agg [(.int .i64 0), (.int .i64 0)]), (.int .i64 0), (.int .i64 0), (.int .i64 0), (.str []), (.str []), (.str [])]), (.int .i64 0), (.int .i64 0), (.nil .slice), (.agg [(.int .i64 0), (.arr 3 8 (Vector.replicate 8 (default : Int))), (.arr 2 8 (Vector.replicate 8 (default : Int))), (.arr 3 8 (Vector.replicate 8 (default : Int)))]), (.int .i64 0), (.arr 2 8 (Vector.replicate 8 (default : Int))), (.int .i64 0), (.agg [(.int .i64 0), (.int .i64 0), (.int .i64 0), (.nil .slice)]), (.int .i64 0), (.int .i64 0), (.int .i64 0)]), (.int .i64 0), (.arr 2 8 (Vector.replicate 8 (default : Int))), (.int .i64 0), (.int .i64 0), (.nil .slice), (.agg [(.int .i64 0), (.arr 3 8 (Vector.replicate 8 (default : Int))), (.arr 2 8 (Vector.replicate 8 (default : Int))), (.arr 3 8 (Vector.replicate 8 (default : Int)))]), (.agg [(.int .i64 0), (.int .i64 0), (.int .i64 0), (.nil .slice)])] : TV τ).cells C) ∧ (.agg [(.int .i64 0), (.agg [(.int .i64 0), (.int .i64 0)]), (.agg [(.int .i64 0), (.int .i64 0)]), (.agg [(.int .i64 0), (.int .i64 0)]), (.int .i64 0), (.nil .slice), (.agg [(.int .i64 0), (.int .i64 0), (.int .i64 0), (.agg [(.agg [(.int .i64 0), (.int .i64 0)]), (.int .i64 0), (.int .i64 0), (.int .i64 0), (.str []), (.str []), (.str [])]), (.int .i64 0), (.int .i64 0), (.nil .slice), (.agg [(.int .i64 0), (.arr 3 8 (Vector.replicate 8 (default : Int))), (.arr 2 8 (Vector.replicate 8 (default : Int))), (.arr 3 8 (Vector.replicate 8 (default : Int)))]), (.int .i64 0), (.arr 2 8 (Vector.replicate 8 (default : Int))), (.int .i64 0), (.agg [(.int .i64 0), (.int .i64 0), (.int .i64 0), (.nil .slice)]), (.int .i64 0), (.int .i64 0), (.int .i64 0)]), (.int .i64 0), (.arr 2 8 (Vector.replicate 8 (default : Int))), (.int .i64 0), (.int .i64 0), (.nil .slice), (.agg [(.int .i64 0), (.arr 3 8 (Vector.replicate 8 (default : Int))), (.arr 2 8 (Vector.replicate 8 (default : Int))), (.arr 3 8 (Vector.replicate 8 (default : Int)))]), (.agg [(.int .i64 0), (.int .i64 0), (.int .i64 0), (.nil .slice)])] : TV τ).isAgg = i.agg := ⟨ti70, rfl, rfl, CW.of_eq (by kernel_rfl), rfl⟩
theorem zok71 : ∃ i, E.ty 71 = some i ∧ (.agg [(.int .i64 0), (.agg [(.int .i64 0), (.int .i64 0)]), (.agg [(.int .i64 0), (.int .i64 0)]), (.agg [(.int .i64 0), (.int .i64 0)]), (.int .i64 0), (.nil .slice), (.agg [(.int .i64 0), (.int .i64 0), (.int .i64 0), (.agg [(.agg [(.int .i64 0), (.int .i64 0)]), (.int .i64 0), (.int .i64 0), (.int .i64 0), (.str []), (.str []), (.str [])]), (.int .i64 0), (.int .i64 0), (.nil .slice), (.agg [(.int .i64 0), (.arr 3 8 (Vector.replicate 8 (default : Int))), (.arr 2 8 (Vector.replicate 8 (default : Int))), (.arr 3 8 (Vector.replicate 8 (default : Int)))]), (.int .i64 0), (.arr 2 8 (Vector.replicate 8 (default : Int))), (.int .i64 0), (.agg [(.int .i64 0), (.int .i64 0), (.int .i64 0), (.nil .slice)]), (.int .i64 0), (.int .i64 0), (.int .i64 0)]), (.int .i64 0), (.arr 2 8 (Vector.replicate 8 (default : Int))), (.int .i64 0), (.int .i64 0), (.nil .slice), (.agg [(.int .i64 0), (.arr 3 8 (Vector.replicate 8 (default : Int))), (.arr 2 8 (Vector.replicate 8 (default : Int))), (.arr 3 8 (Vector.replicate 8 (default : Int)))]), (.agg [(.int .i64 0), (.int .i64 0), (.int .i64 0), (.nil .slice)])] : TV τ).ok = true ∧ CW i.zero ((.agg [(.int .i64 0), (.agg [(.int .i64 0), (.int .i64 0)]), (.agg [(.int .i64 0), (.int .i64 0)]), (.agg [(.int .i64 0), (.int .i64 0)]), (.int .i64 0), (.nil .slice), (.agg [(.int .i64 0), (.int .i64 0), (.int .i64 0), (.agg [(.agg [(.int .i64 0), (.int .i64 0)]), (.int .i64 0), (.int .i64 0), (.int .i64 0), (.str []), (.str []), (.str [])]), (.int .i64 0), (.int .i64 0), (.nil .slice), (.agg [(.int .i64 0), (.arr 3 8 (Vector.replicate 8 (default : Int))), (.arr 2 8 (Vector.replicate 8 (default : Int))), (.arr 3 8 (Vector.replicate 8 (default : Int)))]), (.int .i64 0), (.arr 2 8 (Vector.replicate 8 (default : Int))), (.int .i64 0), (.agg [(.int .i64 0), (.int .i64 0), (.int .i64 0), (.nil .slice)]), (.int .i64 0), (.int .i64 0), (.int .i64 0)]), (.int .i64 0), (.arr 2 8 (Vector.replicate 8 (default : Int))), (.int .i64 0), (.int .i64 0), (.nil .slice), (.agg [(.int .i64 0), (.arr 3 8 (Vector.replicate 8 (default : Int))), (.arr 2 8 (Vector.replicate 8 (default : Int))), (.arr 3 8 (Vector.replicate 8 (default : Int)))]), (.agg [(.int .i64 0), (.int .i64 0), (.int .i64 0), (.nil .slice)])] : TV τ).cells C) ∧ (.agg [(.int .i64 0), (.agg [(.int .i64 0), (.int .i64 0)]), (.agg [(.int .i64 0), (.int .i64 0)]), (.agg [(.int .i64 0), (.int .i64 0)]), (.int .i64 0), (.nil .slice), (.agg [(.int .i64 0), (.int .i64 0), (.int .i64 0), (.agg [(.agg [(.int .i64 0), (.int .i64 0)]), (.int .i64 0), (.int .i64 0), (.int .i64 0), (.str []), (.str []), (.str [])]), (.int .i64 0), (.int .i64 0), (.nil .slice), (.agg [(.int .i64 0), (.arr 3 8 (Vector.replicate 8 (default : Int))), (.arr 2 8 (Vector.replicate 8 (default : Int))), (.arr 3 8 (Vector.replicate 8 (default : Int)))]), (.int .i64 0), (.arr 2 8 (Vector.replicate 8 (default : Int))), (.int .i64 0), (.agg [(.int .i64 0), (.int .i64 0), (.int .i64 0), (.nil .slice)]), (.int .i64 0), (.int .i64 0), (.int .i64 0)]), (.int .i64 0), (.arr 2 8 (Vector.replicate 8 (default : Int))), (.int .i64 0), (.int .i64 0), (.nil .slice), (.agg [(.int .i64 0), (.arr 3 8 (Vector.replicate 8 (default : Int))), (.arr 2 8 (Vector.replicate 8 (default : Int))), (.arr 3 8 (Vector.replicate 8 (default : Int)))]), (.agg [(.int .i64 0), (.int .i64 0), (.int .i64 0), (.nil .slice)])] : TV τ).isAgg = i.agg := ⟨ti71, rfl, rfl, CW.of_eq (by kernel_rfl), rfl⟩
theorem zok73 : ∃ i, E.ty 73 = some i ∧ (.nil .func : TV τ).ok = true ∧ CW i.zero ((.nil .func : TV τ).cells C) ∧ (.nil .func : TV τ).isAgg = i.agg := ⟨ti73, rfl, rfl, CW.of_eq (by kernel_rfl), rfl⟩
theorem zok74 : ∃ i, E.ty 74 = some i ∧ (.nil .func : TV τ).ok = true ∧ CW i.zero ((.nil .func : TV τ).cells C) ∧ (.nil .func : TV τ).isAgg = i.agg := ⟨ti74, rfl, rfl, CW.of_eq (by kernel_rfl), rfl⟩
theorem zok75 : ∃ i, E.ty 75 = some i ∧ (.nil .func : TV τ).ok = true ∧ CW i.zero ((.nil .func : TV τ).cells C) ∧ (.nil .func : TV τ).isAgg = i.agg := ⟨ti75, rfl, rfl, CW.of_eq (by kernel_rfl), rfl⟩
theorem zok77 : ∃ i, E.ty 77 = some i ∧ (.nil .func : TV τ).ok = true ∧ CW i.zero ((.nil .func : TV τ).cells C) ∧ (.nil .func : TV τ).isAgg = i.agg := ⟨ti77, rfl, rfl, CW.of_eq (by kernel_rfl), rfl⟩
theorem zok78 : ∃ i, E.ty 78 = some i ∧ (.nil .func : TV τ).ok = true ∧ CW i.zero ((.nil .func : TV τ).cells C) ∧ (.nil .func : TV τ).isAgg = i.agg := ⟨ti78, rfl, rfl, CW.of_eq (by kernel_rfl), rfl⟩
theorem zok79 : ∃ i, E.ty 79 = some i ∧ (.nil .func : TV τ).ok = true ∧ CW i.zero ((.nil .func : TV τ).cells C) ∧ (.nil .func : TV τ).isAgg = i.agg := ⟨ti79, rfl, rfl, CW.of_eq (by kernel_rfl), rfl⟩
theorem zok81 : ∃ i, E.ty 81 = some i ∧ (.nil .func : TV τ).ok = true ∧ CW i.zero ((.nil .func : TV τ).cells C) ∧ (.nil .func : TV τ).isAgg = i.agg := ⟨ti81, rfl, rfl, CW.of_eq (by kernel_rfl), rfl⟩
theorem zok82 : ∃ i, E.ty 82 = some i ∧ (.nil .func : TV τ).ok = true ∧ CW i.zero ((.nil .func : TV τ).cells C) ∧ (.nil .func : TV τ).isAgg = i.agg := ⟨ti82, rfl, rfl, CW.of_eq (by kernel_rfl), rfl⟩
theorem zok83 : ∃ i, E.ty 83 = some i ∧ (.nil .func : TV τ).ok = true ∧ CW i.zero ((.nil .func : TV τ).cells C) ∧ (.nil .func : TV τ).isAgg = i.agg := ⟨ti83, rfl, rfl, CW.of_eq (by kernel_rfl), rfl⟩
theorem zok84 : ∃ i, E.ty 84 = some i ∧ (.nil .func : TV τ).ok = true ∧ CW i.zero ((.nil .func : TV τ).cells C) ∧ (.nil .func : TV τ).isAgg = i.agg := ⟨ti84, rfl, rfl, CW.of_eq (by kernel_rfl), rfl⟩
theorem zok85 : ∃ i, E.ty 85 = some i ∧ (.nil .func : TV τ).ok = true ∧ CW i.zero ((.nil .func : TV τ).cells C) ∧ (.nil .func : TV τ).isAgg = i.agg := ⟨ti85, rfl, rfl, CW.of_eq (by kernel_rfl), rfl⟩
theorem zok86 : ∃ i, E.ty 86 = some i ∧ (.agg [(.bool false), (.nil .slice)] : TV τ).ok = true ∧ CW i.zero ((.agg [(.bool false), (.nil .slice)] : TV τ).cells C) ∧ (.agg [(.bool false), (.nil .slice)] : TV τ).isAgg = i.agg := ⟨ti86, rfl, rfl, CW.of_eq (by kernel_rfl), rfl⟩
theorem zok87 : ∃ i, E.ty 87 = some i ∧ (.agg [(.bool false), (.nil .slice)] : TV τ).ok = true ∧ CW i.zero ((.agg [(.bool false), (.nil .slice)] : TV τ).cells C) ∧ (.agg [(.bool false), (.nil .slice)] : TV τ).isAgg = i.agg := ⟨ti87, rfl, rfl, CW.of_eq (by kernel_rfl), rfl⟩
theorem zok88 : ∃ i, E.ty 88 = some i ∧ (.nil .func : TV τ).ok = true ∧ CW i.zero ((.nil .func : TV τ).cells C) ∧ (.nil .func : TV τ).isAgg = i.agg := ⟨ti88, rfl, rfl, CW.of_eq (by kernel_rfl), rfl⟩
theorem zok89 : ∃ i, E.ty 89 = some i ∧ (.nil .func : TV τ).ok = true ∧ CW i.zero ((.nil .func : TV τ).cells C) ∧ (.nil .func : TV τ).isAgg = i.agg := ⟨ti89, rfl, rfl, CW.of_eq (by kernel_rfl), rfl⟩
theorem zok90 : ∃ i, E.ty 90 = some i ∧ (.nil .ptr : TV τ).ok = true ∧ CW i.zero ((.nil .ptr : TV τ).cells C) ∧ (.nil .ptr : TV τ).isAgg = i.agg := ⟨ti90, rfl, rfl, CW.of_eq (by kernel_rfl), rfl⟩
theorem zok91 : ∃ i, E.ty 91 = some i ∧ (.nil .func : TV τ).ok = true ∧ CW i.zero ((.nil .func : TV τ).cells C) ∧ (.nil .func : TV τ).isAgg = i.agg := ⟨ti91, rfl, rfl, CW.of_eq (by kernel_rfl), rfl⟩
theorem zok92 : ∃ i, E.ty 92 = some i ∧ (.nil .func : TV τ).ok = true ∧ CW i.zero ((.nil .func : TV τ).cells C) ∧ (.nil .func : TV τ).isAgg = i.agg := ⟨ti92, rfl, rfl, CW.of_eq (by kernel_rfl), rfl⟩
theorem zok93 : ∃ i, E.ty 93 = some i ∧ (.nil .func : TV τ).ok = true ∧ CW i.zero ((.nil .func : TV τ).cells C) ∧ (.nil .func : TV τ).isAgg = i.agg := ⟨ti93, rfl, rfl, CW.of_eq (by kernel_rfl), rfl⟩
theorem zok94 : ∃ i, E.ty 94 = some i ∧ (.nil .func : TV τ).ok = true ∧ CW i.zero ((.nil .func : TV τ).cells C) ∧ (.nil .func : TV τ).isAgg = i.agg := ⟨ti94, rfl, rfl, CW.of_eq (by kernel_rfl), rfl⟩
theorem zok95 : ∃ i, E.ty 95 = some i ∧ (.nil .func : TV τ).ok = true ∧ CW i.zero ((.nil .func : TV τ).cells C) ∧ (.nil .func : TV τ).isAgg = i.agg := ⟨ti95, rfl, rfl, CW.of_eq (by kernel_rfl), rfl⟩
theorem zok96 : ∃ i, E.ty 96 = some i ∧ (.nil .func : TV τ).ok = true ∧ CW i.zero ((.nil .func : TV τ).cells C) ∧ (.nil .func : TV τ).isAgg = i.agg := ⟨ti96, rfl, rfl, CW.of_eq (by kernel_rfl), rfl⟩
theorem zok97 : ∃ i, E.ty 97 = some i ∧ (.nil .func : TV τ).ok = true ∧ CW i.zero ((.nil .func : TV τ).cells C) ∧ (.nil .func : TV τ).isAgg = i.agg := ⟨ti97, rfl, rfl, CW.of_eq (by kernel_rfl), rfl⟩
theorem zok98 : ∃ i, E.ty 98 = some i ∧ (.nil .func : TV τ).ok = true ∧ CW i.zero ((.nil .func : TV τ).cells C) ∧ (.nil .func : TV τ).isAgg = i.agg := ⟨ti98, rfl, rfl, CW.of_eq (by kernel_rfl), rfl⟩
theorem zok99 : ∃ i, E.ty 99 = some i ∧ (.agg [(.bool false), (.nil .slice)] : TV τ).ok = true ∧ CW i.zero ((.agg [(.bool false), (.nil .slice)] : TV τ).cells C) ∧ (.agg [(.bool false), (.nil .slice)] : TV τ).isAgg = i.agg := ⟨ti99, rfl, rfl, CW.of_eq (by kernel_rfl), rfl⟩
theorem zok100 : ∃ i, E.ty 100 = some i ∧ (.nil .func : TV τ).ok = true ∧ CW i.zero ((.nil .func : TV τ).cells C) ∧ (.nil .func : TV τ).isAgg = i.agg := ⟨ti100, rfl, rfl, CW.of_eq (by kernel_rfl), rfl⟩
theorem zok101 : ∃ i, E.ty 101 = some i ∧ (.nil .ptr : TV τ).ok = true ∧ CW i.zero ((.nil .ptr : TV τ).cells C) ∧ (.nil .ptr : TV τ).isAgg = i.agg := ⟨ti101, rfl, rfl, CW.of_eq (by kernel_rfl), rfl⟩
theorem zok102 : ∃ i, E.ty 102 = some i ∧ (.nil .func : TV τ).ok = true ∧ CW i.zero ((.nil .func : TV τ).cells C) ∧ (.nil .func : TV τ).isAgg = i.agg := ⟨ti102, rfl, rfl, CW.of_eq (by kernel_rfl), rfl⟩
theorem zok103 : ∃ i, E.ty 103 = some i ∧ (.nil .func : TV τ).ok = true ∧ CW i.zero ((.nil .func : TV τ).cells C) ∧ (.nil .func : TV τ).isAgg = i.agg := ⟨ti103, rfl, rfl, CW.of_eq (by kernel_rfl), rfl⟩
theorem zok104 : ∃ i, E.ty 104 = some i ∧ (.nil .func : TV τ).ok = true ∧ CW i.zero ((.nil .func : TV τ).cells C) ∧ (.nil .func : TV τ).isAgg = i.agg := ⟨ti104, rfl, rfl, CW.of_eq (by kernel_rfl), rfl⟩
theorem zok105 : ∃ i, E.ty 105 = some i ∧ (.nil .func : TV τ).ok = true ∧ CW i.zero ((.nil .func : TV τ).cells C) ∧ (.nil .func : TV τ).isAgg = i.agg := ⟨ti105, rfl, rfl, CW.of_eq (by kernel_rfl), rfl⟩
theorem zok106 : ∃ i, E.ty 106 = some i ∧ (.nil .func : TV τ).ok = true ∧ CW i.zero ((.nil .func : TV τ).cells C) ∧ (.nil .func : TV τ).isAgg = i.agg := ⟨ti106, rfl, rfl, CW.of_eq (by kernel_rfl), rfl⟩
theorem zok107 : ∃ i, E.ty 107 = some i ∧ (.nil .func : TV τ).ok = true ∧ CW i.zero ((.nil .func : TV τ).cells C) ∧ (.nil .func : TV τ).isAgg = i.agg := ⟨ti107, rfl, rfl, CW.of_eq (by kernel_rfl), rfl⟩
theorem zok108 : ∃ i, E.ty 108 = some i ∧ (.nil .func : TV τ).ok = true ∧ CW i.zero ((.nil .func : TV τ).cells C) ∧ (.nil .func : TV τ).isAgg = i.agg := ⟨ti108, rfl, rfl, CW.of_eq (by kernel_rfl), rfl⟩
theorem zok109 : ∃ i, E.ty 109 = some i ∧ (.nil .func : TV τ).ok = true ∧ CW i.zero ((.nil .func : TV τ).cells C) ∧ (.nil .func : TV τ).isAgg = i.agg := ⟨ti109, rfl, rfl, CW.of_eq (by kernel_rfl), rfl⟩
theorem zok110 : ∃ i, E.ty 110 = some i ∧ (.agg [(.nil .ptr), (.int .i64 0)] : TV τ).ok = true ∧ CW i.zero ((.agg [(.nil .ptr), (.int .i64 0)] : TV τ).cells C) ∧ (.agg [(.nil .ptr), (.int .i64 0)] : TV τ).isAgg = i.agg := ⟨ti110, rfl, rfl, CW.of_eq (by kernel_rfl), rfl⟩
theorem zok111 : ∃ i, E.ty 111 = some i ∧ (.agg [(.nil .ptr), (.int .i64 0)] : TV τ).ok = true ∧ CW i.zero ((.agg [(.nil .ptr), (.int .i64 0)] : TV τ).cells C) ∧ (.agg [(.nil .ptr), (.int .i64 0)] : TV τ).isAgg = i.agg := ⟨ti111, rfl, rfl, CW.of_eq (by kernel_rfl), rfl⟩
theorem zok112 : ∃ i, E.ty 112 = some i ∧ (.nil .func : TV τ).ok = true ∧ CW i.zero ((.nil .func : TV τ).cells C) ∧ (.nil .func : TV τ).isAgg = i.agg := ⟨ti112, rfl, rfl, CW.of_eq (by kernel_rfl), rfl⟩
theorem zok113 : ∃ i, E.ty 113 = some i ∧ (.nil .func : TV τ).ok = true ∧ CW i.zero ((.nil .func : TV τ).cells C) ∧ (.nil .func : TV τ).isAgg = i.agg := ⟨ti113, rfl, rfl, CW.of_eq (by kernel_rfl), rfl⟩
theorem zok114 : ∃ i, E.ty 114 = some i ∧ (.nil .func : TV τ).ok = true ∧ CW i.zero ((.nil .func : TV τ).cells C) ∧ (.nil .func : TV τ).isAgg = i.agg := ⟨ti114, rfl, rfl, CW.of_eq (by kernel_rfl), rfl⟩
theorem zok115 : ∃ i, E.ty 115 = some i ∧ (.nil .func : TV τ).ok = true ∧ CW i.zero ((.nil .func : TV τ).cells C) ∧ (.nil .func : TV τ).isAgg = i.agg := ⟨ti115, rfl, rfl, CW.of_eq (by kernel_rfl), rfl⟩
theorem zok116 : ∃ i, E.ty 116 = some i ∧ (.nil .func : TV τ).ok = true ∧ CW i.zero ((.nil .func : TV τ).cells C) ∧ (.nil .func : TV τ).isAgg = i.agg := ⟨ti116, rfl, rfl, CW.of_eq (by kernel_rfl), rfl⟩
theorem zok117 : ∃ i, E.ty 117 = some i ∧ (.nil .func : TV τ).ok = true ∧ CW i.zero ((.nil .func : TV τ).cells C) ∧ (.nil .func : TV τ).isAgg = i.agg := ⟨ti117, rfl, rfl, CW.of_eq (by kernel_rfl), rfl⟩
theorem zok118 : ∃ i, E.ty 118 = some i ∧ (.agg [(.nil .ptr), (.int .i64 0)] : TV τ).ok = true ∧ CW i.zero ((.agg [(.nil .ptr), (.int .i64 0)] : TV τ).cells C) ∧ (.agg [(.nil .ptr), (.int .i64 0)] : TV τ).isAgg = i.agg := ⟨ti118, rfl, rfl, CW.of_eq (by kernel_rfl), rfl⟩
theorem zok119 : ∃ i, E.ty 119 = some i ∧ (.agg [(.nil .ptr), (.int .i64 0)] : TV τ).ok = true ∧ CW i.zero ((.agg [(.nil .ptr), (.int .i64 0)] : TV τ).cells C) ∧ (.agg [(.nil .ptr), (.int .i64 0)] : TV τ).isAgg = i.agg := ⟨ti119, rfl, rfl, CW.of_eq (by kernel_rfl), rfl⟩
theorem zok120 : ∃ i, E.ty 120 = some i ∧ (.nil .func : TV τ).ok = true ∧ CW i.zero ((.nil .func : TV τ).cells C) ∧ (.nil .func : TV τ).isAgg = i.agg := ⟨ti120, rfl, rfl, CW.of_eq (by kernel_rfl), rfl⟩
theorem zok121 : ∃ i, E.ty 121 = some i ∧ (.nil .func : TV τ).ok = true ∧ CW i.zero ((.nil .func : TV τ).cells C) ∧ (.nil .func : TV τ).isAgg = i.agg := ⟨ti121, rfl, rfl, CW.of_eq (by kernel_rfl), rfl⟩
theorem zok122 : ∃ i, E.ty 122 = some i ∧ (.nil .func : TV τ).ok = true ∧ CW i.zero ((.nil .func : TV τ).cells C) ∧ (.nil .func : TV τ).isAgg = i.agg := ⟨ti122, rfl, rfl, CW.of_eq (by kernel_rfl), rfl⟩
theorem zok123 : ∃ i, E.ty 123 = some i ∧ (.nil .func : TV τ).ok = true ∧ CW i.zero ((.nil .func : TV τ).cells C) ∧ (.nil .func : TV τ).isAgg = i.agg := ⟨ti123, rfl, rfl, CW.of_eq (by kernel_rfl), rfl⟩
theorem zok124 : ∃ i, E.ty 124 = some i ∧ (.nil .func : TV τ).ok = true ∧ CW i.zero ((.nil .func : TV τ).cells C) ∧ (.nil .func : TV τ).isAgg = i.agg := ⟨ti124, rfl, rfl, CW.of_eq (by kernel_rfl), rfl⟩
theorem zok126 : ∃ i, E.ty 126 = some i ∧ (.nil .func : TV τ).ok = true ∧ CW i.zero ((.nil .func : TV τ).cells C) ∧ (.nil .func : TV τ).isAgg = i.agg := ⟨ti126, rfl, rfl, CW.of_eq (by kernel_rfl), rfl⟩
theorem zok127 : ∃ i, E.ty 127 = some i ∧ (.nil .func : TV τ).ok = true ∧ CW i.zero ((.nil .func : TV τ).cells C) ∧ (.nil .func : TV τ).isAgg = i.agg := ⟨ti127, rfl, rfl, CW.of_eq (by kernel_rfl), rfl⟩
theorem zok128 : ∃ i, E.ty 128 = some i ∧ (.nil .func : TV τ).ok = true ∧ CW i.zero ((.nil .func : TV τ).cells C) ∧ (.nil .func : TV τ).isAgg = i.agg := ⟨ti128, rfl, rfl, CW.of_eq (by kernel_rfl), rfl⟩
theorem zok129 : ∃ i, E.ty 129 = some i ∧ (.nil .func : TV τ).ok = true ∧ CW i.zero ((.nil .func : TV τ).cells C) ∧ (.nil .func : TV τ).isAgg = i.agg := ⟨ti129, rfl, rfl, CW.of_eq (by kernel_rfl), rfl⟩
theorem zok131 : ∃ i, E.ty 131 = some i ∧ (.nil .func : TV τ).ok = true ∧ CW i.zero ((.nil .func : TV τ).cells C) ∧ (.nil .func : TV τ).isAgg = i.agg := ⟨ti131, rfl, rfl, CW.of_eq (by kernel_rfl), rfl⟩
theorem zok132 : ∃ i, E.ty 132 = some i ∧ (.nil .func : TV τ).ok = true ∧ CW i.zero ((.nil .func : TV τ).cells C) ∧ (.nil .func : TV τ).isAgg = i.agg := ⟨ti132, rfl, rfl, CW.of_eq (by kernel_rfl), rfl⟩
theorem zok133 : ∃ i, E.ty 133 = some i ∧ (.nil .func : TV τ).ok = true ∧ CW i.zero ((.nil .func : TV τ).cells C) ∧ (.nil .func : TV τ).isAgg = i.agg := ⟨ti133, rfl, rfl, CW.of_eq (by kernel_rfl), rfl⟩
theorem zok135 : ∃ i, E.ty 135 = some i ∧ (.nil .func : TV τ).ok = true ∧ CW i.zero ((.nil .func : TV τ).cells C) ∧ (.nil .func : TV τ).isAgg = i.agg := ⟨ti135, rfl, rfl, CW.of_eq (by kernel_rfl), rfl⟩
theorem zok136 : ∃ i, E.ty 136 = some i ∧ (.nil .func : TV τ).ok = true ∧ CW i.zero ((.nil .func : TV τ).cells C) ∧ (.nil .func : TV τ).isAgg = i.agg := ⟨ti136, rfl, rfl, CW.of_eq (by kernel_rfl), rfl⟩
theorem zok137 : ∃ i, E.ty 137 = some i ∧ (.nil .func : TV τ).ok = true ∧ CW i.zero ((.nil .func : TV τ).cells C) ∧ (.nil .func : TV τ).isAgg = i.agg := ⟨ti137, rfl, rfl, CW.of_eq (by kernel_rfl), rfl⟩
theorem zok138 : ∃ i, E.ty 138 = some i ∧ (.nil .func : TV τ).ok = true ∧ CW i.zero ((.nil .func : TV τ).cells C) ∧ (.nil .func : TV τ).isAgg = i.agg := ⟨ti138, rfl, rfl, CW.of_eq (by kernel_rfl), rfl⟩
theorem zok139 : ∃ i, E.ty 139 = some i ∧ (.nil .func : TV τ).ok = true ∧ CW i.zero ((.nil .func : TV τ).cells C) ∧ (.nil .func : TV τ).isAgg = i.agg := ⟨ti139, rfl, rfl, CW.of_eq (by kernel_rfl), rfl⟩
theorem zok140 : ∃ i, E.ty 140 = some i ∧ (.nil .func : TV τ).ok = true ∧ CW i.zero ((.nil .func : TV τ).cells C) ∧ (.nil .func : TV τ).isAgg = i.agg := ⟨ti140, rfl, rfl, CW.of_eq (by kernel_rfl), rfl⟩
theorem zok141 : ∃ i, E.ty 141 = some i ∧ (.nil .func : TV τ).ok = true ∧ CW i.zero ((.nil .func : TV τ).cells C) ∧ (.nil .func : TV τ).isAgg = i.agg := ⟨ti141, rfl, rfl, CW.of_eq (by kernel_rfl), rfl⟩
theorem zok142 : ∃ i, E.ty 142 = some i ∧ (.nil .func : TV τ).ok = true ∧ CW i.zero ((.nil .func : TV τ).cells C) ∧ (.nil .func : TV τ).isAgg = i.agg := ⟨ti142, rfl, rfl, CW.of_eq (by kernel_rfl), rfl⟩
theorem zok143 : ∃ i, E.ty 143 = some i ∧ (.nil .slice : TV τ).ok = true ∧ CW i.zero ((.nil .slice : TV τ).cells C) ∧ (.nil .slice : TV τ).isAgg = i.agg := ⟨ti143, rfl, rfl, CW.of_eq (by kernel_rfl), rfl⟩
theorem zok144 : ∃ i, E.ty 144 = some i ∧ (.nil .func : TV τ).ok = true ∧ CW i.zero ((.nil .func : TV τ).cells C) ∧ (.nil .func : TV τ).isAgg = i.agg := ⟨ti144, rfl, rfl, CW.of_eq (by kernel_rfl), rfl⟩
theorem zok145 : ∃ i, E.ty 145 = some i ∧ (.nil .slice : TV τ).ok = true ∧ CW i.zero ((.nil .slice : TV τ).cells C) ∧ (.nil .slice : TV τ).isAgg = i.agg := ⟨ti145, rfl, rfl, CW.of_eq (by kernel_rfl), rfl⟩
theorem zok146 : ∃ i, E.ty 146 = some i ∧ (.nil .func : TV τ).ok = true ∧ CW i.zero ((.nil .func : TV τ).cells C) ∧ (.nil .func : TV τ).isAgg = i.agg := ⟨ti146, rfl, rfl, CW.of_eq (by kernel_rfl), rfl⟩
theorem zok147 : ∃ i, E.ty 147 = some i ∧ (.nil .ptr : TV τ).ok = true ∧ CW i.zero ((.nil .ptr : TV τ).cells C) ∧ (.nil .ptr : TV τ).isAgg = i.agg := ⟨ti147, rfl, rfl, CW.of_eq (by kernel_rfl), rfl⟩
theorem zok148 : ∃ i, E.ty 148 = some i ∧ (.nil .func : TV τ).ok = true ∧ CW i.zero ((.nil .func : TV τ).cells C) ∧ (.nil .func : TV τ).isAgg = i.agg := ⟨ti148, rfl, rfl, CW.of_eq (by kernel_rfl), rfl⟩
theorem zok149 : ∃ i, E.ty 149 = some i ∧ (.nil .ptr : TV τ).ok = true ∧ CW i.zero ((.nil .ptr : TV τ).cells C) ∧ (.nil .ptr : TV τ).isAgg = i.agg := ⟨ti149, rfl, rfl, CW.of_eq (by kernel_rfl), rfl⟩
theorem zok151 : ∃ i, E.ty 151 = some i ∧ (.nil .func : TV τ).ok = true ∧ CW i.zero ((.nil .func : TV τ).cells C) ∧ (.nil .func : TV τ).isAgg = i.agg := ⟨ti151, rfl, rfl, CW.of_eq (by kernel_rfl), rfl⟩
theorem zok152 : ∃ i, E.ty 152 = some i ∧ (.nil .func : TV τ).ok = true ∧ CW i.zero ((.nil .func : TV τ).cells C) ∧ (.nil .func : TV τ).isAgg = i.agg := ⟨ti152, rfl, rfl, CW.of_eq (by kernel_rfl), rfl⟩
theorem zok153 : ∃ i, E.ty 153 = some i ∧ (.nil .ptr : TV τ).ok = true ∧ CW i.zero ((.nil .ptr : TV τ).cells C) ∧ (.nil .ptr : TV τ).isAgg = i.agg := ⟨ti153, rfl, rfl, CW.of_eq (by kernel_rfl), rfl⟩
theorem zok154 : ∃ i, E.ty 154 = some i ∧ (.nil .func : TV τ).ok = true ∧ CW i.zero ((.nil .func : TV τ).cells C) ∧ (.nil .func : TV τ).isAgg = i.agg := ⟨ti154, rfl, rfl, CW.of_eq (by kernel_rfl), rfl⟩
theorem zok155 : ∃ i, E.ty 155 = some i ∧ (.nil .func : TV τ).ok = true ∧ CW i.zero ((.nil .func : TV τ).cells C) ∧ (.nil .func : TV τ).isAgg = i.agg := ⟨ti155, rfl, rfl, CW.of_eq (by kernel_rfl), rfl⟩
theorem zok156 : ∃ i, E.ty 156 = some i ∧ (.nil .func : TV τ).ok = true ∧ CW i.zero ((.nil .func : TV τ).cells C) ∧ (.nil .func : TV τ).isAgg = i.agg := ⟨ti156, rfl, rfl, CW.of_eq (by kernel_rfl), rfl⟩
theorem zok157 : ∃ i, E.ty 157 = some i ∧ (.nil .func : TV τ).ok = true ∧ CW i.zero ((.nil .func : TV τ).cells C) ∧ (.nil .func : TV τ).isAgg = i.agg := ⟨ti157, rfl, rfl, CW.of_eq (by kernel_rfl), rfl⟩
theorem zok158 : ∃ i, E.ty 158 = some i ∧ (.nil .func : TV τ).ok = true ∧ CW i.zero ((.nil .func : TV τ).cells C) ∧ (.nil .func : TV τ).isAgg = i.agg := ⟨ti158, rfl, rfl, CW.of_eq (by kernel_rfl), rfl⟩
theorem zok159 : ∃ i, E.ty 159 = some i ∧ (.nil .func : TV τ).ok = true ∧ CW i.zero ((.nil .func : TV τ).cells C) ∧ (.nil .func : TV τ).isAgg = i.agg := ⟨ti159, rfl, rfl, CW.of_eq (by kernel_rfl), rfl⟩
theorem zok160 : ∃ i, E.ty 160 = some i ∧ (.nil .func : TV τ).ok = true ∧ CW i.zero ((.nil .func : TV τ).cells C) ∧ (.nil .func : TV τ).isAgg = i.agg := ⟨ti160, rfl, rfl, CW.of_eq (by kernel_rfl), rfl⟩
theorem zok161 : ∃ i, E.ty 161 = some i ∧ (.nil .func : TV τ).ok = true ∧ CW i.zero ((.nil .func : TV τ).cells C) ∧ (.nil .func : TV τ).isAgg = i.agg := ⟨ti161, rfl, rfl, CW.of_eq (by kernel_rfl), rfl⟩
theorem zok162 : ∃ i, E.ty 162 = some i ∧ (.nil .func : TV τ).ok = true ∧ CW i.zero ((.nil .func : TV τ).cells C) ∧ (.nil .func : TV τ).isAgg = i.agg := ⟨ti162, rfl, rfl, CW.of_eq (by kernel_rfl), rfl⟩
theorem zok163 : ∃ i, E.ty 163 = some i ∧ (.nil .func : TV τ).ok = true ∧ CW i.zero ((.nil .func : TV τ).cells C) ∧ (.nil .func : TV τ).isAgg = i.agg := ⟨ti163, rfl, rfl, CW.of_eq (by kernel_rfl), rfl⟩
theorem zok164 : ∃ i, E.ty 164 = some i ∧ (.nil .func : TV τ).ok = true ∧ CW i.zero ((.nil .func : TV τ).cells C) ∧ (.nil .func : TV τ).isAgg = i.agg := ⟨ti164, rfl, rfl, CW.of_eq (by kernel_rfl), rfl⟩
theorem zok165 : ∃ i, E.ty 165 = some i ∧ (.nil .func : TV τ).ok = true ∧ CW i.zero ((.nil .func : TV τ).cells C) ∧ (.nil .func : TV τ).isAgg = i.agg := ⟨ti165, rfl, rfl, CW.of_eq (by kernel_rfl), rfl⟩
theorem zok166 : ∃ i, E.ty 166 = some i ∧ (.nil .func : TV τ).ok = true ∧ CW i.zero ((.nil .func : TV τ).cells C) ∧ (.nil .func : TV τ).isAgg = i.agg := ⟨ti166, rfl, rfl, CW.of_eq (by kernel_rfl), rfl⟩
theorem zok167 : ∃ i, E.ty 167 = some i ∧ (.int .u32 0 : TV τ).ok = true ∧ CW i.zero ((.int .u32 0 : TV τ).cells C) ∧ (.int .u32 0 : TV τ).isAgg = i.agg := ⟨ti167, rfl, rfl, CW.of_eq (by kernel_rfl), rfl⟩
theorem zok168 : ∃ i, E.ty 168 = some i ∧ (.nil .func : TV τ).ok = true ∧ CW i.zero ((.nil .func : TV τ).cells C) ∧ (.nil .func : TV τ).isAgg = i.agg := ⟨ti168, rfl, rfl, CW.of_eq (by kernel_rfl), rfl⟩
theorem zok169 : ∃ i, E.ty 169 = some i ∧ (.nil .func : TV τ).ok = true ∧ CW i.zero ((.nil .func : TV τ).cells C) ∧ (.nil .func : TV τ).isAgg = i.agg := ⟨ti169, rfl, rfl, CW.of_eq (by kernel_rfl), rfl⟩
theorem zok170 : ∃ i, E.ty 170 = some i ∧ (.nil .func : TV τ).ok = true ∧ CW i.zero ((.nil .func : TV τ).cells C) ∧ (.nil .func : TV τ).isAgg = i.agg := ⟨ti170, rfl, rfl, CW.of_eq (by kernel_rfl), rfl⟩
theorem zok171 : ∃ i, E.ty 171 = some i ∧ (.int .u64 0 : TV τ).ok = true ∧ CW i.zero ((.int .u64 0 : TV τ).cells C) ∧ (.int .u64 0 : TV τ).isAgg = i.agg := ⟨ti171, rfl, rfl, CW.of_eq (by kernel_rfl), rfl⟩
theorem zok172 : ∃ i, E.ty 172 = some i ∧ (.nil .func : TV τ).ok = true ∧ CW i.zero ((.nil .func : TV τ).cells C) ∧ (.nil .func : TV τ).isAgg = i.agg := ⟨ti172, rfl, rfl, CW.of_eq (by kernel_rfl), rfl⟩
theorem zok173 : ∃ i, E.ty 173 = some i ∧ (.nil .func : TV τ).ok = true ∧ CW i.zero ((.nil .func : TV τ).cells C) ∧ (.nil .func : TV τ).isAgg = i.agg := ⟨ti173, rfl, rfl, CW.of_eq (by kernel_rfl), rfl⟩
theorem zok174 : ∃ i, E.ty 174 = some i ∧ (.nil .func : TV τ).ok = true ∧ CW i.zero ((.nil .func : TV τ).cells C) ∧ (.nil .func : TV τ).isAgg = i.agg := ⟨ti174, rfl, rfl, CW.of_eq (by kernel_rfl), rfl⟩
theorem zok175 : ∃ i, E.ty 175 = some i ∧ (.nil .ptr : TV τ).ok = true ∧ CW i.zero ((.nil .ptr : TV τ).cells C) ∧ (.nil .ptr : TV τ).isAgg = i.agg := ⟨ti175, rfl, rfl, CW.of_eq (by kernel_rfl), rfl⟩
theorem zok176 : ∃ i, E.ty 176 = some i ∧ (.nil .func : TV τ).ok = true ∧ CW i.zero ((.nil .func : TV τ).cells C) ∧ (.nil .func : TV τ).isAgg = i.agg := ⟨ti176, rfl, rfl, CW.of_eq (by kernel_rfl), rfl⟩
theorem zok177 : ∃ i, E.ty 177 = some i ∧ (.agg [(.int .i64 0), (.agg [(.int .i64 0), (.int .i64 0)]), (.agg [(.int .i64 0), (.int .i64 0), (.int .i64 0), (.agg [(.agg [(.int .i64 0), (.int .i64 0)]), (.int .i64 0), (.int .i64 0), (.int .i64 0), (.str []), (.str []), (.str [])]), (.int .i64 0), (.int .i64 0), (.nil .slice), (.agg [(.int .i64 0), (.arr 3 8 (Vector.replicate 8 (default : Int))), (.arr 2 8 (Vector.replicate 8 (default : Int))), (.arr 3 8 (Vector.replicate 8 (default : Int)))]), (.int .i64 0), (.arr 2 8 (Vector.replicate 8 (default : Int))), (.int .i64 0), (.agg [(.int .i64 0), (.int .i64 0), (.int .i64 0), (.nil .slice)]), (.int .i64 0), (.int .i64 0), (.int .i64 0)])] : TV τ).ok = true ∧ CW i.zero ((.agg [(.int .i64 0), (.agg [(.int .i64 0), (.int .i64 0)]), (.agg [(.int .i64 0), (.int .i64 0), (.int .i64 0), (.agg [(.agg [(.int .i64 0), (.int .i64 0)]), (.int .i64 0), (.int .i64 0), (.int .i64 0), (.str []), (.str []), (.str [])]), (.int .i64 0), (.int .i64 0), (.nil .slice), (.agg [(.int .i64 0), (.arr 3 8 (Vector.replicate 8 (default : Int))), (.arr 2 8 (Vector.replicate 8 (default : Int))), (.arr 3 8 (Vector.replicate 8 (default : Int)))]), (.int .i64 0), (.arr 2 8 (Vector.replicate 8 (default : Int))), (.int .i64 0), (.agg [(.int .i64 0), (.int .i64 0), (.int .i64 0), (.nil .slice)]), (.int .i64 0), (.int .i64 0), (.int .i64 0)])] : TV τ).cells C) ∧ (.agg [(.int .i64 0), (.agg [(.int .i64 0), (.int .i64 0)]), (.agg [(.int .i64 0), (.int .i64 0), (.int .i64 0), (.agg [(.agg [(.int .i64 0), (.int .i64 0)]), (.int .i64 0), (.int .i64 0), (.int .i64 0), (.str []), (.str []), (.str [])]), (.int .i64 0), (.int .i64 0), (.nil .slice), (.agg [(.int .i64 0), (.arr 3 8 (Vector.replicate 8 (default : Int))), (.arr 2 8 (Vector.replicate 8 (default : Int))), (.arr 3 8 (Vector.replicate 8 (default : Int)))]), (.int .i64 0), (.arr 2 8 (Vector.replicate 8 (default : Int))), (.int .i64 0), (.agg [(.int .i64 0), (.int .i64 0), (.int .i64 0), (.nil .slice)]), (.int .i64 0), (.int .i64 0), (.int .i64 0)])] : TV τ).isAgg = i.agg := ⟨ti177, rfl, rfl, CW.of_eq (by kernel_rfl), rfl⟩
theorem zok178 : ∃ i, E.ty 178 = some i ∧ (.agg [(.int .i64 0), (.agg [(.int .i64 0), (.int .i64 0)]), (.agg [(.int .i64 0), (.int .i64 0), (.int .i64 0), (.agg [(.agg [(.int .i64 0), (.int .i64 0)]), (.int .i64 0), (.int .i64 0), (.int .i64 0), (.str []), (.str []), (.str [])]), (.int .i64 0), (.int .i64 0), (.nil .slice), (.agg [(.int .i64 0), (.arr 3 8 (Vector.replicate 8 (default : Int))), (.arr 2 8 (Vector.replicate 8 (default : Int))), (.arr 3 8 (Vector.replicate 8 (default : Int)))]), (.int .i64 0), (.arr 2 8 (Vector.replicate 8 (default : Int))), (.int .i64 0), (.agg [(.int .i64 0), (.int .i64 0), (.int .i64 0), (.nil .slice)]), (.int .i64 0), (.int .i64 0), (.int .i64 0)])] : TV τ).ok = true ∧ CW i.zero ((.agg [(.int .i64 0), (.agg [(.int .i64 0), (.int .i64 0)]), (.agg [(.int .i64 0), (.int .i64 0), (.int .i64 0), (.agg [(.agg [(.int .i64 0), (.int .i64 0)]), (.int .i64 0), (.int .i64 0), (.int .i64 0), (.str []), (.str []), (.str [])]), (.int .i64 0), (.int .i64 0), (.nil .slice), (.agg [(.int .i64 0), (.arr 3 8 (Vector.replicate 8 (default : Int))), (.arr 2 8 (Vector.replicate 8 (default : Int))), (.arr 3 8 (Vector.replicate 8 (default : Int)))]), (.int .i64 0), (.arr 2 8 (Vector.replicate 8 (default : Int))), (.int .i64 0), (.agg [(.int .i64 0), (.int .i64 0), (.int .i64 0), (.nil .slice)]), (.int .i64 0), (.int .i64 0), (.int .i64 0)])] : TV τ).cells C) ∧ (.agg [(.int .i64 0), (.agg [(.int .i64 0), (.int .i64 0)]), (.agg [(.int .i64 0), (.int .i64 0), (.int .i64 0), (.agg [(.agg [(.int .i64 0), (.int .i64 0)]), (.int .i64 0), (.int .i64 0), (.int .i64 0), (.str []), (.str []), (.str [])]), (.int .i64 0), (.int .i64 0), (.nil .slice), (.agg [(.int .i64 0), (.arr 3 8 (Vector.replicate 8 (default : Int))), (.arr 2 8 (Vector.replicate 8 (default : Int))), (.arr 3 8 (Vector.replicate 8 (default : Int)))]), (.int .i64 0), (.arr 2 8 (Vector.replicate 8 (default : Int))), (.int .i64 0), (.agg [(.int .i64 0), (.int .i64 0), (.int .i64 0), (.nil .slice)]), (.int .i64 0), (.int .i64 0), (.int .i64 0)])] : TV τ).isAgg = i.agg := ⟨ti178, rfl, rfl, CW.of_eq (by kernel_rfl), rfl⟩
theorem zok179 : ∃ i, E.ty 179 = some i ∧ (.nil .func : TV τ).ok = true ∧ CW i.zero ((.nil .func : TV τ).cells C) ∧ (.nil .func : TV τ).isAgg = i.agg := ⟨ti179, rfl, rfl, CW.of_eq (by kernel_rfl), rfl⟩
theorem zok180 : ∃ i, E.ty 180 = some i ∧ (.nil .func : TV τ).ok = true ∧ CW i.zero ((.nil .func : TV τ).cells C) ∧ (.nil .func : TV τ).isAgg = i.agg := ⟨ti180, rfl, rfl, CW.of_eq (by kernel_rfl), rfl⟩
theorem zok181 : ∃ i, E.ty 181 = some i ∧ (.nil .slice : TV τ).ok = true ∧ CW i.zero ((.nil .slice : TV τ).cells C) ∧ (.nil .slice : TV τ).isAgg = i.agg := ⟨ti181, rfl, rfl, CW.of_eq (by kernel_rfl), rfl⟩
theorem zok182 : ∃ i, E.ty 182 = some i ∧ (.nil .func : TV τ).ok = true ∧ CW i.zero ((.nil .func : TV τ).cells C) ∧ (.nil .func : TV τ).isAgg = i.agg := ⟨ti182, rfl, rfl, CW.of_eq (by kernel_rfl), rfl⟩
theorem zok183 : ∃ i, E.ty 183 = some i ∧ (.int .u64 0 : TV τ).ok = true ∧ CW i.zero ((.int .u64 0 : TV τ).cells C) ∧ (.int .u64 0 : TV τ).isAgg = i.agg := ⟨ti183, rfl, rfl, CW.of_eq (by kernel_rfl), rfl⟩
theorem zok184 : ∃ i, E.ty 184 = some i ∧ (.nil .slice : TV τ).ok = true ∧ CW i.zero ((.nil .slice : TV τ).cells C) ∧ (.nil .slice : TV τ).isAgg = i.agg := ⟨ti184, rfl, rfl, CW.of_eq (by kernel_rfl), rfl⟩
theorem zok185 : ∃ i, E.ty 185 = some i ∧ (.nil .slice : TV τ).ok = true ∧ CW i.zero ((.nil .slice : TV τ).cells C) ∧ (.nil .slice : TV τ).isAgg = i.agg := ⟨ti185, rfl, rfl, CW.of_eq (by kernel_rfl), rfl⟩
theorem zok187 : ∃ i, E.ty 187 = some i ∧ (.nil .func : TV τ).ok = true ∧ CW i.zero ((.nil .func : TV τ).cells C) ∧ (.nil .func : TV τ).isAgg = i.agg := ⟨ti187, rfl, rfl, CW.of_eq (by kernel_rfl), rfl⟩
theorem zok188 : ∃ i, E.ty 188 = some i ∧ (.nil .func : TV τ).ok = true ∧ CW i.zero ((.nil .func : TV τ).cells C) ∧ (.nil .func : TV τ).isAgg = i.agg := ⟨ti188, rfl, rfl, CW.of_eq (by kernel_rfl), rfl⟩
theorem zok189 : ∃ i, E.ty 189 = some i ∧ (.nil .func : TV τ).ok = true ∧ CW i.zero ((.nil .func : TV τ).cells C) ∧ (.nil .func : TV τ).isAgg = i.agg := ⟨ti189, rfl, rfl, CW.of_eq (by kernel_rfl), rfl⟩
theorem zok190 : ∃ i, E.ty 190 = some i ∧ (.nil .slice : TV τ).ok = true ∧ CW i.zero ((.nil .slice : TV τ).cells C) ∧ (.nil .slice : TV τ).isAgg = i.agg := ⟨ti190, rfl, rfl, CW.of_eq (by kernel_rfl), rfl⟩
theorem zok191 : ∃ i, E.ty 191 = some i ∧ (.nil .func : TV τ).ok = true ∧ CW i.zero ((.nil .func : TV τ).cells C) ∧ (.nil .func : TV τ).isAgg = i.agg := ⟨ti191, rfl, rfl, CW.of_eq (by kernel_rfl), rfl⟩
theorem zok192 : ∃ i, E.ty 192 = some i ∧ (.nil .func : TV τ).ok = true ∧ CW i.zero ((.nil .func : TV τ).cells C) ∧ (.nil .func : TV τ).isAgg = i.agg := ⟨ti192, rfl, rfl, CW.of_eq (by kernel_rfl), rfl⟩
theorem zok193 : ∃ i, E.ty 193 = some i ∧ (.nil .func : TV τ).ok = true ∧ CW i.zero ((.nil .func : TV τ).cells C) ∧ (.nil .func : TV τ).isAgg = i.agg := ⟨ti193, rfl, rfl, CW.of_eq (by kernel_rfl), rfl⟩
theorem zok194 : ∃ i, E.ty 194 = some i ∧ (.nil .slice : TV τ).ok = true ∧ CW i.zero ((.nil .slice : TV τ).cells C) ∧ (.nil .slice : TV τ).isAgg = i.agg := ⟨ti194, rfl, rfl, CW.of_eq (by kernel_rfl), rfl⟩
theorem zok195 : ∃ i, E.ty 195 = some i ∧ (.nil .func : TV τ).ok = true ∧ CW i.zero ((.nil .func : TV τ).cells C) ∧ (.nil .func : TV τ).isAgg = i.agg := ⟨ti195, rfl, rfl, CW.of_eq (by kernel_rfl), rfl⟩
theorem zok196 : ∃ i, E.ty 196 = some i ∧ (.nil .func : TV τ).ok = true ∧ CW i.zero ((.nil .func : TV τ).cells C) ∧ (.nil .func : TV τ).isAgg = i.agg := ⟨ti196, rfl, rfl, CW.of_eq (by kernel_rfl), rfl⟩
theorem zok197 : ∃ i, E.ty 197 = some i ∧ (.nil .func : TV τ).ok = true ∧ CW i.zero ((.nil .func : TV τ).cells C) ∧ (.nil .func : TV τ).isAgg = i.agg := ⟨ti197, rfl, rfl, CW.of_eq (by kernel_rfl), rfl⟩
theorem zok199 : ∃ i, E.ty 199 = some i ∧ (.nil .func : TV τ).ok = true ∧ CW i.zero ((.nil .func : TV τ).cells C) ∧ (.nil .func : TV τ).isAgg = i.agg := ⟨ti199, rfl, rfl, CW.of_eq (by kernel_rfl), rfl⟩
theorem zok200 : ∃ i, E.ty 200 = some i ∧ (.nil .func : TV τ).ok = true ∧ CW i.zero ((.nil .func : TV τ).cells C) ∧ (.nil .func : TV τ).isAgg = i.agg := ⟨ti200, rfl, rfl, CW.of_eq (by kernel_rfl), rfl⟩
theorem zok201 : ∃ i, E.ty 201 = some i ∧ (.nil .func : TV τ).ok = true ∧ CW i.zero ((.nil .func : TV τ).cells C) ∧ (.nil .func : TV τ).isAgg = i.agg := ⟨ti201, rfl, rfl, CW.of_eq (by kernel_rfl), rfl⟩
theorem zok202 : ∃ i, E.ty 202 = some i ∧ (.nil .func : TV τ).ok = true ∧ CW i.zero ((.nil .func : TV τ).cells C) ∧ (.nil .func : TV τ).isAgg = i.agg := ⟨ti202, rfl, rfl, CW.of_eq (by kernel_rfl), rfl⟩
theorem zok211 : ∃ i, E.ty 211 = some i ∧ (.nil .ptr : TV τ).ok = true ∧ CW i.zero ((.nil .ptr : TV τ).cells C) ∧ (.nil .ptr : TV τ).isAgg = i.agg := ⟨ti211, rfl, rfl, CW.of_eq (by kernel_rfl), rfl⟩
noncomputable def D0 : TEnv τ := ⟨E, C, zeroT⟩
theorem zeroOk : ∀ t x, zeroT t = some x → ∃ i, E.ty t = some i ∧ x.ok = true ∧ CW i.zero (x.cells C) ∧ x.isAgg = i.agg := by
  intro t x h
  unfold zeroT at h
  split at h <;> first
    | (cases h; first | exact zok1 | exact zok2 | exact zok3 | exact zok4 | exact zok5 | exact zok9 | exact zok12 | exact zok17 | exact zok21 | exact zok22 | exact zok23 | exact zok24 | exact zok25 | exact zok26 | exact zok27 | exact zok28 | exact zok29 | exact zok30 | exact zok31 | exact zok32 | exact zok33 | exact zok34 | exact zok35 | exact zok36 | exact zok37 | exact zok38 | exact zok39 | exact zok40 | exact zok41 | exact zok42 | exact zok43 | exact zok44 | exact zok45 | exact zok46 | exact zok47 | exact zok48 | exact zok50 | exact zok51 | exact zok52 | exact zok53 | exact zok55 | exact zok56 | exact zok57 | exact zok58 | exact zok59 | exact zok60 | exact zok61 | exact zok62 | exact zok63 | exact zok64 | exact zok65 | exact zok66 | exact zok67 | exact zok68 | exact zok69 | exact zok70 | exact zok71 | exact zok73 | exact zok74 | exact zok75 | exact zok77 | exact zok78 | exact zok79 | exact zok81 | exact zok82 | exact zok83 | exact zok84 | exact zok85 | exact zok86 | exact zok87 | exact zok88 | exact zok89 | exact zok90 | exact zok91 | exact zok92 | exact zok93 | exact zok94 | exact zok95 | exact zok96 | exact zok97 | exact zok98 | exact zok99 | exact zok100 | exact zok101 | exact zok102 | exact zok103 | exact zok104 | exact zok105 | exact zok106 | exact zok107 | exact zok108 | exact zok109 | exact zok110 | exact zok111 | exact zok112 | exact zok113 | exact zok114 | exact zok115 | exact zok116 | exact zok117 | exact zok118 | exact zok119 | exact zok120 | exact zok121 | exact zok122 | exact zok123 | exact zok124 | exact zok126 | exact zok127 | exact zok128 | exact zok129 | exact zok131 | exact zok132 | exact zok133 | exact zok135 | exact zok136 | exact zok137 | exact zok138 | exact zok139 | exact zok140 | exact zok141 | exact zok142 | exact zok143 | exact zok144 | exact zok145 | exact zok146 | exact zok147 | exact zok148 | exact zok149 | exact zok151 | exact zok152 | exact zok153 | exact zok154 | exact zok155 | exact zok156 | exact zok157 | exact zok158 | exact zok159 | exact zok160 | exact zok161 | exact zok162 | exact zok163 | exact zok164 | exact zok165 | exact zok166 | exact zok167 | exact zok168 | exact zok169 | exact zok170 | exact zok171 | exact zok172 | exact zok173 | exact zok174 | exact zok175 | exact zok176 | exact zok177 | exact zok178 | exact zok179 | exact zok180 | exact zok181 | exact zok182 | exact zok183 | exact zok184 | exact zok185 | exact zok187 | exact zok188 | exact zok189 | exact zok190 | exact zok191 | exact zok192 | exact zok193 | exact zok194 | exact zok195 | exact zok196 | exact zok197 | exact zok199 | exact zok200 | exact zok201 | exact zok202 | exact zok211)
    | cases h
theorem d0Ok : D0.Ok := ⟨eOk, eEq, cOk, zeroOk⟩
end Go.Proofs.YteinehkdjkobnaaGreat
