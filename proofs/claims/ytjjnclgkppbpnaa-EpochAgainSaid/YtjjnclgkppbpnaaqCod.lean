/-
The types of this seat's program, as the evaluator asks them, and how their data are told. Written by wip/tools/gen2.py.
-/
import Derived.Test.YtjjnclgkppbpnaaProg
import Derived.Test.YtjjnclgkppbpnaaqTvR
import Derived.KernelRfl
set_option linter.unusedVariables false
set_option linter.unusedSimpArgs false
set_option maxHeartbeats 8000000
set_option maxRecDepth 100000
namespace Go.Proofs.Ytjjnclgkppbpnaa
open Go Go.Ev
def ti1 : TI := ⟨.func #[] #[] false, 1, 8, [.v .nilFunc]⟩
def ti2 : TI := ⟨.int .i64, 1, 8, [.v (.int .i64 0)]⟩
def ti3 : TI := ⟨.int .i64, 1, 8, [.v (.int .i64 0)]⟩
def ti4 : TI := ⟨.bool, 1, 1, [.v (.bool false)]⟩
def ti5 : TI := ⟨.int .u8, 1, 1, [.v (.int .u8 0)]⟩
def ti9 : TI := ⟨.string, 1, 16, [.v (.string ⟨#[]⟩)]⟩
def ti12 : TI := ⟨.int .u64, 1, 8, [.v (.int .u64 0)]⟩
def ti17 : TI := ⟨.pointer 149, 1, 8, [.v (.pointer none)]⟩
def ti21 : TI := ⟨.int .i32, 1, 4, [.v (.int .i32 0)]⟩
def ti22 : TI := ⟨.array 8 3, 8, 64, [.v (.int .i64 0), .v (.int .i64 0), .v (.int .i64 0), .v (.int .i64 0), .v (.int .i64 0), .v (.int .i64 0), .v (.int .i64 0), .v (.int .i64 0)]⟩
def ti23 : TI := ⟨.array 8 2, 8, 64, [.v (.int .i64 0), .v (.int .i64 0), .v (.int .i64 0), .v (.int .i64 0), .v (.int .i64 0), .v (.int .i64 0), .v (.int .i64 0), .v (.int .i64 0)]⟩
def ti24 : TI := ⟨.array 8 2, 8, 64, [.v (.int .i64 0), .v (.int .i64 0), .v (.int .i64 0), .v (.int .i64 0), .v (.int .i64 0), .v (.int .i64 0), .v (.int .i64 0), .v (.int .i64 0)]⟩
def ti25 : TI := ⟨.struct #[⟨ "Number", 2, 0, false, "", "", 0⟩, ⟨ "States", 22, 1, false, "", "", 8⟩, ⟨ "Seals", 24, 9, false, "", "", 72⟩, ⟨ "Sponsor", 22, 17, false, "", "", 136⟩], 25, 200, [.v (.int .i64 0), .v (.int .i64 0), .v (.int .i64 0), .v (.int .i64 0), .v (.int .i64 0), .v (.int .i64 0), .v (.int .i64 0), .v (.int .i64 0), .v (.int .i64 0), .v (.int .i64 0), .v (.int .i64 0), .v (.int .i64 0), .v (.int .i64 0), .v (.int .i64 0), .v (.int .i64 0), .v (.int .i64 0), .v (.int .i64 0), .v (.int .i64 0), .v (.int .i64 0), .v (.int .i64 0), .v (.int .i64 0), .v (.int .i64 0), .v (.int .i64 0), .v (.int .i64 0), .v (.int .i64 0)]⟩
def ti26 : TI := ⟨.struct #[⟨ "Number", 2, 0, false, "", "", 0⟩, ⟨ "States", 22, 1, false, "", "", 8⟩, ⟨ "Seals", 24, 9, false, "", "", 72⟩, ⟨ "Sponsor", 22, 17, false, "", "", 136⟩], 25, 200, [.v (.int .i64 0), .v (.int .i64 0), .v (.int .i64 0), .v (.int .i64 0), .v (.int .i64 0), .v (.int .i64 0), .v (.int .i64 0), .v (.int .i64 0), .v (.int .i64 0), .v (.int .i64 0), .v (.int .i64 0), .v (.int .i64 0), .v (.int .i64 0), .v (.int .i64 0), .v (.int .i64 0), .v (.int .i64 0), .v (.int .i64 0), .v (.int .i64 0), .v (.int .i64 0), .v (.int .i64 0), .v (.int .i64 0), .v (.int .i64 0), .v (.int .i64 0), .v (.int .i64 0), .v (.int .i64 0)]⟩
def ti27 : TI := ⟨.func #[] #[4] false, 1, 8, [.v .nilFunc]⟩
def ti28 : TI := ⟨.func #[26, 26] #[4] false, 1, 8, [.v .nilFunc]⟩
def ti29 : TI := ⟨.struct #[⟨ "Time", 2, 0, false, "", "", 0⟩, ⟨ "Site", 3, 1, false, "", "", 8⟩], 2, 16, [.v (.int .i64 0), .v (.int .i64 0)]⟩
def ti30 : TI := ⟨.struct #[⟨ "Time", 2, 0, false, "", "", 0⟩, ⟨ "Site", 3, 1, false, "", "", 8⟩], 2, 16, [.v (.int .i64 0), .v (.int .i64 0)]⟩
def ti31 : TI := ⟨.struct #[⟨ "Stamp", 30, 0, false, "", "", 0⟩, ⟨ "Kind", 3, 2, false, "", "", 16⟩, ⟨ "Node", 2, 3, false, "", "", 24⟩, ⟨ "Parent", 2, 4, false, "", "", 32⟩, ⟨ "Name", 9, 5, false, "", "", 40⟩, ⟨ "Key", 9, 6, false, "", "", 56⟩, ⟨ "Value", 9, 7, false, "", "", 72⟩], 8, 88, [.v (.int .i64 0), .v (.int .i64 0), .v (.int .i64 0), .v (.int .i64 0), .v (.int .i64 0), .v (.string ⟨#[]⟩), .v (.string ⟨#[]⟩), .v (.string ⟨#[]⟩)]⟩
def ti32 : TI := ⟨.struct #[⟨ "Stamp", 30, 0, false, "", "", 0⟩, ⟨ "Kind", 3, 2, false, "", "", 16⟩, ⟨ "Node", 2, 3, false, "", "", 24⟩, ⟨ "Parent", 2, 4, false, "", "", 32⟩, ⟨ "Name", 9, 5, false, "", "", 40⟩, ⟨ "Key", 9, 6, false, "", "", 56⟩, ⟨ "Value", 9, 7, false, "", "", 72⟩], 8, 88, [.v (.int .i64 0), .v (.int .i64 0), .v (.int .i64 0), .v (.int .i64 0), .v (.int .i64 0), .v (.string ⟨#[]⟩), .v (.string ⟨#[]⟩), .v (.string ⟨#[]⟩)]⟩
def ti33 : TI := ⟨.slice 32, 1, 24, [.v (.slice none 0 0)]⟩
def ti34 : TI := ⟨.slice 5, 1, 24, [.v (.slice none 0 0)]⟩
def ti35 : TI := ⟨.struct #[⟨ "Snap", 2, 0, false, "", "", 0⟩, ⟨ "Index", 3, 1, false, "", "", 8⟩, ⟨ "Many", 3, 2, false, "", "", 16⟩, ⟨ "Data", 34, 3, false, "", "", 24⟩], 4, 48, [.v (.int .i64 0), .v (.int .i64 0), .v (.int .i64 0), .v (.slice none 0 0)]⟩
def ti36 : TI := ⟨.struct #[⟨ "Snap", 2, 0, false, "", "", 0⟩, ⟨ "Index", 3, 1, false, "", "", 8⟩, ⟨ "Many", 3, 2, false, "", "", 16⟩, ⟨ "Data", 34, 3, false, "", "", 24⟩], 4, 48, [.v (.int .i64 0), .v (.int .i64 0), .v (.int .i64 0), .v (.slice none 0 0)]⟩
def ti37 : TI := ⟨.struct #[⟨ "Kind", 3, 0, false, "", "", 0⟩, ⟨ "Session", 2, 1, false, "", "", 8⟩, ⟨ "Request", 2, 2, false, "", "", 16⟩, ⟨ "Op", 32, 3, false, "", "", 24⟩, ⟨ "Origin", 3, 11, false, "", "", 112⟩, ⟨ "Seq", 2, 12, false, "", "", 120⟩, ⟨ "Ops", 33, 13, false, "", "", 128⟩, ⟨ "Epoch", 26, 14, false, "", "", 152⟩, ⟨ "From", 3, 39, false, "", "", 352⟩, ⟨ "Vector", 24, 40, false, "", "", 360⟩, ⟨ "Clock", 2, 48, false, "", "", 424⟩, ⟨ "Part", 36, 49, false, "", "", 432⟩, ⟨ "Site", 3, 53, false, "", "", 480⟩, ⟨ "Sponsor", 3, 54, false, "", "", 488⟩, ⟨ "Length", 2, 55, false, "", "", 496⟩], 56, 504, [.v (.int .i64 0), .v (.int .i64 0), .v (.int .i64 0), .v (.int .i64 0), .v (.int .i64 0), .v (.int .i64 0), .v (.int .i64 0), .v (.int .i64 0), .v (.string ⟨#[]⟩), .v (.string ⟨#[]⟩), .v (.string ⟨#[]⟩), .v (.int .i64 0), .v (.int .i64 0), .v (.slice none 0 0), .v (.int .i64 0), .v (.int .i64 0), .v (.int .i64 0), .v (.int .i64 0), .v (.int .i64 0), .v (.int .i64 0), .v (.int .i64 0), .v (.int .i64 0), .v (.int .i64 0), .v (.int .i64 0), .v (.int .i64 0), .v (.int .i64 0), .v (.int .i64 0), .v (.int .i64 0), .v (.int .i64 0), .v (.int .i64 0), .v (.int .i64 0), .v (.int .i64 0), .v (.int .i64 0), .v (.int .i64 0), .v (.int .i64 0), .v (.int .i64 0), .v (.int .i64 0), .v (.int .i64 0), .v (.int .i64 0), .v (.int .i64 0), .v (.int .i64 0), .v (.int .i64 0), .v (.int .i64 0), .v (.int .i64 0), .v (.int .i64 0), .v (.int .i64 0), .v (.int .i64 0), .v (.int .i64 0), .v (.int .i64 0), .v (.int .i64 0), .v (.int .i64 0), .v (.int .i64 0), .v (.slice none 0 0), .v (.int .i64 0), .v (.int .i64 0), .v (.int .i64 0)]⟩
def ti38 : TI := ⟨.struct #[⟨ "Kind", 3, 0, false, "", "", 0⟩, ⟨ "Session", 2, 1, false, "", "", 8⟩, ⟨ "Request", 2, 2, false, "", "", 16⟩, ⟨ "Op", 32, 3, false, "", "", 24⟩, ⟨ "Origin", 3, 11, false, "", "", 112⟩, ⟨ "Seq", 2, 12, false, "", "", 120⟩, ⟨ "Ops", 33, 13, false, "", "", 128⟩, ⟨ "Epoch", 26, 14, false, "", "", 152⟩, ⟨ "From", 3, 39, false, "", "", 352⟩, ⟨ "Vector", 24, 40, false, "", "", 360⟩, ⟨ "Clock", 2, 48, false, "", "", 424⟩, ⟨ "Part", 36, 49, false, "", "", 432⟩, ⟨ "Site", 3, 53, false, "", "", 480⟩, ⟨ "Sponsor", 3, 54, false, "", "", 488⟩, ⟨ "Length", 2, 55, false, "", "", 496⟩], 56, 504, [.v (.int .i64 0), .v (.int .i64 0), .v (.int .i64 0), .v (.int .i64 0), .v (.int .i64 0), .v (.int .i64 0), .v (.int .i64 0), .v (.int .i64 0), .v (.string ⟨#[]⟩), .v (.string ⟨#[]⟩), .v (.string ⟨#[]⟩), .v (.int .i64 0), .v (.int .i64 0), .v (.slice none 0 0), .v (.int .i64 0), .v (.int .i64 0), .v (.int .i64 0), .v (.int .i64 0), .v (.int .i64 0), .v (.int .i64 0), .v (.int .i64 0), .v (.int .i64 0), .v (.int .i64 0), .v (.int .i64 0), .v (.int .i64 0), .v (.int .i64 0), .v (.int .i64 0), .v (.int .i64 0), .v (.int .i64 0), .v (.int .i64 0), .v (.int .i64 0), .v (.int .i64 0), .v (.int .i64 0), .v (.int .i64 0), .v (.int .i64 0), .v (.int .i64 0), .v (.int .i64 0), .v (.int .i64 0), .v (.int .i64 0), .v (.int .i64 0), .v (.int .i64 0), .v (.int .i64 0), .v (.int .i64 0), .v (.int .i64 0), .v (.int .i64 0), .v (.int .i64 0), .v (.int .i64 0), .v (.int .i64 0), .v (.int .i64 0), .v (.int .i64 0), .v (.int .i64 0), .v (.int .i64 0), .v (.slice none 0 0), .v (.int .i64 0), .v (.int .i64 0), .v (.int .i64 0)]⟩
def ti39 : TI := ⟨.int .i64, 1, 8, [.v (.int .i64 0)]⟩
def ti41 : TI := ⟨.func #[26, 38] #[26, 39] false, 1, 8, [.v .nilFunc]⟩
def ti42 : TI := ⟨.func #[26] #[4] false, 1, 8, [.v .nilFunc]⟩
def ti43 : TI := ⟨.func #[26, 38] #[4] false, 1, 8, [.v .nilFunc]⟩
def ti44 : TI := ⟨.func #[45, 45] #[4] false, 1, 8, [.v .nilFunc]⟩
def ti45 : TI := ⟨.slice 3, 1, 24, [.v (.slice none 0 0)]⟩
def ti46 : TI := ⟨.func #[26] #[45] false, 1, 8, [.v .nilFunc]⟩
def ti47 : TI := ⟨.func #[26, 24] #[24] false, 1, 8, [.v .nilFunc]⟩
def ti48 : TI := ⟨.func #[26, 38, 24] #[4] false, 1, 8, [.v .nilFunc]⟩
def ti49 : TI := ⟨.pointer 52, 1, 8, [.v (.pointer none)]⟩
def ti50 : TI := ⟨.slice 26, 1, 24, [.v (.slice none 0 0)]⟩
def ti51 : TI := ⟨.struct #[⟨ "l", 50, 0, false, "", "orchard/epoch", 0⟩], 1, 24, [.v (.slice none 0 0)]⟩
def ti52 : TI := ⟨.struct #[⟨ "l", 50, 0, false, "", "orchard/epoch", 0⟩], 1, 24, [.v (.slice none 0 0)]⟩
def ti53 : TI := ⟨.slice 49, 1, 24, [.v (.slice none 0 0)]⟩
def ti55 : TI := ⟨.func #[2] #[26, 4] false, 1, 8, [.v .nilFunc]⟩
def ti56 : TI := ⟨.func #[38] #[39] false, 1, 8, [.v .nilFunc]⟩
def ti57 : TI := ⟨.func #[] #[26] false, 1, 8, [.v .nilFunc]⟩
def ti58 : TI := ⟨.func #[] #[34] false, 1, 8, [.v .nilFunc]⟩
def ti59 : TI := ⟨.func #[] #[49] false, 1, 8, [.v .nilFunc]⟩
def ti60 : TI := ⟨.func #[42] #[] false, 1, 8, [.v .nilFunc]⟩
def ti61 : TI := ⟨.func #[42] #[] false, 1, 8, [.v .nilFunc]⟩
def ti62 : TI := ⟨.func #[] #[61] false, 1, 8, [.v .nilFunc]⟩
def ti63 : TI := ⟨.func #[38, 2] #[4] false, 1, 8, [.v .nilFunc]⟩
def ti65 : TI := ⟨.func #[34] #[49, 39] false, 1, 8, [.v .nilFunc]⟩
def ti67 : TI := ⟨.func #[34] #[50, 4] false, 1, 8, [.v .nilFunc]⟩
def ti68 : TI := ⟨.func #[34, 34] #[4] false, 1, 8, [.v .nilFunc]⟩
def ti69 : TI := ⟨.func #[34] #[4] false, 1, 8, [.v .nilFunc]⟩
def ti70 : TI := ⟨.slice 38, 1, 24, [.v (.slice none 0 0)]⟩
def ti71 : TI := ⟨.func #[45] #[49, 39] true, 1, 8, [.v .nilFunc]⟩
def ti72 : TI := ⟨.func #[45, 70, 70] #[4] false, 1, 8, [.v .nilFunc]⟩
def ti73 : TI := ⟨.func #[45] #[26, 39] true, 1, 8, [.v .nilFunc]⟩
def ti74 : TI := ⟨.array 3 38, 168, 1512, [.v (.int .i64 0), .v (.int .i64 0), .v (.int .i64 0), .v (.int .i64 0), .v (.int .i64 0), .v (.int .i64 0), .v (.int .i64 0), .v (.int .i64 0), .v (.string ⟨#[]⟩), .v (.string ⟨#[]⟩), .v (.string ⟨#[]⟩), .v (.int .i64 0), .v (.int .i64 0), .v (.slice none 0 0), .v (.int .i64 0), .v (.int .i64 0), .v (.int .i64 0), .v (.int .i64 0), .v (.int .i64 0), .v (.int .i64 0), .v (.int .i64 0), .v (.int .i64 0), .v (.int .i64 0), .v (.int .i64 0), .v (.int .i64 0), .v (.int .i64 0), .v (.int .i64 0), .v (.int .i64 0), .v (.int .i64 0), .v (.int .i64 0), .v (.int .i64 0), .v (.int .i64 0), .v (.int .i64 0), .v (.int .i64 0), .v (.int .i64 0), .v (.int .i64 0), .v (.int .i64 0), .v (.int .i64 0), .v (.int .i64 0), .v (.int .i64 0), .v (.int .i64 0), .v (.int .i64 0), .v (.int .i64 0), .v (.int .i64 0), .v (.int .i64 0), .v (.int .i64 0), .v (.int .i64 0), .v (.int .i64 0), .v (.int .i64 0), .v (.int .i64 0), .v (.int .i64 0), .v (.int .i64 0), .v (.slice none 0 0), .v (.int .i64 0), .v (.int .i64 0), .v (.int .i64 0), .v (.int .i64 0), .v (.int .i64 0), .v (.int .i64 0), .v (.int .i64 0), .v (.int .i64 0), .v (.int .i64 0), .v (.int .i64 0), .v (.int .i64 0), .v (.string ⟨#[]⟩), .v (.string ⟨#[]⟩), .v (.string ⟨#[]⟩), .v (.int .i64 0), .v (.int .i64 0), .v (.slice none 0 0), .v (.int .i64 0), .v (.int .i64 0), .v (.int .i64 0), .v (.int .i64 0), .v (.int .i64 0), .v (.int .i64 0), .v (.int .i64 0), .v (.int .i64 0), .v (.int .i64 0), .v (.int .i64 0), .v (.int .i64 0), .v (.int .i64 0), .v (.int .i64 0), .v (.int .i64 0), .v (.int .i64 0), .v (.int .i64 0), .v (.int .i64 0), .v (.int .i64 0), .v (.int .i64 0), .v (.int .i64 0), .v (.int .i64 0), .v (.int .i64 0), .v (.int .i64 0), .v (.int .i64 0), .v (.int .i64 0), .v (.int .i64 0), .v (.int .i64 0), .v (.int .i64 0), .v (.int .i64 0), .v (.int .i64 0), .v (.int .i64 0), .v (.int .i64 0), .v (.int .i64 0), .v (.int .i64 0), .v (.int .i64 0), .v (.int .i64 0), .v (.int .i64 0), .v (.int .i64 0), .v (.slice none 0 0), .v (.int .i64 0), .v (.int .i64 0), .v (.int .i64 0), .v (.int .i64 0), .v (.int .i64 0), .v (.int .i64 0), .v (.int .i64 0), .v (.int .i64 0), .v (.int .i64 0), .v (.int .i64 0), .v (.int .i64 0), .v (.string ⟨#[]⟩), .v (.string ⟨#[]⟩), .v (.string ⟨#[]⟩), .v (.int .i64 0), .v (.int .i64 0), .v (.slice none 0 0), .v (.int .i64 0), .v (.int .i64 0), .v (.int .i64 0), .v (.int .i64 0), .v (.int .i64 0), .v (.int .i64 0), .v (.int .i64 0), .v (.int .i64 0), .v (.int .i64 0), .v (.int .i64 0), .v (.int .i64 0), .v (.int .i64 0), .v (.int .i64 0), .v (.int .i64 0), .v (.int .i64 0), .v (.int .i64 0), .v (.int .i64 0), .v (.int .i64 0), .v (.int .i64 0), .v (.int .i64 0), .v (.int .i64 0), .v (.int .i64 0), .v (.int .i64 0), .v (.int .i64 0), .v (.int .i64 0), .v (.int .i64 0), .v (.int .i64 0), .v (.int .i64 0), .v (.int .i64 0), .v (.int .i64 0), .v (.int .i64 0), .v (.int .i64 0), .v (.int .i64 0), .v (.int .i64 0), .v (.int .i64 0), .v (.int .i64 0), .v (.int .i64 0), .v (.int .i64 0), .v (.slice none 0 0), .v (.int .i64 0), .v (.int .i64 0), .v (.int .i64 0)]⟩
def ti75 : TI := ⟨.func #[3] #[4] false, 1, 8, [.v .nilFunc]⟩
def ti76 : TI := ⟨.pointer 3, 1, 8, [.v (.pointer none)]⟩
def ti77 : TI := ⟨.func #[26] #[3] false, 1, 8, [.v .nilFunc]⟩
def ti78 : TI := ⟨.func #[2] #[4] false, 1, 8, [.v .nilFunc]⟩
def ti79 : TI := ⟨.func #[26, 3] #[4] false, 1, 8, [.v .nilFunc]⟩
def ti80 : TI := ⟨.pointer 98, 1, 8, [.v (.pointer none)]⟩
def ti81 : TI := ⟨.func #[] #[80] false, 1, 8, [.v .nilFunc]⟩
def ti82 : TI := ⟨.func #[2] #[39] false, 1, 8, [.v .nilFunc]⟩
def ti83 : TI := ⟨.func #[80, 26] #[39] false, 1, 8, [.v .nilFunc]⟩
def ti84 : TI := ⟨.func #[50] #[50] false, 1, 8, [.v .nilFunc]⟩
def ti85 : TI := ⟨.pointer 108, 1, 8, [.v (.pointer none)]⟩
def ti86 : TI := ⟨.func #[34] #[85] false, 1, 8, [.v .nilFunc]⟩
def ti88 : TI := ⟨.func #[] #[2, 39] false, 1, 8, [.v .nilFunc]⟩
def ti89 : TI := ⟨.func #[85] #[26, 39] false, 1, 8, [.v .nilFunc]⟩
def ti90 : TI := ⟨.func #[] #[39] false, 1, 8, [.v .nilFunc]⟩
def ti91 : TI := ⟨.pointer 93, 1, 8, [.v (.pointer none)]⟩
def ti92 : TI := ⟨.struct #[⟨ "B", 34, 0, false, "", "", 0⟩, ⟨ "At", 3, 1, false, "", "", 24⟩, ⟨ "E", 39, 2, false, "", "", 32⟩], 3, 40, [.v (.slice none 0 0), .v (.int .i64 0), .v (.int .i64 0)]⟩
def ti93 : TI := ⟨.struct #[⟨ "B", 34, 0, false, "", "", 0⟩, ⟨ "At", 3, 1, false, "", "", 24⟩, ⟨ "E", 39, 2, false, "", "", 32⟩], 3, 40, [.v (.slice none 0 0), .v (.int .i64 0), .v (.int .i64 0)]⟩
def ti94 : TI := ⟨.func #[] #[2] false, 1, 8, [.v .nilFunc]⟩
def ti95 : TI := ⟨.func #[45] #[26, 39] false, 1, 8, [.v .nilFunc]⟩
def ti96 : TI := ⟨.func #[45, 75] #[4] false, 1, 8, [.v .nilFunc]⟩
def ti97 : TI := ⟨.struct #[⟨ "made", 4, 0, false, "", "orchard/wire", 0⟩, ⟨ "b", 34, 1, false, "", "orchard/wire", 8⟩], 2, 32, [.v (.bool false), .v (.slice none 0 0)]⟩
def ti98 : TI := ⟨.struct #[⟨ "made", 4, 0, false, "", "orchard/wire", 0⟩, ⟨ "b", 34, 1, false, "", "orchard/wire", 8⟩], 2, 32, [.v (.bool false), .v (.slice none 0 0)]⟩
def ti99 : TI := ⟨.func #[118] #[39] true, 1, 8, [.v .nilFunc]⟩
def ti100 : TI := ⟨.func #[2] #[34] false, 1, 8, [.v .nilFunc]⟩
def ti101 : TI := ⟨.func #[80] #[39] false, 1, 8, [.v .nilFunc]⟩
def ti102 : TI := ⟨.func #[26] #[39] false, 1, 8, [.v .nilFunc]⟩
def ti103 : TI := ⟨.func #[80, 106] #[39] false, 1, 8, [.v .nilFunc]⟩
def ti104 : TI := ⟨.pointer 123, 1, 8, [.v (.pointer none)]⟩
def ti105 : TI := ⟨.func #[26] #[] false, 1, 8, [.v .nilFunc]⟩
def ti106 : TI := ⟨.func #[104] #[] false, 1, 8, [.v .nilFunc]⟩
def ti107 : TI := ⟨.func #[34] #[34] false, 1, 8, [.v .nilFunc]⟩
def ti108 : TI := ⟨.struct #[⟨ "made", 4, 0, false, "", "orchard/wire", 0⟩, ⟨ "b", 34, 1, false, "", "orchard/wire", 8⟩], 2, 32, [.v (.bool false), .v (.slice none 0 0)]⟩
def ti110 : TI := ⟨.func #[34] #[2, 3, 39] false, 1, 8, [.v .nilFunc]⟩
def ti111 : TI := ⟨.func #[85, 113] #[39] false, 1, 8, [.v .nilFunc]⟩
def ti112 : TI := ⟨.pointer 128, 1, 8, [.v (.pointer none)]⟩
def ti113 : TI := ⟨.func #[112] #[39] false, 1, 8, [.v .nilFunc]⟩
def ti114 : TI := ⟨.func #[39] #[] false, 1, 8, [.v .nilFunc]⟩
def ti115 : TI := ⟨.func #[] #[3] false, 1, 8, [.v .nilFunc]⟩
def ti116 : TI := ⟨.func #[] #[24] false, 1, 8, [.v .nilFunc]⟩
def ti117 : TI := ⟨.func #[45, 75] #[3] false, 1, 8, [.v .nilFunc]⟩
def ti118 : TI := ⟨.slice 34, 1, 24, [.v (.slice none 0 0)]⟩
def ti119 : TI := ⟨.int .u64, 1, 8, [.v (.int .u64 0)]⟩
def ti120 : TI := ⟨.int .u64, 1, 8, [.v (.int .u64 0)]⟩
def ti121 : TI := ⟨.func #[4] #[39] false, 1, 8, [.v .nilFunc]⟩
def ti122 : TI := ⟨.struct #[⟨ "Writer", 80, 0, true, "", "", 0⟩, ⟨ "e", 39, 1, false, "", "orchard/record", 8⟩], 2, 16, [.v (.pointer none), .v (.int .i64 0)]⟩
def ti123 : TI := ⟨.struct #[⟨ "Writer", 80, 0, true, "", "", 0⟩, ⟨ "e", 39, 1, false, "", "orchard/record", 8⟩], 2, 16, [.v (.pointer none), .v (.int .i64 0)]⟩
def ti124 : TI := ⟨.func #[126] #[] true, 1, 8, [.v .nilFunc]⟩
def ti125 : TI := ⟨.func #[45] #[] true, 1, 8, [.v .nilFunc]⟩
def ti126 : TI := ⟨.slice 2, 1, 24, [.v (.slice none 0 0)]⟩
def ti127 : TI := ⟨.struct #[⟨ "Reader", 85, 0, true, "", "", 0⟩, ⟨ "e", 39, 1, false, "", "orchard/record", 8⟩], 2, 16, [.v (.pointer none), .v (.int .i64 0)]⟩
def ti128 : TI := ⟨.struct #[⟨ "Reader", 85, 0, true, "", "", 0⟩, ⟨ "e", 39, 1, false, "", "orchard/record", 8⟩], 2, 16, [.v (.pointer none), .v (.int .i64 0)]⟩
def ti129 : TI := ⟨.func #[134] #[] true, 1, 8, [.v .nilFunc]⟩
def ti130 : TI := ⟨.pointer 2, 1, 8, [.v (.pointer none)]⟩
def ti131 : TI := ⟨.func #[132] #[] false, 1, 8, [.v .nilFunc]⟩
def ti132 : TI := ⟨.pointer 24, 1, 8, [.v (.pointer none)]⟩
def ti133 : TI := ⟨.func #[126] #[4] true, 1, 8, [.v .nilFunc]⟩
def ti134 : TI := ⟨.slice 130, 1, 24, [.v (.slice none 0 0)]⟩
def ti135 : TI := ⟨.func #[] #[9] false, 1, 8, [.v .nilFunc]⟩
def ti141 : TI := ⟨.int .u32, 1, 4, [.v (.int .u32 0)]⟩
def ti145 : TI := ⟨.pointer 5, 1, 8, [.v (.pointer none)]⟩
def tyT : Nat → Option TI
  | 1 => some ti1
  | 2 => some ti2
  | 3 => some ti3
  | 4 => some ti4
  | 5 => some ti5
  | 9 => some ti9
  | 12 => some ti12
  | 17 => some ti17
  | 21 => some ti21
  | 22 => some ti22
  | 23 => some ti23
  | 24 => some ti24
  | 25 => some ti25
  | 26 => some ti26
  | 27 => some ti27
  | 28 => some ti28
  | 29 => some ti29
  | 30 => some ti30
  | 31 => some ti31
  | 32 => some ti32
  | 33 => some ti33
  | 34 => some ti34
  | 35 => some ti35
  | 36 => some ti36
  | 37 => some ti37
  | 38 => some ti38
  | 39 => some ti39
  | 41 => some ti41
  | 42 => some ti42
  | 43 => some ti43
  | 44 => some ti44
  | 45 => some ti45
  | 46 => some ti46
  | 47 => some ti47
  | 48 => some ti48
  | 49 => some ti49
  | 50 => some ti50
  | 51 => some ti51
  | 52 => some ti52
  | 53 => some ti53
  | 55 => some ti55
  | 56 => some ti56
  | 57 => some ti57
  | 58 => some ti58
  | 59 => some ti59
  | 60 => some ti60
  | 61 => some ti61
  | 62 => some ti62
  | 63 => some ti63
  | 65 => some ti65
  | 67 => some ti67
  | 68 => some ti68
  | 69 => some ti69
  | 70 => some ti70
  | 71 => some ti71
  | 72 => some ti72
  | 73 => some ti73
  | 74 => some ti74
  | 75 => some ti75
  | 76 => some ti76
  | 77 => some ti77
  | 78 => some ti78
  | 79 => some ti79
  | 80 => some ti80
  | 81 => some ti81
  | 82 => some ti82
  | 83 => some ti83
  | 84 => some ti84
  | 85 => some ti85
  | 86 => some ti86
  | 88 => some ti88
  | 89 => some ti89
  | 90 => some ti90
  | 91 => some ti91
  | 92 => some ti92
  | 93 => some ti93
  | 94 => some ti94
  | 95 => some ti95
  | 96 => some ti96
  | 97 => some ti97
  | 98 => some ti98
  | 99 => some ti99
  | 100 => some ti100
  | 101 => some ti101
  | 102 => some ti102
  | 103 => some ti103
  | 104 => some ti104
  | 105 => some ti105
  | 106 => some ti106
  | 107 => some ti107
  | 108 => some ti108
  | 110 => some ti110
  | 111 => some ti111
  | 112 => some ti112
  | 113 => some ti113
  | 114 => some ti114
  | 115 => some ti115
  | 116 => some ti116
  | 117 => some ti117
  | 118 => some ti118
  | 119 => some ti119
  | 120 => some ti120
  | 121 => some ti121
  | 122 => some ti122
  | 123 => some ti123
  | 124 => some ti124
  | 125 => some ti125
  | 126 => some ti126
  | 127 => some ti127
  | 128 => some ti128
  | 129 => some ti129
  | 130 => some ti130
  | 131 => some ti131
  | 132 => some ti132
  | 133 => some ti133
  | 134 => some ti134
  | 135 => some ti135
  | 141 => some ti141
  | 145 => some ti145
  | _ => none
def eqT : Nat → Option (List Kd)
  | 22 => some [.i, .i, .i, .i, .i, .i, .i, .i]
  | 23 => some [.i, .i, .i, .i, .i, .i, .i, .i]
  | 24 => some [.i, .i, .i, .i, .i, .i, .i, .i]
  | 25 => some [.i, .i, .i, .i, .i, .i, .i, .i, .i, .i, .i, .i, .i, .i, .i, .i, .i, .i, .i, .i, .i, .i, .i, .i, .i]
  | 26 => some [.i, .i, .i, .i, .i, .i, .i, .i, .i, .i, .i, .i, .i, .i, .i, .i, .i, .i, .i, .i, .i, .i, .i, .i, .i]
  | 29 => some [.i, .i]
  | 30 => some [.i, .i]
  | 31 => some [.i, .i, .i, .i, .i, .s, .s, .s]
  | 32 => some [.i, .i, .i, .i, .i, .s, .s, .s]
  | _ => none
noncomputable def E : Env := ⟨Try.prog, tyT, eqT, none⟩
theorem tok1 : TyOk E.P 1 ti1 := tyOkV (z := .nilFunc) (by kernel_rfl) rfl (by kernel_rfl) (by kernel_rfl)
theorem tok2 : TyOk E.P 2 ti2 := tyOkV (z := (.int .i64 0)) (by kernel_rfl) rfl (by kernel_rfl) (by kernel_rfl)
theorem tok3 : TyOk E.P 3 ti3 := tyOkV (z := (.int .i64 0)) (by kernel_rfl) rfl (by kernel_rfl) (by kernel_rfl)
theorem tok4 : TyOk E.P 4 ti4 := tyOkV (z := (.bool false)) (by kernel_rfl) rfl (by kernel_rfl) (by kernel_rfl)
theorem tok5 : TyOk E.P 5 ti5 := tyOkV (z := (.int .u8 0)) (by kernel_rfl) rfl (by kernel_rfl) (by kernel_rfl)
theorem tok9 : TyOk E.P 9 ti9 := tyOkV (z := (.string ⟨#[]⟩)) (by kernel_rfl) rfl (by kernel_rfl) (by kernel_rfl)
theorem tok12 : TyOk E.P 12 ti12 := tyOkV (z := (.int .u64 0)) (by kernel_rfl) rfl (by kernel_rfl) (by kernel_rfl)
theorem tok17 : TyOk E.P 17 ti17 := tyOkV (z := (.pointer none)) (by kernel_rfl) rfl (by kernel_rfl) (by kernel_rfl)
theorem tok21 : TyOk E.P 21 ti21 := tyOkV (z := (.int .i32 0)) (by kernel_rfl) rfl (by kernel_rfl) (by kernel_rfl)
theorem tok22 : TyOk E.P 22 ti22 := tyOkV (z := (.agg #[(.int .i64 0), (.int .i64 0), (.int .i64 0), (.int .i64 0), (.int .i64 0), (.int .i64 0), (.int .i64 0), (.int .i64 0)])) (by kernel_rfl) rfl (by kernel_rfl) (by kernel_rfl)
theorem tok23 : TyOk E.P 23 ti23 := tyOkV (z := (.agg #[(.int .i64 0), (.int .i64 0), (.int .i64 0), (.int .i64 0), (.int .i64 0), (.int .i64 0), (.int .i64 0), (.int .i64 0)])) (by kernel_rfl) rfl (by kernel_rfl) (by kernel_rfl)
theorem tok24 : TyOk E.P 24 ti24 := tyOkV (z := (.agg #[(.int .i64 0), (.int .i64 0), (.int .i64 0), (.int .i64 0), (.int .i64 0), (.int .i64 0), (.int .i64 0), (.int .i64 0)])) (by kernel_rfl) rfl (by kernel_rfl) (by kernel_rfl)
theorem tok25 : TyOk E.P 25 ti25 := tyOkV (z := (.agg #[(.int .i64 0), (.int .i64 0), (.int .i64 0), (.int .i64 0), (.int .i64 0), (.int .i64 0), (.int .i64 0), (.int .i64 0), (.int .i64 0), (.int .i64 0), (.int .i64 0), (.int .i64 0), (.int .i64 0), (.int .i64 0), (.int .i64 0), (.int .i64 0), (.int .i64 0), (.int .i64 0), (.int .i64 0), (.int .i64 0), (.int .i64 0), (.int .i64 0), (.int .i64 0), (.int .i64 0), (.int .i64 0)])) (by kernel_rfl) rfl (by kernel_rfl) (by kernel_rfl)
theorem tok26 : TyOk E.P 26 ti26 := tyOkV (z := (.agg #[(.int .i64 0), (.int .i64 0), (.int .i64 0), (.int .i64 0), (.int .i64 0), (.int .i64 0), (.int .i64 0), (.int .i64 0), (.int .i64 0), (.int .i64 0), (.int .i64 0), (.int .i64 0), (.int .i64 0), (.int .i64 0), (.int .i64 0), (.int .i64 0), (.int .i64 0), (.int .i64 0), (.int .i64 0), (.int .i64 0), (.int .i64 0), (.int .i64 0), (.int .i64 0), (.int .i64 0), (.int .i64 0)])) (by kernel_rfl) rfl (by kernel_rfl) (by kernel_rfl)
theorem tok27 : TyOk E.P 27 ti27 := tyOkV (z := .nilFunc) (by kernel_rfl) rfl (by kernel_rfl) (by kernel_rfl)
theorem tok28 : TyOk E.P 28 ti28 := tyOkV (z := .nilFunc) (by kernel_rfl) rfl (by kernel_rfl) (by kernel_rfl)
theorem tok29 : TyOk E.P 29 ti29 := tyOkV (z := (.agg #[(.int .i64 0), (.int .i64 0)])) (by kernel_rfl) rfl (by kernel_rfl) (by kernel_rfl)
theorem tok30 : TyOk E.P 30 ti30 := tyOkV (z := (.agg #[(.int .i64 0), (.int .i64 0)])) (by kernel_rfl) rfl (by kernel_rfl) (by kernel_rfl)
theorem tok31 : TyOk E.P 31 ti31 := tyOkV (z := (.agg #[(.int .i64 0), (.int .i64 0), (.int .i64 0), (.int .i64 0), (.int .i64 0), (.string ⟨#[]⟩), (.string ⟨#[]⟩), (.string ⟨#[]⟩)])) (by kernel_rfl) rfl (by kernel_rfl) (by kernel_rfl)
theorem tok32 : TyOk E.P 32 ti32 := tyOkV (z := (.agg #[(.int .i64 0), (.int .i64 0), (.int .i64 0), (.int .i64 0), (.int .i64 0), (.string ⟨#[]⟩), (.string ⟨#[]⟩), (.string ⟨#[]⟩)])) (by kernel_rfl) rfl (by kernel_rfl) (by kernel_rfl)
theorem tok33 : TyOk E.P 33 ti33 := tyOkV (z := (.slice none 0 0)) (by kernel_rfl) rfl (by kernel_rfl) (by kernel_rfl)
theorem tok34 : TyOk E.P 34 ti34 := tyOkV (z := (.slice none 0 0)) (by kernel_rfl) rfl (by kernel_rfl) (by kernel_rfl)
theorem tok35 : TyOk E.P 35 ti35 := tyOkV (z := (.agg #[(.int .i64 0), (.int .i64 0), (.int .i64 0), (.slice none 0 0)])) (by kernel_rfl) rfl (by kernel_rfl) (by kernel_rfl)
theorem tok36 : TyOk E.P 36 ti36 := tyOkV (z := (.agg #[(.int .i64 0), (.int .i64 0), (.int .i64 0), (.slice none 0 0)])) (by kernel_rfl) rfl (by kernel_rfl) (by kernel_rfl)
theorem tok37 : TyOk E.P 37 ti37 := tyOkV (z := (.agg #[(.int .i64 0), (.int .i64 0), (.int .i64 0), (.int .i64 0), (.int .i64 0), (.int .i64 0), (.int .i64 0), (.int .i64 0), (.string ⟨#[]⟩), (.string ⟨#[]⟩), (.string ⟨#[]⟩), (.int .i64 0), (.int .i64 0), (.slice none 0 0), (.int .i64 0), (.int .i64 0), (.int .i64 0), (.int .i64 0), (.int .i64 0), (.int .i64 0), (.int .i64 0), (.int .i64 0), (.int .i64 0), (.int .i64 0), (.int .i64 0), (.int .i64 0), (.int .i64 0), (.int .i64 0), (.int .i64 0), (.int .i64 0), (.int .i64 0), (.int .i64 0), (.int .i64 0), (.int .i64 0), (.int .i64 0), (.int .i64 0), (.int .i64 0), (.int .i64 0), (.int .i64 0), (.int .i64 0), (.int .i64 0), (.int .i64 0), (.int .i64 0), (.int .i64 0), (.int .i64 0), (.int .i64 0), (.int .i64 0), (.int .i64 0), (.int .i64 0), (.int .i64 0), (.int .i64 0), (.int .i64 0), (.slice none 0 0), (.int .i64 0), (.int .i64 0), (.int .i64 0)])) (by kernel_rfl) rfl (by kernel_rfl) (by kernel_rfl)
theorem tok38 : TyOk E.P 38 ti38 := tyOkV (z := (.agg #[(.int .i64 0), (.int .i64 0), (.int .i64 0), (.int .i64 0), (.int .i64 0), (.int .i64 0), (.int .i64 0), (.int .i64 0), (.string ⟨#[]⟩), (.string ⟨#[]⟩), (.string ⟨#[]⟩), (.int .i64 0), (.int .i64 0), (.slice none 0 0), (.int .i64 0), (.int .i64 0), (.int .i64 0), (.int .i64 0), (.int .i64 0), (.int .i64 0), (.int .i64 0), (.int .i64 0), (.int .i64 0), (.int .i64 0), (.int .i64 0), (.int .i64 0), (.int .i64 0), (.int .i64 0), (.int .i64 0), (.int .i64 0), (.int .i64 0), (.int .i64 0), (.int .i64 0), (.int .i64 0), (.int .i64 0), (.int .i64 0), (.int .i64 0), (.int .i64 0), (.int .i64 0), (.int .i64 0), (.int .i64 0), (.int .i64 0), (.int .i64 0), (.int .i64 0), (.int .i64 0), (.int .i64 0), (.int .i64 0), (.int .i64 0), (.int .i64 0), (.int .i64 0), (.int .i64 0), (.int .i64 0), (.slice none 0 0), (.int .i64 0), (.int .i64 0), (.int .i64 0)])) (by kernel_rfl) rfl (by kernel_rfl) (by kernel_rfl)
theorem tok39 : TyOk E.P 39 ti39 := tyOkV (z := (.int .i64 0)) (by kernel_rfl) rfl (by kernel_rfl) (by kernel_rfl)
theorem tok41 : TyOk E.P 41 ti41 := tyOkV (z := .nilFunc) (by kernel_rfl) rfl (by kernel_rfl) (by kernel_rfl)
theorem tok42 : TyOk E.P 42 ti42 := tyOkV (z := .nilFunc) (by kernel_rfl) rfl (by kernel_rfl) (by kernel_rfl)
theorem tok43 : TyOk E.P 43 ti43 := tyOkV (z := .nilFunc) (by kernel_rfl) rfl (by kernel_rfl) (by kernel_rfl)
theorem tok44 : TyOk E.P 44 ti44 := tyOkV (z := .nilFunc) (by kernel_rfl) rfl (by kernel_rfl) (by kernel_rfl)
theorem tok45 : TyOk E.P 45 ti45 := tyOkV (z := (.slice none 0 0)) (by kernel_rfl) rfl (by kernel_rfl) (by kernel_rfl)
theorem tok46 : TyOk E.P 46 ti46 := tyOkV (z := .nilFunc) (by kernel_rfl) rfl (by kernel_rfl) (by kernel_rfl)
theorem tok47 : TyOk E.P 47 ti47 := tyOkV (z := .nilFunc) (by kernel_rfl) rfl (by kernel_rfl) (by kernel_rfl)
theorem tok48 : TyOk E.P 48 ti48 := tyOkV (z := .nilFunc) (by kernel_rfl) rfl (by kernel_rfl) (by kernel_rfl)
theorem tok49 : TyOk E.P 49 ti49 := tyOkV (z := (.pointer none)) (by kernel_rfl) rfl (by kernel_rfl) (by kernel_rfl)
theorem tok50 : TyOk E.P 50 ti50 := tyOkV (z := (.slice none 0 0)) (by kernel_rfl) rfl (by kernel_rfl) (by kernel_rfl)
theorem tok51 : TyOk E.P 51 ti51 := tyOkV (z := (.agg #[(.slice none 0 0)])) (by kernel_rfl) rfl (by kernel_rfl) (by kernel_rfl)
theorem tok52 : TyOk E.P 52 ti52 := tyOkV (z := (.agg #[(.slice none 0 0)])) (by kernel_rfl) rfl (by kernel_rfl) (by kernel_rfl)
theorem tok53 : TyOk E.P 53 ti53 := tyOkV (z := (.slice none 0 0)) (by kernel_rfl) rfl (by kernel_rfl) (by kernel_rfl)
theorem tok55 : TyOk E.P 55 ti55 := tyOkV (z := .nilFunc) (by kernel_rfl) rfl (by kernel_rfl) (by kernel_rfl)
theorem tok56 : TyOk E.P 56 ti56 := tyOkV (z := .nilFunc) (by kernel_rfl) rfl (by kernel_rfl) (by kernel_rfl)
theorem tok57 : TyOk E.P 57 ti57 := tyOkV (z := .nilFunc) (by kernel_rfl) rfl (by kernel_rfl) (by kernel_rfl)
theorem tok58 : TyOk E.P 58 ti58 := tyOkV (z := .nilFunc) (by kernel_rfl) rfl (by kernel_rfl) (by kernel_rfl)
theorem tok59 : TyOk E.P 59 ti59 := tyOkV (z := .nilFunc) (by kernel_rfl) rfl (by kernel_rfl) (by kernel_rfl)
theorem tok60 : TyOk E.P 60 ti60 := tyOkV (z := .nilFunc) (by kernel_rfl) rfl (by kernel_rfl) (by kernel_rfl)
theorem tok61 : TyOk E.P 61 ti61 := tyOkV (z := .nilFunc) (by kernel_rfl) rfl (by kernel_rfl) (by kernel_rfl)
theorem tok62 : TyOk E.P 62 ti62 := tyOkV (z := .nilFunc) (by kernel_rfl) rfl (by kernel_rfl) (by kernel_rfl)
theorem tok63 : TyOk E.P 63 ti63 := tyOkV (z := .nilFunc) (by kernel_rfl) rfl (by kernel_rfl) (by kernel_rfl)
theorem tok65 : TyOk E.P 65 ti65 := tyOkV (z := .nilFunc) (by kernel_rfl) rfl (by kernel_rfl) (by kernel_rfl)
theorem tok67 : TyOk E.P 67 ti67 := tyOkV (z := .nilFunc) (by kernel_rfl) rfl (by kernel_rfl) (by kernel_rfl)
theorem tok68 : TyOk E.P 68 ti68 := tyOkV (z := .nilFunc) (by kernel_rfl) rfl (by kernel_rfl) (by kernel_rfl)
theorem tok69 : TyOk E.P 69 ti69 := tyOkV (z := .nilFunc) (by kernel_rfl) rfl (by kernel_rfl) (by kernel_rfl)
theorem tok70 : TyOk E.P 70 ti70 := tyOkV (z := (.slice none 0 0)) (by kernel_rfl) rfl (by kernel_rfl) (by kernel_rfl)
theorem tok71 : TyOk E.P 71 ti71 := tyOkV (z := .nilFunc) (by kernel_rfl) rfl (by kernel_rfl) (by kernel_rfl)
theorem tok72 : TyOk E.P 72 ti72 := tyOkV (z := .nilFunc) (by kernel_rfl) rfl (by kernel_rfl) (by kernel_rfl)
theorem tok73 : TyOk E.P 73 ti73 := tyOkV (z := .nilFunc) (by kernel_rfl) rfl (by kernel_rfl) (by kernel_rfl)
theorem tok74 : TyOk E.P 74 ti74 := tyOkV (z := (.agg #[(.int .i64 0), (.int .i64 0), (.int .i64 0), (.int .i64 0), (.int .i64 0), (.int .i64 0), (.int .i64 0), (.int .i64 0), (.string ⟨#[]⟩), (.string ⟨#[]⟩), (.string ⟨#[]⟩), (.int .i64 0), (.int .i64 0), (.slice none 0 0), (.int .i64 0), (.int .i64 0), (.int .i64 0), (.int .i64 0), (.int .i64 0), (.int .i64 0), (.int .i64 0), (.int .i64 0), (.int .i64 0), (.int .i64 0), (.int .i64 0), (.int .i64 0), (.int .i64 0), (.int .i64 0), (.int .i64 0), (.int .i64 0), (.int .i64 0), (.int .i64 0), (.int .i64 0), (.int .i64 0), (.int .i64 0), (.int .i64 0), (.int .i64 0), (.int .i64 0), (.int .i64 0), (.int .i64 0), (.int .i64 0), (.int .i64 0), (.int .i64 0), (.int .i64 0), (.int .i64 0), (.int .i64 0), (.int .i64 0), (.int .i64 0), (.int .i64 0), (.int .i64 0), (.int .i64 0), (.int .i64 0), (.slice none 0 0), (.int .i64 0), (.int .i64 0), (.int .i64 0), (.int .i64 0), (.int .i64 0), (.int .i64 0), (.int .i64 0), (.int .i64 0), (.int .i64 0), (.int .i64 0), (.int .i64 0), (.string ⟨#[]⟩), (.string ⟨#[]⟩), (.string ⟨#[]⟩), (.int .i64 0), (.int .i64 0), (.slice none 0 0), (.int .i64 0), (.int .i64 0), (.int .i64 0), (.int .i64 0), (.int .i64 0), (.int .i64 0), (.int .i64 0), (.int .i64 0), (.int .i64 0), (.int .i64 0), (.int .i64 0), (.int .i64 0), (.int .i64 0), (.int .i64 0), (.int .i64 0), (.int .i64 0), (.int .i64 0), (.int .i64 0), (.int .i64 0), (.int .i64 0), (.int .i64 0), (.int .i64 0), (.int .i64 0), (.int .i64 0), (.int .i64 0), (.int .i64 0), (.int .i64 0), (.int .i64 0), (.int .i64 0), (.int .i64 0), (.int .i64 0), (.int .i64 0), (.int .i64 0), (.int .i64 0), (.int .i64 0), (.int .i64 0), (.int .i64 0), (.int .i64 0), (.slice none 0 0), (.int .i64 0), (.int .i64 0), (.int .i64 0), (.int .i64 0), (.int .i64 0), (.int .i64 0), (.int .i64 0), (.int .i64 0), (.int .i64 0), (.int .i64 0), (.int .i64 0), (.string ⟨#[]⟩), (.string ⟨#[]⟩), (.string ⟨#[]⟩), (.int .i64 0), (.int .i64 0), (.slice none 0 0), (.int .i64 0), (.int .i64 0), (.int .i64 0), (.int .i64 0), (.int .i64 0), (.int .i64 0), (.int .i64 0), (.int .i64 0), (.int .i64 0), (.int .i64 0), (.int .i64 0), (.int .i64 0), (.int .i64 0), (.int .i64 0), (.int .i64 0), (.int .i64 0), (.int .i64 0), (.int .i64 0), (.int .i64 0), (.int .i64 0), (.int .i64 0), (.int .i64 0), (.int .i64 0), (.int .i64 0), (.int .i64 0), (.int .i64 0), (.int .i64 0), (.int .i64 0), (.int .i64 0), (.int .i64 0), (.int .i64 0), (.int .i64 0), (.int .i64 0), (.int .i64 0), (.int .i64 0), (.int .i64 0), (.int .i64 0), (.int .i64 0), (.slice none 0 0), (.int .i64 0), (.int .i64 0), (.int .i64 0)])) (by kernel_rfl) rfl (by kernel_rfl) (by kernel_rfl)
theorem tok75 : TyOk E.P 75 ti75 := tyOkV (z := .nilFunc) (by kernel_rfl) rfl (by kernel_rfl) (by kernel_rfl)
theorem tok76 : TyOk E.P 76 ti76 := tyOkV (z := (.pointer none)) (by kernel_rfl) rfl (by kernel_rfl) (by kernel_rfl)
theorem tok77 : TyOk E.P 77 ti77 := tyOkV (z := .nilFunc) (by kernel_rfl) rfl (by kernel_rfl) (by kernel_rfl)
theorem tok78 : TyOk E.P 78 ti78 := tyOkV (z := .nilFunc) (by kernel_rfl) rfl (by kernel_rfl) (by kernel_rfl)
theorem tok79 : TyOk E.P 79 ti79 := tyOkV (z := .nilFunc) (by kernel_rfl) rfl (by kernel_rfl) (by kernel_rfl)
theorem tok80 : TyOk E.P 80 ti80 := tyOkV (z := (.pointer none)) (by kernel_rfl) rfl (by kernel_rfl) (by kernel_rfl)
theorem tok81 : TyOk E.P 81 ti81 := tyOkV (z := .nilFunc) (by kernel_rfl) rfl (by kernel_rfl) (by kernel_rfl)
theorem tok82 : TyOk E.P 82 ti82 := tyOkV (z := .nilFunc) (by kernel_rfl) rfl (by kernel_rfl) (by kernel_rfl)
theorem tok83 : TyOk E.P 83 ti83 := tyOkV (z := .nilFunc) (by kernel_rfl) rfl (by kernel_rfl) (by kernel_rfl)
theorem tok84 : TyOk E.P 84 ti84 := tyOkV (z := .nilFunc) (by kernel_rfl) rfl (by kernel_rfl) (by kernel_rfl)
theorem tok85 : TyOk E.P 85 ti85 := tyOkV (z := (.pointer none)) (by kernel_rfl) rfl (by kernel_rfl) (by kernel_rfl)
theorem tok86 : TyOk E.P 86 ti86 := tyOkV (z := .nilFunc) (by kernel_rfl) rfl (by kernel_rfl) (by kernel_rfl)
theorem tok88 : TyOk E.P 88 ti88 := tyOkV (z := .nilFunc) (by kernel_rfl) rfl (by kernel_rfl) (by kernel_rfl)
theorem tok89 : TyOk E.P 89 ti89 := tyOkV (z := .nilFunc) (by kernel_rfl) rfl (by kernel_rfl) (by kernel_rfl)
theorem tok90 : TyOk E.P 90 ti90 := tyOkV (z := .nilFunc) (by kernel_rfl) rfl (by kernel_rfl) (by kernel_rfl)
theorem tok91 : TyOk E.P 91 ti91 := tyOkV (z := (.pointer none)) (by kernel_rfl) rfl (by kernel_rfl) (by kernel_rfl)
theorem tok92 : TyOk E.P 92 ti92 := tyOkV (z := (.agg #[(.slice none 0 0), (.int .i64 0), (.int .i64 0)])) (by kernel_rfl) rfl (by kernel_rfl) (by kernel_rfl)
theorem tok93 : TyOk E.P 93 ti93 := tyOkV (z := (.agg #[(.slice none 0 0), (.int .i64 0), (.int .i64 0)])) (by kernel_rfl) rfl (by kernel_rfl) (by kernel_rfl)
theorem tok94 : TyOk E.P 94 ti94 := tyOkV (z := .nilFunc) (by kernel_rfl) rfl (by kernel_rfl) (by kernel_rfl)
theorem tok95 : TyOk E.P 95 ti95 := tyOkV (z := .nilFunc) (by kernel_rfl) rfl (by kernel_rfl) (by kernel_rfl)
theorem tok96 : TyOk E.P 96 ti96 := tyOkV (z := .nilFunc) (by kernel_rfl) rfl (by kernel_rfl) (by kernel_rfl)
theorem tok97 : TyOk E.P 97 ti97 := tyOkV (z := (.agg #[(.bool false), (.slice none 0 0)])) (by kernel_rfl) rfl (by kernel_rfl) (by kernel_rfl)
theorem tok98 : TyOk E.P 98 ti98 := tyOkV (z := (.agg #[(.bool false), (.slice none 0 0)])) (by kernel_rfl) rfl (by kernel_rfl) (by kernel_rfl)
theorem tok99 : TyOk E.P 99 ti99 := tyOkV (z := .nilFunc) (by kernel_rfl) rfl (by kernel_rfl) (by kernel_rfl)
theorem tok100 : TyOk E.P 100 ti100 := tyOkV (z := .nilFunc) (by kernel_rfl) rfl (by kernel_rfl) (by kernel_rfl)
theorem tok101 : TyOk E.P 101 ti101 := tyOkV (z := .nilFunc) (by kernel_rfl) rfl (by kernel_rfl) (by kernel_rfl)
theorem tok102 : TyOk E.P 102 ti102 := tyOkV (z := .nilFunc) (by kernel_rfl) rfl (by kernel_rfl) (by kernel_rfl)
theorem tok103 : TyOk E.P 103 ti103 := tyOkV (z := .nilFunc) (by kernel_rfl) rfl (by kernel_rfl) (by kernel_rfl)
theorem tok104 : TyOk E.P 104 ti104 := tyOkV (z := (.pointer none)) (by kernel_rfl) rfl (by kernel_rfl) (by kernel_rfl)
theorem tok105 : TyOk E.P 105 ti105 := tyOkV (z := .nilFunc) (by kernel_rfl) rfl (by kernel_rfl) (by kernel_rfl)
theorem tok106 : TyOk E.P 106 ti106 := tyOkV (z := .nilFunc) (by kernel_rfl) rfl (by kernel_rfl) (by kernel_rfl)
theorem tok107 : TyOk E.P 107 ti107 := tyOkV (z := .nilFunc) (by kernel_rfl) rfl (by kernel_rfl) (by kernel_rfl)
theorem tok108 : TyOk E.P 108 ti108 := tyOkV (z := (.agg #[(.bool false), (.slice none 0 0)])) (by kernel_rfl) rfl (by kernel_rfl) (by kernel_rfl)
theorem tok110 : TyOk E.P 110 ti110 := tyOkV (z := .nilFunc) (by kernel_rfl) rfl (by kernel_rfl) (by kernel_rfl)
theorem tok111 : TyOk E.P 111 ti111 := tyOkV (z := .nilFunc) (by kernel_rfl) rfl (by kernel_rfl) (by kernel_rfl)
theorem tok112 : TyOk E.P 112 ti112 := tyOkV (z := (.pointer none)) (by kernel_rfl) rfl (by kernel_rfl) (by kernel_rfl)
theorem tok113 : TyOk E.P 113 ti113 := tyOkV (z := .nilFunc) (by kernel_rfl) rfl (by kernel_rfl) (by kernel_rfl)
theorem tok114 : TyOk E.P 114 ti114 := tyOkV (z := .nilFunc) (by kernel_rfl) rfl (by kernel_rfl) (by kernel_rfl)
theorem tok115 : TyOk E.P 115 ti115 := tyOkV (z := .nilFunc) (by kernel_rfl) rfl (by kernel_rfl) (by kernel_rfl)
theorem tok116 : TyOk E.P 116 ti116 := tyOkV (z := .nilFunc) (by kernel_rfl) rfl (by kernel_rfl) (by kernel_rfl)
theorem tok117 : TyOk E.P 117 ti117 := tyOkV (z := .nilFunc) (by kernel_rfl) rfl (by kernel_rfl) (by kernel_rfl)
theorem tok118 : TyOk E.P 118 ti118 := tyOkV (z := (.slice none 0 0)) (by kernel_rfl) rfl (by kernel_rfl) (by kernel_rfl)
theorem tok119 : TyOk E.P 119 ti119 := tyOkV (z := (.int .u64 0)) (by kernel_rfl) rfl (by kernel_rfl) (by kernel_rfl)
theorem tok120 : TyOk E.P 120 ti120 := tyOkV (z := (.int .u64 0)) (by kernel_rfl) rfl (by kernel_rfl) (by kernel_rfl)
theorem tok121 : TyOk E.P 121 ti121 := tyOkV (z := .nilFunc) (by kernel_rfl) rfl (by kernel_rfl) (by kernel_rfl)
theorem tok122 : TyOk E.P 122 ti122 := tyOkV (z := (.agg #[(.pointer none), (.int .i64 0)])) (by kernel_rfl) rfl (by kernel_rfl) (by kernel_rfl)
theorem tok123 : TyOk E.P 123 ti123 := tyOkV (z := (.agg #[(.pointer none), (.int .i64 0)])) (by kernel_rfl) rfl (by kernel_rfl) (by kernel_rfl)
theorem tok124 : TyOk E.P 124 ti124 := tyOkV (z := .nilFunc) (by kernel_rfl) rfl (by kernel_rfl) (by kernel_rfl)
theorem tok125 : TyOk E.P 125 ti125 := tyOkV (z := .nilFunc) (by kernel_rfl) rfl (by kernel_rfl) (by kernel_rfl)
theorem tok126 : TyOk E.P 126 ti126 := tyOkV (z := (.slice none 0 0)) (by kernel_rfl) rfl (by kernel_rfl) (by kernel_rfl)
theorem tok127 : TyOk E.P 127 ti127 := tyOkV (z := (.agg #[(.pointer none), (.int .i64 0)])) (by kernel_rfl) rfl (by kernel_rfl) (by kernel_rfl)
theorem tok128 : TyOk E.P 128 ti128 := tyOkV (z := (.agg #[(.pointer none), (.int .i64 0)])) (by kernel_rfl) rfl (by kernel_rfl) (by kernel_rfl)
theorem tok129 : TyOk E.P 129 ti129 := tyOkV (z := .nilFunc) (by kernel_rfl) rfl (by kernel_rfl) (by kernel_rfl)
theorem tok130 : TyOk E.P 130 ti130 := tyOkV (z := (.pointer none)) (by kernel_rfl) rfl (by kernel_rfl) (by kernel_rfl)
theorem tok131 : TyOk E.P 131 ti131 := tyOkV (z := .nilFunc) (by kernel_rfl) rfl (by kernel_rfl) (by kernel_rfl)
theorem tok132 : TyOk E.P 132 ti132 := tyOkV (z := (.pointer none)) (by kernel_rfl) rfl (by kernel_rfl) (by kernel_rfl)
theorem tok133 : TyOk E.P 133 ti133 := tyOkV (z := .nilFunc) (by kernel_rfl) rfl (by kernel_rfl) (by kernel_rfl)
theorem tok134 : TyOk E.P 134 ti134 := tyOkV (z := (.slice none 0 0)) (by kernel_rfl) rfl (by kernel_rfl) (by kernel_rfl)
theorem tok135 : TyOk E.P 135 ti135 := tyOkV (z := .nilFunc) (by kernel_rfl) rfl (by kernel_rfl) (by kernel_rfl)
theorem tok141 : TyOk E.P 141 ti141 := tyOkV (z := (.int .u32 0)) (by kernel_rfl) rfl (by kernel_rfl) (by kernel_rfl)
theorem tok145 : TyOk E.P 145 ti145 := tyOkV (z := (.pointer none)) (by kernel_rfl) rfl (by kernel_rfl) (by kernel_rfl)
theorem eOk : E.Ok := by
  intro t i h
  have h' : tyT t = some i := h
  unfold tyT at h'
  split at h' <;> first
    | (cases h'; first | exact tok1 | exact tok2 | exact tok3 | exact tok4 | exact tok5 | exact tok9 | exact tok12 | exact tok17 | exact tok21 | exact tok22 | exact tok23 | exact tok24 | exact tok25 | exact tok26 | exact tok27 | exact tok28 | exact tok29 | exact tok30 | exact tok31 | exact tok32 | exact tok33 | exact tok34 | exact tok35 | exact tok36 | exact tok37 | exact tok38 | exact tok39 | exact tok41 | exact tok42 | exact tok43 | exact tok44 | exact tok45 | exact tok46 | exact tok47 | exact tok48 | exact tok49 | exact tok50 | exact tok51 | exact tok52 | exact tok53 | exact tok55 | exact tok56 | exact tok57 | exact tok58 | exact tok59 | exact tok60 | exact tok61 | exact tok62 | exact tok63 | exact tok65 | exact tok67 | exact tok68 | exact tok69 | exact tok70 | exact tok71 | exact tok72 | exact tok73 | exact tok74 | exact tok75 | exact tok76 | exact tok77 | exact tok78 | exact tok79 | exact tok80 | exact tok81 | exact tok82 | exact tok83 | exact tok84 | exact tok85 | exact tok86 | exact tok88 | exact tok89 | exact tok90 | exact tok91 | exact tok92 | exact tok93 | exact tok94 | exact tok95 | exact tok96 | exact tok97 | exact tok98 | exact tok99 | exact tok100 | exact tok101 | exact tok102 | exact tok103 | exact tok104 | exact tok105 | exact tok106 | exact tok107 | exact tok108 | exact tok110 | exact tok111 | exact tok112 | exact tok113 | exact tok114 | exact tok115 | exact tok116 | exact tok117 | exact tok118 | exact tok119 | exact tok120 | exact tok121 | exact tok122 | exact tok123 | exact tok124 | exact tok125 | exact tok126 | exact tok127 | exact tok128 | exact tok129 | exact tok130 | exact tok131 | exact tok132 | exact tok133 | exact tok134 | exact tok135 | exact tok141 | exact tok145)
    | cases h'
theorem eEq : E.EqOk := by
  intro t ks h
  have h' : eqT t = some ks := h
  unfold eqT at h'
  split at h' <;> first
    | (cases h'; exact ⟨by kernel_rfl, by kernel_rfl, by kernel_rfl⟩)
    | cases h'
theorem eGood : Go.Ev.Good E := ⟨eOk, eEq, by kernel_rfl⟩
structure GEpoch where
  Number : Int
  States : Vector (Int) 8
  Seals : Vector (Int) 8
  Sponsor : Vector (Int) 8
instance : Inhabited GEpoch := ⟨⟨default, default, default, default⟩⟩
structure GStamp where
  Time : Int
  Site : Int
instance : Inhabited GStamp := ⟨⟨default, default⟩⟩
structure GOp where
  Stamp : GStamp
  Kind : Int
  Node : Int
  Parent : Int
  Name : List UInt8
  Key : List UInt8
  Value : List UInt8
instance : Inhabited GOp := ⟨⟨default, default, default, default, default, default, default⟩⟩
structure GPart where
  Snap : Int
  Index : Int
  Many : Int
  Data : List (Int)
instance : Inhabited GPart := ⟨⟨default, default, default, default⟩⟩
structure GEntry where
  Kind : Int
  Session : Int
  Request : Int
  Op : GOp
  Origin : Int
  Seq : Int
  Ops : List (GOp)
  Epoch : GEpoch
  From : Int
  Vector_ : Vector (Int) 8
  Clock : Int
  Part : GPart
  Site : Int
  Sponsor : Int
  Length : Int
instance : Inhabited GEntry := ⟨⟨default, default, default, default, default, default, default, default, default, default, default, default, default, default, default⟩⟩
structure Gepoch_Machine where
  l : List (GEpoch)
instance : Inhabited Gepoch_Machine := ⟨⟨default⟩⟩
structure Gorchardref04_Reader where
  B : List (Int)
  At : Int
  E : Int
instance : Inhabited Gorchardref04_Reader := ⟨⟨default, default, default⟩⟩
structure Gwire_Writer where
  made : Bool
  b : List (Int)
instance : Inhabited Gwire_Writer := ⟨⟨default, default⟩⟩
@[reducible] def τ : Nat → Type
  | 2 => Int
  | 3 => Int
  | 4 => Bool
  | 5 => Int
  | 9 => List UInt8
  | 12 => Int
  | 21 => Int
  | 22 => Vector (Int) 8
  | 23 => Vector (Int) 8
  | 24 => Vector (Int) 8
  | 25 => GEpoch
  | 26 => GEpoch
  | 29 => GStamp
  | 30 => GStamp
  | 31 => GOp
  | 32 => GOp
  | 33 => List (GOp)
  | 34 => List (Int)
  | 35 => GPart
  | 36 => GPart
  | 37 => GEntry
  | 38 => GEntry
  | 39 => Int
  | 45 => List (Int)
  | 50 => List (GEpoch)
  | 51 => Gepoch_Machine
  | 52 => Gepoch_Machine
  | 70 => List (GEntry)
  | 74 => Vector (GEntry) 3
  | 92 => Gorchardref04_Reader
  | 93 => Gorchardref04_Reader
  | 97 => Gwire_Writer
  | 98 => Gwire_Writer
  | 108 => Gwire_Writer
  | 118 => List (List (Int))
  | 119 => Int
  | 120 => Int
  | 126 => List (Int)
  | 141 => Int
  | _ => Unit
def cel2 (x : Int) : List AV := [.v (.int .i64 x)]
def enc2 (x : Int) : TV τ := .int .i64 x
def dec2 (x : TV τ) : Option (Int) := dInt .i64 x
def beq2 (x y : Int) : Bool := (x == y)
def cel3 (x : Int) : List AV := [.v (.int .i64 x)]
def enc3 (x : Int) : TV τ := .int .i64 x
def dec3 (x : TV τ) : Option (Int) := dInt .i64 x
def beq3 (x y : Int) : Bool := (x == y)
def cel4 (x : Bool) : List AV := [.v (.bool x)]
def enc4 (x : Bool) : TV τ := .bool x
def dec4 (x : TV τ) : Option (Bool) := dBool x
def beq4 (x y : Bool) : Bool := (x == y)
def cel5 (x : Int) : List AV := [.v (.int .u8 x)]
def enc5 (x : Int) : TV τ := .int .u8 x
def dec5 (x : TV τ) : Option (Int) := dInt .u8 x
def beq5 (x y : Int) : Bool := (x == y)
def cel9 (x : List UInt8) : List AV := [.v (.string ⟨⟨x⟩⟩)]
def enc9 (x : List UInt8) : TV τ := .str x
def dec9 (x : TV τ) : Option (List UInt8) := dStr x
def beq9 (x y : List UInt8) : Bool := (x == y)
def cel12 (x : Int) : List AV := [.v (.int .u64 x)]
def enc12 (x : Int) : TV τ := .int .u64 x
def dec12 (x : TV τ) : Option (Int) := dInt .u64 x
def beq12 (x y : Int) : Bool := (x == y)
def cel21 (x : Int) : List AV := [.v (.int .i32 x)]
def enc21 (x : Int) : TV τ := .int .i32 x
def dec21 (x : TV τ) : Option (Int) := dInt .i32 x
def beq21 (x y : Int) : Bool := (x == y)
def cel22 (x : Vector (Int) 8) : List AV := x.toList.flatMap cel3
def enc22 (x : Vector (Int) 8) : TV τ := .arr 3 8 x
def dec22 (x : TV τ) : Option (Vector (Int) 8) := dArr 3 8 x
def beq22 (x y : Vector (Int) 8) : Bool := vbeq beq3 x y
def cel23 (x : Vector (Int) 8) : List AV := x.toList.flatMap cel2
def enc23 (x : Vector (Int) 8) : TV τ := .arr 2 8 x
def dec23 (x : TV τ) : Option (Vector (Int) 8) := dArr 2 8 x
def beq23 (x y : Vector (Int) 8) : Bool := vbeq beq2 x y
def cel24 (x : Vector (Int) 8) : List AV := x.toList.flatMap cel2
def enc24 (x : Vector (Int) 8) : TV τ := .arr 2 8 x
def dec24 (x : TV τ) : Option (Vector (Int) 8) := dArr 2 8 x
def beq24 (x y : Vector (Int) 8) : Bool := vbeq beq2 x y
def cel25 (x : GEpoch) : List AV := (cel2 x.Number ++ (cel22 x.States ++ (cel24 x.Seals ++ (cel22 x.Sponsor ++ []))))
def enc25 (x : GEpoch) : TV τ := .agg [enc2 x.Number, enc22 x.States, enc24 x.Seals, enc22 x.Sponsor]
def dec25 (x : TV τ) : Option (GEpoch) := (match x with | .agg [x0, x1, x2, x3] => (match dec2 x0 with | some a0 => (match dec22 x1 with | some a1 => (match dec24 x2 with | some a2 => (match dec22 x3 with | some a3 => some ⟨a0, a1, a2, a3⟩ | none => none) | none => none) | none => none) | none => none) | _ => none)
def beq25 (x y : GEpoch) : Bool := (beq2 x.Number y.Number && (beq22 x.States y.States && (beq24 x.Seals y.Seals && (beq22 x.Sponsor y.Sponsor && true))))
def cel26 (x : GEpoch) : List AV := (cel2 x.Number ++ (cel22 x.States ++ (cel24 x.Seals ++ (cel22 x.Sponsor ++ []))))
def enc26 (x : GEpoch) : TV τ := .agg [enc2 x.Number, enc22 x.States, enc24 x.Seals, enc22 x.Sponsor]
def dec26 (x : TV τ) : Option (GEpoch) := (match x with | .agg [x0, x1, x2, x3] => (match dec2 x0 with | some a0 => (match dec22 x1 with | some a1 => (match dec24 x2 with | some a2 => (match dec22 x3 with | some a3 => some ⟨a0, a1, a2, a3⟩ | none => none) | none => none) | none => none) | none => none) | _ => none)
def beq26 (x y : GEpoch) : Bool := (beq2 x.Number y.Number && (beq22 x.States y.States && (beq24 x.Seals y.Seals && (beq22 x.Sponsor y.Sponsor && true))))
def cel29 (x : GStamp) : List AV := (cel2 x.Time ++ (cel3 x.Site ++ []))
def enc29 (x : GStamp) : TV τ := .agg [enc2 x.Time, enc3 x.Site]
def dec29 (x : TV τ) : Option (GStamp) := (match x with | .agg [x0, x1] => (match dec2 x0 with | some a0 => (match dec3 x1 with | some a1 => some ⟨a0, a1⟩ | none => none) | none => none) | _ => none)
def beq29 (x y : GStamp) : Bool := (beq2 x.Time y.Time && (beq3 x.Site y.Site && true))
def cel30 (x : GStamp) : List AV := (cel2 x.Time ++ (cel3 x.Site ++ []))
def enc30 (x : GStamp) : TV τ := .agg [enc2 x.Time, enc3 x.Site]
def dec30 (x : TV τ) : Option (GStamp) := (match x with | .agg [x0, x1] => (match dec2 x0 with | some a0 => (match dec3 x1 with | some a1 => some ⟨a0, a1⟩ | none => none) | none => none) | _ => none)
def beq30 (x y : GStamp) : Bool := (beq2 x.Time y.Time && (beq3 x.Site y.Site && true))
def cel31 (x : GOp) : List AV := (cel30 x.Stamp ++ (cel3 x.Kind ++ (cel2 x.Node ++ (cel2 x.Parent ++ (cel9 x.Name ++ (cel9 x.Key ++ (cel9 x.Value ++ [])))))))
def enc31 (x : GOp) : TV τ := .agg [enc30 x.Stamp, enc3 x.Kind, enc2 x.Node, enc2 x.Parent, enc9 x.Name, enc9 x.Key, enc9 x.Value]
def dec31 (x : TV τ) : Option (GOp) := (match x with | .agg [x0, x1, x2, x3, x4, x5, x6] => (match dec30 x0 with | some a0 => (match dec3 x1 with | some a1 => (match dec2 x2 with | some a2 => (match dec2 x3 with | some a3 => (match dec9 x4 with | some a4 => (match dec9 x5 with | some a5 => (match dec9 x6 with | some a6 => some ⟨a0, a1, a2, a3, a4, a5, a6⟩ | none => none) | none => none) | none => none) | none => none) | none => none) | none => none) | none => none) | _ => none)
def beq31 (x y : GOp) : Bool := (beq30 x.Stamp y.Stamp && (beq3 x.Kind y.Kind && (beq2 x.Node y.Node && (beq2 x.Parent y.Parent && (beq9 x.Name y.Name && (beq9 x.Key y.Key && (beq9 x.Value y.Value && true)))))))
def cel32 (x : GOp) : List AV := (cel30 x.Stamp ++ (cel3 x.Kind ++ (cel2 x.Node ++ (cel2 x.Parent ++ (cel9 x.Name ++ (cel9 x.Key ++ (cel9 x.Value ++ [])))))))
def enc32 (x : GOp) : TV τ := .agg [enc30 x.Stamp, enc3 x.Kind, enc2 x.Node, enc2 x.Parent, enc9 x.Name, enc9 x.Key, enc9 x.Value]
def dec32 (x : TV τ) : Option (GOp) := (match x with | .agg [x0, x1, x2, x3, x4, x5, x6] => (match dec30 x0 with | some a0 => (match dec3 x1 with | some a1 => (match dec2 x2 with | some a2 => (match dec2 x3 with | some a3 => (match dec9 x4 with | some a4 => (match dec9 x5 with | some a5 => (match dec9 x6 with | some a6 => some ⟨a0, a1, a2, a3, a4, a5, a6⟩ | none => none) | none => none) | none => none) | none => none) | none => none) | none => none) | none => none) | _ => none)
def beq32 (x y : GOp) : Bool := (beq30 x.Stamp y.Stamp && (beq3 x.Kind y.Kind && (beq2 x.Node y.Node && (beq2 x.Parent y.Parent && (beq9 x.Name y.Name && (beq9 x.Key y.Key && (beq9 x.Value y.Value && true)))))))
def cel33 (x : List (GOp)) : List AV := [.asl 8 (x.map cel32)]
def enc33 (x : List (GOp)) : TV τ := .sl 32 x .any
def dec33 (x : TV τ) : Option (List (GOp)) := dSl 32 x
def cel34 (x : List (Int)) : List AV := [.asl 1 (x.map cel5)]
def enc34 (x : List (Int)) : TV τ := .sl 5 x .any
def dec34 (x : TV τ) : Option (List (Int)) := dSl 5 x
def cel35 (x : GPart) : List AV := (cel2 x.Snap ++ (cel3 x.Index ++ (cel3 x.Many ++ (cel34 x.Data ++ []))))
def enc35 (x : GPart) : TV τ := .agg [enc2 x.Snap, enc3 x.Index, enc3 x.Many, enc34 x.Data]
def dec35 (x : TV τ) : Option (GPart) := (match x with | .agg [x0, x1, x2, x3] => (match dec2 x0 with | some a0 => (match dec3 x1 with | some a1 => (match dec3 x2 with | some a2 => (match dec34 x3 with | some a3 => some ⟨a0, a1, a2, a3⟩ | none => none) | none => none) | none => none) | none => none) | _ => none)
def cel36 (x : GPart) : List AV := (cel2 x.Snap ++ (cel3 x.Index ++ (cel3 x.Many ++ (cel34 x.Data ++ []))))
def enc36 (x : GPart) : TV τ := .agg [enc2 x.Snap, enc3 x.Index, enc3 x.Many, enc34 x.Data]
def dec36 (x : TV τ) : Option (GPart) := (match x with | .agg [x0, x1, x2, x3] => (match dec2 x0 with | some a0 => (match dec3 x1 with | some a1 => (match dec3 x2 with | some a2 => (match dec34 x3 with | some a3 => some ⟨a0, a1, a2, a3⟩ | none => none) | none => none) | none => none) | none => none) | _ => none)
def cel37 (x : GEntry) : List AV := (cel3 x.Kind ++ (cel2 x.Session ++ (cel2 x.Request ++ (cel32 x.Op ++ (cel3 x.Origin ++ (cel2 x.Seq ++ (cel33 x.Ops ++ (cel26 x.Epoch ++ (cel3 x.From ++ (cel24 x.Vector_ ++ (cel2 x.Clock ++ (cel36 x.Part ++ (cel3 x.Site ++ (cel3 x.Sponsor ++ (cel2 x.Length ++ [])))))))))))))))
def enc37 (x : GEntry) : TV τ := .agg [enc3 x.Kind, enc2 x.Session, enc2 x.Request, enc32 x.Op, enc3 x.Origin, enc2 x.Seq, enc33 x.Ops, enc26 x.Epoch, enc3 x.From, enc24 x.Vector_, enc2 x.Clock, enc36 x.Part, enc3 x.Site, enc3 x.Sponsor, enc2 x.Length]
def dec37 (x : TV τ) : Option (GEntry) := (match x with | .agg [x0, x1, x2, x3, x4, x5, x6, x7, x8, x9, x10, x11, x12, x13, x14] => (match dec3 x0 with | some a0 => (match dec2 x1 with | some a1 => (match dec2 x2 with | some a2 => (match dec32 x3 with | some a3 => (match dec3 x4 with | some a4 => (match dec2 x5 with | some a5 => (match dec33 x6 with | some a6 => (match dec26 x7 with | some a7 => (match dec3 x8 with | some a8 => (match dec24 x9 with | some a9 => (match dec2 x10 with | some a10 => (match dec36 x11 with | some a11 => (match dec3 x12 with | some a12 => (match dec3 x13 with | some a13 => (match dec2 x14 with | some a14 => some ⟨a0, a1, a2, a3, a4, a5, a6, a7, a8, a9, a10, a11, a12, a13, a14⟩ | none => none) | none => none) | none => none) | none => none) | none => none) | none => none) | none => none) | none => none) | none => none) | none => none) | none => none) | none => none) | none => none) | none => none) | none => none) | _ => none)
def cel38 (x : GEntry) : List AV := (cel3 x.Kind ++ (cel2 x.Session ++ (cel2 x.Request ++ (cel32 x.Op ++ (cel3 x.Origin ++ (cel2 x.Seq ++ (cel33 x.Ops ++ (cel26 x.Epoch ++ (cel3 x.From ++ (cel24 x.Vector_ ++ (cel2 x.Clock ++ (cel36 x.Part ++ (cel3 x.Site ++ (cel3 x.Sponsor ++ (cel2 x.Length ++ [])))))))))))))))
def enc38 (x : GEntry) : TV τ := .agg [enc3 x.Kind, enc2 x.Session, enc2 x.Request, enc32 x.Op, enc3 x.Origin, enc2 x.Seq, enc33 x.Ops, enc26 x.Epoch, enc3 x.From, enc24 x.Vector_, enc2 x.Clock, enc36 x.Part, enc3 x.Site, enc3 x.Sponsor, enc2 x.Length]
def dec38 (x : TV τ) : Option (GEntry) := (match x with | .agg [x0, x1, x2, x3, x4, x5, x6, x7, x8, x9, x10, x11, x12, x13, x14] => (match dec3 x0 with | some a0 => (match dec2 x1 with | some a1 => (match dec2 x2 with | some a2 => (match dec32 x3 with | some a3 => (match dec3 x4 with | some a4 => (match dec2 x5 with | some a5 => (match dec33 x6 with | some a6 => (match dec26 x7 with | some a7 => (match dec3 x8 with | some a8 => (match dec24 x9 with | some a9 => (match dec2 x10 with | some a10 => (match dec36 x11 with | some a11 => (match dec3 x12 with | some a12 => (match dec3 x13 with | some a13 => (match dec2 x14 with | some a14 => some ⟨a0, a1, a2, a3, a4, a5, a6, a7, a8, a9, a10, a11, a12, a13, a14⟩ | none => none) | none => none) | none => none) | none => none) | none => none) | none => none) | none => none) | none => none) | none => none) | none => none) | none => none) | none => none) | none => none) | none => none) | none => none) | _ => none)
def cel39 (x : Int) : List AV := [.v (.int .i64 x)]
def enc39 (x : Int) : TV τ := .int .i64 x
def dec39 (x : TV τ) : Option (Int) := dInt .i64 x
def beq39 (x y : Int) : Bool := (x == y)
def cel45 (x : List (Int)) : List AV := [.asl 1 (x.map cel3)]
def enc45 (x : List (Int)) : TV τ := .sl 3 x .any
def dec45 (x : TV τ) : Option (List (Int)) := dSl 3 x
def cel50 (x : List (GEpoch)) : List AV := [.asl 25 (x.map cel26)]
def enc50 (x : List (GEpoch)) : TV τ := .sl 26 x .any
def dec50 (x : TV τ) : Option (List (GEpoch)) := dSl 26 x
def cel51 (x : Gepoch_Machine) : List AV := (cel50 x.l ++ [])
def enc51 (x : Gepoch_Machine) : TV τ := .agg [enc50 x.l]
def dec51 (x : TV τ) : Option (Gepoch_Machine) := (match x with | .agg [x0] => (match dec50 x0 with | some a0 => some ⟨a0⟩ | none => none) | _ => none)
def cel52 (x : Gepoch_Machine) : List AV := (cel50 x.l ++ [])
def enc52 (x : Gepoch_Machine) : TV τ := .agg [enc50 x.l]
def dec52 (x : TV τ) : Option (Gepoch_Machine) := (match x with | .agg [x0] => (match dec50 x0 with | some a0 => some ⟨a0⟩ | none => none) | _ => none)
def cel70 (x : List (GEntry)) : List AV := [.asl 56 (x.map cel38)]
def enc70 (x : List (GEntry)) : TV τ := .sl 38 x .any
def dec70 (x : TV τ) : Option (List (GEntry)) := dSl 38 x
def cel74 (x : Vector (GEntry) 3) : List AV := x.toList.flatMap cel38
def enc74 (x : Vector (GEntry) 3) : TV τ := .arr 38 3 x
def dec74 (x : TV τ) : Option (Vector (GEntry) 3) := dArr 38 3 x
def cel92 (x : Gorchardref04_Reader) : List AV := (cel34 x.B ++ (cel3 x.At ++ (cel39 x.E ++ [])))
def enc92 (x : Gorchardref04_Reader) : TV τ := .agg [enc34 x.B, enc3 x.At, enc39 x.E]
def dec92 (x : TV τ) : Option (Gorchardref04_Reader) := (match x with | .agg [x0, x1, x2] => (match dec34 x0 with | some a0 => (match dec3 x1 with | some a1 => (match dec39 x2 with | some a2 => some ⟨a0, a1, a2⟩ | none => none) | none => none) | none => none) | _ => none)
def cel93 (x : Gorchardref04_Reader) : List AV := (cel34 x.B ++ (cel3 x.At ++ (cel39 x.E ++ [])))
def enc93 (x : Gorchardref04_Reader) : TV τ := .agg [enc34 x.B, enc3 x.At, enc39 x.E]
def dec93 (x : TV τ) : Option (Gorchardref04_Reader) := (match x with | .agg [x0, x1, x2] => (match dec34 x0 with | some a0 => (match dec3 x1 with | some a1 => (match dec39 x2 with | some a2 => some ⟨a0, a1, a2⟩ | none => none) | none => none) | none => none) | _ => none)
def cel97 (x : Gwire_Writer) : List AV := (cel4 x.made ++ (cel34 x.b ++ []))
def enc97 (x : Gwire_Writer) : TV τ := .agg [enc4 x.made, enc34 x.b]
def dec97 (x : TV τ) : Option (Gwire_Writer) := (match x with | .agg [x0, x1] => (match dec4 x0 with | some a0 => (match dec34 x1 with | some a1 => some ⟨a0, a1⟩ | none => none) | none => none) | _ => none)
def cel98 (x : Gwire_Writer) : List AV := (cel4 x.made ++ (cel34 x.b ++ []))
def enc98 (x : Gwire_Writer) : TV τ := .agg [enc4 x.made, enc34 x.b]
def dec98 (x : TV τ) : Option (Gwire_Writer) := (match x with | .agg [x0, x1] => (match dec4 x0 with | some a0 => (match dec34 x1 with | some a1 => some ⟨a0, a1⟩ | none => none) | none => none) | _ => none)
def cel108 (x : Gwire_Writer) : List AV := (cel4 x.made ++ (cel34 x.b ++ []))
def enc108 (x : Gwire_Writer) : TV τ := .agg [enc4 x.made, enc34 x.b]
def dec108 (x : TV τ) : Option (Gwire_Writer) := (match x with | .agg [x0, x1] => (match dec4 x0 with | some a0 => (match dec34 x1 with | some a1 => some ⟨a0, a1⟩ | none => none) | none => none) | _ => none)
def cel118 (x : List (List (Int))) : List AV := [.asl 1 (x.map cel34)]
def enc118 (x : List (List (Int))) : TV τ := .sl 34 x .any
def dec118 (x : TV τ) : Option (List (List (Int))) := dSl 34 x
def cel119 (x : Int) : List AV := [.v (.int .u64 x)]
def enc119 (x : Int) : TV τ := .int .u64 x
def dec119 (x : TV τ) : Option (Int) := dInt .u64 x
def beq119 (x y : Int) : Bool := (x == y)
def cel120 (x : Int) : List AV := [.v (.int .u64 x)]
def enc120 (x : Int) : TV τ := .int .u64 x
def dec120 (x : TV τ) : Option (Int) := dInt .u64 x
def beq120 (x y : Int) : Bool := (x == y)
def cel126 (x : List (Int)) : List AV := [.asl 1 (x.map cel2)]
def enc126 (x : List (Int)) : TV τ := .sl 2 x .any
def dec126 (x : TV τ) : Option (List (Int)) := dSl 2 x
def cel141 (x : Int) : List AV := [.v (.int .u32 x)]
def enc141 (x : Int) : TV τ := .int .u32 x
def dec141 (x : TV τ) : Option (Int) := dInt .u32 x
def beq141 (x y : Int) : Bool := (x == y)
def celT : (t : Nat) → τ t → List AV
  | 2 => cel2
  | 3 => cel3
  | 4 => cel4
  | 5 => cel5
  | 9 => cel9
  | 12 => cel12
  | 21 => cel21
  | 22 => cel22
  | 23 => cel23
  | 24 => cel24
  | 25 => cel25
  | 26 => cel26
  | 29 => cel29
  | 30 => cel30
  | 31 => cel31
  | 32 => cel32
  | 33 => cel33
  | 34 => cel34
  | 35 => cel35
  | 36 => cel36
  | 37 => cel37
  | 38 => cel38
  | 39 => cel39
  | 45 => cel45
  | 50 => cel50
  | 51 => cel51
  | 52 => cel52
  | 70 => cel70
  | 74 => cel74
  | 92 => cel92
  | 93 => cel93
  | 97 => cel97
  | 98 => cel98
  | 108 => cel108
  | 118 => cel118
  | 119 => cel119
  | 120 => cel120
  | 126 => cel126
  | 141 => cel141
  | _ => fun _ => []
def encT : (t : Nat) → τ t → TV τ
  | 2 => enc2
  | 3 => enc3
  | 4 => enc4
  | 5 => enc5
  | 9 => enc9
  | 12 => enc12
  | 21 => enc21
  | 22 => enc22
  | 23 => enc23
  | 24 => enc24
  | 25 => enc25
  | 26 => enc26
  | 29 => enc29
  | 30 => enc30
  | 31 => enc31
  | 32 => enc32
  | 33 => enc33
  | 34 => enc34
  | 35 => enc35
  | 36 => enc36
  | 37 => enc37
  | 38 => enc38
  | 39 => enc39
  | 45 => enc45
  | 50 => enc50
  | 51 => enc51
  | 52 => enc52
  | 70 => enc70
  | 74 => enc74
  | 92 => enc92
  | 93 => enc93
  | 97 => enc97
  | 98 => enc98
  | 108 => enc108
  | 118 => enc118
  | 119 => enc119
  | 120 => enc120
  | 126 => enc126
  | 141 => enc141
  | _ => fun _ => .agg []
def decT : (t : Nat) → TV τ → Option (τ t)
  | 2 => dec2
  | 3 => dec3
  | 4 => dec4
  | 5 => dec5
  | 9 => dec9
  | 12 => dec12
  | 21 => dec21
  | 22 => dec22
  | 23 => dec23
  | 24 => dec24
  | 25 => dec25
  | 26 => dec26
  | 29 => dec29
  | 30 => dec30
  | 31 => dec31
  | 32 => dec32
  | 33 => dec33
  | 34 => dec34
  | 35 => dec35
  | 36 => dec36
  | 37 => dec37
  | 38 => dec38
  | 39 => dec39
  | 45 => dec45
  | 50 => dec50
  | 51 => dec51
  | 52 => dec52
  | 70 => dec70
  | 74 => dec74
  | 92 => dec92
  | 93 => dec93
  | 97 => dec97
  | 98 => dec98
  | 108 => dec108
  | 118 => dec118
  | 119 => dec119
  | 120 => dec120
  | 126 => dec126
  | 141 => dec141
  | _ => fun _ => none
theorem dfN (t : Nat) : Nonempty (τ t) := by unfold τ; split <;> exact ⟨default⟩
noncomputable def dfX (t : Nat) : τ t := Classical.choice (dfN t)
noncomputable def dfT : (t : Nat) → τ t
  | 2 => (default : Int)
  | 3 => (default : Int)
  | 4 => (default : Bool)
  | 5 => (default : Int)
  | 9 => (default : List UInt8)
  | 12 => (default : Int)
  | 21 => (default : Int)
  | 22 => (default : Vector (Int) 8)
  | 23 => (default : Vector (Int) 8)
  | 24 => (default : Vector (Int) 8)
  | 25 => (default : GEpoch)
  | 26 => (default : GEpoch)
  | 29 => (default : GStamp)
  | 30 => (default : GStamp)
  | 31 => (default : GOp)
  | 32 => (default : GOp)
  | 33 => (default : List (GOp))
  | 34 => (default : List (Int))
  | 35 => (default : GPart)
  | 36 => (default : GPart)
  | 37 => (default : GEntry)
  | 38 => (default : GEntry)
  | 39 => (default : Int)
  | 45 => (default : List (Int))
  | 50 => (default : List (GEpoch))
  | 51 => (default : Gepoch_Machine)
  | 52 => (default : Gepoch_Machine)
  | 70 => (default : List (GEntry))
  | 74 => (default : Vector (GEntry) 3)
  | 92 => (default : Gorchardref04_Reader)
  | 93 => (default : Gorchardref04_Reader)
  | 97 => (default : Gwire_Writer)
  | 98 => (default : Gwire_Writer)
  | 108 => (default : Gwire_Writer)
  | 118 => (default : List (List (Int)))
  | 119 => (default : Int)
  | 120 => (default : Int)
  | 126 => (default : List (Int))
  | 141 => (default : Int)
  | t => dfX t
def szT : Nat → Nat
  | 2 => 1
  | 3 => 1
  | 4 => 1
  | 5 => 1
  | 9 => 1
  | 12 => 1
  | 21 => 1
  | 22 => 8
  | 23 => 8
  | 24 => 8
  | 25 => 25
  | 26 => 25
  | 29 => 2
  | 30 => 2
  | 31 => 8
  | 32 => 8
  | 33 => 1
  | 34 => 1
  | 35 => 4
  | 36 => 4
  | 37 => 56
  | 38 => 56
  | 39 => 1
  | 45 => 1
  | 50 => 1
  | 51 => 1
  | 52 => 1
  | 70 => 1
  | 74 => 168
  | 92 => 3
  | 93 => 3
  | 97 => 2
  | 98 => 2
  | 108 => 2
  | 118 => 1
  | 119 => 1
  | 120 => 1
  | 126 => 1
  | 141 => 1
  | _ => 0
def kdT : Nat → Option (List Kd)
  | 2 => some [.i]
  | 3 => some [.i]
  | 4 => some [.b]
  | 5 => some [.i]
  | 9 => some [.s]
  | 12 => some [.i]
  | 21 => some [.i]
  | 22 => some [.i, .i, .i, .i, .i, .i, .i, .i]
  | 23 => some [.i, .i, .i, .i, .i, .i, .i, .i]
  | 24 => some [.i, .i, .i, .i, .i, .i, .i, .i]
  | 25 => some [.i, .i, .i, .i, .i, .i, .i, .i, .i, .i, .i, .i, .i, .i, .i, .i, .i, .i, .i, .i, .i, .i, .i, .i, .i]
  | 26 => some [.i, .i, .i, .i, .i, .i, .i, .i, .i, .i, .i, .i, .i, .i, .i, .i, .i, .i, .i, .i, .i, .i, .i, .i, .i]
  | 29 => some [.i, .i]
  | 30 => some [.i, .i]
  | 31 => some [.i, .i, .i, .i, .i, .s, .s, .s]
  | 32 => some [.i, .i, .i, .i, .i, .s, .s, .s]
  | 39 => some [.i]
  | 119 => some [.i]
  | 120 => some [.i]
  | 141 => some [.i]
  | _ => none
def beqT : (t : Nat) → τ t → τ t → Bool
  | 2 => beq2
  | 3 => beq3
  | 4 => beq4
  | 5 => beq5
  | 9 => beq9
  | 12 => beq12
  | 21 => beq21
  | 22 => beq22
  | 23 => beq23
  | 24 => beq24
  | 25 => beq25
  | 26 => beq26
  | 29 => beq29
  | 30 => beq30
  | 31 => beq31
  | 32 => beq32
  | 39 => beq39
  | 119 => beq119
  | 120 => beq120
  | 141 => beq141
  | _ => fun _ _ => false
def b2sT : (t : Nat) → List (τ t) → Option (List UInt8)
  | 5 => fun (l : List Int) => some (strI l)
  | _ => fun _ => none
def s2bT : (t : Nat) → List UInt8 → Option (List (τ t))
  | 5 => fun s => some (bytesI s)
  | _ => fun _ => none
noncomputable def siteT : Nat → Nat → Array Tmp × Code × Code := fun f k => bif Nat.beq f 6 then siteFn Try.f6 k else (#[], .skip, .skip)
noncomputable def C : Cod τ := ⟨celT, encT, decT, dfT, szT, kdT, beqT, b2sT, s2bT, siteT⟩
theorem law2 : CodAt C 2 := ⟨fun x => rfl, fun x => rfl, fun x a h => by rw [dInt_x (show dInt .i64 x = some a from h)]; exact .refl _, fun x => rfl, fun x a h => by rw [dInt_x (show dInt .i64 x = some a from h)]; rfl, fun x a h => by rw [dInt_x (show dInt .i64 x = some a from h)]; rfl, fun a => rfl, fun a => noids_one (NoId.v _), fun ks h a b => by cases h; simp [eqCells, scal, C, celT, cel2, beqT, beq2], (fun l s h => nomatch h), (fun s l h => nomatch h)⟩
theorem law3 : CodAt C 3 := ⟨fun x => rfl, fun x => rfl, fun x a h => by rw [dInt_x (show dInt .i64 x = some a from h)]; exact .refl _, fun x => rfl, fun x a h => by rw [dInt_x (show dInt .i64 x = some a from h)]; rfl, fun x a h => by rw [dInt_x (show dInt .i64 x = some a from h)]; rfl, fun a => rfl, fun a => noids_one (NoId.v _), fun ks h a b => by cases h; simp [eqCells, scal, C, celT, cel3, beqT, beq3], (fun l s h => nomatch h), (fun s l h => nomatch h)⟩
theorem law4 : CodAt C 4 := ⟨fun x => rfl, fun x => rfl, fun x a h => by rw [dBool_x (show dBool x = some a from h)]; exact .refl _, fun x => rfl, fun x a h => by rw [dBool_x (show dBool x = some a from h)]; rfl, fun x a h => by rw [dBool_x (show dBool x = some a from h)]; rfl, fun a => rfl, fun a => noids_one (NoId.v _), fun ks h a b => by cases h; simp [eqCells, scal, C, celT, cel4, beqT, beq4], (fun l s h => nomatch h), (fun s l h => nomatch h)⟩
theorem law5 : CodAt C 5 := ⟨fun x => rfl, fun x => rfl, fun x a h => by rw [dInt_x (show dInt .u8 x = some a from h)]; exact .refl _, fun x => rfl, fun x a h => by rw [dInt_x (show dInt .u8 x = some a from h)]; rfl, fun x a h => by rw [dInt_x (show dInt .u8 x = some a from h)]; rfl, fun a => rfl, fun a => noids_one (NoId.v _), fun ks h a b => by cases h; simp [eqCells, scal, C, celT, cel5, beqT, beq5], fun l s h => ⟨rfl, (unbytes_int l).trans h⟩, fun s l h => ⟨rfl, by cases h; show (bytesI s).map cel5 = _; simp [bytesI, cel5, byteCell]⟩⟩
theorem law9 : CodAt C 9 := ⟨fun x => rfl, fun x => rfl, fun x a h => by rw [dStr_x (show dStr x = some a from h)]; exact .refl _, fun x => rfl, fun x a h => by rw [dStr_x (show dStr x = some a from h)]; rfl, fun x a h => by rw [dStr_x (show dStr x = some a from h)]; rfl, fun a => rfl, fun a => noids_one (NoId.v _), fun ks h a b => by cases h; simp [eqCells, scal, C, celT, cel9, beqT, beq9], (fun l s h => nomatch h), (fun s l h => nomatch h)⟩
theorem law12 : CodAt C 12 := ⟨fun x => rfl, fun x => rfl, fun x a h => by rw [dInt_x (show dInt .u64 x = some a from h)]; exact .refl _, fun x => rfl, fun x a h => by rw [dInt_x (show dInt .u64 x = some a from h)]; rfl, fun x a h => by rw [dInt_x (show dInt .u64 x = some a from h)]; rfl, fun a => rfl, fun a => noids_one (NoId.v _), fun ks h a b => by cases h; simp [eqCells, scal, C, celT, cel12, beqT, beq12], (fun l s h => nomatch h), (fun s l h => nomatch h)⟩
theorem law21 : CodAt C 21 := ⟨fun x => rfl, fun x => rfl, fun x a h => by rw [dInt_x (show dInt .i32 x = some a from h)]; exact .refl _, fun x => rfl, fun x a h => by rw [dInt_x (show dInt .i32 x = some a from h)]; rfl, fun x a h => by rw [dInt_x (show dInt .i32 x = some a from h)]; rfl, fun a => rfl, fun a => noids_one (NoId.v _), fun ks h a b => by cases h; simp [eqCells, scal, C, celT, cel21, beqT, beq21], (fun l s h => nomatch h), (fun s l h => nomatch h)⟩
theorem law22 : CodAt C 22 := ⟨fun x => rfl, fun x => length_flat law3 x, fun x a h => by rw [dArr_x (show dArr 3 8 x = some a from h)]; exact .refl _, fun x => rfl, fun x a h => by rw [dArr_x (show dArr 3 8 x = some a from h)]; rfl, fun x a h => by rw [dArr_x (show dArr 3 8 x = some a from h)]; rfl, fun a => one_flat law3 a.toList, fun a => noid_flat law3 a.toList, fun ks h a b => by have := eqCells_arr' law3 (show C.kd 3 = some _ from rfl) a.toList b.toList (by simp); simp only [Vector.length_toList] at this; cases h; exact this, (fun l s h => nomatch h), (fun s l h => nomatch h)⟩
theorem law23 : CodAt C 23 := ⟨fun x => rfl, fun x => length_flat law2 x, fun x a h => by rw [dArr_x (show dArr 2 8 x = some a from h)]; exact .refl _, fun x => rfl, fun x a h => by rw [dArr_x (show dArr 2 8 x = some a from h)]; rfl, fun x a h => by rw [dArr_x (show dArr 2 8 x = some a from h)]; rfl, fun a => one_flat law2 a.toList, fun a => noid_flat law2 a.toList, fun ks h a b => by have := eqCells_arr' law2 (show C.kd 2 = some _ from rfl) a.toList b.toList (by simp); simp only [Vector.length_toList] at this; cases h; exact this, (fun l s h => nomatch h), (fun s l h => nomatch h)⟩
theorem law24 : CodAt C 24 := ⟨fun x => rfl, fun x => length_flat law2 x, fun x a h => by rw [dArr_x (show dArr 2 8 x = some a from h)]; exact .refl _, fun x => rfl, fun x a h => by rw [dArr_x (show dArr 2 8 x = some a from h)]; rfl, fun x a h => by rw [dArr_x (show dArr 2 8 x = some a from h)]; rfl, fun a => one_flat law2 a.toList, fun a => noid_flat law2 a.toList, fun ks h a b => by have := eqCells_arr' law2 (show C.kd 2 = some _ from rfl) a.toList b.toList (by simp); simp only [Vector.length_toList] at this; cases h; exact this, (fun l s h => nomatch h), (fun s l h => nomatch h)⟩
theorem decx25 {x : TV τ} {a : GEpoch} (h : dec25 x = some a) : ∃ x0 x1 x2 x3, x = .agg [x0, x1, x2, x3] ∧ dec2 x0 = some a.Number ∧ dec22 x1 = some a.States ∧ dec24 x2 = some a.Seals ∧ dec22 x3 = some a.Sponsor := by
  unfold dec25 at h
  split at h
  · rename_i x0 x1 x2 x3
    split at h
    · rename_i a0 h0
      split at h
      · rename_i a1 h1
        split at h
        · rename_i a2 h2
          split at h
          · rename_i a3 h3
            cases h
            exact ⟨_, _, _, _, rfl, h0, h1, h2, h3⟩
          · cases h
        · cases h
      · cases h
    · cases h
  · cases h
theorem law25 : CodAt C 25 := ⟨fun x => by show ((enc2 x.Number).cells C ++ ((enc22 x.States).cells C ++ ((enc24 x.Seals).cells C ++ ((enc22 x.Sponsor).cells C ++ [])))) = cel25 x; unfold cel25; exact congr (congrArg (· ++ ·) (law2.cel x.Number)) (congr (congrArg (· ++ ·) (law22.cel x.States)) (congr (congrArg (· ++ ·) (law24.cel x.Seals)) (congr (congrArg (· ++ ·) (law22.cel x.Sponsor)) (rfl)))), fun x => by show ((cel2 x.Number ++ (cel22 x.States ++ (cel24 x.Seals ++ (cel22 x.Sponsor ++ []))))).length = 25; rw [List.length_append, List.length_append, List.length_append, List.length_append]; have e0 : (cel2 x.Number).length = 1 := law2.len x.Number; have e1 : (cel22 x.States).length = 8 := law22.len x.States; have e2 : (cel24 x.Seals).length = 8 := law24.len x.Seals; have e3 : (cel22 x.Sponsor).length = 8 := law22.len x.Sponsor; simp only [e0, e1, e2, e3, List.length_nil], fun x a h => by obtain ⟨x0, x1, x2, x3, rfl, h0, h1, h2, h3⟩ := decx25 (show dec25 x = some a from h); exact CW.append (law2.dec _ _ h0) (CW.append (law22.dec _ _ h1) (CW.append (law24.dec _ _ h2) (CW.append (law22.dec _ _ h3) (CW.refl [])))), fun x => by show (((enc2 x.Number).ok && ((enc22 x.States).ok && ((enc24 x.Seals).ok && ((enc22 x.Sponsor).ok && true))))) = true; simp only [show (enc2 x.Number).ok = true from law2.ok _, show (enc22 x.States).ok = true from law22.ok _, show (enc24 x.Seals).ok = true from law24.ok _, show (enc22 x.Sponsor).ok = true from law22.ok _, Bool.and_self], fun x a h => by obtain ⟨x0, x1, x2, x3, rfl, h0, h1, h2, h3⟩ := decx25 (show dec25 x = some a from h); show ((x0.ok && (x1.ok && (x2.ok && (x3.ok && true))))) = true; simp only [law2.decok _ _ h0, law22.decok _ _ h1, law24.decok _ _ h2, law22.decok _ _ h3, Bool.and_self], fun x a h => by obtain ⟨x0, x1, x2, x3, rfl, h0, h1, h2, h3⟩ := decx25 (show dec25 x = some a from h); rfl, fun x => by show ((cel2 x.Number ++ (cel22 x.States ++ (cel24 x.Seals ++ (cel22 x.Sponsor ++ []))))).all AV.one = true; simp only [List.all_append, List.all_nil, show (cel2 x.Number).all AV.one = true from law2.one _, show (cel22 x.States).all AV.one = true from law22.one _, show (cel24 x.Seals).all AV.one = true from law24.one _, show (cel22 x.Sponsor).all AV.one = true from law22.one _, Bool.and_self], fun x => noids_app (law2.noid x.Number) (noids_app (law22.noid x.States) (noids_app (law24.noid x.Seals) (noids_app (law22.noid x.Sponsor) (trivial)))), fun ks h a b => by have := eqCells_append (law2.kd _ rfl a.Number b.Number) (eqCells_append (law22.kd _ rfl a.States b.States) (eqCells_append (law24.kd _ rfl a.Seals b.Seals) (eqCells_append (law22.kd _ rfl a.Sponsor b.Sponsor) ((show eqCells [] [] [] = some true from rfl))))); cases h; exact this, (fun l s h => nomatch h), (fun s l h => nomatch h)⟩
theorem decx26 {x : TV τ} {a : GEpoch} (h : dec26 x = some a) : ∃ x0 x1 x2 x3, x = .agg [x0, x1, x2, x3] ∧ dec2 x0 = some a.Number ∧ dec22 x1 = some a.States ∧ dec24 x2 = some a.Seals ∧ dec22 x3 = some a.Sponsor := by
  unfold dec26 at h
  split at h
  · rename_i x0 x1 x2 x3
    split at h
    · rename_i a0 h0
      split at h
      · rename_i a1 h1
        split at h
        · rename_i a2 h2
          split at h
          · rename_i a3 h3
            cases h
            exact ⟨_, _, _, _, rfl, h0, h1, h2, h3⟩
          · cases h
        · cases h
      · cases h
    · cases h
  · cases h
theorem law26 : CodAt C 26 := ⟨fun x => by show ((enc2 x.Number).cells C ++ ((enc22 x.States).cells C ++ ((enc24 x.Seals).cells C ++ ((enc22 x.Sponsor).cells C ++ [])))) = cel26 x; unfold cel26; exact congr (congrArg (· ++ ·) (law2.cel x.Number)) (congr (congrArg (· ++ ·) (law22.cel x.States)) (congr (congrArg (· ++ ·) (law24.cel x.Seals)) (congr (congrArg (· ++ ·) (law22.cel x.Sponsor)) (rfl)))), fun x => by show ((cel2 x.Number ++ (cel22 x.States ++ (cel24 x.Seals ++ (cel22 x.Sponsor ++ []))))).length = 25; rw [List.length_append, List.length_append, List.length_append, List.length_append]; have e0 : (cel2 x.Number).length = 1 := law2.len x.Number; have e1 : (cel22 x.States).length = 8 := law22.len x.States; have e2 : (cel24 x.Seals).length = 8 := law24.len x.Seals; have e3 : (cel22 x.Sponsor).length = 8 := law22.len x.Sponsor; simp only [e0, e1, e2, e3, List.length_nil], fun x a h => by obtain ⟨x0, x1, x2, x3, rfl, h0, h1, h2, h3⟩ := decx26 (show dec26 x = some a from h); exact CW.append (law2.dec _ _ h0) (CW.append (law22.dec _ _ h1) (CW.append (law24.dec _ _ h2) (CW.append (law22.dec _ _ h3) (CW.refl [])))), fun x => by show (((enc2 x.Number).ok && ((enc22 x.States).ok && ((enc24 x.Seals).ok && ((enc22 x.Sponsor).ok && true))))) = true; simp only [show (enc2 x.Number).ok = true from law2.ok _, show (enc22 x.States).ok = true from law22.ok _, show (enc24 x.Seals).ok = true from law24.ok _, show (enc22 x.Sponsor).ok = true from law22.ok _, Bool.and_self], fun x a h => by obtain ⟨x0, x1, x2, x3, rfl, h0, h1, h2, h3⟩ := decx26 (show dec26 x = some a from h); show ((x0.ok && (x1.ok && (x2.ok && (x3.ok && true))))) = true; simp only [law2.decok _ _ h0, law22.decok _ _ h1, law24.decok _ _ h2, law22.decok _ _ h3, Bool.and_self], fun x a h => by obtain ⟨x0, x1, x2, x3, rfl, h0, h1, h2, h3⟩ := decx26 (show dec26 x = some a from h); rfl, fun x => by show ((cel2 x.Number ++ (cel22 x.States ++ (cel24 x.Seals ++ (cel22 x.Sponsor ++ []))))).all AV.one = true; simp only [List.all_append, List.all_nil, show (cel2 x.Number).all AV.one = true from law2.one _, show (cel22 x.States).all AV.one = true from law22.one _, show (cel24 x.Seals).all AV.one = true from law24.one _, show (cel22 x.Sponsor).all AV.one = true from law22.one _, Bool.and_self], fun x => noids_app (law2.noid x.Number) (noids_app (law22.noid x.States) (noids_app (law24.noid x.Seals) (noids_app (law22.noid x.Sponsor) (trivial)))), fun ks h a b => by have := eqCells_append (law2.kd _ rfl a.Number b.Number) (eqCells_append (law22.kd _ rfl a.States b.States) (eqCells_append (law24.kd _ rfl a.Seals b.Seals) (eqCells_append (law22.kd _ rfl a.Sponsor b.Sponsor) ((show eqCells [] [] [] = some true from rfl))))); cases h; exact this, (fun l s h => nomatch h), (fun s l h => nomatch h)⟩
theorem decx29 {x : TV τ} {a : GStamp} (h : dec29 x = some a) : ∃ x0 x1, x = .agg [x0, x1] ∧ dec2 x0 = some a.Time ∧ dec3 x1 = some a.Site := by
  unfold dec29 at h
  split at h
  · rename_i x0 x1
    split at h
    · rename_i a0 h0
      split at h
      · rename_i a1 h1
        cases h
        exact ⟨_, _, rfl, h0, h1⟩
      · cases h
    · cases h
  · cases h
theorem law29 : CodAt C 29 := ⟨fun x => by show ((enc2 x.Time).cells C ++ ((enc3 x.Site).cells C ++ [])) = cel29 x; unfold cel29; exact congr (congrArg (· ++ ·) (law2.cel x.Time)) (congr (congrArg (· ++ ·) (law3.cel x.Site)) (rfl)), fun x => by show ((cel2 x.Time ++ (cel3 x.Site ++ []))).length = 2; rw [List.length_append, List.length_append]; have e0 : (cel2 x.Time).length = 1 := law2.len x.Time; have e1 : (cel3 x.Site).length = 1 := law3.len x.Site; simp only [e0, e1, List.length_nil], fun x a h => by obtain ⟨x0, x1, rfl, h0, h1⟩ := decx29 (show dec29 x = some a from h); exact CW.append (law2.dec _ _ h0) (CW.append (law3.dec _ _ h1) (CW.refl [])), fun x => by show (((enc2 x.Time).ok && ((enc3 x.Site).ok && true))) = true; simp only [show (enc2 x.Time).ok = true from law2.ok _, show (enc3 x.Site).ok = true from law3.ok _, Bool.and_self], fun x a h => by obtain ⟨x0, x1, rfl, h0, h1⟩ := decx29 (show dec29 x = some a from h); show ((x0.ok && (x1.ok && true))) = true; simp only [law2.decok _ _ h0, law3.decok _ _ h1, Bool.and_self], fun x a h => by obtain ⟨x0, x1, rfl, h0, h1⟩ := decx29 (show dec29 x = some a from h); rfl, fun x => by show ((cel2 x.Time ++ (cel3 x.Site ++ []))).all AV.one = true; simp only [List.all_append, List.all_nil, show (cel2 x.Time).all AV.one = true from law2.one _, show (cel3 x.Site).all AV.one = true from law3.one _, Bool.and_self], fun x => noids_app (law2.noid x.Time) (noids_app (law3.noid x.Site) (trivial)), fun ks h a b => by have := eqCells_append (law2.kd _ rfl a.Time b.Time) (eqCells_append (law3.kd _ rfl a.Site b.Site) ((show eqCells [] [] [] = some true from rfl))); cases h; exact this, (fun l s h => nomatch h), (fun s l h => nomatch h)⟩
theorem decx30 {x : TV τ} {a : GStamp} (h : dec30 x = some a) : ∃ x0 x1, x = .agg [x0, x1] ∧ dec2 x0 = some a.Time ∧ dec3 x1 = some a.Site := by
  unfold dec30 at h
  split at h
  · rename_i x0 x1
    split at h
    · rename_i a0 h0
      split at h
      · rename_i a1 h1
        cases h
        exact ⟨_, _, rfl, h0, h1⟩
      · cases h
    · cases h
  · cases h
theorem law30 : CodAt C 30 := ⟨fun x => by show ((enc2 x.Time).cells C ++ ((enc3 x.Site).cells C ++ [])) = cel30 x; unfold cel30; exact congr (congrArg (· ++ ·) (law2.cel x.Time)) (congr (congrArg (· ++ ·) (law3.cel x.Site)) (rfl)), fun x => by show ((cel2 x.Time ++ (cel3 x.Site ++ []))).length = 2; rw [List.length_append, List.length_append]; have e0 : (cel2 x.Time).length = 1 := law2.len x.Time; have e1 : (cel3 x.Site).length = 1 := law3.len x.Site; simp only [e0, e1, List.length_nil], fun x a h => by obtain ⟨x0, x1, rfl, h0, h1⟩ := decx30 (show dec30 x = some a from h); exact CW.append (law2.dec _ _ h0) (CW.append (law3.dec _ _ h1) (CW.refl [])), fun x => by show (((enc2 x.Time).ok && ((enc3 x.Site).ok && true))) = true; simp only [show (enc2 x.Time).ok = true from law2.ok _, show (enc3 x.Site).ok = true from law3.ok _, Bool.and_self], fun x a h => by obtain ⟨x0, x1, rfl, h0, h1⟩ := decx30 (show dec30 x = some a from h); show ((x0.ok && (x1.ok && true))) = true; simp only [law2.decok _ _ h0, law3.decok _ _ h1, Bool.and_self], fun x a h => by obtain ⟨x0, x1, rfl, h0, h1⟩ := decx30 (show dec30 x = some a from h); rfl, fun x => by show ((cel2 x.Time ++ (cel3 x.Site ++ []))).all AV.one = true; simp only [List.all_append, List.all_nil, show (cel2 x.Time).all AV.one = true from law2.one _, show (cel3 x.Site).all AV.one = true from law3.one _, Bool.and_self], fun x => noids_app (law2.noid x.Time) (noids_app (law3.noid x.Site) (trivial)), fun ks h a b => by have := eqCells_append (law2.kd _ rfl a.Time b.Time) (eqCells_append (law3.kd _ rfl a.Site b.Site) ((show eqCells [] [] [] = some true from rfl))); cases h; exact this, (fun l s h => nomatch h), (fun s l h => nomatch h)⟩
theorem decx31 {x : TV τ} {a : GOp} (h : dec31 x = some a) : ∃ x0 x1 x2 x3 x4 x5 x6, x = .agg [x0, x1, x2, x3, x4, x5, x6] ∧ dec30 x0 = some a.Stamp ∧ dec3 x1 = some a.Kind ∧ dec2 x2 = some a.Node ∧ dec2 x3 = some a.Parent ∧ dec9 x4 = some a.Name ∧ dec9 x5 = some a.Key ∧ dec9 x6 = some a.Value := by
  unfold dec31 at h
  split at h
  · rename_i x0 x1 x2 x3 x4 x5 x6
    split at h
    · rename_i a0 h0
      split at h
      · rename_i a1 h1
        split at h
        · rename_i a2 h2
          split at h
          · rename_i a3 h3
            split at h
            · rename_i a4 h4
              split at h
              · rename_i a5 h5
                split at h
                · rename_i a6 h6
                  cases h
                  exact ⟨_, _, _, _, _, _, _, rfl, h0, h1, h2, h3, h4, h5, h6⟩
                · cases h
              · cases h
            · cases h
          · cases h
        · cases h
      · cases h
    · cases h
  · cases h
theorem law31 : CodAt C 31 := ⟨fun x => by show ((enc30 x.Stamp).cells C ++ ((enc3 x.Kind).cells C ++ ((enc2 x.Node).cells C ++ ((enc2 x.Parent).cells C ++ ((enc9 x.Name).cells C ++ ((enc9 x.Key).cells C ++ ((enc9 x.Value).cells C ++ []))))))) = cel31 x; unfold cel31; exact congr (congrArg (· ++ ·) (law30.cel x.Stamp)) (congr (congrArg (· ++ ·) (law3.cel x.Kind)) (congr (congrArg (· ++ ·) (law2.cel x.Node)) (congr (congrArg (· ++ ·) (law2.cel x.Parent)) (congr (congrArg (· ++ ·) (law9.cel x.Name)) (congr (congrArg (· ++ ·) (law9.cel x.Key)) (congr (congrArg (· ++ ·) (law9.cel x.Value)) (rfl))))))), fun x => by show ((cel30 x.Stamp ++ (cel3 x.Kind ++ (cel2 x.Node ++ (cel2 x.Parent ++ (cel9 x.Name ++ (cel9 x.Key ++ (cel9 x.Value ++ [])))))))).length = 8; rw [List.length_append, List.length_append, List.length_append, List.length_append, List.length_append, List.length_append, List.length_append]; have e0 : (cel30 x.Stamp).length = 2 := law30.len x.Stamp; have e1 : (cel3 x.Kind).length = 1 := law3.len x.Kind; have e2 : (cel2 x.Node).length = 1 := law2.len x.Node; have e3 : (cel2 x.Parent).length = 1 := law2.len x.Parent; have e4 : (cel9 x.Name).length = 1 := law9.len x.Name; have e5 : (cel9 x.Key).length = 1 := law9.len x.Key; have e6 : (cel9 x.Value).length = 1 := law9.len x.Value; simp only [e0, e1, e2, e3, e4, e5, e6, List.length_nil], fun x a h => by obtain ⟨x0, x1, x2, x3, x4, x5, x6, rfl, h0, h1, h2, h3, h4, h5, h6⟩ := decx31 (show dec31 x = some a from h); exact CW.append (law30.dec _ _ h0) (CW.append (law3.dec _ _ h1) (CW.append (law2.dec _ _ h2) (CW.append (law2.dec _ _ h3) (CW.append (law9.dec _ _ h4) (CW.append (law9.dec _ _ h5) (CW.append (law9.dec _ _ h6) (CW.refl []))))))), fun x => by show (((enc30 x.Stamp).ok && ((enc3 x.Kind).ok && ((enc2 x.Node).ok && ((enc2 x.Parent).ok && ((enc9 x.Name).ok && ((enc9 x.Key).ok && ((enc9 x.Value).ok && true)))))))) = true; simp only [show (enc30 x.Stamp).ok = true from law30.ok _, show (enc3 x.Kind).ok = true from law3.ok _, show (enc2 x.Node).ok = true from law2.ok _, show (enc2 x.Parent).ok = true from law2.ok _, show (enc9 x.Name).ok = true from law9.ok _, show (enc9 x.Key).ok = true from law9.ok _, show (enc9 x.Value).ok = true from law9.ok _, Bool.and_self], fun x a h => by obtain ⟨x0, x1, x2, x3, x4, x5, x6, rfl, h0, h1, h2, h3, h4, h5, h6⟩ := decx31 (show dec31 x = some a from h); show ((x0.ok && (x1.ok && (x2.ok && (x3.ok && (x4.ok && (x5.ok && (x6.ok && true)))))))) = true; simp only [law30.decok _ _ h0, law3.decok _ _ h1, law2.decok _ _ h2, law2.decok _ _ h3, law9.decok _ _ h4, law9.decok _ _ h5, law9.decok _ _ h6, Bool.and_self], fun x a h => by obtain ⟨x0, x1, x2, x3, x4, x5, x6, rfl, h0, h1, h2, h3, h4, h5, h6⟩ := decx31 (show dec31 x = some a from h); rfl, fun x => by show ((cel30 x.Stamp ++ (cel3 x.Kind ++ (cel2 x.Node ++ (cel2 x.Parent ++ (cel9 x.Name ++ (cel9 x.Key ++ (cel9 x.Value ++ [])))))))).all AV.one = true; simp only [List.all_append, List.all_nil, show (cel30 x.Stamp).all AV.one = true from law30.one _, show (cel3 x.Kind).all AV.one = true from law3.one _, show (cel2 x.Node).all AV.one = true from law2.one _, show (cel2 x.Parent).all AV.one = true from law2.one _, show (cel9 x.Name).all AV.one = true from law9.one _, show (cel9 x.Key).all AV.one = true from law9.one _, show (cel9 x.Value).all AV.one = true from law9.one _, Bool.and_self], fun x => noids_app (law30.noid x.Stamp) (noids_app (law3.noid x.Kind) (noids_app (law2.noid x.Node) (noids_app (law2.noid x.Parent) (noids_app (law9.noid x.Name) (noids_app (law9.noid x.Key) (noids_app (law9.noid x.Value) (trivial))))))), fun ks h a b => by have := eqCells_append (law30.kd _ rfl a.Stamp b.Stamp) (eqCells_append (law3.kd _ rfl a.Kind b.Kind) (eqCells_append (law2.kd _ rfl a.Node b.Node) (eqCells_append (law2.kd _ rfl a.Parent b.Parent) (eqCells_append (law9.kd _ rfl a.Name b.Name) (eqCells_append (law9.kd _ rfl a.Key b.Key) (eqCells_append (law9.kd _ rfl a.Value b.Value) ((show eqCells [] [] [] = some true from rfl)))))))); cases h; exact this, (fun l s h => nomatch h), (fun s l h => nomatch h)⟩
theorem decx32 {x : TV τ} {a : GOp} (h : dec32 x = some a) : ∃ x0 x1 x2 x3 x4 x5 x6, x = .agg [x0, x1, x2, x3, x4, x5, x6] ∧ dec30 x0 = some a.Stamp ∧ dec3 x1 = some a.Kind ∧ dec2 x2 = some a.Node ∧ dec2 x3 = some a.Parent ∧ dec9 x4 = some a.Name ∧ dec9 x5 = some a.Key ∧ dec9 x6 = some a.Value := by
  unfold dec32 at h
  split at h
  · rename_i x0 x1 x2 x3 x4 x5 x6
    split at h
    · rename_i a0 h0
      split at h
      · rename_i a1 h1
        split at h
        · rename_i a2 h2
          split at h
          · rename_i a3 h3
            split at h
            · rename_i a4 h4
              split at h
              · rename_i a5 h5
                split at h
                · rename_i a6 h6
                  cases h
                  exact ⟨_, _, _, _, _, _, _, rfl, h0, h1, h2, h3, h4, h5, h6⟩
                · cases h
              · cases h
            · cases h
          · cases h
        · cases h
      · cases h
    · cases h
  · cases h
theorem law32 : CodAt C 32 := ⟨fun x => by show ((enc30 x.Stamp).cells C ++ ((enc3 x.Kind).cells C ++ ((enc2 x.Node).cells C ++ ((enc2 x.Parent).cells C ++ ((enc9 x.Name).cells C ++ ((enc9 x.Key).cells C ++ ((enc9 x.Value).cells C ++ []))))))) = cel32 x; unfold cel32; exact congr (congrArg (· ++ ·) (law30.cel x.Stamp)) (congr (congrArg (· ++ ·) (law3.cel x.Kind)) (congr (congrArg (· ++ ·) (law2.cel x.Node)) (congr (congrArg (· ++ ·) (law2.cel x.Parent)) (congr (congrArg (· ++ ·) (law9.cel x.Name)) (congr (congrArg (· ++ ·) (law9.cel x.Key)) (congr (congrArg (· ++ ·) (law9.cel x.Value)) (rfl))))))), fun x => by show ((cel30 x.Stamp ++ (cel3 x.Kind ++ (cel2 x.Node ++ (cel2 x.Parent ++ (cel9 x.Name ++ (cel9 x.Key ++ (cel9 x.Value ++ [])))))))).length = 8; rw [List.length_append, List.length_append, List.length_append, List.length_append, List.length_append, List.length_append, List.length_append]; have e0 : (cel30 x.Stamp).length = 2 := law30.len x.Stamp; have e1 : (cel3 x.Kind).length = 1 := law3.len x.Kind; have e2 : (cel2 x.Node).length = 1 := law2.len x.Node; have e3 : (cel2 x.Parent).length = 1 := law2.len x.Parent; have e4 : (cel9 x.Name).length = 1 := law9.len x.Name; have e5 : (cel9 x.Key).length = 1 := law9.len x.Key; have e6 : (cel9 x.Value).length = 1 := law9.len x.Value; simp only [e0, e1, e2, e3, e4, e5, e6, List.length_nil], fun x a h => by obtain ⟨x0, x1, x2, x3, x4, x5, x6, rfl, h0, h1, h2, h3, h4, h5, h6⟩ := decx32 (show dec32 x = some a from h); exact CW.append (law30.dec _ _ h0) (CW.append (law3.dec _ _ h1) (CW.append (law2.dec _ _ h2) (CW.append (law2.dec _ _ h3) (CW.append (law9.dec _ _ h4) (CW.append (law9.dec _ _ h5) (CW.append (law9.dec _ _ h6) (CW.refl []))))))), fun x => by show (((enc30 x.Stamp).ok && ((enc3 x.Kind).ok && ((enc2 x.Node).ok && ((enc2 x.Parent).ok && ((enc9 x.Name).ok && ((enc9 x.Key).ok && ((enc9 x.Value).ok && true)))))))) = true; simp only [show (enc30 x.Stamp).ok = true from law30.ok _, show (enc3 x.Kind).ok = true from law3.ok _, show (enc2 x.Node).ok = true from law2.ok _, show (enc2 x.Parent).ok = true from law2.ok _, show (enc9 x.Name).ok = true from law9.ok _, show (enc9 x.Key).ok = true from law9.ok _, show (enc9 x.Value).ok = true from law9.ok _, Bool.and_self], fun x a h => by obtain ⟨x0, x1, x2, x3, x4, x5, x6, rfl, h0, h1, h2, h3, h4, h5, h6⟩ := decx32 (show dec32 x = some a from h); show ((x0.ok && (x1.ok && (x2.ok && (x3.ok && (x4.ok && (x5.ok && (x6.ok && true)))))))) = true; simp only [law30.decok _ _ h0, law3.decok _ _ h1, law2.decok _ _ h2, law2.decok _ _ h3, law9.decok _ _ h4, law9.decok _ _ h5, law9.decok _ _ h6, Bool.and_self], fun x a h => by obtain ⟨x0, x1, x2, x3, x4, x5, x6, rfl, h0, h1, h2, h3, h4, h5, h6⟩ := decx32 (show dec32 x = some a from h); rfl, fun x => by show ((cel30 x.Stamp ++ (cel3 x.Kind ++ (cel2 x.Node ++ (cel2 x.Parent ++ (cel9 x.Name ++ (cel9 x.Key ++ (cel9 x.Value ++ [])))))))).all AV.one = true; simp only [List.all_append, List.all_nil, show (cel30 x.Stamp).all AV.one = true from law30.one _, show (cel3 x.Kind).all AV.one = true from law3.one _, show (cel2 x.Node).all AV.one = true from law2.one _, show (cel2 x.Parent).all AV.one = true from law2.one _, show (cel9 x.Name).all AV.one = true from law9.one _, show (cel9 x.Key).all AV.one = true from law9.one _, show (cel9 x.Value).all AV.one = true from law9.one _, Bool.and_self], fun x => noids_app (law30.noid x.Stamp) (noids_app (law3.noid x.Kind) (noids_app (law2.noid x.Node) (noids_app (law2.noid x.Parent) (noids_app (law9.noid x.Name) (noids_app (law9.noid x.Key) (noids_app (law9.noid x.Value) (trivial))))))), fun ks h a b => by have := eqCells_append (law30.kd _ rfl a.Stamp b.Stamp) (eqCells_append (law3.kd _ rfl a.Kind b.Kind) (eqCells_append (law2.kd _ rfl a.Node b.Node) (eqCells_append (law2.kd _ rfl a.Parent b.Parent) (eqCells_append (law9.kd _ rfl a.Name b.Name) (eqCells_append (law9.kd _ rfl a.Key b.Key) (eqCells_append (law9.kd _ rfl a.Value b.Value) ((show eqCells [] [] [] = some true from rfl)))))))); cases h; exact this, (fun l s h => nomatch h), (fun s l h => nomatch h)⟩
theorem law33 : CodAt C 33 := ⟨fun x => rfl, fun x => rfl, fun x a h => (dSl_cw (C := C) (show dSl 32 x = some a from h)).1, fun x => rfl, fun x a h => (dSl_cw (C := C) (show dSl 32 x = some a from h)).2.1, fun x a h => (dSl_cw (C := C) (show dSl 32 x = some a from h)).2.2, fun a => rfl, fun a => noids_one (NoId.asl fun cs hc => by obtain ⟨y, _, rfl⟩ := List.mem_map.1 hc; exact law32.noid y), (fun ks h => nomatch h), (fun l s h => nomatch h), (fun s l h => nomatch h)⟩
theorem law34 : CodAt C 34 := ⟨fun x => rfl, fun x => rfl, fun x a h => (dSl_cw (C := C) (show dSl 5 x = some a from h)).1, fun x => rfl, fun x a h => (dSl_cw (C := C) (show dSl 5 x = some a from h)).2.1, fun x a h => (dSl_cw (C := C) (show dSl 5 x = some a from h)).2.2, fun a => rfl, fun a => noids_one (NoId.asl fun cs hc => by obtain ⟨y, _, rfl⟩ := List.mem_map.1 hc; exact law5.noid y), (fun ks h => nomatch h), (fun l s h => nomatch h), (fun s l h => nomatch h)⟩
theorem decx35 {x : TV τ} {a : GPart} (h : dec35 x = some a) : ∃ x0 x1 x2 x3, x = .agg [x0, x1, x2, x3] ∧ dec2 x0 = some a.Snap ∧ dec3 x1 = some a.Index ∧ dec3 x2 = some a.Many ∧ dec34 x3 = some a.Data := by
  unfold dec35 at h
  split at h
  · rename_i x0 x1 x2 x3
    split at h
    · rename_i a0 h0
      split at h
      · rename_i a1 h1
        split at h
        · rename_i a2 h2
          split at h
          · rename_i a3 h3
            cases h
            exact ⟨_, _, _, _, rfl, h0, h1, h2, h3⟩
          · cases h
        · cases h
      · cases h
    · cases h
  · cases h
theorem law35 : CodAt C 35 := ⟨fun x => by show ((enc2 x.Snap).cells C ++ ((enc3 x.Index).cells C ++ ((enc3 x.Many).cells C ++ ((enc34 x.Data).cells C ++ [])))) = cel35 x; unfold cel35; exact congr (congrArg (· ++ ·) (law2.cel x.Snap)) (congr (congrArg (· ++ ·) (law3.cel x.Index)) (congr (congrArg (· ++ ·) (law3.cel x.Many)) (congr (congrArg (· ++ ·) (law34.cel x.Data)) (rfl)))), fun x => by show ((cel2 x.Snap ++ (cel3 x.Index ++ (cel3 x.Many ++ (cel34 x.Data ++ []))))).length = 4; rw [List.length_append, List.length_append, List.length_append, List.length_append]; have e0 : (cel2 x.Snap).length = 1 := law2.len x.Snap; have e1 : (cel3 x.Index).length = 1 := law3.len x.Index; have e2 : (cel3 x.Many).length = 1 := law3.len x.Many; have e3 : (cel34 x.Data).length = 1 := law34.len x.Data; simp only [e0, e1, e2, e3, List.length_nil], fun x a h => by obtain ⟨x0, x1, x2, x3, rfl, h0, h1, h2, h3⟩ := decx35 (show dec35 x = some a from h); exact CW.append (law2.dec _ _ h0) (CW.append (law3.dec _ _ h1) (CW.append (law3.dec _ _ h2) (CW.append (law34.dec _ _ h3) (CW.refl [])))), fun x => by show (((enc2 x.Snap).ok && ((enc3 x.Index).ok && ((enc3 x.Many).ok && ((enc34 x.Data).ok && true))))) = true; simp only [show (enc2 x.Snap).ok = true from law2.ok _, show (enc3 x.Index).ok = true from law3.ok _, show (enc3 x.Many).ok = true from law3.ok _, show (enc34 x.Data).ok = true from law34.ok _, Bool.and_self], fun x a h => by obtain ⟨x0, x1, x2, x3, rfl, h0, h1, h2, h3⟩ := decx35 (show dec35 x = some a from h); show ((x0.ok && (x1.ok && (x2.ok && (x3.ok && true))))) = true; simp only [law2.decok _ _ h0, law3.decok _ _ h1, law3.decok _ _ h2, law34.decok _ _ h3, Bool.and_self], fun x a h => by obtain ⟨x0, x1, x2, x3, rfl, h0, h1, h2, h3⟩ := decx35 (show dec35 x = some a from h); rfl, fun x => by show ((cel2 x.Snap ++ (cel3 x.Index ++ (cel3 x.Many ++ (cel34 x.Data ++ []))))).all AV.one = true; simp only [List.all_append, List.all_nil, show (cel2 x.Snap).all AV.one = true from law2.one _, show (cel3 x.Index).all AV.one = true from law3.one _, show (cel3 x.Many).all AV.one = true from law3.one _, show (cel34 x.Data).all AV.one = true from law34.one _, Bool.and_self], fun x => noids_app (law2.noid x.Snap) (noids_app (law3.noid x.Index) (noids_app (law3.noid x.Many) (noids_app (law34.noid x.Data) (trivial)))), (fun ks h => nomatch h), (fun l s h => nomatch h), (fun s l h => nomatch h)⟩
theorem decx36 {x : TV τ} {a : GPart} (h : dec36 x = some a) : ∃ x0 x1 x2 x3, x = .agg [x0, x1, x2, x3] ∧ dec2 x0 = some a.Snap ∧ dec3 x1 = some a.Index ∧ dec3 x2 = some a.Many ∧ dec34 x3 = some a.Data := by
  unfold dec36 at h
  split at h
  · rename_i x0 x1 x2 x3
    split at h
    · rename_i a0 h0
      split at h
      · rename_i a1 h1
        split at h
        · rename_i a2 h2
          split at h
          · rename_i a3 h3
            cases h
            exact ⟨_, _, _, _, rfl, h0, h1, h2, h3⟩
          · cases h
        · cases h
      · cases h
    · cases h
  · cases h
theorem law36 : CodAt C 36 := ⟨fun x => by show ((enc2 x.Snap).cells C ++ ((enc3 x.Index).cells C ++ ((enc3 x.Many).cells C ++ ((enc34 x.Data).cells C ++ [])))) = cel36 x; unfold cel36; exact congr (congrArg (· ++ ·) (law2.cel x.Snap)) (congr (congrArg (· ++ ·) (law3.cel x.Index)) (congr (congrArg (· ++ ·) (law3.cel x.Many)) (congr (congrArg (· ++ ·) (law34.cel x.Data)) (rfl)))), fun x => by show ((cel2 x.Snap ++ (cel3 x.Index ++ (cel3 x.Many ++ (cel34 x.Data ++ []))))).length = 4; rw [List.length_append, List.length_append, List.length_append, List.length_append]; have e0 : (cel2 x.Snap).length = 1 := law2.len x.Snap; have e1 : (cel3 x.Index).length = 1 := law3.len x.Index; have e2 : (cel3 x.Many).length = 1 := law3.len x.Many; have e3 : (cel34 x.Data).length = 1 := law34.len x.Data; simp only [e0, e1, e2, e3, List.length_nil], fun x a h => by obtain ⟨x0, x1, x2, x3, rfl, h0, h1, h2, h3⟩ := decx36 (show dec36 x = some a from h); exact CW.append (law2.dec _ _ h0) (CW.append (law3.dec _ _ h1) (CW.append (law3.dec _ _ h2) (CW.append (law34.dec _ _ h3) (CW.refl [])))), fun x => by show (((enc2 x.Snap).ok && ((enc3 x.Index).ok && ((enc3 x.Many).ok && ((enc34 x.Data).ok && true))))) = true; simp only [show (enc2 x.Snap).ok = true from law2.ok _, show (enc3 x.Index).ok = true from law3.ok _, show (enc3 x.Many).ok = true from law3.ok _, show (enc34 x.Data).ok = true from law34.ok _, Bool.and_self], fun x a h => by obtain ⟨x0, x1, x2, x3, rfl, h0, h1, h2, h3⟩ := decx36 (show dec36 x = some a from h); show ((x0.ok && (x1.ok && (x2.ok && (x3.ok && true))))) = true; simp only [law2.decok _ _ h0, law3.decok _ _ h1, law3.decok _ _ h2, law34.decok _ _ h3, Bool.and_self], fun x a h => by obtain ⟨x0, x1, x2, x3, rfl, h0, h1, h2, h3⟩ := decx36 (show dec36 x = some a from h); rfl, fun x => by show ((cel2 x.Snap ++ (cel3 x.Index ++ (cel3 x.Many ++ (cel34 x.Data ++ []))))).all AV.one = true; simp only [List.all_append, List.all_nil, show (cel2 x.Snap).all AV.one = true from law2.one _, show (cel3 x.Index).all AV.one = true from law3.one _, show (cel3 x.Many).all AV.one = true from law3.one _, show (cel34 x.Data).all AV.one = true from law34.one _, Bool.and_self], fun x => noids_app (law2.noid x.Snap) (noids_app (law3.noid x.Index) (noids_app (law3.noid x.Many) (noids_app (law34.noid x.Data) (trivial)))), (fun ks h => nomatch h), (fun l s h => nomatch h), (fun s l h => nomatch h)⟩
theorem decx37 {x : TV τ} {a : GEntry} (h : dec37 x = some a) : ∃ x0 x1 x2 x3 x4 x5 x6 x7 x8 x9 x10 x11 x12 x13 x14, x = .agg [x0, x1, x2, x3, x4, x5, x6, x7, x8, x9, x10, x11, x12, x13, x14] ∧ dec3 x0 = some a.Kind ∧ dec2 x1 = some a.Session ∧ dec2 x2 = some a.Request ∧ dec32 x3 = some a.Op ∧ dec3 x4 = some a.Origin ∧ dec2 x5 = some a.Seq ∧ dec33 x6 = some a.Ops ∧ dec26 x7 = some a.Epoch ∧ dec3 x8 = some a.From ∧ dec24 x9 = some a.Vector_ ∧ dec2 x10 = some a.Clock ∧ dec36 x11 = some a.Part ∧ dec3 x12 = some a.Site ∧ dec3 x13 = some a.Sponsor ∧ dec2 x14 = some a.Length := by
  unfold dec37 at h
  split at h
  · rename_i x0 x1 x2 x3 x4 x5 x6 x7 x8 x9 x10 x11 x12 x13 x14
    split at h
    · rename_i a0 h0
      split at h
      · rename_i a1 h1
        split at h
        · rename_i a2 h2
          split at h
          · rename_i a3 h3
            split at h
            · rename_i a4 h4
              split at h
              · rename_i a5 h5
                split at h
                · rename_i a6 h6
                  split at h
                  · rename_i a7 h7
                    split at h
                    · rename_i a8 h8
                      split at h
                      · rename_i a9 h9
                        split at h
                        · rename_i a10 h10
                          split at h
                          · rename_i a11 h11
                            split at h
                            · rename_i a12 h12
                              split at h
                              · rename_i a13 h13
                                split at h
                                · rename_i a14 h14
                                  cases h
                                  exact ⟨_, _, _, _, _, _, _, _, _, _, _, _, _, _, _, rfl, h0, h1, h2, h3, h4, h5, h6, h7, h8, h9, h10, h11, h12, h13, h14⟩
                                · cases h
                              · cases h
                            · cases h
                          · cases h
                        · cases h
                      · cases h
                    · cases h
                  · cases h
                · cases h
              · cases h
            · cases h
          · cases h
        · cases h
      · cases h
    · cases h
  · cases h
theorem law37 : CodAt C 37 := ⟨fun x => by show ((enc3 x.Kind).cells C ++ ((enc2 x.Session).cells C ++ ((enc2 x.Request).cells C ++ ((enc32 x.Op).cells C ++ ((enc3 x.Origin).cells C ++ ((enc2 x.Seq).cells C ++ ((enc33 x.Ops).cells C ++ ((enc26 x.Epoch).cells C ++ ((enc3 x.From).cells C ++ ((enc24 x.Vector_).cells C ++ ((enc2 x.Clock).cells C ++ ((enc36 x.Part).cells C ++ ((enc3 x.Site).cells C ++ ((enc3 x.Sponsor).cells C ++ ((enc2 x.Length).cells C ++ []))))))))))))))) = cel37 x; unfold cel37; exact congr (congrArg (· ++ ·) (law3.cel x.Kind)) (congr (congrArg (· ++ ·) (law2.cel x.Session)) (congr (congrArg (· ++ ·) (law2.cel x.Request)) (congr (congrArg (· ++ ·) (law32.cel x.Op)) (congr (congrArg (· ++ ·) (law3.cel x.Origin)) (congr (congrArg (· ++ ·) (law2.cel x.Seq)) (congr (congrArg (· ++ ·) (law33.cel x.Ops)) (congr (congrArg (· ++ ·) (law26.cel x.Epoch)) (congr (congrArg (· ++ ·) (law3.cel x.From)) (congr (congrArg (· ++ ·) (law24.cel x.Vector_)) (congr (congrArg (· ++ ·) (law2.cel x.Clock)) (congr (congrArg (· ++ ·) (law36.cel x.Part)) (congr (congrArg (· ++ ·) (law3.cel x.Site)) (congr (congrArg (· ++ ·) (law3.cel x.Sponsor)) (congr (congrArg (· ++ ·) (law2.cel x.Length)) (rfl))))))))))))))), fun x => by show ((cel3 x.Kind ++ (cel2 x.Session ++ (cel2 x.Request ++ (cel32 x.Op ++ (cel3 x.Origin ++ (cel2 x.Seq ++ (cel33 x.Ops ++ (cel26 x.Epoch ++ (cel3 x.From ++ (cel24 x.Vector_ ++ (cel2 x.Clock ++ (cel36 x.Part ++ (cel3 x.Site ++ (cel3 x.Sponsor ++ (cel2 x.Length ++ [])))))))))))))))).length = 56; rw [List.length_append, List.length_append, List.length_append, List.length_append, List.length_append, List.length_append, List.length_append, List.length_append, List.length_append, List.length_append, List.length_append, List.length_append, List.length_append, List.length_append, List.length_append]; have e0 : (cel3 x.Kind).length = 1 := law3.len x.Kind; have e1 : (cel2 x.Session).length = 1 := law2.len x.Session; have e2 : (cel2 x.Request).length = 1 := law2.len x.Request; have e3 : (cel32 x.Op).length = 8 := law32.len x.Op; have e4 : (cel3 x.Origin).length = 1 := law3.len x.Origin; have e5 : (cel2 x.Seq).length = 1 := law2.len x.Seq; have e6 : (cel33 x.Ops).length = 1 := law33.len x.Ops; have e7 : (cel26 x.Epoch).length = 25 := law26.len x.Epoch; have e8 : (cel3 x.From).length = 1 := law3.len x.From; have e9 : (cel24 x.Vector_).length = 8 := law24.len x.Vector_; have e10 : (cel2 x.Clock).length = 1 := law2.len x.Clock; have e11 : (cel36 x.Part).length = 4 := law36.len x.Part; have e12 : (cel3 x.Site).length = 1 := law3.len x.Site; have e13 : (cel3 x.Sponsor).length = 1 := law3.len x.Sponsor; have e14 : (cel2 x.Length).length = 1 := law2.len x.Length; simp only [e0, e1, e2, e3, e4, e5, e6, e7, e8, e9, e10, e11, e12, e13, e14, List.length_nil], fun x a h => by obtain ⟨x0, x1, x2, x3, x4, x5, x6, x7, x8, x9, x10, x11, x12, x13, x14, rfl, h0, h1, h2, h3, h4, h5, h6, h7, h8, h9, h10, h11, h12, h13, h14⟩ := decx37 (show dec37 x = some a from h); exact CW.append (law3.dec _ _ h0) (CW.append (law2.dec _ _ h1) (CW.append (law2.dec _ _ h2) (CW.append (law32.dec _ _ h3) (CW.append (law3.dec _ _ h4) (CW.append (law2.dec _ _ h5) (CW.append (law33.dec _ _ h6) (CW.append (law26.dec _ _ h7) (CW.append (law3.dec _ _ h8) (CW.append (law24.dec _ _ h9) (CW.append (law2.dec _ _ h10) (CW.append (law36.dec _ _ h11) (CW.append (law3.dec _ _ h12) (CW.append (law3.dec _ _ h13) (CW.append (law2.dec _ _ h14) (CW.refl []))))))))))))))), fun x => by show (((enc3 x.Kind).ok && ((enc2 x.Session).ok && ((enc2 x.Request).ok && ((enc32 x.Op).ok && ((enc3 x.Origin).ok && ((enc2 x.Seq).ok && ((enc33 x.Ops).ok && ((enc26 x.Epoch).ok && ((enc3 x.From).ok && ((enc24 x.Vector_).ok && ((enc2 x.Clock).ok && ((enc36 x.Part).ok && ((enc3 x.Site).ok && ((enc3 x.Sponsor).ok && ((enc2 x.Length).ok && true)))))))))))))))) = true; simp only [show (enc3 x.Kind).ok = true from law3.ok _, show (enc2 x.Session).ok = true from law2.ok _, show (enc2 x.Request).ok = true from law2.ok _, show (enc32 x.Op).ok = true from law32.ok _, show (enc3 x.Origin).ok = true from law3.ok _, show (enc2 x.Seq).ok = true from law2.ok _, show (enc33 x.Ops).ok = true from law33.ok _, show (enc26 x.Epoch).ok = true from law26.ok _, show (enc3 x.From).ok = true from law3.ok _, show (enc24 x.Vector_).ok = true from law24.ok _, show (enc2 x.Clock).ok = true from law2.ok _, show (enc36 x.Part).ok = true from law36.ok _, show (enc3 x.Site).ok = true from law3.ok _, show (enc3 x.Sponsor).ok = true from law3.ok _, show (enc2 x.Length).ok = true from law2.ok _, Bool.and_self], fun x a h => by obtain ⟨x0, x1, x2, x3, x4, x5, x6, x7, x8, x9, x10, x11, x12, x13, x14, rfl, h0, h1, h2, h3, h4, h5, h6, h7, h8, h9, h10, h11, h12, h13, h14⟩ := decx37 (show dec37 x = some a from h); show ((x0.ok && (x1.ok && (x2.ok && (x3.ok && (x4.ok && (x5.ok && (x6.ok && (x7.ok && (x8.ok && (x9.ok && (x10.ok && (x11.ok && (x12.ok && (x13.ok && (x14.ok && true)))))))))))))))) = true; simp only [law3.decok _ _ h0, law2.decok _ _ h1, law2.decok _ _ h2, law32.decok _ _ h3, law3.decok _ _ h4, law2.decok _ _ h5, law33.decok _ _ h6, law26.decok _ _ h7, law3.decok _ _ h8, law24.decok _ _ h9, law2.decok _ _ h10, law36.decok _ _ h11, law3.decok _ _ h12, law3.decok _ _ h13, law2.decok _ _ h14, Bool.and_self], fun x a h => by obtain ⟨x0, x1, x2, x3, x4, x5, x6, x7, x8, x9, x10, x11, x12, x13, x14, rfl, h0, h1, h2, h3, h4, h5, h6, h7, h8, h9, h10, h11, h12, h13, h14⟩ := decx37 (show dec37 x = some a from h); rfl, fun x => by show ((cel3 x.Kind ++ (cel2 x.Session ++ (cel2 x.Request ++ (cel32 x.Op ++ (cel3 x.Origin ++ (cel2 x.Seq ++ (cel33 x.Ops ++ (cel26 x.Epoch ++ (cel3 x.From ++ (cel24 x.Vector_ ++ (cel2 x.Clock ++ (cel36 x.Part ++ (cel3 x.Site ++ (cel3 x.Sponsor ++ (cel2 x.Length ++ [])))))))))))))))).all AV.one = true; simp only [List.all_append, List.all_nil, show (cel3 x.Kind).all AV.one = true from law3.one _, show (cel2 x.Session).all AV.one = true from law2.one _, show (cel2 x.Request).all AV.one = true from law2.one _, show (cel32 x.Op).all AV.one = true from law32.one _, show (cel3 x.Origin).all AV.one = true from law3.one _, show (cel2 x.Seq).all AV.one = true from law2.one _, show (cel33 x.Ops).all AV.one = true from law33.one _, show (cel26 x.Epoch).all AV.one = true from law26.one _, show (cel3 x.From).all AV.one = true from law3.one _, show (cel24 x.Vector_).all AV.one = true from law24.one _, show (cel2 x.Clock).all AV.one = true from law2.one _, show (cel36 x.Part).all AV.one = true from law36.one _, show (cel3 x.Site).all AV.one = true from law3.one _, show (cel3 x.Sponsor).all AV.one = true from law3.one _, show (cel2 x.Length).all AV.one = true from law2.one _, Bool.and_self], fun x => noids_app (law3.noid x.Kind) (noids_app (law2.noid x.Session) (noids_app (law2.noid x.Request) (noids_app (law32.noid x.Op) (noids_app (law3.noid x.Origin) (noids_app (law2.noid x.Seq) (noids_app (law33.noid x.Ops) (noids_app (law26.noid x.Epoch) (noids_app (law3.noid x.From) (noids_app (law24.noid x.Vector_) (noids_app (law2.noid x.Clock) (noids_app (law36.noid x.Part) (noids_app (law3.noid x.Site) (noids_app (law3.noid x.Sponsor) (noids_app (law2.noid x.Length) (trivial))))))))))))))), (fun ks h => nomatch h), (fun l s h => nomatch h), (fun s l h => nomatch h)⟩
theorem decx38 {x : TV τ} {a : GEntry} (h : dec38 x = some a) : ∃ x0 x1 x2 x3 x4 x5 x6 x7 x8 x9 x10 x11 x12 x13 x14, x = .agg [x0, x1, x2, x3, x4, x5, x6, x7, x8, x9, x10, x11, x12, x13, x14] ∧ dec3 x0 = some a.Kind ∧ dec2 x1 = some a.Session ∧ dec2 x2 = some a.Request ∧ dec32 x3 = some a.Op ∧ dec3 x4 = some a.Origin ∧ dec2 x5 = some a.Seq ∧ dec33 x6 = some a.Ops ∧ dec26 x7 = some a.Epoch ∧ dec3 x8 = some a.From ∧ dec24 x9 = some a.Vector_ ∧ dec2 x10 = some a.Clock ∧ dec36 x11 = some a.Part ∧ dec3 x12 = some a.Site ∧ dec3 x13 = some a.Sponsor ∧ dec2 x14 = some a.Length := by
  unfold dec38 at h
  split at h
  · rename_i x0 x1 x2 x3 x4 x5 x6 x7 x8 x9 x10 x11 x12 x13 x14
    split at h
    · rename_i a0 h0
      split at h
      · rename_i a1 h1
        split at h
        · rename_i a2 h2
          split at h
          · rename_i a3 h3
            split at h
            · rename_i a4 h4
              split at h
              · rename_i a5 h5
                split at h
                · rename_i a6 h6
                  split at h
                  · rename_i a7 h7
                    split at h
                    · rename_i a8 h8
                      split at h
                      · rename_i a9 h9
                        split at h
                        · rename_i a10 h10
                          split at h
                          · rename_i a11 h11
                            split at h
                            · rename_i a12 h12
                              split at h
                              · rename_i a13 h13
                                split at h
                                · rename_i a14 h14
                                  cases h
                                  exact ⟨_, _, _, _, _, _, _, _, _, _, _, _, _, _, _, rfl, h0, h1, h2, h3, h4, h5, h6, h7, h8, h9, h10, h11, h12, h13, h14⟩
                                · cases h
                              · cases h
                            · cases h
                          · cases h
                        · cases h
                      · cases h
                    · cases h
                  · cases h
                · cases h
              · cases h
            · cases h
          · cases h
        · cases h
      · cases h
    · cases h
  · cases h
theorem law38 : CodAt C 38 := ⟨fun x => by show ((enc3 x.Kind).cells C ++ ((enc2 x.Session).cells C ++ ((enc2 x.Request).cells C ++ ((enc32 x.Op).cells C ++ ((enc3 x.Origin).cells C ++ ((enc2 x.Seq).cells C ++ ((enc33 x.Ops).cells C ++ ((enc26 x.Epoch).cells C ++ ((enc3 x.From).cells C ++ ((enc24 x.Vector_).cells C ++ ((enc2 x.Clock).cells C ++ ((enc36 x.Part).cells C ++ ((enc3 x.Site).cells C ++ ((enc3 x.Sponsor).cells C ++ ((enc2 x.Length).cells C ++ []))))))))))))))) = cel38 x; unfold cel38; exact congr (congrArg (· ++ ·) (law3.cel x.Kind)) (congr (congrArg (· ++ ·) (law2.cel x.Session)) (congr (congrArg (· ++ ·) (law2.cel x.Request)) (congr (congrArg (· ++ ·) (law32.cel x.Op)) (congr (congrArg (· ++ ·) (law3.cel x.Origin)) (congr (congrArg (· ++ ·) (law2.cel x.Seq)) (congr (congrArg (· ++ ·) (law33.cel x.Ops)) (congr (congrArg (· ++ ·) (law26.cel x.Epoch)) (congr (congrArg (· ++ ·) (law3.cel x.From)) (congr (congrArg (· ++ ·) (law24.cel x.Vector_)) (congr (congrArg (· ++ ·) (law2.cel x.Clock)) (congr (congrArg (· ++ ·) (law36.cel x.Part)) (congr (congrArg (· ++ ·) (law3.cel x.Site)) (congr (congrArg (· ++ ·) (law3.cel x.Sponsor)) (congr (congrArg (· ++ ·) (law2.cel x.Length)) (rfl))))))))))))))), fun x => by show ((cel3 x.Kind ++ (cel2 x.Session ++ (cel2 x.Request ++ (cel32 x.Op ++ (cel3 x.Origin ++ (cel2 x.Seq ++ (cel33 x.Ops ++ (cel26 x.Epoch ++ (cel3 x.From ++ (cel24 x.Vector_ ++ (cel2 x.Clock ++ (cel36 x.Part ++ (cel3 x.Site ++ (cel3 x.Sponsor ++ (cel2 x.Length ++ [])))))))))))))))).length = 56; rw [List.length_append, List.length_append, List.length_append, List.length_append, List.length_append, List.length_append, List.length_append, List.length_append, List.length_append, List.length_append, List.length_append, List.length_append, List.length_append, List.length_append, List.length_append]; have e0 : (cel3 x.Kind).length = 1 := law3.len x.Kind; have e1 : (cel2 x.Session).length = 1 := law2.len x.Session; have e2 : (cel2 x.Request).length = 1 := law2.len x.Request; have e3 : (cel32 x.Op).length = 8 := law32.len x.Op; have e4 : (cel3 x.Origin).length = 1 := law3.len x.Origin; have e5 : (cel2 x.Seq).length = 1 := law2.len x.Seq; have e6 : (cel33 x.Ops).length = 1 := law33.len x.Ops; have e7 : (cel26 x.Epoch).length = 25 := law26.len x.Epoch; have e8 : (cel3 x.From).length = 1 := law3.len x.From; have e9 : (cel24 x.Vector_).length = 8 := law24.len x.Vector_; have e10 : (cel2 x.Clock).length = 1 := law2.len x.Clock; have e11 : (cel36 x.Part).length = 4 := law36.len x.Part; have e12 : (cel3 x.Site).length = 1 := law3.len x.Site; have e13 : (cel3 x.Sponsor).length = 1 := law3.len x.Sponsor; have e14 : (cel2 x.Length).length = 1 := law2.len x.Length; simp only [e0, e1, e2, e3, e4, e5, e6, e7, e8, e9, e10, e11, e12, e13, e14, List.length_nil], fun x a h => by obtain ⟨x0, x1, x2, x3, x4, x5, x6, x7, x8, x9, x10, x11, x12, x13, x14, rfl, h0, h1, h2, h3, h4, h5, h6, h7, h8, h9, h10, h11, h12, h13, h14⟩ := decx38 (show dec38 x = some a from h); exact CW.append (law3.dec _ _ h0) (CW.append (law2.dec _ _ h1) (CW.append (law2.dec _ _ h2) (CW.append (law32.dec _ _ h3) (CW.append (law3.dec _ _ h4) (CW.append (law2.dec _ _ h5) (CW.append (law33.dec _ _ h6) (CW.append (law26.dec _ _ h7) (CW.append (law3.dec _ _ h8) (CW.append (law24.dec _ _ h9) (CW.append (law2.dec _ _ h10) (CW.append (law36.dec _ _ h11) (CW.append (law3.dec _ _ h12) (CW.append (law3.dec _ _ h13) (CW.append (law2.dec _ _ h14) (CW.refl []))))))))))))))), fun x => by show (((enc3 x.Kind).ok && ((enc2 x.Session).ok && ((enc2 x.Request).ok && ((enc32 x.Op).ok && ((enc3 x.Origin).ok && ((enc2 x.Seq).ok && ((enc33 x.Ops).ok && ((enc26 x.Epoch).ok && ((enc3 x.From).ok && ((enc24 x.Vector_).ok && ((enc2 x.Clock).ok && ((enc36 x.Part).ok && ((enc3 x.Site).ok && ((enc3 x.Sponsor).ok && ((enc2 x.Length).ok && true)))))))))))))))) = true; simp only [show (enc3 x.Kind).ok = true from law3.ok _, show (enc2 x.Session).ok = true from law2.ok _, show (enc2 x.Request).ok = true from law2.ok _, show (enc32 x.Op).ok = true from law32.ok _, show (enc3 x.Origin).ok = true from law3.ok _, show (enc2 x.Seq).ok = true from law2.ok _, show (enc33 x.Ops).ok = true from law33.ok _, show (enc26 x.Epoch).ok = true from law26.ok _, show (enc3 x.From).ok = true from law3.ok _, show (enc24 x.Vector_).ok = true from law24.ok _, show (enc2 x.Clock).ok = true from law2.ok _, show (enc36 x.Part).ok = true from law36.ok _, show (enc3 x.Site).ok = true from law3.ok _, show (enc3 x.Sponsor).ok = true from law3.ok _, show (enc2 x.Length).ok = true from law2.ok _, Bool.and_self], fun x a h => by obtain ⟨x0, x1, x2, x3, x4, x5, x6, x7, x8, x9, x10, x11, x12, x13, x14, rfl, h0, h1, h2, h3, h4, h5, h6, h7, h8, h9, h10, h11, h12, h13, h14⟩ := decx38 (show dec38 x = some a from h); show ((x0.ok && (x1.ok && (x2.ok && (x3.ok && (x4.ok && (x5.ok && (x6.ok && (x7.ok && (x8.ok && (x9.ok && (x10.ok && (x11.ok && (x12.ok && (x13.ok && (x14.ok && true)))))))))))))))) = true; simp only [law3.decok _ _ h0, law2.decok _ _ h1, law2.decok _ _ h2, law32.decok _ _ h3, law3.decok _ _ h4, law2.decok _ _ h5, law33.decok _ _ h6, law26.decok _ _ h7, law3.decok _ _ h8, law24.decok _ _ h9, law2.decok _ _ h10, law36.decok _ _ h11, law3.decok _ _ h12, law3.decok _ _ h13, law2.decok _ _ h14, Bool.and_self], fun x a h => by obtain ⟨x0, x1, x2, x3, x4, x5, x6, x7, x8, x9, x10, x11, x12, x13, x14, rfl, h0, h1, h2, h3, h4, h5, h6, h7, h8, h9, h10, h11, h12, h13, h14⟩ := decx38 (show dec38 x = some a from h); rfl, fun x => by show ((cel3 x.Kind ++ (cel2 x.Session ++ (cel2 x.Request ++ (cel32 x.Op ++ (cel3 x.Origin ++ (cel2 x.Seq ++ (cel33 x.Ops ++ (cel26 x.Epoch ++ (cel3 x.From ++ (cel24 x.Vector_ ++ (cel2 x.Clock ++ (cel36 x.Part ++ (cel3 x.Site ++ (cel3 x.Sponsor ++ (cel2 x.Length ++ [])))))))))))))))).all AV.one = true; simp only [List.all_append, List.all_nil, show (cel3 x.Kind).all AV.one = true from law3.one _, show (cel2 x.Session).all AV.one = true from law2.one _, show (cel2 x.Request).all AV.one = true from law2.one _, show (cel32 x.Op).all AV.one = true from law32.one _, show (cel3 x.Origin).all AV.one = true from law3.one _, show (cel2 x.Seq).all AV.one = true from law2.one _, show (cel33 x.Ops).all AV.one = true from law33.one _, show (cel26 x.Epoch).all AV.one = true from law26.one _, show (cel3 x.From).all AV.one = true from law3.one _, show (cel24 x.Vector_).all AV.one = true from law24.one _, show (cel2 x.Clock).all AV.one = true from law2.one _, show (cel36 x.Part).all AV.one = true from law36.one _, show (cel3 x.Site).all AV.one = true from law3.one _, show (cel3 x.Sponsor).all AV.one = true from law3.one _, show (cel2 x.Length).all AV.one = true from law2.one _, Bool.and_self], fun x => noids_app (law3.noid x.Kind) (noids_app (law2.noid x.Session) (noids_app (law2.noid x.Request) (noids_app (law32.noid x.Op) (noids_app (law3.noid x.Origin) (noids_app (law2.noid x.Seq) (noids_app (law33.noid x.Ops) (noids_app (law26.noid x.Epoch) (noids_app (law3.noid x.From) (noids_app (law24.noid x.Vector_) (noids_app (law2.noid x.Clock) (noids_app (law36.noid x.Part) (noids_app (law3.noid x.Site) (noids_app (law3.noid x.Sponsor) (noids_app (law2.noid x.Length) (trivial))))))))))))))), (fun ks h => nomatch h), (fun l s h => nomatch h), (fun s l h => nomatch h)⟩
theorem law39 : CodAt C 39 := ⟨fun x => rfl, fun x => rfl, fun x a h => by rw [dInt_x (show dInt .i64 x = some a from h)]; exact .refl _, fun x => rfl, fun x a h => by rw [dInt_x (show dInt .i64 x = some a from h)]; rfl, fun x a h => by rw [dInt_x (show dInt .i64 x = some a from h)]; rfl, fun a => rfl, fun a => noids_one (NoId.v _), fun ks h a b => by cases h; simp [eqCells, scal, C, celT, cel39, beqT, beq39], (fun l s h => nomatch h), (fun s l h => nomatch h)⟩
theorem law45 : CodAt C 45 := ⟨fun x => rfl, fun x => rfl, fun x a h => (dSl_cw (C := C) (show dSl 3 x = some a from h)).1, fun x => rfl, fun x a h => (dSl_cw (C := C) (show dSl 3 x = some a from h)).2.1, fun x a h => (dSl_cw (C := C) (show dSl 3 x = some a from h)).2.2, fun a => rfl, fun a => noids_one (NoId.asl fun cs hc => by obtain ⟨y, _, rfl⟩ := List.mem_map.1 hc; exact law3.noid y), (fun ks h => nomatch h), (fun l s h => nomatch h), (fun s l h => nomatch h)⟩
theorem law50 : CodAt C 50 := ⟨fun x => rfl, fun x => rfl, fun x a h => (dSl_cw (C := C) (show dSl 26 x = some a from h)).1, fun x => rfl, fun x a h => (dSl_cw (C := C) (show dSl 26 x = some a from h)).2.1, fun x a h => (dSl_cw (C := C) (show dSl 26 x = some a from h)).2.2, fun a => rfl, fun a => noids_one (NoId.asl fun cs hc => by obtain ⟨y, _, rfl⟩ := List.mem_map.1 hc; exact law26.noid y), (fun ks h => nomatch h), (fun l s h => nomatch h), (fun s l h => nomatch h)⟩
theorem decx51 {x : TV τ} {a : Gepoch_Machine} (h : dec51 x = some a) : ∃ x0, x = .agg [x0] ∧ dec50 x0 = some a.l := by
  unfold dec51 at h
  split at h
  · rename_i x0
    split at h
    · rename_i a0 h0
      cases h
      exact ⟨_, rfl, h0⟩
    · cases h
  · cases h
theorem law51 : CodAt C 51 := ⟨fun x => by show ((enc50 x.l).cells C ++ []) = cel51 x; unfold cel51; exact congr (congrArg (· ++ ·) (law50.cel x.l)) (rfl), fun x => by show ((cel50 x.l ++ [])).length = 1; rw [List.length_append]; have e0 : (cel50 x.l).length = 1 := law50.len x.l; simp only [e0, List.length_nil], fun x a h => by obtain ⟨x0, rfl, h0⟩ := decx51 (show dec51 x = some a from h); exact CW.append (law50.dec _ _ h0) (CW.refl []), fun x => by show (((enc50 x.l).ok && true)) = true; simp only [show (enc50 x.l).ok = true from law50.ok _, Bool.and_self], fun x a h => by obtain ⟨x0, rfl, h0⟩ := decx51 (show dec51 x = some a from h); show ((x0.ok && true)) = true; simp only [law50.decok _ _ h0, Bool.and_self], fun x a h => by obtain ⟨x0, rfl, h0⟩ := decx51 (show dec51 x = some a from h); rfl, fun x => by show ((cel50 x.l ++ [])).all AV.one = true; simp only [List.all_append, List.all_nil, show (cel50 x.l).all AV.one = true from law50.one _, Bool.and_self], fun x => noids_app (law50.noid x.l) (trivial), (fun ks h => nomatch h), (fun l s h => nomatch h), (fun s l h => nomatch h)⟩
theorem decx52 {x : TV τ} {a : Gepoch_Machine} (h : dec52 x = some a) : ∃ x0, x = .agg [x0] ∧ dec50 x0 = some a.l := by
  unfold dec52 at h
  split at h
  · rename_i x0
    split at h
    · rename_i a0 h0
      cases h
      exact ⟨_, rfl, h0⟩
    · cases h
  · cases h
theorem law52 : CodAt C 52 := ⟨fun x => by show ((enc50 x.l).cells C ++ []) = cel52 x; unfold cel52; exact congr (congrArg (· ++ ·) (law50.cel x.l)) (rfl), fun x => by show ((cel50 x.l ++ [])).length = 1; rw [List.length_append]; have e0 : (cel50 x.l).length = 1 := law50.len x.l; simp only [e0, List.length_nil], fun x a h => by obtain ⟨x0, rfl, h0⟩ := decx52 (show dec52 x = some a from h); exact CW.append (law50.dec _ _ h0) (CW.refl []), fun x => by show (((enc50 x.l).ok && true)) = true; simp only [show (enc50 x.l).ok = true from law50.ok _, Bool.and_self], fun x a h => by obtain ⟨x0, rfl, h0⟩ := decx52 (show dec52 x = some a from h); show ((x0.ok && true)) = true; simp only [law50.decok _ _ h0, Bool.and_self], fun x a h => by obtain ⟨x0, rfl, h0⟩ := decx52 (show dec52 x = some a from h); rfl, fun x => by show ((cel50 x.l ++ [])).all AV.one = true; simp only [List.all_append, List.all_nil, show (cel50 x.l).all AV.one = true from law50.one _, Bool.and_self], fun x => noids_app (law50.noid x.l) (trivial), (fun ks h => nomatch h), (fun l s h => nomatch h), (fun s l h => nomatch h)⟩
theorem law70 : CodAt C 70 := ⟨fun x => rfl, fun x => rfl, fun x a h => (dSl_cw (C := C) (show dSl 38 x = some a from h)).1, fun x => rfl, fun x a h => (dSl_cw (C := C) (show dSl 38 x = some a from h)).2.1, fun x a h => (dSl_cw (C := C) (show dSl 38 x = some a from h)).2.2, fun a => rfl, fun a => noids_one (NoId.asl fun cs hc => by obtain ⟨y, _, rfl⟩ := List.mem_map.1 hc; exact law38.noid y), (fun ks h => nomatch h), (fun l s h => nomatch h), (fun s l h => nomatch h)⟩
theorem law74 : CodAt C 74 := ⟨fun x => rfl, fun x => length_flat law38 x, fun x a h => by rw [dArr_x (show dArr 38 3 x = some a from h)]; exact .refl _, fun x => rfl, fun x a h => by rw [dArr_x (show dArr 38 3 x = some a from h)]; rfl, fun x a h => by rw [dArr_x (show dArr 38 3 x = some a from h)]; rfl, fun a => one_flat law38 a.toList, fun a => noid_flat law38 a.toList, (fun ks h => nomatch h), (fun l s h => nomatch h), (fun s l h => nomatch h)⟩
theorem decx92 {x : TV τ} {a : Gorchardref04_Reader} (h : dec92 x = some a) : ∃ x0 x1 x2, x = .agg [x0, x1, x2] ∧ dec34 x0 = some a.B ∧ dec3 x1 = some a.At ∧ dec39 x2 = some a.E := by
  unfold dec92 at h
  split at h
  · rename_i x0 x1 x2
    split at h
    · rename_i a0 h0
      split at h
      · rename_i a1 h1
        split at h
        · rename_i a2 h2
          cases h
          exact ⟨_, _, _, rfl, h0, h1, h2⟩
        · cases h
      · cases h
    · cases h
  · cases h
theorem law92 : CodAt C 92 := ⟨fun x => by show ((enc34 x.B).cells C ++ ((enc3 x.At).cells C ++ ((enc39 x.E).cells C ++ []))) = cel92 x; unfold cel92; exact congr (congrArg (· ++ ·) (law34.cel x.B)) (congr (congrArg (· ++ ·) (law3.cel x.At)) (congr (congrArg (· ++ ·) (law39.cel x.E)) (rfl))), fun x => by show ((cel34 x.B ++ (cel3 x.At ++ (cel39 x.E ++ [])))).length = 3; rw [List.length_append, List.length_append, List.length_append]; have e0 : (cel34 x.B).length = 1 := law34.len x.B; have e1 : (cel3 x.At).length = 1 := law3.len x.At; have e2 : (cel39 x.E).length = 1 := law39.len x.E; simp only [e0, e1, e2, List.length_nil], fun x a h => by obtain ⟨x0, x1, x2, rfl, h0, h1, h2⟩ := decx92 (show dec92 x = some a from h); exact CW.append (law34.dec _ _ h0) (CW.append (law3.dec _ _ h1) (CW.append (law39.dec _ _ h2) (CW.refl []))), fun x => by show (((enc34 x.B).ok && ((enc3 x.At).ok && ((enc39 x.E).ok && true)))) = true; simp only [show (enc34 x.B).ok = true from law34.ok _, show (enc3 x.At).ok = true from law3.ok _, show (enc39 x.E).ok = true from law39.ok _, Bool.and_self], fun x a h => by obtain ⟨x0, x1, x2, rfl, h0, h1, h2⟩ := decx92 (show dec92 x = some a from h); show ((x0.ok && (x1.ok && (x2.ok && true)))) = true; simp only [law34.decok _ _ h0, law3.decok _ _ h1, law39.decok _ _ h2, Bool.and_self], fun x a h => by obtain ⟨x0, x1, x2, rfl, h0, h1, h2⟩ := decx92 (show dec92 x = some a from h); rfl, fun x => by show ((cel34 x.B ++ (cel3 x.At ++ (cel39 x.E ++ [])))).all AV.one = true; simp only [List.all_append, List.all_nil, show (cel34 x.B).all AV.one = true from law34.one _, show (cel3 x.At).all AV.one = true from law3.one _, show (cel39 x.E).all AV.one = true from law39.one _, Bool.and_self], fun x => noids_app (law34.noid x.B) (noids_app (law3.noid x.At) (noids_app (law39.noid x.E) (trivial))), (fun ks h => nomatch h), (fun l s h => nomatch h), (fun s l h => nomatch h)⟩
theorem decx93 {x : TV τ} {a : Gorchardref04_Reader} (h : dec93 x = some a) : ∃ x0 x1 x2, x = .agg [x0, x1, x2] ∧ dec34 x0 = some a.B ∧ dec3 x1 = some a.At ∧ dec39 x2 = some a.E := by
  unfold dec93 at h
  split at h
  · rename_i x0 x1 x2
    split at h
    · rename_i a0 h0
      split at h
      · rename_i a1 h1
        split at h
        · rename_i a2 h2
          cases h
          exact ⟨_, _, _, rfl, h0, h1, h2⟩
        · cases h
      · cases h
    · cases h
  · cases h
theorem law93 : CodAt C 93 := ⟨fun x => by show ((enc34 x.B).cells C ++ ((enc3 x.At).cells C ++ ((enc39 x.E).cells C ++ []))) = cel93 x; unfold cel93; exact congr (congrArg (· ++ ·) (law34.cel x.B)) (congr (congrArg (· ++ ·) (law3.cel x.At)) (congr (congrArg (· ++ ·) (law39.cel x.E)) (rfl))), fun x => by show ((cel34 x.B ++ (cel3 x.At ++ (cel39 x.E ++ [])))).length = 3; rw [List.length_append, List.length_append, List.length_append]; have e0 : (cel34 x.B).length = 1 := law34.len x.B; have e1 : (cel3 x.At).length = 1 := law3.len x.At; have e2 : (cel39 x.E).length = 1 := law39.len x.E; simp only [e0, e1, e2, List.length_nil], fun x a h => by obtain ⟨x0, x1, x2, rfl, h0, h1, h2⟩ := decx93 (show dec93 x = some a from h); exact CW.append (law34.dec _ _ h0) (CW.append (law3.dec _ _ h1) (CW.append (law39.dec _ _ h2) (CW.refl []))), fun x => by show (((enc34 x.B).ok && ((enc3 x.At).ok && ((enc39 x.E).ok && true)))) = true; simp only [show (enc34 x.B).ok = true from law34.ok _, show (enc3 x.At).ok = true from law3.ok _, show (enc39 x.E).ok = true from law39.ok _, Bool.and_self], fun x a h => by obtain ⟨x0, x1, x2, rfl, h0, h1, h2⟩ := decx93 (show dec93 x = some a from h); show ((x0.ok && (x1.ok && (x2.ok && true)))) = true; simp only [law34.decok _ _ h0, law3.decok _ _ h1, law39.decok _ _ h2, Bool.and_self], fun x a h => by obtain ⟨x0, x1, x2, rfl, h0, h1, h2⟩ := decx93 (show dec93 x = some a from h); rfl, fun x => by show ((cel34 x.B ++ (cel3 x.At ++ (cel39 x.E ++ [])))).all AV.one = true; simp only [List.all_append, List.all_nil, show (cel34 x.B).all AV.one = true from law34.one _, show (cel3 x.At).all AV.one = true from law3.one _, show (cel39 x.E).all AV.one = true from law39.one _, Bool.and_self], fun x => noids_app (law34.noid x.B) (noids_app (law3.noid x.At) (noids_app (law39.noid x.E) (trivial))), (fun ks h => nomatch h), (fun l s h => nomatch h), (fun s l h => nomatch h)⟩
theorem decx97 {x : TV τ} {a : Gwire_Writer} (h : dec97 x = some a) : ∃ x0 x1, x = .agg [x0, x1] ∧ dec4 x0 = some a.made ∧ dec34 x1 = some a.b := by
  unfold dec97 at h
  split at h
  · rename_i x0 x1
    split at h
    · rename_i a0 h0
      split at h
      · rename_i a1 h1
        cases h
        exact ⟨_, _, rfl, h0, h1⟩
      · cases h
    · cases h
  · cases h
theorem law97 : CodAt C 97 := ⟨fun x => by show ((enc4 x.made).cells C ++ ((enc34 x.b).cells C ++ [])) = cel97 x; unfold cel97; exact congr (congrArg (· ++ ·) (law4.cel x.made)) (congr (congrArg (· ++ ·) (law34.cel x.b)) (rfl)), fun x => by show ((cel4 x.made ++ (cel34 x.b ++ []))).length = 2; rw [List.length_append, List.length_append]; have e0 : (cel4 x.made).length = 1 := law4.len x.made; have e1 : (cel34 x.b).length = 1 := law34.len x.b; simp only [e0, e1, List.length_nil], fun x a h => by obtain ⟨x0, x1, rfl, h0, h1⟩ := decx97 (show dec97 x = some a from h); exact CW.append (law4.dec _ _ h0) (CW.append (law34.dec _ _ h1) (CW.refl [])), fun x => by show (((enc4 x.made).ok && ((enc34 x.b).ok && true))) = true; simp only [show (enc4 x.made).ok = true from law4.ok _, show (enc34 x.b).ok = true from law34.ok _, Bool.and_self], fun x a h => by obtain ⟨x0, x1, rfl, h0, h1⟩ := decx97 (show dec97 x = some a from h); show ((x0.ok && (x1.ok && true))) = true; simp only [law4.decok _ _ h0, law34.decok _ _ h1, Bool.and_self], fun x a h => by obtain ⟨x0, x1, rfl, h0, h1⟩ := decx97 (show dec97 x = some a from h); rfl, fun x => by show ((cel4 x.made ++ (cel34 x.b ++ []))).all AV.one = true; simp only [List.all_append, List.all_nil, show (cel4 x.made).all AV.one = true from law4.one _, show (cel34 x.b).all AV.one = true from law34.one _, Bool.and_self], fun x => noids_app (law4.noid x.made) (noids_app (law34.noid x.b) (trivial)), (fun ks h => nomatch h), (fun l s h => nomatch h), (fun s l h => nomatch h)⟩
theorem decx98 {x : TV τ} {a : Gwire_Writer} (h : dec98 x = some a) : ∃ x0 x1, x = .agg [x0, x1] ∧ dec4 x0 = some a.made ∧ dec34 x1 = some a.b := by
  unfold dec98 at h
  split at h
  · rename_i x0 x1
    split at h
    · rename_i a0 h0
      split at h
      · rename_i a1 h1
        cases h
        exact ⟨_, _, rfl, h0, h1⟩
      · cases h
    · cases h
  · cases h
theorem law98 : CodAt C 98 := ⟨fun x => by show ((enc4 x.made).cells C ++ ((enc34 x.b).cells C ++ [])) = cel98 x; unfold cel98; exact congr (congrArg (· ++ ·) (law4.cel x.made)) (congr (congrArg (· ++ ·) (law34.cel x.b)) (rfl)), fun x => by show ((cel4 x.made ++ (cel34 x.b ++ []))).length = 2; rw [List.length_append, List.length_append]; have e0 : (cel4 x.made).length = 1 := law4.len x.made; have e1 : (cel34 x.b).length = 1 := law34.len x.b; simp only [e0, e1, List.length_nil], fun x a h => by obtain ⟨x0, x1, rfl, h0, h1⟩ := decx98 (show dec98 x = some a from h); exact CW.append (law4.dec _ _ h0) (CW.append (law34.dec _ _ h1) (CW.refl [])), fun x => by show (((enc4 x.made).ok && ((enc34 x.b).ok && true))) = true; simp only [show (enc4 x.made).ok = true from law4.ok _, show (enc34 x.b).ok = true from law34.ok _, Bool.and_self], fun x a h => by obtain ⟨x0, x1, rfl, h0, h1⟩ := decx98 (show dec98 x = some a from h); show ((x0.ok && (x1.ok && true))) = true; simp only [law4.decok _ _ h0, law34.decok _ _ h1, Bool.and_self], fun x a h => by obtain ⟨x0, x1, rfl, h0, h1⟩ := decx98 (show dec98 x = some a from h); rfl, fun x => by show ((cel4 x.made ++ (cel34 x.b ++ []))).all AV.one = true; simp only [List.all_append, List.all_nil, show (cel4 x.made).all AV.one = true from law4.one _, show (cel34 x.b).all AV.one = true from law34.one _, Bool.and_self], fun x => noids_app (law4.noid x.made) (noids_app (law34.noid x.b) (trivial)), (fun ks h => nomatch h), (fun l s h => nomatch h), (fun s l h => nomatch h)⟩
theorem decx108 {x : TV τ} {a : Gwire_Writer} (h : dec108 x = some a) : ∃ x0 x1, x = .agg [x0, x1] ∧ dec4 x0 = some a.made ∧ dec34 x1 = some a.b := by
  unfold dec108 at h
  split at h
  · rename_i x0 x1
    split at h
    · rename_i a0 h0
      split at h
      · rename_i a1 h1
        cases h
        exact ⟨_, _, rfl, h0, h1⟩
      · cases h
    · cases h
  · cases h
theorem law108 : CodAt C 108 := ⟨fun x => by show ((enc4 x.made).cells C ++ ((enc34 x.b).cells C ++ [])) = cel108 x; unfold cel108; exact congr (congrArg (· ++ ·) (law4.cel x.made)) (congr (congrArg (· ++ ·) (law34.cel x.b)) (rfl)), fun x => by show ((cel4 x.made ++ (cel34 x.b ++ []))).length = 2; rw [List.length_append, List.length_append]; have e0 : (cel4 x.made).length = 1 := law4.len x.made; have e1 : (cel34 x.b).length = 1 := law34.len x.b; simp only [e0, e1, List.length_nil], fun x a h => by obtain ⟨x0, x1, rfl, h0, h1⟩ := decx108 (show dec108 x = some a from h); exact CW.append (law4.dec _ _ h0) (CW.append (law34.dec _ _ h1) (CW.refl [])), fun x => by show (((enc4 x.made).ok && ((enc34 x.b).ok && true))) = true; simp only [show (enc4 x.made).ok = true from law4.ok _, show (enc34 x.b).ok = true from law34.ok _, Bool.and_self], fun x a h => by obtain ⟨x0, x1, rfl, h0, h1⟩ := decx108 (show dec108 x = some a from h); show ((x0.ok && (x1.ok && true))) = true; simp only [law4.decok _ _ h0, law34.decok _ _ h1, Bool.and_self], fun x a h => by obtain ⟨x0, x1, rfl, h0, h1⟩ := decx108 (show dec108 x = some a from h); rfl, fun x => by show ((cel4 x.made ++ (cel34 x.b ++ []))).all AV.one = true; simp only [List.all_append, List.all_nil, show (cel4 x.made).all AV.one = true from law4.one _, show (cel34 x.b).all AV.one = true from law34.one _, Bool.and_self], fun x => noids_app (law4.noid x.made) (noids_app (law34.noid x.b) (trivial)), (fun ks h => nomatch h), (fun l s h => nomatch h), (fun s l h => nomatch h)⟩
theorem law118 : CodAt C 118 := ⟨fun x => rfl, fun x => rfl, fun x a h => (dSl_cw (C := C) (show dSl 34 x = some a from h)).1, fun x => rfl, fun x a h => (dSl_cw (C := C) (show dSl 34 x = some a from h)).2.1, fun x a h => (dSl_cw (C := C) (show dSl 34 x = some a from h)).2.2, fun a => rfl, fun a => noids_one (NoId.asl fun cs hc => by obtain ⟨y, _, rfl⟩ := List.mem_map.1 hc; exact law34.noid y), (fun ks h => nomatch h), (fun l s h => nomatch h), (fun s l h => nomatch h)⟩
theorem law119 : CodAt C 119 := ⟨fun x => rfl, fun x => rfl, fun x a h => by rw [dInt_x (show dInt .u64 x = some a from h)]; exact .refl _, fun x => rfl, fun x a h => by rw [dInt_x (show dInt .u64 x = some a from h)]; rfl, fun x a h => by rw [dInt_x (show dInt .u64 x = some a from h)]; rfl, fun a => rfl, fun a => noids_one (NoId.v _), fun ks h a b => by cases h; simp [eqCells, scal, C, celT, cel119, beqT, beq119], (fun l s h => nomatch h), (fun s l h => nomatch h)⟩
theorem law120 : CodAt C 120 := ⟨fun x => rfl, fun x => rfl, fun x a h => by rw [dInt_x (show dInt .u64 x = some a from h)]; exact .refl _, fun x => rfl, fun x a h => by rw [dInt_x (show dInt .u64 x = some a from h)]; rfl, fun x a h => by rw [dInt_x (show dInt .u64 x = some a from h)]; rfl, fun a => rfl, fun a => noids_one (NoId.v _), fun ks h a b => by cases h; simp [eqCells, scal, C, celT, cel120, beqT, beq120], (fun l s h => nomatch h), (fun s l h => nomatch h)⟩
theorem law126 : CodAt C 126 := ⟨fun x => rfl, fun x => rfl, fun x a h => (dSl_cw (C := C) (show dSl 2 x = some a from h)).1, fun x => rfl, fun x a h => (dSl_cw (C := C) (show dSl 2 x = some a from h)).2.1, fun x a h => (dSl_cw (C := C) (show dSl 2 x = some a from h)).2.2, fun a => rfl, fun a => noids_one (NoId.asl fun cs hc => by obtain ⟨y, _, rfl⟩ := List.mem_map.1 hc; exact law2.noid y), (fun ks h => nomatch h), (fun l s h => nomatch h), (fun s l h => nomatch h)⟩
theorem law141 : CodAt C 141 := ⟨fun x => rfl, fun x => rfl, fun x a h => by rw [dInt_x (show dInt .u32 x = some a from h)]; exact .refl _, fun x => rfl, fun x a h => by rw [dInt_x (show dInt .u32 x = some a from h)]; rfl, fun x a h => by rw [dInt_x (show dInt .u32 x = some a from h)]; rfl, fun a => rfl, fun a => noids_one (NoId.v _), fun ks h a b => by cases h; simp [eqCells, scal, C, celT, cel141, beqT, beq141], (fun l s h => nomatch h), (fun s l h => nomatch h)⟩
theorem lawX {t : Nat} (h : celT t = fun _ => []) (h1 : encT t = fun _ => .agg []) (h2 : decT t = fun _ => none) (h3 : szT t = 0) (h4 : kdT t = none) (h5 : b2sT t = fun _ => none) (h6 : s2bT t = fun _ => none) : CodAt C t := by
  refine ⟨fun x => ?_, fun x => ?_, fun x a hx => ?_, fun x => ?_, fun x a hx => ?_, fun x a hx => ?_, fun a => ?_, fun a => ?_, fun ks hk => ?_, fun l s hl => ?_, fun s l hl => ?_⟩
  · show (encT t x).cells C = celT t x; rw [h, h1]; rfl
  · show (celT t x).length = szT t; rw [h, h3]; rfl
  · have e : decT t x = some a := hx; rw [h2] at e; cases e
  · show (encT t x).ok = true; rw [h1]; rfl
  · have e : decT t x = some a := hx; rw [h2] at e; cases e
  · have e : decT t x = some a := hx; rw [h2] at e; cases e
  · show (celT t a).all AV.one = true; rw [h]; rfl
  · show NoIds (celT t a); rw [h]; trivial
  · have e : kdT t = some ks := hk; rw [h4] at e; cases e
  · have e : b2sT t l = some s := hl; rw [h5] at e; cases e
  · have e : s2bT t s = some l := hl; rw [h6] at e; cases e
theorem lawOther : ∀ t : Nat, t ≠ 2 → t ≠ 3 → t ≠ 4 → t ≠ 5 → t ≠ 9 → t ≠ 12 → t ≠ 21 → t ≠ 22 → t ≠ 23 → t ≠ 24 → t ≠ 25 → t ≠ 26 → t ≠ 29 → t ≠ 30 → t ≠ 31 → t ≠ 32 → t ≠ 33 → t ≠ 34 → t ≠ 35 → t ≠ 36 → t ≠ 37 → t ≠ 38 → t ≠ 39 → t ≠ 45 → t ≠ 50 → t ≠ 51 → t ≠ 52 → t ≠ 70 → t ≠ 74 → t ≠ 92 → t ≠ 93 → t ≠ 97 → t ≠ 98 → t ≠ 108 → t ≠ 118 → t ≠ 119 → t ≠ 120 → t ≠ 126 → t ≠ 141 → CodAt C t
  | t, h2, h3, h4, h5, h9, h12, h21, h22, h23, h24, h25, h26, h29, h30, h31, h32, h33, h34, h35, h36, h37, h38, h39, h45, h50, h51, h52, h70, h74, h92, h93, h97, h98, h108, h118, h119, h120, h126, h141 => by
    apply lawX <;> first
      | (unfold celT; split <;> first | rfl | contradiction | (exfalso; omega))
      | (unfold encT; split <;> first | rfl | contradiction | (exfalso; omega))
      | (unfold decT; split <;> first | rfl | contradiction | (exfalso; omega))
      | (unfold szT; split <;> first | rfl | contradiction | (exfalso; omega))
      | (unfold kdT; split <;> first | rfl | contradiction | (exfalso; omega))
      | (unfold b2sT; split <;> first | rfl | contradiction | (exfalso; omega))
      | (unfold s2bT; split <;> first | rfl | contradiction | (exfalso; omega))
theorem cOk : C.Ok := Cod.Ok.of fun t => by
  by_cases h2 : t = 2
  · subst h2; exact law2
  by_cases h3 : t = 3
  · subst h3; exact law3
  by_cases h4 : t = 4
  · subst h4; exact law4
  by_cases h5 : t = 5
  · subst h5; exact law5
  by_cases h9 : t = 9
  · subst h9; exact law9
  by_cases h12 : t = 12
  · subst h12; exact law12
  by_cases h21 : t = 21
  · subst h21; exact law21
  by_cases h22 : t = 22
  · subst h22; exact law22
  by_cases h23 : t = 23
  · subst h23; exact law23
  by_cases h24 : t = 24
  · subst h24; exact law24
  by_cases h25 : t = 25
  · subst h25; exact law25
  by_cases h26 : t = 26
  · subst h26; exact law26
  by_cases h29 : t = 29
  · subst h29; exact law29
  by_cases h30 : t = 30
  · subst h30; exact law30
  by_cases h31 : t = 31
  · subst h31; exact law31
  by_cases h32 : t = 32
  · subst h32; exact law32
  by_cases h33 : t = 33
  · subst h33; exact law33
  by_cases h34 : t = 34
  · subst h34; exact law34
  by_cases h35 : t = 35
  · subst h35; exact law35
  by_cases h36 : t = 36
  · subst h36; exact law36
  by_cases h37 : t = 37
  · subst h37; exact law37
  by_cases h38 : t = 38
  · subst h38; exact law38
  by_cases h39 : t = 39
  · subst h39; exact law39
  by_cases h45 : t = 45
  · subst h45; exact law45
  by_cases h50 : t = 50
  · subst h50; exact law50
  by_cases h51 : t = 51
  · subst h51; exact law51
  by_cases h52 : t = 52
  · subst h52; exact law52
  by_cases h70 : t = 70
  · subst h70; exact law70
  by_cases h74 : t = 74
  · subst h74; exact law74
  by_cases h92 : t = 92
  · subst h92; exact law92
  by_cases h93 : t = 93
  · subst h93; exact law93
  by_cases h97 : t = 97
  · subst h97; exact law97
  by_cases h98 : t = 98
  · subst h98; exact law98
  by_cases h108 : t = 108
  · subst h108; exact law108
  by_cases h118 : t = 118
  · subst h118; exact law118
  by_cases h119 : t = 119
  · subst h119; exact law119
  by_cases h120 : t = 120
  · subst h120; exact law120
  by_cases h126 : t = 126
  · subst h126; exact law126
  by_cases h141 : t = 141
  · subst h141; exact law141
  exact lawOther t h2 h3 h4 h5 h9 h12 h21 h22 h23 h24 h25 h26 h29 h30 h31 h32 h33 h34 h35 h36 h37 h38 h39 h45 h50 h51 h52 h70 h74 h92 h93 h97 h98 h108 h118 h119 h120 h126 h141
def zeroT : Nat → Option (TV τ)
  | 1 => some (.nil .func)
  | 2 => some (.int .i64 0)
  | 3 => some (.int .i64 0)
  | 4 => some (.bool false)
  | 5 => some (.int .u8 0)
  | 9 => some (.str [])
  | 12 => some (.int .u64 0)
  | 17 => some (.nil .ptr)
  | 21 => some (.int .i32 0)
  | 22 => some (.arr 3 8 (Vector.replicate 8 (default : Int)))
  | 23 => some (.arr 2 8 (Vector.replicate 8 (default : Int)))
  | 24 => some (.arr 2 8 (Vector.replicate 8 (default : Int)))
  | 25 => some (.agg [(.int .i64 0), (.arr 3 8 (Vector.replicate 8 (default : Int))), (.arr 2 8 (Vector.replicate 8 (default : Int))), (.arr 3 8 (Vector.replicate 8 (default : Int)))])
  | 26 => some (.agg [(.int .i64 0), (.arr 3 8 (Vector.replicate 8 (default : Int))), (.arr 2 8 (Vector.replicate 8 (default : Int))), (.arr 3 8 (Vector.replicate 8 (default : Int)))])
  | 27 => some (.nil .func)
  | 28 => some (.nil .func)
  | 29 => some (.agg [(.int .i64 0), (.int .i64 0)])
  | 30 => some (.agg [(.int .i64 0), (.int .i64 0)])
  | 31 => some (.agg [(.agg [(.int .i64 0), (.int .i64 0)]), (.int .i64 0), (.int .i64 0), (.int .i64 0), (.str []), (.str []), (.str [])])
  | 32 => some (.agg [(.agg [(.int .i64 0), (.int .i64 0)]), (.int .i64 0), (.int .i64 0), (.int .i64 0), (.str []), (.str []), (.str [])])
  | 33 => some (.nil .slice)
  | 34 => some (.nil .slice)
  | 35 => some (.agg [(.int .i64 0), (.int .i64 0), (.int .i64 0), (.nil .slice)])
  | 36 => some (.agg [(.int .i64 0), (.int .i64 0), (.int .i64 0), (.nil .slice)])
  | 37 => some (.agg [(.int .i64 0), (.int .i64 0), (.int .i64 0), (.agg [(.agg [(.int .i64 0), (.int .i64 0)]), (.int .i64 0), (.int .i64 0), (.int .i64 0), (.str []), (.str []), (.str [])]), (.int .i64 0), (.int .i64 0), (.nil .slice), (.agg [(.int .i64 0), (.arr 3 8 (Vector.replicate 8 (default : Int))), (.arr 2 8 (Vector.replicate 8 (default : Int))), (.arr 3 8 (Vector.replicate 8 (default : Int)))]), (.int .i64 0), (.arr 2 8 (Vector.replicate 8 (default : Int))), (.int .i64 0), (.agg [(.int .i64 0), (.int .i64 0), (.int .i64 0), (.nil .slice)]), (.int .i64 0), (.int .i64 0), (.int .i64 0)])
  | 38 => some (.agg [(.int .i64 0), (.int .i64 0), (.int .i64 0), (.agg [(.agg [(.int .i64 0), (.int .i64 0)]), (.int .i64 0), (.int .i64 0), (.int .i64 0), (.str []), (.str []), (.str [])]), (.int .i64 0), (.int .i64 0), (.nil .slice), (.agg [(.int .i64 0), (.arr 3 8 (Vector.replicate 8 (default : Int))), (.arr 2 8 (Vector.replicate 8 (default : Int))), (.arr 3 8 (Vector.replicate 8 (default : Int)))]), (.int .i64 0), (.arr 2 8 (Vector.replicate 8 (default : Int))), (.int .i64 0), (.agg [(.int .i64 0), (.int .i64 0), (.int .i64 0), (.nil .slice)]), (.int .i64 0), (.int .i64 0), (.int .i64 0)])
  | 39 => some (.int .i64 0)
  | 41 => some (.nil .func)
  | 42 => some (.nil .func)
  | 43 => some (.nil .func)
  | 44 => some (.nil .func)
  | 45 => some (.nil .slice)
  | 46 => some (.nil .func)
  | 47 => some (.nil .func)
  | 48 => some (.nil .func)
  | 49 => some (.nil .ptr)
  | 50 => some (.nil .slice)
  | 51 => some (.agg [(.nil .slice)])
  | 52 => some (.agg [(.nil .slice)])
  | 53 => some (.nil .slice)
  | 55 => some (.nil .func)
  | 56 => some (.nil .func)
  | 57 => some (.nil .func)
  | 58 => some (.nil .func)
  | 59 => some (.nil .func)
  | 60 => some (.nil .func)
  | 61 => some (.nil .func)
  | 62 => some (.nil .func)
  | 63 => some (.nil .func)
  | 65 => some (.nil .func)
  | 67 => some (.nil .func)
  | 68 => some (.nil .func)
  | 69 => some (.nil .func)
  | 70 => some (.nil .slice)
  | 71 => some (.nil .func)
  | 72 => some (.nil .func)
  | 73 => some (.nil .func)
  | 74 => some (.arr 38 3 (Vector.replicate 3 (default : GEntry)))
  | 75 => some (.nil .func)
  | 76 => some (.nil .ptr)
  | 77 => some (.nil .func)
  | 78 => some (.nil .func)
  | 79 => some (.nil .func)
  | 80 => some (.nil .ptr)
  | 81 => some (.nil .func)
  | 82 => some (.nil .func)
  | 83 => some (.nil .func)
  | 84 => some (.nil .func)
  | 85 => some (.nil .ptr)
  | 86 => some (.nil .func)
  | 88 => some (.nil .func)
  | 89 => some (.nil .func)
  | 90 => some (.nil .func)
  | 91 => some (.nil .ptr)
  | 92 => some (.agg [(.nil .slice), (.int .i64 0), (.int .i64 0)])
  | 93 => some (.agg [(.nil .slice), (.int .i64 0), (.int .i64 0)])
  | 94 => some (.nil .func)
  | 95 => some (.nil .func)
  | 96 => some (.nil .func)
  | 97 => some (.agg [(.bool false), (.nil .slice)])
  | 98 => some (.agg [(.bool false), (.nil .slice)])
  | 99 => some (.nil .func)
  | 100 => some (.nil .func)
  | 101 => some (.nil .func)
  | 102 => some (.nil .func)
  | 103 => some (.nil .func)
  | 104 => some (.nil .ptr)
  | 105 => some (.nil .func)
  | 106 => some (.nil .func)
  | 107 => some (.nil .func)
  | 108 => some (.agg [(.bool false), (.nil .slice)])
  | 110 => some (.nil .func)
  | 111 => some (.nil .func)
  | 112 => some (.nil .ptr)
  | 113 => some (.nil .func)
  | 114 => some (.nil .func)
  | 115 => some (.nil .func)
  | 116 => some (.nil .func)
  | 117 => some (.nil .func)
  | 118 => some (.nil .slice)
  | 119 => some (.int .u64 0)
  | 120 => some (.int .u64 0)
  | 121 => some (.nil .func)
  | 122 => some (.agg [(.nil .ptr), (.int .i64 0)])
  | 123 => some (.agg [(.nil .ptr), (.int .i64 0)])
  | 124 => some (.nil .func)
  | 125 => some (.nil .func)
  | 126 => some (.nil .slice)
  | 127 => some (.agg [(.nil .ptr), (.int .i64 0)])
  | 128 => some (.agg [(.nil .ptr), (.int .i64 0)])
  | 129 => some (.nil .func)
  | 130 => some (.nil .ptr)
  | 131 => some (.nil .func)
  | 132 => some (.nil .ptr)
  | 133 => some (.nil .func)
  | 134 => some (.nil .slice)
  | 135 => some (.nil .func)
  | 141 => some (.int .u32 0)
  | 145 => some (.nil .ptr)
  | _ => none
theorem zok1 : ∃ i, E.ty 1 = some i ∧ (.nil .func : TV τ).ok = true ∧ CW i.zero ((.nil .func : TV τ).cells C) ∧ (.nil .func : TV τ).isAgg = i.agg := ⟨ti1, rfl, rfl, CW.of_eq (by kernel_rfl), rfl⟩
theorem zok2 : ∃ i, E.ty 2 = some i ∧ (.int .i64 0 : TV τ).ok = true ∧ CW i.zero ((.int .i64 0 : TV τ).cells C) ∧ (.int .i64 0 : TV τ).isAgg = i.agg := ⟨ti2, rfl, rfl, CW.of_eq (by kernel_rfl), rfl⟩
theorem zok3 : ∃ i, E.ty 3 = some i ∧ (.int .i64 0 : TV τ).ok = true ∧ CW i.zero ((.int .i64 0 : TV τ).cells C) ∧ (.int .i64 0 : TV τ).isAgg = i.agg := ⟨ti3, rfl, rfl, CW.of_eq (by kernel_rfl), rfl⟩
theorem zok4 : ∃ i, E.ty 4 = some i ∧ (.bool false : TV τ).ok = true ∧ CW i.zero ((.bool false : TV τ).cells C) ∧ (.bool false : TV τ).isAgg = i.agg := ⟨ti4, rfl, rfl, CW.of_eq (by kernel_rfl), rfl⟩
theorem zok5 : ∃ i, E.ty 5 = some i ∧ (.int .u8 0 : TV τ).ok = true ∧ CW i.zero ((.int .u8 0 : TV τ).cells C) ∧ (.int .u8 0 : TV τ).isAgg = i.agg := ⟨ti5, rfl, rfl, CW.of_eq (by kernel_rfl), rfl⟩
theorem zok9 : ∃ i, E.ty 9 = some i ∧ (.str [] : TV τ).ok = true ∧ CW i.zero ((.str [] : TV τ).cells C) ∧ (.str [] : TV τ).isAgg = i.agg := ⟨ti9, rfl, rfl, CW.of_eq (by kernel_rfl), rfl⟩
theorem zok12 : ∃ i, E.ty 12 = some i ∧ (.int .u64 0 : TV τ).ok = true ∧ CW i.zero ((.int .u64 0 : TV τ).cells C) ∧ (.int .u64 0 : TV τ).isAgg = i.agg := ⟨ti12, rfl, rfl, CW.of_eq (by kernel_rfl), rfl⟩
theorem zok17 : ∃ i, E.ty 17 = some i ∧ (.nil .ptr : TV τ).ok = true ∧ CW i.zero ((.nil .ptr : TV τ).cells C) ∧ (.nil .ptr : TV τ).isAgg = i.agg := ⟨ti17, rfl, rfl, CW.of_eq (by kernel_rfl), rfl⟩
theorem zok21 : ∃ i, E.ty 21 = some i ∧ (.int .i32 0 : TV τ).ok = true ∧ CW i.zero ((.int .i32 0 : TV τ).cells C) ∧ (.int .i32 0 : TV τ).isAgg = i.agg := ⟨ti21, rfl, rfl, CW.of_eq (by kernel_rfl), rfl⟩
theorem zok22 : ∃ i, E.ty 22 = some i ∧ (.arr 3 8 (Vector.replicate 8 (default : Int)) : TV τ).ok = true ∧ CW i.zero ((.arr 3 8 (Vector.replicate 8 (default : Int)) : TV τ).cells C) ∧ (.arr 3 8 (Vector.replicate 8 (default : Int)) : TV τ).isAgg = i.agg := ⟨ti22, rfl, rfl, CW.of_eq (by kernel_rfl), rfl⟩
theorem zok23 : ∃ i, E.ty 23 = some i ∧ (.arr 2 8 (Vector.replicate 8 (default : Int)) : TV τ).ok = true ∧ CW i.zero ((.arr 2 8 (Vector.replicate 8 (default : Int)) : TV τ).cells C) ∧ (.arr 2 8 (Vector.replicate 8 (default : Int)) : TV τ).isAgg = i.agg := ⟨ti23, rfl, rfl, CW.of_eq (by kernel_rfl), rfl⟩
theorem zok24 : ∃ i, E.ty 24 = some i ∧ (.arr 2 8 (Vector.replicate 8 (default : Int)) : TV τ).ok = true ∧ CW i.zero ((.arr 2 8 (Vector.replicate 8 (default : Int)) : TV τ).cells C) ∧ (.arr 2 8 (Vector.replicate 8 (default : Int)) : TV τ).isAgg = i.agg := ⟨ti24, rfl, rfl, CW.of_eq (by kernel_rfl), rfl⟩
theorem zok25 : ∃ i, E.ty 25 = some i ∧ (.agg [(.int .i64 0), (.arr 3 8 (Vector.replicate 8 (default : Int))), (.arr 2 8 (Vector.replicate 8 (default : Int))), (.arr 3 8 (Vector.replicate 8 (default : Int)))] : TV τ).ok = true ∧ CW i.zero ((.agg [(.int .i64 0), (.arr 3 8 (Vector.replicate 8 (default : Int))), (.arr 2 8 (Vector.replicate 8 (default : Int))), (.arr 3 8 (Vector.replicate 8 (default : Int)))] : TV τ).cells C) ∧ (.agg [(.int .i64 0), (.arr 3 8 (Vector.replicate 8 (default : Int))), (.arr 2 8 (Vector.replicate 8 (default : Int))), (.arr 3 8 (Vector.replicate 8 (default : Int)))] : TV τ).isAgg = i.agg := ⟨ti25, rfl, rfl, CW.of_eq (by kernel_rfl), rfl⟩
theorem zok26 : ∃ i, E.ty 26 = some i ∧ (.agg [(.int .i64 0), (.arr 3 8 (Vector.replicate 8 (default : Int))), (.arr 2 8 (Vector.replicate 8 (default : Int))), (.arr 3 8 (Vector.replicate 8 (default : Int)))] : TV τ).ok = true ∧ CW i.zero ((.agg [(.int .i64 0), (.arr 3 8 (Vector.replicate 8 (default : Int))), (.arr 2 8 (Vector.replicate 8 (default : Int))), (.arr 3 8 (Vector.replicate 8 (default : Int)))] : TV τ).cells C) ∧ (.agg [(.int .i64 0), (.arr 3 8 (Vector.replicate 8 (default : Int))), (.arr 2 8 (Vector.replicate 8 (default : Int))), (.arr 3 8 (Vector.replicate 8 (default : Int)))] : TV τ).isAgg = i.agg := ⟨ti26, rfl, rfl, CW.of_eq (by kernel_rfl), rfl⟩
theorem zok27 : ∃ i, E.ty 27 = some i ∧ (.nil .func : TV τ).ok = true ∧ CW i.zero ((.nil .func : TV τ).cells C) ∧ (.nil .func : TV τ).isAgg = i.agg := ⟨ti27, rfl, rfl, CW.of_eq (by kernel_rfl), rfl⟩
theorem zok28 : ∃ i, E.ty 28 = some i ∧ (.nil .func : TV τ).ok = true ∧ CW i.zero ((.nil .func : TV τ).cells C) ∧ (.nil .func : TV τ).isAgg = i.agg := ⟨ti28, rfl, rfl, CW.of_eq (by kernel_rfl), rfl⟩
theorem zok29 : ∃ i, E.ty 29 = some i ∧ (.agg [(.int .i64 0), (.int .i64 0)] : TV τ).ok = true ∧ CW i.zero ((.agg [(.int .i64 0), (.int .i64 0)] : TV τ).cells C) ∧ (.agg [(.int .i64 0), (.int .i64 0)] : TV τ).isAgg = i.agg := ⟨ti29, rfl, rfl, CW.of_eq (by kernel_rfl), rfl⟩
theorem zok30 : ∃ i, E.ty 30 = some i ∧ (.agg [(.int .i64 0), (.int .i64 0)] : TV τ).ok = true ∧ CW i.zero ((.agg [(.int .i64 0), (.int .i64 0)] : TV τ).cells C) ∧ (.agg [(.int .i64 0), (.int .i64 0)] : TV τ).isAgg = i.agg := ⟨ti30, rfl, rfl, CW.of_eq (by kernel_rfl), rfl⟩
theorem zok31 : ∃ i, E.ty 31 = some i ∧ (.agg [(.agg [(.int .i64 0), (.int .i64 0)]), (.int .i64 0), (.int .i64 0), (.int .i64 0), (.str []), (.str []), (.str [])] : TV τ).ok = true ∧ CW i.zero ((.agg [(.agg [(.int .i64 0), (.int .i64 0)]), (.int .i64 0), (.int .i64 0), (.int .i64 0), (.str []), (.str []), (.str [])] : TV τ).cells C) ∧ (.agg [(.agg [(.int .i64 0), (.int .i64 0)]), (.int .i64 0), (.int .i64 0), (.int .i64 0), (.str []), (.str []), (.str [])] : TV τ).isAgg = i.agg := ⟨ti31, rfl, rfl, CW.of_eq (by kernel_rfl), rfl⟩
theorem zok32 : ∃ i, E.ty 32 = some i ∧ (.agg [(.agg [(.int .i64 0), (.int .i64 0)]), (.int .i64 0), (.int .i64 0), (.int .i64 0), (.str []), (.str []), (.str [])] : TV τ).ok = true ∧ CW i.zero ((.agg [(.agg [(.int .i64 0), (.int .i64 0)]), (.int .i64 0), (.int .i64 0), (.int .i64 0), (.str []), (.str []), (.str [])] : TV τ).cells C) ∧ (.agg [(.agg [(.int .i64 0), (.int .i64 0)]), (.int .i64 0), (.int .i64 0), (.int .i64 0), (.str []), (.str []), (.str [])] : TV τ).isAgg = i.agg := ⟨ti32, rfl, rfl, CW.of_eq (by kernel_rfl), rfl⟩
theorem zok33 : ∃ i, E.ty 33 = some i ∧ (.nil .slice : TV τ).ok = true ∧ CW i.zero ((.nil .slice : TV τ).cells C) ∧ (.nil .slice : TV τ).isAgg = i.agg := ⟨ti33, rfl, rfl, CW.of_eq (by kernel_rfl), rfl⟩
theorem zok34 : ∃ i, E.ty 34 = some i ∧ (.nil .slice : TV τ).ok = true ∧ CW i.zero ((.nil .slice : TV τ).cells C) ∧ (.nil .slice : TV τ).isAgg = i.agg := ⟨ti34, rfl, rfl, CW.of_eq (by kernel_rfl), rfl⟩
theorem zok35 : ∃ i, E.ty 35 = some i ∧ (.agg [(.int .i64 0), (.int .i64 0), (.int .i64 0), (.nil .slice)] : TV τ).ok = true ∧ CW i.zero ((.agg [(.int .i64 0), (.int .i64 0), (.int .i64 0), (.nil .slice)] : TV τ).cells C) ∧ (.agg [(.int .i64 0), (.int .i64 0), (.int .i64 0), (.nil .slice)] : TV τ).isAgg = i.agg := ⟨ti35, rfl, rfl, CW.of_eq (by kernel_rfl), rfl⟩
theorem zok36 : ∃ i, E.ty 36 = some i ∧ (.agg [(.int .i64 0), (.int .i64 0), (.int .i64 0), (.nil .slice)] : TV τ).ok = true ∧ CW i.zero ((.agg [(.int .i64 0), (.int .i64 0), (.int .i64 0), (.nil .slice)] : TV τ).cells C) ∧ (.agg [(.int .i64 0), (.int .i64 0), (.int .i64 0), (.nil .slice)] : TV τ).isAgg = i.agg := ⟨ti36, rfl, rfl, CW.of_eq (by kernel_rfl), rfl⟩
theorem zok37 : ∃ i, E.ty 37 = some i ∧ (.agg [(.int .i64 0), (.int .i64 0), (.int .i64 0), (.agg [(.agg [(.int .i64 0), (.int .i64 0)]), (.int .i64 0), (.int .i64 0), (.int .i64 0), (.str []), (.str []), (.str [])]), (.int .i64 0), (.int .i64 0), (.nil .slice), (.agg [(.int .i64 0), (.arr 3 8 (Vector.replicate 8 (default : Int))), (.arr 2 8 (Vector.replicate 8 (default : Int))), (.arr 3 8 (Vector.replicate 8 (default : Int)))]), (.int .i64 0), (.arr 2 8 (Vector.replicate 8 (default : Int))), (.int .i64 0), (.agg [(.int .i64 0), (.int .i64 0), (.int .i64 0), (.nil .slice)]), (.int .i64 0), (.int .i64 0), (.int .i64 0)] : TV τ).ok = true ∧ CW i.zero ((.agg [(.int .i64 0), (.int .i64 0), (.int .i64 0), (.agg [(.agg [(.int .i64 0), (.int .i64 0)]), (.int .i64 0), (.int .i64 0), (.int .i64 0), (.str []), (.str []), (.str [])]), (.int .i64 0), (.int .i64 0), (.nil .slice), (.agg [(.int .i64 0), (.arr 3 8 (Vector.replicate 8 (default : Int))), (.arr 2 8 (Vector.replicate 8 (default : Int))), (.arr 3 8 (Vector.replicate 8 (default : Int)))]), (.int .i64 0), (.arr 2 8 (Vector.replicate 8 (default : Int))), (.int .i64 0), (.agg [(.int .i64 0), (.int .i64 0), (.int .i64 0), (.nil .slice)]), (.int .i64 0), (.int .i64 0), (.int .i64 0)] : TV τ).cells C) ∧ (.agg [(.int .i64 0), (.int .i64 0), (.int .i64 0), (.agg [(.agg [(.int .i64 0), (.int .i64 0)]), (.int .i64 0), (.int .i64 0), (.int .i64 0), (.str []), (.str []), (.str [])]), (.int .i64 0), (.int .i64 0), (.nil .slice), (.agg [(.int .i64 0), (.arr 3 8 (Vector.replicate 8 (default : Int))), (.arr 2 8 (Vector.replicate 8 (default : Int))), (.arr 3 8 (Vector.replicate 8 (default : Int)))]), (.int .i64 0), (.arr 2 8 (Vector.replicate 8 (default : Int))), (.int .i64 0), (.agg [(.int .i64 0), (.int .i64 0), (.int .i64 0), (.nil .slice)]), (.int .i64 0), (.int .i64 0), (.int .i64 0)] : TV τ).isAgg = i.agg := ⟨ti37, rfl, rfl, CW.of_eq (by kernel_rfl), rfl⟩
theorem zok38 : ∃ i, E.ty 38 = some i ∧ (.agg [(.int .i64 0), (.int .i64 0), (.int .i64 0), (.agg [(.agg [(.int .i64 0), (.int .i64 0)]), (.int .i64 0), (.int .i64 0), (.int .i64 0), (.str []), (.str []), (.str [])]), (.int .i64 0), (.int .i64 0), (.nil .slice), (.agg [(.int .i64 0), (.arr 3 8 (Vector.replicate 8 (default : Int))), (.arr 2 8 (Vector.replicate 8 (default : Int))), (.arr 3 8 (Vector.replicate 8 (default : Int)))]), (.int .i64 0), (.arr 2 8 (Vector.replicate 8 (default : Int))), (.int .i64 0), (.agg [(.int .i64 0), (.int .i64 0), (.int .i64 0), (.nil .slice)]), (.int .i64 0), (.int .i64 0), (.int .i64 0)] : TV τ).ok = true ∧ CW i.zero ((.agg [(.int .i64 0), (.int .i64 0), (.int .i64 0), (.agg [(.agg [(.int .i64 0), (.int .i64 0)]), (.int .i64 0), (.int .i64 0), (.int .i64 0), (.str []), (.str []), (.str [])]), (.int .i64 0), (.int .i64 0), (.nil .slice), (.agg [(.int .i64 0), (.arr 3 8 (Vector.replicate 8 (default : Int))), (.arr 2 8 (Vector.replicate 8 (default : Int))), (.arr 3 8 (Vector.replicate 8 (default : Int)))]), (.int .i64 0), (.arr 2 8 (Vector.replicate 8 (default : Int))), (.int .i64 0), (.agg [(.int .i64 0), (.int .i64 0), (.int .i64 0), (.nil .slice)]), (.int .i64 0), (.int .i64 0), (.int .i64 0)] : TV τ).cells C) ∧ (.agg [(.int .i64 0), (.int .i64 0), (.int .i64 0), (.agg [(.agg [(.int .i64 0), (.int .i64 0)]), (.int .i64 0), (.int .i64 0), (.int .i64 0), (.str []), (.str []), (.str [])]), (.int .i64 0), (.int .i64 0), (.nil .slice), (.agg [(.int .i64 0), (.arr 3 8 (Vector.replicate 8 (default : Int))), (.arr 2 8 (Vector.replicate 8 (default : Int))), (.arr 3 8 (Vector.replicate 8 (default : Int)))]), (.int .i64 0), (.arr 2 8 (Vector.replicate 8 (default : Int))), (.int .i64 0), (.agg [(.int .i64 0), (.int .i64 0), (.int .i64 0), (.nil .slice)]), (.int .i64 0), (.int .i64 0), (.int .i64 0)] : TV τ).isAgg = i.agg := ⟨ti38, rfl, rfl, CW.of_eq (by kernel_rfl), rfl⟩
theorem zok39 : ∃ i, E.ty 39 = some i ∧ (.int .i64 0 : TV τ).ok = true ∧ CW i.zero ((.int .i64 0 : TV τ).cells C) ∧ (.int .i64 0 : TV τ).isAgg = i.agg := ⟨ti39, rfl, rfl, CW.of_eq (by kernel_rfl), rfl⟩
theorem zok41 : ∃ i, E.ty 41 = some i ∧ (.nil .func : TV τ).ok = true ∧ CW i.zero ((.nil .func : TV τ).cells C) ∧ (.nil .func : TV τ).isAgg = i.agg := ⟨ti41, rfl, rfl, CW.of_eq (by kernel_rfl), rfl⟩
theorem zok42 : ∃ i, E.ty 42 = some i ∧ (.nil .func : TV τ).ok = true ∧ CW i.zero ((.nil .func : TV τ).cells C) ∧ (.nil .func : TV τ).isAgg = i.agg := ⟨ti42, rfl, rfl, CW.of_eq (by kernel_rfl), rfl⟩
theorem zok43 : ∃ i, E.ty 43 = some i ∧ (.nil .func : TV τ).ok = true ∧ CW i.zero ((.nil .func : TV τ).cells C) ∧ (.nil .func : TV τ).isAgg = i.agg := ⟨ti43, rfl, rfl, CW.of_eq (by kernel_rfl), rfl⟩
theorem zok44 : ∃ i, E.ty 44 = some i ∧ (.nil .func : TV τ).ok = true ∧ CW i.zero ((.nil .func : TV τ).cells C) ∧ (.nil .func : TV τ).isAgg = i.agg := ⟨ti44, rfl, rfl, CW.of_eq (by kernel_rfl), rfl⟩
theorem zok45 : ∃ i, E.ty 45 = some i ∧ (.nil .slice : TV τ).ok = true ∧ CW i.zero ((.nil .slice : TV τ).cells C) ∧ (.nil .slice : TV τ).isAgg = i.agg := ⟨ti45, rfl, rfl, CW.of_eq (by kernel_rfl), rfl⟩
theorem zok46 : ∃ i, E.ty 46 = some i ∧ (.nil .func : TV τ).ok = true ∧ CW i.zero ((.nil .func : TV τ).cells C) ∧ (.nil .func : TV τ).isAgg = i.agg := ⟨ti46, rfl, rfl, CW.of_eq (by kernel_rfl), rfl⟩
theorem zok47 : ∃ i, E.ty 47 = some i ∧ (.nil .func : TV τ).ok = true ∧ CW i.zero ((.nil .func : TV τ).cells C) ∧ (.nil .func : TV τ).isAgg = i.agg := ⟨ti47, rfl, rfl, CW.of_eq (by kernel_rfl), rfl⟩
theorem zok48 : ∃ i, E.ty 48 = some i ∧ (.nil .func : TV τ).ok = true ∧ CW i.zero ((.nil .func : TV τ).cells C) ∧ (.nil .func : TV τ).isAgg = i.agg := ⟨ti48, rfl, rfl, CW.of_eq (by kernel_rfl), rfl⟩
theorem zok49 : ∃ i, E.ty 49 = some i ∧ (.nil .ptr : TV τ).ok = true ∧ CW i.zero ((.nil .ptr : TV τ).cells C) ∧ (.nil .ptr : TV τ).isAgg = i.agg := ⟨ti49, rfl, rfl, CW.of_eq (by kernel_rfl), rfl⟩
theorem zok50 : ∃ i, E.ty 50 = some i ∧ (.nil .slice : TV τ).ok = true ∧ CW i.zero ((.nil .slice : TV τ).cells C) ∧ (.nil .slice : TV τ).isAgg = i.agg := ⟨ti50, rfl, rfl, CW.of_eq (by kernel_rfl), rfl⟩
theorem zok51 : ∃ i, E.ty 51 = some i ∧ (.agg [(.nil .slice)] : TV τ).ok = true ∧ CW i.zero ((.agg [(.nil .slice)] : TV τ).cells C) ∧ (.agg [(.nil .slice)] : TV τ).isAgg = i.agg := ⟨ti51, rfl, rfl, CW.of_eq (by kernel_rfl), rfl⟩
theorem zok52 : ∃ i, E.ty 52 = some i ∧ (.agg [(.nil .slice)] : TV τ).ok = true ∧ CW i.zero ((.agg [(.nil .slice)] : TV τ).cells C) ∧ (.agg [(.nil .slice)] : TV τ).isAgg = i.agg := ⟨ti52, rfl, rfl, CW.of_eq (by kernel_rfl), rfl⟩
theorem zok53 : ∃ i, E.ty 53 = some i ∧ (.nil .slice : TV τ).ok = true ∧ CW i.zero ((.nil .slice : TV τ).cells C) ∧ (.nil .slice : TV τ).isAgg = i.agg := ⟨ti53, rfl, rfl, CW.of_eq (by kernel_rfl), rfl⟩
theorem zok55 : ∃ i, E.ty 55 = some i ∧ (.nil .func : TV τ).ok = true ∧ CW i.zero ((.nil .func : TV τ).cells C) ∧ (.nil .func : TV τ).isAgg = i.agg := ⟨ti55, rfl, rfl, CW.of_eq (by kernel_rfl), rfl⟩
theorem zok56 : ∃ i, E.ty 56 = some i ∧ (.nil .func : TV τ).ok = true ∧ CW i.zero ((.nil .func : TV τ).cells C) ∧ (.nil .func : TV τ).isAgg = i.agg := ⟨ti56, rfl, rfl, CW.of_eq (by kernel_rfl), rfl⟩
theorem zok57 : ∃ i, E.ty 57 = some i ∧ (.nil .func : TV τ).ok = true ∧ CW i.zero ((.nil .func : TV τ).cells C) ∧ (.nil .func : TV τ).isAgg = i.agg := ⟨ti57, rfl, rfl, CW.of_eq (by kernel_rfl), rfl⟩
theorem zok58 : ∃ i, E.ty 58 = some i ∧ (.nil .func : TV τ).ok = true ∧ CW i.zero ((.nil .func : TV τ).cells C) ∧ (.nil .func : TV τ).isAgg = i.agg := ⟨ti58, rfl, rfl, CW.of_eq (by kernel_rfl), rfl⟩
theorem zok59 : ∃ i, E.ty 59 = some i ∧ (.nil .func : TV τ).ok = true ∧ CW i.zero ((.nil .func : TV τ).cells C) ∧ (.nil .func : TV τ).isAgg = i.agg := ⟨ti59, rfl, rfl, CW.of_eq (by kernel_rfl), rfl⟩
theorem zok60 : ∃ i, E.ty 60 = some i ∧ (.nil .func : TV τ).ok = true ∧ CW i.zero ((.nil .func : TV τ).cells C) ∧ (.nil .func : TV τ).isAgg = i.agg := ⟨ti60, rfl, rfl, CW.of_eq (by kernel_rfl), rfl⟩
theorem zok61 : ∃ i, E.ty 61 = some i ∧ (.nil .func : TV τ).ok = true ∧ CW i.zero ((.nil .func : TV τ).cells C) ∧ (.nil .func : TV τ).isAgg = i.agg := ⟨ti61, rfl, rfl, CW.of_eq (by kernel_rfl), rfl⟩
theorem zok62 : ∃ i, E.ty 62 = some i ∧ (.nil .func : TV τ).ok = true ∧ CW i.zero ((.nil .func : TV τ).cells C) ∧ (.nil .func : TV τ).isAgg = i.agg := ⟨ti62, rfl, rfl, CW.of_eq (by kernel_rfl), rfl⟩
theorem zok63 : ∃ i, E.ty 63 = some i ∧ (.nil .func : TV τ).ok = true ∧ CW i.zero ((.nil .func : TV τ).cells C) ∧ (.nil .func : TV τ).isAgg = i.agg := ⟨ti63, rfl, rfl, CW.of_eq (by kernel_rfl), rfl⟩
theorem zok65 : ∃ i, E.ty 65 = some i ∧ (.nil .func : TV τ).ok = true ∧ CW i.zero ((.nil .func : TV τ).cells C) ∧ (.nil .func : TV τ).isAgg = i.agg := ⟨ti65, rfl, rfl, CW.of_eq (by kernel_rfl), rfl⟩
theorem zok67 : ∃ i, E.ty 67 = some i ∧ (.nil .func : TV τ).ok = true ∧ CW i.zero ((.nil .func : TV τ).cells C) ∧ (.nil .func : TV τ).isAgg = i.agg := ⟨ti67, rfl, rfl, CW.of_eq (by kernel_rfl), rfl⟩
theorem zok68 : ∃ i, E.ty 68 = some i ∧ (.nil .func : TV τ).ok = true ∧ CW i.zero ((.nil .func : TV τ).cells C) ∧ (.nil .func : TV τ).isAgg = i.agg := ⟨ti68, rfl, rfl, CW.of_eq (by kernel_rfl), rfl⟩
theorem zok69 : ∃ i, E.ty 69 = some i ∧ (.nil .func : TV τ).ok = true ∧ CW i.zero ((.nil .func : TV τ).cells C) ∧ (.nil .func : TV τ).isAgg = i.agg := ⟨ti69, rfl, rfl, CW.of_eq (by kernel_rfl), rfl⟩
theorem zok70 : ∃ i, E.ty 70 = some i ∧ (.nil .slice : TV τ).ok = true ∧ CW i.zero ((.nil .slice : TV τ).cells C) ∧ (.nil .slice : TV τ).isAgg = i.agg := ⟨ti70, rfl, rfl, CW.of_eq (by kernel_rfl), rfl⟩
theorem zok71 : ∃ i, E.ty 71 = some i ∧ (.nil .func : TV τ).ok = true ∧ CW i.zero ((.nil .func : TV τ).cells C) ∧ (.nil .func : TV τ).isAgg = i.agg := ⟨ti71, rfl, rfl, CW.of_eq (by kernel_rfl), rfl⟩
theorem zok72 : ∃ i, E.ty 72 = some i ∧ (.nil .func : TV τ).ok = true ∧ CW i.zero ((.nil .func : TV τ).cells C) ∧ (.nil .func : TV τ).isAgg = i.agg := ⟨ti72, rfl, rfl, CW.of_eq (by kernel_rfl), rfl⟩
theorem zok73 : ∃ i, E.ty 73 = some i ∧ (.nil .func : TV τ).ok = true ∧ CW i.zero ((.nil .func : TV τ).cells C) ∧ (.nil .func : TV τ).isAgg = i.agg := ⟨ti73, rfl, rfl, CW.of_eq (by kernel_rfl), rfl⟩
theorem zok74 : ∃ i, E.ty 74 = some i ∧ (.arr 38 3 (Vector.replicate 3 (default : GEntry)) : TV τ).ok = true ∧ CW i.zero ((.arr 38 3 (Vector.replicate 3 (default : GEntry)) : TV τ).cells C) ∧ (.arr 38 3 (Vector.replicate 3 (default : GEntry)) : TV τ).isAgg = i.agg := ⟨ti74, rfl, rfl, (show ((.arr 38 3 (Vector.replicate 3 (default : GEntry)) : TV τ).cells C) = [.v (.int .i64 0), .v (.int .i64 0), .v (.int .i64 0), .v (.int .i64 0), .v (.int .i64 0), .v (.int .i64 0), .v (.int .i64 0), .v (.int .i64 0), .v (.string ⟨⟨[]⟩⟩), .v (.string ⟨⟨[]⟩⟩), .v (.string ⟨⟨[]⟩⟩), .v (.int .i64 0), .v (.int .i64 0), .asl 8 [], .v (.int .i64 0), .v (.int .i64 0), .v (.int .i64 0), .v (.int .i64 0), .v (.int .i64 0), .v (.int .i64 0), .v (.int .i64 0), .v (.int .i64 0), .v (.int .i64 0), .v (.int .i64 0), .v (.int .i64 0), .v (.int .i64 0), .v (.int .i64 0), .v (.int .i64 0), .v (.int .i64 0), .v (.int .i64 0), .v (.int .i64 0), .v (.int .i64 0), .v (.int .i64 0), .v (.int .i64 0), .v (.int .i64 0), .v (.int .i64 0), .v (.int .i64 0), .v (.int .i64 0), .v (.int .i64 0), .v (.int .i64 0), .v (.int .i64 0), .v (.int .i64 0), .v (.int .i64 0), .v (.int .i64 0), .v (.int .i64 0), .v (.int .i64 0), .v (.int .i64 0), .v (.int .i64 0), .v (.int .i64 0), .v (.int .i64 0), .v (.int .i64 0), .v (.int .i64 0), .asl 1 [], .v (.int .i64 0), .v (.int .i64 0), .v (.int .i64 0), .v (.int .i64 0), .v (.int .i64 0), .v (.int .i64 0), .v (.int .i64 0), .v (.int .i64 0), .v (.int .i64 0), .v (.int .i64 0), .v (.int .i64 0), .v (.string ⟨⟨[]⟩⟩), .v (.string ⟨⟨[]⟩⟩), .v (.string ⟨⟨[]⟩⟩), .v (.int .i64 0), .v (.int .i64 0), .asl 8 [], .v (.int .i64 0), .v (.int .i64 0), .v (.int .i64 0), .v (.int .i64 0), .v (.int .i64 0), .v (.int .i64 0), .v (.int .i64 0), .v (.int .i64 0), .v (.int .i64 0), .v (.int .i64 0), .v (.int .i64 0), .v (.int .i64 0), .v (.int .i64 0), .v (.int .i64 0), .v (.int .i64 0), .v (.int .i64 0), .v (.int .i64 0), .v (.int .i64 0), .v (.int .i64 0), .v (.int .i64 0), .v (.int .i64 0), .v (.int .i64 0), .v (.int .i64 0), .v (.int .i64 0), .v (.int .i64 0), .v (.int .i64 0), .v (.int .i64 0), .v (.int .i64 0), .v (.int .i64 0), .v (.int .i64 0), .v (.int .i64 0), .v (.int .i64 0), .v (.int .i64 0), .v (.int .i64 0), .v (.int .i64 0), .v (.int .i64 0), .v (.int .i64 0), .v (.int .i64 0), .asl 1 [], .v (.int .i64 0), .v (.int .i64 0), .v (.int .i64 0), .v (.int .i64 0), .v (.int .i64 0), .v (.int .i64 0), .v (.int .i64 0), .v (.int .i64 0), .v (.int .i64 0), .v (.int .i64 0), .v (.int .i64 0), .v (.string ⟨⟨[]⟩⟩), .v (.string ⟨⟨[]⟩⟩), .v (.string ⟨⟨[]⟩⟩), .v (.int .i64 0), .v (.int .i64 0), .asl 8 [], .v (.int .i64 0), .v (.int .i64 0), .v (.int .i64 0), .v (.int .i64 0), .v (.int .i64 0), .v (.int .i64 0), .v (.int .i64 0), .v (.int .i64 0), .v (.int .i64 0), .v (.int .i64 0), .v (.int .i64 0), .v (.int .i64 0), .v (.int .i64 0), .v (.int .i64 0), .v (.int .i64 0), .v (.int .i64 0), .v (.int .i64 0), .v (.int .i64 0), .v (.int .i64 0), .v (.int .i64 0), .v (.int .i64 0), .v (.int .i64 0), .v (.int .i64 0), .v (.int .i64 0), .v (.int .i64 0), .v (.int .i64 0), .v (.int .i64 0), .v (.int .i64 0), .v (.int .i64 0), .v (.int .i64 0), .v (.int .i64 0), .v (.int .i64 0), .v (.int .i64 0), .v (.int .i64 0), .v (.int .i64 0), .v (.int .i64 0), .v (.int .i64 0), .v (.int .i64 0), .asl 1 [], .v (.int .i64 0), .v (.int .i64 0), .v (.int .i64 0)] from by kernel_rfl) ▸ zz_cw (⟨rfl, ⟨rfl, ⟨rfl, ⟨rfl, ⟨rfl, ⟨rfl, ⟨rfl, ⟨rfl, ⟨rfl, ⟨rfl, ⟨rfl, ⟨rfl, ⟨rfl, ⟨rfl, ⟨rfl, ⟨rfl, ⟨rfl, ⟨rfl, ⟨rfl, ⟨rfl, ⟨rfl, ⟨rfl, ⟨rfl, ⟨rfl, ⟨rfl, ⟨rfl, ⟨rfl, ⟨rfl, ⟨rfl, ⟨rfl, ⟨rfl, ⟨rfl, ⟨rfl, ⟨rfl, ⟨rfl, ⟨rfl, ⟨rfl, ⟨rfl, ⟨rfl, ⟨rfl, ⟨rfl, ⟨rfl, ⟨rfl, ⟨rfl, ⟨rfl, ⟨rfl, ⟨rfl, ⟨rfl, ⟨rfl, ⟨rfl, ⟨rfl, ⟨rfl, ⟨rfl, ⟨rfl, ⟨rfl, ⟨rfl, ⟨rfl, ⟨rfl, ⟨rfl, ⟨rfl, ⟨rfl, ⟨rfl, ⟨rfl, ⟨rfl, ⟨rfl, ⟨rfl, ⟨rfl, ⟨rfl, ⟨rfl, ⟨rfl, ⟨rfl, ⟨rfl, ⟨rfl, ⟨rfl, ⟨rfl, ⟨rfl, ⟨rfl, ⟨rfl, ⟨rfl, ⟨rfl, ⟨rfl, ⟨rfl, ⟨rfl, ⟨rfl, ⟨rfl, ⟨rfl, ⟨rfl, ⟨rfl, ⟨rfl, ⟨rfl, ⟨rfl, ⟨rfl, ⟨rfl, ⟨rfl, ⟨rfl, ⟨rfl, ⟨rfl, ⟨rfl, ⟨rfl, ⟨rfl, ⟨rfl, ⟨rfl, ⟨rfl, ⟨rfl, ⟨rfl, ⟨rfl, ⟨rfl, ⟨rfl, ⟨rfl, ⟨rfl, ⟨rfl, ⟨rfl, ⟨rfl, ⟨rfl, ⟨rfl, ⟨rfl, ⟨rfl, ⟨rfl, ⟨rfl, ⟨rfl, ⟨rfl, ⟨rfl, ⟨rfl, ⟨rfl, ⟨rfl, ⟨rfl, ⟨rfl, ⟨rfl, ⟨rfl, ⟨rfl, ⟨rfl, ⟨rfl, ⟨rfl, ⟨rfl, ⟨rfl, ⟨rfl, ⟨rfl, ⟨rfl, ⟨rfl, ⟨rfl, ⟨rfl, ⟨rfl, ⟨rfl, ⟨rfl, ⟨rfl, ⟨rfl, ⟨rfl, ⟨rfl, ⟨rfl, ⟨rfl, ⟨rfl, ⟨rfl, ⟨rfl, ⟨rfl, ⟨rfl, ⟨rfl, ⟨rfl, ⟨rfl, ⟨rfl, ⟨rfl, ⟨rfl, ⟨rfl, trivial⟩⟩⟩⟩⟩⟩⟩⟩⟩⟩⟩⟩⟩⟩⟩⟩⟩⟩⟩⟩⟩⟩⟩⟩⟩⟩⟩⟩⟩⟩⟩⟩⟩⟩⟩⟩⟩⟩⟩⟩⟩⟩⟩⟩⟩⟩⟩⟩⟩⟩⟩⟩⟩⟩⟩⟩⟩⟩⟩⟩⟩⟩⟩⟩⟩⟩⟩⟩⟩⟩⟩⟩⟩⟩⟩⟩⟩⟩⟩⟩⟩⟩⟩⟩⟩⟩⟩⟩⟩⟩⟩⟩⟩⟩⟩⟩⟩⟩⟩⟩⟩⟩⟩⟩⟩⟩⟩⟩⟩⟩⟩⟩⟩⟩⟩⟩⟩⟩⟩⟩⟩⟩⟩⟩⟩⟩⟩⟩⟩⟩⟩⟩⟩⟩⟩⟩⟩⟩⟩⟩⟩⟩⟩⟩⟩⟩⟩⟩⟩⟩⟩⟩⟩⟩⟩⟩⟩⟩⟩⟩⟩⟩), rfl⟩
theorem zok75 : ∃ i, E.ty 75 = some i ∧ (.nil .func : TV τ).ok = true ∧ CW i.zero ((.nil .func : TV τ).cells C) ∧ (.nil .func : TV τ).isAgg = i.agg := ⟨ti75, rfl, rfl, CW.of_eq (by kernel_rfl), rfl⟩
theorem zok76 : ∃ i, E.ty 76 = some i ∧ (.nil .ptr : TV τ).ok = true ∧ CW i.zero ((.nil .ptr : TV τ).cells C) ∧ (.nil .ptr : TV τ).isAgg = i.agg := ⟨ti76, rfl, rfl, CW.of_eq (by kernel_rfl), rfl⟩
theorem zok77 : ∃ i, E.ty 77 = some i ∧ (.nil .func : TV τ).ok = true ∧ CW i.zero ((.nil .func : TV τ).cells C) ∧ (.nil .func : TV τ).isAgg = i.agg := ⟨ti77, rfl, rfl, CW.of_eq (by kernel_rfl), rfl⟩
theorem zok78 : ∃ i, E.ty 78 = some i ∧ (.nil .func : TV τ).ok = true ∧ CW i.zero ((.nil .func : TV τ).cells C) ∧ (.nil .func : TV τ).isAgg = i.agg := ⟨ti78, rfl, rfl, CW.of_eq (by kernel_rfl), rfl⟩
theorem zok79 : ∃ i, E.ty 79 = some i ∧ (.nil .func : TV τ).ok = true ∧ CW i.zero ((.nil .func : TV τ).cells C) ∧ (.nil .func : TV τ).isAgg = i.agg := ⟨ti79, rfl, rfl, CW.of_eq (by kernel_rfl), rfl⟩
theorem zok80 : ∃ i, E.ty 80 = some i ∧ (.nil .ptr : TV τ).ok = true ∧ CW i.zero ((.nil .ptr : TV τ).cells C) ∧ (.nil .ptr : TV τ).isAgg = i.agg := ⟨ti80, rfl, rfl, CW.of_eq (by kernel_rfl), rfl⟩
theorem zok81 : ∃ i, E.ty 81 = some i ∧ (.nil .func : TV τ).ok = true ∧ CW i.zero ((.nil .func : TV τ).cells C) ∧ (.nil .func : TV τ).isAgg = i.agg := ⟨ti81, rfl, rfl, CW.of_eq (by kernel_rfl), rfl⟩
theorem zok82 : ∃ i, E.ty 82 = some i ∧ (.nil .func : TV τ).ok = true ∧ CW i.zero ((.nil .func : TV τ).cells C) ∧ (.nil .func : TV τ).isAgg = i.agg := ⟨ti82, rfl, rfl, CW.of_eq (by kernel_rfl), rfl⟩
theorem zok83 : ∃ i, E.ty 83 = some i ∧ (.nil .func : TV τ).ok = true ∧ CW i.zero ((.nil .func : TV τ).cells C) ∧ (.nil .func : TV τ).isAgg = i.agg := ⟨ti83, rfl, rfl, CW.of_eq (by kernel_rfl), rfl⟩
theorem zok84 : ∃ i, E.ty 84 = some i ∧ (.nil .func : TV τ).ok = true ∧ CW i.zero ((.nil .func : TV τ).cells C) ∧ (.nil .func : TV τ).isAgg = i.agg := ⟨ti84, rfl, rfl, CW.of_eq (by kernel_rfl), rfl⟩
theorem zok85 : ∃ i, E.ty 85 = some i ∧ (.nil .ptr : TV τ).ok = true ∧ CW i.zero ((.nil .ptr : TV τ).cells C) ∧ (.nil .ptr : TV τ).isAgg = i.agg := ⟨ti85, rfl, rfl, CW.of_eq (by kernel_rfl), rfl⟩
theorem zok86 : ∃ i, E.ty 86 = some i ∧ (.nil .func : TV τ).ok = true ∧ CW i.zero ((.nil .func : TV τ).cells C) ∧ (.nil .func : TV τ).isAgg = i.agg := ⟨ti86, rfl, rfl, CW.of_eq (by kernel_rfl), rfl⟩
theorem zok88 : ∃ i, E.ty 88 = some i ∧ (.nil .func : TV τ).ok = true ∧ CW i.zero ((.nil .func : TV τ).cells C) ∧ (.nil .func : TV τ).isAgg = i.agg := ⟨ti88, rfl, rfl, CW.of_eq (by kernel_rfl), rfl⟩
theorem zok89 : ∃ i, E.ty 89 = some i ∧ (.nil .func : TV τ).ok = true ∧ CW i.zero ((.nil .func : TV τ).cells C) ∧ (.nil .func : TV τ).isAgg = i.agg := ⟨ti89, rfl, rfl, CW.of_eq (by kernel_rfl), rfl⟩
theorem zok90 : ∃ i, E.ty 90 = some i ∧ (.nil .func : TV τ).ok = true ∧ CW i.zero ((.nil .func : TV τ).cells C) ∧ (.nil .func : TV τ).isAgg = i.agg := ⟨ti90, rfl, rfl, CW.of_eq (by kernel_rfl), rfl⟩
theorem zok91 : ∃ i, E.ty 91 = some i ∧ (.nil .ptr : TV τ).ok = true ∧ CW i.zero ((.nil .ptr : TV τ).cells C) ∧ (.nil .ptr : TV τ).isAgg = i.agg := ⟨ti91, rfl, rfl, CW.of_eq (by kernel_rfl), rfl⟩
theorem zok92 : ∃ i, E.ty 92 = some i ∧ (.agg [(.nil .slice), (.int .i64 0), (.int .i64 0)] : TV τ).ok = true ∧ CW i.zero ((.agg [(.nil .slice), (.int .i64 0), (.int .i64 0)] : TV τ).cells C) ∧ (.agg [(.nil .slice), (.int .i64 0), (.int .i64 0)] : TV τ).isAgg = i.agg := ⟨ti92, rfl, rfl, CW.of_eq (by kernel_rfl), rfl⟩
theorem zok93 : ∃ i, E.ty 93 = some i ∧ (.agg [(.nil .slice), (.int .i64 0), (.int .i64 0)] : TV τ).ok = true ∧ CW i.zero ((.agg [(.nil .slice), (.int .i64 0), (.int .i64 0)] : TV τ).cells C) ∧ (.agg [(.nil .slice), (.int .i64 0), (.int .i64 0)] : TV τ).isAgg = i.agg := ⟨ti93, rfl, rfl, CW.of_eq (by kernel_rfl), rfl⟩
theorem zok94 : ∃ i, E.ty 94 = some i ∧ (.nil .func : TV τ).ok = true ∧ CW i.zero ((.nil .func : TV τ).cells C) ∧ (.nil .func : TV τ).isAgg = i.agg := ⟨ti94, rfl, rfl, CW.of_eq (by kernel_rfl), rfl⟩
theorem zok95 : ∃ i, E.ty 95 = some i ∧ (.nil .func : TV τ).ok = true ∧ CW i.zero ((.nil .func : TV τ).cells C) ∧ (.nil .func : TV τ).isAgg = i.agg := ⟨ti95, rfl, rfl, CW.of_eq (by kernel_rfl), rfl⟩
theorem zok96 : ∃ i, E.ty 96 = some i ∧ (.nil .func : TV τ).ok = true ∧ CW i.zero ((.nil .func : TV τ).cells C) ∧ (.nil .func : TV τ).isAgg = i.agg := ⟨ti96, rfl, rfl, CW.of_eq (by kernel_rfl), rfl⟩
theorem zok97 : ∃ i, E.ty 97 = some i ∧ (.agg [(.bool false), (.nil .slice)] : TV τ).ok = true ∧ CW i.zero ((.agg [(.bool false), (.nil .slice)] : TV τ).cells C) ∧ (.agg [(.bool false), (.nil .slice)] : TV τ).isAgg = i.agg := ⟨ti97, rfl, rfl, CW.of_eq (by kernel_rfl), rfl⟩
theorem zok98 : ∃ i, E.ty 98 = some i ∧ (.agg [(.bool false), (.nil .slice)] : TV τ).ok = true ∧ CW i.zero ((.agg [(.bool false), (.nil .slice)] : TV τ).cells C) ∧ (.agg [(.bool false), (.nil .slice)] : TV τ).isAgg = i.agg := ⟨ti98, rfl, rfl, CW.of_eq (by kernel_rfl), rfl⟩
theorem zok99 : ∃ i, E.ty 99 = some i ∧ (.nil .func : TV τ).ok = true ∧ CW i.zero ((.nil .func : TV τ).cells C) ∧ (.nil .func : TV τ).isAgg = i.agg := ⟨ti99, rfl, rfl, CW.of_eq (by kernel_rfl), rfl⟩
theorem zok100 : ∃ i, E.ty 100 = some i ∧ (.nil .func : TV τ).ok = true ∧ CW i.zero ((.nil .func : TV τ).cells C) ∧ (.nil .func : TV τ).isAgg = i.agg := ⟨ti100, rfl, rfl, CW.of_eq (by kernel_rfl), rfl⟩
theorem zok101 : ∃ i, E.ty 101 = some i ∧ (.nil .func : TV τ).ok = true ∧ CW i.zero ((.nil .func : TV τ).cells C) ∧ (.nil .func : TV τ).isAgg = i.agg := ⟨ti101, rfl, rfl, CW.of_eq (by kernel_rfl), rfl⟩
theorem zok102 : ∃ i, E.ty 102 = some i ∧ (.nil .func : TV τ).ok = true ∧ CW i.zero ((.nil .func : TV τ).cells C) ∧ (.nil .func : TV τ).isAgg = i.agg := ⟨ti102, rfl, rfl, CW.of_eq (by kernel_rfl), rfl⟩
theorem zok103 : ∃ i, E.ty 103 = some i ∧ (.nil .func : TV τ).ok = true ∧ CW i.zero ((.nil .func : TV τ).cells C) ∧ (.nil .func : TV τ).isAgg = i.agg := ⟨ti103, rfl, rfl, CW.of_eq (by kernel_rfl), rfl⟩
theorem zok104 : ∃ i, E.ty 104 = some i ∧ (.nil .ptr : TV τ).ok = true ∧ CW i.zero ((.nil .ptr : TV τ).cells C) ∧ (.nil .ptr : TV τ).isAgg = i.agg := ⟨ti104, rfl, rfl, CW.of_eq (by kernel_rfl), rfl⟩
theorem zok105 : ∃ i, E.ty 105 = some i ∧ (.nil .func : TV τ).ok = true ∧ CW i.zero ((.nil .func : TV τ).cells C) ∧ (.nil .func : TV τ).isAgg = i.agg := ⟨ti105, rfl, rfl, CW.of_eq (by kernel_rfl), rfl⟩
theorem zok106 : ∃ i, E.ty 106 = some i ∧ (.nil .func : TV τ).ok = true ∧ CW i.zero ((.nil .func : TV τ).cells C) ∧ (.nil .func : TV τ).isAgg = i.agg := ⟨ti106, rfl, rfl, CW.of_eq (by kernel_rfl), rfl⟩
theorem zok107 : ∃ i, E.ty 107 = some i ∧ (.nil .func : TV τ).ok = true ∧ CW i.zero ((.nil .func : TV τ).cells C) ∧ (.nil .func : TV τ).isAgg = i.agg := ⟨ti107, rfl, rfl, CW.of_eq (by kernel_rfl), rfl⟩
theorem zok108 : ∃ i, E.ty 108 = some i ∧ (.agg [(.bool false), (.nil .slice)] : TV τ).ok = true ∧ CW i.zero ((.agg [(.bool false), (.nil .slice)] : TV τ).cells C) ∧ (.agg [(.bool false), (.nil .slice)] : TV τ).isAgg = i.agg := ⟨ti108, rfl, rfl, CW.of_eq (by kernel_rfl), rfl⟩
theorem zok110 : ∃ i, E.ty 110 = some i ∧ (.nil .func : TV τ).ok = true ∧ CW i.zero ((.nil .func : TV τ).cells C) ∧ (.nil .func : TV τ).isAgg = i.agg := ⟨ti110, rfl, rfl, CW.of_eq (by kernel_rfl), rfl⟩
theorem zok111 : ∃ i, E.ty 111 = some i ∧ (.nil .func : TV τ).ok = true ∧ CW i.zero ((.nil .func : TV τ).cells C) ∧ (.nil .func : TV τ).isAgg = i.agg := ⟨ti111, rfl, rfl, CW.of_eq (by kernel_rfl), rfl⟩
theorem zok112 : ∃ i, E.ty 112 = some i ∧ (.nil .ptr : TV τ).ok = true ∧ CW i.zero ((.nil .ptr : TV τ).cells C) ∧ (.nil .ptr : TV τ).isAgg = i.agg := ⟨ti112, rfl, rfl, CW.of_eq (by kernel_rfl), rfl⟩
theorem zok113 : ∃ i, E.ty 113 = some i ∧ (.nil .func : TV τ).ok = true ∧ CW i.zero ((.nil .func : TV τ).cells C) ∧ (.nil .func : TV τ).isAgg = i.agg := ⟨ti113, rfl, rfl, CW.of_eq (by kernel_rfl), rfl⟩
theorem zok114 : ∃ i, E.ty 114 = some i ∧ (.nil .func : TV τ).ok = true ∧ CW i.zero ((.nil .func : TV τ).cells C) ∧ (.nil .func : TV τ).isAgg = i.agg := ⟨ti114, rfl, rfl, CW.of_eq (by kernel_rfl), rfl⟩
theorem zok115 : ∃ i, E.ty 115 = some i ∧ (.nil .func : TV τ).ok = true ∧ CW i.zero ((.nil .func : TV τ).cells C) ∧ (.nil .func : TV τ).isAgg = i.agg := ⟨ti115, rfl, rfl, CW.of_eq (by kernel_rfl), rfl⟩
theorem zok116 : ∃ i, E.ty 116 = some i ∧ (.nil .func : TV τ).ok = true ∧ CW i.zero ((.nil .func : TV τ).cells C) ∧ (.nil .func : TV τ).isAgg = i.agg := ⟨ti116, rfl, rfl, CW.of_eq (by kernel_rfl), rfl⟩
theorem zok117 : ∃ i, E.ty 117 = some i ∧ (.nil .func : TV τ).ok = true ∧ CW i.zero ((.nil .func : TV τ).cells C) ∧ (.nil .func : TV τ).isAgg = i.agg := ⟨ti117, rfl, rfl, CW.of_eq (by kernel_rfl), rfl⟩
theorem zok118 : ∃ i, E.ty 118 = some i ∧ (.nil .slice : TV τ).ok = true ∧ CW i.zero ((.nil .slice : TV τ).cells C) ∧ (.nil .slice : TV τ).isAgg = i.agg := ⟨ti118, rfl, rfl, CW.of_eq (by kernel_rfl), rfl⟩
theorem zok119 : ∃ i, E.ty 119 = some i ∧ (.int .u64 0 : TV τ).ok = true ∧ CW i.zero ((.int .u64 0 : TV τ).cells C) ∧ (.int .u64 0 : TV τ).isAgg = i.agg := ⟨ti119, rfl, rfl, CW.of_eq (by kernel_rfl), rfl⟩
theorem zok120 : ∃ i, E.ty 120 = some i ∧ (.int .u64 0 : TV τ).ok = true ∧ CW i.zero ((.int .u64 0 : TV τ).cells C) ∧ (.int .u64 0 : TV τ).isAgg = i.agg := ⟨ti120, rfl, rfl, CW.of_eq (by kernel_rfl), rfl⟩
theorem zok121 : ∃ i, E.ty 121 = some i ∧ (.nil .func : TV τ).ok = true ∧ CW i.zero ((.nil .func : TV τ).cells C) ∧ (.nil .func : TV τ).isAgg = i.agg := ⟨ti121, rfl, rfl, CW.of_eq (by kernel_rfl), rfl⟩
theorem zok122 : ∃ i, E.ty 122 = some i ∧ (.agg [(.nil .ptr), (.int .i64 0)] : TV τ).ok = true ∧ CW i.zero ((.agg [(.nil .ptr), (.int .i64 0)] : TV τ).cells C) ∧ (.agg [(.nil .ptr), (.int .i64 0)] : TV τ).isAgg = i.agg := ⟨ti122, rfl, rfl, CW.of_eq (by kernel_rfl), rfl⟩
theorem zok123 : ∃ i, E.ty 123 = some i ∧ (.agg [(.nil .ptr), (.int .i64 0)] : TV τ).ok = true ∧ CW i.zero ((.agg [(.nil .ptr), (.int .i64 0)] : TV τ).cells C) ∧ (.agg [(.nil .ptr), (.int .i64 0)] : TV τ).isAgg = i.agg := ⟨ti123, rfl, rfl, CW.of_eq (by kernel_rfl), rfl⟩
theorem zok124 : ∃ i, E.ty 124 = some i ∧ (.nil .func : TV τ).ok = true ∧ CW i.zero ((.nil .func : TV τ).cells C) ∧ (.nil .func : TV τ).isAgg = i.agg := ⟨ti124, rfl, rfl, CW.of_eq (by kernel_rfl), rfl⟩
theorem zok125 : ∃ i, E.ty 125 = some i ∧ (.nil .func : TV τ).ok = true ∧ CW i.zero ((.nil .func : TV τ).cells C) ∧ (.nil .func : TV τ).isAgg = i.agg := ⟨ti125, rfl, rfl, CW.of_eq (by kernel_rfl), rfl⟩
theorem zok126 : ∃ i, E.ty 126 = some i ∧ (.nil .slice : TV τ).ok = true ∧ CW i.zero ((.nil .slice : TV τ).cells C) ∧ (.nil .slice : TV τ).isAgg = i.agg := ⟨ti126, rfl, rfl, CW.of_eq (by kernel_rfl), rfl⟩
theorem zok127 : ∃ i, E.ty 127 = some i ∧ (.agg [(.nil .ptr), (.int .i64 0)] : TV τ).ok = true ∧ CW i.zero ((.agg [(.nil .ptr), (.int .i64 0)] : TV τ).cells C) ∧ (.agg [(.nil .ptr), (.int .i64 0)] : TV τ).isAgg = i.agg := ⟨ti127, rfl, rfl, CW.of_eq (by kernel_rfl), rfl⟩
theorem zok128 : ∃ i, E.ty 128 = some i ∧ (.agg [(.nil .ptr), (.int .i64 0)] : TV τ).ok = true ∧ CW i.zero ((.agg [(.nil .ptr), (.int .i64 0)] : TV τ).cells C) ∧ (.agg [(.nil .ptr), (.int .i64 0)] : TV τ).isAgg = i.agg := ⟨ti128, rfl, rfl, CW.of_eq (by kernel_rfl), rfl⟩
theorem zok129 : ∃ i, E.ty 129 = some i ∧ (.nil .func : TV τ).ok = true ∧ CW i.zero ((.nil .func : TV τ).cells C) ∧ (.nil .func : TV τ).isAgg = i.agg := ⟨ti129, rfl, rfl, CW.of_eq (by kernel_rfl), rfl⟩
theorem zok130 : ∃ i, E.ty 130 = some i ∧ (.nil .ptr : TV τ).ok = true ∧ CW i.zero ((.nil .ptr : TV τ).cells C) ∧ (.nil .ptr : TV τ).isAgg = i.agg := ⟨ti130, rfl, rfl, CW.of_eq (by kernel_rfl), rfl⟩
theorem zok131 : ∃ i, E.ty 131 = some i ∧ (.nil .func : TV τ).ok = true ∧ CW i.zero ((.nil .func : TV τ).cells C) ∧ (.nil .func : TV τ).isAgg = i.agg := ⟨ti131, rfl, rfl, CW.of_eq (by kernel_rfl), rfl⟩
theorem zok132 : ∃ i, E.ty 132 = some i ∧ (.nil .ptr : TV τ).ok = true ∧ CW i.zero ((.nil .ptr : TV τ).cells C) ∧ (.nil .ptr : TV τ).isAgg = i.agg := ⟨ti132, rfl, rfl, CW.of_eq (by kernel_rfl), rfl⟩
theorem zok133 : ∃ i, E.ty 133 = some i ∧ (.nil .func : TV τ).ok = true ∧ CW i.zero ((.nil .func : TV τ).cells C) ∧ (.nil .func : TV τ).isAgg = i.agg := ⟨ti133, rfl, rfl, CW.of_eq (by kernel_rfl), rfl⟩
theorem zok134 : ∃ i, E.ty 134 = some i ∧ (.nil .slice : TV τ).ok = true ∧ CW i.zero ((.nil .slice : TV τ).cells C) ∧ (.nil .slice : TV τ).isAgg = i.agg := ⟨ti134, rfl, rfl, CW.of_eq (by kernel_rfl), rfl⟩
theorem zok135 : ∃ i, E.ty 135 = some i ∧ (.nil .func : TV τ).ok = true ∧ CW i.zero ((.nil .func : TV τ).cells C) ∧ (.nil .func : TV τ).isAgg = i.agg := ⟨ti135, rfl, rfl, CW.of_eq (by kernel_rfl), rfl⟩
theorem zok141 : ∃ i, E.ty 141 = some i ∧ (.int .u32 0 : TV τ).ok = true ∧ CW i.zero ((.int .u32 0 : TV τ).cells C) ∧ (.int .u32 0 : TV τ).isAgg = i.agg := ⟨ti141, rfl, rfl, CW.of_eq (by kernel_rfl), rfl⟩
theorem zok145 : ∃ i, E.ty 145 = some i ∧ (.nil .ptr : TV τ).ok = true ∧ CW i.zero ((.nil .ptr : TV τ).cells C) ∧ (.nil .ptr : TV τ).isAgg = i.agg := ⟨ti145, rfl, rfl, CW.of_eq (by kernel_rfl), rfl⟩
noncomputable def D0 : TEnv τ := ⟨E, C, zeroT⟩
theorem zeroOk : ∀ t x, zeroT t = some x → ∃ i, E.ty t = some i ∧ x.ok = true ∧ CW i.zero (x.cells C) ∧ x.isAgg = i.agg := by
  intro t x h
  unfold zeroT at h
  split at h <;> first
    | (cases h; first | exact zok1 | exact zok2 | exact zok3 | exact zok4 | exact zok5 | exact zok9 | exact zok12 | exact zok17 | exact zok21 | exact zok22 | exact zok23 | exact zok24 | exact zok25 | exact zok26 | exact zok27 | exact zok28 | exact zok29 | exact zok30 | exact zok31 | exact zok32 | exact zok33 | exact zok34 | exact zok35 | exact zok36 | exact zok37 | exact zok38 | exact zok39 | exact zok41 | exact zok42 | exact zok43 | exact zok44 | exact zok45 | exact zok46 | exact zok47 | exact zok48 | exact zok49 | exact zok50 | exact zok51 | exact zok52 | exact zok53 | exact zok55 | exact zok56 | exact zok57 | exact zok58 | exact zok59 | exact zok60 | exact zok61 | exact zok62 | exact zok63 | exact zok65 | exact zok67 | exact zok68 | exact zok69 | exact zok70 | exact zok71 | exact zok72 | exact zok73 | exact zok74 | exact zok75 | exact zok76 | exact zok77 | exact zok78 | exact zok79 | exact zok80 | exact zok81 | exact zok82 | exact zok83 | exact zok84 | exact zok85 | exact zok86 | exact zok88 | exact zok89 | exact zok90 | exact zok91 | exact zok92 | exact zok93 | exact zok94 | exact zok95 | exact zok96 | exact zok97 | exact zok98 | exact zok99 | exact zok100 | exact zok101 | exact zok102 | exact zok103 | exact zok104 | exact zok105 | exact zok106 | exact zok107 | exact zok108 | exact zok110 | exact zok111 | exact zok112 | exact zok113 | exact zok114 | exact zok115 | exact zok116 | exact zok117 | exact zok118 | exact zok119 | exact zok120 | exact zok121 | exact zok122 | exact zok123 | exact zok124 | exact zok125 | exact zok126 | exact zok127 | exact zok128 | exact zok129 | exact zok130 | exact zok131 | exact zok132 | exact zok133 | exact zok134 | exact zok135 | exact zok141 | exact zok145)
    | cases h
theorem d0Ok : D0.Ok := ⟨eOk, eEq, cOk, zeroOk⟩
end Go.Proofs.Ytjjnclgkppbpnaa
