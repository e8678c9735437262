/-
The types of this seat's program, as the evaluator asks them, and how their data are told. Written by wip/tools/gen2.py.
-/
import Derived.Test.YteinehkdjkobnaaProg
import Derived.Test.YteinehkdjkobnaaqTvR
import Derived.KernelRfl
set_option linter.unusedVariables false
set_option linter.unusedSimpArgs false
set_option maxHeartbeats 8000000
set_option maxRecDepth 100000
namespace Go.Proofs.Yteinehkdjkobnaa
open Go Go.Ev
def ti1 : TI := ⟨.func #[] #[] false, 1, 8, [.v .nilFunc]⟩
def ti2 : TI := ⟨.int .i64, 1, 8, [.v (.int .i64 0)]⟩
def ti3 : TI := ⟨.int .i64, 1, 8, [.v (.int .i64 0)]⟩
def ti4 : TI := ⟨.bool, 1, 1, [.v (.bool false)]⟩
def ti5 : TI := ⟨.int .u8, 1, 1, [.v (.int .u8 0)]⟩
def ti9 : TI := ⟨.string, 1, 16, [.v (.string ⟨#[]⟩)]⟩
def ti12 : TI := ⟨.int .u64, 1, 8, [.v (.int .u64 0)]⟩
def ti17 : TI := ⟨.pointer 209, 1, 8, [.v (.pointer none)]⟩
def ti21 : TI := ⟨.int .i32, 1, 4, [.v (.int .i32 0)]⟩
def ti22 : TI := ⟨.struct #[⟨ "Time", 2, 0, false, "", "", 0⟩, ⟨ "Site", 3, 1, false, "", "", 8⟩], 2, 16, [.v (.int .i64 0), .v (.int .i64 0)]⟩
def ti23 : TI := ⟨.struct #[⟨ "Time", 2, 0, false, "", "", 0⟩, ⟨ "Site", 3, 1, false, "", "", 8⟩], 2, 16, [.v (.int .i64 0), .v (.int .i64 0)]⟩
def ti24 : TI := ⟨.struct #[⟨ "Stamp", 23, 0, false, "", "", 0⟩, ⟨ "Kind", 3, 2, false, "", "", 16⟩, ⟨ "Node", 2, 3, false, "", "", 24⟩, ⟨ "Parent", 2, 4, false, "", "", 32⟩, ⟨ "Name", 9, 5, false, "", "", 40⟩, ⟨ "Key", 9, 6, false, "", "", 56⟩, ⟨ "Value", 9, 7, false, "", "", 72⟩], 8, 88, [.v (.int .i64 0), .v (.int .i64 0), .v (.int .i64 0), .v (.int .i64 0), .v (.int .i64 0), .v (.string ⟨#[]⟩), .v (.string ⟨#[]⟩), .v (.string ⟨#[]⟩)]⟩
def ti25 : TI := ⟨.struct #[⟨ "Stamp", 23, 0, false, "", "", 0⟩, ⟨ "Kind", 3, 2, false, "", "", 16⟩, ⟨ "Node", 2, 3, false, "", "", 24⟩, ⟨ "Parent", 2, 4, false, "", "", 32⟩, ⟨ "Name", 9, 5, false, "", "", 40⟩, ⟨ "Key", 9, 6, false, "", "", 56⟩, ⟨ "Value", 9, 7, false, "", "", 72⟩], 8, 88, [.v (.int .i64 0), .v (.int .i64 0), .v (.int .i64 0), .v (.int .i64 0), .v (.int .i64 0), .v (.string ⟨#[]⟩), .v (.string ⟨#[]⟩), .v (.string ⟨#[]⟩)]⟩
def ti26 : TI := ⟨.slice 25, 1, 24, [.v (.slice none 0 0)]⟩
def ti27 : TI := ⟨.array 8 3, 8, 64, [.v (.int .i64 0), .v (.int .i64 0), .v (.int .i64 0), .v (.int .i64 0), .v (.int .i64 0), .v (.int .i64 0), .v (.int .i64 0), .v (.int .i64 0)]⟩
def ti28 : TI := ⟨.array 8 2, 8, 64, [.v (.int .i64 0), .v (.int .i64 0), .v (.int .i64 0), .v (.int .i64 0), .v (.int .i64 0), .v (.int .i64 0), .v (.int .i64 0), .v (.int .i64 0)]⟩
def ti29 : TI := ⟨.array 8 2, 8, 64, [.v (.int .i64 0), .v (.int .i64 0), .v (.int .i64 0), .v (.int .i64 0), .v (.int .i64 0), .v (.int .i64 0), .v (.int .i64 0), .v (.int .i64 0)]⟩
def ti30 : TI := ⟨.struct #[⟨ "Number", 2, 0, false, "", "", 0⟩, ⟨ "States", 27, 1, false, "", "", 8⟩, ⟨ "Seals", 29, 9, false, "", "", 72⟩, ⟨ "Sponsor", 27, 17, false, "", "", 136⟩], 25, 200, [.v (.int .i64 0), .v (.int .i64 0), .v (.int .i64 0), .v (.int .i64 0), .v (.int .i64 0), .v (.int .i64 0), .v (.int .i64 0), .v (.int .i64 0), .v (.int .i64 0), .v (.int .i64 0), .v (.int .i64 0), .v (.int .i64 0), .v (.int .i64 0), .v (.int .i64 0), .v (.int .i64 0), .v (.int .i64 0), .v (.int .i64 0), .v (.int .i64 0), .v (.int .i64 0), .v (.int .i64 0), .v (.int .i64 0), .v (.int .i64 0), .v (.int .i64 0), .v (.int .i64 0), .v (.int .i64 0)]⟩
def ti31 : TI := ⟨.struct #[⟨ "Number", 2, 0, false, "", "", 0⟩, ⟨ "States", 27, 1, false, "", "", 8⟩, ⟨ "Seals", 29, 9, false, "", "", 72⟩, ⟨ "Sponsor", 27, 17, false, "", "", 136⟩], 25, 200, [.v (.int .i64 0), .v (.int .i64 0), .v (.int .i64 0), .v (.int .i64 0), .v (.int .i64 0), .v (.int .i64 0), .v (.int .i64 0), .v (.int .i64 0), .v (.int .i64 0), .v (.int .i64 0), .v (.int .i64 0), .v (.int .i64 0), .v (.int .i64 0), .v (.int .i64 0), .v (.int .i64 0), .v (.int .i64 0), .v (.int .i64 0), .v (.int .i64 0), .v (.int .i64 0), .v (.int .i64 0), .v (.int .i64 0), .v (.int .i64 0), .v (.int .i64 0), .v (.int .i64 0), .v (.int .i64 0)]⟩
def ti32 : TI := ⟨.slice 5, 1, 24, [.v (.slice none 0 0)]⟩
def ti33 : TI := ⟨.struct #[⟨ "Snap", 2, 0, false, "", "", 0⟩, ⟨ "Index", 3, 1, false, "", "", 8⟩, ⟨ "Many", 3, 2, false, "", "", 16⟩, ⟨ "Data", 32, 3, false, "", "", 24⟩], 4, 48, [.v (.int .i64 0), .v (.int .i64 0), .v (.int .i64 0), .v (.slice none 0 0)]⟩
def ti34 : TI := ⟨.struct #[⟨ "Snap", 2, 0, false, "", "", 0⟩, ⟨ "Index", 3, 1, false, "", "", 8⟩, ⟨ "Many", 3, 2, false, "", "", 16⟩, ⟨ "Data", 32, 3, false, "", "", 24⟩], 4, 48, [.v (.int .i64 0), .v (.int .i64 0), .v (.int .i64 0), .v (.slice none 0 0)]⟩
def ti35 : TI := ⟨.struct #[⟨ "Kind", 3, 0, false, "", "", 0⟩, ⟨ "Session", 2, 1, false, "", "", 8⟩, ⟨ "Request", 2, 2, false, "", "", 16⟩, ⟨ "Op", 25, 3, false, "", "", 24⟩, ⟨ "Origin", 3, 11, false, "", "", 112⟩, ⟨ "Seq", 2, 12, false, "", "", 120⟩, ⟨ "Ops", 26, 13, false, "", "", 128⟩, ⟨ "Epoch", 31, 14, false, "", "", 152⟩, ⟨ "From", 3, 39, false, "", "", 352⟩, ⟨ "Vector", 29, 40, false, "", "", 360⟩, ⟨ "Clock", 2, 48, false, "", "", 424⟩, ⟨ "Part", 34, 49, false, "", "", 432⟩, ⟨ "Site", 3, 53, false, "", "", 480⟩, ⟨ "Sponsor", 3, 54, false, "", "", 488⟩, ⟨ "Length", 2, 55, false, "", "", 496⟩], 56, 504, [.v (.int .i64 0), .v (.int .i64 0), .v (.int .i64 0), .v (.int .i64 0), .v (.int .i64 0), .v (.int .i64 0), .v (.int .i64 0), .v (.int .i64 0), .v (.string ⟨#[]⟩), .v (.string ⟨#[]⟩), .v (.string ⟨#[]⟩), .v (.int .i64 0), .v (.int .i64 0), .v (.slice none 0 0), .v (.int .i64 0), .v (.int .i64 0), .v (.int .i64 0), .v (.int .i64 0), .v (.int .i64 0), .v (.int .i64 0), .v (.int .i64 0), .v (.int .i64 0), .v (.int .i64 0), .v (.int .i64 0), .v (.int .i64 0), .v (.int .i64 0), .v (.int .i64 0), .v (.int .i64 0), .v (.int .i64 0), .v (.int .i64 0), .v (.int .i64 0), .v (.int .i64 0), .v (.int .i64 0), .v (.int .i64 0), .v (.int .i64 0), .v (.int .i64 0), .v (.int .i64 0), .v (.int .i64 0), .v (.int .i64 0), .v (.int .i64 0), .v (.int .i64 0), .v (.int .i64 0), .v (.int .i64 0), .v (.int .i64 0), .v (.int .i64 0), .v (.int .i64 0), .v (.int .i64 0), .v (.int .i64 0), .v (.int .i64 0), .v (.int .i64 0), .v (.int .i64 0), .v (.int .i64 0), .v (.slice none 0 0), .v (.int .i64 0), .v (.int .i64 0), .v (.int .i64 0)]⟩
def ti36 : TI := ⟨.struct #[⟨ "Kind", 3, 0, false, "", "", 0⟩, ⟨ "Session", 2, 1, false, "", "", 8⟩, ⟨ "Request", 2, 2, false, "", "", 16⟩, ⟨ "Op", 25, 3, false, "", "", 24⟩, ⟨ "Origin", 3, 11, false, "", "", 112⟩, ⟨ "Seq", 2, 12, false, "", "", 120⟩, ⟨ "Ops", 26, 13, false, "", "", 128⟩, ⟨ "Epoch", 31, 14, false, "", "", 152⟩, ⟨ "From", 3, 39, false, "", "", 352⟩, ⟨ "Vector", 29, 40, false, "", "", 360⟩, ⟨ "Clock", 2, 48, false, "", "", 424⟩, ⟨ "Part", 34, 49, false, "", "", 432⟩, ⟨ "Site", 3, 53, false, "", "", 480⟩, ⟨ "Sponsor", 3, 54, false, "", "", 488⟩, ⟨ "Length", 2, 55, false, "", "", 496⟩], 56, 504, [.v (.int .i64 0), .v (.int .i64 0), .v (.int .i64 0), .v (.int .i64 0), .v (.int .i64 0), .v (.int .i64 0), .v (.int .i64 0), .v (.int .i64 0), .v (.string ⟨#[]⟩), .v (.string ⟨#[]⟩), .v (.string ⟨#[]⟩), .v (.int .i64 0), .v (.int .i64 0), .v (.slice none 0 0), .v (.int .i64 0), .v (.int .i64 0), .v (.int .i64 0), .v (.int .i64 0), .v (.int .i64 0), .v (.int .i64 0), .v (.int .i64 0), .v (.int .i64 0), .v (.int .i64 0), .v (.int .i64 0), .v (.int .i64 0), .v (.int .i64 0), .v (.int .i64 0), .v (.int .i64 0), .v (.int .i64 0), .v (.int .i64 0), .v (.int .i64 0), .v (.int .i64 0), .v (.int .i64 0), .v (.int .i64 0), .v (.int .i64 0), .v (.int .i64 0), .v (.int .i64 0), .v (.int .i64 0), .v (.int .i64 0), .v (.int .i64 0), .v (.int .i64 0), .v (.int .i64 0), .v (.int .i64 0), .v (.int .i64 0), .v (.int .i64 0), .v (.int .i64 0), .v (.int .i64 0), .v (.int .i64 0), .v (.int .i64 0), .v (.int .i64 0), .v (.int .i64 0), .v (.int .i64 0), .v (.slice none 0 0), .v (.int .i64 0), .v (.int .i64 0), .v (.int .i64 0)]⟩
def ti37 : TI := ⟨.func #[] #[4] false, 1, 8, [.v .nilFunc]⟩
def ti38 : TI := ⟨.int .i64, 1, 8, [.v (.int .i64 0)]⟩
def ti40 : TI := ⟨.func #[36] #[32, 38] false, 1, 8, [.v .nilFunc]⟩
def ti41 : TI := ⟨.func #[36] #[4] false, 1, 8, [.v .nilFunc]⟩
def ti42 : TI := ⟨.func #[36, 36] #[4] false, 1, 8, [.v .nilFunc]⟩
def ti43 : TI := ⟨.func #[32, 32] #[4] false, 1, 8, [.v .nilFunc]⟩
def ti44 : TI := ⟨.struct #[⟨ "Group", 3, 0, false, "", "", 0⟩, ⟨ "Replica", 3, 1, false, "", "", 8⟩], 2, 16, [.v (.int .i64 0), .v (.int .i64 0)]⟩
def ti45 : TI := ⟨.struct #[⟨ "Group", 3, 0, false, "", "", 0⟩, ⟨ "Replica", 3, 1, false, "", "", 8⟩], 2, 16, [.v (.int .i64 0), .v (.int .i64 0)]⟩
def ti46 : TI := ⟨.struct #[⟨ "Round", 2, 0, false, "", "", 0⟩, ⟨ "Replica", 3, 1, false, "", "", 8⟩], 2, 16, [.v (.int .i64 0), .v (.int .i64 0)]⟩
def ti47 : TI := ⟨.struct #[⟨ "Round", 2, 0, false, "", "", 0⟩, ⟨ "Replica", 3, 1, false, "", "", 8⟩], 2, 16, [.v (.int .i64 0), .v (.int .i64 0)]⟩
def ti48 : TI := ⟨.slice 80, 1, 24, [.v (.slice none 0 0)]⟩
def ti49 : TI := ⟨.struct #[⟨ "Kind", 3, 0, false, "", "", 0⟩, ⟨ "From", 45, 1, false, "", "", 8⟩, ⟨ "To", 45, 3, false, "", "", 24⟩, ⟨ "Ballot", 47, 5, false, "", "", 40⟩, ⟨ "Slot", 2, 7, false, "", "", 56⟩, ⟨ "List", 48, 8, false, "", "", 64⟩, ⟨ "Entry", 36, 9, false, "", "", 88⟩, ⟨ "Number", 2, 65, false, "", "", 592⟩, ⟨ "Vector", 29, 66, false, "", "", 600⟩, ⟨ "Clock", 2, 74, false, "", "", 664⟩, ⟨ "Origin", 3, 75, false, "", "", 672⟩, ⟨ "Ops", 26, 76, false, "", "", 680⟩, ⟨ "Epoch", 31, 77, false, "", "", 704⟩, ⟨ "Part", 34, 102, false, "", "", 904⟩], 106, 952, [.v (.int .i64 0), .v (.int .i64 0), .v (.int .i64 0), .v (.int .i64 0), .v (.int .i64 0), .v (.int .i64 0), .v (.int .i64 0), .v (.int .i64 0), .v (.slice none 0 0), .v (.int .i64 0), .v (.int .i64 0), .v (.int .i64 0), .v (.int .i64 0), .v (.int .i64 0), .v (.int .i64 0), .v (.int .i64 0), .v (.int .i64 0), .v (.string ⟨#[]⟩), .v (.string ⟨#[]⟩), .v (.string ⟨#[]⟩), .v (.int .i64 0), .v (.int .i64 0), .v (.slice none 0 0), .v (.int .i64 0), .v (.int .i64 0), .v (.int .i64 0), .v (.int .i64 0), .v (.int .i64 0), .v (.int .i64 0), .v (.int .i64 0), .v (.int .i64 0), .v (.int .i64 0), .v (.int .i64 0), .v (.int .i64 0), .v (.int .i64 0), .v (.int .i64 0), .v (.int .i64 0), .v (.int .i64 0), .v (.int .i64 0), .v (.int .i64 0), .v (.int .i64 0), .v (.int .i64 0), .v (.int .i64 0), .v (.int .i64 0), .v (.int .i64 0), .v (.int .i64 0), .v (.int .i64 0), .v (.int .i64 0), .v (.int .i64 0), .v (.int .i64 0), .v (.int .i64 0), .v (.int .i64 0), .v (.int .i64 0), .v (.int .i64 0), .v (.int .i64 0), .v (.int .i64 0), .v (.int .i64 0), .v (.int .i64 0), .v (.int .i64 0), .v (.int .i64 0), .v (.int .i64 0), .v (.slice none 0 0), .v (.int .i64 0), .v (.int .i64 0), .v (.int .i64 0), .v (.int .i64 0), .v (.int .i64 0), .v (.int .i64 0), .v (.int .i64 0), .v (.int .i64 0), .v (.int .i64 0), .v (.int .i64 0), .v (.int .i64 0), .v (.int .i64 0), .v (.int .i64 0), .v (.int .i64 0), .v (.slice none 0 0), .v (.int .i64 0), .v (.int .i64 0), .v (.int .i64 0), .v (.int .i64 0), .v (.int .i64 0), .v (.int .i64 0), .v (.int .i64 0), .v (.int .i64 0), .v (.int .i64 0), .v (.int .i64 0), .v (.int .i64 0), .v (.int .i64 0), .v (.int .i64 0), .v (.int .i64 0), .v (.int .i64 0), .v (.int .i64 0), .v (.int .i64 0), .v (.int .i64 0), .v (.int .i64 0), .v (.int .i64 0), .v (.int .i64 0), .v (.int .i64 0), .v (.int .i64 0), .v (.int .i64 0), .v (.int .i64 0), .v (.int .i64 0), .v (.int .i64 0), .v (.int .i64 0), .v (.slice none 0 0)]⟩
def ti50 : TI := ⟨.struct #[⟨ "Kind", 3, 0, false, "", "", 0⟩, ⟨ "From", 45, 1, false, "", "", 8⟩, ⟨ "To", 45, 3, false, "", "", 24⟩, ⟨ "Ballot", 47, 5, false, "", "", 40⟩, ⟨ "Slot", 2, 7, false, "", "", 56⟩, ⟨ "List", 48, 8, false, "", "", 64⟩, ⟨ "Entry", 36, 9, false, "", "", 88⟩, ⟨ "Number", 2, 65, false, "", "", 592⟩, ⟨ "Vector", 29, 66, false, "", "", 600⟩, ⟨ "Clock", 2, 74, false, "", "", 664⟩, ⟨ "Origin", 3, 75, false, "", "", 672⟩, ⟨ "Ops", 26, 76, false, "", "", 680⟩, ⟨ "Epoch", 31, 77, false, "", "", 704⟩, ⟨ "Part", 34, 102, false, "", "", 904⟩], 106, 952, [.v (.int .i64 0), .v (.int .i64 0), .v (.int .i64 0), .v (.int .i64 0), .v (.int .i64 0), .v (.int .i64 0), .v (.int .i64 0), .v (.int .i64 0), .v (.slice none 0 0), .v (.int .i64 0), .v (.int .i64 0), .v (.int .i64 0), .v (.int .i64 0), .v (.int .i64 0), .v (.int .i64 0), .v (.int .i64 0), .v (.int .i64 0), .v (.string ⟨#[]⟩), .v (.string ⟨#[]⟩), .v (.string ⟨#[]⟩), .v (.int .i64 0), .v (.int .i64 0), .v (.slice none 0 0), .v (.int .i64 0), .v (.int .i64 0), .v (.int .i64 0), .v (.int .i64 0), .v (.int .i64 0), .v (.int .i64 0), .v (.int .i64 0), .v (.int .i64 0), .v (.int .i64 0), .v (.int .i64 0), .v (.int .i64 0), .v (.int .i64 0), .v (.int .i64 0), .v (.int .i64 0), .v (.int .i64 0), .v (.int .i64 0), .v (.int .i64 0), .v (.int .i64 0), .v (.int .i64 0), .v (.int .i64 0), .v (.int .i64 0), .v (.int .i64 0), .v (.int .i64 0), .v (.int .i64 0), .v (.int .i64 0), .v (.int .i64 0), .v (.int .i64 0), .v (.int .i64 0), .v (.int .i64 0), .v (.int .i64 0), .v (.int .i64 0), .v (.int .i64 0), .v (.int .i64 0), .v (.int .i64 0), .v (.int .i64 0), .v (.int .i64 0), .v (.int .i64 0), .v (.int .i64 0), .v (.slice none 0 0), .v (.int .i64 0), .v (.int .i64 0), .v (.int .i64 0), .v (.int .i64 0), .v (.int .i64 0), .v (.int .i64 0), .v (.int .i64 0), .v (.int .i64 0), .v (.int .i64 0), .v (.int .i64 0), .v (.int .i64 0), .v (.int .i64 0), .v (.int .i64 0), .v (.int .i64 0), .v (.slice none 0 0), .v (.int .i64 0), .v (.int .i64 0), .v (.int .i64 0), .v (.int .i64 0), .v (.int .i64 0), .v (.int .i64 0), .v (.int .i64 0), .v (.int .i64 0), .v (.int .i64 0), .v (.int .i64 0), .v (.int .i64 0), .v (.int .i64 0), .v (.int .i64 0), .v (.int .i64 0), .v (.int .i64 0), .v (.int .i64 0), .v (.int .i64 0), .v (.int .i64 0), .v (.int .i64 0), .v (.int .i64 0), .v (.int .i64 0), .v (.int .i64 0), .v (.int .i64 0), .v (.int .i64 0), .v (.int .i64 0), .v (.int .i64 0), .v (.int .i64 0), .v (.int .i64 0), .v (.slice none 0 0)]⟩
def ti51 : TI := ⟨.func #[50, 50] #[4] false, 1, 8, [.v .nilFunc]⟩
def ti52 : TI := ⟨.func #[36] #[36] false, 1, 8, [.v .nilFunc]⟩
def ti53 : TI := ⟨.func #[50] #[50] false, 1, 8, [.v .nilFunc]⟩
def ti54 : TI := ⟨.func #[36, 36, 50, 50] #[4] false, 1, 8, [.v .nilFunc]⟩
def ti55 : TI := ⟨.pointer 68, 1, 8, [.v (.pointer none)]⟩
def ti56 : TI := ⟨.func #[] #[55] false, 1, 8, [.v .nilFunc]⟩
def ti57 : TI := ⟨.func #[32] #[38] false, 1, 8, [.v .nilFunc]⟩
def ti58 : TI := ⟨.func #[] #[3] false, 1, 8, [.v .nilFunc]⟩
def ti59 : TI := ⟨.func #[55, 25] #[38] false, 1, 8, [.v .nilFunc]⟩
def ti60 : TI := ⟨.func #[25] #[38] false, 1, 8, [.v .nilFunc]⟩
def ti61 : TI := ⟨.func #[25] #[32] false, 1, 8, [.v .nilFunc]⟩
def ti62 : TI := ⟨.func #[25, 3] #[4] false, 1, 8, [.v .nilFunc]⟩
def ti63 : TI := ⟨.func #[31] #[38] false, 1, 8, [.v .nilFunc]⟩
def ti64 : TI := ⟨.func #[36] #[38] false, 1, 8, [.v .nilFunc]⟩
def ti65 : TI := ⟨.func #[50] #[38] false, 1, 8, [.v .nilFunc]⟩
def ti66 : TI := ⟨.func #[25, 31, 36, 50] #[4] false, 1, 8, [.v .nilFunc]⟩
def ti67 : TI := ⟨.struct #[⟨ "made", 4, 0, false, "", "orchard/wire", 0⟩, ⟨ "b", 32, 1, false, "", "orchard/wire", 8⟩], 2, 32, [.v (.bool false), .v (.slice none 0 0)]⟩
def ti68 : TI := ⟨.struct #[⟨ "made", 4, 0, false, "", "orchard/wire", 0⟩, ⟨ "b", 32, 1, false, "", "orchard/wire", 8⟩], 2, 32, [.v (.bool false), .v (.slice none 0 0)]⟩
def ti69 : TI := ⟨.slice 55, 1, 24, [.v (.slice none 0 0)]⟩
def ti70 : TI := ⟨.func #[55, 31] #[38] false, 1, 8, [.v .nilFunc]⟩
def ti71 : TI := ⟨.pointer 72, 1, 8, [.v (.pointer none)]⟩
def ti72 : TI := ⟨.struct #[⟨ "made", 4, 0, false, "", "orchard/wire", 0⟩, ⟨ "b", 32, 1, false, "", "orchard/wire", 8⟩], 2, 32, [.v (.bool false), .v (.slice none 0 0)]⟩
def ti73 : TI := ⟨.slice 71, 1, 24, [.v (.slice none 0 0)]⟩
def ti75 : TI := ⟨.func #[71] #[25, 38] false, 1, 8, [.v .nilFunc]⟩
def ti77 : TI := ⟨.func #[71] #[31, 38] false, 1, 8, [.v .nilFunc]⟩
def ti78 : TI := ⟨.func #[25, 31] #[4] false, 1, 8, [.v .nilFunc]⟩
def ti79 : TI := ⟨.struct #[⟨ "Slot", 2, 0, false, "", "", 0⟩, ⟨ "Ballot", 47, 1, false, "", "", 8⟩, ⟨ "Entry", 36, 3, false, "", "", 24⟩], 59, 528, [.v (.int .i64 0), .v (.int .i64 0), .v (.int .i64 0), .v (.int .i64 0), .v (.int .i64 0), .v (.int .i64 0), .v (.int .i64 0), .v (.int .i64 0), .v (.int .i64 0), .v (.int .i64 0), .v (.int .i64 0), .v (.string ⟨#[]⟩), .v (.string ⟨#[]⟩), .v (.string ⟨#[]⟩), .v (.int .i64 0), .v (.int .i64 0), .v (.slice none 0 0), .v (.int .i64 0), .v (.int .i64 0), .v (.int .i64 0), .v (.int .i64 0), .v (.int .i64 0), .v (.int .i64 0), .v (.int .i64 0), .v (.int .i64 0), .v (.int .i64 0), .v (.int .i64 0), .v (.int .i64 0), .v (.int .i64 0), .v (.int .i64 0), .v (.int .i64 0), .v (.int .i64 0), .v (.int .i64 0), .v (.int .i64 0), .v (.int .i64 0), .v (.int .i64 0), .v (.int .i64 0), .v (.int .i64 0), .v (.int .i64 0), .v (.int .i64 0), .v (.int .i64 0), .v (.int .i64 0), .v (.int .i64 0), .v (.int .i64 0), .v (.int .i64 0), .v (.int .i64 0), .v (.int .i64 0), .v (.int .i64 0), .v (.int .i64 0), .v (.int .i64 0), .v (.int .i64 0), .v (.int .i64 0), .v (.int .i64 0), .v (.int .i64 0), .v (.int .i64 0), .v (.slice none 0 0), .v (.int .i64 0), .v (.int .i64 0), .v (.int .i64 0)]⟩
def ti80 : TI := ⟨.struct #[⟨ "Slot", 2, 0, false, "", "", 0⟩, ⟨ "Ballot", 47, 1, false, "", "", 8⟩, ⟨ "Entry", 36, 3, false, "", "", 24⟩], 59, 528, [.v (.int .i64 0), .v (.int .i64 0), .v (.int .i64 0), .v (.int .i64 0), .v (.int .i64 0), .v (.int .i64 0), .v (.int .i64 0), .v (.int .i64 0), .v (.int .i64 0), .v (.int .i64 0), .v (.int .i64 0), .v (.string ⟨#[]⟩), .v (.string ⟨#[]⟩), .v (.string ⟨#[]⟩), .v (.int .i64 0), .v (.int .i64 0), .v (.slice none 0 0), .v (.int .i64 0), .v (.int .i64 0), .v (.int .i64 0), .v (.int .i64 0), .v (.int .i64 0), .v (.int .i64 0), .v (.int .i64 0), .v (.int .i64 0), .v (.int .i64 0), .v (.int .i64 0), .v (.int .i64 0), .v (.int .i64 0), .v (.int .i64 0), .v (.int .i64 0), .v (.int .i64 0), .v (.int .i64 0), .v (.int .i64 0), .v (.int .i64 0), .v (.int .i64 0), .v (.int .i64 0), .v (.int .i64 0), .v (.int .i64 0), .v (.int .i64 0), .v (.int .i64 0), .v (.int .i64 0), .v (.int .i64 0), .v (.int .i64 0), .v (.int .i64 0), .v (.int .i64 0), .v (.int .i64 0), .v (.int .i64 0), .v (.int .i64 0), .v (.int .i64 0), .v (.int .i64 0), .v (.int .i64 0), .v (.int .i64 0), .v (.int .i64 0), .v (.int .i64 0), .v (.slice none 0 0), .v (.int .i64 0), .v (.int .i64 0), .v (.int .i64 0)]⟩
def ti81 : TI := ⟨.func #[50] #[32, 38] false, 1, 8, [.v .nilFunc]⟩
def ti83 : TI := ⟨.func #[32] #[50, 38] false, 1, 8, [.v .nilFunc]⟩
def ti84 : TI := ⟨.func #[36, 50] #[4] false, 1, 8, [.v .nilFunc]⟩
def ti86 : TI := ⟨.func #[32] #[36, 38] false, 1, 8, [.v .nilFunc]⟩
def ti87 : TI := ⟨.pointer 89, 1, 8, [.v (.pointer none)]⟩
def ti88 : TI := ⟨.struct #[⟨ "Writer", 55, 0, true, "", "", 0⟩, ⟨ "e", 38, 1, false, "", "orchard/record", 8⟩], 2, 16, [.v (.pointer none), .v (.int .i64 0)]⟩
def ti89 : TI := ⟨.struct #[⟨ "Writer", 55, 0, true, "", "", 0⟩, ⟨ "e", 38, 1, false, "", "orchard/record", 8⟩], 2, 16, [.v (.pointer none), .v (.int .i64 0)]⟩
def ti90 : TI := ⟨.func #[36] #[] false, 1, 8, [.v .nilFunc]⟩
def ti91 : TI := ⟨.func #[] #[32] false, 1, 8, [.v .nilFunc]⟩
def ti93 : TI := ⟨.func #[36] #[36, 4] false, 1, 8, [.v .nilFunc]⟩
def ti94 : TI := ⟨.func #[2] #[4] false, 1, 8, [.v .nilFunc]⟩
def ti95 : TI := ⟨.func #[25] #[4] false, 1, 8, [.v .nilFunc]⟩
def ti96 : TI := ⟨.func #[3] #[4] false, 1, 8, [.v .nilFunc]⟩
def ti97 : TI := ⟨.func #[26] #[4] false, 1, 8, [.v .nilFunc]⟩
def ti98 : TI := ⟨.func #[31] #[4] false, 1, 8, [.v .nilFunc]⟩
def ti99 : TI := ⟨.func #[29] #[4] false, 1, 8, [.v .nilFunc]⟩
def ti100 : TI := ⟨.func #[34] #[4] false, 1, 8, [.v .nilFunc]⟩
def ti101 : TI := ⟨.func #[26, 26] #[4] false, 1, 8, [.v .nilFunc]⟩
def ti102 : TI := ⟨.func #[34, 34] #[4] false, 1, 8, [.v .nilFunc]⟩
def ti103 : TI := ⟨.func #[48, 48, 104] #[4] false, 1, 8, [.v .nilFunc]⟩
def ti104 : TI := ⟨.func #[80, 80] #[4] false, 1, 8, [.v .nilFunc]⟩
def ti105 : TI := ⟨.func #[48, 48] #[4] false, 1, 8, [.v .nilFunc]⟩
def ti106 : TI := ⟨.func #[26] #[26] false, 1, 8, [.v .nilFunc]⟩
def ti107 : TI := ⟨.func #[32] #[32] false, 1, 8, [.v .nilFunc]⟩
def ti108 : TI := ⟨.func #[48] #[48] false, 1, 8, [.v .nilFunc]⟩
def ti109 : TI := ⟨.func #[148] #[38] true, 1, 8, [.v .nilFunc]⟩
def ti110 : TI := ⟨.func #[2] #[32] false, 1, 8, [.v .nilFunc]⟩
def ti111 : TI := ⟨.func #[55] #[38] false, 1, 8, [.v .nilFunc]⟩
def ti112 : TI := ⟨.func #[55, 114] #[38] false, 1, 8, [.v .nilFunc]⟩
def ti113 : TI := ⟨.func #[25] #[] false, 1, 8, [.v .nilFunc]⟩
def ti114 : TI := ⟨.func #[87] #[] false, 1, 8, [.v .nilFunc]⟩
def ti115 : TI := ⟨.func #[4] #[38] false, 1, 8, [.v .nilFunc]⟩
def ti116 : TI := ⟨.func #[32, 121] #[32] true, 1, 8, [.v .nilFunc]⟩
def ti117 : TI := ⟨.func #[32, 9] #[32] false, 1, 8, [.v .nilFunc]⟩
def ti118 : TI := ⟨.func #[121] #[4] true, 1, 8, [.v .nilFunc]⟩
def ti119 : TI := ⟨.func #[154] #[4] true, 1, 8, [.v .nilFunc]⟩
def ti120 : TI := ⟨.func #[26, 3] #[4] false, 1, 8, [.v .nilFunc]⟩
def ti121 : TI := ⟨.slice 2, 1, 24, [.v (.slice none 0 0)]⟩
def ti122 : TI := ⟨.func #[156] #[4] true, 1, 8, [.v .nilFunc]⟩
def ti123 : TI := ⟨.func #[47] #[4] false, 1, 8, [.v .nilFunc]⟩
def ti124 : TI := ⟨.func #[48, 3, 3] #[4] false, 1, 8, [.v .nilFunc]⟩
def ti125 : TI := ⟨.func #[50] #[4] false, 1, 8, [.v .nilFunc]⟩
def ti126 : TI := ⟨.func #[31] #[] false, 1, 8, [.v .nilFunc]⟩
def ti127 : TI := ⟨.func #[71, 130] #[38] false, 1, 8, [.v .nilFunc]⟩
def ti128 : TI := ⟨.pointer 138, 1, 8, [.v (.pointer none)]⟩
def ti129 : TI := ⟨.func #[] #[25] false, 1, 8, [.v .nilFunc]⟩
def ti130 : TI := ⟨.func #[128] #[38] false, 1, 8, [.v .nilFunc]⟩
def ti131 : TI := ⟨.func #[] #[31] false, 1, 8, [.v .nilFunc]⟩
def ti132 : TI := ⟨.func #[50] #[] false, 1, 8, [.v .nilFunc]⟩
def ti133 : TI := ⟨.func #[32] #[32, 38] false, 1, 8, [.v .nilFunc]⟩
def ti135 : TI := ⟨.func #[32] #[32, 3, 38] false, 1, 8, [.v .nilFunc]⟩
def ti136 : TI := ⟨.func #[32] #[71] false, 1, 8, [.v .nilFunc]⟩
def ti137 : TI := ⟨.struct #[⟨ "Reader", 71, 0, true, "", "", 0⟩, ⟨ "e", 38, 1, false, "", "orchard/record", 8⟩], 2, 16, [.v (.pointer none), .v (.int .i64 0)]⟩
def ti138 : TI := ⟨.struct #[⟨ "Reader", 71, 0, true, "", "", 0⟩, ⟨ "e", 38, 1, false, "", "orchard/record", 8⟩], 2, 16, [.v (.pointer none), .v (.int .i64 0)]⟩
def ti139 : TI := ⟨.func #[] #[50] false, 1, 8, [.v .nilFunc]⟩
def ti140 : TI := ⟨.func #[38] #[] false, 1, 8, [.v .nilFunc]⟩
def ti141 : TI := ⟨.func #[] #[38] false, 1, 8, [.v .nilFunc]⟩
def ti142 : TI := ⟨.func #[] #[36] false, 1, 8, [.v .nilFunc]⟩
def ti143 : TI := ⟨.func #[154] #[] true, 1, 8, [.v .nilFunc]⟩
def ti144 : TI := ⟨.func #[121] #[] true, 1, 8, [.v .nilFunc]⟩
def ti145 : TI := ⟨.func #[26] #[] false, 1, 8, [.v .nilFunc]⟩
def ti146 : TI := ⟨.func #[34] #[] false, 1, 8, [.v .nilFunc]⟩
def ti147 : TI := ⟨.func #[23] #[4] false, 1, 8, [.v .nilFunc]⟩
def ti148 : TI := ⟨.slice 32, 1, 24, [.v (.slice none 0 0)]⟩
def ti149 : TI := ⟨.int .u64, 1, 8, [.v (.int .u64 0)]⟩
def ti150 : TI := ⟨.int .u64, 1, 8, [.v (.int .u64 0)]⟩
def ti151 : TI := ⟨.func #[2] #[38] false, 1, 8, [.v .nilFunc]⟩
def ti152 : TI := ⟨.func #[182] #[] true, 1, 8, [.v .nilFunc]⟩
def ti153 : TI := ⟨.func #[182] #[4] true, 1, 8, [.v .nilFunc]⟩
def ti154 : TI := ⟨.slice 3, 1, 24, [.v (.slice none 0 0)]⟩
def ti155 : TI := ⟨.func #[26, 95] #[4] false, 1, 8, [.v .nilFunc]⟩
def ti156 : TI := ⟨.slice 45, 1, 24, [.v (.slice none 0 0)]⟩
def ti157 : TI := ⟨.func #[48, 158] #[4] false, 1, 8, [.v .nilFunc]⟩
def ti158 : TI := ⟨.func #[80] #[4] false, 1, 8, [.v .nilFunc]⟩
def ti160 : TI := ⟨.func #[50] #[50, 4] false, 1, 8, [.v .nilFunc]⟩
def ti161 : TI := ⟨.func #[45] #[4] false, 1, 8, [.v .nilFunc]⟩
def ti162 : TI := ⟨.func #[186] #[] true, 1, 8, [.v .nilFunc]⟩
def ti163 : TI := ⟨.pointer 2, 1, 8, [.v (.pointer none)]⟩
def ti164 : TI := ⟨.func #[188] #[] true, 1, 8, [.v .nilFunc]⟩
def ti165 : TI := ⟨.pointer 3, 1, 8, [.v (.pointer none)]⟩
def ti166 : TI := ⟨.func #[] #[9] false, 1, 8, [.v .nilFunc]⟩
def ti167 : TI := ⟨.func #[168] #[] false, 1, 8, [.v .nilFunc]⟩
def ti168 : TI := ⟨.pointer 29, 1, 8, [.v (.pointer none)]⟩
def ti169 : TI := ⟨.func #[45] #[] false, 1, 8, [.v .nilFunc]⟩
def ti170 : TI := ⟨.func #[47] #[] false, 1, 8, [.v .nilFunc]⟩
def ti171 : TI := ⟨.func #[48] #[] false, 1, 8, [.v .nilFunc]⟩
def ti172 : TI := ⟨.func #[148] #[32] true, 1, 8, [.v .nilFunc]⟩
def ti173 : TI := ⟨.func #[174] #[32] false, 1, 8, [.v .nilFunc]⟩
def ti174 : TI := ⟨.int .u32, 1, 4, [.v (.int .u32 0)]⟩
def ti175 : TI := ⟨.func #[148] #[174] true, 1, 8, [.v .nilFunc]⟩
def ti177 : TI := ⟨.func #[32] #[2, 3, 38] false, 1, 8, [.v .nilFunc]⟩
def ti178 : TI := ⟨.func #[179] #[] false, 1, 8, [.v .nilFunc]⟩
def ti179 : TI := ⟨.pointer 50, 1, 8, [.v (.pointer none)]⟩
def ti180 : TI := ⟨.func #[] #[26] false, 1, 8, [.v .nilFunc]⟩
def ti181 : TI := ⟨.func #[] #[34] false, 1, 8, [.v .nilFunc]⟩
def ti182 : TI := ⟨.slice 9, 1, 24, [.v (.slice none 0 0)]⟩
def ti183 : TI := ⟨.func #[9] #[38] false, 1, 8, [.v .nilFunc]⟩
def ti184 : TI := ⟨.func #[26, 95] #[3] false, 1, 8, [.v .nilFunc]⟩
def ti185 : TI := ⟨.func #[48, 158] #[3] false, 1, 8, [.v .nilFunc]⟩
def ti186 : TI := ⟨.slice 163, 1, 24, [.v (.slice none 0 0)]⟩
def ti187 : TI := ⟨.func #[] #[2] false, 1, 8, [.v .nilFunc]⟩
def ti188 : TI := ⟨.slice 165, 1, 24, [.v (.slice none 0 0)]⟩
def ti190 : TI := ⟨.func #[] #[9, 38] false, 1, 8, [.v .nilFunc]⟩
def ti191 : TI := ⟨.func #[32, 3] #[32] false, 1, 8, [.v .nilFunc]⟩
def ti192 : TI := ⟨.func #[] #[47] false, 1, 8, [.v .nilFunc]⟩
def ti193 : TI := ⟨.func #[] #[48] false, 1, 8, [.v .nilFunc]⟩
def ti195 : TI := ⟨.func #[] #[2, 38] false, 1, 8, [.v .nilFunc]⟩
def ti196 : TI := ⟨.func #[] #[32, 38] false, 1, 8, [.v .nilFunc]⟩
def ti205 : TI := ⟨.pointer 5, 1, 8, [.v (.pointer none)]⟩
def tyT : Nat → Option TI
  | 1 => some ti1
  | 2 => some ti2
  | 3 => some ti3
  | 4 => some ti4
  | 5 => some ti5
  | 9 => some ti9
  | 12 => some ti12
  | 17 => some ti17
  | 21 => some ti21
  | 22 => some ti22
  | 23 => some ti23
  | 24 => some ti24
  | 25 => some ti25
  | 26 => some ti26
  | 27 => some ti27
  | 28 => some ti28
  | 29 => some ti29
  | 30 => some ti30
  | 31 => some ti31
  | 32 => some ti32
  | 33 => some ti33
  | 34 => some ti34
  | 35 => some ti35
  | 36 => some ti36
  | 37 => some ti37
  | 38 => some ti38
  | 40 => some ti40
  | 41 => some ti41
  | 42 => some ti42
  | 43 => some ti43
  | 44 => some ti44
  | 45 => some ti45
  | 46 => some ti46
  | 47 => some ti47
  | 48 => some ti48
  | 49 => some ti49
  | 50 => some ti50
  | 51 => some ti51
  | 52 => some ti52
  | 53 => some ti53
  | 54 => some ti54
  | 55 => some ti55
  | 56 => some ti56
  | 57 => some ti57
  | 58 => some ti58
  | 59 => some ti59
  | 60 => some ti60
  | 61 => some ti61
  | 62 => some ti62
  | 63 => some ti63
  | 64 => some ti64
  | 65 => some ti65
  | 66 => some ti66
  | 67 => some ti67
  | 68 => some ti68
  | 69 => some ti69
  | 70 => some ti70
  | 71 => some ti71
  | 72 => some ti72
  | 73 => some ti73
  | 75 => some ti75
  | 77 => some ti77
  | 78 => some ti78
  | 79 => some ti79
  | 80 => some ti80
  | 81 => some ti81
  | 83 => some ti83
  | 84 => some ti84
  | 86 => some ti86
  | 87 => some ti87
  | 88 => some ti88
  | 89 => some ti89
  | 90 => some ti90
  | 91 => some ti91
  | 93 => some ti93
  | 94 => some ti94
  | 95 => some ti95
  | 96 => some ti96
  | 97 => some ti97
  | 98 => some ti98
  | 99 => some ti99
  | 100 => some ti100
  | 101 => some ti101
  | 102 => some ti102
  | 103 => some ti103
  | 104 => some ti104
  | 105 => some ti105
  | 106 => some ti106
  | 107 => some ti107
  | 108 => some ti108
  | 109 => some ti109
  | 110 => some ti110
  | 111 => some ti111
  | 112 => some ti112
  | 113 => some ti113
  | 114 => some ti114
  | 115 => some ti115
  | 116 => some ti116
  | 117 => some ti117
  | 118 => some ti118
  | 119 => some ti119
  | 120 => some ti120
  | 121 => some ti121
  | 122 => some ti122
  | 123 => some ti123
  | 124 => some ti124
  | 125 => some ti125
  | 126 => some ti126
  | 127 => some ti127
  | 128 => some ti128
  | 129 => some ti129
  | 130 => some ti130
  | 131 => some ti131
  | 132 => some ti132
  | 133 => some ti133
  | 135 => some ti135
  | 136 => some ti136
  | 137 => some ti137
  | 138 => some ti138
  | 139 => some ti139
  | 140 => some ti140
  | 141 => some ti141
  | 142 => some ti142
  | 143 => some ti143
  | 144 => some ti144
  | 145 => some ti145
  | 146 => some ti146
  | 147 => some ti147
  | 148 => some ti148
  | 149 => some ti149
  | 150 => some ti150
  | 151 => some ti151
  | 152 => some ti152
  | 153 => some ti153
  | 154 => some ti154
  | 155 => some ti155
  | 156 => some ti156
  | 157 => some ti157
  | 158 => some ti158
  | 160 => some ti160
  | 161 => some ti161
  | 162 => some ti162
  | 163 => some ti163
  | 164 => some ti164
  | 165 => some ti165
  | 166 => some ti166
  | 167 => some ti167
  | 168 => some ti168
  | 169 => some ti169
  | 170 => some ti170
  | 171 => some ti171
  | 172 => some ti172
  | 173 => some ti173
  | 174 => some ti174
  | 175 => some ti175
  | 177 => some ti177
  | 178 => some ti178
  | 179 => some ti179
  | 180 => some ti180
  | 181 => some ti181
  | 182 => some ti182
  | 183 => some ti183
  | 184 => some ti184
  | 185 => some ti185
  | 186 => some ti186
  | 187 => some ti187
  | 188 => some ti188
  | 190 => some ti190
  | 191 => some ti191
  | 192 => some ti192
  | 193 => some ti193
  | 195 => some ti195
  | 196 => some ti196
  | 205 => some ti205
  | _ => none
def eqT : Nat → Option (List Kd)
  | 22 => some [.i, .i]
  | 23 => some [.i, .i]
  | 24 => some [.i, .i, .i, .i, .i, .s, .s, .s]
  | 25 => some [.i, .i, .i, .i, .i, .s, .s, .s]
  | 27 => some [.i, .i, .i, .i, .i, .i, .i, .i]
  | 28 => some [.i, .i, .i, .i, .i, .i, .i, .i]
  | 29 => some [.i, .i, .i, .i, .i, .i, .i, .i]
  | 30 => some [.i, .i, .i, .i, .i, .i, .i, .i, .i, .i, .i, .i, .i, .i, .i, .i, .i, .i, .i, .i, .i, .i, .i, .i, .i]
  | 31 => some [.i, .i, .i, .i, .i, .i, .i, .i, .i, .i, .i, .i, .i, .i, .i, .i, .i, .i, .i, .i, .i, .i, .i, .i, .i]
  | 44 => some [.i, .i]
  | 45 => some [.i, .i]
  | 46 => some [.i, .i]
  | 47 => some [.i, .i]
  | _ => none
noncomputable def E : Env := ⟨Try.prog, tyT, eqT⟩
theorem tok1 : TyOk E.P 1 ti1 := tyOkV (z := .nilFunc) (by kernel_rfl) rfl (by kernel_rfl) (by kernel_rfl)
theorem tok2 : TyOk E.P 2 ti2 := tyOkV (z := (.int .i64 0)) (by kernel_rfl) rfl (by kernel_rfl) (by kernel_rfl)
theorem tok3 : TyOk E.P 3 ti3 := tyOkV (z := (.int .i64 0)) (by kernel_rfl) rfl (by kernel_rfl) (by kernel_rfl)
theorem tok4 : TyOk E.P 4 ti4 := tyOkV (z := (.bool false)) (by kernel_rfl) rfl (by kernel_rfl) (by kernel_rfl)
theorem tok5 : TyOk E.P 5 ti5 := tyOkV (z := (.int .u8 0)) (by kernel_rfl) rfl (by kernel_rfl) (by kernel_rfl)
theorem tok9 : TyOk E.P 9 ti9 := tyOkV (z := (.string ⟨#[]⟩)) (by kernel_rfl) rfl (by kernel_rfl) (by kernel_rfl)
theorem tok12 : TyOk E.P 12 ti12 := tyOkV (z := (.int .u64 0)) (by kernel_rfl) rfl (by kernel_rfl) (by kernel_rfl)
theorem tok17 : TyOk E.P 17 ti17 := tyOkV (z := (.pointer none)) (by kernel_rfl) rfl (by kernel_rfl) (by kernel_rfl)
theorem tok21 : TyOk E.P 21 ti21 := tyOkV (z := (.int .i32 0)) (by kernel_rfl) rfl (by kernel_rfl) (by kernel_rfl)
theorem tok22 : TyOk E.P 22 ti22 := tyOkV (z := (.agg #[(.int .i64 0), (.int .i64 0)])) (by kernel_rfl) rfl (by kernel_rfl) (by kernel_rfl)
theorem tok23 : TyOk E.P 23 ti23 := tyOkV (z := (.agg #[(.int .i64 0), (.int .i64 0)])) (by kernel_rfl) rfl (by kernel_rfl) (by kernel_rfl)
theorem tok24 : TyOk E.P 24 ti24 := tyOkV (z := (.agg #[(.int .i64 0), (.int .i64 0), (.int .i64 0), (.int .i64 0), (.int .i64 0), (.string ⟨#[]⟩), (.string ⟨#[]⟩), (.string ⟨#[]⟩)])) (by kernel_rfl) rfl (by kernel_rfl) (by kernel_rfl)
theorem tok25 : TyOk E.P 25 ti25 := tyOkV (z := (.agg #[(.int .i64 0), (.int .i64 0), (.int .i64 0), (.int .i64 0), (.int .i64 0), (.string ⟨#[]⟩), (.string ⟨#[]⟩), (.string ⟨#[]⟩)])) (by kernel_rfl) rfl (by kernel_rfl) (by kernel_rfl)
theorem tok26 : TyOk E.P 26 ti26 := tyOkV (z := (.slice none 0 0)) (by kernel_rfl) rfl (by kernel_rfl) (by kernel_rfl)
theorem tok27 : TyOk E.P 27 ti27 := tyOkV (z := (.agg #[(.int .i64 0), (.int .i64 0), (.int .i64 0), (.int .i64 0), (.int .i64 0), (.int .i64 0), (.int .i64 0), (.int .i64 0)])) (by kernel_rfl) rfl (by kernel_rfl) (by kernel_rfl)
theorem tok28 : TyOk E.P 28 ti28 := tyOkV (z := (.agg #[(.int .i64 0), (.int .i64 0), (.int .i64 0), (.int .i64 0), (.int .i64 0), (.int .i64 0), (.int .i64 0), (.int .i64 0)])) (by kernel_rfl) rfl (by kernel_rfl) (by kernel_rfl)
theorem tok29 : TyOk E.P 29 ti29 := tyOkV (z := (.agg #[(.int .i64 0), (.int .i64 0), (.int .i64 0), (.int .i64 0), (.int .i64 0), (.int .i64 0), (.int .i64 0), (.int .i64 0)])) (by kernel_rfl) rfl (by kernel_rfl) (by kernel_rfl)
theorem tok30 : TyOk E.P 30 ti30 := tyOkV (z := (.agg #[(.int .i64 0), (.int .i64 0), (.int .i64 0), (.int .i64 0), (.int .i64 0), (.int .i64 0), (.int .i64 0), (.int .i64 0), (.int .i64 0), (.int .i64 0), (.int .i64 0), (.int .i64 0), (.int .i64 0), (.int .i64 0), (.int .i64 0), (.int .i64 0), (.int .i64 0), (.int .i64 0), (.int .i64 0), (.int .i64 0), (.int .i64 0), (.int .i64 0), (.int .i64 0), (.int .i64 0), (.int .i64 0)])) (by kernel_rfl) rfl (by kernel_rfl) (by kernel_rfl)
theorem tok31 : TyOk E.P 31 ti31 := tyOkV (z := (.agg #[(.int .i64 0), (.int .i64 0), (.int .i64 0), (.int .i64 0), (.int .i64 0), (.int .i64 0), (.int .i64 0), (.int .i64 0), (.int .i64 0), (.int .i64 0), (.int .i64 0), (.int .i64 0), (.int .i64 0), (.int .i64 0), (.int .i64 0), (.int .i64 0), (.int .i64 0), (.int .i64 0), (.int .i64 0), (.int .i64 0), (.int .i64 0), (.int .i64 0), (.int .i64 0), (.int .i64 0), (.int .i64 0)])) (by kernel_rfl) rfl (by kernel_rfl) (by kernel_rfl)
theorem tok32 : TyOk E.P 32 ti32 := tyOkV (z := (.slice none 0 0)) (by kernel_rfl) rfl (by kernel_rfl) (by kernel_rfl)
theorem tok33 : TyOk E.P 33 ti33 := tyOkV (z := (.agg #[(.int .i64 0), (.int .i64 0), (.int .i64 0), (.slice none 0 0)])) (by kernel_rfl) rfl (by kernel_rfl) (by kernel_rfl)
theorem tok34 : TyOk E.P 34 ti34 := tyOkV (z := (.agg #[(.int .i64 0), (.int .i64 0), (.int .i64 0), (.slice none 0 0)])) (by kernel_rfl) rfl (by kernel_rfl) (by kernel_rfl)
theorem tok35 : TyOk E.P 35 ti35 := tyOkV (z := (.agg #[(.int .i64 0), (.int .i64 0), (.int .i64 0), (.int .i64 0), (.int .i64 0), (.int .i64 0), (.int .i64 0), (.int .i64 0), (.string ⟨#[]⟩), (.string ⟨#[]⟩), (.string ⟨#[]⟩), (.int .i64 0), (.int .i64 0), (.slice none 0 0), (.int .i64 0), (.int .i64 0), (.int .i64 0), (.int .i64 0), (.int .i64 0), (.int .i64 0), (.int .i64 0), (.int .i64 0), (.int .i64 0), (.int .i64 0), (.int .i64 0), (.int .i64 0), (.int .i64 0), (.int .i64 0), (.int .i64 0), (.int .i64 0), (.int .i64 0), (.int .i64 0), (.int .i64 0), (.int .i64 0), (.int .i64 0), (.int .i64 0), (.int .i64 0), (.int .i64 0), (.int .i64 0), (.int .i64 0), (.int .i64 0), (.int .i64 0), (.int .i64 0), (.int .i64 0), (.int .i64 0), (.int .i64 0), (.int .i64 0), (.int .i64 0), (.int .i64 0), (.int .i64 0), (.int .i64 0), (.int .i64 0), (.slice none 0 0), (.int .i64 0), (.int .i64 0), (.int .i64 0)])) (by kernel_rfl) rfl (by kernel_rfl) (by kernel_rfl)
theorem tok36 : TyOk E.P 36 ti36 := tyOkV (z := (.agg #[(.int .i64 0), (.int .i64 0), (.int .i64 0), (.int .i64 0), (.int .i64 0), (.int .i64 0), (.int .i64 0), (.int .i64 0), (.string ⟨#[]⟩), (.string ⟨#[]⟩), (.string ⟨#[]⟩), (.int .i64 0), (.int .i64 0), (.slice none 0 0), (.int .i64 0), (.int .i64 0), (.int .i64 0), (.int .i64 0), (.int .i64 0), (.int .i64 0), (.int .i64 0), (.int .i64 0), (.int .i64 0), (.int .i64 0), (.int .i64 0), (.int .i64 0), (.int .i64 0), (.int .i64 0), (.int .i64 0), (.int .i64 0), (.int .i64 0), (.int .i64 0), (.int .i64 0), (.int .i64 0), (.int .i64 0), (.int .i64 0), (.int .i64 0), (.int .i64 0), (.int .i64 0), (.int .i64 0), (.int .i64 0), (.int .i64 0), (.int .i64 0), (.int .i64 0), (.int .i64 0), (.int .i64 0), (.int .i64 0), (.int .i64 0), (.int .i64 0), (.int .i64 0), (.int .i64 0), (.int .i64 0), (.slice none 0 0), (.int .i64 0), (.int .i64 0), (.int .i64 0)])) (by kernel_rfl) rfl (by kernel_rfl) (by kernel_rfl)
theorem tok37 : TyOk E.P 37 ti37 := tyOkV (z := .nilFunc) (by kernel_rfl) rfl (by kernel_rfl) (by kernel_rfl)
theorem tok38 : TyOk E.P 38 ti38 := tyOkV (z := (.int .i64 0)) (by kernel_rfl) rfl (by kernel_rfl) (by kernel_rfl)
theorem tok40 : TyOk E.P 40 ti40 := tyOkV (z := .nilFunc) (by kernel_rfl) rfl (by kernel_rfl) (by kernel_rfl)
theorem tok41 : TyOk E.P 41 ti41 := tyOkV (z := .nilFunc) (by kernel_rfl) rfl (by kernel_rfl) (by kernel_rfl)
theorem tok42 : TyOk E.P 42 ti42 := tyOkV (z := .nilFunc) (by kernel_rfl) rfl (by kernel_rfl) (by kernel_rfl)
theorem tok43 : TyOk E.P 43 ti43 := tyOkV (z := .nilFunc) (by kernel_rfl) rfl (by kernel_rfl) (by kernel_rfl)
theorem tok44 : TyOk E.P 44 ti44 := tyOkV (z := (.agg #[(.int .i64 0), (.int .i64 0)])) (by kernel_rfl) rfl (by kernel_rfl) (by kernel_rfl)
theorem tok45 : TyOk E.P 45 ti45 := tyOkV (z := (.agg #[(.int .i64 0), (.int .i64 0)])) (by kernel_rfl) rfl (by kernel_rfl) (by kernel_rfl)
theorem tok46 : TyOk E.P 46 ti46 := tyOkV (z := (.agg #[(.int .i64 0), (.int .i64 0)])) (by kernel_rfl) rfl (by kernel_rfl) (by kernel_rfl)
theorem tok47 : TyOk E.P 47 ti47 := tyOkV (z := (.agg #[(.int .i64 0), (.int .i64 0)])) (by kernel_rfl) rfl (by kernel_rfl) (by kernel_rfl)
theorem tok48 : TyOk E.P 48 ti48 := tyOkV (z := (.slice none 0 0)) (by kernel_rfl) rfl (by kernel_rfl) (by kernel_rfl)
theorem tok49 : TyOk E.P 49 ti49 := tyOkV (z := (.agg #[(.int .i64 0), (.int .i64 0), (.int .i64 0), (.int .i64 0), (.int .i64 0), (.int .i64 0), (.int .i64 0), (.int .i64 0), (.slice none 0 0), (.int .i64 0), (.int .i64 0), (.int .i64 0), (.int .i64 0), (.int .i64 0), (.int .i64 0), (.int .i64 0), (.int .i64 0), (.string ⟨#[]⟩), (.string ⟨#[]⟩), (.string ⟨#[]⟩), (.int .i64 0), (.int .i64 0), (.slice none 0 0), (.int .i64 0), (.int .i64 0), (.int .i64 0), (.int .i64 0), (.int .i64 0), (.int .i64 0), (.int .i64 0), (.int .i64 0), (.int .i64 0), (.int .i64 0), (.int .i64 0), (.int .i64 0), (.int .i64 0), (.int .i64 0), (.int .i64 0), (.int .i64 0), (.int .i64 0), (.int .i64 0), (.int .i64 0), (.int .i64 0), (.int .i64 0), (.int .i64 0), (.int .i64 0), (.int .i64 0), (.int .i64 0), (.int .i64 0), (.int .i64 0), (.int .i64 0), (.int .i64 0), (.int .i64 0), (.int .i64 0), (.int .i64 0), (.int .i64 0), (.int .i64 0), (.int .i64 0), (.int .i64 0), (.int .i64 0), (.int .i64 0), (.slice none 0 0), (.int .i64 0), (.int .i64 0), (.int .i64 0), (.int .i64 0), (.int .i64 0), (.int .i64 0), (.int .i64 0), (.int .i64 0), (.int .i64 0), (.int .i64 0), (.int .i64 0), (.int .i64 0), (.int .i64 0), (.int .i64 0), (.slice none 0 0), (.int .i64 0), (.int .i64 0), (.int .i64 0), (.int .i64 0), (.int .i64 0), (.int .i64 0), (.int .i64 0), (.int .i64 0), (.int .i64 0), (.int .i64 0), (.int .i64 0), (.int .i64 0), (.int .i64 0), (.int .i64 0), (.int .i64 0), (.int .i64 0), (.int .i64 0), (.int .i64 0), (.int .i64 0), (.int .i64 0), (.int .i64 0), (.int .i64 0), (.int .i64 0), (.int .i64 0), (.int .i64 0), (.int .i64 0), (.int .i64 0), (.int .i64 0), (.slice none 0 0)])) (by kernel_rfl) rfl (by kernel_rfl) (by kernel_rfl)
theorem tok50 : TyOk E.P 50 ti50 := tyOkV (z := (.agg #[(.int .i64 0), (.int .i64 0), (.int .i64 0), (.int .i64 0), (.int .i64 0), (.int .i64 0), (.int .i64 0), (.int .i64 0), (.slice none 0 0), (.int .i64 0), (.int .i64 0), (.int .i64 0), (.int .i64 0), (.int .i64 0), (.int .i64 0), (.int .i64 0), (.int .i64 0), (.string ⟨#[]⟩), (.string ⟨#[]⟩), (.string ⟨#[]⟩), (.int .i64 0), (.int .i64 0), (.slice none 0 0), (.int .i64 0), (.int .i64 0), (.int .i64 0), (.int .i64 0), (.int .i64 0), (.int .i64 0), (.int .i64 0), (.int .i64 0), (.int .i64 0), (.int .i64 0), (.int .i64 0), (.int .i64 0), (.int .i64 0), (.int .i64 0), (.int .i64 0), (.int .i64 0), (.int .i64 0), (.int .i64 0), (.int .i64 0), (.int .i64 0), (.int .i64 0), (.int .i64 0), (.int .i64 0), (.int .i64 0), (.int .i64 0), (.int .i64 0), (.int .i64 0), (.int .i64 0), (.int .i64 0), (.int .i64 0), (.int .i64 0), (.int .i64 0), (.int .i64 0), (.int .i64 0), (.int .i64 0), (.int .i64 0), (.int .i64 0), (.int .i64 0), (.slice none 0 0), (.int .i64 0), (.int .i64 0), (.int .i64 0), (.int .i64 0), (.int .i64 0), (.int .i64 0), (.int .i64 0), (.int .i64 0), (.int .i64 0), (.int .i64 0), (.int .i64 0), (.int .i64 0), (.int .i64 0), (.int .i64 0), (.slice none 0 0), (.int .i64 0), (.int .i64 0), (.int .i64 0), (.int .i64 0), (.int .i64 0), (.int .i64 0), (.int .i64 0), (.int .i64 0), (.int .i64 0), (.int .i64 0), (.int .i64 0), (.int .i64 0), (.int .i64 0), (.int .i64 0), (.int .i64 0), (.int .i64 0), (.int .i64 0), (.int .i64 0), (.int .i64 0), (.int .i64 0), (.int .i64 0), (.int .i64 0), (.int .i64 0), (.int .i64 0), (.int .i64 0), (.int .i64 0), (.int .i64 0), (.int .i64 0), (.slice none 0 0)])) (by kernel_rfl) rfl (by kernel_rfl) (by kernel_rfl)
theorem tok51 : TyOk E.P 51 ti51 := tyOkV (z := .nilFunc) (by kernel_rfl) rfl (by kernel_rfl) (by kernel_rfl)
theorem tok52 : TyOk E.P 52 ti52 := tyOkV (z := .nilFunc) (by kernel_rfl) rfl (by kernel_rfl) (by kernel_rfl)
theorem tok53 : TyOk E.P 53 ti53 := tyOkV (z := .nilFunc) (by kernel_rfl) rfl (by kernel_rfl) (by kernel_rfl)
theorem tok54 : TyOk E.P 54 ti54 := tyOkV (z := .nilFunc) (by kernel_rfl) rfl (by kernel_rfl) (by kernel_rfl)
theorem tok55 : TyOk E.P 55 ti55 := tyOkV (z := (.pointer none)) (by kernel_rfl) rfl (by kernel_rfl) (by kernel_rfl)
theorem tok56 : TyOk E.P 56 ti56 := tyOkV (z := .nilFunc) (by kernel_rfl) rfl (by kernel_rfl) (by kernel_rfl)
theorem tok57 : TyOk E.P 57 ti57 := tyOkV (z := .nilFunc) (by kernel_rfl) rfl (by kernel_rfl) (by kernel_rfl)
theorem tok58 : TyOk E.P 58 ti58 := tyOkV (z := .nilFunc) (by kernel_rfl) rfl (by kernel_rfl) (by kernel_rfl)
theorem tok59 : TyOk E.P 59 ti59 := tyOkV (z := .nilFunc) (by kernel_rfl) rfl (by kernel_rfl) (by kernel_rfl)
theorem tok60 : TyOk E.P 60 ti60 := tyOkV (z := .nilFunc) (by kernel_rfl) rfl (by kernel_rfl) (by kernel_rfl)
theorem tok61 : TyOk E.P 61 ti61 := tyOkV (z := .nilFunc) (by kernel_rfl) rfl (by kernel_rfl) (by kernel_rfl)
theorem tok62 : TyOk E.P 62 ti62 := tyOkV (z := .nilFunc) (by kernel_rfl) rfl (by kernel_rfl) (by kernel_rfl)
theorem tok63 : TyOk E.P 63 ti63 := tyOkV (z := .nilFunc) (by kernel_rfl) rfl (by kernel_rfl) (by kernel_rfl)
theorem tok64 : TyOk E.P 64 ti64 := tyOkV (z := .nilFunc) (by kernel_rfl) rfl (by kernel_rfl) (by kernel_rfl)
theorem tok65 : TyOk E.P 65 ti65 := tyOkV (z := .nilFunc) (by kernel_rfl) rfl (by kernel_rfl) (by kernel_rfl)
theorem tok66 : TyOk E.P 66 ti66 := tyOkV (z := .nilFunc) (by kernel_rfl) rfl (by kernel_rfl) (by kernel_rfl)
theorem tok67 : TyOk E.P 67 ti67 := tyOkV (z := (.agg #[(.bool false), (.slice none 0 0)])) (by kernel_rfl) rfl (by kernel_rfl) (by kernel_rfl)
theorem tok68 : TyOk E.P 68 ti68 := tyOkV (z := (.agg #[(.bool false), (.slice none 0 0)])) (by kernel_rfl) rfl (by kernel_rfl) (by kernel_rfl)
theorem tok69 : TyOk E.P 69 ti69 := tyOkV (z := (.slice none 0 0)) (by kernel_rfl) rfl (by kernel_rfl) (by kernel_rfl)
theorem tok70 : TyOk E.P 70 ti70 := tyOkV (z := .nilFunc) (by kernel_rfl) rfl (by kernel_rfl) (by kernel_rfl)
theorem tok71 : TyOk E.P 71 ti71 := tyOkV (z := (.pointer none)) (by kernel_rfl) rfl (by kernel_rfl) (by kernel_rfl)
theorem tok72 : TyOk E.P 72 ti72 := tyOkV (z := (.agg #[(.bool false), (.slice none 0 0)])) (by kernel_rfl) rfl (by kernel_rfl) (by kernel_rfl)
theorem tok73 : TyOk E.P 73 ti73 := tyOkV (z := (.slice none 0 0)) (by kernel_rfl) rfl (by kernel_rfl) (by kernel_rfl)
theorem tok75 : TyOk E.P 75 ti75 := tyOkV (z := .nilFunc) (by kernel_rfl) rfl (by kernel_rfl) (by kernel_rfl)
theorem tok77 : TyOk E.P 77 ti77 := tyOkV (z := .nilFunc) (by kernel_rfl) rfl (by kernel_rfl) (by kernel_rfl)
theorem tok78 : TyOk E.P 78 ti78 := tyOkV (z := .nilFunc) (by kernel_rfl) rfl (by kernel_rfl) (by kernel_rfl)
theorem tok79 : TyOk E.P 79 ti79 := tyOkV (z := (.agg #[(.int .i64 0), (.int .i64 0), (.int .i64 0), (.int .i64 0), (.int .i64 0), (.int .i64 0), (.int .i64 0), (.int .i64 0), (.int .i64 0), (.int .i64 0), (.int .i64 0), (.string ⟨#[]⟩), (.string ⟨#[]⟩), (.string ⟨#[]⟩), (.int .i64 0), (.int .i64 0), (.slice none 0 0), (.int .i64 0), (.int .i64 0), (.int .i64 0), (.int .i64 0), (.int .i64 0), (.int .i64 0), (.int .i64 0), (.int .i64 0), (.int .i64 0), (.int .i64 0), (.int .i64 0), (.int .i64 0), (.int .i64 0), (.int .i64 0), (.int .i64 0), (.int .i64 0), (.int .i64 0), (.int .i64 0), (.int .i64 0), (.int .i64 0), (.int .i64 0), (.int .i64 0), (.int .i64 0), (.int .i64 0), (.int .i64 0), (.int .i64 0), (.int .i64 0), (.int .i64 0), (.int .i64 0), (.int .i64 0), (.int .i64 0), (.int .i64 0), (.int .i64 0), (.int .i64 0), (.int .i64 0), (.int .i64 0), (.int .i64 0), (.int .i64 0), (.slice none 0 0), (.int .i64 0), (.int .i64 0), (.int .i64 0)])) (by kernel_rfl) rfl (by kernel_rfl) (by kernel_rfl)
theorem tok80 : TyOk E.P 80 ti80 := tyOkV (z := (.agg #[(.int .i64 0), (.int .i64 0), (.int .i64 0), (.int .i64 0), (.int .i64 0), (.int .i64 0), (.int .i64 0), (.int .i64 0), (.int .i64 0), (.int .i64 0), (.int .i64 0), (.string ⟨#[]⟩), (.string ⟨#[]⟩), (.string ⟨#[]⟩), (.int .i64 0), (.int .i64 0), (.slice none 0 0), (.int .i64 0), (.int .i64 0), (.int .i64 0), (.int .i64 0), (.int .i64 0), (.int .i64 0), (.int .i64 0), (.int .i64 0), (.int .i64 0), (.int .i64 0), (.int .i64 0), (.int .i64 0), (.int .i64 0), (.int .i64 0), (.int .i64 0), (.int .i64 0), (.int .i64 0), (.int .i64 0), (.int .i64 0), (.int .i64 0), (.int .i64 0), (.int .i64 0), (.int .i64 0), (.int .i64 0), (.int .i64 0), (.int .i64 0), (.int .i64 0), (.int .i64 0), (.int .i64 0), (.int .i64 0), (.int .i64 0), (.int .i64 0), (.int .i64 0), (.int .i64 0), (.int .i64 0), (.int .i64 0), (.int .i64 0), (.int .i64 0), (.slice none 0 0), (.int .i64 0), (.int .i64 0), (.int .i64 0)])) (by kernel_rfl) rfl (by kernel_rfl) (by kernel_rfl)
theorem tok81 : TyOk E.P 81 ti81 := tyOkV (z := .nilFunc) (by kernel_rfl) rfl (by kernel_rfl) (by kernel_rfl)
theorem tok83 : TyOk E.P 83 ti83 := tyOkV (z := .nilFunc) (by kernel_rfl) rfl (by kernel_rfl) (by kernel_rfl)
theorem tok84 : TyOk E.P 84 ti84 := tyOkV (z := .nilFunc) (by kernel_rfl) rfl (by kernel_rfl) (by kernel_rfl)
theorem tok86 : TyOk E.P 86 ti86 := tyOkV (z := .nilFunc) (by kernel_rfl) rfl (by kernel_rfl) (by kernel_rfl)
theorem tok87 : TyOk E.P 87 ti87 := tyOkV (z := (.pointer none)) (by kernel_rfl) rfl (by kernel_rfl) (by kernel_rfl)
theorem tok88 : TyOk E.P 88 ti88 := tyOkV (z := (.agg #[(.pointer none), (.int .i64 0)])) (by kernel_rfl) rfl (by kernel_rfl) (by kernel_rfl)
theorem tok89 : TyOk E.P 89 ti89 := tyOkV (z := (.agg #[(.pointer none), (.int .i64 0)])) (by kernel_rfl) rfl (by kernel_rfl) (by kernel_rfl)
theorem tok90 : TyOk E.P 90 ti90 := tyOkV (z := .nilFunc) (by kernel_rfl) rfl (by kernel_rfl) (by kernel_rfl)
theorem tok91 : TyOk E.P 91 ti91 := tyOkV (z := .nilFunc) (by kernel_rfl) rfl (by kernel_rfl) (by kernel_rfl)
theorem tok93 : TyOk E.P 93 ti93 := tyOkV (z := .nilFunc) (by kernel_rfl) rfl (by kernel_rfl) (by kernel_rfl)
theorem tok94 : TyOk E.P 94 ti94 := tyOkV (z := .nilFunc) (by kernel_rfl) rfl (by kernel_rfl) (by kernel_rfl)
theorem tok95 : TyOk E.P 95 ti95 := tyOkV (z := .nilFunc) (by kernel_rfl) rfl (by kernel_rfl) (by kernel_rfl)
theorem tok96 : TyOk E.P 96 ti96 := tyOkV (z := .nilFunc) (by kernel_rfl) rfl (by kernel_rfl) (by kernel_rfl)
theorem tok97 : TyOk E.P 97 ti97 := tyOkV (z := .nilFunc) (by kernel_rfl) rfl (by kernel_rfl) (by kernel_rfl)
theorem tok98 : TyOk E.P 98 ti98 := tyOkV (z := .nilFunc) (by kernel_rfl) rfl (by kernel_rfl) (by kernel_rfl)
theorem tok99 : TyOk E.P 99 ti99 := tyOkV (z := .nilFunc) (by kernel_rfl) rfl (by kernel_rfl) (by kernel_rfl)
theorem tok100 : TyOk E.P 100 ti100 := tyOkV (z := .nilFunc) (by kernel_rfl) rfl (by kernel_rfl) (by kernel_rfl)
theorem tok101 : TyOk E.P 101 ti101 := tyOkV (z := .nilFunc) (by kernel_rfl) rfl (by kernel_rfl) (by kernel_rfl)
theorem tok102 : TyOk E.P 102 ti102 := tyOkV (z := .nilFunc) (by kernel_rfl) rfl (by kernel_rfl) (by kernel_rfl)
theorem tok103 : TyOk E.P 103 ti103 := tyOkV (z := .nilFunc) (by kernel_rfl) rfl (by kernel_rfl) (by kernel_rfl)
theorem tok104 : TyOk E.P 104 ti104 := tyOkV (z := .nilFunc) (by kernel_rfl) rfl (by kernel_rfl) (by kernel_rfl)
theorem tok105 : TyOk E.P 105 ti105 := tyOkV (z := .nilFunc) (by kernel_rfl) rfl (by kernel_rfl) (by kernel_rfl)
theorem tok106 : TyOk E.P 106 ti106 := tyOkV (z := .nilFunc) (by kernel_rfl) rfl (by kernel_rfl) (by kernel_rfl)
theorem tok107 : TyOk E.P 107 ti107 := tyOkV (z := .nilFunc) (by kernel_rfl) rfl (by kernel_rfl) (by kernel_rfl)
theorem tok108 : TyOk E.P 108 ti108 := tyOkV (z := .nilFunc) (by kernel_rfl) rfl (by kernel_rfl) (by kernel_rfl)
theorem tok109 : TyOk E.P 109 ti109 := tyOkV (z := .nilFunc) (by kernel_rfl) rfl (by kernel_rfl) (by kernel_rfl)
theorem tok110 : TyOk E.P 110 ti110 := tyOkV (z := .nilFunc) (by kernel_rfl) rfl (by kernel_rfl) (by kernel_rfl)
theorem tok111 : TyOk E.P 111 ti111 := tyOkV (z := .nilFunc) (by kernel_rfl) rfl (by kernel_rfl) (by kernel_rfl)
theorem tok112 : TyOk E.P 112 ti112 := tyOkV (z := .nilFunc) (by kernel_rfl) rfl (by kernel_rfl) (by kernel_rfl)
theorem tok113 : TyOk E.P 113 ti113 := tyOkV (z := .nilFunc) (by kernel_rfl) rfl (by kernel_rfl) (by kernel_rfl)
theorem tok114 : TyOk E.P 114 ti114 := tyOkV (z := .nilFunc) (by kernel_rfl) rfl (by kernel_rfl) (by kernel_rfl)
theorem tok115 : TyOk E.P 115 ti115 := tyOkV (z := .nilFunc) (by kernel_rfl) rfl (by kernel_rfl) (by kernel_rfl)
theorem tok116 : TyOk E.P 116 ti116 := tyOkV (z := .nilFunc) (by kernel_rfl) rfl (by kernel_rfl) (by kernel_rfl)
theorem tok117 : TyOk E.P 117 ti117 := tyOkV (z := .nilFunc) (by kernel_rfl) rfl (by kernel_rfl) (by kernel_rfl)
theorem tok118 : TyOk E.P 118 ti118 := tyOkV (z := .nilFunc) (by kernel_rfl) rfl (by kernel_rfl) (by kernel_rfl)
theorem tok119 : TyOk E.P 119 ti119 := tyOkV (z := .nilFunc) (by kernel_rfl) rfl (by kernel_rfl) (by kernel_rfl)
theorem tok120 : TyOk E.P 120 ti120 := tyOkV (z := .nilFunc) (by kernel_rfl) rfl (by kernel_rfl) (by kernel_rfl)
theorem tok121 : TyOk E.P 121 ti121 := tyOkV (z := (.slice none 0 0)) (by kernel_rfl) rfl (by kernel_rfl) (by kernel_rfl)
theorem tok122 : TyOk E.P 122 ti122 := tyOkV (z := .nilFunc) (by kernel_rfl) rfl (by kernel_rfl) (by kernel_rfl)
theorem tok123 : TyOk E.P 123 ti123 := tyOkV (z := .nilFunc) (by kernel_rfl) rfl (by kernel_rfl) (by kernel_rfl)
theorem tok124 : TyOk E.P 124 ti124 := tyOkV (z := .nilFunc) (by kernel_rfl) rfl (by kernel_rfl) (by kernel_rfl)
theorem tok125 : TyOk E.P 125 ti125 := tyOkV (z := .nilFunc) (by kernel_rfl) rfl (by kernel_rfl) (by kernel_rfl)
theorem tok126 : TyOk E.P 126 ti126 := tyOkV (z := .nilFunc) (by kernel_rfl) rfl (by kernel_rfl) (by kernel_rfl)
theorem tok127 : TyOk E.P 127 ti127 := tyOkV (z := .nilFunc) (by kernel_rfl) rfl (by kernel_rfl) (by kernel_rfl)
theorem tok128 : TyOk E.P 128 ti128 := tyOkV (z := (.pointer none)) (by kernel_rfl) rfl (by kernel_rfl) (by kernel_rfl)
theorem tok129 : TyOk E.P 129 ti129 := tyOkV (z := .nilFunc) (by kernel_rfl) rfl (by kernel_rfl) (by kernel_rfl)
theorem tok130 : TyOk E.P 130 ti130 := tyOkV (z := .nilFunc) (by kernel_rfl) rfl (by kernel_rfl) (by kernel_rfl)
theorem tok131 : TyOk E.P 131 ti131 := tyOkV (z := .nilFunc) (by kernel_rfl) rfl (by kernel_rfl) (by kernel_rfl)
theorem tok132 : TyOk E.P 132 ti132 := tyOkV (z := .nilFunc) (by kernel_rfl) rfl (by kernel_rfl) (by kernel_rfl)
theorem tok133 : TyOk E.P 133 ti133 := tyOkV (z := .nilFunc) (by kernel_rfl) rfl (by kernel_rfl) (by kernel_rfl)
theorem tok135 : TyOk E.P 135 ti135 := tyOkV (z := .nilFunc) (by kernel_rfl) rfl (by kernel_rfl) (by kernel_rfl)
theorem tok136 : TyOk E.P 136 ti136 := tyOkV (z := .nilFunc) (by kernel_rfl) rfl (by kernel_rfl) (by kernel_rfl)
theorem tok137 : TyOk E.P 137 ti137 := tyOkV (z := (.agg #[(.pointer none), (.int .i64 0)])) (by kernel_rfl) rfl (by kernel_rfl) (by kernel_rfl)
theorem tok138 : TyOk E.P 138 ti138 := tyOkV (z := (.agg #[(.pointer none), (.int .i64 0)])) (by kernel_rfl) rfl (by kernel_rfl) (by kernel_rfl)
theorem tok139 : TyOk E.P 139 ti139 := tyOkV (z := .nilFunc) (by kernel_rfl) rfl (by kernel_rfl) (by kernel_rfl)
theorem tok140 : TyOk E.P 140 ti140 := tyOkV (z := .nilFunc) (by kernel_rfl) rfl (by kernel_rfl) (by kernel_rfl)
theorem tok141 : TyOk E.P 141 ti141 := tyOkV (z := .nilFunc) (by kernel_rfl) rfl (by kernel_rfl) (by kernel_rfl)
theorem tok142 : TyOk E.P 142 ti142 := tyOkV (z := .nilFunc) (by kernel_rfl) rfl (by kernel_rfl) (by kernel_rfl)
theorem tok143 : TyOk E.P 143 ti143 := tyOkV (z := .nilFunc) (by kernel_rfl) rfl (by kernel_rfl) (by kernel_rfl)
theorem tok144 : TyOk E.P 144 ti144 := tyOkV (z := .nilFunc) (by kernel_rfl) rfl (by kernel_rfl) (by kernel_rfl)
theorem tok145 : TyOk E.P 145 ti145 := tyOkV (z := .nilFunc) (by kernel_rfl) rfl (by kernel_rfl) (by kernel_rfl)
theorem tok146 : TyOk E.P 146 ti146 := tyOkV (z := .nilFunc) (by kernel_rfl) rfl (by kernel_rfl) (by kernel_rfl)
theorem tok147 : TyOk E.P 147 ti147 := tyOkV (z := .nilFunc) (by kernel_rfl) rfl (by kernel_rfl) (by kernel_rfl)
theorem tok148 : TyOk E.P 148 ti148 := tyOkV (z := (.slice none 0 0)) (by kernel_rfl) rfl (by kernel_rfl) (by kernel_rfl)
theorem tok149 : TyOk E.P 149 ti149 := tyOkV (z := (.int .u64 0)) (by kernel_rfl) rfl (by kernel_rfl) (by kernel_rfl)
theorem tok150 : TyOk E.P 150 ti150 := tyOkV (z := (.int .u64 0)) (by kernel_rfl) rfl (by kernel_rfl) (by kernel_rfl)
theorem tok151 : TyOk E.P 151 ti151 := tyOkV (z := .nilFunc) (by kernel_rfl) rfl (by kernel_rfl) (by kernel_rfl)
theorem tok152 : TyOk E.P 152 ti152 := tyOkV (z := .nilFunc) (by kernel_rfl) rfl (by kernel_rfl) (by kernel_rfl)
theorem tok153 : TyOk E.P 153 ti153 := tyOkV (z := .nilFunc) (by kernel_rfl) rfl (by kernel_rfl) (by kernel_rfl)
theorem tok154 : TyOk E.P 154 ti154 := tyOkV (z := (.slice none 0 0)) (by kernel_rfl) rfl (by kernel_rfl) (by kernel_rfl)
theorem tok155 : TyOk E.P 155 ti155 := tyOkV (z := .nilFunc) (by kernel_rfl) rfl (by kernel_rfl) (by kernel_rfl)
theorem tok156 : TyOk E.P 156 ti156 := tyOkV (z := (.slice none 0 0)) (by kernel_rfl) rfl (by kernel_rfl) (by kernel_rfl)
theorem tok157 : TyOk E.P 157 ti157 := tyOkV (z := .nilFunc) (by kernel_rfl) rfl (by kernel_rfl) (by kernel_rfl)
theorem tok158 : TyOk E.P 158 ti158 := tyOkV (z := .nilFunc) (by kernel_rfl) rfl (by kernel_rfl) (by kernel_rfl)
theorem tok160 : TyOk E.P 160 ti160 := tyOkV (z := .nilFunc) (by kernel_rfl) rfl (by kernel_rfl) (by kernel_rfl)
theorem tok161 : TyOk E.P 161 ti161 := tyOkV (z := .nilFunc) (by kernel_rfl) rfl (by kernel_rfl) (by kernel_rfl)
theorem tok162 : TyOk E.P 162 ti162 := tyOkV (z := .nilFunc) (by kernel_rfl) rfl (by kernel_rfl) (by kernel_rfl)
theorem tok163 : TyOk E.P 163 ti163 := tyOkV (z := (.pointer none)) (by kernel_rfl) rfl (by kernel_rfl) (by kernel_rfl)
theorem tok164 : TyOk E.P 164 ti164 := tyOkV (z := .nilFunc) (by kernel_rfl) rfl (by kernel_rfl) (by kernel_rfl)
theorem tok165 : TyOk E.P 165 ti165 := tyOkV (z := (.pointer none)) (by kernel_rfl) rfl (by kernel_rfl) (by kernel_rfl)
theorem tok166 : TyOk E.P 166 ti166 := tyOkV (z := .nilFunc) (by kernel_rfl) rfl (by kernel_rfl) (by kernel_rfl)
theorem tok167 : TyOk E.P 167 ti167 := tyOkV (z := .nilFunc) (by kernel_rfl) rfl (by kernel_rfl) (by kernel_rfl)
theorem tok168 : TyOk E.P 168 ti168 := tyOkV (z := (.pointer none)) (by kernel_rfl) rfl (by kernel_rfl) (by kernel_rfl)
theorem tok169 : TyOk E.P 169 ti169 := tyOkV (z := .nilFunc) (by kernel_rfl) rfl (by kernel_rfl) (by kernel_rfl)
theorem tok170 : TyOk E.P 170 ti170 := tyOkV (z := .nilFunc) (by kernel_rfl) rfl (by kernel_rfl) (by kernel_rfl)
theorem tok171 : TyOk E.P 171 ti171 := tyOkV (z := .nilFunc) (by kernel_rfl) rfl (by kernel_rfl) (by kernel_rfl)
theorem tok172 : TyOk E.P 172 ti172 := tyOkV (z := .nilFunc) (by kernel_rfl) rfl (by kernel_rfl) (by kernel_rfl)
theorem tok173 : TyOk E.P 173 ti173 := tyOkV (z := .nilFunc) (by kernel_rfl) rfl (by kernel_rfl) (by kernel_rfl)
theorem tok174 : TyOk E.P 174 ti174 := tyOkV (z := (.int .u32 0)) (by kernel_rfl) rfl (by kernel_rfl) (by kernel_rfl)
theorem tok175 : TyOk E.P 175 ti175 := tyOkV (z := .nilFunc) (by kernel_rfl) rfl (by kernel_rfl) (by kernel_rfl)
theorem tok177 : TyOk E.P 177 ti177 := tyOkV (z := .nilFunc) (by kernel_rfl) rfl (by kernel_rfl) (by kernel_rfl)
theorem tok178 : TyOk E.P 178 ti178 := tyOkV (z := .nilFunc) (by kernel_rfl) rfl (by kernel_rfl) (by kernel_rfl)
theorem tok179 : TyOk E.P 179 ti179 := tyOkV (z := (.pointer none)) (by kernel_rfl) rfl (by kernel_rfl) (by kernel_rfl)
theorem tok180 : TyOk E.P 180 ti180 := tyOkV (z := .nilFunc) (by kernel_rfl) rfl (by kernel_rfl) (by kernel_rfl)
theorem tok181 : TyOk E.P 181 ti181 := tyOkV (z := .nilFunc) (by kernel_rfl) rfl (by kernel_rfl) (by kernel_rfl)
theorem tok182 : TyOk E.P 182 ti182 := tyOkV (z := (.slice none 0 0)) (by kernel_rfl) rfl (by kernel_rfl) (by kernel_rfl)
theorem tok183 : TyOk E.P 183 ti183 := tyOkV (z := .nilFunc) (by kernel_rfl) rfl (by kernel_rfl) (by kernel_rfl)
theorem tok184 : TyOk E.P 184 ti184 := tyOkV (z := .nilFunc) (by kernel_rfl) rfl (by kernel_rfl) (by kernel_rfl)
theorem tok185 : TyOk E.P 185 ti185 := tyOkV (z := .nilFunc) (by kernel_rfl) rfl (by kernel_rfl) (by kernel_rfl)
theorem tok186 : TyOk E.P 186 ti186 := tyOkV (z := (.slice none 0 0)) (by kernel_rfl) rfl (by kernel_rfl) (by kernel_rfl)
theorem tok187 : TyOk E.P 187 ti187 := tyOkV (z := .nilFunc) (by kernel_rfl) rfl (by kernel_rfl) (by kernel_rfl)
theorem tok188 : TyOk E.P 188 ti188 := tyOkV (z := (.slice none 0 0)) (by kernel_rfl) rfl (by kernel_rfl) (by kernel_rfl)
theorem tok190 : TyOk E.P 190 ti190 := tyOkV (z := .nilFunc) (by kernel_rfl) rfl (by kernel_rfl) (by kernel_rfl)
theorem tok191 : TyOk E.P 191 ti191 := tyOkV (z := .nilFunc) (by kernel_rfl) rfl (by kernel_rfl) (by kernel_rfl)
theorem tok192 : TyOk E.P 192 ti192 := tyOkV (z := .nilFunc) (by kernel_rfl) rfl (by kernel_rfl) (by kernel_rfl)
theorem tok193 : TyOk E.P 193 ti193 := tyOkV (z := .nilFunc) (by kernel_rfl) rfl (by kernel_rfl) (by kernel_rfl)
theorem tok195 : TyOk E.P 195 ti195 := tyOkV (z := .nilFunc) (by kernel_rfl) rfl (by kernel_rfl) (by kernel_rfl)
theorem tok196 : TyOk E.P 196 ti196 := tyOkV (z := .nilFunc) (by kernel_rfl) rfl (by kernel_rfl) (by kernel_rfl)
theorem tok205 : TyOk E.P 205 ti205 := tyOkV (z := (.pointer none)) (by kernel_rfl) rfl (by kernel_rfl) (by kernel_rfl)
theorem eOk : E.Ok := by
  intro t i h
  have h' : tyT t = some i := h
  unfold tyT at h'
  split at h' <;> first
    | (cases h'; first | exact tok1 | exact tok2 | exact tok3 | exact tok4 | exact tok5 | exact tok9 | exact tok12 | exact tok17 | exact tok21 | exact tok22 | exact tok23 | exact tok24 | exact tok25 | exact tok26 | exact tok27 | exact tok28 | exact tok29 | exact tok30 | exact tok31 | exact tok32 | exact tok33 | exact tok34 | exact tok35 | exact tok36 | exact tok37 | exact tok38 | exact tok40 | exact tok41 | exact tok42 | exact tok43 | exact tok44 | exact tok45 | exact tok46 | exact tok47 | exact tok48 | exact tok49 | exact tok50 | exact tok51 | exact tok52 | exact tok53 | exact tok54 | exact tok55 | exact tok56 | exact tok57 | exact tok58 | exact tok59 | exact tok60 | exact tok61 | exact tok62 | exact tok63 | exact tok64 | exact tok65 | exact tok66 | exact tok67 | exact tok68 | exact tok69 | exact tok70 | exact tok71 | exact tok72 | exact tok73 | exact tok75 | exact tok77 | exact tok78 | exact tok79 | exact tok80 | exact tok81 | exact tok83 | exact tok84 | exact tok86 | exact tok87 | exact tok88 | exact tok89 | exact tok90 | exact tok91 | exact tok93 | exact tok94 | exact tok95 | exact tok96 | exact tok97 | exact tok98 | exact tok99 | exact tok100 | exact tok101 | exact tok102 | exact tok103 | exact tok104 | exact tok105 | exact tok106 | exact tok107 | exact tok108 | exact tok109 | exact tok110 | exact tok111 | exact tok112 | exact tok113 | exact tok114 | exact tok115 | exact tok116 | exact tok117 | exact tok118 | exact tok119 | exact tok120 | exact tok121 | exact tok122 | exact tok123 | exact tok124 | exact tok125 | exact tok126 | exact tok127 | exact tok128 | exact tok129 | exact tok130 | exact tok131 | exact tok132 | exact tok133 | exact tok135 | exact tok136 | exact tok137 | exact tok138 | exact tok139 | exact tok140 | exact tok141 | exact tok142 | exact tok143 | exact tok144 | exact tok145 | exact tok146 | exact tok147 | exact tok148 | exact tok149 | exact tok150 | exact tok151 | exact tok152 | exact tok153 | exact tok154 | exact tok155 | exact tok156 | exact tok157 | exact tok158 | exact tok160 | exact tok161 | exact tok162 | exact tok163 | exact tok164 | exact tok165 | exact tok166 | exact tok167 | exact tok168 | exact tok169 | exact tok170 | exact tok171 | exact tok172 | exact tok173 | exact tok174 | exact tok175 | exact tok177 | exact tok178 | exact tok179 | exact tok180 | exact tok181 | exact tok182 | exact tok183 | exact tok184 | exact tok185 | exact tok186 | exact tok187 | exact tok188 | exact tok190 | exact tok191 | exact tok192 | exact tok193 | exact tok195 | exact tok196 | exact tok205)
    | cases h'
theorem eEq : E.EqOk := by
  intro t ks h
  have h' : eqT t = some ks := h
  unfold eqT at h'
  split at h' <;> first
    | (cases h'; exact ⟨by kernel_rfl, by kernel_rfl, by kernel_rfl⟩)
    | cases h'
theorem eGood : Good E := ⟨eOk, eEq, by kernel_rfl⟩
structure GStamp where
  Time : Int
  Site : Int
instance : Inhabited GStamp := ⟨⟨default, default⟩⟩
structure GOp where
  Stamp : GStamp
  Kind : Int
  Node : Int
  Parent : Int
  Name : List UInt8
  Key : List UInt8
  Value : List UInt8
instance : Inhabited GOp := ⟨⟨default, default, default, default, default, default, default⟩⟩
structure GEpoch where
  Number : Int
  States : Vector (Int) 8
  Seals : Vector (Int) 8
  Sponsor : Vector (Int) 8
instance : Inhabited GEpoch := ⟨⟨default, default, default, default⟩⟩
structure GPart where
  Snap : Int
  Index : Int
  Many : Int
  Data : List (Int)
instance : Inhabited GPart := ⟨⟨default, default, default, default⟩⟩
structure GEntry where
  Kind : Int
  Session : Int
  Request : Int
  Op : GOp
  Origin : Int
  Seq : Int
  Ops : List (GOp)
  Epoch : GEpoch
  From : Int
  Vector_ : Vector (Int) 8
  Clock : Int
  Part : GPart
  Site : Int
  Sponsor : Int
  Length : Int
instance : Inhabited GEntry := ⟨⟨default, default, default, default, default, default, default, default, default, default, default, default, default, default, default⟩⟩
structure GAddr where
  Group : Int
  Replica : Int
instance : Inhabited GAddr := ⟨⟨default, default⟩⟩
structure GBallot where
  Round : Int
  Replica : Int
instance : Inhabited GBallot := ⟨⟨default, default⟩⟩
structure GSlotted where
  Slot : Int
  Ballot : GBallot
  Entry : GEntry
instance : Inhabited GSlotted := ⟨⟨default, default, default⟩⟩
structure GMsg where
  Kind : Int
  From : GAddr
  To : GAddr
  Ballot : GBallot
  Slot : Int
  List_ : List (GSlotted)
  Entry : GEntry
  Number : Int
  Vector_ : Vector (Int) 8
  Clock : Int
  Origin : Int
  Ops : List (GOp)
  Epoch : GEpoch
  Part : GPart
instance : Inhabited GMsg := ⟨⟨default, default, default, default, default, default, default, default, default, default, default, default, default, default⟩⟩
structure Gwire_Writer where
  made : Bool
  b : List (Int)
instance : Inhabited Gwire_Writer := ⟨⟨default, default⟩⟩
@[reducible] def τ : Nat → Type
  | 2 => Int
  | 3 => Int
  | 4 => Bool
  | 5 => Int
  | 9 => List UInt8
  | 12 => Int
  | 21 => Int
  | 22 => GStamp
  | 23 => GStamp
  | 24 => GOp
  | 25 => GOp
  | 26 => List (GOp)
  | 27 => Vector (Int) 8
  | 28 => Vector (Int) 8
  | 29 => Vector (Int) 8
  | 30 => GEpoch
  | 31 => GEpoch
  | 32 => List (Int)
  | 33 => GPart
  | 34 => GPart
  | 35 => GEntry
  | 36 => GEntry
  | 38 => Int
  | 44 => GAddr
  | 45 => GAddr
  | 46 => GBallot
  | 47 => GBallot
  | 48 => List (GSlotted)
  | 49 => GMsg
  | 50 => GMsg
  | 67 => Gwire_Writer
  | 68 => Gwire_Writer
  | 72 => Gwire_Writer
  | 79 => GSlotted
  | 80 => GSlotted
  | 121 => List (Int)
  | 148 => List (List (Int))
  | 149 => Int
  | 150 => Int
  | 154 => List (Int)
  | 156 => List (GAddr)
  | 174 => Int
  | 182 => List (List UInt8)
  | _ => Unit
def cel2 (x : Int) : List AV := [.v (.int .i64 x)]
def enc2 (x : Int) : TV τ := .int .i64 x
def dec2 (x : TV τ) : Option (Int) := dInt .i64 x
def beq2 (x y : Int) : Bool := (x == y)
def cel3 (x : Int) : List AV := [.v (.int .i64 x)]
def enc3 (x : Int) : TV τ := .int .i64 x
def dec3 (x : TV τ) : Option (Int) := dInt .i64 x
def beq3 (x y : Int) : Bool := (x == y)
def cel4 (x : Bool) : List AV := [.v (.bool x)]
def enc4 (x : Bool) : TV τ := .bool x
def dec4 (x : TV τ) : Option (Bool) := dBool x
def beq4 (x y : Bool) : Bool := (x == y)
def cel5 (x : Int) : List AV := [.v (.int .u8 x)]
def enc5 (x : Int) : TV τ := .int .u8 x
def dec5 (x : TV τ) : Option (Int) := dInt .u8 x
def beq5 (x y : Int) : Bool := (x == y)
def cel9 (x : List UInt8) : List AV := [.v (.string ⟨⟨x⟩⟩)]
def enc9 (x : List UInt8) : TV τ := .str x
def dec9 (x : TV τ) : Option (List UInt8) := dStr x
def beq9 (x y : List UInt8) : Bool := (x == y)
def cel12 (x : Int) : List AV := [.v (.int .u64 x)]
def enc12 (x : Int) : TV τ := .int .u64 x
def dec12 (x : TV τ) : Option (Int) := dInt .u64 x
def beq12 (x y : Int) : Bool := (x == y)
def cel21 (x : Int) : List AV := [.v (.int .i32 x)]
def enc21 (x : Int) : TV τ := .int .i32 x
def dec21 (x : TV τ) : Option (Int) := dInt .i32 x
def beq21 (x y : Int) : Bool := (x == y)
def cel22 (x : GStamp) : List AV := (cel2 x.Time ++ (cel3 x.Site ++ []))
def enc22 (x : GStamp) : TV τ := .agg [enc2 x.Time, enc3 x.Site]
def dec22 (x : TV τ) : Option (GStamp) := (match x with | .agg [x0, x1] => (match dec2 x0 with | some a0 => (match dec3 x1 with | some a1 => some ⟨a0, a1⟩ | none => none) | none => none) | _ => none)
def beq22 (x y : GStamp) : Bool := (beq2 x.Time y.Time && (beq3 x.Site y.Site && true))
def cel23 (x : GStamp) : List AV := (cel2 x.Time ++ (cel3 x.Site ++ []))
def enc23 (x : GStamp) : TV τ := .agg [enc2 x.Time, enc3 x.Site]
def dec23 (x : TV τ) : Option (GStamp) := (match x with | .agg [x0, x1] => (match dec2 x0 with | some a0 => (match dec3 x1 with | some a1 => some ⟨a0, a1⟩ | none => none) | none => none) | _ => none)
def beq23 (x y : GStamp) : Bool := (beq2 x.Time y.Time && (beq3 x.Site y.Site && true))
def cel24 (x : GOp) : List AV := (cel23 x.Stamp ++ (cel3 x.Kind ++ (cel2 x.Node ++ (cel2 x.Parent ++ (cel9 x.Name ++ (cel9 x.Key ++ (cel9 x.Value ++ [])))))))
def enc24 (x : GOp) : TV τ := .agg [enc23 x.Stamp, enc3 x.Kind, enc2 x.Node, enc2 x.Parent, enc9 x.Name, enc9 x.Key, enc9 x.Value]
def dec24 (x : TV τ) : Option (GOp) := (match x with | .agg [x0, x1, x2, x3, x4, x5, x6] => (match dec23 x0 with | some a0 => (match dec3 x1 with | some a1 => (match dec2 x2 with | some a2 => (match dec2 x3 with | some a3 => (match dec9 x4 with | some a4 => (match dec9 x5 with | some a5 => (match dec9 x6 with | some a6 => some ⟨a0, a1, a2, a3, a4, a5, a6⟩ | none => none) | none => none) | none => none) | none => none) | none => none) | none => none) | none => none) | _ => none)
def beq24 (x y : GOp) : Bool := (beq23 x.Stamp y.Stamp && (beq3 x.Kind y.Kind && (beq2 x.Node y.Node && (beq2 x.Parent y.Parent && (beq9 x.Name y.Name && (beq9 x.Key y.Key && (beq9 x.Value y.Value && true)))))))
def cel25 (x : GOp) : List AV := (cel23 x.Stamp ++ (cel3 x.Kind ++ (cel2 x.Node ++ (cel2 x.Parent ++ (cel9 x.Name ++ (cel9 x.Key ++ (cel9 x.Value ++ [])))))))
def enc25 (x : GOp) : TV τ := .agg [enc23 x.Stamp, enc3 x.Kind, enc2 x.Node, enc2 x.Parent, enc9 x.Name, enc9 x.Key, enc9 x.Value]
def dec25 (x : TV τ) : Option (GOp) := (match x with | .agg [x0, x1, x2, x3, x4, x5, x6] => (match dec23 x0 with | some a0 => (match dec3 x1 with | some a1 => (match dec2 x2 with | some a2 => (match dec2 x3 with | some a3 => (match dec9 x4 with | some a4 => (match dec9 x5 with | some a5 => (match dec9 x6 with | some a6 => some ⟨a0, a1, a2, a3, a4, a5, a6⟩ | none => none) | none => none) | none => none) | none => none) | none => none) | none => none) | none => none) | _ => none)
def beq25 (x y : GOp) : Bool := (beq23 x.Stamp y.Stamp && (beq3 x.Kind y.Kind && (beq2 x.Node y.Node && (beq2 x.Parent y.Parent && (beq9 x.Name y.Name && (beq9 x.Key y.Key && (beq9 x.Value y.Value && true)))))))
def cel26 (x : List (GOp)) : List AV := [.asl 8 (x.map cel25)]
def enc26 (x : List (GOp)) : TV τ := .sl 25 x .any
def dec26 (x : TV τ) : Option (List (GOp)) := dSl 25 x
def cel27 (x : Vector (Int) 8) : List AV := x.toList.flatMap cel3
def enc27 (x : Vector (Int) 8) : TV τ := .arr 3 8 x
def dec27 (x : TV τ) : Option (Vector (Int) 8) := dArr 3 8 x
def beq27 (x y : Vector (Int) 8) : Bool := vbeq beq3 x y
def cel28 (x : Vector (Int) 8) : List AV := x.toList.flatMap cel2
def enc28 (x : Vector (Int) 8) : TV τ := .arr 2 8 x
def dec28 (x : TV τ) : Option (Vector (Int) 8) := dArr 2 8 x
def beq28 (x y : Vector (Int) 8) : Bool := vbeq beq2 x y
def cel29 (x : Vector (Int) 8) : List AV := x.toList.flatMap cel2
def enc29 (x : Vector (Int) 8) : TV τ := .arr 2 8 x
def dec29 (x : TV τ) : Option (Vector (Int) 8) := dArr 2 8 x
def beq29 (x y : Vector (Int) 8) : Bool := vbeq beq2 x y
def cel30 (x : GEpoch) : List AV := (cel2 x.Number ++ (cel27 x.States ++ (cel29 x.Seals ++ (cel27 x.Sponsor ++ []))))
def enc30 (x : GEpoch) : TV τ := .agg [enc2 x.Number, enc27 x.States, enc29 x.Seals, enc27 x.Sponsor]
def dec30 (x : TV τ) : Option (GEpoch) := (match x with | .agg [x0, x1, x2, x3] => (match dec2 x0 with | some a0 => (match dec27 x1 with | some a1 => (match dec29 x2 with | some a2 => (match dec27 x3 with | some a3 => some ⟨a0, a1, a2, a3⟩ | none => none) | none => none) | none => none) | none => none) | _ => none)
def beq30 (x y : GEpoch) : Bool := (beq2 x.Number y.Number && (beq27 x.States y.States && (beq29 x.Seals y.Seals && (beq27 x.Sponsor y.Sponsor && true))))
def cel31 (x : GEpoch) : List AV := (cel2 x.Number ++ (cel27 x.States ++ (cel29 x.Seals ++ (cel27 x.Sponsor ++ []))))
def enc31 (x : GEpoch) : TV τ := .agg [enc2 x.Number, enc27 x.States, enc29 x.Seals, enc27 x.Sponsor]
def dec31 (x : TV τ) : Option (GEpoch) := (match x with | .agg [x0, x1, x2, x3] => (match dec2 x0 with | some a0 => (match dec27 x1 with | some a1 => (match dec29 x2 with | some a2 => (match dec27 x3 with | some a3 => some ⟨a0, a1, a2, a3⟩ | none => none) | none => none) | none => none) | none => none) | _ => none)
def beq31 (x y : GEpoch) : Bool := (beq2 x.Number y.Number && (beq27 x.States y.States && (beq29 x.Seals y.Seals && (beq27 x.Sponsor y.Sponsor && true))))
def cel32 (x : List (Int)) : List AV := [.asl 1 (x.map cel5)]
def enc32 (x : List (Int)) : TV τ := .sl 5 x .any
def dec32 (x : TV τ) : Option (List (Int)) := dSl 5 x
def cel33 (x : GPart) : List AV := (cel2 x.Snap ++ (cel3 x.Index ++ (cel3 x.Many ++ (cel32 x.Data ++ []))))
def enc33 (x : GPart) : TV τ := .agg [enc2 x.Snap, enc3 x.Index, enc3 x.Many, enc32 x.Data]
def dec33 (x : TV τ) : Option (GPart) := (match x with | .agg [x0, x1, x2, x3] => (match dec2 x0 with | some a0 => (match dec3 x1 with | some a1 => (match dec3 x2 with | some a2 => (match dec32 x3 with | some a3 => some ⟨a0, a1, a2, a3⟩ | none => none) | none => none) | none => none) | none => none) | _ => none)
def cel34 (x : GPart) : List AV := (cel2 x.Snap ++ (cel3 x.Index ++ (cel3 x.Many ++ (cel32 x.Data ++ []))))
def enc34 (x : GPart) : TV τ := .agg [enc2 x.Snap, enc3 x.Index, enc3 x.Many, enc32 x.Data]
def dec34 (x : TV τ) : Option (GPart) := (match x with | .agg [x0, x1, x2, x3] => (match dec2 x0 with | some a0 => (match dec3 x1 with | some a1 => (match dec3 x2 with | some a2 => (match dec32 x3 with | some a3 => some ⟨a0, a1, a2, a3⟩ | none => none) | none => none) | none => none) | none => none) | _ => none)
def cel35 (x : GEntry) : List AV := (cel3 x.Kind ++ (cel2 x.Session ++ (cel2 x.Request ++ (cel25 x.Op ++ (cel3 x.Origin ++ (cel2 x.Seq ++ (cel26 x.Ops ++ (cel31 x.Epoch ++ (cel3 x.From ++ (cel29 x.Vector_ ++ (cel2 x.Clock ++ (cel34 x.Part ++ (cel3 x.Site ++ (cel3 x.Sponsor ++ (cel2 x.Length ++ [])))))))))))))))
def enc35 (x : GEntry) : TV τ := .agg [enc3 x.Kind, enc2 x.Session, enc2 x.Request, enc25 x.Op, enc3 x.Origin, enc2 x.Seq, enc26 x.Ops, enc31 x.Epoch, enc3 x.From, enc29 x.Vector_, enc2 x.Clock, enc34 x.Part, enc3 x.Site, enc3 x.Sponsor, enc2 x.Length]
def dec35 (x : TV τ) : Option (GEntry) := (match x with | .agg [x0, x1, x2, x3, x4, x5, x6, x7, x8, x9, x10, x11, x12, x13, x14] => (match dec3 x0 with | some a0 => (match dec2 x1 with | some a1 => (match dec2 x2 with | some a2 => (match dec25 x3 with | some a3 => (match dec3 x4 with | some a4 => (match dec2 x5 with | some a5 => (match dec26 x6 with | some a6 => (match dec31 x7 with | some a7 => (match dec3 x8 with | some a8 => (match dec29 x9 with | some a9 => (match dec2 x10 with | some a10 => (match dec34 x11 with | some a11 => (match dec3 x12 with | some a12 => (match dec3 x13 with | some a13 => (match dec2 x14 with | some a14 => some ⟨a0, a1, a2, a3, a4, a5, a6, a7, a8, a9, a10, a11, a12, a13, a14⟩ | none => none) | none => none) | none => none) | none => none) | none => none) | none => none) | none => none) | none => none) | none => none) | none => none) | none => none) | none => none) | none => none) | none => none) | none => none) | _ => none)
def cel36 (x : GEntry) : List AV := (cel3 x.Kind ++ (cel2 x.Session ++ (cel2 x.Request ++ (cel25 x.Op ++ (cel3 x.Origin ++ (cel2 x.Seq ++ (cel26 x.Ops ++ (cel31 x.Epoch ++ (cel3 x.From ++ (cel29 x.Vector_ ++ (cel2 x.Clock ++ (cel34 x.Part ++ (cel3 x.Site ++ (cel3 x.Sponsor ++ (cel2 x.Length ++ [])))))))))))))))
def enc36 (x : GEntry) : TV τ := .agg [enc3 x.Kind, enc2 x.Session, enc2 x.Request, enc25 x.Op, enc3 x.Origin, enc2 x.Seq, enc26 x.Ops, enc31 x.Epoch, enc3 x.From, enc29 x.Vector_, enc2 x.Clock, enc34 x.Part, enc3 x.Site, enc3 x.Sponsor, enc2 x.Length]
def dec36 (x : TV τ) : Option (GEntry) := (match x with | .agg [x0, x1, x2, x3, x4, x5, x6, x7, x8, x9, x10, x11, x12, x13, x14] => (match dec3 x0 with | some a0 => (match dec2 x1 with | some a1 => (match dec2 x2 with | some a2 => (match dec25 x3 with | some a3 => (match dec3 x4 with | some a4 => (match dec2 x5 with | some a5 => (match dec26 x6 with | some a6 => (match dec31 x7 with | some a7 => (match dec3 x8 with | some a8 => (match dec29 x9 with | some a9 => (match dec2 x10 with | some a10 => (match dec34 x11 with | some a11 => (match dec3 x12 with | some a12 => (match dec3 x13 with | some a13 => (match dec2 x14 with | some a14 => some ⟨a0, a1, a2, a3, a4, a5, a6, a7, a8, a9, a10, a11, a12, a13, a14⟩ | none => none) | none => none) | none => none) | none => none) | none => none) | none => none) | none => none) | none => none) | none => none) | none => none) | none => none) | none => none) | none => none) | none => none) | none => none) | _ => none)
def cel38 (x : Int) : List AV := [.v (.int .i64 x)]
def enc38 (x : Int) : TV τ := .int .i64 x
def dec38 (x : TV τ) : Option (Int) := dInt .i64 x
def beq38 (x y : Int) : Bool := (x == y)
def cel44 (x : GAddr) : List AV := (cel3 x.Group ++ (cel3 x.Replica ++ []))
def enc44 (x : GAddr) : TV τ := .agg [enc3 x.Group, enc3 x.Replica]
def dec44 (x : TV τ) : Option (GAddr) := (match x with | .agg [x0, x1] => (match dec3 x0 with | some a0 => (match dec3 x1 with | some a1 => some ⟨a0, a1⟩ | none => none) | none => none) | _ => none)
def beq44 (x y : GAddr) : Bool := (beq3 x.Group y.Group && (beq3 x.Replica y.Replica && true))
def cel45 (x : GAddr) : List AV := (cel3 x.Group ++ (cel3 x.Replica ++ []))
def enc45 (x : GAddr) : TV τ := .agg [enc3 x.Group, enc3 x.Replica]
def dec45 (x : TV τ) : Option (GAddr) := (match x with | .agg [x0, x1] => (match dec3 x0 with | some a0 => (match dec3 x1 with | some a1 => some ⟨a0, a1⟩ | none => none) | none => none) | _ => none)
def beq45 (x y : GAddr) : Bool := (beq3 x.Group y.Group && (beq3 x.Replica y.Replica && true))
def cel46 (x : GBallot) : List AV := (cel2 x.Round ++ (cel3 x.Replica ++ []))
def enc46 (x : GBallot) : TV τ := .agg [enc2 x.Round, enc3 x.Replica]
def dec46 (x : TV τ) : Option (GBallot) := (match x with | .agg [x0, x1] => (match dec2 x0 with | some a0 => (match dec3 x1 with | some a1 => some ⟨a0, a1⟩ | none => none) | none => none) | _ => none)
def beq46 (x y : GBallot) : Bool := (beq2 x.Round y.Round && (beq3 x.Replica y.Replica && true))
def cel47 (x : GBallot) : List AV := (cel2 x.Round ++ (cel3 x.Replica ++ []))
def enc47 (x : GBallot) : TV τ := .agg [enc2 x.Round, enc3 x.Replica]
def dec47 (x : TV τ) : Option (GBallot) := (match x with | .agg [x0, x1] => (match dec2 x0 with | some a0 => (match dec3 x1 with | some a1 => some ⟨a0, a1⟩ | none => none) | none => none) | _ => none)
def beq47 (x y : GBallot) : Bool := (beq2 x.Round y.Round && (beq3 x.Replica y.Replica && true))
def cel80 (x : GSlotted) : List AV := (cel2 x.Slot ++ (cel47 x.Ballot ++ (cel36 x.Entry ++ [])))
def enc80 (x : GSlotted) : TV τ := .agg [enc2 x.Slot, enc47 x.Ballot, enc36 x.Entry]
def dec80 (x : TV τ) : Option (GSlotted) := (match x with | .agg [x0, x1, x2] => (match dec2 x0 with | some a0 => (match dec47 x1 with | some a1 => (match dec36 x2 with | some a2 => some ⟨a0, a1, a2⟩ | none => none) | none => none) | none => none) | _ => none)
def cel48 (x : List (GSlotted)) : List AV := [.asl 59 (x.map cel80)]
def enc48 (x : List (GSlotted)) : TV τ := .sl 80 x .any
def dec48 (x : TV τ) : Option (List (GSlotted)) := dSl 80 x
def cel49 (x : GMsg) : List AV := (cel3 x.Kind ++ (cel45 x.From ++ (cel45 x.To ++ (cel47 x.Ballot ++ (cel2 x.Slot ++ (cel48 x.List_ ++ (cel36 x.Entry ++ (cel2 x.Number ++ (cel29 x.Vector_ ++ (cel2 x.Clock ++ (cel3 x.Origin ++ (cel26 x.Ops ++ (cel31 x.Epoch ++ (cel34 x.Part ++ []))))))))))))))
def enc49 (x : GMsg) : TV τ := .agg [enc3 x.Kind, enc45 x.From, enc45 x.To, enc47 x.Ballot, enc2 x.Slot, enc48 x.List_, enc36 x.Entry, enc2 x.Number, enc29 x.Vector_, enc2 x.Clock, enc3 x.Origin, enc26 x.Ops, enc31 x.Epoch, enc34 x.Part]
def dec49 (x : TV τ) : Option (GMsg) := (match x with | .agg [x0, x1, x2, x3, x4, x5, x6, x7, x8, x9, x10, x11, x12, x13] => (match dec3 x0 with | some a0 => (match dec45 x1 with | some a1 => (match dec45 x2 with | some a2 => (match dec47 x3 with | some a3 => (match dec2 x4 with | some a4 => (match dec48 x5 with | some a5 => (match dec36 x6 with | some a6 => (match dec2 x7 with | some a7 => (match dec29 x8 with | some a8 => (match dec2 x9 with | some a9 => (match dec3 x10 with | some a10 => (match dec26 x11 with | some a11 => (match dec31 x12 with | some a12 => (match dec34 x13 with | some a13 => some ⟨a0, a1, a2, a3, a4, a5, a6, a7, a8, a9, a10, a11, a12, a13⟩ | none => none) | none => none) | none => none) | none => none) | none => none) | none => none) | none => none) | none => none) | none => none) | none => none) | none => none) | none => none) | none => none) | none => none) | _ => none)
def cel50 (x : GMsg) : List AV := (cel3 x.Kind ++ (cel45 x.From ++ (cel45 x.To ++ (cel47 x.Ballot ++ (cel2 x.Slot ++ (cel48 x.List_ ++ (cel36 x.Entry ++ (cel2 x.Number ++ (cel29 x.Vector_ ++ (cel2 x.Clock ++ (cel3 x.Origin ++ (cel26 x.Ops ++ (cel31 x.Epoch ++ (cel34 x.Part ++ []))))))))))))))
def enc50 (x : GMsg) : TV τ := .agg [enc3 x.Kind, enc45 x.From, enc45 x.To, enc47 x.Ballot, enc2 x.Slot, enc48 x.List_, enc36 x.Entry, enc2 x.Number, enc29 x.Vector_, enc2 x.Clock, enc3 x.Origin, enc26 x.Ops, enc31 x.Epoch, enc34 x.Part]
def dec50 (x : TV τ) : Option (GMsg) := (match x with | .agg [x0, x1, x2, x3, x4, x5, x6, x7, x8, x9, x10, x11, x12, x13] => (match dec3 x0 with | some a0 => (match dec45 x1 with | some a1 => (match dec45 x2 with | some a2 => (match dec47 x3 with | some a3 => (match dec2 x4 with | some a4 => (match dec48 x5 with | some a5 => (match dec36 x6 with | some a6 => (match dec2 x7 with | some a7 => (match dec29 x8 with | some a8 => (match dec2 x9 with | some a9 => (match dec3 x10 with | some a10 => (match dec26 x11 with | some a11 => (match dec31 x12 with | some a12 => (match dec34 x13 with | some a13 => some ⟨a0, a1, a2, a3, a4, a5, a6, a7, a8, a9, a10, a11, a12, a13⟩ | none => none) | none => none) | none => none) | none => none) | none => none) | none => none) | none => none) | none => none) | none => none) | none => none) | none => none) | none => none) | none => none) | none => none) | _ => none)
def cel67 (x : Gwire_Writer) : List AV := (cel4 x.made ++ (cel32 x.b ++ []))
def enc67 (x : Gwire_Writer) : TV τ := .agg [enc4 x.made, enc32 x.b]
def dec67 (x : TV τ) : Option (Gwire_Writer) := (match x with | .agg [x0, x1] => (match dec4 x0 with | some a0 => (match dec32 x1 with | some a1 => some ⟨a0, a1⟩ | none => none) | none => none) | _ => none)
def cel68 (x : Gwire_Writer) : List AV := (cel4 x.made ++ (cel32 x.b ++ []))
def enc68 (x : Gwire_Writer) : TV τ := .agg [enc4 x.made, enc32 x.b]
def dec68 (x : TV τ) : Option (Gwire_Writer) := (match x with | .agg [x0, x1] => (match dec4 x0 with | some a0 => (match dec32 x1 with | some a1 => some ⟨a0, a1⟩ | none => none) | none => none) | _ => none)
def cel72 (x : Gwire_Writer) : List AV := (cel4 x.made ++ (cel32 x.b ++ []))
def enc72 (x : Gwire_Writer) : TV τ := .agg [enc4 x.made, enc32 x.b]
def dec72 (x : TV τ) : Option (Gwire_Writer) := (match x with | .agg [x0, x1] => (match dec4 x0 with | some a0 => (match dec32 x1 with | some a1 => some ⟨a0, a1⟩ | none => none) | none => none) | _ => none)
def cel79 (x : GSlotted) : List AV := (cel2 x.Slot ++ (cel47 x.Ballot ++ (cel36 x.Entry ++ [])))
def enc79 (x : GSlotted) : TV τ := .agg [enc2 x.Slot, enc47 x.Ballot, enc36 x.Entry]
def dec79 (x : TV τ) : Option (GSlotted) := (match x with | .agg [x0, x1, x2] => (match dec2 x0 with | some a0 => (match dec47 x1 with | some a1 => (match dec36 x2 with | some a2 => some ⟨a0, a1, a2⟩ | none => none) | none => none) | none => none) | _ => none)
def cel121 (x : List (Int)) : List AV := [.asl 1 (x.map cel2)]
def enc121 (x : List (Int)) : TV τ := .sl 2 x .any
def dec121 (x : TV τ) : Option (List (Int)) := dSl 2 x
def cel148 (x : List (List (Int))) : List AV := [.asl 1 (x.map cel32)]
def enc148 (x : List (List (Int))) : TV τ := .sl 32 x .any
def dec148 (x : TV τ) : Option (List (List (Int))) := dSl 32 x
def cel149 (x : Int) : List AV := [.v (.int .u64 x)]
def enc149 (x : Int) : TV τ := .int .u64 x
def dec149 (x : TV τ) : Option (Int) := dInt .u64 x
def beq149 (x y : Int) : Bool := (x == y)
def cel150 (x : Int) : List AV := [.v (.int .u64 x)]
def enc150 (x : Int) : TV τ := .int .u64 x
def dec150 (x : TV τ) : Option (Int) := dInt .u64 x
def beq150 (x y : Int) : Bool := (x == y)
def cel154 (x : List (Int)) : List AV := [.asl 1 (x.map cel3)]
def enc154 (x : List (Int)) : TV τ := .sl 3 x .any
def dec154 (x : TV τ) : Option (List (Int)) := dSl 3 x
def cel156 (x : List (GAddr)) : List AV := [.asl 2 (x.map cel45)]
def enc156 (x : List (GAddr)) : TV τ := .sl 45 x .any
def dec156 (x : TV τ) : Option (List (GAddr)) := dSl 45 x
def cel174 (x : Int) : List AV := [.v (.int .u32 x)]
def enc174 (x : Int) : TV τ := .int .u32 x
def dec174 (x : TV τ) : Option (Int) := dInt .u32 x
def beq174 (x y : Int) : Bool := (x == y)
def cel182 (x : List (List UInt8)) : List AV := [.asl 1 (x.map cel9)]
def enc182 (x : List (List UInt8)) : TV τ := .sl 9 x .any
def dec182 (x : TV τ) : Option (List (List UInt8)) := dSl 9 x
def celT : (t : Nat) → τ t → List AV
  | 2 => cel2
  | 3 => cel3
  | 4 => cel4
  | 5 => cel5
  | 9 => cel9
  | 12 => cel12
  | 21 => cel21
  | 22 => cel22
  | 23 => cel23
  | 24 => cel24
  | 25 => cel25
  | 26 => cel26
  | 27 => cel27
  | 28 => cel28
  | 29 => cel29
  | 30 => cel30
  | 31 => cel31
  | 32 => cel32
  | 33 => cel33
  | 34 => cel34
  | 35 => cel35
  | 36 => cel36
  | 38 => cel38
  | 44 => cel44
  | 45 => cel45
  | 46 => cel46
  | 47 => cel47
  | 48 => cel48
  | 49 => cel49
  | 50 => cel50
  | 67 => cel67
  | 68 => cel68
  | 72 => cel72
  | 79 => cel79
  | 80 => cel80
  | 121 => cel121
  | 148 => cel148
  | 149 => cel149
  | 150 => cel150
  | 154 => cel154
  | 156 => cel156
  | 174 => cel174
  | 182 => cel182
  | _ => fun _ => []
def encT : (t : Nat) → τ t → TV τ
  | 2 => enc2
  | 3 => enc3
  | 4 => enc4
  | 5 => enc5
  | 9 => enc9
  | 12 => enc12
  | 21 => enc21
  | 22 => enc22
  | 23 => enc23
  | 24 => enc24
  | 25 => enc25
  | 26 => enc26
  | 27 => enc27
  | 28 => enc28
  | 29 => enc29
  | 30 => enc30
  | 31 => enc31
  | 32 => enc32
  | 33 => enc33
  | 34 => enc34
  | 35 => enc35
  | 36 => enc36
  | 38 => enc38
  | 44 => enc44
  | 45 => enc45
  | 46 => enc46
  | 47 => enc47
  | 48 => enc48
  | 49 => enc49
  | 50 => enc50
  | 67 => enc67
  | 68 => enc68
  | 72 => enc72
  | 79 => enc79
  | 80 => enc80
  | 121 => enc121
  | 148 => enc148
  | 149 => enc149
  | 150 => enc150
  | 154 => enc154
  | 156 => enc156
  | 174 => enc174
  | 182 => enc182
  | _ => fun _ => .agg []
def decT : (t : Nat) → TV τ → Option (τ t)
  | 2 => dec2
  | 3 => dec3
  | 4 => dec4
  | 5 => dec5
  | 9 => dec9
  | 12 => dec12
  | 21 => dec21
  | 22 => dec22
  | 23 => dec23
  | 24 => dec24
  | 25 => dec25
  | 26 => dec26
  | 27 => dec27
  | 28 => dec28
  | 29 => dec29
  | 30 => dec30
  | 31 => dec31
  | 32 => dec32
  | 33 => dec33
  | 34 => dec34
  | 35 => dec35
  | 36 => dec36
  | 38 => dec38
  | 44 => dec44
  | 45 => dec45
  | 46 => dec46
  | 47 => dec47
  | 48 => dec48
  | 49 => dec49
  | 50 => dec50
  | 67 => dec67
  | 68 => dec68
  | 72 => dec72
  | 79 => dec79
  | 80 => dec80
  | 121 => dec121
  | 148 => dec148
  | 149 => dec149
  | 150 => dec150
  | 154 => dec154
  | 156 => dec156
  | 174 => dec174
  | 182 => dec182
  | _ => fun _ => none
theorem dfN (t : Nat) : Nonempty (τ t) := by unfold τ; split <;> exact ⟨default⟩
noncomputable def dfX (t : Nat) : τ t := Classical.choice (dfN t)
noncomputable def dfT : (t : Nat) → τ t
  | 2 => (default : Int)
  | 3 => (default : Int)
  | 4 => (default : Bool)
  | 5 => (default : Int)
  | 9 => (default : List UInt8)
  | 12 => (default : Int)
  | 21 => (default : Int)
  | 22 => (default : GStamp)
  | 23 => (default : GStamp)
  | 24 => (default : GOp)
  | 25 => (default : GOp)
  | 26 => (default : List (GOp))
  | 27 => (default : Vector (Int) 8)
  | 28 => (default : Vector (Int) 8)
  | 29 => (default : Vector (Int) 8)
  | 30 => (default : GEpoch)
  | 31 => (default : GEpoch)
  | 32 => (default : List (Int))
  | 33 => (default : GPart)
  | 34 => (default : GPart)
  | 35 => (default : GEntry)
  | 36 => (default : GEntry)
  | 38 => (default : Int)
  | 44 => (default : GAddr)
  | 45 => (default : GAddr)
  | 46 => (default : GBallot)
  | 47 => (default : GBallot)
  | 48 => (default : List (GSlotted))
  | 49 => (default : GMsg)
  | 50 => (default : GMsg)
  | 67 => (default : Gwire_Writer)
  | 68 => (default : Gwire_Writer)
  | 72 => (default : Gwire_Writer)
  | 79 => (default : GSlotted)
  | 80 => (default : GSlotted)
  | 121 => (default : List (Int))
  | 148 => (default : List (List (Int)))
  | 149 => (default : Int)
  | 150 => (default : Int)
  | 154 => (default : List (Int))
  | 156 => (default : List (GAddr))
  | 174 => (default : Int)
  | 182 => (default : List (List UInt8))
  | t => dfX t
def szT : Nat → Nat
  | 2 => 1
  | 3 => 1
  | 4 => 1
  | 5 => 1
  | 9 => 1
  | 12 => 1
  | 21 => 1
  | 22 => 2
  | 23 => 2
  | 24 => 8
  | 25 => 8
  | 26 => 1
  | 27 => 8
  | 28 => 8
  | 29 => 8
  | 30 => 25
  | 31 => 25
  | 32 => 1
  | 33 => 4
  | 34 => 4
  | 35 => 56
  | 36 => 56
  | 38 => 1
  | 44 => 2
  | 45 => 2
  | 46 => 2
  | 47 => 2
  | 48 => 1
  | 49 => 106
  | 50 => 106
  | 67 => 2
  | 68 => 2
  | 72 => 2
  | 79 => 59
  | 80 => 59
  | 121 => 1
  | 148 => 1
  | 149 => 1
  | 150 => 1
  | 154 => 1
  | 156 => 1
  | 174 => 1
  | 182 => 1
  | _ => 0
def kdT : Nat → Option (List Kd)
  | 2 => some [.i]
  | 3 => some [.i]
  | 4 => some [.b]
  | 5 => some [.i]
  | 9 => some [.s]
  | 12 => some [.i]
  | 21 => some [.i]
  | 22 => some [.i, .i]
  | 23 => some [.i, .i]
  | 24 => some [.i, .i, .i, .i, .i, .s, .s, .s]
  | 25 => some [.i, .i, .i, .i, .i, .s, .s, .s]
  | 27 => some [.i, .i, .i, .i, .i, .i, .i, .i]
  | 28 => some [.i, .i, .i, .i, .i, .i, .i, .i]
  | 29 => some [.i, .i, .i, .i, .i, .i, .i, .i]
  | 30 => some [.i, .i, .i, .i, .i, .i, .i, .i, .i, .i, .i, .i, .i, .i, .i, .i, .i, .i, .i, .i, .i, .i, .i, .i, .i]
  | 31 => some [.i, .i, .i, .i, .i, .i, .i, .i, .i, .i, .i, .i, .i, .i, .i, .i, .i, .i, .i, .i, .i, .i, .i, .i, .i]
  | 38 => some [.i]
  | 44 => some [.i, .i]
  | 45 => some [.i, .i]
  | 46 => some [.i, .i]
  | 47 => some [.i, .i]
  | 149 => some [.i]
  | 150 => some [.i]
  | 174 => some [.i]
  | _ => none
def beqT : (t : Nat) → τ t → τ t → Bool
  | 2 => beq2
  | 3 => beq3
  | 4 => beq4
  | 5 => beq5
  | 9 => beq9
  | 12 => beq12
  | 21 => beq21
  | 22 => beq22
  | 23 => beq23
  | 24 => beq24
  | 25 => beq25
  | 27 => beq27
  | 28 => beq28
  | 29 => beq29
  | 30 => beq30
  | 31 => beq31
  | 38 => beq38
  | 44 => beq44
  | 45 => beq45
  | 46 => beq46
  | 47 => beq47
  | 149 => beq149
  | 150 => beq150
  | 174 => beq174
  | _ => fun _ _ => false
def b2sT : (t : Nat) → List (τ t) → Option (List UInt8)
  | 5 => fun (l : List Int) => some (strI l)
  | _ => fun _ => none
def s2bT : (t : Nat) → List UInt8 → Option (List (τ t))
  | 5 => fun s => some (bytesI s)
  | _ => fun _ => none
noncomputable def C : Cod τ := ⟨celT, encT, decT, dfT, szT, kdT, beqT, b2sT, s2bT⟩
theorem law2 : CodAt C 2 := ⟨fun x => rfl, fun x => rfl, fun x a h => by rw [dInt_x (show dInt .i64 x = some a from h)]; exact .refl _, fun x => rfl, fun x a h => by rw [dInt_x (show dInt .i64 x = some a from h)]; rfl, fun x a h => by rw [dInt_x (show dInt .i64 x = some a from h)]; rfl, fun a => rfl, fun a => noids_one (NoId.v _), fun ks h a b => by cases h; simp [eqCells, scal, C, celT, cel2, beqT, beq2], (fun l s h => nomatch h), (fun s l h => nomatch h)⟩
theorem law3 : CodAt C 3 := ⟨fun x => rfl, fun x => rfl, fun x a h => by rw [dInt_x (show dInt .i64 x = some a from h)]; exact .refl _, fun x => rfl, fun x a h => by rw [dInt_x (show dInt .i64 x = some a from h)]; rfl, fun x a h => by rw [dInt_x (show dInt .i64 x = some a from h)]; rfl, fun a => rfl, fun a => noids_one (NoId.v _), fun ks h a b => by cases h; simp [eqCells, scal, C, celT, cel3, beqT, beq3], (fun l s h => nomatch h), (fun s l h => nomatch h)⟩
theorem law4 : CodAt C 4 := ⟨fun x => rfl, fun x => rfl, fun x a h => by rw [dBool_x (show dBool x = some a from h)]; exact .refl _, fun x => rfl, fun x a h => by rw [dBool_x (show dBool x = some a from h)]; rfl, fun x a h => by rw [dBool_x (show dBool x = some a from h)]; rfl, fun a => rfl, fun a => noids_one (NoId.v _), fun ks h a b => by cases h; simp [eqCells, scal, C, celT, cel4, beqT, beq4], (fun l s h => nomatch h), (fun s l h => nomatch h)⟩
theorem law5 : CodAt C 5 := ⟨fun x => rfl, fun x => rfl, fun x a h => by rw [dInt_x (show dInt .u8 x = some a from h)]; exact .refl _, fun x => rfl, fun x a h => by rw [dInt_x (show dInt .u8 x = some a from h)]; rfl, fun x a h => by rw [dInt_x (show dInt .u8 x = some a from h)]; rfl, fun a => rfl, fun a => noids_one (NoId.v _), fun ks h a b => by cases h; simp [eqCells, scal, C, celT, cel5, beqT, beq5], fun l s h => ⟨rfl, (unbytes_int l).trans h⟩, fun s l h => ⟨rfl, by cases h; show (bytesI s).map cel5 = _; simp [bytesI, cel5, byteCell]⟩⟩
theorem law9 : CodAt C 9 := ⟨fun x => rfl, fun x => rfl, fun x a h => by rw [dStr_x (show dStr x = some a from h)]; exact .refl _, fun x => rfl, fun x a h => by rw [dStr_x (show dStr x = some a from h)]; rfl, fun x a h => by rw [dStr_x (show dStr x = some a from h)]; rfl, fun a => rfl, fun a => noids_one (NoId.v _), fun ks h a b => by cases h; simp [eqCells, scal, C, celT, cel9, beqT, beq9], (fun l s h => nomatch h), (fun s l h => nomatch h)⟩
theorem law12 : CodAt C 12 := ⟨fun x => rfl, fun x => rfl, fun x a h => by rw [dInt_x (show dInt .u64 x = some a from h)]; exact .refl _, fun x => rfl, fun x a h => by rw [dInt_x (show dInt .u64 x = some a from h)]; rfl, fun x a h => by rw [dInt_x (show dInt .u64 x = some a from h)]; rfl, fun a => rfl, fun a => noids_one (NoId.v _), fun ks h a b => by cases h; simp [eqCells, scal, C, celT, cel12, beqT, beq12], (fun l s h => nomatch h), (fun s l h => nomatch h)⟩
theorem law21 : CodAt C 21 := ⟨fun x => rfl, fun x => rfl, fun x a h => by rw [dInt_x (show dInt .i32 x = some a from h)]; exact .refl _, fun x => rfl, fun x a h => by rw [dInt_x (show dInt .i32 x = some a from h)]; rfl, fun x a h => by rw [dInt_x (show dInt .i32 x = some a from h)]; rfl, fun a => rfl, fun a => noids_one (NoId.v _), fun ks h a b => by cases h; simp [eqCells, scal, C, celT, cel21, beqT, beq21], (fun l s h => nomatch h), (fun s l h => nomatch h)⟩
theorem decx22 {x : TV τ} {a : GStamp} (h : dec22 x = some a) : ∃ x0 x1, x = .agg [x0, x1] ∧ dec2 x0 = some a.Time ∧ dec3 x1 = some a.Site := by
  unfold dec22 at h
  split at h
  · rename_i x0 x1
    split at h
    · rename_i a0 h0
      split at h
      · rename_i a1 h1
        cases h
        exact ⟨_, _, rfl, h0, h1⟩
      · cases h
    · cases h
  · cases h
theorem law22 : CodAt C 22 := ⟨fun x => by show ((enc2 x.Time).cells C ++ ((enc3 x.Site).cells C ++ [])) = cel22 x; unfold cel22; exact congr (congrArg (· ++ ·) (law2.cel x.Time)) (congr (congrArg (· ++ ·) (law3.cel x.Site)) (rfl)), fun x => by show ((cel2 x.Time ++ (cel3 x.Site ++ []))).length = 2; rw [List.length_append, List.length_append]; have e0 : (cel2 x.Time).length = 1 := law2.len x.Time; have e1 : (cel3 x.Site).length = 1 := law3.len x.Site; simp only [e0, e1, List.length_nil], fun x a h => by obtain ⟨x0, x1, rfl, h0, h1⟩ := decx22 (show dec22 x = some a from h); exact CW.append (law2.dec _ _ h0) (CW.append (law3.dec _ _ h1) (CW.refl [])), fun x => by show (((enc2 x.Time).ok && ((enc3 x.Site).ok && true))) = true; simp only [show (enc2 x.Time).ok = true from law2.ok _, show (enc3 x.Site).ok = true from law3.ok _, Bool.and_self], fun x a h => by obtain ⟨x0, x1, rfl, h0, h1⟩ := decx22 (show dec22 x = some a from h); show ((x0.ok && (x1.ok && true))) = true; simp only [law2.decok _ _ h0, law3.decok _ _ h1, Bool.and_self], fun x a h => by obtain ⟨x0, x1, rfl, h0, h1⟩ := decx22 (show dec22 x = some a from h); rfl, fun x => by show ((cel2 x.Time ++ (cel3 x.Site ++ []))).all AV.one = true; simp only [List.all_append, List.all_nil, show (cel2 x.Time).all AV.one = true from law2.one _, show (cel3 x.Site).all AV.one = true from law3.one _, Bool.and_self], fun x => noids_app (law2.noid x.Time) (noids_app (law3.noid x.Site) (trivial)), fun ks h a b => by have := eqCells_append (law2.kd _ rfl a.Time b.Time) (eqCells_append (law3.kd _ rfl a.Site b.Site) ((show eqCells [] [] [] = some true from rfl))); cases h; exact this, (fun l s h => nomatch h), (fun s l h => nomatch h)⟩
theorem decx23 {x : TV τ} {a : GStamp} (h : dec23 x = some a) : ∃ x0 x1, x = .agg [x0, x1] ∧ dec2 x0 = some a.Time ∧ dec3 x1 = some a.Site := by
  unfold dec23 at h
  split at h
  · rename_i x0 x1
    split at h
    · rename_i a0 h0
      split at h
      · rename_i a1 h1
        cases h
        exact ⟨_, _, rfl, h0, h1⟩
      · cases h
    · cases h
  · cases h
theorem law23 : CodAt C 23 := ⟨fun x => by show ((enc2 x.Time).cells C ++ ((enc3 x.Site).cells C ++ [])) = cel23 x; unfold cel23; exact congr (congrArg (· ++ ·) (law2.cel x.Time)) (congr (congrArg (· ++ ·) (law3.cel x.Site)) (rfl)), fun x => by show ((cel2 x.Time ++ (cel3 x.Site ++ []))).length = 2; rw [List.length_append, List.length_append]; have e0 : (cel2 x.Time).length = 1 := law2.len x.Time; have e1 : (cel3 x.Site).length = 1 := law3.len x.Site; simp only [e0, e1, List.length_nil], fun x a h => by obtain ⟨x0, x1, rfl, h0, h1⟩ := decx23 (show dec23 x = some a from h); exact CW.append (law2.dec _ _ h0) (CW.append (law3.dec _ _ h1) (CW.refl [])), fun x => by show (((enc2 x.Time).ok && ((enc3 x.Site).ok && true))) = true; simp only [show (enc2 x.Time).ok = true from law2.ok _, show (enc3 x.Site).ok = true from law3.ok _, Bool.and_self], fun x a h => by obtain ⟨x0, x1, rfl, h0, h1⟩ := decx23 (show dec23 x = some a from h); show ((x0.ok && (x1.ok && true))) = true; simp only [law2.decok _ _ h0, law3.decok _ _ h1, Bool.and_self], fun x a h => by obtain ⟨x0, x1, rfl, h0, h1⟩ := decx23 (show dec23 x = some a from h); rfl, fun x => by show ((cel2 x.Time ++ (cel3 x.Site ++ []))).all AV.one = true; simp only [List.all_append, List.all_nil, show (cel2 x.Time).all AV.one = true from law2.one _, show (cel3 x.Site).all AV.one = true from law3.one _, Bool.and_self], fun x => noids_app (law2.noid x.Time) (noids_app (law3.noid x.Site) (trivial)), fun ks h a b => by have := eqCells_append (law2.kd _ rfl a.Time b.Time) (eqCells_append (law3.kd _ rfl a.Site b.Site) ((show eqCells [] [] [] = some true from rfl))); cases h; exact this, (fun l s h => nomatch h), (fun s l h => nomatch h)⟩
theorem decx24 {x : TV τ} {a : GOp} (h : dec24 x = some a) : ∃ x0 x1 x2 x3 x4 x5 x6, x = .agg [x0, x1, x2, x3, x4, x5, x6] ∧ dec23 x0 = some a.Stamp ∧ dec3 x1 = some a.Kind ∧ dec2 x2 = some a.Node ∧ dec2 x3 = some a.Parent ∧ dec9 x4 = some a.Name ∧ dec9 x5 = some a.Key ∧ dec9 x6 = some a.Value := by
  unfold dec24 at h
  split at h
  · rename_i x0 x1 x2 x3 x4 x5 x6
    split at h
    · rename_i a0 h0
      split at h
      · rename_i a1 h1
        split at h
        · rename_i a2 h2
          split at h
          · rename_i a3 h3
            split at h
            · rename_i a4 h4
              split at h
              · rename_i a5 h5
                split at h
                · rename_i a6 h6
                  cases h
                  exact ⟨_, _, _, _, _, _, _, rfl, h0, h1, h2, h3, h4, h5, h6⟩
                · cases h
              · cases h
            · cases h
          · cases h
        · cases h
      · cases h
    · cases h
  · cases h
theorem law24 : CodAt C 24 := ⟨fun x => by show ((enc23 x.Stamp).cells C ++ ((enc3 x.Kind).cells C ++ ((enc2 x.Node).cells C ++ ((enc2 x.Parent).cells C ++ ((enc9 x.Name).cells C ++ ((enc9 x.Key).cells C ++ ((enc9 x.Value).cells C ++ []))))))) = cel24 x; unfold cel24; exact congr (congrArg (· ++ ·) (law23.cel x.Stamp)) (congr (congrArg (· ++ ·) (law3.cel x.Kind)) (congr (congrArg (· ++ ·) (law2.cel x.Node)) (congr (congrArg (· ++ ·) (law2.cel x.Parent)) (congr (congrArg (· ++ ·) (law9.cel x.Name)) (congr (congrArg (· ++ ·) (law9.cel x.Key)) (congr (congrArg (· ++ ·) (law9.cel x.Value)) (rfl))))))), fun x => by show ((cel23 x.Stamp ++ (cel3 x.Kind ++ (cel2 x.Node ++ (cel2 x.Parent ++ (cel9 x.Name ++ (cel9 x.Key ++ (cel9 x.Value ++ [])))))))).length = 8; rw [List.length_append, List.length_append, List.length_append, List.length_append, List.length_append, List.length_append, List.length_append]; have e0 : (cel23 x.Stamp).length = 2 := law23.len x.Stamp; have e1 : (cel3 x.Kind).length = 1 := law3.len x.Kind; have e2 : (cel2 x.Node).length = 1 := law2.len x.Node; have e3 : (cel2 x.Parent).length = 1 := law2.len x.Parent; have e4 : (cel9 x.Name).length = 1 := law9.len x.Name; have e5 : (cel9 x.Key).length = 1 := law9.len x.Key; have e6 : (cel9 x.Value).length = 1 := law9.len x.Value; simp only [e0, e1, e2, e3, e4, e5, e6, List.length_nil], fun x a h => by obtain ⟨x0, x1, x2, x3, x4, x5, x6, rfl, h0, h1, h2, h3, h4, h5, h6⟩ := decx24 (show dec24 x = some a from h); exact CW.append (law23.dec _ _ h0) (CW.append (law3.dec _ _ h1) (CW.append (law2.dec _ _ h2) (CW.append (law2.dec _ _ h3) (CW.append (law9.dec _ _ h4) (CW.append (law9.dec _ _ h5) (CW.append (law9.dec _ _ h6) (CW.refl []))))))), fun x => by show (((enc23 x.Stamp).ok && ((enc3 x.Kind).ok && ((enc2 x.Node).ok && ((enc2 x.Parent).ok && ((enc9 x.Name).ok && ((enc9 x.Key).ok && ((enc9 x.Value).ok && true)))))))) = true; simp only [show (enc23 x.Stamp).ok = true from law23.ok _, show (enc3 x.Kind).ok = true from law3.ok _, show (enc2 x.Node).ok = true from law2.ok _, show (enc2 x.Parent).ok = true from law2.ok _, show (enc9 x.Name).ok = true from law9.ok _, show (enc9 x.Key).ok = true from law9.ok _, show (enc9 x.Value).ok = true from law9.ok _, Bool.and_self], fun x a h => by obtain ⟨x0, x1, x2, x3, x4, x5, x6, rfl, h0, h1, h2, h3, h4, h5, h6⟩ := decx24 (show dec24 x = some a from h); show ((x0.ok && (x1.ok && (x2.ok && (x3.ok && (x4.ok && (x5.ok && (x6.ok && true)))))))) = true; simp only [law23.decok _ _ h0, law3.decok _ _ h1, law2.decok _ _ h2, law2.decok _ _ h3, law9.decok _ _ h4, law9.decok _ _ h5, law9.decok _ _ h6, Bool.and_self], fun x a h => by obtain ⟨x0, x1, x2, x3, x4, x5, x6, rfl, h0, h1, h2, h3, h4, h5, h6⟩ := decx24 (show dec24 x = some a from h); rfl, fun x => by show ((cel23 x.Stamp ++ (cel3 x.Kind ++ (cel2 x.Node ++ (cel2 x.Parent ++ (cel9 x.Name ++ (cel9 x.Key ++ (cel9 x.Value ++ [])))))))).all AV.one = true; simp only [List.all_append, List.all_nil, show (cel23 x.Stamp).all AV.one = true from law23.one _, show (cel3 x.Kind).all AV.one = true from law3.one _, show (cel2 x.Node).all AV.one = true from law2.one _, show (cel2 x.Parent).all AV.one = true from law2.one _, show (cel9 x.Name).all AV.one = true from law9.one _, show (cel9 x.Key).all AV.one = true from law9.one _, show (cel9 x.Value).all AV.one = true from law9.one _, Bool.and_self], fun x => noids_app (law23.noid x.Stamp) (noids_app (law3.noid x.Kind) (noids_app (law2.noid x.Node) (noids_app (law2.noid x.Parent) (noids_app (law9.noid x.Name) (noids_app (law9.noid x.Key) (noids_app (law9.noid x.Value) (trivial))))))), fun ks h a b => by have := eqCells_append (law23.kd _ rfl a.Stamp b.Stamp) (eqCells_append (law3.kd _ rfl a.Kind b.Kind) (eqCells_append (law2.kd _ rfl a.Node b.Node) (eqCells_append (law2.kd _ rfl a.Parent b.Parent) (eqCells_append (law9.kd _ rfl a.Name b.Name) (eqCells_append (law9.kd _ rfl a.Key b.Key) (eqCells_append (law9.kd _ rfl a.Value b.Value) ((show eqCells [] [] [] = some true from rfl)))))))); cases h; exact this, (fun l s h => nomatch h), (fun s l h => nomatch h)⟩
theorem decx25 {x : TV τ} {a : GOp} (h : dec25 x = some a) : ∃ x0 x1 x2 x3 x4 x5 x6, x = .agg [x0, x1, x2, x3, x4, x5, x6] ∧ dec23 x0 = some a.Stamp ∧ dec3 x1 = some a.Kind ∧ dec2 x2 = some a.Node ∧ dec2 x3 = some a.Parent ∧ dec9 x4 = some a.Name ∧ dec9 x5 = some a.Key ∧ dec9 x6 = some a.Value := by
  unfold dec25 at h
  split at h
  · rename_i x0 x1 x2 x3 x4 x5 x6
    split at h
    · rename_i a0 h0
      split at h
      · rename_i a1 h1
        split at h
        · rename_i a2 h2
          split at h
          · rename_i a3 h3
            split at h
            · rename_i a4 h4
              split at h
              · rename_i a5 h5
                split at h
                · rename_i a6 h6
                  cases h
                  exact ⟨_, _, _, _, _, _, _, rfl, h0, h1, h2, h3, h4, h5, h6⟩
                · cases h
              · cases h
            · cases h
          · cases h
        · cases h
      · cases h
    · cases h
  · cases h
theorem law25 : CodAt C 25 := ⟨fun x => by show ((enc23 x.Stamp).cells C ++ ((enc3 x.Kind).cells C ++ ((enc2 x.Node).cells C ++ ((enc2 x.Parent).cells C ++ ((enc9 x.Name).cells C ++ ((enc9 x.Key).cells C ++ ((enc9 x.Value).cells C ++ []))))))) = cel25 x; unfold cel25; exact congr (congrArg (· ++ ·) (law23.cel x.Stamp)) (congr (congrArg (· ++ ·) (law3.cel x.Kind)) (congr (congrArg (· ++ ·) (law2.cel x.Node)) (congr (congrArg (· ++ ·) (law2.cel x.Parent)) (congr (congrArg (· ++ ·) (law9.cel x.Name)) (congr (congrArg (· ++ ·) (law9.cel x.Key)) (congr (congrArg (· ++ ·) (law9.cel x.Value)) (rfl))))))), fun x => by show ((cel23 x.Stamp ++ (cel3 x.Kind ++ (cel2 x.Node ++ (cel2 x.Parent ++ (cel9 x.Name ++ (cel9 x.Key ++ (cel9 x.Value ++ [])))))))).length = 8; rw [List.length_append, List.length_append, List.length_append, List.length_append, List.length_append, List.length_append, List.length_append]; have e0 : (cel23 x.Stamp).length = 2 := law23.len x.Stamp; have e1 : (cel3 x.Kind).length = 1 := law3.len x.Kind; have e2 : (cel2 x.Node).length = 1 := law2.len x.Node; have e3 : (cel2 x.Parent).length = 1 := law2.len x.Parent; have e4 : (cel9 x.Name).length = 1 := law9.len x.Name; have e5 : (cel9 x.Key).length = 1 := law9.len x.Key; have e6 : (cel9 x.Value).length = 1 := law9.len x.Value; simp only [e0, e1, e2, e3, e4, e5, e6, List.length_nil], fun x a h => by obtain ⟨x0, x1, x2, x3, x4, x5, x6, rfl, h0, h1, h2, h3, h4, h5, h6⟩ := decx25 (show dec25 x = some a from h); exact CW.append (law23.dec _ _ h0) (CW.append (law3.dec _ _ h1) (CW.append (law2.dec _ _ h2) (CW.append (law2.dec _ _ h3) (CW.append (law9.dec _ _ h4) (CW.append (law9.dec _ _ h5) (CW.append (law9.dec _ _ h6) (CW.refl []))))))), fun x => by show (((enc23 x.Stamp).ok && ((enc3 x.Kind).ok && ((enc2 x.Node).ok && ((enc2 x.Parent).ok && ((enc9 x.Name).ok && ((enc9 x.Key).ok && ((enc9 x.Value).ok && true)))))))) = true; simp only [show (enc23 x.Stamp).ok = true from law23.ok _, show (enc3 x.Kind).ok = true from law3.ok _, show (enc2 x.Node).ok = true from law2.ok _, show (enc2 x.Parent).ok = true from law2.ok _, show (enc9 x.Name).ok = true from law9.ok _, show (enc9 x.Key).ok = true from law9.ok _, show (enc9 x.Value).ok = true from law9.ok _, Bool.and_self], fun x a h => by obtain ⟨x0, x1, x2, x3, x4, x5, x6, rfl, h0, h1, h2, h3, h4, h5, h6⟩ := decx25 (show dec25 x = some a from h); show ((x0.ok && (x1.ok && (x2.ok && (x3.ok && (x4.ok && (x5.ok && (x6.ok && true)))))))) = true; simp only [law23.decok _ _ h0, law3.decok _ _ h1, law2.decok _ _ h2, law2.decok _ _ h3, law9.decok _ _ h4, law9.decok _ _ h5, law9.decok _ _ h6, Bool.and_self], fun x a h => by obtain ⟨x0, x1, x2, x3, x4, x5, x6, rfl, h0, h1, h2, h3, h4, h5, h6⟩ := decx25 (show dec25 x = some a from h); rfl, fun x => by show ((cel23 x.Stamp ++ (cel3 x.Kind ++ (cel2 x.Node ++ (cel2 x.Parent ++ (cel9 x.Name ++ (cel9 x.Key ++ (cel9 x.Value ++ [])))))))).all AV.one = true; simp only [List.all_append, List.all_nil, show (cel23 x.Stamp).all AV.one = true from law23.one _, show (cel3 x.Kind).all AV.one = true from law3.one _, show (cel2 x.Node).all AV.one = true from law2.one _, show (cel2 x.Parent).all AV.one = true from law2.one _, show (cel9 x.Name).all AV.one = true from law9.one _, show (cel9 x.Key).all AV.one = true from law9.one _, show (cel9 x.Value).all AV.one = true from law9.one _, Bool.and_self], fun x => noids_app (law23.noid x.Stamp) (noids_app (law3.noid x.Kind) (noids_app (law2.noid x.Node) (noids_app (law2.noid x.Parent) (noids_app (law9.noid x.Name) (noids_app (law9.noid x.Key) (noids_app (law9.noid x.Value) (trivial))))))), fun ks h a b => by have := eqCells_append (law23.kd _ rfl a.Stamp b.Stamp) (eqCells_append (law3.kd _ rfl a.Kind b.Kind) (eqCells_append (law2.kd _ rfl a.Node b.Node) (eqCells_append (law2.kd _ rfl a.Parent b.Parent) (eqCells_append (law9.kd _ rfl a.Name b.Name) (eqCells_append (law9.kd _ rfl a.Key b.Key) (eqCells_append (law9.kd _ rfl a.Value b.Value) ((show eqCells [] [] [] = some true from rfl)))))))); cases h; exact this, (fun l s h => nomatch h), (fun s l h => nomatch h)⟩
theorem law26 : CodAt C 26 := ⟨fun x => rfl, fun x => rfl, fun x a h => (dSl_cw (C := C) (show dSl 25 x = some a from h)).1, fun x => rfl, fun x a h => (dSl_cw (C := C) (show dSl 25 x = some a from h)).2.1, fun x a h => (dSl_cw (C := C) (show dSl 25 x = some a from h)).2.2, fun a => rfl, fun a => noids_one (NoId.asl fun cs hc => by obtain ⟨y, _, rfl⟩ := List.mem_map.1 hc; exact law25.noid y), (fun ks h => nomatch h), (fun l s h => nomatch h), (fun s l h => nomatch h)⟩
theorem law27 : CodAt C 27 := ⟨fun x => rfl, fun x => length_flat law3 x, fun x a h => by rw [dArr_x (show dArr 3 8 x = some a from h)]; exact .refl _, fun x => rfl, fun x a h => by rw [dArr_x (show dArr 3 8 x = some a from h)]; rfl, fun x a h => by rw [dArr_x (show dArr 3 8 x = some a from h)]; rfl, fun a => one_flat law3 a.toList, fun a => noid_flat law3 a.toList, fun ks h a b => by have := eqCells_arr' law3 (show C.kd 3 = some _ from rfl) a.toList b.toList (by simp); simp only [Vector.length_toList] at this; cases h; exact this, (fun l s h => nomatch h), (fun s l h => nomatch h)⟩
theorem law28 : CodAt C 28 := ⟨fun x => rfl, fun x => length_flat law2 x, fun x a h => by rw [dArr_x (show dArr 2 8 x = some a from h)]; exact .refl _, fun x => rfl, fun x a h => by rw [dArr_x (show dArr 2 8 x = some a from h)]; rfl, fun x a h => by rw [dArr_x (show dArr 2 8 x = some a from h)]; rfl, fun a => one_flat law2 a.toList, fun a => noid_flat law2 a.toList, fun ks h a b => by have := eqCells_arr' law2 (show C.kd 2 = some _ from rfl) a.toList b.toList (by simp); simp only [Vector.length_toList] at this; cases h; exact this, (fun l s h => nomatch h), (fun s l h => nomatch h)⟩
theorem law29 : CodAt C 29 := ⟨fun x => rfl, fun x => length_flat law2 x, fun x a h => by rw [dArr_x (show dArr 2 8 x = some a from h)]; exact .refl _, fun x => rfl, fun x a h => by rw [dArr_x (show dArr 2 8 x = some a from h)]; rfl, fun x a h => by rw [dArr_x (show dArr 2 8 x = some a from h)]; rfl, fun a => one_flat law2 a.toList, fun a => noid_flat law2 a.toList, fun ks h a b => by have := eqCells_arr' law2 (show C.kd 2 = some _ from rfl) a.toList b.toList (by simp); simp only [Vector.length_toList] at this; cases h; exact this, (fun l s h => nomatch h), (fun s l h => nomatch h)⟩
theorem decx30 {x : TV τ} {a : GEpoch} (h : dec30 x = some a) : ∃ x0 x1 x2 x3, x = .agg [x0, x1, x2, x3] ∧ dec2 x0 = some a.Number ∧ dec27 x1 = some a.States ∧ dec29 x2 = some a.Seals ∧ dec27 x3 = some a.Sponsor := by
  unfold dec30 at h
  split at h
  · rename_i x0 x1 x2 x3
    split at h
    · rename_i a0 h0
      split at h
      · rename_i a1 h1
        split at h
        · rename_i a2 h2
          split at h
          · rename_i a3 h3
            cases h
            exact ⟨_, _, _, _, rfl, h0, h1, h2, h3⟩
          · cases h
        · cases h
      · cases h
    · cases h
  · cases h
theorem law30 : CodAt C 30 := ⟨fun x => by show ((enc2 x.Number).cells C ++ ((enc27 x.States).cells C ++ ((enc29 x.Seals).cells C ++ ((enc27 x.Sponsor).cells C ++ [])))) = cel30 x; unfold cel30; exact congr (congrArg (· ++ ·) (law2.cel x.Number)) (congr (congrArg (· ++ ·) (law27.cel x.States)) (congr (congrArg (· ++ ·) (law29.cel x.Seals)) (congr (congrArg (· ++ ·) (law27.cel x.Sponsor)) (rfl)))), fun x => by show ((cel2 x.Number ++ (cel27 x.States ++ (cel29 x.Seals ++ (cel27 x.Sponsor ++ []))))).length = 25; rw [List.length_append, List.length_append, List.length_append, List.length_append]; have e0 : (cel2 x.Number).length = 1 := law2.len x.Number; have e1 : (cel27 x.States).length = 8 := law27.len x.States; have e2 : (cel29 x.Seals).length = 8 := law29.len x.Seals; have e3 : (cel27 x.Sponsor).length = 8 := law27.len x.Sponsor; simp only [e0, e1, e2, e3, List.length_nil], fun x a h => by obtain ⟨x0, x1, x2, x3, rfl, h0, h1, h2, h3⟩ := decx30 (show dec30 x = some a from h); exact CW.append (law2.dec _ _ h0) (CW.append (law27.dec _ _ h1) (CW.append (law29.dec _ _ h2) (CW.append (law27.dec _ _ h3) (CW.refl [])))), fun x => by show (((enc2 x.Number).ok && ((enc27 x.States).ok && ((enc29 x.Seals).ok && ((enc27 x.Sponsor).ok && true))))) = true; simp only [show (enc2 x.Number).ok = true from law2.ok _, show (enc27 x.States).ok = true from law27.ok _, show (enc29 x.Seals).ok = true from law29.ok _, show (enc27 x.Sponsor).ok = true from law27.ok _, Bool.and_self], fun x a h => by obtain ⟨x0, x1, x2, x3, rfl, h0, h1, h2, h3⟩ := decx30 (show dec30 x = some a from h); show ((x0.ok && (x1.ok && (x2.ok && (x3.ok && true))))) = true; simp only [law2.decok _ _ h0, law27.decok _ _ h1, law29.decok _ _ h2, law27.decok _ _ h3, Bool.and_self], fun x a h => by obtain ⟨x0, x1, x2, x3, rfl, h0, h1, h2, h3⟩ := decx30 (show dec30 x = some a from h); rfl, fun x => by show ((cel2 x.Number ++ (cel27 x.States ++ (cel29 x.Seals ++ (cel27 x.Sponsor ++ []))))).all AV.one = true; simp only [List.all_append, List.all_nil, show (cel2 x.Number).all AV.one = true from law2.one _, show (cel27 x.States).all AV.one = true from law27.one _, show (cel29 x.Seals).all AV.one = true from law29.one _, show (cel27 x.Sponsor).all AV.one = true from law27.one _, Bool.and_self], fun x => noids_app (law2.noid x.Number) (noids_app (law27.noid x.States) (noids_app (law29.noid x.Seals) (noids_app (law27.noid x.Sponsor) (trivial)))), fun ks h a b => by have := eqCells_append (law2.kd _ rfl a.Number b.Number) (eqCells_append (law27.kd _ rfl a.States b.States) (eqCells_append (law29.kd _ rfl a.Seals b.Seals) (eqCells_append (law27.kd _ rfl a.Sponsor b.Sponsor) ((show eqCells [] [] [] = some true from rfl))))); cases h; exact this, (fun l s h => nomatch h), (fun s l h => nomatch h)⟩
theorem decx31 {x : TV τ} {a : GEpoch} (h : dec31 x = some a) : ∃ x0 x1 x2 x3, x = .agg [x0, x1, x2, x3] ∧ dec2 x0 = some a.Number ∧ dec27 x1 = some a.States ∧ dec29 x2 = some a.Seals ∧ dec27 x3 = some a.Sponsor := by
  unfold dec31 at h
  split at h
  · rename_i x0 x1 x2 x3
    split at h
    · rename_i a0 h0
      split at h
      · rename_i a1 h1
        split at h
        · rename_i a2 h2
          split at h
          · rename_i a3 h3
            cases h
            exact ⟨_, _, _, _, rfl, h0, h1, h2, h3⟩
          · cases h
        · cases h
      · cases h
    · cases h
  · cases h
theorem law31 : CodAt C 31 := ⟨fun x => by show ((enc2 x.Number).cells C ++ ((enc27 x.States).cells C ++ ((enc29 x.Seals).cells C ++ ((enc27 x.Sponsor).cells C ++ [])))) = cel31 x; unfold cel31; exact congr (congrArg (· ++ ·) (law2.cel x.Number)) (congr (congrArg (· ++ ·) (law27.cel x.States)) (congr (congrArg (· ++ ·) (law29.cel x.Seals)) (congr (congrArg (· ++ ·) (law27.cel x.Sponsor)) (rfl)))), fun x => by show ((cel2 x.Number ++ (cel27 x.States ++ (cel29 x.Seals ++ (cel27 x.Sponsor ++ []))))).length = 25; rw [List.length_append, List.length_append, List.length_append, List.length_append]; have e0 : (cel2 x.Number).length = 1 := law2.len x.Number; have e1 : (cel27 x.States).length = 8 := law27.len x.States; have e2 : (cel29 x.Seals).length = 8 := law29.len x.Seals; have e3 : (cel27 x.Sponsor).length = 8 := law27.len x.Sponsor; simp only [e0, e1, e2, e3, List.length_nil], fun x a h => by obtain ⟨x0, x1, x2, x3, rfl, h0, h1, h2, h3⟩ := decx31 (show dec31 x = some a from h); exact CW.append (law2.dec _ _ h0) (CW.append (law27.dec _ _ h1) (CW.append (law29.dec _ _ h2) (CW.append (law27.dec _ _ h3) (CW.refl [])))), fun x => by show (((enc2 x.Number).ok && ((enc27 x.States).ok && ((enc29 x.Seals).ok && ((enc27 x.Sponsor).ok && true))))) = true; simp only [show (enc2 x.Number).ok = true from law2.ok _, show (enc27 x.States).ok = true from law27.ok _, show (enc29 x.Seals).ok = true from law29.ok _, show (enc27 x.Sponsor).ok = true from law27.ok _, Bool.and_self], fun x a h => by obtain ⟨x0, x1, x2, x3, rfl, h0, h1, h2, h3⟩ := decx31 (show dec31 x = some a from h); show ((x0.ok && (x1.ok && (x2.ok && (x3.ok && true))))) = true; simp only [law2.decok _ _ h0, law27.decok _ _ h1, law29.decok _ _ h2, law27.decok _ _ h3, Bool.and_self], fun x a h => by obtain ⟨x0, x1, x2, x3, rfl, h0, h1, h2, h3⟩ := decx31 (show dec31 x = some a from h); rfl, fun x => by show ((cel2 x.Number ++ (cel27 x.States ++ (cel29 x.Seals ++ (cel27 x.Sponsor ++ []))))).all AV.one = true; simp only [List.all_append, List.all_nil, show (cel2 x.Number).all AV.one = true from law2.one _, show (cel27 x.States).all AV.one = true from law27.one _, show (cel29 x.Seals).all AV.one = true from law29.one _, show (cel27 x.Sponsor).all AV.one = true from law27.one _, Bool.and_self], fun x => noids_app (law2.noid x.Number) (noids_app (law27.noid x.States) (noids_app (law29.noid x.Seals) (noids_app (law27.noid x.Sponsor) (trivial)))), fun ks h a b => by have := eqCells_append (law2.kd _ rfl a.Number b.Number) (eqCells_append (law27.kd _ rfl a.States b.States) (eqCells_append (law29.kd _ rfl a.Seals b.Seals) (eqCells_append (law27.kd _ rfl a.Sponsor b.Sponsor) ((show eqCells [] [] [] = some true from rfl))))); cases h; exact this, (fun l s h => nomatch h), (fun s l h => nomatch h)⟩
theorem law32 : CodAt C 32 := ⟨fun x => rfl, fun x => rfl, fun x a h => (dSl_cw (C := C) (show dSl 5 x = some a from h)).1, fun x => rfl, fun x a h => (dSl_cw (C := C) (show dSl 5 x = some a from h)).2.1, fun x a h => (dSl_cw (C := C) (show dSl 5 x = some a from h)).2.2, fun a => rfl, fun a => noids_one (NoId.asl fun cs hc => by obtain ⟨y, _, rfl⟩ := List.mem_map.1 hc; exact law5.noid y), (fun ks h => nomatch h), (fun l s h => nomatch h), (fun s l h => nomatch h)⟩
theorem decx33 {x : TV τ} {a : GPart} (h : dec33 x = some a) : ∃ x0 x1 x2 x3, x = .agg [x0, x1, x2, x3] ∧ dec2 x0 = some a.Snap ∧ dec3 x1 = some a.Index ∧ dec3 x2 = some a.Many ∧ dec32 x3 = some a.Data := by
  unfold dec33 at h
  split at h
  · rename_i x0 x1 x2 x3
    split at h
    · rename_i a0 h0
      split at h
      · rename_i a1 h1
        split at h
        · rename_i a2 h2
          split at h
          · rename_i a3 h3
            cases h
            exact ⟨_, _, _, _, rfl, h0, h1, h2, h3⟩
          · cases h
        · cases h
      · cases h
    · cases h
  · cases h
theorem law33 : CodAt C 33 := ⟨fun x => by show ((enc2 x.Snap).cells C ++ ((enc3 x.Index).cells C ++ ((enc3 x.Many).cells C ++ ((enc32 x.Data).cells C ++ [])))) = cel33 x; unfold cel33; exact congr (congrArg (· ++ ·) (law2.cel x.Snap)) (congr (congrArg (· ++ ·) (law3.cel x.Index)) (congr (congrArg (· ++ ·) (law3.cel x.Many)) (congr (congrArg (· ++ ·) (law32.cel x.Data)) (rfl)))), fun x => by show ((cel2 x.Snap ++ (cel3 x.Index ++ (cel3 x.Many ++ (cel32 x.Data ++ []))))).length = 4; rw [List.length_append, List.length_append, List.length_append, List.length_append]; have e0 : (cel2 x.Snap).length = 1 := law2.len x.Snap; have e1 : (cel3 x.Index).length = 1 := law3.len x.Index; have e2 : (cel3 x.Many).length = 1 := law3.len x.Many; have e3 : (cel32 x.Data).length = 1 := law32.len x.Data; simp only [e0, e1, e2, e3, List.length_nil], fun x a h => by obtain ⟨x0, x1, x2, x3, rfl, h0, h1, h2, h3⟩ := decx33 (show dec33 x = some a from h); exact CW.append (law2.dec _ _ h0) (CW.append (law3.dec _ _ h1) (CW.append (law3.dec _ _ h2) (CW.append (law32.dec _ _ h3) (CW.refl [])))), fun x => by show (((enc2 x.Snap).ok && ((enc3 x.Index).ok && ((enc3 x.Many).ok && ((enc32 x.Data).ok && true))))) = true; simp only [show (enc2 x.Snap).ok = true from law2.ok _, show (enc3 x.Index).ok = true from law3.ok _, show (enc3 x.Many).ok = true from law3.ok _, show (enc32 x.Data).ok = true from law32.ok _, Bool.and_self], fun x a h => by obtain ⟨x0, x1, x2, x3, rfl, h0, h1, h2, h3⟩ := decx33 (show dec33 x = some a from h); show ((x0.ok && (x1.ok && (x2.ok && (x3.ok && true))))) = true; simp only [law2.decok _ _ h0, law3.decok _ _ h1, law3.decok _ _ h2, law32.decok _ _ h3, Bool.and_self], fun x a h => by obtain ⟨x0, x1, x2, x3, rfl, h0, h1, h2, h3⟩ := decx33 (show dec33 x = some a from h); rfl, fun x => by show ((cel2 x.Snap ++ (cel3 x.Index ++ (cel3 x.Many ++ (cel32 x.Data ++ []))))).all AV.one = true; simp only [List.all_append, List.all_nil, show (cel2 x.Snap).all AV.one = true from law2.one _, show (cel3 x.Index).all AV.one = true from law3.one _, show (cel3 x.Many).all AV.one = true from law3.one _, show (cel32 x.Data).all AV.one = true from law32.one _, Bool.and_self], fun x => noids_app (law2.noid x.Snap) (noids_app (law3.noid x.Index) (noids_app (law3.noid x.Many) (noids_app (law32.noid x.Data) (trivial)))), (fun ks h => nomatch h), (fun l s h => nomatch h), (fun s l h => nomatch h)⟩
theorem decx34 {x : TV τ} {a : GPart} (h : dec34 x = some a) : ∃ x0 x1 x2 x3, x = .agg [x0, x1, x2, x3] ∧ dec2 x0 = some a.Snap ∧ dec3 x1 = some a.Index ∧ dec3 x2 = some a.Many ∧ dec32 x3 = some a.Data := by
  unfold dec34 at h
  split at h
  · rename_i x0 x1 x2 x3
    split at h
    · rename_i a0 h0
      split at h
      · rename_i a1 h1
        split at h
        · rename_i a2 h2
          split at h
          · rename_i a3 h3
            cases h
            exact ⟨_, _, _, _, rfl, h0, h1, h2, h3⟩
          · cases h
        · cases h
      · cases h
    · cases h
  · cases h
theorem law34 : CodAt C 34 := ⟨fun x => by show ((enc2 x.Snap).cells C ++ ((enc3 x.Index).cells C ++ ((enc3 x.Many).cells C ++ ((enc32 x.Data).cells C ++ [])))) = cel34 x; unfold cel34; exact congr (congrArg (· ++ ·) (law2.cel x.Snap)) (congr (congrArg (· ++ ·) (law3.cel x.Index)) (congr (congrArg (· ++ ·) (law3.cel x.Many)) (congr (congrArg (· ++ ·) (law32.cel x.Data)) (rfl)))), fun x => by show ((cel2 x.Snap ++ (cel3 x.Index ++ (cel3 x.Many ++ (cel32 x.Data ++ []))))).length = 4; rw [List.length_append, List.length_append, List.length_append, List.length_append]; have e0 : (cel2 x.Snap).length = 1 := law2.len x.Snap; have e1 : (cel3 x.Index).length = 1 := law3.len x.Index; have e2 : (cel3 x.Many).length = 1 := law3.len x.Many; have e3 : (cel32 x.Data).length = 1 := law32.len x.Data; simp only [e0, e1, e2, e3, List.length_nil], fun x a h => by obtain ⟨x0, x1, x2, x3, rfl, h0, h1, h2, h3⟩ := decx34 (show dec34 x = some a from h); exact CW.append (law2.dec _ _ h0) (CW.append (law3.dec _ _ h1) (CW.append (law3.dec _ _ h2) (CW.append (law32.dec _ _ h3) (CW.refl [])))), fun x => by show (((enc2 x.Snap).ok && ((enc3 x.Index).ok && ((enc3 x.Many).ok && ((enc32 x.Data).ok && true))))) = true; simp only [show (enc2 x.Snap).ok = true from law2.ok _, show (enc3 x.Index).ok = true from law3.ok _, show (enc3 x.Many).ok = true from law3.ok _, show (enc32 x.Data).ok = true from law32.ok _, Bool.and_self], fun x a h => by obtain ⟨x0, x1, x2, x3, rfl, h0, h1, h2, h3⟩ := decx34 (show dec34 x = some a from h); show ((x0.ok && (x1.ok && (x2.ok && (x3.ok && true))))) = true; simp only [law2.decok _ _ h0, law3.decok _ _ h1, law3.decok _ _ h2, law32.decok _ _ h3, Bool.and_self], fun x a h => by obtain ⟨x0, x1, x2, x3, rfl, h0, h1, h2, h3⟩ := decx34 (show dec34 x = some a from h); rfl, fun x => by show ((cel2 x.Snap ++ (cel3 x.Index ++ (cel3 x.Many ++ (cel32 x.Data ++ []))))).all AV.one = true; simp only [List.all_append, List.all_nil, show (cel2 x.Snap).all AV.one = true from law2.one _, show (cel3 x.Index).all AV.one = true from law3.one _, show (cel3 x.Many).all AV.one = true from law3.one _, show (cel32 x.Data).all AV.one = true from law32.one _, Bool.and_self], fun x => noids_app (law2.noid x.Snap) (noids_app (law3.noid x.Index) (noids_app (law3.noid x.Many) (noids_app (law32.noid x.Data) (trivial)))), (fun ks h => nomatch h), (fun l s h => nomatch h), (fun s l h => nomatch h)⟩
theorem decx35 {x : TV τ} {a : GEntry} (h : dec35 x = some a) : ∃ x0 x1 x2 x3 x4 x5 x6 x7 x8 x9 x10 x11 x12 x13 x14, x = .agg [x0, x1, x2, x3, x4, x5, x6, x7, x8, x9, x10, x11, x12, x13, x14] ∧ dec3 x0 = some a.Kind ∧ dec2 x1 = some a.Session ∧ dec2 x2 = some a.Request ∧ dec25 x3 = some a.Op ∧ dec3 x4 = some a.Origin ∧ dec2 x5 = some a.Seq ∧ dec26 x6 = some a.Ops ∧ dec31 x7 = some a.Epoch ∧ dec3 x8 = some a.From ∧ dec29 x9 = some a.Vector_ ∧ dec2 x10 = some a.Clock ∧ dec34 x11 = some a.Part ∧ dec3 x12 = some a.Site ∧ dec3 x13 = some a.Sponsor ∧ dec2 x14 = some a.Length := by
  unfold dec35 at h
  split at h
  · rename_i x0 x1 x2 x3 x4 x5 x6 x7 x8 x9 x10 x11 x12 x13 x14
    split at h
    · rename_i a0 h0
      split at h
      · rename_i a1 h1
        split at h
        · rename_i a2 h2
          split at h
          · rename_i a3 h3
            split at h
            · rename_i a4 h4
              split at h
              · rename_i a5 h5
                split at h
                · rename_i a6 h6
                  split at h
                  · rename_i a7 h7
                    split at h
                    · rename_i a8 h8
                      split at h
                      · rename_i a9 h9
                        split at h
                        · rename_i a10 h10
                          split at h
                          · rename_i a11 h11
                            split at h
                            · rename_i a12 h12
                              split at h
                              · rename_i a13 h13
                                split at h
                                · rename_i a14 h14
                                  cases h
                                  exact ⟨_, _, _, _, _, _, _, _, _, _, _, _, _, _, _, rfl, h0, h1, h2, h3, h4, h5, h6, h7, h8, h9, h10, h11, h12, h13, h14⟩
                                · cases h
                              · cases h
                            · cases h
                          · cases h
                        · cases h
                      · cases h
                    · cases h
                  · cases h
                · cases h
              · cases h
            · cases h
          · cases h
        · cases h
      · cases h
    · cases h
  · cases h
theorem law35 : CodAt C 35 := ⟨fun x => by show ((enc3 x.Kind).cells C ++ ((enc2 x.Session).cells C ++ ((enc2 x.Request).cells C ++ ((enc25 x.Op).cells C ++ ((enc3 x.Origin).cells C ++ ((enc2 x.Seq).cells C ++ ((enc26 x.Ops).cells C ++ ((enc31 x.Epoch).cells C ++ ((enc3 x.From).cells C ++ ((enc29 x.Vector_).cells C ++ ((enc2 x.Clock).cells C ++ ((enc34 x.Part).cells C ++ ((enc3 x.Site).cells C ++ ((enc3 x.Sponsor).cells C ++ ((enc2 x.Length).cells C ++ []))))))))))))))) = cel35 x; unfold cel35; exact congr (congrArg (· ++ ·) (law3.cel x.Kind)) (congr (congrArg (· ++ ·) (law2.cel x.Session)) (congr (congrArg (· ++ ·) (law2.cel x.Request)) (congr (congrArg (· ++ ·) (law25.cel x.Op)) (congr (congrArg (· ++ ·) (law3.cel x.Origin)) (congr (congrArg (· ++ ·) (law2.cel x.Seq)) (congr (congrArg (· ++ ·) (law26.cel x.Ops)) (congr (congrArg (· ++ ·) (law31.cel x.Epoch)) (congr (congrArg (· ++ ·) (law3.cel x.From)) (congr (congrArg (· ++ ·) (law29.cel x.Vector_)) (congr (congrArg (· ++ ·) (law2.cel x.Clock)) (congr (congrArg (· ++ ·) (law34.cel x.Part)) (congr (congrArg (· ++ ·) (law3.cel x.Site)) (congr (congrArg (· ++ ·) (law3.cel x.Sponsor)) (congr (congrArg (· ++ ·) (law2.cel x.Length)) (rfl))))))))))))))), fun x => by show ((cel3 x.Kind ++ (cel2 x.Session ++ (cel2 x.Request ++ (cel25 x.Op ++ (cel3 x.Origin ++ (cel2 x.Seq ++ (cel26 x.Ops ++ (cel31 x.Epoch ++ (cel3 x.From ++ (cel29 x.Vector_ ++ (cel2 x.Clock ++ (cel34 x.Part ++ (cel3 x.Site ++ (cel3 x.Sponsor ++ (cel2 x.Length ++ [])))))))))))))))).length = 56; rw [List.length_append, List.length_append, List.length_append, List.length_append, List.length_append, List.length_append, List.length_append, List.length_append, List.length_append, List.length_append, List.length_append, List.length_append, List.length_append, List.length_append, List.length_append]; have e0 : (cel3 x.Kind).length = 1 := law3.len x.Kind; have e1 : (cel2 x.Session).length = 1 := law2.len x.Session; have e2 : (cel2 x.Request).length = 1 := law2.len x.Request; have e3 : (cel25 x.Op).length = 8 := law25.len x.Op; have e4 : (cel3 x.Origin).length = 1 := law3.len x.Origin; have e5 : (cel2 x.Seq).length = 1 := law2.len x.Seq; have e6 : (cel26 x.Ops).length = 1 := law26.len x.Ops; have e7 : (cel31 x.Epoch).length = 25 := law31.len x.Epoch; have e8 : (cel3 x.From).length = 1 := law3.len x.From; have e9 : (cel29 x.Vector_).length = 8 := law29.len x.Vector_; have e10 : (cel2 x.Clock).length = 1 := law2.len x.Clock; have e11 : (cel34 x.Part).length = 4 := law34.len x.Part; have e12 : (cel3 x.Site).length = 1 := law3.len x.Site; have e13 : (cel3 x.Sponsor).length = 1 := law3.len x.Sponsor; have e14 : (cel2 x.Length).length = 1 := law2.len x.Length; simp only [e0, e1, e2, e3, e4, e5, e6, e7, e8, e9, e10, e11, e12, e13, e14, List.length_nil], fun x a h => by obtain ⟨x0, x1, x2, x3, x4, x5, x6, x7, x8, x9, x10, x11, x12, x13, x14, rfl, h0, h1, h2, h3, h4, h5, h6, h7, h8, h9, h10, h11, h12, h13, h14⟩ := decx35 (show dec35 x = some a from h); exact CW.append (law3.dec _ _ h0) (CW.append (law2.dec _ _ h1) (CW.append (law2.dec _ _ h2) (CW.append (law25.dec _ _ h3) (CW.append (law3.dec _ _ h4) (CW.append (law2.dec _ _ h5) (CW.append (law26.dec _ _ h6) (CW.append (law31.dec _ _ h7) (CW.append (law3.dec _ _ h8) (CW.append (law29.dec _ _ h9) (CW.append (law2.dec _ _ h10) (CW.append (law34.dec _ _ h11) (CW.append (law3.dec _ _ h12) (CW.append (law3.dec _ _ h13) (CW.append (law2.dec _ _ h14) (CW.refl []))))))))))))))), fun x => by show (((enc3 x.Kind).ok && ((enc2 x.Session).ok && ((enc2 x.Request).ok && ((enc25 x.Op).ok && ((enc3 x.Origin).ok && ((enc2 x.Seq).ok && ((enc26 x.Ops).ok && ((enc31 x.Epoch).ok && ((enc3 x.From).ok && ((enc29 x.Vector_).ok && ((enc2 x.Clock).ok && ((enc34 x.Part).ok && ((enc3 x.Site).ok && ((enc3 x.Sponsor).ok && ((enc2 x.Length).ok && true)))))))))))))))) = true; simp only [show (enc3 x.Kind).ok = true from law3.ok _, show (enc2 x.Session).ok = true from law2.ok _, show (enc2 x.Request).ok = true from law2.ok _, show (enc25 x.Op).ok = true from law25.ok _, show (enc3 x.Origin).ok = true from law3.ok _, show (enc2 x.Seq).ok = true from law2.ok _, show (enc26 x.Ops).ok = true from law26.ok _, show (enc31 x.Epoch).ok = true from law31.ok _, show (enc3 x.From).ok = true from law3.ok _, show (enc29 x.Vector_).ok = true from law29.ok _, show (enc2 x.Clock).ok = true from law2.ok _, show (enc34 x.Part).ok = true from law34.ok _, show (enc3 x.Site).ok = true from law3.ok _, show (enc3 x.Sponsor).ok = true from law3.ok _, show (enc2 x.Length).ok = true from law2.ok _, Bool.and_self], fun x a h => by obtain ⟨x0, x1, x2, x3, x4, x5, x6, x7, x8, x9, x10, x11, x12, x13, x14, rfl, h0, h1, h2, h3, h4, h5, h6, h7, h8, h9, h10, h11, h12, h13, h14⟩ := decx35 (show dec35 x = some a from h); show ((x0.ok && (x1.ok && (x2.ok && (x3.ok && (x4.ok && (x5.ok && (x6.ok && (x7.ok && (x8.ok && (x9.ok && (x10.ok && (x11.ok && (x12.ok && (x13.ok && (x14.ok && true)))))))))))))))) = true; simp only [law3.decok _ _ h0, law2.decok _ _ h1, law2.decok _ _ h2, law25.decok _ _ h3, law3.decok _ _ h4, law2.decok _ _ h5, law26.decok _ _ h6, law31.decok _ _ h7, law3.decok _ _ h8, law29.decok _ _ h9, law2.decok _ _ h10, law34.decok _ _ h11, law3.decok _ _ h12, law3.decok _ _ h13, law2.decok _ _ h14, Bool.and_self], fun x a h => by obtain ⟨x0, x1, x2, x3, x4, x5, x6, x7, x8, x9, x10, x11, x12, x13, x14, rfl, h0, h1, h2, h3, h4, h5, h6, h7, h8, h9, h10, h11, h12, h13, h14⟩ := decx35 (show dec35 x = some a from h); rfl, fun x => by show ((cel3 x.Kind ++ (cel2 x.Session ++ (cel2 x.Request ++ (cel25 x.Op ++ (cel3 x.Origin ++ (cel2 x.Seq ++ (cel26 x.Ops ++ (cel31 x.Epoch ++ (cel3 x.From ++ (cel29 x.Vector_ ++ (cel2 x.Clock ++ (cel34 x.Part ++ (cel3 x.Site ++ (cel3 x.Sponsor ++ (cel2 x.Length ++ [])))))))))))))))).all AV.one = true; simp only [List.all_append, List.all_nil, show (cel3 x.Kind).all AV.one = true from law3.one _, show (cel2 x.Session).all AV.one = true from law2.one _, show (cel2 x.Request).all AV.one = true from law2.one _, show (cel25 x.Op).all AV.one = true from law25.one _, show (cel3 x.Origin).all AV.one = true from law3.one _, show (cel2 x.Seq).all AV.one = true from law2.one _, show (cel26 x.Ops).all AV.one = true from law26.one _, show (cel31 x.Epoch).all AV.one = true from law31.one _, show (cel3 x.From).all AV.one = true from law3.one _, show (cel29 x.Vector_).all AV.one = true from law29.one _, show (cel2 x.Clock).all AV.one = true from law2.one _, show (cel34 x.Part).all AV.one = true from law34.one _, show (cel3 x.Site).all AV.one = true from law3.one _, show (cel3 x.Sponsor).all AV.one = true from law3.one _, show (cel2 x.Length).all AV.one = true from law2.one _, Bool.and_self], fun x => noids_app (law3.noid x.Kind) (noids_app (law2.noid x.Session) (noids_app (law2.noid x.Request) (noids_app (law25.noid x.Op) (noids_app (law3.noid x.Origin) (noids_app (law2.noid x.Seq) (noids_app (law26.noid x.Ops) (noids_app (law31.noid x.Epoch) (noids_app (law3.noid x.From) (noids_app (law29.noid x.Vector_) (noids_app (law2.noid x.Clock) (noids_app (law34.noid x.Part) (noids_app (law3.noid x.Site) (noids_app (law3.noid x.Sponsor) (noids_app (law2.noid x.Length) (trivial))))))))))))))), (fun ks h => nomatch h), (fun l s h => nomatch h), (fun s l h => nomatch h)⟩
theorem decx36 {x : TV τ} {a : GEntry} (h : dec36 x = some a) : ∃ x0 x1 x2 x3 x4 x5 x6 x7 x8 x9 x10 x11 x12 x13 x14, x = .agg [x0, x1, x2, x3, x4, x5, x6, x7, x8, x9, x10, x11, x12, x13, x14] ∧ dec3 x0 = some a.Kind ∧ dec2 x1 = some a.Session ∧ dec2 x2 = some a.Request ∧ dec25 x3 = some a.Op ∧ dec3 x4 = some a.Origin ∧ dec2 x5 = some a.Seq ∧ dec26 x6 = some a.Ops ∧ dec31 x7 = some a.Epoch ∧ dec3 x8 = some a.From ∧ dec29 x9 = some a.Vector_ ∧ dec2 x10 = some a.Clock ∧ dec34 x11 = some a.Part ∧ dec3 x12 = some a.Site ∧ dec3 x13 = some a.Sponsor ∧ dec2 x14 = some a.Length := by
  unfold dec36 at h
  split at h
  · rename_i x0 x1 x2 x3 x4 x5 x6 x7 x8 x9 x10 x11 x12 x13 x14
    split at h
    · rename_i a0 h0
      split at h
      · rename_i a1 h1
        split at h
        · rename_i a2 h2
          split at h
          · rename_i a3 h3
            split at h
            · rename_i a4 h4
              split at h
              · rename_i a5 h5
                split at h
                · rename_i a6 h6
                  split at h
                  · rename_i a7 h7
                    split at h
                    · rename_i a8 h8
                      split at h
                      · rename_i a9 h9
                        split at h
                        · rename_i a10 h10
                          split at h
                          · rename_i a11 h11
                            split at h
                            · rename_i a12 h12
                              split at h
                              · rename_i a13 h13
                                split at h
                                · rename_i a14 h14
                                  cases h
                                  exact ⟨_, _, _, _, _, _, _, _, _, _, _, _, _, _, _, rfl, h0, h1, h2, h3, h4, h5, h6, h7, h8, h9, h10, h11, h12, h13, h14⟩
                                · cases h
                              · cases h
                            · cases h
                          · cases h
                        · cases h
                      · cases h
                    · cases h
                  · cases h
                · cases h
              · cases h
            · cases h
          · cases h
        · cases h
      · cases h
    · cases h
  · cases h
theorem law36 : CodAt C 36 := ⟨fun x => by show ((enc3 x.Kind).cells C ++ ((enc2 x.Session).cells C ++ ((enc2 x.Request).cells C ++ ((enc25 x.Op).cells C ++ ((enc3 x.Origin).cells C ++ ((enc2 x.Seq).cells C ++ ((enc26 x.Ops).cells C ++ ((enc31 x.Epoch).cells C ++ ((enc3 x.From).cells C ++ ((enc29 x.Vector_).cells C ++ ((enc2 x.Clock).cells C ++ ((enc34 x.Part).cells C ++ ((enc3 x.Site).cells C ++ ((enc3 x.Sponsor).cells C ++ ((enc2 x.Length).cells C ++ []))))))))))))))) = cel36 x; unfold cel36; exact congr (congrArg (· ++ ·) (law3.cel x.Kind)) (congr (congrArg (· ++ ·) (law2.cel x.Session)) (congr (congrArg (· ++ ·) (law2.cel x.Request)) (congr (congrArg (· ++ ·) (law25.cel x.Op)) (congr (congrArg (· ++ ·) (law3.cel x.Origin)) (congr (congrArg (· ++ ·) (law2.cel x.Seq)) (congr (congrArg (· ++ ·) (law26.cel x.Ops)) (congr (congrArg (· ++ ·) (law31.cel x.Epoch)) (congr (congrArg (· ++ ·) (law3.cel x.From)) (congr (congrArg (· ++ ·) (law29.cel x.Vector_)) (congr (congrArg (· ++ ·) (law2.cel x.Clock)) (congr (congrArg (· ++ ·) (law34.cel x.Part)) (congr (congrArg (· ++ ·) (law3.cel x.Site)) (congr (congrArg (· ++ ·) (law3.cel x.Sponsor)) (congr (congrArg (· ++ ·) (law2.cel x.Length)) (rfl))))))))))))))), fun x => by show ((cel3 x.Kind ++ (cel2 x.Session ++ (cel2 x.Request ++ (cel25 x.Op ++ (cel3 x.Origin ++ (cel2 x.Seq ++ (cel26 x.Ops ++ (cel31 x.Epoch ++ (cel3 x.From ++ (cel29 x.Vector_ ++ (cel2 x.Clock ++ (cel34 x.Part ++ (cel3 x.Site ++ (cel3 x.Sponsor ++ (cel2 x.Length ++ [])))))))))))))))).length = 56; rw [List.length_append, List.length_append, List.length_append, List.length_append, List.length_append, List.length_append, List.length_append, List.length_append, List.length_append, List.length_append, List.length_append, List.length_append, List.length_append, List.length_append, List.length_append]; have e0 : (cel3 x.Kind).length = 1 := law3.len x.Kind; have e1 : (cel2 x.Session).length = 1 := law2.len x.Session; have e2 : (cel2 x.Request).length = 1 := law2.len x.Request; have e3 : (cel25 x.Op).length = 8 := law25.len x.Op; have e4 : (cel3 x.Origin).length = 1 := law3.len x.Origin; have e5 : (cel2 x.Seq).length = 1 := law2.len x.Seq; have e6 : (cel26 x.Ops).length = 1 := law26.len x.Ops; have e7 : (cel31 x.Epoch).length = 25 := law31.len x.Epoch; have e8 : (cel3 x.From).length = 1 := law3.len x.From; have e9 : (cel29 x.Vector_).length = 8 := law29.len x.Vector_; have e10 : (cel2 x.Clock).length = 1 := law2.len x.Clock; have e11 : (cel34 x.Part).length = 4 := law34.len x.Part; have e12 : (cel3 x.Site).length = 1 := law3.len x.Site; have e13 : (cel3 x.Sponsor).length = 1 := law3.len x.Sponsor; have e14 : (cel2 x.Length).length = 1 := law2.len x.Length; simp only [e0, e1, e2, e3, e4, e5, e6, e7, e8, e9, e10, e11, e12, e13, e14, List.length_nil], fun x a h => by obtain ⟨x0, x1, x2, x3, x4, x5, x6, x7, x8, x9, x10, x11, x12, x13, x14, rfl, h0, h1, h2, h3, h4, h5, h6, h7, h8, h9, h10, h11, h12, h13, h14⟩ := decx36 (show dec36 x = some a from h); exact CW.append (law3.dec _ _ h0) (CW.append (law2.dec _ _ h1) (CW.append (law2.dec _ _ h2) (CW.append (law25.dec _ _ h3) (CW.append (law3.dec _ _ h4) (CW.append (law2.dec _ _ h5) (CW.append (law26.dec _ _ h6) (CW.append (law31.dec _ _ h7) (CW.append (law3.dec _ _ h8) (CW.append (law29.dec _ _ h9) (CW.append (law2.dec _ _ h10) (CW.append (law34.dec _ _ h11) (CW.append (law3.dec _ _ h12) (CW.append (law3.dec _ _ h13) (CW.append (law2.dec _ _ h14) (CW.refl []))))))))))))))), fun x => by show (((enc3 x.Kind).ok && ((enc2 x.Session).ok && ((enc2 x.Request).ok && ((enc25 x.Op).ok && ((enc3 x.Origin).ok && ((enc2 x.Seq).ok && ((enc26 x.Ops).ok && ((enc31 x.Epoch).ok && ((enc3 x.From).ok && ((enc29 x.Vector_).ok && ((enc2 x.Clock).ok && ((enc34 x.Part).ok && ((enc3 x.Site).ok && ((enc3 x.Sponsor).ok && ((enc2 x.Length).ok && true)))))))))))))))) = true; simp only [show (enc3 x.Kind).ok = true from law3.ok _, show (enc2 x.Session).ok = true from law2.ok _, show (enc2 x.Request).ok = true from law2.ok _, show (enc25 x.Op).ok = true from law25.ok _, show (enc3 x.Origin).ok = true from law3.ok _, show (enc2 x.Seq).ok = true from law2.ok _, show (enc26 x.Ops).ok = true from law26.ok _, show (enc31 x.Epoch).ok = true from law31.ok _, show (enc3 x.From).ok = true from law3.ok _, show (enc29 x.Vector_).ok = true from law29.ok _, show (enc2 x.Clock).ok = true from law2.ok _, show (enc34 x.Part).ok = true from law34.ok _, show (enc3 x.Site).ok = true from law3.ok _, show (enc3 x.Sponsor).ok = true from law3.ok _, show (enc2 x.Length).ok = true from law2.ok _, Bool.and_self], fun x a h => by obtain ⟨x0, x1, x2, x3, x4, x5, x6, x7, x8, x9, x10, x11, x12, x13, x14, rfl, h0, h1, h2, h3, h4, h5, h6, h7, h8, h9, h10, h11, h12, h13, h14⟩ := decx36 (show dec36 x = some a from h); show ((x0.ok && (x1.ok && (x2.ok && (x3.ok && (x4.ok && (x5.ok && (x6.ok && (x7.ok && (x8.ok && (x9.ok && (x10.ok && (x11.ok && (x12.ok && (x13.ok && (x14.ok && true)))))))))))))))) = true; simp only [law3.decok _ _ h0, law2.decok _ _ h1, law2.decok _ _ h2, law25.decok _ _ h3, law3.decok _ _ h4, law2.decok _ _ h5, law26.decok _ _ h6, law31.decok _ _ h7, law3.decok _ _ h8, law29.decok _ _ h9, law2.decok _ _ h10, law34.decok _ _ h11, law3.decok _ _ h12, law3.decok _ _ h13, law2.decok _ _ h14, Bool.and_self], fun x a h => by obtain ⟨x0, x1, x2, x3, x4, x5, x6, x7, x8, x9, x10, x11, x12, x13, x14, rfl, h0, h1, h2, h3, h4, h5, h6, h7, h8, h9, h10, h11, h12, h13, h14⟩ := decx36 (show dec36 x = some a from h); rfl, fun x => by show ((cel3 x.Kind ++ (cel2 x.Session ++ (cel2 x.Request ++ (cel25 x.Op ++ (cel3 x.Origin ++ (cel2 x.Seq ++ (cel26 x.Ops ++ (cel31 x.Epoch ++ (cel3 x.From ++ (cel29 x.Vector_ ++ (cel2 x.Clock ++ (cel34 x.Part ++ (cel3 x.Site ++ (cel3 x.Sponsor ++ (cel2 x.Length ++ [])))))))))))))))).all AV.one = true; simp only [List.all_append, List.all_nil, show (cel3 x.Kind).all AV.one = true from law3.one _, show (cel2 x.Session).all AV.one = true from law2.one _, show (cel2 x.Request).all AV.one = true from law2.one _, show (cel25 x.Op).all AV.one = true from law25.one _, show (cel3 x.Origin).all AV.one = true from law3.one _, show (cel2 x.Seq).all AV.one = true from law2.one _, show (cel26 x.Ops).all AV.one = true from law26.one _, show (cel31 x.Epoch).all AV.one = true from law31.one _, show (cel3 x.From).all AV.one = true from law3.one _, show (cel29 x.Vector_).all AV.one = true from law29.one _, show (cel2 x.Clock).all AV.one = true from law2.one _, show (cel34 x.Part).all AV.one = true from law34.one _, show (cel3 x.Site).all AV.one = true from law3.one _, show (cel3 x.Sponsor).all AV.one = true from law3.one _, show (cel2 x.Length).all AV.one = true from law2.one _, Bool.and_self], fun x => noids_app (law3.noid x.Kind) (noids_app (law2.noid x.Session) (noids_app (law2.noid x.Request) (noids_app (law25.noid x.Op) (noids_app (law3.noid x.Origin) (noids_app (law2.noid x.Seq) (noids_app (law26.noid x.Ops) (noids_app (law31.noid x.Epoch) (noids_app (law3.noid x.From) (noids_app (law29.noid x.Vector_) (noids_app (law2.noid x.Clock) (noids_app (law34.noid x.Part) (noids_app (law3.noid x.Site) (noids_app (law3.noid x.Sponsor) (noids_app (law2.noid x.Length) (trivial))))))))))))))), (fun ks h => nomatch h), (fun l s h => nomatch h), (fun s l h => nomatch h)⟩
theorem law38 : CodAt C 38 := ⟨fun x => rfl, fun x => rfl, fun x a h => by rw [dInt_x (show dInt .i64 x = some a from h)]; exact .refl _, fun x => rfl, fun x a h => by rw [dInt_x (show dInt .i64 x = some a from h)]; rfl, fun x a h => by rw [dInt_x (show dInt .i64 x = some a from h)]; rfl, fun a => rfl, fun a => noids_one (NoId.v _), fun ks h a b => by cases h; simp [eqCells, scal, C, celT, cel38, beqT, beq38], (fun l s h => nomatch h), (fun s l h => nomatch h)⟩
theorem decx44 {x : TV τ} {a : GAddr} (h : dec44 x = some a) : ∃ x0 x1, x = .agg [x0, x1] ∧ dec3 x0 = some a.Group ∧ dec3 x1 = some a.Replica := by
  unfold dec44 at h
  split at h
  · rename_i x0 x1
    split at h
    · rename_i a0 h0
      split at h
      · rename_i a1 h1
        cases h
        exact ⟨_, _, rfl, h0, h1⟩
      · cases h
    · cases h
  · cases h
theorem law44 : CodAt C 44 := ⟨fun x => by show ((enc3 x.Group).cells C ++ ((enc3 x.Replica).cells C ++ [])) = cel44 x; unfold cel44; exact congr (congrArg (· ++ ·) (law3.cel x.Group)) (congr (congrArg (· ++ ·) (law3.cel x.Replica)) (rfl)), fun x => by show ((cel3 x.Group ++ (cel3 x.Replica ++ []))).length = 2; rw [List.length_append, List.length_append]; have e0 : (cel3 x.Group).length = 1 := law3.len x.Group; have e1 : (cel3 x.Replica).length = 1 := law3.len x.Replica; simp only [e0, e1, List.length_nil], fun x a h => by obtain ⟨x0, x1, rfl, h0, h1⟩ := decx44 (show dec44 x = some a from h); exact CW.append (law3.dec _ _ h0) (CW.append (law3.dec _ _ h1) (CW.refl [])), fun x => by show (((enc3 x.Group).ok && ((enc3 x.Replica).ok && true))) = true; simp only [show (enc3 x.Group).ok = true from law3.ok _, show (enc3 x.Replica).ok = true from law3.ok _, Bool.and_self], fun x a h => by obtain ⟨x0, x1, rfl, h0, h1⟩ := decx44 (show dec44 x = some a from h); show ((x0.ok && (x1.ok && true))) = true; simp only [law3.decok _ _ h0, law3.decok _ _ h1, Bool.and_self], fun x a h => by obtain ⟨x0, x1, rfl, h0, h1⟩ := decx44 (show dec44 x = some a from h); rfl, fun x => by show ((cel3 x.Group ++ (cel3 x.Replica ++ []))).all AV.one = true; simp only [List.all_append, List.all_nil, show (cel3 x.Group).all AV.one = true from law3.one _, show (cel3 x.Replica).all AV.one = true from law3.one _, Bool.and_self], fun x => noids_app (law3.noid x.Group) (noids_app (law3.noid x.Replica) (trivial)), fun ks h a b => by have := eqCells_append (law3.kd _ rfl a.Group b.Group) (eqCells_append (law3.kd _ rfl a.Replica b.Replica) ((show eqCells [] [] [] = some true from rfl))); cases h; exact this, (fun l s h => nomatch h), (fun s l h => nomatch h)⟩
theorem decx45 {x : TV τ} {a : GAddr} (h : dec45 x = some a) : ∃ x0 x1, x = .agg [x0, x1] ∧ dec3 x0 = some a.Group ∧ dec3 x1 = some a.Replica := by
  unfold dec45 at h
  split at h
  · rename_i x0 x1
    split at h
    · rename_i a0 h0
      split at h
      · rename_i a1 h1
        cases h
        exact ⟨_, _, rfl, h0, h1⟩
      · cases h
    · cases h
  · cases h
theorem law45 : CodAt C 45 := ⟨fun x => by show ((enc3 x.Group).cells C ++ ((enc3 x.Replica).cells C ++ [])) = cel45 x; unfold cel45; exact congr (congrArg (· ++ ·) (law3.cel x.Group)) (congr (congrArg (· ++ ·) (law3.cel x.Replica)) (rfl)), fun x => by show ((cel3 x.Group ++ (cel3 x.Replica ++ []))).length = 2; rw [List.length_append, List.length_append]; have e0 : (cel3 x.Group).length = 1 := law3.len x.Group; have e1 : (cel3 x.Replica).length = 1 := law3.len x.Replica; simp only [e0, e1, List.length_nil], fun x a h => by obtain ⟨x0, x1, rfl, h0, h1⟩ := decx45 (show dec45 x = some a from h); exact CW.append (law3.dec _ _ h0) (CW.append (law3.dec _ _ h1) (CW.refl [])), fun x => by show (((enc3 x.Group).ok && ((enc3 x.Replica).ok && true))) = true; simp only [show (enc3 x.Group).ok = true from law3.ok _, show (enc3 x.Replica).ok = true from law3.ok _, Bool.and_self], fun x a h => by obtain ⟨x0, x1, rfl, h0, h1⟩ := decx45 (show dec45 x = some a from h); show ((x0.ok && (x1.ok && true))) = true; simp only [law3.decok _ _ h0, law3.decok _ _ h1, Bool.and_self], fun x a h => by obtain ⟨x0, x1, rfl, h0, h1⟩ := decx45 (show dec45 x = some a from h); rfl, fun x => by show ((cel3 x.Group ++ (cel3 x.Replica ++ []))).all AV.one = true; simp only [List.all_append, List.all_nil, show (cel3 x.Group).all AV.one = true from law3.one _, show (cel3 x.Replica).all AV.one = true from law3.one _, Bool.and_self], fun x => noids_app (law3.noid x.Group) (noids_app (law3.noid x.Replica) (trivial)), fun ks h a b => by have := eqCells_append (law3.kd _ rfl a.Group b.Group) (eqCells_append (law3.kd _ rfl a.Replica b.Replica) ((show eqCells [] [] [] = some true from rfl))); cases h; exact this, (fun l s h => nomatch h), (fun s l h => nomatch h)⟩
theorem decx46 {x : TV τ} {a : GBallot} (h : dec46 x = some a) : ∃ x0 x1, x = .agg [x0, x1] ∧ dec2 x0 = some a.Round ∧ dec3 x1 = some a.Replica := by
  unfold dec46 at h
  split at h
  · rename_i x0 x1
    split at h
    · rename_i a0 h0
      split at h
      · rename_i a1 h1
        cases h
        exact ⟨_, _, rfl, h0, h1⟩
      · cases h
    · cases h
  · cases h
theorem law46 : CodAt C 46 := ⟨fun x => by show ((enc2 x.Round).cells C ++ ((enc3 x.Replica).cells C ++ [])) = cel46 x; unfold cel46; exact congr (congrArg (· ++ ·) (law2.cel x.Round)) (congr (congrArg (· ++ ·) (law3.cel x.Replica)) (rfl)), fun x => by show ((cel2 x.Round ++ (cel3 x.Replica ++ []))).length = 2; rw [List.length_append, List.length_append]; have e0 : (cel2 x.Round).length = 1 := law2.len x.Round; have e1 : (cel3 x.Replica).length = 1 := law3.len x.Replica; simp only [e0, e1, List.length_nil], fun x a h => by obtain ⟨x0, x1, rfl, h0, h1⟩ := decx46 (show dec46 x = some a from h); exact CW.append (law2.dec _ _ h0) (CW.append (law3.dec _ _ h1) (CW.refl [])), fun x => by show (((enc2 x.Round).ok && ((enc3 x.Replica).ok && true))) = true; simp only [show (enc2 x.Round).ok = true from law2.ok _, show (enc3 x.Replica).ok = true from law3.ok _, Bool.and_self], fun x a h => by obtain ⟨x0, x1, rfl, h0, h1⟩ := decx46 (show dec46 x = some a from h); show ((x0.ok && (x1.ok && true))) = true; simp only [law2.decok _ _ h0, law3.decok _ _ h1, Bool.and_self], fun x a h => by obtain ⟨x0, x1, rfl, h0, h1⟩ := decx46 (show dec46 x = some a from h); rfl, fun x => by show ((cel2 x.Round ++ (cel3 x.Replica ++ []))).all AV.one = true; simp only [List.all_append, List.all_nil, show (cel2 x.Round).all AV.one = true from law2.one _, show (cel3 x.Replica).all AV.one = true from law3.one _, Bool.and_self], fun x => noids_app (law2.noid x.Round) (noids_app (law3.noid x.Replica) (trivial)), fun ks h a b => by have := eqCells_append (law2.kd _ rfl a.Round b.Round) (eqCells_append (law3.kd _ rfl a.Replica b.Replica) ((show eqCells [] [] [] = some true from rfl))); cases h; exact this, (fun l s h => nomatch h), (fun s l h => nomatch h)⟩
theorem decx47 {x : TV τ} {a : GBallot} (h : dec47 x = some a) : ∃ x0 x1, x = .agg [x0, x1] ∧ dec2 x0 = some a.Round ∧ dec3 x1 = some a.Replica := by
  unfold dec47 at h
  split at h
  · rename_i x0 x1
    split at h
    · rename_i a0 h0
      split at h
      · rename_i a1 h1
        cases h
        exact ⟨_, _, rfl, h0, h1⟩
      · cases h
    · cases h
  · cases h
theorem law47 : CodAt C 47 := ⟨fun x => by show ((enc2 x.Round).cells C ++ ((enc3 x.Replica).cells C ++ [])) = cel47 x; unfold cel47; exact congr (congrArg (· ++ ·) (law2.cel x.Round)) (congr (congrArg (· ++ ·) (law3.cel x.Replica)) (rfl)), fun x => by show ((cel2 x.Round ++ (cel3 x.Replica ++ []))).length = 2; rw [List.length_append, List.length_append]; have e0 : (cel2 x.Round).length = 1 := law2.len x.Round; have e1 : (cel3 x.Replica).length = 1 := law3.len x.Replica; simp only [e0, e1, List.length_nil], fun x a h => by obtain ⟨x0, x1, rfl, h0, h1⟩ := decx47 (show dec47 x = some a from h); exact CW.append (law2.dec _ _ h0) (CW.append (law3.dec _ _ h1) (CW.refl [])), fun x => by show (((enc2 x.Round).ok && ((enc3 x.Replica).ok && true))) = true; simp only [show (enc2 x.Round).ok = true from law2.ok _, show (enc3 x.Replica).ok = true from law3.ok _, Bool.and_self], fun x a h => by obtain ⟨x0, x1, rfl, h0, h1⟩ := decx47 (show dec47 x = some a from h); show ((x0.ok && (x1.ok && true))) = true; simp only [law2.decok _ _ h0, law3.decok _ _ h1, Bool.and_self], fun x a h => by obtain ⟨x0, x1, rfl, h0, h1⟩ := decx47 (show dec47 x = some a from h); rfl, fun x => by show ((cel2 x.Round ++ (cel3 x.Replica ++ []))).all AV.one = true; simp only [List.all_append, List.all_nil, show (cel2 x.Round).all AV.one = true from law2.one _, show (cel3 x.Replica).all AV.one = true from law3.one _, Bool.and_self], fun x => noids_app (law2.noid x.Round) (noids_app (law3.noid x.Replica) (trivial)), fun ks h a b => by have := eqCells_append (law2.kd _ rfl a.Round b.Round) (eqCells_append (law3.kd _ rfl a.Replica b.Replica) ((show eqCells [] [] [] = some true from rfl))); cases h; exact this, (fun l s h => nomatch h), (fun s l h => nomatch h)⟩
theorem decx80 {x : TV τ} {a : GSlotted} (h : dec80 x = some a) : ∃ x0 x1 x2, x = .agg [x0, x1, x2] ∧ dec2 x0 = some a.Slot ∧ dec47 x1 = some a.Ballot ∧ dec36 x2 = some a.Entry := by
  unfold dec80 at h
  split at h
  · rename_i x0 x1 x2
    split at h
    · rename_i a0 h0
      split at h
      · rename_i a1 h1
        split at h
        · rename_i a2 h2
          cases h
          exact ⟨_, _, _, rfl, h0, h1, h2⟩
        · cases h
      · cases h
    · cases h
  · cases h
theorem law80 : CodAt C 80 := ⟨fun x => by show ((enc2 x.Slot).cells C ++ ((enc47 x.Ballot).cells C ++ ((enc36 x.Entry).cells C ++ []))) = cel80 x; unfold cel80; exact congr (congrArg (· ++ ·) (law2.cel x.Slot)) (congr (congrArg (· ++ ·) (law47.cel x.Ballot)) (congr (congrArg (· ++ ·) (law36.cel x.Entry)) (rfl))), fun x => by show ((cel2 x.Slot ++ (cel47 x.Ballot ++ (cel36 x.Entry ++ [])))).length = 59; rw [List.length_append, List.length_append, List.length_append]; have e0 : (cel2 x.Slot).length = 1 := law2.len x.Slot; have e1 : (cel47 x.Ballot).length = 2 := law47.len x.Ballot; have e2 : (cel36 x.Entry).length = 56 := law36.len x.Entry; simp only [e0, e1, e2, List.length_nil], fun x a h => by obtain ⟨x0, x1, x2, rfl, h0, h1, h2⟩ := decx80 (show dec80 x = some a from h); exact CW.append (law2.dec _ _ h0) (CW.append (law47.dec _ _ h1) (CW.append (law36.dec _ _ h2) (CW.refl []))), fun x => by show (((enc2 x.Slot).ok && ((enc47 x.Ballot).ok && ((enc36 x.Entry).ok && true)))) = true; simp only [show (enc2 x.Slot).ok = true from law2.ok _, show (enc47 x.Ballot).ok = true from law47.ok _, show (enc36 x.Entry).ok = true from law36.ok _, Bool.and_self], fun x a h => by obtain ⟨x0, x1, x2, rfl, h0, h1, h2⟩ := decx80 (show dec80 x = some a from h); show ((x0.ok && (x1.ok && (x2.ok && true)))) = true; simp only [law2.decok _ _ h0, law47.decok _ _ h1, law36.decok _ _ h2, Bool.and_self], fun x a h => by obtain ⟨x0, x1, x2, rfl, h0, h1, h2⟩ := decx80 (show dec80 x = some a from h); rfl, fun x => by show ((cel2 x.Slot ++ (cel47 x.Ballot ++ (cel36 x.Entry ++ [])))).all AV.one = true; simp only [List.all_append, List.all_nil, show (cel2 x.Slot).all AV.one = true from law2.one _, show (cel47 x.Ballot).all AV.one = true from law47.one _, show (cel36 x.Entry).all AV.one = true from law36.one _, Bool.and_self], fun x => noids_app (law2.noid x.Slot) (noids_app (law47.noid x.Ballot) (noids_app (law36.noid x.Entry) (trivial))), (fun ks h => nomatch h), (fun l s h => nomatch h), (fun s l h => nomatch h)⟩
theorem law48 : CodAt C 48 := ⟨fun x => rfl, fun x => rfl, fun x a h => (dSl_cw (C := C) (show dSl 80 x = some a from h)).1, fun x => rfl, fun x a h => (dSl_cw (C := C) (show dSl 80 x = some a from h)).2.1, fun x a h => (dSl_cw (C := C) (show dSl 80 x = some a from h)).2.2, fun a => rfl, fun a => noids_one (NoId.asl fun cs hc => by obtain ⟨y, _, rfl⟩ := List.mem_map.1 hc; exact law80.noid y), (fun ks h => nomatch h), (fun l s h => nomatch h), (fun s l h => nomatch h)⟩
theorem decx49 {x : TV τ} {a : GMsg} (h : dec49 x = some a) : ∃ x0 x1 x2 x3 x4 x5 x6 x7 x8 x9 x10 x11 x12 x13, x = .agg [x0, x1, x2, x3, x4, x5, x6, x7, x8, x9, x10, x11, x12, x13] ∧ dec3 x0 = some a.Kind ∧ dec45 x1 = some a.From ∧ dec45 x2 = some a.To ∧ dec47 x3 = some a.Ballot ∧ dec2 x4 = some a.Slot ∧ dec48 x5 = some a.List_ ∧ dec36 x6 = some a.Entry ∧ dec2 x7 = some a.Number ∧ dec29 x8 = some a.Vector_ ∧ dec2 x9 = some a.Clock ∧ dec3 x10 = some a.Origin ∧ dec26 x11 = some a.Ops ∧ dec31 x12 = some a.Epoch ∧ dec34 x13 = some a.Part := by
  unfold dec49 at h
  split at h
  · rename_i x0 x1 x2 x3 x4 x5 x6 x7 x8 x9 x10 x11 x12 x13
    split at h
    · rename_i a0 h0
      split at h
      · rename_i a1 h1
        split at h
        · rename_i a2 h2
          split at h
          · rename_i a3 h3
            split at h
            · rename_i a4 h4
              split at h
              · rename_i a5 h5
                split at h
                · rename_i a6 h6
                  split at h
                  · rename_i a7 h7
                    split at h
                    · rename_i a8 h8
                      split at h
                      · rename_i a9 h9
                        split at h
                        · rename_i a10 h10
                          split at h
                          · rename_i a11 h11
                            split at h
                            · rename_i a12 h12
                              split at h
                              · rename_i a13 h13
                                cases h
                                exact ⟨_, _, _, _, _, _, _, _, _, _, _, _, _, _, rfl, h0, h1, h2, h3, h4, h5, h6, h7, h8, h9, h10, h11, h12, h13⟩
                              · cases h
                            · cases h
                          · cases h
                        · cases h
                      · cases h
                    · cases h
                  · cases h
                · cases h
              · cases h
            · cases h
          · cases h
        · cases h
      · cases h
    · cases h
  · cases h
theorem law49 : CodAt C 49 := ⟨fun x => by show ((enc3 x.Kind).cells C ++ ((enc45 x.From).cells C ++ ((enc45 x.To).cells C ++ ((enc47 x.Ballot).cells C ++ ((enc2 x.Slot).cells C ++ ((enc48 x.List_).cells C ++ ((enc36 x.Entry).cells C ++ ((enc2 x.Number).cells C ++ ((enc29 x.Vector_).cells C ++ ((enc2 x.Clock).cells C ++ ((enc3 x.Origin).cells C ++ ((enc26 x.Ops).cells C ++ ((enc31 x.Epoch).cells C ++ ((enc34 x.Part).cells C ++ [])))))))))))))) = cel49 x; unfold cel49; exact congr (congrArg (· ++ ·) (law3.cel x.Kind)) (congr (congrArg (· ++ ·) (law45.cel x.From)) (congr (congrArg (· ++ ·) (law45.cel x.To)) (congr (congrArg (· ++ ·) (law47.cel x.Ballot)) (congr (congrArg (· ++ ·) (law2.cel x.Slot)) (congr (congrArg (· ++ ·) (law48.cel x.List_)) (congr (congrArg (· ++ ·) (law36.cel x.Entry)) (congr (congrArg (· ++ ·) (law2.cel x.Number)) (congr (congrArg (· ++ ·) (law29.cel x.Vector_)) (congr (congrArg (· ++ ·) (law2.cel x.Clock)) (congr (congrArg (· ++ ·) (law3.cel x.Origin)) (congr (congrArg (· ++ ·) (law26.cel x.Ops)) (congr (congrArg (· ++ ·) (law31.cel x.Epoch)) (congr (congrArg (· ++ ·) (law34.cel x.Part)) (rfl)))))))))))))), fun x => by show ((cel3 x.Kind ++ (cel45 x.From ++ (cel45 x.To ++ (cel47 x.Ballot ++ (cel2 x.Slot ++ (cel48 x.List_ ++ (cel36 x.Entry ++ (cel2 x.Number ++ (cel29 x.Vector_ ++ (cel2 x.Clock ++ (cel3 x.Origin ++ (cel26 x.Ops ++ (cel31 x.Epoch ++ (cel34 x.Part ++ []))))))))))))))).length = 106; rw [List.length_append, List.length_append, List.length_append, List.length_append, List.length_append, List.length_append, List.length_append, List.length_append, List.length_append, List.length_append, List.length_append, List.length_append, List.length_append, List.length_append]; have e0 : (cel3 x.Kind).length = 1 := law3.len x.Kind; have e1 : (cel45 x.From).length = 2 := law45.len x.From; have e2 : (cel45 x.To).length = 2 := law45.len x.To; have e3 : (cel47 x.Ballot).length = 2 := law47.len x.Ballot; have e4 : (cel2 x.Slot).length = 1 := law2.len x.Slot; have e5 : (cel48 x.List_).length = 1 := law48.len x.List_; have e6 : (cel36 x.Entry).length = 56 := law36.len x.Entry; have e7 : (cel2 x.Number).length = 1 := law2.len x.Number; have e8 : (cel29 x.Vector_).length = 8 := law29.len x.Vector_; have e9 : (cel2 x.Clock).length = 1 := law2.len x.Clock; have e10 : (cel3 x.Origin).length = 1 := law3.len x.Origin; have e11 : (cel26 x.Ops).length = 1 := law26.len x.Ops; have e12 : (cel31 x.Epoch).length = 25 := law31.len x.Epoch; have e13 : (cel34 x.Part).length = 4 := law34.len x.Part; simp only [e0, e1, e2, e3, e4, e5, e6, e7, e8, e9, e10, e11, e12, e13, List.length_nil], fun x a h => by obtain ⟨x0, x1, x2, x3, x4, x5, x6, x7, x8, x9, x10, x11, x12, x13, rfl, h0, h1, h2, h3, h4, h5, h6, h7, h8, h9, h10, h11, h12, h13⟩ := decx49 (show dec49 x = some a from h); exact CW.append (law3.dec _ _ h0) (CW.append (law45.dec _ _ h1) (CW.append (law45.dec _ _ h2) (CW.append (law47.dec _ _ h3) (CW.append (law2.dec _ _ h4) (CW.append (law48.dec _ _ h5) (CW.append (law36.dec _ _ h6) (CW.append (law2.dec _ _ h7) (CW.append (law29.dec _ _ h8) (CW.append (law2.dec _ _ h9) (CW.append (law3.dec _ _ h10) (CW.append (law26.dec _ _ h11) (CW.append (law31.dec _ _ h12) (CW.append (law34.dec _ _ h13) (CW.refl [])))))))))))))), fun x => by show (((enc3 x.Kind).ok && ((enc45 x.From).ok && ((enc45 x.To).ok && ((enc47 x.Ballot).ok && ((enc2 x.Slot).ok && ((enc48 x.List_).ok && ((enc36 x.Entry).ok && ((enc2 x.Number).ok && ((enc29 x.Vector_).ok && ((enc2 x.Clock).ok && ((enc3 x.Origin).ok && ((enc26 x.Ops).ok && ((enc31 x.Epoch).ok && ((enc34 x.Part).ok && true))))))))))))))) = true; simp only [show (enc3 x.Kind).ok = true from law3.ok _, show (enc45 x.From).ok = true from law45.ok _, show (enc45 x.To).ok = true from law45.ok _, show (enc47 x.Ballot).ok = true from law47.ok _, show (enc2 x.Slot).ok = true from law2.ok _, show (enc48 x.List_).ok = true from law48.ok _, show (enc36 x.Entry).ok = true from law36.ok _, show (enc2 x.Number).ok = true from law2.ok _, show (enc29 x.Vector_).ok = true from law29.ok _, show (enc2 x.Clock).ok = true from law2.ok _, show (enc3 x.Origin).ok = true from law3.ok _, show (enc26 x.Ops).ok = true from law26.ok _, show (enc31 x.Epoch).ok = true from law31.ok _, show (enc34 x.Part).ok = true from law34.ok _, Bool.and_self], fun x a h => by obtain ⟨x0, x1, x2, x3, x4, x5, x6, x7, x8, x9, x10, x11, x12, x13, rfl, h0, h1, h2, h3, h4, h5, h6, h7, h8, h9, h10, h11, h12, h13⟩ := decx49 (show dec49 x = some a from h); show ((x0.ok && (x1.ok && (x2.ok && (x3.ok && (x4.ok && (x5.ok && (x6.ok && (x7.ok && (x8.ok && (x9.ok && (x10.ok && (x11.ok && (x12.ok && (x13.ok && true))))))))))))))) = true; simp only [law3.decok _ _ h0, law45.decok _ _ h1, law45.decok _ _ h2, law47.decok _ _ h3, law2.decok _ _ h4, law48.decok _ _ h5, law36.decok _ _ h6, law2.decok _ _ h7, law29.decok _ _ h8, law2.decok _ _ h9, law3.decok _ _ h10, law26.decok _ _ h11, law31.decok _ _ h12, law34.decok _ _ h13, Bool.and_self], fun x a h => by obtain ⟨x0, x1, x2, x3, x4, x5, x6, x7, x8, x9, x10, x11, x12, x13, rfl, h0, h1, h2, h3, h4, h5, h6, h7, h8, h9, h10, h11, h12, h13⟩ := decx49 (show dec49 x = some a from h); rfl, fun x => by show ((cel3 x.Kind ++ (cel45 x.From ++ (cel45 x.To ++ (cel47 x.Ballot ++ (cel2 x.Slot ++ (cel48 x.List_ ++ (cel36 x.Entry ++ (cel2 x.Number ++ (cel29 x.Vector_ ++ (cel2 x.Clock ++ (cel3 x.Origin ++ (cel26 x.Ops ++ (cel31 x.Epoch ++ (cel34 x.Part ++ []))))))))))))))).all AV.one = true; simp only [List.all_append, List.all_nil, show (cel3 x.Kind).all AV.one = true from law3.one _, show (cel45 x.From).all AV.one = true from law45.one _, show (cel45 x.To).all AV.one = true from law45.one _, show (cel47 x.Ballot).all AV.one = true from law47.one _, show (cel2 x.Slot).all AV.one = true from law2.one _, show (cel48 x.List_).all AV.one = true from law48.one _, show (cel36 x.Entry).all AV.one = true from law36.one _, show (cel2 x.Number).all AV.one = true from law2.one _, show (cel29 x.Vector_).all AV.one = true from law29.one _, show (cel2 x.Clock).all AV.one = true from law2.one _, show (cel3 x.Origin).all AV.one = true from law3.one _, show (cel26 x.Ops).all AV.one = true from law26.one _, show (cel31 x.Epoch).all AV.one = true from law31.one _, show (cel34 x.Part).all AV.one = true from law34.one _, Bool.and_self], fun x => noids_app (law3.noid x.Kind) (noids_app (law45.noid x.From) (noids_app (law45.noid x.To) (noids_app (law47.noid x.Ballot) (noids_app (law2.noid x.Slot) (noids_app (law48.noid x.List_) (noids_app (law36.noid x.Entry) (noids_app (law2.noid x.Number) (noids_app (law29.noid x.Vector_) (noids_app (law2.noid x.Clock) (noids_app (law3.noid x.Origin) (noids_app (law26.noid x.Ops) (noids_app (law31.noid x.Epoch) (noids_app (law34.noid x.Part) (trivial)))))))))))))), (fun ks h => nomatch h), (fun l s h => nomatch h), (fun s l h => nomatch h)⟩
theorem decx50 {x : TV τ} {a : GMsg} (h : dec50 x = some a) : ∃ x0 x1 x2 x3 x4 x5 x6 x7 x8 x9 x10 x11 x12 x13, x = .agg [x0, x1, x2, x3, x4, x5, x6, x7, x8, x9, x10, x11, x12, x13] ∧ dec3 x0 = some a.Kind ∧ dec45 x1 = some a.From ∧ dec45 x2 = some a.To ∧ dec47 x3 = some a.Ballot ∧ dec2 x4 = some a.Slot ∧ dec48 x5 = some a.List_ ∧ dec36 x6 = some a.Entry ∧ dec2 x7 = some a.Number ∧ dec29 x8 = some a.Vector_ ∧ dec2 x9 = some a.Clock ∧ dec3 x10 = some a.Origin ∧ dec26 x11 = some a.Ops ∧ dec31 x12 = some a.Epoch ∧ dec34 x13 = some a.Part := by
  unfold dec50 at h
  split at h
  · rename_i x0 x1 x2 x3 x4 x5 x6 x7 x8 x9 x10 x11 x12 x13
    split at h
    · rename_i a0 h0
      split at h
      · rename_i a1 h1
        split at h
        · rename_i a2 h2
          split at h
          · rename_i a3 h3
            split at h
            · rename_i a4 h4
              split at h
              · rename_i a5 h5
                split at h
                · rename_i a6 h6
                  split at h
                  · rename_i a7 h7
                    split at h
                    · rename_i a8 h8
                      split at h
                      · rename_i a9 h9
                        split at h
                        · rename_i a10 h10
                          split at h
                          · rename_i a11 h11
                            split at h
                            · rename_i a12 h12
                              split at h
                              · rename_i a13 h13
                                cases h
                                exact ⟨_, _, _, _, _, _, _, _, _, _, _, _, _, _, rfl, h0, h1, h2, h3, h4, h5, h6, h7, h8, h9, h10, h11, h12, h13⟩
                              · cases h
                            · cases h
                          · cases h
                        · cases h
                      · cases h
                    · cases h
                  · cases h
                · cases h
              · cases h
            · cases h
          · cases h
        · cases h
      · cases h
    · cases h
  · cases h
theorem law50 : CodAt C 50 := ⟨fun x => by show ((enc3 x.Kind).cells C ++ ((enc45 x.From).cells C ++ ((enc45 x.To).cells C ++ ((enc47 x.Ballot).cells C ++ ((enc2 x.Slot).cells C ++ ((enc48 x.List_).cells C ++ ((enc36 x.Entry).cells C ++ ((enc2 x.Number).cells C ++ ((enc29 x.Vector_).cells C ++ ((enc2 x.Clock).cells C ++ ((enc3 x.Origin).cells C ++ ((enc26 x.Ops).cells C ++ ((enc31 x.Epoch).cells C ++ ((enc34 x.Part).cells C ++ [])))))))))))))) = cel50 x; unfold cel50; exact congr (congrArg (· ++ ·) (law3.cel x.Kind)) (congr (congrArg (· ++ ·) (law45.cel x.From)) (congr (congrArg (· ++ ·) (law45.cel x.To)) (congr (congrArg (· ++ ·) (law47.cel x.Ballot)) (congr (congrArg (· ++ ·) (law2.cel x.Slot)) (congr (congrArg (· ++ ·) (law48.cel x.List_)) (congr (congrArg (· ++ ·) (law36.cel x.Entry)) (congr (congrArg (· ++ ·) (law2.cel x.Number)) (congr (congrArg (· ++ ·) (law29.cel x.Vector_)) (congr (congrArg (· ++ ·) (law2.cel x.Clock)) (congr (congrArg (· ++ ·) (law3.cel x.Origin)) (congr (congrArg (· ++ ·) (law26.cel x.Ops)) (congr (congrArg (· ++ ·) (law31.cel x.Epoch)) (congr (congrArg (· ++ ·) (law34.cel x.Part)) (rfl)))))))))))))), fun x => by show ((cel3 x.Kind ++ (cel45 x.From ++ (cel45 x.To ++ (cel47 x.Ballot ++ (cel2 x.Slot ++ (cel48 x.List_ ++ (cel36 x.Entry ++ (cel2 x.Number ++ (cel29 x.Vector_ ++ (cel2 x.Clock ++ (cel3 x.Origin ++ (cel26 x.Ops ++ (cel31 x.Epoch ++ (cel34 x.Part ++ []))))))))))))))).length = 106; rw [List.length_append, List.length_append, List.length_append, List.length_append, List.length_append, List.length_append, List.length_append, List.length_append, List.length_append, List.length_append, List.length_append, List.length_append, List.length_append, List.length_append]; have e0 : (cel3 x.Kind).length = 1 := law3.len x.Kind; have e1 : (cel45 x.From).length = 2 := law45.len x.From; have e2 : (cel45 x.To).length = 2 := law45.len x.To; have e3 : (cel47 x.Ballot).length = 2 := law47.len x.Ballot; have e4 : (cel2 x.Slot).length = 1 := law2.len x.Slot; have e5 : (cel48 x.List_).length = 1 := law48.len x.List_; have e6 : (cel36 x.Entry).length = 56 := law36.len x.Entry; have e7 : (cel2 x.Number).length = 1 := law2.len x.Number; have e8 : (cel29 x.Vector_).length = 8 := law29.len x.Vector_; have e9 : (cel2 x.Clock).length = 1 := law2.len x.Clock; have e10 : (cel3 x.Origin).length = 1 := law3.len x.Origin; have e11 : (cel26 x.Ops).length = 1 := law26.len x.Ops; have e12 : (cel31 x.Epoch).length = 25 := law31.len x.Epoch; have e13 : (cel34 x.Part).length = 4 := law34.len x.Part; simp only [e0, e1, e2, e3, e4, e5, e6, e7, e8, e9, e10, e11, e12, e13, List.length_nil], fun x a h => by obtain ⟨x0, x1, x2, x3, x4, x5, x6, x7, x8, x9, x10, x11, x12, x13, rfl, h0, h1, h2, h3, h4, h5, h6, h7, h8, h9, h10, h11, h12, h13⟩ := decx50 (show dec50 x = some a from h); exact CW.append (law3.dec _ _ h0) (CW.append (law45.dec _ _ h1) (CW.append (law45.dec _ _ h2) (CW.append (law47.dec _ _ h3) (CW.append (law2.dec _ _ h4) (CW.append (law48.dec _ _ h5) (CW.append (law36.dec _ _ h6) (CW.append (law2.dec _ _ h7) (CW.append (law29.dec _ _ h8) (CW.append (law2.dec _ _ h9) (CW.append (law3.dec _ _ h10) (CW.append (law26.dec _ _ h11) (CW.append (law31.dec _ _ h12) (CW.append (law34.dec _ _ h13) (CW.refl [])))))))))))))), fun x => by show (((enc3 x.Kind).ok && ((enc45 x.From).ok && ((enc45 x.To).ok && ((enc47 x.Ballot).ok && ((enc2 x.Slot).ok && ((enc48 x.List_).ok && ((enc36 x.Entry).ok && ((enc2 x.Number).ok && ((enc29 x.Vector_).ok && ((enc2 x.Clock).ok && ((enc3 x.Origin).ok && ((enc26 x.Ops).ok && ((enc31 x.Epoch).ok && ((enc34 x.Part).ok && true))))))))))))))) = true; simp only [show (enc3 x.Kind).ok = true from law3.ok _, show (enc45 x.From).ok = true from law45.ok _, show (enc45 x.To).ok = true from law45.ok _, show (enc47 x.Ballot).ok = true from law47.ok _, show (enc2 x.Slot).ok = true from law2.ok _, show (enc48 x.List_).ok = true from law48.ok _, show (enc36 x.Entry).ok = true from law36.ok _, show (enc2 x.Number).ok = true from law2.ok _, show (enc29 x.Vector_).ok = true from law29.ok _, show (enc2 x.Clock).ok = true from law2.ok _, show (enc3 x.Origin).ok = true from law3.ok _, show (enc26 x.Ops).ok = true from law26.ok _, show (enc31 x.Epoch).ok = true from law31.ok _, show (enc34 x.Part).ok = true from law34.ok _, Bool.and_self], fun x a h => by obtain ⟨x0, x1, x2, x3, x4, x5, x6, x7, x8, x9, x10, x11, x12, x13, rfl, h0, h1, h2, h3, h4, h5, h6, h7, h8, h9, h10, h11, h12, h13⟩ := decx50 (show dec50 x = some a from h); show ((x0.ok && (x1.ok && (x2.ok && (x3.ok && (x4.ok && (x5.ok && (x6.ok && (x7.ok && (x8.ok && (x9.ok && (x10.ok && (x11.ok && (x12.ok && (x13.ok && true))))))))))))))) = true; simp only [law3.decok _ _ h0, law45.decok _ _ h1, law45.decok _ _ h2, law47.decok _ _ h3, law2.decok _ _ h4, law48.decok _ _ h5, law36.decok _ _ h6, law2.decok _ _ h7, law29.decok _ _ h8, law2.decok _ _ h9, law3.decok _ _ h10, law26.decok _ _ h11, law31.decok _ _ h12, law34.decok _ _ h13, Bool.and_self], fun x a h => by obtain ⟨x0, x1, x2, x3, x4, x5, x6, x7, x8, x9, x10, x11, x12, x13, rfl, h0, h1, h2, h3, h4, h5, h6, h7, h8, h9, h10, h11, h12, h13⟩ := decx50 (show dec50 x = some a from h); rfl, fun x => by show ((cel3 x.Kind ++ (cel45 x.From ++ (cel45 x.To ++ (cel47 x.Ballot ++ (cel2 x.Slot ++ (cel48 x.List_ ++ (cel36 x.Entry ++ (cel2 x.Number ++ (cel29 x.Vector_ ++ (cel2 x.Clock ++ (cel3 x.Origin ++ (cel26 x.Ops ++ (cel31 x.Epoch ++ (cel34 x.Part ++ []))))))))))))))).all AV.one = true; simp only [List.all_append, List.all_nil, show (cel3 x.Kind).all AV.one = true from law3.one _, show (cel45 x.From).all AV.one = true from law45.one _, show (cel45 x.To).all AV.one = true from law45.one _, show (cel47 x.Ballot).all AV.one = true from law47.one _, show (cel2 x.Slot).all AV.one = true from law2.one _, show (cel48 x.List_).all AV.one = true from law48.one _, show (cel36 x.Entry).all AV.one = true from law36.one _, show (cel2 x.Number).all AV.one = true from law2.one _, show (cel29 x.Vector_).all AV.one = true from law29.one _, show (cel2 x.Clock).all AV.one = true from law2.one _, show (cel3 x.Origin).all AV.one = true from law3.one _, show (cel26 x.Ops).all AV.one = true from law26.one _, show (cel31 x.Epoch).all AV.one = true from law31.one _, show (cel34 x.Part).all AV.one = true from law34.one _, Bool.and_self], fun x => noids_app (law3.noid x.Kind) (noids_app (law45.noid x.From) (noids_app (law45.noid x.To) (noids_app (law47.noid x.Ballot) (noids_app (law2.noid x.Slot) (noids_app (law48.noid x.List_) (noids_app (law36.noid x.Entry) (noids_app (law2.noid x.Number) (noids_app (law29.noid x.Vector_) (noids_app (law2.noid x.Clock) (noids_app (law3.noid x.Origin) (noids_app (law26.noid x.Ops) (noids_app (law31.noid x.Epoch) (noids_app (law34.noid x.Part) (trivial)))))))))))))), (fun ks h => nomatch h), (fun l s h => nomatch h), (fun s l h => nomatch h)⟩
theorem decx67 {x : TV τ} {a : Gwire_Writer} (h : dec67 x = some a) : ∃ x0 x1, x = .agg [x0, x1] ∧ dec4 x0 = some a.made ∧ dec32 x1 = some a.b := by
  unfold dec67 at h
  split at h
  · rename_i x0 x1
    split at h
    · rename_i a0 h0
      split at h
      · rename_i a1 h1
        cases h
        exact ⟨_, _, rfl, h0, h1⟩
      · cases h
    · cases h
  · cases h
theorem law67 : CodAt C 67 := ⟨fun x => by show ((enc4 x.made).cells C ++ ((enc32 x.b).cells C ++ [])) = cel67 x; unfold cel67; exact congr (congrArg (· ++ ·) (law4.cel x.made)) (congr (congrArg (· ++ ·) (law32.cel x.b)) (rfl)), fun x => by show ((cel4 x.made ++ (cel32 x.b ++ []))).length = 2; rw [List.length_append, List.length_append]; have e0 : (cel4 x.made).length = 1 := law4.len x.made; have e1 : (cel32 x.b).length = 1 := law32.len x.b; simp only [e0, e1, List.length_nil], fun x a h => by obtain ⟨x0, x1, rfl, h0, h1⟩ := decx67 (show dec67 x = some a from h); exact CW.append (law4.dec _ _ h0) (CW.append (law32.dec _ _ h1) (CW.refl [])), fun x => by show (((enc4 x.made).ok && ((enc32 x.b).ok && true))) = true; simp only [show (enc4 x.made).ok = true from law4.ok _, show (enc32 x.b).ok = true from law32.ok _, Bool.and_self], fun x a h => by obtain ⟨x0, x1, rfl, h0, h1⟩ := decx67 (show dec67 x = some a from h); show ((x0.ok && (x1.ok && true))) = true; simp only [law4.decok _ _ h0, law32.decok _ _ h1, Bool.and_self], fun x a h => by obtain ⟨x0, x1, rfl, h0, h1⟩ := decx67 (show dec67 x = some a from h); rfl, fun x => by show ((cel4 x.made ++ (cel32 x.b ++ []))).all AV.one = true; simp only [List.all_append, List.all_nil, show (cel4 x.made).all AV.one = true from law4.one _, show (cel32 x.b).all AV.one = true from law32.one _, Bool.and_self], fun x => noids_app (law4.noid x.made) (noids_app (law32.noid x.b) (trivial)), (fun ks h => nomatch h), (fun l s h => nomatch h), (fun s l h => nomatch h)⟩
theorem decx68 {x : TV τ} {a : Gwire_Writer} (h : dec68 x = some a) : ∃ x0 x1, x = .agg [x0, x1] ∧ dec4 x0 = some a.made ∧ dec32 x1 = some a.b := by
  unfold dec68 at h
  split at h
  · rename_i x0 x1
    split at h
    · rename_i a0 h0
      split at h
      · rename_i a1 h1
        cases h
        exact ⟨_, _, rfl, h0, h1⟩
      · cases h
    · cases h
  · cases h
theorem law68 : CodAt C 68 := ⟨fun x => by show ((enc4 x.made).cells C ++ ((enc32 x.b).cells C ++ [])) = cel68 x; unfold cel68; exact congr (congrArg (· ++ ·) (law4.cel x.made)) (congr (congrArg (· ++ ·) (law32.cel x.b)) (rfl)), fun x => by show ((cel4 x.made ++ (cel32 x.b ++ []))).length = 2; rw [List.length_append, List.length_append]; have e0 : (cel4 x.made).length = 1 := law4.len x.made; have e1 : (cel32 x.b).length = 1 := law32.len x.b; simp only [e0, e1, List.length_nil], fun x a h => by obtain ⟨x0, x1, rfl, h0, h1⟩ := decx68 (show dec68 x = some a from h); exact CW.append (law4.dec _ _ h0) (CW.append (law32.dec _ _ h1) (CW.refl [])), fun x => by show (((enc4 x.made).ok && ((enc32 x.b).ok && true))) = true; simp only [show (enc4 x.made).ok = true from law4.ok _, show (enc32 x.b).ok = true from law32.ok _, Bool.and_self], fun x a h => by obtain ⟨x0, x1, rfl, h0, h1⟩ := decx68 (show dec68 x = some a from h); show ((x0.ok && (x1.ok && true))) = true; simp only [law4.decok _ _ h0, law32.decok _ _ h1, Bool.and_self], fun x a h => by obtain ⟨x0, x1, rfl, h0, h1⟩ := decx68 (show dec68 x = some a from h); rfl, fun x => by show ((cel4 x.made ++ (cel32 x.b ++ []))).all AV.one = true; simp only [List.all_append, List.all_nil, show (cel4 x.made).all AV.one = true from law4.one _, show (cel32 x.b).all AV.one = true from law32.one _, Bool.and_self], fun x => noids_app (law4.noid x.made) (noids_app (law32.noid x.b) (trivial)), (fun ks h => nomatch h), (fun l s h => nomatch h), (fun s l h => nomatch h)⟩
theorem decx72 {x : TV τ} {a : Gwire_Writer} (h : dec72 x = some a) : ∃ x0 x1, x = .agg [x0, x1] ∧ dec4 x0 = some a.made ∧ dec32 x1 = some a.b := by
  unfold dec72 at h
  split at h
  · rename_i x0 x1
    split at h
    · rename_i a0 h0
      split at h
      · rename_i a1 h1
        cases h
        exact ⟨_, _, rfl, h0, h1⟩
      · cases h
    · cases h
  · cases h
theorem law72 : CodAt C 72 := ⟨fun x => by show ((enc4 x.made).cells C ++ ((enc32 x.b).cells C ++ [])) = cel72 x; unfold cel72; exact congr (congrArg (· ++ ·) (law4.cel x.made)) (congr (congrArg (· ++ ·) (law32.cel x.b)) (rfl)), fun x => by show ((cel4 x.made ++ (cel32 x.b ++ []))).length = 2; rw [List.length_append, List.length_append]; have e0 : (cel4 x.made).length = 1 := law4.len x.made; have e1 : (cel32 x.b).length = 1 := law32.len x.b; simp only [e0, e1, List.length_nil], fun x a h => by obtain ⟨x0, x1, rfl, h0, h1⟩ := decx72 (show dec72 x = some a from h); exact CW.append (law4.dec _ _ h0) (CW.append (law32.dec _ _ h1) (CW.refl [])), fun x => by show (((enc4 x.made).ok && ((enc32 x.b).ok && true))) = true; simp only [show (enc4 x.made).ok = true from law4.ok _, show (enc32 x.b).ok = true from law32.ok _, Bool.and_self], fun x a h => by obtain ⟨x0, x1, rfl, h0, h1⟩ := decx72 (show dec72 x = some a from h); show ((x0.ok && (x1.ok && true))) = true; simp only [law4.decok _ _ h0, law32.decok _ _ h1, Bool.and_self], fun x a h => by obtain ⟨x0, x1, rfl, h0, h1⟩ := decx72 (show dec72 x = some a from h); rfl, fun x => by show ((cel4 x.made ++ (cel32 x.b ++ []))).all AV.one = true; simp only [List.all_append, List.all_nil, show (cel4 x.made).all AV.one = true from law4.one _, show (cel32 x.b).all AV.one = true from law32.one _, Bool.and_self], fun x => noids_app (law4.noid x.made) (noids_app (law32.noid x.b) (trivial)), (fun ks h => nomatch h), (fun l s h => nomatch h), (fun s l h => nomatch h)⟩
theorem decx79 {x : TV τ} {a : GSlotted} (h : dec79 x = some a) : ∃ x0 x1 x2, x = .agg [x0, x1, x2] ∧ dec2 x0 = some a.Slot ∧ dec47 x1 = some a.Ballot ∧ dec36 x2 = some a.Entry := by
  unfold dec79 at h
  split at h
  · rename_i x0 x1 x2
    split at h
    · rename_i a0 h0
      split at h
      · rename_i a1 h1
        split at h
        · rename_i a2 h2
          cases h
          exact ⟨_, _, _, rfl, h0, h1, h2⟩
        · cases h
      · cases h
    · cases h
  · cases h
theorem law79 : CodAt C 79 := ⟨fun x => by show ((enc2 x.Slot).cells C ++ ((enc47 x.Ballot).cells C ++ ((enc36 x.Entry).cells C ++ []))) = cel79 x; unfold cel79; exact congr (congrArg (· ++ ·) (law2.cel x.Slot)) (congr (congrArg (· ++ ·) (law47.cel x.Ballot)) (congr (congrArg (· ++ ·) (law36.cel x.Entry)) (rfl))), fun x => by show ((cel2 x.Slot ++ (cel47 x.Ballot ++ (cel36 x.Entry ++ [])))).length = 59; rw [List.length_append, List.length_append, List.length_append]; have e0 : (cel2 x.Slot).length = 1 := law2.len x.Slot; have e1 : (cel47 x.Ballot).length = 2 := law47.len x.Ballot; have e2 : (cel36 x.Entry).length = 56 := law36.len x.Entry; simp only [e0, e1, e2, List.length_nil], fun x a h => by obtain ⟨x0, x1, x2, rfl, h0, h1, h2⟩ := decx79 (show dec79 x = some a from h); exact CW.append (law2.dec _ _ h0) (CW.append (law47.dec _ _ h1) (CW.append (law36.dec _ _ h2) (CW.refl []))), fun x => by show (((enc2 x.Slot).ok && ((enc47 x.Ballot).ok && ((enc36 x.Entry).ok && true)))) = true; simp only [show (enc2 x.Slot).ok = true from law2.ok _, show (enc47 x.Ballot).ok = true from law47.ok _, show (enc36 x.Entry).ok = true from law36.ok _, Bool.and_self], fun x a h => by obtain ⟨x0, x1, x2, rfl, h0, h1, h2⟩ := decx79 (show dec79 x = some a from h); show ((x0.ok && (x1.ok && (x2.ok && true)))) = true; simp only [law2.decok _ _ h0, law47.decok _ _ h1, law36.decok _ _ h2, Bool.and_self], fun x a h => by obtain ⟨x0, x1, x2, rfl, h0, h1, h2⟩ := decx79 (show dec79 x = some a from h); rfl, fun x => by show ((cel2 x.Slot ++ (cel47 x.Ballot ++ (cel36 x.Entry ++ [])))).all AV.one = true; simp only [List.all_append, List.all_nil, show (cel2 x.Slot).all AV.one = true from law2.one _, show (cel47 x.Ballot).all AV.one = true from law47.one _, show (cel36 x.Entry).all AV.one = true from law36.one _, Bool.and_self], fun x => noids_app (law2.noid x.Slot) (noids_app (law47.noid x.Ballot) (noids_app (law36.noid x.Entry) (trivial))), (fun ks h => nomatch h), (fun l s h => nomatch h), (fun s l h => nomatch h)⟩
theorem law121 : CodAt C 121 := ⟨fun x => rfl, fun x => rfl, fun x a h => (dSl_cw (C := C) (show dSl 2 x = some a from h)).1, fun x => rfl, fun x a h => (dSl_cw (C := C) (show dSl 2 x = some a from h)).2.1, fun x a h => (dSl_cw (C := C) (show dSl 2 x = some a from h)).2.2, fun a => rfl, fun a => noids_one (NoId.asl fun cs hc => by obtain ⟨y, _, rfl⟩ := List.mem_map.1 hc; exact law2.noid y), (fun ks h => nomatch h), (fun l s h => nomatch h), (fun s l h => nomatch h)⟩
theorem law148 : CodAt C 148 := ⟨fun x => rfl, fun x => rfl, fun x a h => (dSl_cw (C := C) (show dSl 32 x = some a from h)).1, fun x => rfl, fun x a h => (dSl_cw (C := C) (show dSl 32 x = some a from h)).2.1, fun x a h => (dSl_cw (C := C) (show dSl 32 x = some a from h)).2.2, fun a => rfl, fun a => noids_one (NoId.asl fun cs hc => by obtain ⟨y, _, rfl⟩ := List.mem_map.1 hc; exact law32.noid y), (fun ks h => nomatch h), (fun l s h => nomatch h), (fun s l h => nomatch h)⟩
theorem law149 : CodAt C 149 := ⟨fun x => rfl, fun x => rfl, fun x a h => by rw [dInt_x (show dInt .u64 x = some a from h)]; exact .refl _, fun x => rfl, fun x a h => by rw [dInt_x (show dInt .u64 x = some a from h)]; rfl, fun x a h => by rw [dInt_x (show dInt .u64 x = some a from h)]; rfl, fun a => rfl, fun a => noids_one (NoId.v _), fun ks h a b => by cases h; simp [eqCells, scal, C, celT, cel149, beqT, beq149], (fun l s h => nomatch h), (fun s l h => nomatch h)⟩
theorem law150 : CodAt C 150 := ⟨fun x => rfl, fun x => rfl, fun x a h => by rw [dInt_x (show dInt .u64 x = some a from h)]; exact .refl _, fun x => rfl, fun x a h => by rw [dInt_x (show dInt .u64 x = some a from h)]; rfl, fun x a h => by rw [dInt_x (show dInt .u64 x = some a from h)]; rfl, fun a => rfl, fun a => noids_one (NoId.v _), fun ks h a b => by cases h; simp [eqCells, scal, C, celT, cel150, beqT, beq150], (fun l s h => nomatch h), (fun s l h => nomatch h)⟩
theorem law154 : CodAt C 154 := ⟨fun x => rfl, fun x => rfl, fun x a h => (dSl_cw (C := C) (show dSl 3 x = some a from h)).1, fun x => rfl, fun x a h => (dSl_cw (C := C) (show dSl 3 x = some a from h)).2.1, fun x a h => (dSl_cw (C := C) (show dSl 3 x = some a from h)).2.2, fun a => rfl, fun a => noids_one (NoId.asl fun cs hc => by obtain ⟨y, _, rfl⟩ := List.mem_map.1 hc; exact law3.noid y), (fun ks h => nomatch h), (fun l s h => nomatch h), (fun s l h => nomatch h)⟩
theorem law156 : CodAt C 156 := ⟨fun x => rfl, fun x => rfl, fun x a h => (dSl_cw (C := C) (show dSl 45 x = some a from h)).1, fun x => rfl, fun x a h => (dSl_cw (C := C) (show dSl 45 x = some a from h)).2.1, fun x a h => (dSl_cw (C := C) (show dSl 45 x = some a from h)).2.2, fun a => rfl, fun a => noids_one (NoId.asl fun cs hc => by obtain ⟨y, _, rfl⟩ := List.mem_map.1 hc; exact law45.noid y), (fun ks h => nomatch h), (fun l s h => nomatch h), (fun s l h => nomatch h)⟩
theorem law174 : CodAt C 174 := ⟨fun x => rfl, fun x => rfl, fun x a h => by rw [dInt_x (show dInt .u32 x = some a from h)]; exact .refl _, fun x => rfl, fun x a h => by rw [dInt_x (show dInt .u32 x = some a from h)]; rfl, fun x a h => by rw [dInt_x (show dInt .u32 x = some a from h)]; rfl, fun a => rfl, fun a => noids_one (NoId.v _), fun ks h a b => by cases h; simp [eqCells, scal, C, celT, cel174, beqT, beq174], (fun l s h => nomatch h), (fun s l h => nomatch h)⟩
theorem law182 : CodAt C 182 := ⟨fun x => rfl, fun x => rfl, fun x a h => (dSl_cw (C := C) (show dSl 9 x = some a from h)).1, fun x => rfl, fun x a h => (dSl_cw (C := C) (show dSl 9 x = some a from h)).2.1, fun x a h => (dSl_cw (C := C) (show dSl 9 x = some a from h)).2.2, fun a => rfl, fun a => noids_one (NoId.asl fun cs hc => by obtain ⟨y, _, rfl⟩ := List.mem_map.1 hc; exact law9.noid y), (fun ks h => nomatch h), (fun l s h => nomatch h), (fun s l h => nomatch h)⟩
theorem lawX {t : Nat} (h : celT t = fun _ => []) (h1 : encT t = fun _ => .agg []) (h2 : decT t = fun _ => none) (h3 : szT t = 0) (h4 : kdT t = none) (h5 : b2sT t = fun _ => none) (h6 : s2bT t = fun _ => none) : CodAt C t := by
  refine ⟨fun x => ?_, fun x => ?_, fun x a hx => ?_, fun x => ?_, fun x a hx => ?_, fun x a hx => ?_, fun a => ?_, fun a => ?_, fun ks hk => ?_, fun l s hl => ?_, fun s l hl => ?_⟩
  · show (encT t x).cells C = celT t x; rw [h, h1]; rfl
  · show (celT t x).length = szT t; rw [h, h3]; rfl
  · have e : decT t x = some a := hx; rw [h2] at e; cases e
  · show (encT t x).ok = true; rw [h1]; rfl
  · have e : decT t x = some a := hx; rw [h2] at e; cases e
  · have e : decT t x = some a := hx; rw [h2] at e; cases e
  · show (celT t a).all AV.one = true; rw [h]; rfl
  · show NoIds (celT t a); rw [h]; trivial
  · have e : kdT t = some ks := hk; rw [h4] at e; cases e
  · have e : b2sT t l = some s := hl; rw [h5] at e; cases e
  · have e : s2bT t s = some l := hl; rw [h6] at e; cases e
theorem lawOther : ∀ t : Nat, t ≠ 2 → t ≠ 3 → t ≠ 4 → t ≠ 5 → t ≠ 9 → t ≠ 12 → t ≠ 21 → t ≠ 22 → t ≠ 23 → t ≠ 24 → t ≠ 25 → t ≠ 26 → t ≠ 27 → t ≠ 28 → t ≠ 29 → t ≠ 30 → t ≠ 31 → t ≠ 32 → t ≠ 33 → t ≠ 34 → t ≠ 35 → t ≠ 36 → t ≠ 38 → t ≠ 44 → t ≠ 45 → t ≠ 46 → t ≠ 47 → t ≠ 48 → t ≠ 49 → t ≠ 50 → t ≠ 67 → t ≠ 68 → t ≠ 72 → t ≠ 79 → t ≠ 80 → t ≠ 121 → t ≠ 148 → t ≠ 149 → t ≠ 150 → t ≠ 154 → t ≠ 156 → t ≠ 174 → t ≠ 182 → CodAt C t
  | t, h2, h3, h4, h5, h9, h12, h21, h22, h23, h24, h25, h26, h27, h28, h29, h30, h31, h32, h33, h34, h35, h36, h38, h44, h45, h46, h47, h48, h49, h50, h67, h68, h72, h79, h80, h121, h148, h149, h150, h154, h156, h174, h182 => by
    apply lawX <;> first
      | (unfold celT; split <;> first | rfl | contradiction | (exfalso; omega))
      | (unfold encT; split <;> first | rfl | contradiction | (exfalso; omega))
      | (unfold decT; split <;> first | rfl | contradiction | (exfalso; omega))
      | (unfold szT; split <;> first | rfl | contradiction | (exfalso; omega))
      | (unfold kdT; split <;> first | rfl | contradiction | (exfalso; omega))
      | (unfold b2sT; split <;> first | rfl | contradiction | (exfalso; omega))
      | (unfold s2bT; split <;> first | rfl | contradiction | (exfalso; omega))
theorem cOk : C.Ok := Cod.Ok.of fun t => by
  by_cases h2 : t = 2
  · subst h2; exact law2
  by_cases h3 : t = 3
  · subst h3; exact law3
  by_cases h4 : t = 4
  · subst h4; exact law4
  by_cases h5 : t = 5
  · subst h5; exact law5
  by_cases h9 : t = 9
  · subst h9; exact law9
  by_cases h12 : t = 12
  · subst h12; exact law12
  by_cases h21 : t = 21
  · subst h21; exact law21
  by_cases h22 : t = 22
  · subst h22; exact law22
  by_cases h23 : t = 23
  · subst h23; exact law23
  by_cases h24 : t = 24
  · subst h24; exact law24
  by_cases h25 : t = 25
  · subst h25; exact law25
  by_cases h26 : t = 26
  · subst h26; exact law26
  by_cases h27 : t = 27
  · subst h27; exact law27
  by_cases h28 : t = 28
  · subst h28; exact law28
  by_cases h29 : t = 29
  · subst h29; exact law29
  by_cases h30 : t = 30
  · subst h30; exact law30
  by_cases h31 : t = 31
  · subst h31; exact law31
  by_cases h32 : t = 32
  · subst h32; exact law32
  by_cases h33 : t = 33
  · subst h33; exact law33
  by_cases h34 : t = 34
  · subst h34; exact law34
  by_cases h35 : t = 35
  · subst h35; exact law35
  by_cases h36 : t = 36
  · subst h36; exact law36
  by_cases h38 : t = 38
  · subst h38; exact law38
  by_cases h44 : t = 44
  · subst h44; exact law44
  by_cases h45 : t = 45
  · subst h45; exact law45
  by_cases h46 : t = 46
  · subst h46; exact law46
  by_cases h47 : t = 47
  · subst h47; exact law47
  by_cases h48 : t = 48
  · subst h48; exact law48
  by_cases h49 : t = 49
  · subst h49; exact law49
  by_cases h50 : t = 50
  · subst h50; exact law50
  by_cases h67 : t = 67
  · subst h67; exact law67
  by_cases h68 : t = 68
  · subst h68; exact law68
  by_cases h72 : t = 72
  · subst h72; exact law72
  by_cases h79 : t = 79
  · subst h79; exact law79
  by_cases h80 : t = 80
  · subst h80; exact law80
  by_cases h121 : t = 121
  · subst h121; exact law121
  by_cases h148 : t = 148
  · subst h148; exact law148
  by_cases h149 : t = 149
  · subst h149; exact law149
  by_cases h150 : t = 150
  · subst h150; exact law150
  by_cases h154 : t = 154
  · subst h154; exact law154
  by_cases h156 : t = 156
  · subst h156; exact law156
  by_cases h174 : t = 174
  · subst h174; exact law174
  by_cases h182 : t = 182
  · subst h182; exact law182
  exact lawOther t h2 h3 h4 h5 h9 h12 h21 h22 h23 h24 h25 h26 h27 h28 h29 h30 h31 h32 h33 h34 h35 h36 h38 h44 h45 h46 h47 h48 h49 h50 h67 h68 h72 h79 h80 h121 h148 h149 h150 h154 h156 h174 h182
def zeroT : Nat → Option (TV τ)
  | 1 => some (.nil .func)
  | 2 => some (.int .i64 0)
  | 3 => some (.int .i64 0)
  | 4 => some (.bool false)
  | 5 => some (.int .u8 0)
  | 9 => some (.str [])
  | 12 => some (.int .u64 0)
  | 17 => some (.nil .ptr)
  | 21 => some (.int .i32 0)
  | 22 => some (.agg [(.int .i64 0), (.int .i64 0)])
  | 23 => some (.agg [(.int .i64 0), (.int .i64 0)])
  | 24 => some (.agg [(.agg [(.int .i64 0), (.int .i64 0)]), (.int .i64 0), (.int .i64 0), (.int .i64 0), (.str []), (.str []), (.str [])])
  | 25 => some (.agg [(.agg [(.int .i64 0), (.int .i64 0)]), (.int .i64 0), (.int .i64 0), (.int .i64 0), (.str []), (.str []), (.str [])])
  | 26 => some (.nil .slice)
  | 27 => some (.arr 3 8 (Vector.replicate 8 (default : Int)))
  | 28 => some (.arr 2 8 (Vector.replicate 8 (default : Int)))
  | 29 => some (.arr 2 8 (Vector.replicate 8 (default : Int)))
  | 30 => some (.agg [(.int .i64 0), (.arr 3 8 (Vector.replicate 8 (default : Int))), (.arr 2 8 (Vector.replicate 8 (default : Int))), (.arr 3 8 (Vector.replicate 8 (default : Int)))])
  | 31 => some (.agg [(.int .i64 0), (.arr 3 8 (Vector.replicate 8 (default : Int))), (.arr 2 8 (Vector.replicate 8 (default : Int))), (.arr 3 8 (Vector.replicate 8 (default : Int)))])
  | 32 => some (.nil .slice)
  | 33 => some (.agg [(.int .i64 0), (.int .i64 0), (.int .i64 0), (.nil .slice)])
  | 34 => some (.agg [(.int .i64 0), (.int .i64 0), (.int .i64 0), (.nil .slice)])
  | 35 => some (.agg [(.int .i64 0), (.int .i64 0), (.int .i64 0), (.agg [(.agg [(.int .i64 0), (.int .i64 0)]), (.int .i64 0), (.int .i64 0), (.int .i64 0), (.str []), (.str []), (.str [])]), (.int .i64 0), (.int .i64 0), (.nil .slice), (.agg [(.int .i64 0), (.arr 3 8 (Vector.replicate 8 (default : Int))), (.arr 2 8 (Vector.replicate 8 (default : Int))), (.arr 3 8 (Vector.replicate 8 (default : Int)))]), (.int .i64 0), (.arr 2 8 (Vector.replicate 8 (default : Int))), (.int .i64 0), (.agg [(.int .i64 0), (.int .i64 0), (.int .i64 0), (.nil .slice)]), (.int .i64 0), (.int .i64 0), (.int .i64 0)])
  | 36 => some (.agg [(.int .i64 0), (.int .i64 0), (.int .i64 0), (.agg [(.agg [(.int .i64 0), (.int .i64 0)]), (.int .i64 0), (.int .i64 0), (.int .i64 0), (.str []), (.str []), (.str [])]), (.int .i64 0), (.int .i64 0), (.nil .slice), (.agg [(.int .i64 0), (.arr 3 8 (Vector.replicate 8 (default : Int))), (.arr 2 8 (Vector.replicate 8 (default : Int))), (.arr 3 8 (Vector.replicate 8 (default : Int)))]), (.int .i64 0), (.arr 2 8 (Vector.replicate 8 (default : Int))), (.int .i64 0), (.agg [(.int .i64 0), (.int .i64 0), (.int .i64 0), (.nil .slice)]), (.int .i64 0), (.int .i64 0), (.int .i64 0)])
  | 37 => some (.nil .func)
  | 38 => some (.int .i64 0)
  | 40 => some (.nil .func)
  | 41 => some (.nil .func)
  | 42 => some (.nil .func)
  | 43 => some (.nil .func)
  | 44 => some (.agg [(.int .i64 0), (.int .i64 0)])
  | 45 => some (.agg [(.int .i64 0), (.int .i64 0)])
  | 46 => some (.agg [(.int .i64 0), (.int .i64 0)])
  | 47 => some (.agg [(.int .i64 0), (.int .i64 0)])
  | 48 => some (.nil .slice)
  | 49 => some (.agg [(.int .i64 0), (.agg [(.int .i64 0), (.int .i64 0)]), (.agg [(.int .i64 0), (.int .i64 0)]), (.agg [(.int .i64 0), (.int .i64 0)]), (.int .i64 0), (.nil .slice), (.agg [(.int .i64 0), (.int .i64 0), (.int .i64 0), (.agg [(.agg [(.int .i64 0), (.int .i64 0)]), (.int .i64 0), (.int .i64 0), (.int .i64 0), (.str []), (.str []), (.str [])]), (.int .i64 0), (.int .i64 0), (.nil .slice), (.agg [(.int .i64 0), (.arr 3 8 (Vector.replicate 8 (default : Int))), (.arr 2 8 (Vector.replicate 8 (default : Int))), (.arr 3 8 (Vector.replicate 8 (default : Int)))]), (.int .i64 0), (.arr 2 8 (Vector.replicate 8 (default : Int))), (.int .i64 0), (.agg [(.int .i64 0), (.int .i64 0), (.int .i64 0), (.nil .slice)]), (.int .i64 0), (.int .i64 0), (.int .i64 0)]), (.int .i64 0), (.arr 2 8 (Vector.replicate 8 (default : Int))), (.int .i64 0), (.int .i64 0), (.nil .slice), (.agg [(.int .i64 0), (.arr 3 8 (Vector.replicate 8 (default : Int))), (.arr 2 8 (Vector.replicate 8 (default : Int))), (.arr 3 8 (Vector.replicate 8 (default : Int)))]), (.agg [(.int .i64 0), (.int .i64 0), (.int .i64 0), (.nil .slice)])])
  | 50 => some (.agg [(.int .i64 0), (.agg [(.int .i64 0), (.int .i64 0)]), (.agg [(.int .i64 0), (.int .i64 0)]), (.agg [(.int .i64 0), (.int .i64 0)]), (.int .i64 0), (.nil .slice), (.agg [(.int .i64 0), (.int .i64 0), (.int .i64 0), (.agg [(.agg [(.int .i64 0), (.int .i64 0)]), (.int .i64 0), (.int .i64 0), (.int .i64 0), (.str []), (.str []), (.str [])]), (.int .i64 0), (.int .i64 0), (.nil .slice), (.agg [(.int .i64 0), (.arr 3 8 (Vector.replicate 8 (default : Int))), (.arr 2 8 (Vector.replicate 8 (default : Int))), (.arr 3 8 (Vector.replicate 8 (default : Int)))]), (.int .i64 0), (.arr 2 8 (Vector.replicate 8 (default : Int))), (.int .i64 0), (.agg [(.int .i64 0), (.int .i64 0), (.int .i64 0), (.nil .slice)]), (.int .i64 0), (.int .i64 0), (.int .i64 0)]), (.int .i64 0), (.arr 2 8 (Vector.replicate 8 (default : Int))), (.int .i64 0), (.int .i64 0), (.nil .slice), (.agg [(.int .i64 0), (.arr 3 8 (Vector.replicate 8 (default : Int))), (.arr 2 8 (Vector.replicate 8 (default : Int))), (.arr 3 8 (Vector.replicate 8 (default : Int)))]), (.agg [(.int .i64 0), (.int .i64 0), (.int .i64 0), (.nil .slice)])])
  | 51 => some (.nil .func)
  | 52 => some (.nil .func)
  | 53 => some (.nil .func)
  | 54 => some (.nil .func)
  | 55 => some (.nil .ptr)
  | 56 => some (.nil .func)
  | 57 => some (.nil .func)
  | 58 => some (.nil .func)
  | 59 => some (.nil .func)
  | 60 => some (.nil .func)
  | 61 => some (.nil .func)
  | 62 => some (.nil .func)
  | 63 => some (.nil .func)
  | 64 => some (.nil .func)
  | 65 => some (.nil .func)
  | 66 => some (.nil .func)
  | 67 => some (.agg [(.bool false), (.nil .slice)])
  | 68 => some (.agg [(.bool false), (.nil .slice)])
  | 69 => some (.nil .slice)
  | 70 => some (.nil .func)
  | 71 => some (.nil .ptr)
  | 72 => some (.agg [(.bool false), (.nil .slice)])
  | 73 => some (.nil .slice)
  | 75 => some (.nil .func)
  | 77 => some (.nil .func)
  | 78 => some (.nil .func)
  | 79 => some (.agg [(.int .i64 0), (.agg [(.int .i64 0), (.int .i64 0)]), (.agg [(.int .i64 0), (.int .i64 0), (.int .i64 0), (.agg [(.agg [(.int .i64 0), (.int .i64 0)]), (.int .i64 0), (.int .i64 0), (.int .i64 0), (.str []), (.str []), (.str [])]), (.int .i64 0), (.int .i64 0), (.nil .slice), (.agg [(.int .i64 0), (.arr 3 8 (Vector.replicate 8 (default : Int))), (.arr 2 8 (Vector.replicate 8 (default : Int))), (.arr 3 8 (Vector.replicate 8 (default : Int)))]), (.int .i64 0), (.arr 2 8 (Vector.replicate 8 (default : Int))), (.int .i64 0), (.agg [(.int .i64 0), (.int .i64 0), (.int .i64 0), (.nil .slice)]), (.int .i64 0), (.int .i64 0), (.int .i64 0)])])
  | 80 => some (.agg [(.int .i64 0), (.agg [(.int .i64 0), (.int .i64 0)]), (.agg [(.int .i64 0), (.int .i64 0), (.int .i64 0), (.agg [(.agg [(.int .i64 0), (.int .i64 0)]), (.int .i64 0), (.int .i64 0), (.int .i64 0), (.str []), (.str []), (.str [])]), (.int .i64 0), (.int .i64 0), (.nil .slice), (.agg [(.int .i64 0), (.arr 3 8 (Vector.replicate 8 (default : Int))), (.arr 2 8 (Vector.replicate 8 (default : Int))), (.arr 3 8 (Vector.replicate 8 (default : Int)))]), (.int .i64 0), (.arr 2 8 (Vector.replicate 8 (default : Int))), (.int .i64 0), (.agg [(.int .i64 0), (.int .i64 0), (.int .i64 0), (.nil .slice)]), (.int .i64 0), (.int .i64 0), (.int .i64 0)])])
  | 81 => some (.nil .func)
  | 83 => some (.nil .func)
  | 84 => some (.nil .func)
  | 86 => some (.nil .func)
  | 87 => some (.nil .ptr)
  | 88 => some (.agg [(.nil .ptr), (.int .i64 0)])
  | 89 => some (.agg [(.nil .ptr), (.int .i64 0)])
  | 90 => some (.nil .func)
  | 91 => some (.nil .func)
  | 93 => some (.nil .func)
  | 94 => some (.nil .func)
  | 95 => some (.nil .func)
  | 96 => some (.nil .func)
  | 97 => some (.nil .func)
  | 98 => some (.nil .func)
  | 99 => some (.nil .func)
  | 100 => some (.nil .func)
  | 101 => some (.nil .func)
  | 102 => some (.nil .func)
  | 103 => some (.nil .func)
  | 104 => some (.nil .func)
  | 105 => some (.nil .func)
  | 106 => some (.nil .func)
  | 107 => some (.nil .func)
  | 108 => some (.nil .func)
  | 109 => some (.nil .func)
  | 110 => some (.nil .func)
  | 111 => some (.nil .func)
  | 112 => some (.nil .func)
  | 113 => some (.nil .func)
  | 114 => some (.nil .func)
  | 115 => some (.nil .func)
  | 116 => some (.nil .func)
  | 117 => some (.nil .func)
  | 118 => some (.nil .func)
  | 119 => some (.nil .func)
  | 120 => some (.nil .func)
  | 121 => some (.nil .slice)
  | 122 => some (.nil .func)
  | 123 => some (.nil .func)
  | 124 => some (.nil .func)
  | 125 => some (.nil .func)
  | 126 => some (.nil .func)
  | 127 => some (.nil .func)
  | 128 => some (.nil .ptr)
  | 129 => some (.nil .func)
  | 130 => some (.nil .func)
  | 131 => some (.nil .func)
  | 132 => some (.nil .func)
  | 133 => some (.nil .func)
  | 135 => some (.nil .func)
  | 136 => some (.nil .func)
  | 137 => some (.agg [(.nil .ptr), (.int .i64 0)])
  | 138 => some (.agg [(.nil .ptr), (.int .i64 0)])
  | 139 => some (.nil .func)
  | 140 => some (.nil .func)
  | 141 => some (.nil .func)
  | 142 => some (.nil .func)
  | 143 => some (.nil .func)
  | 144 => some (.nil .func)
  | 145 => some (.nil .func)
  | 146 => some (.nil .func)
  | 147 => some (.nil .func)
  | 148 => some (.nil .slice)
  | 149 => some (.int .u64 0)
  | 150 => some (.int .u64 0)
  | 151 => some (.nil .func)
  | 152 => some (.nil .func)
  | 153 => some (.nil .func)
  | 154 => some (.nil .slice)
  | 155 => some (.nil .func)
  | 156 => some (.nil .slice)
  | 157 => some (.nil .func)
  | 158 => some (.nil .func)
  | 160 => some (.nil .func)
  | 161 => some (.nil .func)
  | 162 => some (.nil .func)
  | 163 => some (.nil .ptr)
  | 164 => some (.nil .func)
  | 165 => some (.nil .ptr)
  | 166 => some (.nil .func)
  | 167 => some (.nil .func)
  | 168 => some (.nil .ptr)
  | 169 => some (.nil .func)
  | 170 => some (.nil .func)
  | 171 => some (.nil .func)
  | 172 => some (.nil .func)
  | 173 => some (.nil .func)
  | 174 => some (.int .u32 0)
  | 175 => some (.nil .func)
  | 177 => some (.nil .func)
  | 178 => some (.nil .func)
  | 179 => some (.nil .ptr)
  | 180 => some (.nil .func)
  | 181 => some (.nil .func)
  | 182 => some (.nil .slice)
  | 183 => some (.nil .func)
  | 184 => some (.nil .func)
  | 185 => some (.nil .func)
  | 186 => some (.nil .slice)
  | 187 => some (.nil .func)
  | 188 => some (.nil .slice)
  | 190 => some (.nil .func)
  | 191 => some (.nil .func)
  | 192 => some (.nil .func)
  | 193 => some (.nil .func)
  | 195 => some (.nil .func)
  | 196 => some (.nil .func)
  | 205 => some (.nil .ptr)
  | _ => none
theorem zok1 : ∃ i, E.ty 1 = some i ∧ (.nil .func : TV τ).ok = true ∧ CW i.zero ((.nil .func : TV τ).cells C) ∧ (.nil .func : TV τ).isAgg = i.agg := ⟨ti1, rfl, rfl, CW.of_eq (by kernel_rfl), rfl⟩
theorem zok2 : ∃ i, E.ty 2 = some i ∧ (.int .i64 0 : TV τ).ok = true ∧ CW i.zero ((.int .i64 0 : TV τ).cells C) ∧ (.int .i64 0 : TV τ).isAgg = i.agg := ⟨ti2, rfl, rfl, CW.of_eq (by kernel_rfl), rfl⟩
theorem zok3 : ∃ i, E.ty 3 = some i ∧ (.int .i64 0 : TV τ).ok = true ∧ CW i.zero ((.int .i64 0 : TV τ).cells C) ∧ (.int .i64 0 : TV τ).isAgg = i.agg := ⟨ti3, rfl, rfl, CW.of_eq (by kernel_rfl), rfl⟩
theorem zok4 : ∃ i, E.ty 4 = some i ∧ (.bool false : TV τ).ok = true ∧ CW i.zero ((.bool false : TV τ).cells C) ∧ (.bool false : TV τ).isAgg = i.agg := ⟨ti4, rfl, rfl, CW.of_eq (by kernel_rfl), rfl⟩
theorem zok5 : ∃ i, E.ty 5 = some i ∧ (.int .u8 0 : TV τ).ok = true ∧ CW i.zero ((.int .u8 0 : TV τ).cells C) ∧ (.int .u8 0 : TV τ).isAgg = i.agg := ⟨ti5, rfl, rfl, CW.of_eq (by kernel_rfl), rfl⟩
theorem zok9 : ∃ i, E.ty 9 = some i ∧ (.str [] : TV τ).ok = true ∧ CW i.zero ((.str [] : TV τ).cells C) ∧ (.str [] : TV τ).isAgg = i.agg := ⟨ti9, rfl, rfl, CW.of_eq (by kernel_rfl), rfl⟩
theorem zok12 : ∃ i, E.ty 12 = some i ∧ (.int .u64 0 : TV τ).ok = true ∧ CW i.zero ((.int .u64 0 : TV τ).cells C) ∧ (.int .u64 0 : TV τ).isAgg = i.agg := ⟨ti12, rfl, rfl, CW.of_eq (by kernel_rfl), rfl⟩
theorem zok17 : ∃ i, E.ty 17 = some i ∧ (.nil .ptr : TV τ).ok = true ∧ CW i.zero ((.nil .ptr : TV τ).cells C) ∧ (.nil .ptr : TV τ).isAgg = i.agg := ⟨ti17, rfl, rfl, CW.of_eq (by kernel_rfl), rfl⟩
theorem zok21 : ∃ i, E.ty 21 = some i ∧ (.int .i32 0 : TV τ).ok = true ∧ CW i.zero ((.int .i32 0 : TV τ).cells C) ∧ (.int .i32 0 : TV τ).isAgg = i.agg := ⟨ti21, rfl, rfl, CW.of_eq (by kernel_rfl), rfl⟩
theorem zok22 : ∃ i, E.ty 22 = some i ∧ (.agg [(.int .i64 0), (.int .i64 0)] : TV τ).ok = true ∧ CW i.zero ((.agg [(.int .i64 0), (.int .i64 0)] : TV τ).cells C) ∧ (.agg [(.int .i64 0), (.int .i64 0)] : TV τ).isAgg = i.agg := ⟨ti22, rfl, rfl, CW.of_eq (by kernel_rfl), rfl⟩
theorem zok23 : ∃ i, E.ty 23 = some i ∧ (.agg [(.int .i64 0), (.int .i64 0)] : TV τ).ok = true ∧ CW i.zero ((.agg [(.int .i64 0), (.int .i64 0)] : TV τ).cells C) ∧ (.agg [(.int .i64 0), (.int .i64 0)] : TV τ).isAgg = i.agg := ⟨ti23, rfl, rfl, CW.of_eq (by kernel_rfl), rfl⟩
theorem zok24 : ∃ i, E.ty 24 = some i ∧ (.agg [(.agg [(.int .i64 0), (.int .i64 0)]), (.int .i64 0), (.int .i64 0), (.int .i64 0), (.str []), (.str []), (.str [])] : TV τ).ok = true ∧ CW i.zero ((.agg [(.agg [(.int .i64 0), (.int .i64 0)]), (.int .i64 0), (.int .i64 0), (.int .i64 0), (.str []), (.str []), (.str [])] : TV τ).cells C) ∧ (.agg [(.agg [(.int .i64 0), (.int .i64 0)]), (.int .i64 0), (.int .i64 0), (.int .i64 0), (.str []), (.str []), (.str [])] : TV τ).isAgg = i.agg := ⟨ti24, rfl, rfl, CW.of_eq (by kernel_rfl), rfl⟩
theorem zok25 : ∃ i, E.ty 25 = some i ∧ (.agg [(.agg [(.int .i64 0), (.int .i64 0)]), (.int .i64 0), (.int .i64 0), (.int .i64 0), (.str []), (.str []), (.str [])] : TV τ).ok = true ∧ CW i.zero ((.agg [(.agg [(.int .i64 0), (.int .i64 0)]), (.int .i64 0), (.int .i64 0), (.int .i64 0), (.str []), (.str []), (.str [])] : TV τ).cells C) ∧ (.agg [(.agg [(.int .i64 0), (.int .i64 0)]), (.int .i64 0), (.int .i64 0), (.int .i64 0), (.str []), (.str []), (.str [])] : TV τ).isAgg = i.agg := ⟨ti25, rfl, rfl, CW.of_eq (by kernel_rfl), rfl⟩
theorem zok26 : ∃ i, E.ty 26 = some i ∧ (.nil .slice : TV τ).ok = true ∧ CW i.zero ((.nil .slice : TV τ).cells C) ∧ (.nil .slice : TV τ).isAgg = i.agg := ⟨ti26, rfl, rfl, CW.of_eq (by kernel_rfl), rfl⟩
theorem zok27 : ∃ i, E.ty 27 = some i ∧ (.arr 3 8 (Vector.replicate 8 (default : Int)) : TV τ).ok = true ∧ CW i.zero ((.arr 3 8 (Vector.replicate 8 (default : Int)) : TV τ).cells C) ∧ (.arr 3 8 (Vector.replicate 8 (default : Int)) : TV τ).isAgg = i.agg := ⟨ti27, rfl, rfl, CW.of_eq (by kernel_rfl), rfl⟩
theorem zok28 : ∃ i, E.ty 28 = some i ∧ (.arr 2 8 (Vector.replicate 8 (default : Int)) : TV τ).ok = true ∧ CW i.zero ((.arr 2 8 (Vector.replicate 8 (default : Int)) : TV τ).cells C) ∧ (.arr 2 8 (Vector.replicate 8 (default : Int)) : TV τ).isAgg = i.agg := ⟨ti28, rfl, rfl, CW.of_eq (by kernel_rfl), rfl⟩
theorem zok29 : ∃ i, E.ty 29 = some i ∧ (.arr 2 8 (Vector.replicate 8 (default : Int)) : TV τ).ok = true ∧ CW i.zero ((.arr 2 8 (Vector.replicate 8 (default : Int)) : TV τ).cells C) ∧ (.arr 2 8 (Vector.replicate 8 (default : Int)) : TV τ).isAgg = i.agg := ⟨ti29, rfl, rfl, CW.of_eq (by kernel_rfl), rfl⟩
theorem zok30 : ∃ i, E.ty 30 = some i ∧ (.agg [(.int .i64 0), (.arr 3 8 (Vector.replicate 8 (default : Int))), (.arr 2 8 (Vector.replicate 8 (default : Int))), (.arr 3 8 (Vector.replicate 8 (default : Int)))] : TV τ).ok = true ∧ CW i.zero ((.agg [(.int .i64 0), (.arr 3 8 (Vector.replicate 8 (default : Int))), (.arr 2 8 (Vector.replicate 8 (default : Int))), (.arr 3 8 (Vector.replicate 8 (default : Int)))] : TV τ).cells C) ∧ (.agg [(.int .i64 0), (.arr 3 8 (Vector.replicate 8 (default : Int))), (.arr 2 8 (Vector.replicate 8 (default : Int))), (.arr 3 8 (Vector.replicate 8 (default : Int)))] : TV τ).isAgg = i.agg := ⟨ti30, rfl, rfl, CW.of_eq (by kernel_rfl), rfl⟩
theorem zok31 : ∃ i, E.ty 31 = some i ∧ (.agg [(.int .i64 0), (.arr 3 8 (Vector.replicate 8 (default : Int))), (.arr 2 8 (Vector.replicate 8 (default : Int))), (.arr 3 8 (Vector.replicate 8 (default : Int)))] : TV τ).ok = true ∧ CW i.zero ((.agg [(.int .i64 0), (.arr 3 8 (Vector.replicate 8 (default : Int))), (.arr 2 8 (Vector.replicate 8 (default : Int))), (.arr 3 8 (Vector.replicate 8 (default : Int)))] : TV τ).cells C) ∧ (.agg [(.int .i64 0), (.arr 3 8 (Vector.replicate 8 (default : Int))), (.arr 2 8 (Vector.replicate 8 (default : Int))), (.arr 3 8 (Vector.replicate 8 (default : Int)))] : TV τ).isAgg = i.agg := ⟨ti31, rfl, rfl, CW.of_eq (by kernel_rfl), rfl⟩
theorem zok32 : ∃ i, E.ty 32 = some i ∧ (.nil .slice : TV τ).ok = true ∧ CW i.zero ((.nil .slice : TV τ).cells C) ∧ (.nil .slice : TV τ).isAgg = i.agg := ⟨ti32, rfl, rfl, CW.of_eq (by kernel_rfl), rfl⟩
theorem zok33 : ∃ i, E.ty 33 = some i ∧ (.agg [(.int .i64 0), (.int .i64 0), (.int .i64 0), (.nil .slice)] : TV τ).ok = true ∧ CW i.zero ((.agg [(.int .i64 0), (.int .i64 0), (.int .i64 0), (.nil .slice)] : TV τ).cells C) ∧ (.agg [(.int .i64 0), (.int .i64 0), (.int .i64 0), (.nil .slice)] : TV τ).isAgg = i.agg := ⟨ti33, rfl, rfl, CW.of_eq (by kernel_rfl), rfl⟩
theorem zok34 : ∃ i, E.ty 34 = some i ∧ (.agg [(.int .i64 0), (.int .i64 0), (.int .i64 0), (.nil .slice)] : TV τ).ok = true ∧ CW i.zero ((.agg [(.int .i64 0), (.int .i64 0), (.int .i64 0), (.nil .slice)] : TV τ).cells C) ∧ (.agg [(.int .i64 0), (.int .i64 0), (.int .i64 0), (.nil .slice)] : TV τ).isAgg = i.agg := ⟨ti34, rfl, rfl, CW.of_eq (by kernel_rfl), rfl⟩
theorem zok35 : ∃ i, E.ty 35 = some i ∧ (.agg [(.int .i64 0), (.int .i64 0), (.int .i64 0), (.agg [(.agg [(.int .i64 0), (.int .i64 0)]), (.int .i64 0), (.int .i64 0), (.int .i64 0), (.str []), (.str []), (.str [])]), (.int .i64 0), (.int .i64 0), (.nil .slice), (.agg [(.int .i64 0), (.arr 3 8 (Vector.replicate 8 (default : Int))), (.arr 2 8 (Vector.replicate 8 (default : Int))), (.arr 3 8 (Vector.replicate 8 (default : Int)))]), (.int .i64 0), (.arr 2 8 (Vector.replicate 8 (default : Int))), (.int .i64 0), (.agg [(.int .i64 0), (.int .i64 0), (.int .i64 0), (.nil .slice)]), (.int .i64 0), (.int .i64 0), (.int .i64 0)] : TV τ).ok = true ∧ CW i.zero ((.agg [(.int .i64 0), (.int .i64 0), (.int .i64 0), (.agg [(.agg [(.int .i64 0), (.int .i64 0)]), (.int .i64 0), (.int .i64 0), (.int .i64 0), (.str []), (.str []), (.str [])]), (.int .i64 0), (.int .i64 0), (.nil .slice), (.agg [(.int .i64 0), (.arr 3 8 (Vector.replicate 8 (default : Int))), (.arr 2 8 (Vector.replicate 8 (default : Int))), (.arr 3 8 (Vector.replicate 8 (default : Int)))]), (.int .i64 0), (.arr 2 8 (Vector.replicate 8 (default : Int))), (.int .i64 0), (.agg [(.int .i64 0), (.int .i64 0), (.int .i64 0), (.nil .slice)]), (.int .i64 0), (.int .i64 0), (.int .i64 0)] : TV τ).cells C) ∧ (.agg [(.int .i64 0), (.int .i64 0), (.int .i64 0), (.agg [(.agg [(.int .i64 0), (.int .i64 0)]), (.int .i64 0), (.int .i64 0), (.int .i64 0), (.str []), (.str []), (.str [])]), (.int .i64 0), (.int .i64 0), (.nil .slice), (.agg [(.int .i64 0), (.arr 3 8 (Vector.replicate 8 (default : Int))), (.arr 2 8 (Vector.replicate 8 (default : Int))), (.arr 3 8 (Vector.replicate 8 (default : Int)))]), (.int .i64 0), (.arr 2 8 (Vector.replicate 8 (default : Int))), (.int .i64 0), (.agg [(.int .i64 0), (.int .i64 0), (.int .i64 0), (.nil .slice)]), (.int .i64 0), (.int .i64 0), (.int .i64 0)] : TV τ).isAgg = i.agg := ⟨ti35, rfl, rfl, CW.of_eq (by kernel_rfl), rfl⟩
theorem zok36 : ∃ i, E.ty 36 = some i ∧ (.agg [(.int .i64 0), (.int .i64 0), (.int .i64 0), (.agg [(.agg [(.int .i64 0), (.int .i64 0)]), (.int .i64 0), (.int .i64 0), (.int .i64 0), (.str []), (.str []), (.str [])]), (.int .i64 0), (.int .i64 0), (.nil .slice), (.agg [(.int .i64 0), (.arr 3 8 (Vector.replicate 8 (default : Int))), (.arr 2 8 (Vector.replicate 8 (default : Int))), (.arr 3 8 (Vector.replicate 8 (default : Int)))]), (.int .i64 0), (.arr 2 8 (Vector.replicate 8 (default : Int))), (.int .i64 0), (.agg [(.int .i64 0), (.int .i64 0), (.int .i64 0), (.nil .slice)]), (.int .i64 0), (.int .i64 0), (.int .i64 0)] : TV τ).ok = true ∧ CW i.zero ((.agg [(.int .i64 0), (.int .i64 0), (.int .i64 0), (.agg [(.agg [(.int .i64 0), (.int .i64 0)]), (.int .i64 0), (.int .i64 0), (.int .i64 0), (.str []), (.str []), (.str [])]), (.int .i64 0), (.int .i64 0), (.nil .slice), (.agg [(.int .i64 0), (.arr 3 8 (Vector.replicate 8 (default : Int))), (.arr 2 8 (Vector.replicate 8 (default : Int))), (.arr 3 8 (Vector.replicate 8 (default : Int)))]), (.int .i64 0), (.arr 2 8 (Vector.replicate 8 (default : Int))), (.int .i64 0), (.agg [(.int .i64 0), (.int .i64 0), (.int .i64 0), (.nil .slice)]), (.int .i64 0), (.int .i64 0), (.int .i64 0)] : TV τ).cells C) ∧ (.agg [(.int .i64 0), (.int .i64 0), (.int .i64 0), (.agg [(.agg [(.int .i64 0), (.int .i64 0)]), (.int .i64 0), (.int .i64 0), (.int .i64 0), (.str []), (.str []), (.str [])]), (.int .i64 0), (.int .i64 0), (.nil .slice), (.agg [(.int .i64 0), (.arr 3 8 (Vector.replicate 8 (default : Int))), (.arr 2 8 (Vector.replicate 8 (default : Int))), (.arr 3 8 (Vector.replicate 8 (default : Int)))]), (.int .i64 0), (.arr 2 8 (Vector.replicate 8 (default : Int))), (.int .i64 0), (.agg [(.int .i64 0), (.int .i64 0), (.int .i64 0), (.nil .slice)]), (.int .i64 0), (.int .i64 0), (.int .i64 0)] : TV τ).isAgg = i.agg := ⟨ti36, rfl, rfl, CW.of_eq (by kernel_rfl), rfl⟩
theorem zok37 : ∃ i, E.ty 37 = some i ∧ (.nil .func : TV τ).ok = true ∧ CW i.zero ((.nil .func : TV τ).cells C) ∧ (.nil .func : TV τ).isAgg = i.agg := ⟨ti37, rfl, rfl, CW.of_eq (by kernel_rfl), rfl⟩
theorem zok38 : ∃ i, E.ty 38 = some i ∧ (.int .i64 0 : TV τ).ok = true ∧ CW i.zero ((.int .i64 0 : TV τ).cells C) ∧ (.int .i64 0 : TV τ).isAgg = i.agg := ⟨ti38, rfl, rfl, CW.of_eq (by kernel_rfl), rfl⟩
theorem zok40 : ∃ i, E.ty 40 = some i ∧ (.nil .func : TV τ).ok = true ∧ CW i.zero ((.nil .func : TV τ).cells C) ∧ (.nil .func : TV τ).isAgg = i.agg := ⟨ti40, rfl, rfl, CW.of_eq (by kernel_rfl), rfl⟩
theorem zok41 : ∃ i, E.ty 41 = some i ∧ (.nil .func : TV τ).ok = true ∧ CW i.zero ((.nil .func : TV τ).cells C) ∧ (.nil .func : TV τ).isAgg = i.agg := ⟨ti41, rfl, rfl, CW.of_eq (by kernel_rfl), rfl⟩
theorem zok42 : ∃ i, E.ty 42 = some i ∧ (.nil .func : TV τ).ok = true ∧ CW i.zero ((.nil .func : TV τ).cells C) ∧ (.nil .func : TV τ).isAgg = i.agg := ⟨ti42, rfl, rfl, CW.of_eq (by kernel_rfl), rfl⟩
theorem zok43 : ∃ i, E.ty 43 = some i ∧ (.nil .func : TV τ).ok = true ∧ CW i.zero ((.nil .func : TV τ).cells C) ∧ (.nil .func : TV τ).isAgg = i.agg := ⟨ti43, rfl, rfl, CW.of_eq (by kernel_rfl), rfl⟩
theorem zok44 : ∃ i, E.ty 44 = some i ∧ (.agg [(.int .i64 0), (.int .i64 0)] : TV τ).ok = true ∧ CW i.zero ((.agg [(.int .i64 0), (.int .i64 0)] : TV τ).cells C) ∧ (.agg [(.int .i64 0), (.int .i64 0)] : TV τ).isAgg = i.agg := ⟨ti44, rfl, rfl, CW.of_eq (by kernel_rfl), rfl⟩
theorem zok45 : ∃ i, E.ty 45 = some i ∧ (.agg [(.int .i64 0), (.int .i64 0)] : TV τ).ok = true ∧ CW i.zero ((.agg [(.int .i64 0), (.int .i64 0)] : TV τ).cells C) ∧ (.agg [(.int .i64 0), (.int .i64 0)] : TV τ).isAgg = i.agg := ⟨ti45, rfl, rfl, CW.of_eq (by kernel_rfl), rfl⟩
theorem zok46 : ∃ i, E.ty 46 = some i ∧ (.agg [(.int .i64 0), (.int .i64 0)] : TV τ).ok = true ∧ CW i.zero ((.agg [(.int .i64 0), (.int .i64 0)] : TV τ).cells C) ∧ (.agg [(.int .i64 0), (.int .i64 0)] : TV τ).isAgg = i.agg := ⟨ti46, rfl, rfl, CW.of_eq (by kernel_rfl), rfl⟩
theorem zok47 : ∃ i, E.ty 47 = some i ∧ (.agg [(.int .i64 0), (.int .i64 0)] : TV τ).ok = true ∧ CW i.zero ((.agg [(.int .i64 0), (.int .i64 0)] : TV τ).cells C) ∧ (.agg [(.int .i64 0), (.int .i64 0)] : TV τ).isAgg = i.agg := ⟨ti47, rfl, rfl, CW.of_eq (by kernel_rfl), rfl⟩
theorem zok48 : ∃ i, E.ty 48 = some i ∧ (.nil .slice : TV τ).ok = true ∧ CW i.zero ((.nil .slice : TV τ).cells C) ∧ (.nil .slice : TV τ).isAgg = i.agg := ⟨ti48, rfl, rfl, CW.of_eq (by kernel_rfl), rfl⟩
theorem zok49 : ∃ i, E.ty 49 = some i ∧ (.agg [(.int .i64 0), (.agg [(.int .i64 0), (.int .i64 0)]), (.agg [(.int .i64 0), (.int .i64 0)]), (.agg [(.int .i64 0), (.int .i64 0)]), (.int .i64 0), (.nil .slice), (.agg [(.int .i64 0), (.int .i64 0), (.int .i64 0), (.agg [(.agg [(.int .i64 0), (.int .i64 0)]), (.int .i64 0), (.int .i64 0), (.int .i64 0), (.str []), (.str []), (.str [])]), (.int .i64 0), (.int .i64 0), (.nil .slice), (.agg [(.int .i64 0), (.arr 3 8 (Vector.replicate 8 (default : Int))), (.arr 2 8 (Vector.replicate 8 (default : Int))), (.arr 3 8 (Vector.replicate 8 (default : Int)))]), (.int .i64 0), (.arr 2 8 (Vector.replicate 8 (default : Int))), (.int .i64 0), (.agg [(.int .i64 0), (.int .i64 0), (.int .i64 0), (.nil .slice)]), (.int .i64 0), (.int .i64 0), (.int .i64 0)]), (.int .i64 0), (.arr 2 8 (Vector.replicate 8 (default : Int))), (.int .i64 0), (.int .i64 0), (.nil .slice), (.agg [(.int .i64 0), (.arr 3 8 (Vector.replicate 8 (default : Int))), (.arr 2 8 (Vector.replicate 8 (default : Int))), (.arr 3 8 (Vector.replicate 8 (default : Int)))]), (.agg [(.int .i64 0), (.int .i64 0), (.int .i64 0), (.nil .slice)])] : TV τ).ok = true ∧ CW i.zero ((.agg [(.int .i64 0), (.agg [(.int .i64 0), (.int .i64 0)]), (.agg [(.int .i64 0), (.int .i64 0)]), (.agg [(.int .i64 0), (.int .i64 0)]), (.int .i64 0), (.nil .slice), (.agg [(.int .i64 0), (.int .i64 0), (.int .i64 0), (.agg [(.agg [(.int .i64 0), (.int .i64 0)]), (.int .i64 0), (.int .i64 0), (.int .i64 0), (.str []), (.str []), (.str [])]), (.int .i64 0), (.int .i64 0), (.nil .slice), (.agg [(.int .i64 0), (.arr 3 8 (Vector.replicate 8 (default : Int))), (.arr 2 8 (Vector.replicate 8 (default : Int))), (.arr 3 8 (Vector.replicate 8 (default : Int)))]), (.int .i64 0), (.arr 2 8 (Vector.replicate 8 (default : Int))), (.int .i64 0), (.agg [(.int .i64 0), (.int .i64 0), (.int .i64 0), (.nil .slice)]), (.int .i64 0), (.int .i64 0), (.int .i64 0)]), (.int .i64 0), (.arr 2 8 (Vector.replicate 8 (default : Int))), (.int .i64 0), (.int .i64 0), (.nil .slice), (.agg [(.int .i64 0), (.arr 3 8 (Vector.replicate 8 (default : Int))), (.arr 2 8 (Vector.replicate 8 (default : Int))), (.arr 3 8 (Vector.replicate 8 (default : Int)))]), (.agg [(.int .i64 0), (.int .i64 0), (.int .i64 0), (.nil .slice)])] : TV τ).cells C) ∧ (.agg [(.int .i64 0), (.agg [(.int .i64 0), (.int .i64 0)]), (.agg [(.int .i64 0), (.int .i64 0)]), (.agg [(.int .i64 0), (.int .i64 0)]), (.int .i64 0), (.nil .slice), (.agg [(.int .i64 0), (.int .i64 0), (.int .i64 0), (.agg [(.agg [(.int .i64 0), (.int .i64 0)]), (.int .i64 0), (.int .i64 0), (.int .i64 0), (.str []), (.str []), (.str [])]), (.int .i64 0), (.int .i64 0), (.nil .slice), (.agg [(.int .i64 0), (.arr 3 8 (Vector.replicate 8 (default : Int))), (.arr 2 8 (Vector.replicate 8 (default : Int))), (.arr 3 8 (Vector.replicate 8 (default : Int)))]), (.int .i64 0), (.arr 2 8 (Vector.replicate 8 (default : Int))), (.int .i64 0), (.agg [(.int .i64 0), (.int .i64 0), (.int .i64 0), (.nil .slice)]), (.int .i64 0), (.int .i64 0), (.int .i64 0)]), (.int .i64 0), (.arr 2 8 (Vector.replicate 8 (default : Int))), (.int .i64 0), (.int .i64 0), (.nil .slice), (.agg [(.int .i64 0), (.arr 3 8 (Vector.replicate 8 (default : Int))), (.arr 2 8 (Vector.replicate 8 (default : Int))), (.arr 3 8 (Vector.replicate 8 (default : Int)))]), (.agg [(.int .i64 0), (.int .i64 0), (.int .i64 0), (.nil .slice)])] : TV τ).isAgg = i.agg := ⟨ti49, rfl, rfl, CW.of_eq (by kernel_rfl), rfl⟩
theorem zok50 : ∃ i, E.ty 50 = some i ∧ (.agg [(.int .i64 0), (.agg [(.int .i64 0), (.int .i64 0)]), (.agg [(.int .i64 0), (.int .i64 0)]), (.agg [(.int .i64 0), (.int .i64 0)]), (.int .i64 0), (.nil .slice), (.agg [(.int .i64 0), (.int .i64 0), (.int .i64 0), (.agg [(.agg [(.int .i64 0), (.int .i64 0)]), (.int .i64 0), (.int .i64 0), (.int .i64 0), (.str []), (.str []), (.str [])]), (.int .i64 0), (.int .i64 0), (.nil .slice), (.agg [(.int .i64 0), (.arr 3 8 (Vector.replicate 8 (default : Int))), (.arr 2 8 (Vector.replicate 8 (default : Int))), (.arr 3 8 (Vector.replicate 8 (default : Int)))]), (.int .i64 0), (.arr 2 8 (Vector.replicate 8 (default : Int))), (.int .i64 0), (.agg [(.int .i64 0), (.int .i64 0), (.int .i64 0), (.nil .slice)]), (.int .i64 0), (.int .i64 0), (.int .i64 0)]), (.int .i64 0), (.arr 2 8 (Vector.replicate 8 (default : Int))), (.int .i64 0), (.int .i64 0), (.nil .slice), (.agg [(.int .i64 0), (.arr 3 8 (Vector.replicate 8 (default : Int))), (.arr 2 8 (Vector.replicate 8 (default : Int))), (.arr 3 8 (Vector.replicate 8 (default : Int)))]), (.agg [(.int .i64 0), (.int .i64 0), (.int .i64 0), (.nil .slice)])] : TV τ).ok = true ∧ CW i.zero ((.agg [(.int .i64 0), (.agg [(.int .i64 0), (.int .i64 0)]), (.agg [(.int .i64 0), (.int .i64 0)]), (.agg [(.int .i64 0), (.int .i64 0)]), (.int .i64 0), (.nil .slice), (.agg [(.int .i64 0), (.int .i64 0), (.int .i64 0), (.agg [(.agg [(.int .i64 0), (.int .i64 0)]), (.int .i64 0), (.int .i64 0), (.int .i64 0), (.str []), (.str []), (.str [])]), (.int .i64 0), (.int .i64 0), (.nil .slice), (.agg [(.int .i64 0), (.arr 3 8 (Vector.replicate 8 (default : Int))), (.arr 2 8 (Vector.replicate 8 (default : Int))), (.arr 3 8 (Vector.replicate 8 (default : Int)))]), (.int .i64 0), (.arr 2 8 (Vector.replicate 8 (default : Int))), (.int .i64 0), (.agg [(.int .i64 0), (.int .i64 0), (.int .i64 0), (.nil .slice)]), (.int .i64 0), (.int .i64 0), (.int .i64 0)]), (.int .i64 0), (.arr 2 8 (Vector.replicate 8 (default : Int))), (.int .i64 0), (.int .i64 0), (.nil .slice), (.agg [(.int .i64 0), (.arr 3 8 (Vector.replicate 8 (default : Int))), (.arr 2 8 (Vector.replicate 8 (default : Int))), (.arr 3 8 (Vector.replicate 8 (default : Int)))]), (.agg [(.int .i64 0), (.int .i64 0), (.int .i64 0), (.nil .slice)])] : TV τ).cells C) ∧ (.agg [(.int .i64 0), (.agg [(.int .i64 0), (.int .i64 0)]), (.agg [(.int .i64 0), (.int .i64 0)]), (.agg [(.int .i64 0), (.int .i64 0)]), (.int .i64 0), (.nil .slice), (.agg [(.int .i64 0), (.int .i64 0), (.int .i64 0), (.agg [(.agg [(.int .i64 0), (.int .i64 0)]), (.int .i64 0), (.int .i64 0), (.int .i64 0), (.str []), (.str []), (.str [])]), (.int .i64 0), (.int .i64 0), (.nil .slice), (.agg [(.int .i64 0), (.arr 3 8 (Vector.replicate 8 (default : Int))), (.arr 2 8 (Vector.replicate 8 (default : Int))), (.arr 3 8 (Vector.replicate 8 (default : Int)))]), (.int .i64 0), (.arr 2 8 (Vector.replicate 8 (default : Int))), (.int .i64 0), (.agg [(.int .i64 0), (.int .i64 0), (.int .i64 0), (.nil .slice)]), (.int .i64 0), (.int .i64 0), (.int .i64 0)]), (.int .i64 0), (.arr 2 8 (Vector.replicate 8 (default : Int))), (.int .i64 0), (.int .i64 0), (.nil .slice), (.agg [(.int .i64 0), (.arr 3 8 (Vector.replicate 8 (default : Int))), (.arr 2 8 (Vector.replicate 8 (default : Int))), (.arr 3 8 (Vector.replicate 8 (default : Int)))]), (.agg [(.int .i64 0), (.int .i64 0), (.int .i64 0), (.nil .slice)])] : TV τ).isAgg = i.agg := ⟨ti50, rfl, rfl, CW.of_eq (by kernel_rfl), rfl⟩
theorem zok51 : ∃ i, E.ty 51 = some i ∧ (.nil .func : TV τ).ok = true ∧ CW i.zero ((.nil .func : TV τ).cells C) ∧ (.nil .func : TV τ).isAgg = i.agg := ⟨ti51, rfl, rfl, CW.of_eq (by kernel_rfl), rfl⟩
theorem zok52 : ∃ i, E.ty 52 = some i ∧ (.nil .func : TV τ).ok = true ∧ CW i.zero ((.nil .func : TV τ).cells C) ∧ (.nil .func : TV τ).isAgg = i.agg := ⟨ti52, rfl, rfl, CW.of_eq (by kernel_rfl), rfl⟩
theorem zok53 : ∃ i, E.ty 53 = some i ∧ (.nil .func : TV τ).ok = true ∧ CW i.zero ((.nil .func : TV τ).cells C) ∧ (.nil .func : TV τ).isAgg = i.agg := ⟨ti53, rfl, rfl, CW.of_eq (by kernel_rfl), rfl⟩
theorem zok54 : ∃ i, E.ty 54 = some i ∧ (.nil .func : TV τ).ok = true ∧ CW i.zero ((.nil .func : TV τ).cells C) ∧ (.nil .func : TV τ).isAgg = i.agg := ⟨ti54, rfl, rfl, CW.of_eq (by kernel_rfl), rfl⟩
theorem zok55 : ∃ i, E.ty 55 = some i ∧ (.nil .ptr : TV τ).ok = true ∧ CW i.zero ((.nil .ptr : TV τ).cells C) ∧ (.nil .ptr : TV τ).isAgg = i.agg := ⟨ti55, rfl, rfl, CW.of_eq (by kernel_rfl), rfl⟩
theorem zok56 : ∃ i, E.ty 56 = some i ∧ (.nil .func : TV τ).ok = true ∧ CW i.zero ((.nil .func : TV τ).cells C) ∧ (.nil .func : TV τ).isAgg = i.agg := ⟨ti56, rfl, rfl, CW.of_eq (by kernel_rfl), rfl⟩
theorem zok57 : ∃ i, E.ty 57 = some i ∧ (.nil .func : TV τ).ok = true ∧ CW i.zero ((.nil .func : TV τ).cells C) ∧ (.nil .func : TV τ).isAgg = i.agg := ⟨ti57, rfl, rfl, CW.of_eq (by kernel_rfl), rfl⟩
theorem zok58 : ∃ i, E.ty 58 = some i ∧ (.nil .func : TV τ).ok = true ∧ CW i.zero ((.nil .func : TV τ).cells C) ∧ (.nil .func : TV τ).isAgg = i.agg := ⟨ti58, rfl, rfl, CW.of_eq (by kernel_rfl), rfl⟩
theorem zok59 : ∃ i, E.ty 59 = some i ∧ (.nil .func : TV τ).ok = true ∧ CW i.zero ((.nil .func : TV τ).cells C) ∧ (.nil .func : TV τ).isAgg = i.agg := ⟨ti59, rfl, rfl, CW.of_eq (by kernel_rfl), rfl⟩
theorem zok60 : ∃ i, E.ty 60 = some i ∧ (.nil .func : TV τ).ok = true ∧ CW i.zero ((.nil .func : TV τ).cells C) ∧ (.nil .func : TV τ).isAgg = i.agg := ⟨ti60, rfl, rfl, CW.of_eq (by kernel_rfl), rfl⟩
theorem zok61 : ∃ i, E.ty 61 = some i ∧ (.nil .func : TV τ).ok = true ∧ CW i.zero ((.nil .func : TV τ).cells C) ∧ (.nil .func : TV τ).isAgg = i.agg := ⟨ti61, rfl, rfl, CW.of_eq (by kernel_rfl), rfl⟩
theorem zok62 : ∃ i, E.ty 62 = some i ∧ (.nil .func : TV τ).ok = true ∧ CW i.zero ((.nil .func : TV τ).cells C) ∧ (.nil .func : TV τ).isAgg = i.agg := ⟨ti62, rfl, rfl, CW.of_eq (by kernel_rfl), rfl⟩
theorem zok63 : ∃ i, E.ty 63 = some i ∧ (.nil .func : TV τ).ok = true ∧ CW i.zero ((.nil .func : TV τ).cells C) ∧ (.nil .func : TV τ).isAgg = i.agg := ⟨ti63, rfl, rfl, CW.of_eq (by kernel_rfl), rfl⟩
theorem zok64 : ∃ i, E.ty 64 = some i ∧ (.nil .func : TV τ).ok = true ∧ CW i.zero ((.nil .func : TV τ).cells C) ∧ (.nil .func : TV τ).isAgg = i.agg := ⟨ti64, rfl, rfl, CW.of_eq (by kernel_rfl), rfl⟩
theorem zok65 : ∃ i, E.ty 65 = some i ∧ (.nil .func : TV τ).ok = true ∧ CW i.zero ((.nil .func : TV τ).cells C) ∧ (.nil .func : TV τ).isAgg = i.agg := ⟨ti65, rfl, rfl, CW.of_eq (by kernel_rfl), rfl⟩
theorem zok66 : ∃ i, E.ty 66 = some i ∧ (.nil .func : TV τ).ok = true ∧ CW i.zero ((.nil .func : TV τ).cells C) ∧ (.nil .func : TV τ).isAgg = i.agg := ⟨ti66, rfl, rfl, CW.of_eq (by kernel_rfl), rfl⟩
theorem zok67 : ∃ i, E.ty 67 = some i ∧ (.agg [(.bool false), (.nil .slice)] : TV τ).ok = true ∧ CW i.zero ((.agg [(.bool false), (.nil .slice)] : TV τ).cells C) ∧ (.agg [(.bool false), (.nil .slice)] : TV τ).isAgg = i.agg := ⟨ti67, rfl, rfl, CW.of_eq (by kernel_rfl), rfl⟩
theorem zok68 : ∃ i, E.ty 68 = some i ∧ (.agg [(.bool false), (.nil .slice)] : TV τ).ok = true ∧ CW i.zero ((.agg [(.bool false), (.nil .slice)] : TV τ).cells C) ∧ (.agg [(.bool false), (.nil .slice)] : TV τ).isAgg = i.agg := ⟨ti68, rfl, rfl, CW.of_eq (by kernel_rfl), rfl⟩
theorem zok69 : ∃ i, E.ty 69 = some i ∧ (.nil .slice : TV τ).ok = true ∧ CW i.zero ((.nil .slice : TV τ).cells C) ∧ (.nil .slice : TV τ).isAgg = i.agg := ⟨ti69, rfl, rfl, CW.of_eq (by kernel_rfl), rfl⟩
theorem zok70 : ∃ i, E.ty 70 = some i ∧ (.nil .func : TV τ).ok = true ∧ CW i.zero ((.nil .func : TV τ).cells C) ∧ (.nil .func : TV τ).isAgg = i.agg := ⟨ti70, rfl, rfl, CW.of_eq (by kernel_rfl), rfl⟩
theorem zok71 : ∃ i, E.ty 71 = some i ∧ (.nil .ptr : TV τ).ok = true ∧ CW i.zero ((.nil .ptr : TV τ).cells C) ∧ (.nil .ptr : TV τ).isAgg = i.agg := ⟨ti71, rfl, rfl, CW.of_eq (by kernel_rfl), rfl⟩
theorem zok72 : ∃ i, E.ty 72 = some i ∧ (.agg [(.bool false), (.nil .slice)] : TV τ).ok = true ∧ CW i.zero ((.agg [(.bool false), (.nil .slice)] : TV τ).cells C) ∧ (.agg [(.bool false), (.nil .slice)] : TV τ).isAgg = i.agg := ⟨ti72, rfl, rfl, CW.of_eq (by kernel_rfl), rfl⟩
theorem zok73 : ∃ i, E.ty 73 = some i ∧ (.nil .slice : TV τ).ok = true ∧ CW i.zero ((.nil .slice : TV τ).cells C) ∧ (.nil .slice : TV τ).isAgg = i.agg := ⟨ti73, rfl, rfl, CW.of_eq (by kernel_rfl), rfl⟩
theorem zok75 : ∃ i, E.ty 75 = some i ∧ (.nil .func : TV τ).ok = true ∧ CW i.zero ((.nil .func : TV τ).cells C) ∧ (.nil .func : TV τ).isAgg = i.agg := ⟨ti75, rfl, rfl, CW.of_eq (by kernel_rfl), rfl⟩
theorem zok77 : ∃ i, E.ty 77 = some i ∧ (.nil .func : TV τ).ok = true ∧ CW i.zero ((.nil .func : TV τ).cells C) ∧ (.nil .func : TV τ).isAgg = i.agg := ⟨ti77, rfl, rfl, CW.of_eq (by kernel_rfl), rfl⟩
theorem zok78 : ∃ i, E.ty 78 = some i ∧ (.nil .func : TV τ).ok = true ∧ CW i.zero ((.nil .func : TV τ).cells C) ∧ (.nil .func : TV τ).isAgg = i.agg := ⟨ti78, rfl, rfl, CW.of_eq (by kernel_rfl), rfl⟩
theorem zok79 : ∃ i, E.ty 79 = some i ∧ (.agg [(.int .i64 0), (.agg [(.int .i64 0), (.int .i64 0)]), (.agg [(.int .i64 0), (.int .i64 0), (.int .i64 0), (.agg [(.agg [(.int .i64 0), (.int .i64 0)]), (.int .i64 0), (.int .i64 0), (.int .i64 0), (.str []), (.str []), (.str [])]), (.int .i64 0), (.int .i64 0), (.nil .slice), (.agg [(.int .i64 0), (.arr 3 8 (Vector.replicate 8 (default : Int))), (.arr 2 8 (Vector.replicate 8 (default : Int))), (.arr 3 8 (Vector.replicate 8 (default : Int)))]), (.int .i64 0), (.arr 2 8 (Vector.replicate 8 (default : Int))), (.int .i64 0), (.agg [(.int .i64 0), (.int .i64 0), (.int .i64 0), (.nil .slice)]), (.int .i64 0), (.int .i64 0), (.int .i64 0)])] : TV τ).ok = true ∧ CW i.zero ((.agg [(.int .i64 0), (.agg [(.int .i64 0), (.int .i64 0)]), (.agg [(.int .i64 0), (.int .i64 0), (.int .i64 0), (.agg [(.agg [(.int .i64 0), (.int .i64 0)]), (.int .i64 0), (.int .i64 0), (.int .i64 0), (.str []), (.str []), (.str [])]), (.int .i64 0), (.int .i64 0), (.nil .slice), (.agg [(.int .i64 0), (.arr 3 8 (Vector.replicate 8 (default : Int))), (.arr 2 8 (Vector.replicate 8 (default : Int))), (.arr 3 8 (Vector.replicate 8 (default : Int)))]), (.int .i64 0), (.arr 2 8 (Vector.replicate 8 (default : Int))), (.int .i64 0), (.agg [(.int .i64 0), (.int .i64 0), (.int .i64 0), (.nil .slice)]), (.int .i64 0), (.int .i64 0), (.int .i64 0)])] : TV τ).cells C) ∧ (.agg [(.int .i64 0), (.agg [(.int .i64 0), (.int .i64 0)]), (.agg [(.int .i64 0), (.int .i64 0), (.int .i64 0), (.agg [(.agg [(.int .i64 0), (.int .i64 0)]), (.int .i64 0), (.int .i64 0), (.int .i64 0), (.str []), (.str []), (.str [])]), (.int .i64 0), (.int .i64 0), (.nil .slice), (.agg [(.int .i64 0), (.arr 3 8 (Vector.replicate 8 (default : Int))), (.arr 2 8 (Vector.replicate 8 (default : Int))), (.arr 3 8 (Vector.replicate 8 (default : Int)))]), (.int .i64 0), (.arr 2 8 (Vector.replicate 8 (default : Int))), (.int .i64 0), (.agg [(.int .i64 0), (.int .i64 0), (.int .i64 0), (.nil .slice)]), (.int .i64 0), (.int .i64 0), (.int .i64 0)])] : TV τ).isAgg = i.agg := ⟨ti79, rfl, rfl, CW.of_eq (by kernel_rfl), rfl⟩
theorem zok80 : ∃ i, E.ty 80 = some i ∧ (.agg [(.int .i64 0), (.agg [(.int .i64 0), (.int .i64 0)]), (.agg [(.int .i64 0), (.int .i64 0), (.int .i64 0), (.agg [(.agg [(.int .i64 0), (.int .i64 0)]), (.int .i64 0), (.int .i64 0), (.int .i64 0), (.str []), (.str []), (.str [])]), (.int .i64 0), (.int .i64 0), (.nil .slice), (.agg [(.int .i64 0), (.arr 3 8 (Vector.replicate 8 (default : Int))), (.arr 2 8 (Vector.replicate 8 (default : Int))), (.arr 3 8 (Vector.replicate 8 (default : Int)))]), (.int .i64 0), (.arr 2 8 (Vector.replicate 8 (default : Int))), (.int .i64 0), (.agg [(.int .i64 0), (.int .i64 0), (.int .i64 0), (.nil .slice)]), (.int .i64 0), (.int .i64 0), (.int .i64 0)])] : TV τ).ok = true ∧ CW i.zero ((.agg [(.int .i64 0), (.agg [(.int .i64 0), (.int .i64 0)]), (.agg [(.int .i64 0), (.int .i64 0), (.int .i64 0), (.agg [(.agg [(.int .i64 0), (.int .i64 0)]), (.int .i64 0), (.int .i64 0), (.int .i64 0), (.str []), (.str []), (.str [])]), (.int .i64 0), (.int .i64 0), (.nil .slice), (.agg [(.int .i64 0), (.arr 3 8 (Vector.replicate 8 (default : Int))), (.arr 2 8 (Vector.replicate 8 (default : Int))), (.arr 3 8 (Vector.replicate 8 (default : Int)))]), (.int .i64 0), (.arr 2 8 (Vector.replicate 8 (default : Int))), (.int .i64 0), (.agg [(.int .i64 0), (.int .i64 0), (.int .i64 0), (.nil .slice)]), (.int .i64 0), (.int .i64 0), (.int .i64 0)])] : TV τ).cells C) ∧ (.agg [(.int .i64 0), (.agg [(.int .i64 0), (.int .i64 0)]), (.agg [(.int .i64 0), (.int .i64 0), (.int .i64 0), (.agg [(.agg [(.int .i64 0), (.int .i64 0)]), (.int .i64 0), (.int .i64 0), (.int .i64 0), (.str []), (.str []), (.str [])]), (.int .i64 0), (.int .i64 0), (.nil .slice), (.agg [(.int .i64 0), (.arr 3 8 (Vector.replicate 8 (default : Int))), (.arr 2 8 (Vector.replicate 8 (default : Int))), (.arr 3 8 (Vector.replicate 8 (default : Int)))]), (.int .i64 0), (.arr 2 8 (Vector.replicate 8 (default : Int))), (.int .i64 0), (.agg [(.int .i64 0), (.int .i64 0), (.int .i64 0), (.nil .slice)]), (.int .i64 0), (.int .i64 0), (.int .i64 0)])] : TV τ).isAgg = i.agg := ⟨ti80, rfl, rfl, CW.of_eq (by kernel_rfl), rfl⟩
theorem zok81 : ∃ i, E.ty 81 = some i ∧ (.nil .func : TV τ).ok = true ∧ CW i.zero ((.nil .func : TV τ).cells C) ∧ (.nil .func : TV τ).isAgg = i.agg := ⟨ti81, rfl, rfl, CW.of_eq (by kernel_rfl), rfl⟩
theorem zok83 : ∃ i, E.ty 83 = some i ∧ (.nil .func : TV τ).ok = true ∧ CW i.zero ((.nil .func : TV τ).cells C) ∧ (.nil .func : TV τ).isAgg = i.agg := ⟨ti83, rfl, rfl, CW.of_eq (by kernel_rfl), rfl⟩
theorem zok84 : ∃ i, E.ty 84 = some i ∧ (.nil .func : TV τ).ok = true ∧ CW i.zero ((.nil .func : TV τ).cells C) ∧ (.nil .func : TV τ).isAgg = i.agg := ⟨ti84, rfl, rfl, CW.of_eq (by kernel_rfl), rfl⟩
theorem zok86 : ∃ i, E.ty 86 = some i ∧ (.nil .func : TV τ).ok = true ∧ CW i.zero ((.nil .func : TV τ).cells C) ∧ (.nil .func : TV τ).isAgg = i.agg := ⟨ti86, rfl, rfl, CW.of_eq (by kernel_rfl), rfl⟩
theorem zok87 : ∃ i, E.ty 87 = some i ∧ (.nil .ptr : TV τ).ok = true ∧ CW i.zero ((.nil .ptr : TV τ).cells C) ∧ (.nil .ptr : TV τ).isAgg = i.agg := ⟨ti87, rfl, rfl, CW.of_eq (by kernel_rfl), rfl⟩
theorem zok88 : ∃ i, E.ty 88 = some i ∧ (.agg [(.nil .ptr), (.int .i64 0)] : TV τ).ok = true ∧ CW i.zero ((.agg [(.nil .ptr), (.int .i64 0)] : TV τ).cells C) ∧ (.agg [(.nil .ptr), (.int .i64 0)] : TV τ).isAgg = i.agg := ⟨ti88, rfl, rfl, CW.of_eq (by kernel_rfl), rfl⟩
theorem zok89 : ∃ i, E.ty 89 = some i ∧ (.agg [(.nil .ptr), (.int .i64 0)] : TV τ).ok = true ∧ CW i.zero ((.agg [(.nil .ptr), (.int .i64 0)] : TV τ).cells C) ∧ (.agg [(.nil .ptr), (.int .i64 0)] : TV τ).isAgg = i.agg := ⟨ti89, rfl, rfl, CW.of_eq (by kernel_rfl), rfl⟩
theorem zok90 : ∃ i, E.ty 90 = some i ∧ (.nil .func : TV τ).ok = true ∧ CW i.zero ((.nil .func : TV τ).cells C) ∧ (.nil .func : TV τ).isAgg = i.agg := ⟨ti90, rfl, rfl, CW.of_eq (by kernel_rfl), rfl⟩
theorem zok91 : ∃ i, E.ty 91 = some i ∧ (.nil .func : TV τ).ok = true ∧ CW i.zero ((.nil .func : TV τ).cells C) ∧ (.nil .func : TV τ).isAgg = i.agg := ⟨ti91, rfl, rfl, CW.of_eq (by kernel_rfl), rfl⟩
theorem zok93 : ∃ i, E.ty 93 = some i ∧ (.nil .func : TV τ).ok = true ∧ CW i.zero ((.nil .func : TV τ).cells C) ∧ (.nil .func : TV τ).isAgg = i.agg := ⟨ti93, rfl, rfl, CW.of_eq (by kernel_rfl), rfl⟩
theorem zok94 : ∃ i, E.ty 94 = some i ∧ (.nil .func : TV τ).ok = true ∧ CW i.zero ((.nil .func : TV τ).cells C) ∧ (.nil .func : TV τ).isAgg = i.agg := ⟨ti94, rfl, rfl, CW.of_eq (by kernel_rfl), rfl⟩
theorem zok95 : ∃ i, E.ty 95 = some i ∧ (.nil .func : TV τ).ok = true ∧ CW i.zero ((.nil .func : TV τ).cells C) ∧ (.nil .func : TV τ).isAgg = i.agg := ⟨ti95, rfl, rfl, CW.of_eq (by kernel_rfl), rfl⟩
theorem zok96 : ∃ i, E.ty 96 = some i ∧ (.nil .func : TV τ).ok = true ∧ CW i.zero ((.nil .func : TV τ).cells C) ∧ (.nil .func : TV τ).isAgg = i.agg := ⟨ti96, rfl, rfl, CW.of_eq (by kernel_rfl), rfl⟩
theorem zok97 : ∃ i, E.ty 97 = some i ∧ (.nil .func : TV τ).ok = true ∧ CW i.zero ((.nil .func : TV τ).cells C) ∧ (.nil .func : TV τ).isAgg = i.agg := ⟨ti97, rfl, rfl, CW.of_eq (by kernel_rfl), rfl⟩
theorem zok98 : ∃ i, E.ty 98 = some i ∧ (.nil .func : TV τ).ok = true ∧ CW i.zero ((.nil .func : TV τ).cells C) ∧ (.nil .func : TV τ).isAgg = i.agg := ⟨ti98, rfl, rfl, CW.of_eq (by kernel_rfl), rfl⟩
theorem zok99 : ∃ i, E.ty 99 = some i ∧ (.nil .func : TV τ).ok = true ∧ CW i.zero ((.nil .func : TV τ).cells C) ∧ (.nil .func : TV τ).isAgg = i.agg := ⟨ti99, rfl, rfl, CW.of_eq (by kernel_rfl), rfl⟩
theorem zok100 : ∃ i, E.ty 100 = some i ∧ (.nil .func : TV τ).ok = true ∧ CW i.zero ((.nil .func : TV τ).cells C) ∧ (.nil .func : TV τ).isAgg = i.agg := ⟨ti100, rfl, rfl, CW.of_eq (by kernel_rfl), rfl⟩
theorem zok101 : ∃ i, E.ty 101 = some i ∧ (.nil .func : TV τ).ok = true ∧ CW i.zero ((.nil .func : TV τ).cells C) ∧ (.nil .func : TV τ).isAgg = i.agg := ⟨ti101, rfl, rfl, CW.of_eq (by kernel_rfl), rfl⟩
theorem zok102 : ∃ i, E.ty 102 = some i ∧ (.nil .func : TV τ).ok = true ∧ CW i.zero ((.nil .func : TV τ).cells C) ∧ (.nil .func : TV τ).isAgg = i.agg := ⟨ti102, rfl, rfl, CW.of_eq (by kernel_rfl), rfl⟩
theorem zok103 : ∃ i, E.ty 103 = some i ∧ (.nil .func : TV τ).ok = true ∧ CW i.zero ((.nil .func : TV τ).cells C) ∧ (.nil .func : TV τ).isAgg = i.agg := ⟨ti103, rfl, rfl, CW.of_eq (by kernel_rfl), rfl⟩
theorem zok104 : ∃ i, E.ty 104 = some i ∧ (.nil .func : TV τ).ok = true ∧ CW i.zero ((.nil .func : TV τ).cells C) ∧ (.nil .func : TV τ).isAgg = i.agg := ⟨ti104, rfl, rfl, CW.of_eq (by kernel_rfl), rfl⟩
theorem zok105 : ∃ i, E.ty 105 = some i ∧ (.nil .func : TV τ).ok = true ∧ CW i.zero ((.nil .func : TV τ).cells C) ∧ (.nil .func : TV τ).isAgg = i.agg := ⟨ti105, rfl, rfl, CW.of_eq (by kernel_rfl), rfl⟩
theorem zok106 : ∃ i, E.ty 106 = some i ∧ (.nil .func : TV τ).ok = true ∧ CW i.zero ((.nil .func : TV τ).cells C) ∧ (.nil .func : TV τ).isAgg = i.agg := ⟨ti106, rfl, rfl, CW.of_eq (by kernel_rfl), rfl⟩
theorem zok107 : ∃ i, E.ty 107 = some i ∧ (.nil .func : TV τ).ok = true ∧ CW i.zero ((.nil .func : TV τ).cells C) ∧ (.nil .func : TV τ).isAgg = i.agg := ⟨ti107, rfl, rfl, CW.of_eq (by kernel_rfl), rfl⟩
theorem zok108 : ∃ i, E.ty 108 = some i ∧ (.nil .func : TV τ).ok = true ∧ CW i.zero ((.nil .func : TV τ).cells C) ∧ (.nil .func : TV τ).isAgg = i.agg := ⟨ti108, rfl, rfl, CW.of_eq (by kernel_rfl), rfl⟩
theorem zok109 : ∃ i, E.ty 109 = some i ∧ (.nil .func : TV τ).ok = true ∧ CW i.zero ((.nil .func : TV τ).cells C) ∧ (.nil .func : TV τ).isAgg = i.agg := ⟨ti109, rfl, rfl, CW.of_eq (by kernel_rfl), rfl⟩
theorem zok110 : ∃ i, E.ty 110 = some i ∧ (.nil .func : TV τ).ok = true ∧ CW i.zero ((.nil .func : TV τ).cells C) ∧ (.nil .func : TV τ).isAgg = i.agg := ⟨ti110, rfl, rfl, CW.of_eq (by kernel_rfl), rfl⟩
theorem zok111 : ∃ i, E.ty 111 = some i ∧ (.nil .func : TV τ).ok = true ∧ CW i.zero ((.nil .func : TV τ).cells C) ∧ (.nil .func : TV τ).isAgg = i.agg := ⟨ti111, rfl, rfl, CW.of_eq (by kernel_rfl), rfl⟩
theorem zok112 : ∃ i, E.ty 112 = some i ∧ (.nil .func : TV τ).ok = true ∧ CW i.zero ((.nil .func : TV τ).cells C) ∧ (.nil .func : TV τ).isAgg = i.agg := ⟨ti112, rfl, rfl, CW.of_eq (by kernel_rfl), rfl⟩
theorem zok113 : ∃ i, E.ty 113 = some i ∧ (.nil .func : TV τ).ok = true ∧ CW i.zero ((.nil .func : TV τ).cells C) ∧ (.nil .func : TV τ).isAgg = i.agg := ⟨ti113, rfl, rfl, CW.of_eq (by kernel_rfl), rfl⟩
theorem zok114 : ∃ i, E.ty 114 = some i ∧ (.nil .func : TV τ).ok = true ∧ CW i.zero ((.nil .func : TV τ).cells C) ∧ (.nil .func : TV τ).isAgg = i.agg := ⟨ti114, rfl, rfl, CW.of_eq (by kernel_rfl), rfl⟩
theorem zok115 : ∃ i, E.ty 115 = some i ∧ (.nil .func : TV τ).ok = true ∧ CW i.zero ((.nil .func : TV τ).cells C) ∧ (.nil .func : TV τ).isAgg = i.agg := ⟨ti115, rfl, rfl, CW.of_eq (by kernel_rfl), rfl⟩
theorem zok116 : ∃ i, E.ty 116 = some i ∧ (.nil .func : TV τ).ok = true ∧ CW i.zero ((.nil .func : TV τ).cells C) ∧ (.nil .func : TV τ).isAgg = i.agg := ⟨ti116, rfl, rfl, CW.of_eq (by kernel_rfl), rfl⟩
theorem zok117 : ∃ i, E.ty 117 = some i ∧ (.nil .func : TV τ).ok = true ∧ CW i.zero ((.nil .func : TV τ).cells C) ∧ (.nil .func : TV τ).isAgg = i.agg := ⟨ti117, rfl, rfl, CW.of_eq (by kernel_rfl), rfl⟩
theorem zok118 : ∃ i, E.ty 118 = some i ∧ (.nil .func : TV τ).ok = true ∧ CW i.zero ((.nil .func : TV τ).cells C) ∧ (.nil .func : TV τ).isAgg = i.agg := ⟨ti118, rfl, rfl, CW.of_eq (by kernel_rfl), rfl⟩
theorem zok119 : ∃ i, E.ty 119 = some i ∧ (.nil .func : TV τ).ok = true ∧ CW i.zero ((.nil .func : TV τ).cells C) ∧ (.nil .func : TV τ).isAgg = i.agg := ⟨ti119, rfl, rfl, CW.of_eq (by kernel_rfl), rfl⟩
theorem zok120 : ∃ i, E.ty 120 = some i ∧ (.nil .func : TV τ).ok = true ∧ CW i.zero ((.nil .func : TV τ).cells C) ∧ (.nil .func : TV τ).isAgg = i.agg := ⟨ti120, rfl, rfl, CW.of_eq (by kernel_rfl), rfl⟩
theorem zok121 : ∃ i, E.ty 121 = some i ∧ (.nil .slice : TV τ).ok = true ∧ CW i.zero ((.nil .slice : TV τ).cells C) ∧ (.nil .slice : TV τ).isAgg = i.agg := ⟨ti121, rfl, rfl, CW.of_eq (by kernel_rfl), rfl⟩
theorem zok122 : ∃ i, E.ty 122 = some i ∧ (.nil .func : TV τ).ok = true ∧ CW i.zero ((.nil .func : TV τ).cells C) ∧ (.nil .func : TV τ).isAgg = i.agg := ⟨ti122, rfl, rfl, CW.of_eq (by kernel_rfl), rfl⟩
theorem zok123 : ∃ i, E.ty 123 = some i ∧ (.nil .func : TV τ).ok = true ∧ CW i.zero ((.nil .func : TV τ).cells C) ∧ (.nil .func : TV τ).isAgg = i.agg := ⟨ti123, rfl, rfl, CW.of_eq (by kernel_rfl), rfl⟩
theorem zok124 : ∃ i, E.ty 124 = some i ∧ (.nil .func : TV τ).ok = true ∧ CW i.zero ((.nil .func : TV τ).cells C) ∧ (.nil .func : TV τ).isAgg = i.agg := ⟨ti124, rfl, rfl, CW.of_eq (by kernel_rfl), rfl⟩
theorem zok125 : ∃ i, E.ty 125 = some i ∧ (.nil .func : TV τ).ok = true ∧ CW i.zero ((.nil .func : TV τ).cells C) ∧ (.nil .func : TV τ).isAgg = i.agg := ⟨ti125, rfl, rfl, CW.of_eq (by kernel_rfl), rfl⟩
theorem zok126 : ∃ i, E.ty 126 = some i ∧ (.nil .func : TV τ).ok = true ∧ CW i.zero ((.nil .func : TV τ).cells C) ∧ (.nil .func : TV τ).isAgg = i.agg := ⟨ti126, rfl, rfl, CW.of_eq (by kernel_rfl), rfl⟩
theorem zok127 : ∃ i, E.ty 127 = some i ∧ (.nil .func : TV τ).ok = true ∧ CW i.zero ((.nil .func : TV τ).cells C) ∧ (.nil .func : TV τ).isAgg = i.agg := ⟨ti127, rfl, rfl, CW.of_eq (by kernel_rfl), rfl⟩
theorem zok128 : ∃ i, E.ty 128 = some i ∧ (.nil .ptr : TV τ).ok = true ∧ CW i.zero ((.nil .ptr : TV τ).cells C) ∧ (.nil .ptr : TV τ).isAgg = i.agg := ⟨ti128, rfl, rfl, CW.of_eq (by kernel_rfl), rfl⟩
theorem zok129 : ∃ i, E.ty 129 = some i ∧ (.nil .func : TV τ).ok = true ∧ CW i.zero ((.nil .func : TV τ).cells C) ∧ (.nil .func : TV τ).isAgg = i.agg := ⟨ti129, rfl, rfl, CW.of_eq (by kernel_rfl), rfl⟩
theorem zok130 : ∃ i, E.ty 130 = some i ∧ (.nil .func : TV τ).ok = true ∧ CW i.zero ((.nil .func : TV τ).cells C) ∧ (.nil .func : TV τ).isAgg = i.agg := ⟨ti130, rfl, rfl, CW.of_eq (by kernel_rfl), rfl⟩
theorem zok131 : ∃ i, E.ty 131 = some i ∧ (.nil .func : TV τ).ok = true ∧ CW i.zero ((.nil .func : TV τ).cells C) ∧ (.nil .func : TV τ).isAgg = i.agg := ⟨ti131, rfl, rfl, CW.of_eq (by kernel_rfl), rfl⟩
theorem zok132 : ∃ i, E.ty 132 = some i ∧ (.nil .func : TV τ).ok = true ∧ CW i.zero ((.nil .func : TV τ).cells C) ∧ (.nil .func : TV τ).isAgg = i.agg := ⟨ti132, rfl, rfl, CW.of_eq (by kernel_rfl), rfl⟩
theorem zok133 : ∃ i, E.ty 133 = some i ∧ (.nil .func : TV τ).ok = true ∧ CW i.zero ((.nil .func : TV τ).cells C) ∧ (.nil .func : TV τ).isAgg = i.agg := ⟨ti133, rfl, rfl, CW.of_eq (by kernel_rfl), rfl⟩
theorem zok135 : ∃ i, E.ty 135 = some i ∧ (.nil .func : TV τ).ok = true ∧ CW i.zero ((.nil .func : TV τ).cells C) ∧ (.nil .func : TV τ).isAgg = i.agg := ⟨ti135, rfl, rfl, CW.of_eq (by kernel_rfl), rfl⟩
theorem zok136 : ∃ i, E.ty 136 = some i ∧ (.nil .func : TV τ).ok = true ∧ CW i.zero ((.nil .func : TV τ).cells C) ∧ (.nil .func : TV τ).isAgg = i.agg := ⟨ti136, rfl, rfl, CW.of_eq (by kernel_rfl), rfl⟩
theorem zok137 : ∃ i, E.ty 137 = some i ∧ (.agg [(.nil .ptr), (.int .i64 0)] : TV τ).ok = true ∧ CW i.zero ((.agg [(.nil .ptr), (.int .i64 0)] : TV τ).cells C) ∧ (.agg [(.nil .ptr), (.int .i64 0)] : TV τ).isAgg = i.agg := ⟨ti137, rfl, rfl, CW.of_eq (by kernel_rfl), rfl⟩
theorem zok138 : ∃ i, E.ty 138 = some i ∧ (.agg [(.nil .ptr), (.int .i64 0)] : TV τ).ok = true ∧ CW i.zero ((.agg [(.nil .ptr), (.int .i64 0)] : TV τ).cells C) ∧ (.agg [(.nil .ptr), (.int .i64 0)] : TV τ).isAgg = i.agg := ⟨ti138, rfl, rfl, CW.of_eq (by kernel_rfl), rfl⟩
theorem zok139 : ∃ i, E.ty 139 = some i ∧ (.nil .func : TV τ).ok = true ∧ CW i.zero ((.nil .func : TV τ).cells C) ∧ (.nil .func : TV τ).isAgg = i.agg := ⟨ti139, rfl, rfl, CW.of_eq (by kernel_rfl), rfl⟩
theorem zok140 : ∃ i, E.ty 140 = some i ∧ (.nil .func : TV τ).ok = true ∧ CW i.zero ((.nil .func : TV τ).cells C) ∧ (.nil .func : TV τ).isAgg = i.agg := ⟨ti140, rfl, rfl, CW.of_eq (by kernel_rfl), rfl⟩
theorem zok141 : ∃ i, E.ty 141 = some i ∧ (.nil .func : TV τ).ok = true ∧ CW i.zero ((.nil .func : TV τ).cells C) ∧ (.nil .func : TV τ).isAgg = i.agg := ⟨ti141, rfl, rfl, CW.of_eq (by kernel_rfl), rfl⟩
theorem zok142 : ∃ i, E.ty 142 = some i ∧ (.nil .func : TV τ).ok = true ∧ CW i.zero ((.nil .func : TV τ).cells C) ∧ (.nil .func : TV τ).isAgg = i.agg := ⟨ti142, rfl, rfl, CW.of_eq (by kernel_rfl), rfl⟩
theorem zok143 : ∃ i, E.ty 143 = some i ∧ (.nil .func : TV τ).ok = true ∧ CW i.zero ((.nil .func : TV τ).cells C) ∧ (.nil .func : TV τ).isAgg = i.agg := ⟨ti143, rfl, rfl, CW.of_eq (by kernel_rfl), rfl⟩
theorem zok144 : ∃ i, E.ty 144 = some i ∧ (.nil .func : TV τ).ok = true ∧ CW i.zero ((.nil .func : TV τ).cells C) ∧ (.nil .func : TV τ).isAgg = i.agg := ⟨ti144, rfl, rfl, CW.of_eq (by kernel_rfl), rfl⟩
theorem zok145 : ∃ i, E.ty 145 = some i ∧ (.nil .func : TV τ).ok = true ∧ CW i.zero ((.nil .func : TV τ).cells C) ∧ (.nil .func : TV τ).isAgg = i.agg := ⟨ti145, rfl, rfl, CW.of_eq (by kernel_rfl), rfl⟩
theorem zok146 : ∃ i, E.ty 146 = some i ∧ (.nil .func : TV τ).ok = true ∧ CW i.zero ((.nil .func : TV τ).cells C) ∧ (.nil .func : TV τ).isAgg = i.agg := ⟨ti146, rfl, rfl, CW.of_eq (by kernel_rfl), rfl⟩
theorem zok147 : ∃ i, E.ty 147 = some i ∧ (.nil .func : TV τ).ok = true ∧ CW i.zero ((.nil .func : TV τ).cells C) ∧ (.nil .func : TV τ).isAgg = i.agg := ⟨ti147, rfl, rfl, CW.of_eq (by kernel_rfl), rfl⟩
theorem zok148 : ∃ i, E.ty 148 = some i ∧ (.nil .slice : TV τ).ok = true ∧ CW i.zero ((.nil .slice : TV τ).cells C) ∧ (.nil .slice : TV τ).isAgg = i.agg := ⟨ti148, rfl, rfl, CW.of_eq (by kernel_rfl), rfl⟩
theorem zok149 : ∃ i, E.ty 149 = some i ∧ (.int .u64 0 : TV τ).ok = true ∧ CW i.zero ((.int .u64 0 : TV τ).cells C) ∧ (.int .u64 0 : TV τ).isAgg = i.agg := ⟨ti149, rfl, rfl, CW.of_eq (by kernel_rfl), rfl⟩
theorem zok150 : ∃ i, E.ty 150 = some i ∧ (.int .u64 0 : TV τ).ok = true ∧ CW i.zero ((.int .u64 0 : TV τ).cells C) ∧ (.int .u64 0 : TV τ).isAgg = i.agg := ⟨ti150, rfl, rfl, CW.of_eq (by kernel_rfl), rfl⟩
theorem zok151 : ∃ i, E.ty 151 = some i ∧ (.nil .func : TV τ).ok = true ∧ CW i.zero ((.nil .func : TV τ).cells C) ∧ (.nil .func : TV τ).isAgg = i.agg := ⟨ti151, rfl, rfl, CW.of_eq (by kernel_rfl), rfl⟩
theorem zok152 : ∃ i, E.ty 152 = some i ∧ (.nil .func : TV τ).ok = true ∧ CW i.zero ((.nil .func : TV τ).cells C) ∧ (.nil .func : TV τ).isAgg = i.agg := ⟨ti152, rfl, rfl, CW.of_eq (by kernel_rfl), rfl⟩
theorem zok153 : ∃ i, E.ty 153 = some i ∧ (.nil .func : TV τ).ok = true ∧ CW i.zero ((.nil .func : TV τ).cells C) ∧ (.nil .func : TV τ).isAgg = i.agg := ⟨ti153, rfl, rfl, CW.of_eq (by kernel_rfl), rfl⟩
theorem zok154 : ∃ i, E.ty 154 = some i ∧ (.nil .slice : TV τ).ok = true ∧ CW i.zero ((.nil .slice : TV τ).cells C) ∧ (.nil .slice : TV τ).isAgg = i.agg := ⟨ti154, rfl, rfl, CW.of_eq (by kernel_rfl), rfl⟩
theorem zok155 : ∃ i, E.ty 155 = some i ∧ (.nil .func : TV τ).ok = true ∧ CW i.zero ((.nil .func : TV τ).cells C) ∧ (.nil .func : TV τ).isAgg = i.agg := ⟨ti155, rfl, rfl, CW.of_eq (by kernel_rfl), rfl⟩
theorem zok156 : ∃ i, E.ty 156 = some i ∧ (.nil .slice : TV τ).ok = true ∧ CW i.zero ((.nil .slice : TV τ).cells C) ∧ (.nil .slice : TV τ).isAgg = i.agg := ⟨ti156, rfl, rfl, CW.of_eq (by kernel_rfl), rfl⟩
theorem zok157 : ∃ i, E.ty 157 = some i ∧ (.nil .func : TV τ).ok = true ∧ CW i.zero ((.nil .func : TV τ).cells C) ∧ (.nil .func : TV τ).isAgg = i.agg := ⟨ti157, rfl, rfl, CW.of_eq (by kernel_rfl), rfl⟩
theorem zok158 : ∃ i, E.ty 158 = some i ∧ (.nil .func : TV τ).ok = true ∧ CW i.zero ((.nil .func : TV τ).cells C) ∧ (.nil .func : TV τ).isAgg = i.agg := ⟨ti158, rfl, rfl, CW.of_eq (by kernel_rfl), rfl⟩
theorem zok160 : ∃ i, E.ty 160 = some i ∧ (.nil .func : TV τ).ok = true ∧ CW i.zero ((.nil .func : TV τ).cells C) ∧ (.nil .func : TV τ).isAgg = i.agg := ⟨ti160, rfl, rfl, CW.of_eq (by kernel_rfl), rfl⟩
theorem zok161 : ∃ i, E.ty 161 = some i ∧ (.nil .func : TV τ).ok = true ∧ CW i.zero ((.nil .func : TV τ).cells C) ∧ (.nil .func : TV τ).isAgg = i.agg := ⟨ti161, rfl, rfl, CW.of_eq (by kernel_rfl), rfl⟩
theorem zok162 : ∃ i, E.ty 162 = some i ∧ (.nil .func : TV τ).ok = true ∧ CW i.zero ((.nil .func : TV τ).cells C) ∧ (.nil .func : TV τ).isAgg = i.agg := ⟨ti162, rfl, rfl, CW.of_eq (by kernel_rfl), rfl⟩
theorem zok163 : ∃ i, E.ty 163 = some i ∧ (.nil .ptr : TV τ).ok = true ∧ CW i.zero ((.nil .ptr : TV τ).cells C) ∧ (.nil .ptr : TV τ).isAgg = i.agg := ⟨ti163, rfl, rfl, CW.of_eq (by kernel_rfl), rfl⟩
theorem zok164 : ∃ i, E.ty 164 = some i ∧ (.nil .func : TV τ).ok = true ∧ CW i.zero ((.nil .func : TV τ).cells C) ∧ (.nil .func : TV τ).isAgg = i.agg := ⟨ti164, rfl, rfl, CW.of_eq (by kernel_rfl), rfl⟩
theorem zok165 : ∃ i, E.ty 165 = some i ∧ (.nil .ptr : TV τ).ok = true ∧ CW i.zero ((.nil .ptr : TV τ).cells C) ∧ (.nil .ptr : TV τ).isAgg = i.agg := ⟨ti165, rfl, rfl, CW.of_eq (by kernel_rfl), rfl⟩
theorem zok166 : ∃ i, E.ty 166 = some i ∧ (.nil .func : TV τ).ok = true ∧ CW i.zero ((.nil .func : TV τ).cells C) ∧ (.nil .func : TV τ).isAgg = i.agg := ⟨ti166, rfl, rfl, CW.of_eq (by kernel_rfl), rfl⟩
theorem zok167 : ∃ i, E.ty 167 = some i ∧ (.nil .func : TV τ).ok = true ∧ CW i.zero ((.nil .func : TV τ).cells C) ∧ (.nil .func : TV τ).isAgg = i.agg := ⟨ti167, rfl, rfl, CW.of_eq (by kernel_rfl), rfl⟩
theorem zok168 : ∃ i, E.ty 168 = some i ∧ (.nil .ptr : TV τ).ok = true ∧ CW i.zero ((.nil .ptr : TV τ).cells C) ∧ (.nil .ptr : TV τ).isAgg = i.agg := ⟨ti168, rfl, rfl, CW.of_eq (by kernel_rfl), rfl⟩
theorem zok169 : ∃ i, E.ty 169 = some i ∧ (.nil .func : TV τ).ok = true ∧ CW i.zero ((.nil .func : TV τ).cells C) ∧ (.nil .func : TV τ).isAgg = i.agg := ⟨ti169, rfl, rfl, CW.of_eq (by kernel_rfl), rfl⟩
theorem zok170 : ∃ i, E.ty 170 = some i ∧ (.nil .func : TV τ).ok = true ∧ CW i.zero ((.nil .func : TV τ).cells C) ∧ (.nil .func : TV τ).isAgg = i.agg := ⟨ti170, rfl, rfl, CW.of_eq (by kernel_rfl), rfl⟩
theorem zok171 : ∃ i, E.ty 171 = some i ∧ (.nil .func : TV τ).ok = true ∧ CW i.zero ((.nil .func : TV τ).cells C) ∧ (.nil .func : TV τ).isAgg = i.agg := ⟨ti171, rfl, rfl, CW.of_eq (by kernel_rfl), rfl⟩
theorem zok172 : ∃ i, E.ty 172 = some i ∧ (.nil .func : TV τ).ok = true ∧ CW i.zero ((.nil .func : TV τ).cells C) ∧ (.nil .func : TV τ).isAgg = i.agg := ⟨ti172, rfl, rfl, CW.of_eq (by kernel_rfl), rfl⟩
theorem zok173 : ∃ i, E.ty 173 = some i ∧ (.nil .func : TV τ).ok = true ∧ CW i.zero ((.nil .func : TV τ).cells C) ∧ (.nil .func : TV τ).isAgg = i.agg := ⟨ti173, rfl, rfl, CW.of_eq (by kernel_rfl), rfl⟩
theorem zok174 : ∃ i, E.ty 174 = some i ∧ (.int .u32 0 : TV τ).ok = true ∧ CW i.zero ((.int .u32 0 : TV τ).cells C) ∧ (.int .u32 0 : TV τ).isAgg = i.agg := ⟨ti174, rfl, rfl, CW.of_eq (by kernel_rfl), rfl⟩
theorem zok175 : ∃ i, E.ty 175 = some i ∧ (.nil .func : TV τ).ok = true ∧ CW i.zero ((.nil .func : TV τ).cells C) ∧ (.nil .func : TV τ).isAgg = i.agg := ⟨ti175, rfl, rfl, CW.of_eq (by kernel_rfl), rfl⟩
theorem zok177 : ∃ i, E.ty 177 = some i ∧ (.nil .func : TV τ).ok = true ∧ CW i.zero ((.nil .func : TV τ).cells C) ∧ (.nil .func : TV τ).isAgg = i.agg := ⟨ti177, rfl, rfl, CW.of_eq (by kernel_rfl), rfl⟩
theorem zok178 : ∃ i, E.ty 178 = some i ∧ (.nil .func : TV τ).ok = true ∧ CW i.zero ((.nil .func : TV τ).cells C) ∧ (.nil .func : TV τ).isAgg = i.agg := ⟨ti178, rfl, rfl, CW.of_eq (by kernel_rfl), rfl⟩
theorem zok179 : ∃ i, E.ty 179 = some i ∧ (.nil .ptr : TV τ).ok = true ∧ CW i.zero ((.nil .ptr : TV τ).cells C) ∧ (.nil .ptr : TV τ).isAgg = i.agg := ⟨ti179, rfl, rfl, CW.of_eq (by kernel_rfl), rfl⟩
theorem zok180 : ∃ i, E.ty 180 = some i ∧ (.nil .func : TV τ).ok = true ∧ CW i.zero ((.nil .func : TV τ).cells C) ∧ (.nil .func : TV τ).isAgg = i.agg := ⟨ti180, rfl, rfl, CW.of_eq (by kernel_rfl), rfl⟩
theorem zok181 : ∃ i, E.ty 181 = some i ∧ (.nil .func : TV τ).ok = true ∧ CW i.zero ((.nil .func : TV τ).cells C) ∧ (.nil .func : TV τ).isAgg = i.agg := ⟨ti181, rfl, rfl, CW.of_eq (by kernel_rfl), rfl⟩
theorem zok182 : ∃ i, E.ty 182 = some i ∧ (.nil .slice : TV τ).ok = true ∧ CW i.zero ((.nil .slice : TV τ).cells C) ∧ (.nil .slice : TV τ).isAgg = i.agg := ⟨ti182, rfl, rfl, CW.of_eq (by kernel_rfl), rfl⟩
theorem zok183 : ∃ i, E.ty 183 = some i ∧ (.nil .func : TV τ).ok = true ∧ CW i.zero ((.nil .func : TV τ).cells C) ∧ (.nil .func : TV τ).isAgg = i.agg := ⟨ti183, rfl, rfl, CW.of_eq (by kernel_rfl), rfl⟩
theorem zok184 : ∃ i, E.ty 184 = some i ∧ (.nil .func : TV τ).ok = true ∧ CW i.zero ((.nil .func : TV τ).cells C) ∧ (.nil .func : TV τ).isAgg = i.agg := ⟨ti184, rfl, rfl, CW.of_eq (by kernel_rfl), rfl⟩
theorem zok185 : ∃ i, E.ty 185 = some i ∧ (.nil .func : TV τ).ok = true ∧ CW i.zero ((.nil .func : TV τ).cells C) ∧ (.nil .func : TV τ).isAgg = i.agg := ⟨ti185, rfl, rfl, CW.of_eq (by kernel_rfl), rfl⟩
theorem zok186 : ∃ i, E.ty 186 = some i ∧ (.nil .slice : TV τ).ok = true ∧ CW i.zero ((.nil .slice : TV τ).cells C) ∧ (.nil .slice : TV τ).isAgg = i.agg := ⟨ti186, rfl, rfl, CW.of_eq (by kernel_rfl), rfl⟩
theorem zok187 : ∃ i, E.ty 187 = some i ∧ (.nil .func : TV τ).ok = true ∧ CW i.zero ((.nil .func : TV τ).cells C) ∧ (.nil .func : TV τ).isAgg = i.agg := ⟨ti187, rfl, rfl, CW.of_eq (by kernel_rfl), rfl⟩
theorem zok188 : ∃ i, E.ty 188 = some i ∧ (.nil .slice : TV τ).ok = true ∧ CW i.zero ((.nil .slice : TV τ).cells C) ∧ (.nil .slice : TV τ).isAgg = i.agg := ⟨ti188, rfl, rfl, CW.of_eq (by kernel_rfl), rfl⟩
theorem zok190 : ∃ i, E.ty 190 = some i ∧ (.nil .func : TV τ).ok = true ∧ CW i.zero ((.nil .func : TV τ).cells C) ∧ (.nil .func : TV τ).isAgg = i.agg := ⟨ti190, rfl, rfl, CW.of_eq (by kernel_rfl), rfl⟩
theorem zok191 : ∃ i, E.ty 191 = some i ∧ (.nil .func : TV τ).ok = true ∧ CW i.zero ((.nil .func : TV τ).cells C) ∧ (.nil .func : TV τ).isAgg = i.agg := ⟨ti191, rfl, rfl, CW.of_eq (by kernel_rfl), rfl⟩
theorem zok192 : ∃ i, E.ty 192 = some i ∧ (.nil .func : TV τ).ok = true ∧ CW i.zero ((.nil .func : TV τ).cells C) ∧ (.nil .func : TV τ).isAgg = i.agg := ⟨ti192, rfl, rfl, CW.of_eq (by kernel_rfl), rfl⟩
theorem zok193 : ∃ i, E.ty 193 = some i ∧ (.nil .func : TV τ).ok = true ∧ CW i.zero ((.nil .func : TV τ).cells C) ∧ (.nil .func : TV τ).isAgg = i.agg := ⟨ti193, rfl, rfl, CW.of_eq (by kernel_rfl), rfl⟩
theorem zok195 : ∃ i, E.ty 195 = some i ∧ (.nil .func : TV τ).ok = true ∧ CW i.zero ((.nil .func : TV τ).cells C) ∧ (.nil .func : TV τ).isAgg = i.agg := ⟨ti195, rfl, rfl, CW.of_eq (by kernel_rfl), rfl⟩
theorem zok196 : ∃ i, E.ty 196 = some i ∧ (.nil .func : TV τ).ok = true ∧ CW i.zero ((.nil .func : TV τ).cells C) ∧ (.nil .func : TV τ).isAgg = i.agg := ⟨ti196, rfl, rfl, CW.of_eq (by kernel_rfl), rfl⟩
theorem zok205 : ∃ i, E.ty 205 = some i ∧ (.nil .ptr : TV τ).ok = true ∧ CW i.zero ((.nil .ptr : TV τ).cells C) ∧ (.nil .ptr : TV τ).isAgg = i.agg := ⟨ti205, rfl, rfl, CW.of_eq (by kernel_rfl), rfl⟩
noncomputable def D0 : TEnv τ := ⟨E, C, zeroT⟩
theorem zeroOk : ∀ t x, zeroT t = some x → ∃ i, E.ty t = some i ∧ x.ok = true ∧ CW i.zero (x.cells C) ∧ x.isAgg = i.agg := by
  intro t x h
  unfold zeroT at h
  split at h <;> first
    | (cases h; first | exact zok1 | exact zok2 | exact zok3 | exact zok4 | exact zok5 | exact zok9 | exact zok12 | exact zok17 | exact zok21 | exact zok22 | exact zok23 | exact zok24 | exact zok25 | exact zok26 | exact zok27 | exact zok28 | exact zok29 | exact zok30 | exact zok31 | exact zok32 | exact zok33 | exact zok34 | exact zok35 | exact zok36 | exact zok37 | exact zok38 | exact zok40 | exact zok41 | exact zok42 | exact zok43 | exact zok44 | exact zok45 | exact zok46 | exact zok47 | exact zok48 | exact zok49 | exact zok50 | exact zok51 | exact zok52 | exact zok53 | exact zok54 | exact zok55 | exact zok56 | exact zok57 | exact zok58 | exact zok59 | exact zok60 | exact zok61 | exact zok62 | exact zok63 | exact zok64 | exact zok65 | exact zok66 | exact zok67 | exact zok68 | exact zok69 | exact zok70 | exact zok71 | exact zok72 | exact zok73 | exact zok75 | exact zok77 | exact zok78 | exact zok79 | exact zok80 | exact zok81 | exact zok83 | exact zok84 | exact zok86 | exact zok87 | exact zok88 | exact zok89 | exact zok90 | exact zok91 | exact zok93 | exact zok94 | exact zok95 | exact zok96 | exact zok97 | exact zok98 | exact zok99 | exact zok100 | exact zok101 | exact zok102 | exact zok103 | exact zok104 | exact zok105 | exact zok106 | exact zok107 | exact zok108 | exact zok109 | exact zok110 | exact zok111 | exact zok112 | exact zok113 | exact zok114 | exact zok115 | exact zok116 | exact zok117 | exact zok118 | exact zok119 | exact zok120 | exact zok121 | exact zok122 | exact zok123 | exact zok124 | exact zok125 | exact zok126 | exact zok127 | exact zok128 | exact zok129 | exact zok130 | exact zok131 | exact zok132 | exact zok133 | exact zok135 | exact zok136 | exact zok137 | exact zok138 | exact zok139 | exact zok140 | exact zok141 | exact zok142 | exact zok143 | exact zok144 | exact zok145 | exact zok146 | exact zok147 | exact zok148 | exact zok149 | exact zok150 | exact zok151 | exact zok152 | exact zok153 | exact zok154 | exact zok155 | exact zok156 | exact zok157 | exact zok158 | exact zok160 | exact zok161 | exact zok162 | exact zok163 | exact zok164 | exact zok165 | exact zok166 | exact zok167 | exact zok168 | exact zok169 | exact zok170 | exact zok171 | exact zok172 | exact zok173 | exact zok174 | exact zok175 | exact zok177 | exact zok178 | exact zok179 | exact zok180 | exact zok181 | exact zok182 | exact zok183 | exact zok184 | exact zok185 | exact zok186 | exact zok187 | exact zok188 | exact zok190 | exact zok191 | exact zok192 | exact zok193 | exact zok195 | exact zok196 | exact zok205)
    | cases h
theorem d0Ok : D0.Ok := ⟨eOk, eEq, cOk, zeroOk⟩
end Go.Proofs.Yteinehkdjkobnaa
