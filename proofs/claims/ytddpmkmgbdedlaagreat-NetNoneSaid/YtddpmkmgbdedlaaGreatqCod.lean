/-
The types of this seat's program, as the evaluator asks them, and how their data are told. Written by wip/tools/gen2.py.
-/
import Derived.Test.YtddpmkmgbdedlaaGreatProg
import Derived.Test.YtddpmkmgbdedlaaGreatqTvR
import Derived.KernelRfl
set_option linter.unusedVariables false
set_option linter.unusedSimpArgs false
set_option maxHeartbeats 8000000
set_option maxRecDepth 100000
namespace Go.Proofs.YtddpmkmgbdedlaaGreat
open Go Go.Ev
def ti2 : TI := ⟨.int .i64, 1, 8, [.v (.int .i64 0)]⟩
def ti3 : TI := ⟨.int .i64, 1, 8, [.v (.int .i64 0)]⟩
def ti4 : TI := ⟨.bool, 1, 1, [.v (.bool false)]⟩
def ti5 : TI := ⟨.int .u8, 1, 1, [.v (.int .u8 0)]⟩
def ti9 : TI := ⟨.string, 1, 16, [.v (.string ⟨#[]⟩)]⟩
def ti12 : TI := ⟨.int .u64, 1, 8, [.v (.int .u64 0)]⟩
def ti21 : TI := ⟨.int .i32, 1, 4, [.v (.int .i32 0)]⟩
def ti22 : TI := ⟨.struct #[⟨ "Group", 3, 0, false, "", "", 0⟩, ⟨ "Replica", 3, 1, false, "", "", 8⟩], 2, 16, [.v (.int .i64 0), .v (.int .i64 0)]⟩
def ti23 : TI := ⟨.struct #[⟨ "Group", 3, 0, false, "", "", 0⟩, ⟨ "Replica", 3, 1, false, "", "", 8⟩], 2, 16, [.v (.int .i64 0), .v (.int .i64 0)]⟩
def ti24 : TI := ⟨.struct #[⟨ "Round", 2, 0, false, "", "", 0⟩, ⟨ "Replica", 3, 1, false, "", "", 8⟩], 2, 16, [.v (.int .i64 0), .v (.int .i64 0)]⟩
def ti25 : TI := ⟨.struct #[⟨ "Round", 2, 0, false, "", "", 0⟩, ⟨ "Replica", 3, 1, false, "", "", 8⟩], 2, 16, [.v (.int .i64 0), .v (.int .i64 0)]⟩
def ti26 : TI := ⟨.slice 155, 1, 24, [.v (.slice none 0 0)]⟩
def ti27 : TI := ⟨.struct #[⟨ "Time", 2, 0, false, "", "", 0⟩, ⟨ "Site", 3, 1, false, "", "", 8⟩], 2, 16, [.v (.int .i64 0), .v (.int .i64 0)]⟩
def ti28 : TI := ⟨.struct #[⟨ "Time", 2, 0, false, "", "", 0⟩, ⟨ "Site", 3, 1, false, "", "", 8⟩], 2, 16, [.v (.int .i64 0), .v (.int .i64 0)]⟩
def ti29 : TI := ⟨.struct #[⟨ "Stamp", 28, 0, false, "", "", 0⟩, ⟨ "Kind", 3, 2, false, "", "", 16⟩, ⟨ "Node", 2, 3, false, "", "", 24⟩, ⟨ "Parent", 2, 4, false, "", "", 32⟩, ⟨ "Name", 9, 5, false, "", "", 40⟩, ⟨ "Key", 9, 6, false, "", "", 56⟩, ⟨ "Value", 9, 7, false, "", "", 72⟩], 8, 88, [.v (.int .i64 0), .v (.int .i64 0), .v (.int .i64 0), .v (.int .i64 0), .v (.int .i64 0), .v (.string ⟨#[]⟩), .v (.string ⟨#[]⟩), .v (.string ⟨#[]⟩)]⟩
def ti30 : TI := ⟨.struct #[⟨ "Stamp", 28, 0, false, "", "", 0⟩, ⟨ "Kind", 3, 2, false, "", "", 16⟩, ⟨ "Node", 2, 3, false, "", "", 24⟩, ⟨ "Parent", 2, 4, false, "", "", 32⟩, ⟨ "Name", 9, 5, false, "", "", 40⟩, ⟨ "Key", 9, 6, false, "", "", 56⟩, ⟨ "Value", 9, 7, false, "", "", 72⟩], 8, 88, [.v (.int .i64 0), .v (.int .i64 0), .v (.int .i64 0), .v (.int .i64 0), .v (.int .i64 0), .v (.string ⟨#[]⟩), .v (.string ⟨#[]⟩), .v (.string ⟨#[]⟩)]⟩
def ti31 : TI := ⟨.slice 30, 1, 24, [.v (.slice none 0 0)]⟩
def ti32 : TI := ⟨.array 8 3, 8, 64, [.v (.int .i64 0), .v (.int .i64 0), .v (.int .i64 0), .v (.int .i64 0), .v (.int .i64 0), .v (.int .i64 0), .v (.int .i64 0), .v (.int .i64 0)]⟩
def ti33 : TI := ⟨.array 8 2, 8, 64, [.v (.int .i64 0), .v (.int .i64 0), .v (.int .i64 0), .v (.int .i64 0), .v (.int .i64 0), .v (.int .i64 0), .v (.int .i64 0), .v (.int .i64 0)]⟩
def ti34 : TI := ⟨.array 8 2, 8, 64, [.v (.int .i64 0), .v (.int .i64 0), .v (.int .i64 0), .v (.int .i64 0), .v (.int .i64 0), .v (.int .i64 0), .v (.int .i64 0), .v (.int .i64 0)]⟩
def ti35 : TI := ⟨.struct #[⟨ "Number", 2, 0, false, "", "", 0⟩, ⟨ "States", 32, 1, false, "", "", 8⟩, ⟨ "Seals", 34, 9, false, "", "", 72⟩, ⟨ "Sponsor", 32, 17, false, "", "", 136⟩], 25, 200, [.v (.int .i64 0), .v (.int .i64 0), .v (.int .i64 0), .v (.int .i64 0), .v (.int .i64 0), .v (.int .i64 0), .v (.int .i64 0), .v (.int .i64 0), .v (.int .i64 0), .v (.int .i64 0), .v (.int .i64 0), .v (.int .i64 0), .v (.int .i64 0), .v (.int .i64 0), .v (.int .i64 0), .v (.int .i64 0), .v (.int .i64 0), .v (.int .i64 0), .v (.int .i64 0), .v (.int .i64 0), .v (.int .i64 0), .v (.int .i64 0), .v (.int .i64 0), .v (.int .i64 0), .v (.int .i64 0)]⟩
def ti36 : TI := ⟨.struct #[⟨ "Number", 2, 0, false, "", "", 0⟩, ⟨ "States", 32, 1, false, "", "", 8⟩, ⟨ "Seals", 34, 9, false, "", "", 72⟩, ⟨ "Sponsor", 32, 17, false, "", "", 136⟩], 25, 200, [.v (.int .i64 0), .v (.int .i64 0), .v (.int .i64 0), .v (.int .i64 0), .v (.int .i64 0), .v (.int .i64 0), .v (.int .i64 0), .v (.int .i64 0), .v (.int .i64 0), .v (.int .i64 0), .v (.int .i64 0), .v (.int .i64 0), .v (.int .i64 0), .v (.int .i64 0), .v (.int .i64 0), .v (.int .i64 0), .v (.int .i64 0), .v (.int .i64 0), .v (.int .i64 0), .v (.int .i64 0), .v (.int .i64 0), .v (.int .i64 0), .v (.int .i64 0), .v (.int .i64 0), .v (.int .i64 0)]⟩
def ti37 : TI := ⟨.slice 5, 1, 24, [.v (.slice none 0 0)]⟩
def ti38 : TI := ⟨.struct #[⟨ "Snap", 2, 0, false, "", "", 0⟩, ⟨ "Index", 3, 1, false, "", "", 8⟩, ⟨ "Many", 3, 2, false, "", "", 16⟩, ⟨ "Data", 37, 3, false, "", "", 24⟩], 4, 48, [.v (.int .i64 0), .v (.int .i64 0), .v (.int .i64 0), .v (.slice none 0 0)]⟩
def ti39 : TI := ⟨.struct #[⟨ "Snap", 2, 0, false, "", "", 0⟩, ⟨ "Index", 3, 1, false, "", "", 8⟩, ⟨ "Many", 3, 2, false, "", "", 16⟩, ⟨ "Data", 37, 3, false, "", "", 24⟩], 4, 48, [.v (.int .i64 0), .v (.int .i64 0), .v (.int .i64 0), .v (.slice none 0 0)]⟩
def ti40 : TI := ⟨.struct #[⟨ "Kind", 3, 0, false, "", "", 0⟩, ⟨ "Session", 2, 1, false, "", "", 8⟩, ⟨ "Request", 2, 2, false, "", "", 16⟩, ⟨ "Op", 30, 3, false, "", "", 24⟩, ⟨ "Origin", 3, 11, false, "", "", 112⟩, ⟨ "Seq", 2, 12, false, "", "", 120⟩, ⟨ "Ops", 31, 13, false, "", "", 128⟩, ⟨ "Epoch", 36, 14, false, "", "", 152⟩, ⟨ "From", 3, 39, false, "", "", 352⟩, ⟨ "Vector", 34, 40, false, "", "", 360⟩, ⟨ "Clock", 2, 48, false, "", "", 424⟩, ⟨ "Part", 39, 49, false, "", "", 432⟩, ⟨ "Site", 3, 53, false, "", "", 480⟩, ⟨ "Sponsor", 3, 54, false, "", "", 488⟩, ⟨ "Length", 2, 55, false, "", "", 496⟩], 56, 504, [.v (.int .i64 0), .v (.int .i64 0), .v (.int .i64 0), .v (.int .i64 0), .v (.int .i64 0), .v (.int .i64 0), .v (.int .i64 0), .v (.int .i64 0), .v (.string ⟨#[]⟩), .v (.string ⟨#[]⟩), .v (.string ⟨#[]⟩), .v (.int .i64 0), .v (.int .i64 0), .v (.slice none 0 0), .v (.int .i64 0), .v (.int .i64 0), .v (.int .i64 0), .v (.int .i64 0), .v (.int .i64 0), .v (.int .i64 0), .v (.int .i64 0), .v (.int .i64 0), .v (.int .i64 0), .v (.int .i64 0), .v (.int .i64 0), .v (.int .i64 0), .v (.int .i64 0), .v (.int .i64 0), .v (.int .i64 0), .v (.int .i64 0), .v (.int .i64 0), .v (.int .i64 0), .v (.int .i64 0), .v (.int .i64 0), .v (.int .i64 0), .v (.int .i64 0), .v (.int .i64 0), .v (.int .i64 0), .v (.int .i64 0), .v (.int .i64 0), .v (.int .i64 0), .v (.int .i64 0), .v (.int .i64 0), .v (.int .i64 0), .v (.int .i64 0), .v (.int .i64 0), .v (.int .i64 0), .v (.int .i64 0), .v (.int .i64 0), .v (.int .i64 0), .v (.int .i64 0), .v (.int .i64 0), .v (.slice none 0 0), .v (.int .i64 0), .v (.int .i64 0), .v (.int .i64 0)]⟩
def ti41 : TI := ⟨.struct #[⟨ "Kind", 3, 0, false, "", "", 0⟩, ⟨ "Session", 2, 1, false, "", "", 8⟩, ⟨ "Request", 2, 2, false, "", "", 16⟩, ⟨ "Op", 30, 3, false, "", "", 24⟩, ⟨ "Origin", 3, 11, false, "", "", 112⟩, ⟨ "Seq", 2, 12, false, "", "", 120⟩, ⟨ "Ops", 31, 13, false, "", "", 128⟩, ⟨ "Epoch", 36, 14, false, "", "", 152⟩, ⟨ "From", 3, 39, false, "", "", 352⟩, ⟨ "Vector", 34, 40, false, "", "", 360⟩, ⟨ "Clock", 2, 48, false, "", "", 424⟩, ⟨ "Part", 39, 49, false, "", "", 432⟩, ⟨ "Site", 3, 53, false, "", "", 480⟩, ⟨ "Sponsor", 3, 54, false, "", "", 488⟩, ⟨ "Length", 2, 55, false, "", "", 496⟩], 56, 504, [.v (.int .i64 0), .v (.int .i64 0), .v (.int .i64 0), .v (.int .i64 0), .v (.int .i64 0), .v (.int .i64 0), .v (.int .i64 0), .v (.int .i64 0), .v (.string ⟨#[]⟩), .v (.string ⟨#[]⟩), .v (.string ⟨#[]⟩), .v (.int .i64 0), .v (.int .i64 0), .v (.slice none 0 0), .v (.int .i64 0), .v (.int .i64 0), .v (.int .i64 0), .v (.int .i64 0), .v (.int .i64 0), .v (.int .i64 0), .v (.int .i64 0), .v (.int .i64 0), .v (.int .i64 0), .v (.int .i64 0), .v (.int .i64 0), .v (.int .i64 0), .v (.int .i64 0), .v (.int .i64 0), .v (.int .i64 0), .v (.int .i64 0), .v (.int .i64 0), .v (.int .i64 0), .v (.int .i64 0), .v (.int .i64 0), .v (.int .i64 0), .v (.int .i64 0), .v (.int .i64 0), .v (.int .i64 0), .v (.int .i64 0), .v (.int .i64 0), .v (.int .i64 0), .v (.int .i64 0), .v (.int .i64 0), .v (.int .i64 0), .v (.int .i64 0), .v (.int .i64 0), .v (.int .i64 0), .v (.int .i64 0), .v (.int .i64 0), .v (.int .i64 0), .v (.int .i64 0), .v (.int .i64 0), .v (.slice none 0 0), .v (.int .i64 0), .v (.int .i64 0), .v (.int .i64 0)]⟩
def ti42 : TI := ⟨.struct #[⟨ "Kind", 3, 0, false, "", "", 0⟩, ⟨ "From", 23, 1, false, "", "", 8⟩, ⟨ "To", 23, 3, false, "", "", 24⟩, ⟨ "Ballot", 25, 5, false, "", "", 40⟩, ⟨ "Slot", 2, 7, false, "", "", 56⟩, ⟨ "List", 26, 8, false, "", "", 64⟩, ⟨ "Entry", 41, 9, false, "", "", 88⟩, ⟨ "Number", 2, 65, false, "", "", 592⟩, ⟨ "Vector", 34, 66, false, "", "", 600⟩, ⟨ "Clock", 2, 74, false, "", "", 664⟩, ⟨ "Origin", 3, 75, false, "", "", 672⟩, ⟨ "Ops", 31, 76, false, "", "", 680⟩, ⟨ "Epoch", 36, 77, false, "", "", 704⟩, ⟨ "Part", 39, 102, false, "", "", 904⟩], 106, 952, [.v (.int .i64 0), .v (.int .i64 0), .v (.int .i64 0), .v (.int .i64 0), .v (.int .i64 0), .v (.int .i64 0), .v (.int .i64 0), .v (.int .i64 0), .v (.slice none 0 0), .v (.int .i64 0), .v (.int .i64 0), .v (.int .i64 0), .v (.int .i64 0), .v (.int .i64 0), .v (.int .i64 0), .v (.int .i64 0), .v (.int .i64 0), .v (.string ⟨#[]⟩), .v (.string ⟨#[]⟩), .v (.string ⟨#[]⟩), .v (.int .i64 0), .v (.int .i64 0), .v (.slice none 0 0), .v (.int .i64 0), .v (.int .i64 0), .v (.int .i64 0), .v (.int .i64 0), .v (.int .i64 0), .v (.int .i64 0), .v (.int .i64 0), .v (.int .i64 0), .v (.int .i64 0), .v (.int .i64 0), .v (.int .i64 0), .v (.int .i64 0), .v (.int .i64 0), .v (.int .i64 0), .v (.int .i64 0), .v (.int .i64 0), .v (.int .i64 0), .v (.int .i64 0), .v (.int .i64 0), .v (.int .i64 0), .v (.int .i64 0), .v (.int .i64 0), .v (.int .i64 0), .v (.int .i64 0), .v (.int .i64 0), .v (.int .i64 0), .v (.int .i64 0), .v (.int .i64 0), .v (.int .i64 0), .v (.int .i64 0), .v (.int .i64 0), .v (.int .i64 0), .v (.int .i64 0), .v (.int .i64 0), .v (.int .i64 0), .v (.int .i64 0), .v (.int .i64 0), .v (.int .i64 0), .v (.slice none 0 0), .v (.int .i64 0), .v (.int .i64 0), .v (.int .i64 0), .v (.int .i64 0), .v (.int .i64 0), .v (.int .i64 0), .v (.int .i64 0), .v (.int .i64 0), .v (.int .i64 0), .v (.int .i64 0), .v (.int .i64 0), .v (.int .i64 0), .v (.int .i64 0), .v (.int .i64 0), .v (.slice none 0 0), .v (.int .i64 0), .v (.int .i64 0), .v (.int .i64 0), .v (.int .i64 0), .v (.int .i64 0), .v (.int .i64 0), .v (.int .i64 0), .v (.int .i64 0), .v (.int .i64 0), .v (.int .i64 0), .v (.int .i64 0), .v (.int .i64 0), .v (.int .i64 0), .v (.int .i64 0), .v (.int .i64 0), .v (.int .i64 0), .v (.int .i64 0), .v (.int .i64 0), .v (.int .i64 0), .v (.int .i64 0), .v (.int .i64 0), .v (.int .i64 0), .v (.int .i64 0), .v (.int .i64 0), .v (.int .i64 0), .v (.int .i64 0), .v (.int .i64 0), .v (.int .i64 0), .v (.slice none 0 0)]⟩
def ti43 : TI := ⟨.struct #[⟨ "Kind", 3, 0, false, "", "", 0⟩, ⟨ "From", 23, 1, false, "", "", 8⟩, ⟨ "To", 23, 3, false, "", "", 24⟩, ⟨ "Ballot", 25, 5, false, "", "", 40⟩, ⟨ "Slot", 2, 7, false, "", "", 56⟩, ⟨ "List", 26, 8, false, "", "", 64⟩, ⟨ "Entry", 41, 9, false, "", "", 88⟩, ⟨ "Number", 2, 65, false, "", "", 592⟩, ⟨ "Vector", 34, 66, false, "", "", 600⟩, ⟨ "Clock", 2, 74, false, "", "", 664⟩, ⟨ "Origin", 3, 75, false, "", "", 672⟩, ⟨ "Ops", 31, 76, false, "", "", 680⟩, ⟨ "Epoch", 36, 77, false, "", "", 704⟩, ⟨ "Part", 39, 102, false, "", "", 904⟩], 106, 952, [.v (.int .i64 0), .v (.int .i64 0), .v (.int .i64 0), .v (.int .i64 0), .v (.int .i64 0), .v (.int .i64 0), .v (.int .i64 0), .v (.int .i64 0), .v (.slice none 0 0), .v (.int .i64 0), .v (.int .i64 0), .v (.int .i64 0), .v (.int .i64 0), .v (.int .i64 0), .v (.int .i64 0), .v (.int .i64 0), .v (.int .i64 0), .v (.string ⟨#[]⟩), .v (.string ⟨#[]⟩), .v (.string ⟨#[]⟩), .v (.int .i64 0), .v (.int .i64 0), .v (.slice none 0 0), .v (.int .i64 0), .v (.int .i64 0), .v (.int .i64 0), .v (.int .i64 0), .v (.int .i64 0), .v (.int .i64 0), .v (.int .i64 0), .v (.int .i64 0), .v (.int .i64 0), .v (.int .i64 0), .v (.int .i64 0), .v (.int .i64 0), .v (.int .i64 0), .v (.int .i64 0), .v (.int .i64 0), .v (.int .i64 0), .v (.int .i64 0), .v (.int .i64 0), .v (.int .i64 0), .v (.int .i64 0), .v (.int .i64 0), .v (.int .i64 0), .v (.int .i64 0), .v (.int .i64 0), .v (.int .i64 0), .v (.int .i64 0), .v (.int .i64 0), .v (.int .i64 0), .v (.int .i64 0), .v (.int .i64 0), .v (.int .i64 0), .v (.int .i64 0), .v (.int .i64 0), .v (.int .i64 0), .v (.int .i64 0), .v (.int .i64 0), .v (.int .i64 0), .v (.int .i64 0), .v (.slice none 0 0), .v (.int .i64 0), .v (.int .i64 0), .v (.int .i64 0), .v (.int .i64 0), .v (.int .i64 0), .v (.int .i64 0), .v (.int .i64 0), .v (.int .i64 0), .v (.int .i64 0), .v (.int .i64 0), .v (.int .i64 0), .v (.int .i64 0), .v (.int .i64 0), .v (.int .i64 0), .v (.slice none 0 0), .v (.int .i64 0), .v (.int .i64 0), .v (.int .i64 0), .v (.int .i64 0), .v (.int .i64 0), .v (.int .i64 0), .v (.int .i64 0), .v (.int .i64 0), .v (.int .i64 0), .v (.int .i64 0), .v (.int .i64 0), .v (.int .i64 0), .v (.int .i64 0), .v (.int .i64 0), .v (.int .i64 0), .v (.int .i64 0), .v (.int .i64 0), .v (.int .i64 0), .v (.int .i64 0), .v (.int .i64 0), .v (.int .i64 0), .v (.int .i64 0), .v (.int .i64 0), .v (.int .i64 0), .v (.int .i64 0), .v (.int .i64 0), .v (.int .i64 0), .v (.int .i64 0), .v (.slice none 0 0)]⟩
def ti44 : TI := ⟨.int .u16, 1, 2, [.v (.int .u16 0)]⟩
def ti45 : TI := ⟨.pointer 82, 1, 8, [.v (.pointer none)]⟩
def ti48 : TI := ⟨.int .i64, 1, 8, [.v (.int .i64 0)]⟩
def ti59 : TI := ⟨.slice 43, 1, 24, [.v (.slice none 0 0)]⟩
def ti60 : TI := ⟨.slice 2, 1, 24, [.v (.slice none 0 0)]⟩
def ti64 : TI := ⟨.struct #[⟨ "Number", 2, 0, false, "", "", 0⟩, ⟨ "From", 23, 1, false, "", "", 8⟩, ⟨ "To", 23, 3, false, "", "", 24⟩, ⟨ "Data", 37, 5, false, "", "", 40⟩], 6, 64, [.v (.int .i64 0), .v (.int .i64 0), .v (.int .i64 0), .v (.int .i64 0), .v (.int .i64 0), .v (.slice none 0 0)]⟩
def ti65 : TI := ⟨.struct #[⟨ "Number", 2, 0, false, "", "", 0⟩, ⟨ "From", 23, 1, false, "", "", 8⟩, ⟨ "To", 23, 3, false, "", "", 24⟩, ⟨ "Data", 37, 5, false, "", "", 40⟩], 6, 64, [.v (.int .i64 0), .v (.int .i64 0), .v (.int .i64 0), .v (.int .i64 0), .v (.int .i64 0), .v (.slice none 0 0)]⟩
def ti69 : TI := ⟨.slice 72, 1, 24, [.v (.slice none 0 0)]⟩
def ti70 : TI := ⟨.slice 23, 1, 24, [.v (.slice none 0 0)]⟩
def ti71 : TI := ⟨.struct #[⟨ "Kind", 3, 0, false, "", "", 0⟩, ⟨ "Msgs", 59, 1, false, "", "", 8⟩, ⟨ "Number", 2, 2, false, "", "", 32⟩, ⟨ "Place", 3, 3, false, "", "", 40⟩, ⟨ "With", 5, 4, false, "", "", 48⟩, ⟨ "Addrs", 70, 5, false, "", "", 56⟩, ⟨ "Stop", 3, 6, false, "", "", 80⟩], 7, 88, [.v (.int .i64 0), .v (.slice none 0 0), .v (.int .i64 0), .v (.int .i64 0), .v (.int .u8 0), .v (.slice none 0 0), .v (.int .i64 0)]⟩
def ti72 : TI := ⟨.struct #[⟨ "Kind", 3, 0, false, "", "", 0⟩, ⟨ "Msgs", 59, 1, false, "", "", 8⟩, ⟨ "Number", 2, 2, false, "", "", 32⟩, ⟨ "Place", 3, 3, false, "", "", 40⟩, ⟨ "With", 5, 4, false, "", "", 48⟩, ⟨ "Addrs", 70, 5, false, "", "", 56⟩, ⟨ "Stop", 3, 6, false, "", "", 80⟩], 7, 88, [.v (.int .i64 0), .v (.slice none 0 0), .v (.int .i64 0), .v (.int .i64 0), .v (.int .u8 0), .v (.slice none 0 0), .v (.int .i64 0)]⟩
def ti75 : TI := ⟨.slice 65, 1, 24, [.v (.slice none 0 0)]⟩
def ti76 : TI := ⟨.struct #[⟨ "L", 75, 0, false, "", "", 0⟩, ⟨ "Last", 2, 1, false, "", "", 24⟩], 2, 32, [.v (.slice none 0 0), .v (.int .i64 0)]⟩
def ti77 : TI := ⟨.struct #[⟨ "L", 75, 0, false, "", "", 0⟩, ⟨ "Last", 2, 1, false, "", "", 24⟩], 2, 32, [.v (.slice none 0 0), .v (.int .i64 0)]⟩
def ti79 : TI := ⟨.struct #[⟨ "wait", 75, 0, false, "", "orchard/net", 0⟩, ⟨ "last", 2, 1, false, "", "orchard/net", 24⟩], 2, 32, [.v (.slice none 0 0), .v (.int .i64 0)]⟩
def ti80 : TI := ⟨.struct #[⟨ "wait", 75, 0, false, "", "orchard/net", 0⟩, ⟨ "last", 2, 1, false, "", "orchard/net", 24⟩], 2, 32, [.v (.slice none 0 0), .v (.int .i64 0)]⟩
def ti81 : TI := ⟨.struct #[⟨ "queue", 80, 0, true, "", "orchard/net", 0⟩, ⟨ "made", 4, 2, false, "", "orchard/net", 32⟩], 3, 40, [.v (.slice none 0 0), .v (.int .i64 0), .v (.bool false)]⟩
def ti82 : TI := ⟨.struct #[⟨ "queue", 80, 0, true, "", "orchard/net", 0⟩, ⟨ "made", 4, 2, false, "", "orchard/net", 32⟩], 3, 40, [.v (.slice none 0 0), .v (.int .i64 0), .v (.bool false)]⟩
def ti83 : TI := ⟨.slice 45, 1, 24, [.v (.slice none 0 0)]⟩
def ti112 : TI := ⟨.pointer 166, 1, 8, [.v (.pointer none)]⟩
def ti115 : TI := ⟨.struct #[⟨ "Writer", 112, 0, true, "", "", 0⟩, ⟨ "e", 48, 1, false, "", "orchard/record", 8⟩], 2, 16, [.v (.pointer none), .v (.int .i64 0)]⟩
def ti138 : TI := ⟨.int .u32, 1, 4, [.v (.int .u32 0)]⟩
def ti140 : TI := ⟨.int .u64, 1, 8, [.v (.int .u64 0)]⟩
def ti146 : TI := ⟨.pointer 186, 1, 8, [.v (.pointer none)]⟩
def ti149 : TI := ⟨.struct #[⟨ "Reader", 146, 0, true, "", "", 0⟩, ⟨ "e", 48, 1, false, "", "orchard/record", 8⟩], 2, 16, [.v (.pointer none), .v (.int .i64 0)]⟩
def ti154 : TI := ⟨.struct #[⟨ "Slot", 2, 0, false, "", "", 0⟩, ⟨ "Ballot", 25, 1, false, "", "", 8⟩, ⟨ "Entry", 41, 3, false, "", "", 24⟩], 59, 528, [.v (.int .i64 0), .v (.int .i64 0), .v (.int .i64 0), .v (.int .i64 0), .v (.int .i64 0), .v (.int .i64 0), .v (.int .i64 0), .v (.int .i64 0), .v (.int .i64 0), .v (.int .i64 0), .v (.int .i64 0), .v (.string ⟨#[]⟩), .v (.string ⟨#[]⟩), .v (.string ⟨#[]⟩), .v (.int .i64 0), .v (.int .i64 0), .v (.slice none 0 0), .v (.int .i64 0), .v (.int .i64 0), .v (.int .i64 0), .v (.int .i64 0), .v (.int .i64 0), .v (.int .i64 0), .v (.int .i64 0), .v (.int .i64 0), .v (.int .i64 0), .v (.int .i64 0), .v (.int .i64 0), .v (.int .i64 0), .v (.int .i64 0), .v (.int .i64 0), .v (.int .i64 0), .v (.int .i64 0), .v (.int .i64 0), .v (.int .i64 0), .v (.int .i64 0), .v (.int .i64 0), .v (.int .i64 0), .v (.int .i64 0), .v (.int .i64 0), .v (.int .i64 0), .v (.int .i64 0), .v (.int .i64 0), .v (.int .i64 0), .v (.int .i64 0), .v (.int .i64 0), .v (.int .i64 0), .v (.int .i64 0), .v (.int .i64 0), .v (.int .i64 0), .v (.int .i64 0), .v (.int .i64 0), .v (.int .i64 0), .v (.int .i64 0), .v (.int .i64 0), .v (.slice none 0 0), .v (.int .i64 0), .v (.int .i64 0), .v (.int .i64 0)]⟩
def ti155 : TI := ⟨.struct #[⟨ "Slot", 2, 0, false, "", "", 0⟩, ⟨ "Ballot", 25, 1, false, "", "", 8⟩, ⟨ "Entry", 41, 3, false, "", "", 24⟩], 59, 528, [.v (.int .i64 0), .v (.int .i64 0), .v (.int .i64 0), .v (.int .i64 0), .v (.int .i64 0), .v (.int .i64 0), .v (.int .i64 0), .v (.int .i64 0), .v (.int .i64 0), .v (.int .i64 0), .v (.int .i64 0), .v (.string ⟨#[]⟩), .v (.string ⟨#[]⟩), .v (.string ⟨#[]⟩), .v (.int .i64 0), .v (.int .i64 0), .v (.slice none 0 0), .v (.int .i64 0), .v (.int .i64 0), .v (.int .i64 0), .v (.int .i64 0), .v (.int .i64 0), .v (.int .i64 0), .v (.int .i64 0), .v (.int .i64 0), .v (.int .i64 0), .v (.int .i64 0), .v (.int .i64 0), .v (.int .i64 0), .v (.int .i64 0), .v (.int .i64 0), .v (.int .i64 0), .v (.int .i64 0), .v (.int .i64 0), .v (.int .i64 0), .v (.int .i64 0), .v (.int .i64 0), .v (.int .i64 0), .v (.int .i64 0), .v (.int .i64 0), .v (.int .i64 0), .v (.int .i64 0), .v (.int .i64 0), .v (.int .i64 0), .v (.int .i64 0), .v (.int .i64 0), .v (.int .i64 0), .v (.int .i64 0), .v (.int .i64 0), .v (.int .i64 0), .v (.int .i64 0), .v (.int .i64 0), .v (.int .i64 0), .v (.int .i64 0), .v (.int .i64 0), .v (.slice none 0 0), .v (.int .i64 0), .v (.int .i64 0), .v (.int .i64 0)]⟩
def ti165 : TI := ⟨.struct #[⟨ "made", 4, 0, false, "", "orchard/wire", 0⟩, ⟨ "b", 37, 1, false, "", "orchard/wire", 8⟩], 2, 32, [.v (.bool false), .v (.slice none 0 0)]⟩
def ti166 : TI := ⟨.struct #[⟨ "made", 4, 0, false, "", "orchard/wire", 0⟩, ⟨ "b", 37, 1, false, "", "orchard/wire", 8⟩], 2, 32, [.v (.bool false), .v (.slice none 0 0)]⟩
def ti186 : TI := ⟨.struct #[⟨ "made", 4, 0, false, "", "orchard/wire", 0⟩, ⟨ "b", 37, 1, false, "", "orchard/wire", 8⟩], 2, 32, [.v (.bool false), .v (.slice none 0 0)]⟩
def ti188 : TI := ⟨.pointer 3, 1, 8, [.v (.pointer none)]⟩
def ti192 : TI := ⟨.struct #[⟨ "B", 37, 0, false, "", "", 0⟩, ⟨ "At", 3, 1, false, "", "", 24⟩, ⟨ "E", 48, 2, false, "", "", 32⟩], 3, 40, [.v (.slice none 0 0), .v (.int .i64 0), .v (.int .i64 0)]⟩
def ti193 : TI := ⟨.struct #[⟨ "B", 37, 0, false, "", "", 0⟩, ⟨ "At", 3, 1, false, "", "", 24⟩, ⟨ "E", 48, 2, false, "", "", 32⟩], 3, 40, [.v (.slice none 0 0), .v (.int .i64 0), .v (.int .i64 0)]⟩
def ti194 : TI := ⟨.slice 3, 1, 24, [.v (.slice none 0 0)]⟩
def ti201 : TI := ⟨.slice 37, 1, 24, [.v (.slice none 0 0)]⟩
def ti203 : TI := ⟨.int .u64, 1, 8, [.v (.int .u64 0)]⟩
def ti206 : TI := ⟨.slice 188, 1, 24, [.v (.slice none 0 0)]⟩
def ti209 : TI := ⟨.pointer 2, 1, 8, [.v (.pointer none)]⟩
def ti226 : TI := ⟨.slice 209, 1, 24, [.v (.slice none 0 0)]⟩
def ti229 : TI := ⟨.slice 9, 1, 24, [.v (.slice none 0 0)]⟩
def tyT : Nat → Option TI
  | 2 => some ti2
  | 3 => some ti3
  | 4 => some ti4
  | 5 => some ti5
  | 9 => some ti9
  | 12 => some ti12
  | 21 => some ti21
  | 22 => some ti22
  | 23 => some ti23
  | 24 => some ti24
  | 25 => some ti25
  | 26 => some ti26
  | 27 => some ti27
  | 28 => some ti28
  | 29 => some ti29
  | 30 => some ti30
  | 31 => some ti31
  | 32 => some ti32
  | 33 => some ti33
  | 34 => some ti34
  | 35 => some ti35
  | 36 => some ti36
  | 37 => some ti37
  | 38 => some ti38
  | 39 => some ti39
  | 40 => some ti40
  | 41 => some ti41
  | 42 => some ti42
  | 43 => some ti43
  | 44 => some ti44
  | 45 => some ti45
  | 48 => some ti48
  | 59 => some ti59
  | 60 => some ti60
  | 64 => some ti64
  | 65 => some ti65
  | 69 => some ti69
  | 70 => some ti70
  | 71 => some ti71
  | 72 => some ti72
  | 75 => some ti75
  | 76 => some ti76
  | 77 => some ti77
  | 79 => some ti79
  | 80 => some ti80
  | 81 => some ti81
  | 82 => some ti82
  | 83 => some ti83
  | 112 => some ti112
  | 115 => some ti115
  | 138 => some ti138
  | 140 => some ti140
  | 146 => some ti146
  | 149 => some ti149
  | 154 => some ti154
  | 155 => some ti155
  | 165 => some ti165
  | 166 => some ti166
  | 186 => some ti186
  | 188 => some ti188
  | 192 => some ti192
  | 193 => some ti193
  | 194 => some ti194
  | 201 => some ti201
  | 203 => some ti203
  | 206 => some ti206
  | 209 => some ti209
  | 226 => some ti226
  | 229 => some ti229
  | _ => none
def eqT : Nat → Option (List Kd)
  | 22 => some [.i, .i]
  | 23 => some [.i, .i]
  | 24 => some [.i, .i]
  | 25 => some [.i, .i]
  | 27 => some [.i, .i]
  | 28 => some [.i, .i]
  | 29 => some [.i, .i, .i, .i, .i, .s, .s, .s]
  | 30 => some [.i, .i, .i, .i, .i, .s, .s, .s]
  | 32 => some [.i, .i, .i, .i, .i, .i, .i, .i]
  | 33 => some [.i, .i, .i, .i, .i, .i, .i, .i]
  | 34 => some [.i, .i, .i, .i, .i, .i, .i, .i]
  | 35 => some [.i, .i, .i, .i, .i, .i, .i, .i, .i, .i, .i, .i, .i, .i, .i, .i, .i, .i, .i, .i, .i, .i, .i, .i, .i]
  | 36 => some [.i, .i, .i, .i, .i, .i, .i, .i, .i, .i, .i, .i, .i, .i, .i, .i, .i, .i, .i, .i, .i, .i, .i, .i, .i]
  | _ => none
noncomputable def E : Env := ⟨Tryz.prog, tyT, eqT, none⟩
theorem tok2 : TyOk E.P 2 ti2 := tyOkV (z := (.int .i64 0)) (by kernel_rfl) rfl (by kernel_rfl) (by kernel_rfl)
theorem tok3 : TyOk E.P 3 ti3 := tyOkV (z := (.int .i64 0)) (by kernel_rfl) rfl (by kernel_rfl) (by kernel_rfl)
theorem tok4 : TyOk E.P 4 ti4 := tyOkV (z := (.bool false)) (by kernel_rfl) rfl (by kernel_rfl) (by kernel_rfl)
theorem tok5 : TyOk E.P 5 ti5 := tyOkV (z := (.int .u8 0)) (by kernel_rfl) rfl (by kernel_rfl) (by kernel_rfl)
theorem tok9 : TyOk E.P 9 ti9 := tyOkV (z := (.string ⟨#[]⟩)) (by kernel_rfl) rfl (by kernel_rfl) (by kernel_rfl)
theorem tok12 : TyOk E.P 12 ti12 := tyOkV (z := (.int .u64 0)) (by kernel_rfl) rfl (by kernel_rfl) (by kernel_rfl)
theorem tok21 : TyOk E.P 21 ti21 := tyOkV (z := (.int .i32 0)) (by kernel_rfl) rfl (by kernel_rfl) (by kernel_rfl)
theorem tok22 : TyOk E.P 22 ti22 := tyOkV (z := (.agg #[(.int .i64 0), (.int .i64 0)])) (by kernel_rfl) rfl (by kernel_rfl) (by kernel_rfl)
theorem tok23 : TyOk E.P 23 ti23 := tyOkV (z := (.agg #[(.int .i64 0), (.int .i64 0)])) (by kernel_rfl) rfl (by kernel_rfl) (by kernel_rfl)
theorem tok24 : TyOk E.P 24 ti24 := tyOkV (z := (.agg #[(.int .i64 0), (.int .i64 0)])) (by kernel_rfl) rfl (by kernel_rfl) (by kernel_rfl)
theorem tok25 : TyOk E.P 25 ti25 := tyOkV (z := (.agg #[(.int .i64 0), (.int .i64 0)])) (by kernel_rfl) rfl (by kernel_rfl) (by kernel_rfl)
theorem tok26 : TyOk E.P 26 ti26 := tyOkV (z := (.slice none 0 0)) (by kernel_rfl) rfl (by kernel_rfl) (by kernel_rfl)
theorem tok27 : TyOk E.P 27 ti27 := tyOkV (z := (.agg #[(.int .i64 0), (.int .i64 0)])) (by kernel_rfl) rfl (by kernel_rfl) (by kernel_rfl)
theorem tok28 : TyOk E.P 28 ti28 := tyOkV (z := (.agg #[(.int .i64 0), (.int .i64 0)])) (by kernel_rfl) rfl (by kernel_rfl) (by kernel_rfl)
theorem tok29 : TyOk E.P 29 ti29 := tyOkV (z := (.agg #[(.int .i64 0), (.int .i64 0), (.int .i64 0), (.int .i64 0), (.int .i64 0), (.string ⟨#[]⟩), (.string ⟨#[]⟩), (.string ⟨#[]⟩)])) (by kernel_rfl) rfl (by kernel_rfl) (by kernel_rfl)
theorem tok30 : TyOk E.P 30 ti30 := tyOkV (z := (.agg #[(.int .i64 0), (.int .i64 0), (.int .i64 0), (.int .i64 0), (.int .i64 0), (.string ⟨#[]⟩), (.string ⟨#[]⟩), (.string ⟨#[]⟩)])) (by kernel_rfl) rfl (by kernel_rfl) (by kernel_rfl)
theorem tok31 : TyOk E.P 31 ti31 := tyOkV (z := (.slice none 0 0)) (by kernel_rfl) rfl (by kernel_rfl) (by kernel_rfl)
theorem tok32 : TyOk E.P 32 ti32 := tyOkV (z := (.agg #[(.int .i64 0), (.int .i64 0), (.int .i64 0), (.int .i64 0), (.int .i64 0), (.int .i64 0), (.int .i64 0), (.int .i64 0)])) (by kernel_rfl) rfl (by kernel_rfl) (by kernel_rfl)
theorem tok33 : TyOk E.P 33 ti33 := tyOkV (z := (.agg #[(.int .i64 0), (.int .i64 0), (.int .i64 0), (.int .i64 0), (.int .i64 0), (.int .i64 0), (.int .i64 0), (.int .i64 0)])) (by kernel_rfl) rfl (by kernel_rfl) (by kernel_rfl)
theorem tok34 : TyOk E.P 34 ti34 := tyOkV (z := (.agg #[(.int .i64 0), (.int .i64 0), (.int .i64 0), (.int .i64 0), (.int .i64 0), (.int .i64 0), (.int .i64 0), (.int .i64 0)])) (by kernel_rfl) rfl (by kernel_rfl) (by kernel_rfl)
theorem tok35 : TyOk E.P 35 ti35 := tyOkV (z := (.agg #[(.int .i64 0), (.int .i64 0), (.int .i64 0), (.int .i64 0), (.int .i64 0), (.int .i64 0), (.int .i64 0), (.int .i64 0), (.int .i64 0), (.int .i64 0), (.int .i64 0), (.int .i64 0), (.int .i64 0), (.int .i64 0), (.int .i64 0), (.int .i64 0), (.int .i64 0), (.int .i64 0), (.int .i64 0), (.int .i64 0), (.int .i64 0), (.int .i64 0), (.int .i64 0), (.int .i64 0), (.int .i64 0)])) (by kernel_rfl) rfl (by kernel_rfl) (by kernel_rfl)
theorem tok36 : TyOk E.P 36 ti36 := tyOkV (z := (.agg #[(.int .i64 0), (.int .i64 0), (.int .i64 0), (.int .i64 0), (.int .i64 0), (.int .i64 0), (.int .i64 0), (.int .i64 0), (.int .i64 0), (.int .i64 0), (.int .i64 0), (.int .i64 0), (.int .i64 0), (.int .i64 0), (.int .i64 0), (.int .i64 0), (.int .i64 0), (.int .i64 0), (.int .i64 0), (.int .i64 0), (.int .i64 0), (.int .i64 0), (.int .i64 0), (.int .i64 0), (.int .i64 0)])) (by kernel_rfl) rfl (by kernel_rfl) (by kernel_rfl)
theorem tok37 : TyOk E.P 37 ti37 := tyOkV (z := (.slice none 0 0)) (by kernel_rfl) rfl (by kernel_rfl) (by kernel_rfl)
theorem tok38 : TyOk E.P 38 ti38 := tyOkV (z := (.agg #[(.int .i64 0), (.int .i64 0), (.int .i64 0), (.slice none 0 0)])) (by kernel_rfl) rfl (by kernel_rfl) (by kernel_rfl)
theorem tok39 : TyOk E.P 39 ti39 := tyOkV (z := (.agg #[(.int .i64 0), (.int .i64 0), (.int .i64 0), (.slice none 0 0)])) (by kernel_rfl) rfl (by kernel_rfl) (by kernel_rfl)
theorem tok40 : TyOk E.P 40 ti40 := tyOkV (z := (.agg #[(.int .i64 0), (.int .i64 0), (.int .i64 0), (.int .i64 0), (.int .i64 0), (.int .i64 0), (.int .i64 0), (.int .i64 0), (.string ⟨#[]⟩), (.string ⟨#[]⟩), (.string ⟨#[]⟩), (.int .i64 0), (.int .i64 0), (.slice none 0 0), (.int .i64 0), (.int .i64 0), (.int .i64 0), (.int .i64 0), (.int .i64 0), (.int .i64 0), (.int .i64 0), (.int .i64 0), (.int .i64 0), (.int .i64 0), (.int .i64 0), (.int .i64 0), (.int .i64 0), (.int .i64 0), (.int .i64 0), (.int .i64 0), (.int .i64 0), (.int .i64 0), (.int .i64 0), (.int .i64 0), (.int .i64 0), (.int .i64 0), (.int .i64 0), (.int .i64 0), (.int .i64 0), (.int .i64 0), (.int .i64 0), (.int .i64 0), (.int .i64 0), (.int .i64 0), (.int .i64 0), (.int .i64 0), (.int .i64 0), (.int .i64 0), (.int .i64 0), (.int .i64 0), (.int .i64 0), (.int .i64 0), (.slice none 0 0), (.int .i64 0), (.int .i64 0), (.int .i64 0)])) (by kernel_rfl) rfl (by kernel_rfl) (by kernel_rfl)
theorem tok41 : TyOk E.P 41 ti41 := tyOkV (z := (.agg #[(.int .i64 0), (.int .i64 0), (.int .i64 0), (.int .i64 0), (.int .i64 0), (.int .i64 0), (.int .i64 0), (.int .i64 0), (.string ⟨#[]⟩), (.string ⟨#[]⟩), (.string ⟨#[]⟩), (.int .i64 0), (.int .i64 0), (.slice none 0 0), (.int .i64 0), (.int .i64 0), (.int .i64 0), (.int .i64 0), (.int .i64 0), (.int .i64 0), (.int .i64 0), (.int .i64 0), (.int .i64 0), (.int .i64 0), (.int .i64 0), (.int .i64 0), (.int .i64 0), (.int .i64 0), (.int .i64 0), (.int .i64 0), (.int .i64 0), (.int .i64 0), (.int .i64 0), (.int .i64 0), (.int .i64 0), (.int .i64 0), (.int .i64 0), (.int .i64 0), (.int .i64 0), (.int .i64 0), (.int .i64 0), (.int .i64 0), (.int .i64 0), (.int .i64 0), (.int .i64 0), (.int .i64 0), (.int .i64 0), (.int .i64 0), (.int .i64 0), (.int .i64 0), (.int .i64 0), (.int .i64 0), (.slice none 0 0), (.int .i64 0), (.int .i64 0), (.int .i64 0)])) (by kernel_rfl) rfl (by kernel_rfl) (by kernel_rfl)
theorem tok42 : TyOk E.P 42 ti42 := tyOkV (z := (.agg #[(.int .i64 0), (.int .i64 0), (.int .i64 0), (.int .i64 0), (.int .i64 0), (.int .i64 0), (.int .i64 0), (.int .i64 0), (.slice none 0 0), (.int .i64 0), (.int .i64 0), (.int .i64 0), (.int .i64 0), (.int .i64 0), (.int .i64 0), (.int .i64 0), (.int .i64 0), (.string ⟨#[]⟩), (.string ⟨#[]⟩), (.string ⟨#[]⟩), (.int .i64 0), (.int .i64 0), (.slice none 0 0), (.int .i64 0), (.int .i64 0), (.int .i64 0), (.int .i64 0), (.int .i64 0), (.int .i64 0), (.int .i64 0), (.int .i64 0), (.int .i64 0), (.int .i64 0), (.int .i64 0), (.int .i64 0), (.int .i64 0), (.int .i64 0), (.int .i64 0), (.int .i64 0), (.int .i64 0), (.int .i64 0), (.int .i64 0), (.int .i64 0), (.int .i64 0), (.int .i64 0), (.int .i64 0), (.int .i64 0), (.int .i64 0), (.int .i64 0), (.int .i64 0), (.int .i64 0), (.int .i64 0), (.int .i64 0), (.int .i64 0), (.int .i64 0), (.int .i64 0), (.int .i64 0), (.int .i64 0), (.int .i64 0), (.int .i64 0), (.int .i64 0), (.slice none 0 0), (.int .i64 0), (.int .i64 0), (.int .i64 0), (.int .i64 0), (.int .i64 0), (.int .i64 0), (.int .i64 0), (.int .i64 0), (.int .i64 0), (.int .i64 0), (.int .i64 0), (.int .i64 0), (.int .i64 0), (.int .i64 0), (.slice none 0 0), (.int .i64 0), (.int .i64 0), (.int .i64 0), (.int .i64 0), (.int .i64 0), (.int .i64 0), (.int .i64 0), (.int .i64 0), (.int .i64 0), (.int .i64 0), (.int .i64 0), (.int .i64 0), (.int .i64 0), (.int .i64 0), (.int .i64 0), (.int .i64 0), (.int .i64 0), (.int .i64 0), (.int .i64 0), (.int .i64 0), (.int .i64 0), (.int .i64 0), (.int .i64 0), (.int .i64 0), (.int .i64 0), (.int .i64 0), (.int .i64 0), (.int .i64 0), (.slice none 0 0)])) (by kernel_rfl) rfl (by kernel_rfl) (by kernel_rfl)
theorem tok43 : TyOk E.P 43 ti43 := tyOkV (z := (.agg #[(.int .i64 0), (.int .i64 0), (.int .i64 0), (.int .i64 0), (.int .i64 0), (.int .i64 0), (.int .i64 0), (.int .i64 0), (.slice none 0 0), (.int .i64 0), (.int .i64 0), (.int .i64 0), (.int .i64 0), (.int .i64 0), (.int .i64 0), (.int .i64 0), (.int .i64 0), (.string ⟨#[]⟩), (.string ⟨#[]⟩), (.string ⟨#[]⟩), (.int .i64 0), (.int .i64 0), (.slice none 0 0), (.int .i64 0), (.int .i64 0), (.int .i64 0), (.int .i64 0), (.int .i64 0), (.int .i64 0), (.int .i64 0), (.int .i64 0), (.int .i64 0), (.int .i64 0), (.int .i64 0), (.int .i64 0), (.int .i64 0), (.int .i64 0), (.int .i64 0), (.int .i64 0), (.int .i64 0), (.int .i64 0), (.int .i64 0), (.int .i64 0), (.int .i64 0), (.int .i64 0), (.int .i64 0), (.int .i64 0), (.int .i64 0), (.int .i64 0), (.int .i64 0), (.int .i64 0), (.int .i64 0), (.int .i64 0), (.int .i64 0), (.int .i64 0), (.int .i64 0), (.int .i64 0), (.int .i64 0), (.int .i64 0), (.int .i64 0), (.int .i64 0), (.slice none 0 0), (.int .i64 0), (.int .i64 0), (.int .i64 0), (.int .i64 0), (.int .i64 0), (.int .i64 0), (.int .i64 0), (.int .i64 0), (.int .i64 0), (.int .i64 0), (.int .i64 0), (.int .i64 0), (.int .i64 0), (.int .i64 0), (.slice none 0 0), (.int .i64 0), (.int .i64 0), (.int .i64 0), (.int .i64 0), (.int .i64 0), (.int .i64 0), (.int .i64 0), (.int .i64 0), (.int .i64 0), (.int .i64 0), (.int .i64 0), (.int .i64 0), (.int .i64 0), (.int .i64 0), (.int .i64 0), (.int .i64 0), (.int .i64 0), (.int .i64 0), (.int .i64 0), (.int .i64 0), (.int .i64 0), (.int .i64 0), (.int .i64 0), (.int .i64 0), (.int .i64 0), (.int .i64 0), (.int .i64 0), (.int .i64 0), (.slice none 0 0)])) (by kernel_rfl) rfl (by kernel_rfl) (by kernel_rfl)
theorem tok44 : TyOk E.P 44 ti44 := tyOkV (z := (.int .u16 0)) (by kernel_rfl) rfl (by kernel_rfl) (by kernel_rfl)
theorem tok45 : TyOk E.P 45 ti45 := tyOkV (z := (.pointer none)) (by kernel_rfl) rfl (by kernel_rfl) (by kernel_rfl)
theorem tok48 : TyOk E.P 48 ti48 := tyOkV (z := (.int .i64 0)) (by kernel_rfl) rfl (by kernel_rfl) (by kernel_rfl)
theorem tok59 : TyOk E.P 59 ti59 := tyOkV (z := (.slice none 0 0)) (by kernel_rfl) rfl (by kernel_rfl) (by kernel_rfl)
theorem tok60 : TyOk E.P 60 ti60 := tyOkV (z := (.slice none 0 0)) (by kernel_rfl) rfl (by kernel_rfl) (by kernel_rfl)
theorem tok64 : TyOk E.P 64 ti64 := tyOkV (z := (.agg #[(.int .i64 0), (.int .i64 0), (.int .i64 0), (.int .i64 0), (.int .i64 0), (.slice none 0 0)])) (by kernel_rfl) rfl (by kernel_rfl) (by kernel_rfl)
theorem tok65 : TyOk E.P 65 ti65 := tyOkV (z := (.agg #[(.int .i64 0), (.int .i64 0), (.int .i64 0), (.int .i64 0), (.int .i64 0), (.slice none 0 0)])) (by kernel_rfl) rfl (by kernel_rfl) (by kernel_rfl)
theorem tok69 : TyOk E.P 69 ti69 := tyOkV (z := (.slice none 0 0)) (by kernel_rfl) rfl (by kernel_rfl) (by kernel_rfl)
theorem tok70 : TyOk E.P 70 ti70 := tyOkV (z := (.slice none 0 0)) (by kernel_rfl) rfl (by kernel_rfl) (by kernel_rfl)
theorem tok71 : TyOk E.P 71 ti71 := tyOkV (z := (.agg #[(.int .i64 0), (.slice none 0 0), (.int .i64 0), (.int .i64 0), (.int .u8 0), (.slice none 0 0), (.int .i64 0)])) (by kernel_rfl) rfl (by kernel_rfl) (by kernel_rfl)
theorem tok72 : TyOk E.P 72 ti72 := tyOkV (z := (.agg #[(.int .i64 0), (.slice none 0 0), (.int .i64 0), (.int .i64 0), (.int .u8 0), (.slice none 0 0), (.int .i64 0)])) (by kernel_rfl) rfl (by kernel_rfl) (by kernel_rfl)
theorem tok75 : TyOk E.P 75 ti75 := tyOkV (z := (.slice none 0 0)) (by kernel_rfl) rfl (by kernel_rfl) (by kernel_rfl)
theorem tok76 : TyOk E.P 76 ti76 := tyOkV (z := (.agg #[(.slice none 0 0), (.int .i64 0)])) (by kernel_rfl) rfl (by kernel_rfl) (by kernel_rfl)
theorem tok77 : TyOk E.P 77 ti77 := tyOkV (z := (.agg #[(.slice none 0 0), (.int .i64 0)])) (by kernel_rfl) rfl (by kernel_rfl) (by kernel_rfl)
theorem tok79 : TyOk E.P 79 ti79 := tyOkV (z := (.agg #[(.slice none 0 0), (.int .i64 0)])) (by kernel_rfl) rfl (by kernel_rfl) (by kernel_rfl)
theorem tok80 : TyOk E.P 80 ti80 := tyOkV (z := (.agg #[(.slice none 0 0), (.int .i64 0)])) (by kernel_rfl) rfl (by kernel_rfl) (by kernel_rfl)
theorem tok81 : TyOk E.P 81 ti81 := tyOkV (z := (.agg #[(.slice none 0 0), (.int .i64 0), (.bool false)])) (by kernel_rfl) rfl (by kernel_rfl) (by kernel_rfl)
theorem tok82 : TyOk E.P 82 ti82 := tyOkV (z := (.agg #[(.slice none 0 0), (.int .i64 0), (.bool false)])) (by kernel_rfl) rfl (by kernel_rfl) (by kernel_rfl)
theorem tok83 : TyOk E.P 83 ti83 := tyOkV (z := (.slice none 0 0)) (by kernel_rfl) rfl (by kernel_rfl) (by kernel_rfl)
theorem tok112 : TyOk E.P 112 ti112 := tyOkV (z := (.pointer none)) (by kernel_rfl) rfl (by kernel_rfl) (by kernel_rfl)
theorem tok115 : TyOk E.P 115 ti115 := tyOkV (z := (.agg #[(.pointer none), (.int .i64 0)])) (by kernel_rfl) rfl (by kernel_rfl) (by kernel_rfl)
theorem tok138 : TyOk E.P 138 ti138 := tyOkV (z := (.int .u32 0)) (by kernel_rfl) rfl (by kernel_rfl) (by kernel_rfl)
theorem tok140 : TyOk E.P 140 ti140 := tyOkV (z := (.int .u64 0)) (by kernel_rfl) rfl (by kernel_rfl) (by kernel_rfl)
theorem tok146 : TyOk E.P 146 ti146 := tyOkV (z := (.pointer none)) (by kernel_rfl) rfl (by kernel_rfl) (by kernel_rfl)
theorem tok149 : TyOk E.P 149 ti149 := tyOkV (z := (.agg #[(.pointer none), (.int .i64 0)])) (by kernel_rfl) rfl (by kernel_rfl) (by kernel_rfl)
theorem tok154 : TyOk E.P 154 ti154 := tyOkV (z := (.agg #[(.int .i64 0), (.int .i64 0), (.int .i64 0), (.int .i64 0), (.int .i64 0), (.int .i64 0), (.int .i64 0), (.int .i64 0), (.int .i64 0), (.int .i64 0), (.int .i64 0), (.string ⟨#[]⟩), (.string ⟨#[]⟩), (.string ⟨#[]⟩), (.int .i64 0), (.int .i64 0), (.slice none 0 0), (.int .i64 0), (.int .i64 0), (.int .i64 0), (.int .i64 0), (.int .i64 0), (.int .i64 0), (.int .i64 0), (.int .i64 0), (.int .i64 0), (.int .i64 0), (.int .i64 0), (.int .i64 0), (.int .i64 0), (.int .i64 0), (.int .i64 0), (.int .i64 0), (.int .i64 0), (.int .i64 0), (.int .i64 0), (.int .i64 0), (.int .i64 0), (.int .i64 0), (.int .i64 0), (.int .i64 0), (.int .i64 0), (.int .i64 0), (.int .i64 0), (.int .i64 0), (.int .i64 0), (.int .i64 0), (.int .i64 0), (.int .i64 0), (.int .i64 0), (.int .i64 0), (.int .i64 0), (.int .i64 0), (.int .i64 0), (.int .i64 0), (.slice none 0 0), (.int .i64 0), (.int .i64 0), (.int .i64 0)])) (by kernel_rfl) rfl (by kernel_rfl) (by kernel_rfl)
theorem tok155 : TyOk E.P 155 ti155 := tyOkV (z := (.agg #[(.int .i64 0), (.int .i64 0), (.int .i64 0), (.int .i64 0), (.int .i64 0), (.int .i64 0), (.int .i64 0), (.int .i64 0), (.int .i64 0), (.int .i64 0), (.int .i64 0), (.string ⟨#[]⟩), (.string ⟨#[]⟩), (.string ⟨#[]⟩), (.int .i64 0), (.int .i64 0), (.slice none 0 0), (.int .i64 0), (.int .i64 0), (.int .i64 0), (.int .i64 0), (.int .i64 0), (.int .i64 0), (.int .i64 0), (.int .i64 0), (.int .i64 0), (.int .i64 0), (.int .i64 0), (.int .i64 0), (.int .i64 0), (.int .i64 0), (.int .i64 0), (.int .i64 0), (.int .i64 0), (.int .i64 0), (.int .i64 0), (.int .i64 0), (.int .i64 0), (.int .i64 0), (.int .i64 0), (.int .i64 0), (.int .i64 0), (.int .i64 0), (.int .i64 0), (.int .i64 0), (.int .i64 0), (.int .i64 0), (.int .i64 0), (.int .i64 0), (.int .i64 0), (.int .i64 0), (.int .i64 0), (.int .i64 0), (.int .i64 0), (.int .i64 0), (.slice none 0 0), (.int .i64 0), (.int .i64 0), (.int .i64 0)])) (by kernel_rfl) rfl (by kernel_rfl) (by kernel_rfl)
theorem tok165 : TyOk E.P 165 ti165 := tyOkV (z := (.agg #[(.bool false), (.slice none 0 0)])) (by kernel_rfl) rfl (by kernel_rfl) (by kernel_rfl)
theorem tok166 : TyOk E.P 166 ti166 := tyOkV (z := (.agg #[(.bool false), (.slice none 0 0)])) (by kernel_rfl) rfl (by kernel_rfl) (by kernel_rfl)
theorem tok186 : TyOk E.P 186 ti186 := tyOkV (z := (.agg #[(.bool false), (.slice none 0 0)])) (by kernel_rfl) rfl (by kernel_rfl) (by kernel_rfl)
theorem tok188 : TyOk E.P 188 ti188 := tyOkV (z := (.pointer none)) (by kernel_rfl) rfl (by kernel_rfl) (by kernel_rfl)
theorem tok192 : TyOk E.P 192 ti192 := tyOkV (z := (.agg #[(.slice none 0 0), (.int .i64 0), (.int .i64 0)])) (by kernel_rfl) rfl (by kernel_rfl) (by kernel_rfl)
theorem tok193 : TyOk E.P 193 ti193 := tyOkV (z := (.agg #[(.slice none 0 0), (.int .i64 0), (.int .i64 0)])) (by kernel_rfl) rfl (by kernel_rfl) (by kernel_rfl)
theorem tok194 : TyOk E.P 194 ti194 := tyOkV (z := (.slice none 0 0)) (by kernel_rfl) rfl (by kernel_rfl) (by kernel_rfl)
theorem tok201 : TyOk E.P 201 ti201 := tyOkV (z := (.slice none 0 0)) (by kernel_rfl) rfl (by kernel_rfl) (by kernel_rfl)
theorem tok203 : TyOk E.P 203 ti203 := tyOkV (z := (.int .u64 0)) (by kernel_rfl) rfl (by kernel_rfl) (by kernel_rfl)
theorem tok206 : TyOk E.P 206 ti206 := tyOkV (z := (.slice none 0 0)) (by kernel_rfl) rfl (by kernel_rfl) (by kernel_rfl)
theorem tok209 : TyOk E.P 209 ti209 := tyOkV (z := (.pointer none)) (by kernel_rfl) rfl (by kernel_rfl) (by kernel_rfl)
theorem tok226 : TyOk E.P 226 ti226 := tyOkV (z := (.slice none 0 0)) (by kernel_rfl) rfl (by kernel_rfl) (by kernel_rfl)
theorem tok229 : TyOk E.P 229 ti229 := tyOkV (z := (.slice none 0 0)) (by kernel_rfl) rfl (by kernel_rfl) (by kernel_rfl)
theorem eOk : E.Ok := by
  intro t i h
  have h' : tyT t = some i := h
  unfold tyT at h'
  split at h' <;> first
    | (cases h'; first | exact tok2 | exact tok3 | exact tok4 | exact tok5 | exact tok9 | exact tok12 | exact tok21 | exact tok22 | exact tok23 | exact tok24 | exact tok25 | exact tok26 | exact tok27 | exact tok28 | exact tok29 | exact tok30 | exact tok31 | exact tok32 | exact tok33 | exact tok34 | exact tok35 | exact tok36 | exact tok37 | exact tok38 | exact tok39 | exact tok40 | exact tok41 | exact tok42 | exact tok43 | exact tok44 | exact tok45 | exact tok48 | exact tok59 | exact tok60 | exact tok64 | exact tok65 | exact tok69 | exact tok70 | exact tok71 | exact tok72 | exact tok75 | exact tok76 | exact tok77 | exact tok79 | exact tok80 | exact tok81 | exact tok82 | exact tok83 | exact tok112 | exact tok115 | exact tok138 | exact tok140 | exact tok146 | exact tok149 | exact tok154 | exact tok155 | exact tok165 | exact tok166 | exact tok186 | exact tok188 | exact tok192 | exact tok193 | exact tok194 | exact tok201 | exact tok203 | exact tok206 | exact tok209 | exact tok226 | exact tok229)
    | cases h'
theorem eEq : E.EqOk := by
  intro t ks h
  have h' : eqT t = some ks := h
  unfold eqT at h'
  split at h' <;> first
    | (cases h'; exact ⟨by kernel_rfl, by kernel_rfl, by kernel_rfl⟩)
    | cases h'
theorem eGood : Go.Ev.Good E := ⟨eOk, eEq, by kernel_rfl⟩
structure GAddr where
  Group : Int
  Replica : Int
instance : Inhabited GAddr := ⟨⟨default, default⟩⟩
structure zq where
  Round : Int
  Replica : Int
instance : Inhabited zq := ⟨⟨default, default⟩⟩
structure zx where
  Time : Int
  Site : Int
instance : Inhabited zx := ⟨⟨default, default⟩⟩
structure GOp where
  Stamp : zx
  Kind : Int
  Node : Int
  Parent : Int
  Name : List UInt8
  Key : List UInt8
  Value : List UInt8
instance : Inhabited GOp := ⟨⟨default, default, default, default, default, default, default⟩⟩
structure za where
  Number : Int
  States : Vector (Int) 8
  Seals : Vector (Int) 8
  Sponsor : Vector (Int) 8
instance : Inhabited za := ⟨⟨default, default, default, default⟩⟩
structure GPart where
  Snap : Int
  Index : Int
  Many : Int
  Data : List (Int)
instance : Inhabited GPart := ⟨⟨default, default, default, default⟩⟩
structure zd where
  Kind : Int
  Session : Int
  Request : Int
  Op : GOp
  Origin : Int
  Seq : Int
  Ops : List (GOp)
  Epoch : za
  From : Int
  Vector_ : Vector (Int) 8
  Clock : Int
  Part : GPart
  Site : Int
  Sponsor : Int
  Length : Int
instance : Inhabited zd := ⟨⟨default, default, default, default, default, default, default, default, default, default, default, default, default, default, default⟩⟩
structure zv where
  Slot : Int
  Ballot : zq
  Entry : zd
instance : Inhabited zv := ⟨⟨default, default, default⟩⟩
structure GMsg where
  Kind : Int
  From : GAddr
  To : GAddr
  Ballot : zq
  Slot : Int
  List_ : List (zv)
  Entry : zd
  Number : Int
  Vector_ : Vector (Int) 8
  Clock : Int
  Origin : Int
  Ops : List (GOp)
  Epoch : za
  Part : GPart
instance : Inhabited GMsg := ⟨⟨default, default, default, default, default, default, default, default, default, default, default, default, default, default⟩⟩
structure GSent where
  Number : Int
  From : GAddr
  To : GAddr
  Data : List (Int)
instance : Inhabited GSent := ⟨⟨default, default, default, default⟩⟩
structure zy where
  Kind : Int
  Msgs : List (GMsg)
  Number : Int
  Place : Int
  With : Int
  Addrs : List (GAddr)
  Stop : Int
instance : Inhabited zy := ⟨⟨default, default, default, default, default, default, default⟩⟩
structure z18 where
  L : List (GSent)
  Last : Int
instance : Inhabited z18 := ⟨⟨default, default⟩⟩
structure z2e where
  wait : List (GSent)
  last : Int
instance : Inhabited z2e := ⟨⟨default, default⟩⟩
structure z1o where
  queue : z2e
  made : Bool
instance : Inhabited z1o := ⟨⟨default, default⟩⟩
structure z4 where
  made : Bool
  b : List (Int)
instance : Inhabited z4 := ⟨⟨default, default⟩⟩
structure z10 where
  B : List (Int)
  At : Int
  E : Int
instance : Inhabited z10 := ⟨⟨default, default, default⟩⟩
@[reducible] def τ : Nat → Type
  | 2 => Int
  | 3 => Int
  | 4 => Bool
  | 5 => Int
  | 9 => List UInt8
  | 12 => Int
  | 21 => Int
  | 22 => GAddr
  | 23 => GAddr
  | 24 => zq
  | 25 => zq
  | 26 => List (zv)
  | 27 => zx
  | 28 => zx
  | 29 => GOp
  | 30 => GOp
  | 31 => List (GOp)
  | 32 => Vector (Int) 8
  | 33 => Vector (Int) 8
  | 34 => Vector (Int) 8
  | 35 => za
  | 36 => za
  | 37 => List (Int)
  | 38 => GPart
  | 39 => GPart
  | 40 => zd
  | 41 => zd
  | 42 => GMsg
  | 43 => GMsg
  | 44 => Int
  | 48 => Int
  | 59 => List (GMsg)
  | 60 => List (Int)
  | 64 => GSent
  | 65 => GSent
  | 69 => List (zy)
  | 70 => List (GAddr)
  | 71 => zy
  | 72 => zy
  | 75 => List (GSent)
  | 76 => z18
  | 77 => z18
  | 79 => z2e
  | 80 => z2e
  | 81 => z1o
  | 82 => z1o
  | 138 => Int
  | 140 => Int
  | 154 => zv
  | 155 => zv
  | 165 => z4
  | 166 => z4
  | 186 => z4
  | 192 => z10
  | 193 => z10
  | 194 => List (Int)
  | 201 => List (List (Int))
  | 203 => Int
  | 229 => List (List UInt8)
  | _ => Unit
def cel2 (x : Int) : List AV := [.v (.int .i64 x)]
def enc2 (x : Int) : TV τ := .int .i64 x
def dec2 (x : TV τ) : Option (Int) := dInt .i64 x
def beq2 (x y : Int) : Bool := (x == y)
def cel3 (x : Int) : List AV := [.v (.int .i64 x)]
def enc3 (x : Int) : TV τ := .int .i64 x
def dec3 (x : TV τ) : Option (Int) := dInt .i64 x
def beq3 (x y : Int) : Bool := (x == y)
def cel4 (x : Bool) : List AV := [.v (.bool x)]
def enc4 (x : Bool) : TV τ := .bool x
def dec4 (x : TV τ) : Option (Bool) := dBool x
def beq4 (x y : Bool) : Bool := (x == y)
def cel5 (x : Int) : List AV := [.v (.int .u8 x)]
def enc5 (x : Int) : TV τ := .int .u8 x
def dec5 (x : TV τ) : Option (Int) := dInt .u8 x
def beq5 (x y : Int) : Bool := (x == y)
def cel9 (x : List UInt8) : List AV := [.v (.string ⟨⟨x⟩⟩)]
def enc9 (x : List UInt8) : TV τ := .str x
def dec9 (x : TV τ) : Option (List UInt8) := dStr x
def beq9 (x y : List UInt8) : Bool := (x == y)
def cel12 (x : Int) : List AV := [.v (.int .u64 x)]
def enc12 (x : Int) : TV τ := .int .u64 x
def dec12 (x : TV τ) : Option (Int) := dInt .u64 x
def beq12 (x y : Int) : Bool := (x == y)
def cel21 (x : Int) : List AV := [.v (.int .i32 x)]
def enc21 (x : Int) : TV τ := .int .i32 x
def dec21 (x : TV τ) : Option (Int) := dInt .i32 x
def beq21 (x y : Int) : Bool := (x == y)
def cel22 (x : GAddr) : List AV := (cel3 x.Group ++ (cel3 x.Replica ++ []))
def enc22 (x : GAddr) : TV τ := .agg [enc3 x.Group, enc3 x.Replica]
def dec22 (x : TV τ) : Option (GAddr) := (match x with | .agg [x0, x1] => (match dec3 x0 with | some a0 => (match dec3 x1 with | some a1 => some ⟨a0, a1⟩ | none => none) | none => none) | _ => none)
def beq22 (x y : GAddr) : Bool := (beq3 x.Group y.Group && (beq3 x.Replica y.Replica && true))
def cel23 (x : GAddr) : List AV := (cel3 x.Group ++ (cel3 x.Replica ++ []))
def enc23 (x : GAddr) : TV τ := .agg [enc3 x.Group, enc3 x.Replica]
def dec23 (x : TV τ) : Option (GAddr) := (match x with | .agg [x0, x1] => (match dec3 x0 with | some a0 => (match dec3 x1 with | some a1 => some ⟨a0, a1⟩ | none => none) | none => none) | _ => none)
def beq23 (x y : GAddr) : Bool := (beq3 x.Group y.Group && (beq3 x.Replica y.Replica && true))
def cel24 (x : zq) : List AV := (cel2 x.Round ++ (cel3 x.Replica ++ []))
def enc24 (x : zq) : TV τ := .agg [enc2 x.Round, enc3 x.Replica]
def dec24 (x : TV τ) : Option (zq) := (match x with | .agg [x0, x1] => (match dec2 x0 with | some a0 => (match dec3 x1 with | some a1 => some ⟨a0, a1⟩ | none => none) | none => none) | _ => none)
def beq24 (x y : zq) : Bool := (beq2 x.Round y.Round && (beq3 x.Replica y.Replica && true))
def cel25 (x : zq) : List AV := (cel2 x.Round ++ (cel3 x.Replica ++ []))
def enc25 (x : zq) : TV τ := .agg [enc2 x.Round, enc3 x.Replica]
def dec25 (x : TV τ) : Option (zq) := (match x with | .agg [x0, x1] => (match dec2 x0 with | some a0 => (match dec3 x1 with | some a1 => some ⟨a0, a1⟩ | none => none) | none => none) | _ => none)
def beq25 (x y : zq) : Bool := (beq2 x.Round y.Round && (beq3 x.Replica y.Replica && true))
def cel28 (x : zx) : List AV := (cel2 x.Time ++ (cel3 x.Site ++ []))
def enc28 (x : zx) : TV τ := .agg [enc2 x.Time, enc3 x.Site]
def dec28 (x : TV τ) : Option (zx) := (match x with | .agg [x0, x1] => (match dec2 x0 with | some a0 => (match dec3 x1 with | some a1 => some ⟨a0, a1⟩ | none => none) | none => none) | _ => none)
def beq28 (x y : zx) : Bool := (beq2 x.Time y.Time && (beq3 x.Site y.Site && true))
def cel30 (x : GOp) : List AV := (cel28 x.Stamp ++ (cel3 x.Kind ++ (cel2 x.Node ++ (cel2 x.Parent ++ (cel9 x.Name ++ (cel9 x.Key ++ (cel9 x.Value ++ [])))))))
def enc30 (x : GOp) : TV τ := .agg [enc28 x.Stamp, enc3 x.Kind, enc2 x.Node, enc2 x.Parent, enc9 x.Name, enc9 x.Key, enc9 x.Value]
def dec30 (x : TV τ) : Option (GOp) := (match x with | .agg [x0, x1, x2, x3, x4, x5, x6] => (match dec28 x0 with | some a0 => (match dec3 x1 with | some a1 => (match dec2 x2 with | some a2 => (match dec2 x3 with | some a3 => (match dec9 x4 with | some a4 => (match dec9 x5 with | some a5 => (match dec9 x6 with | some a6 => some ⟨a0, a1, a2, a3, a4, a5, a6⟩ | none => none) | none => none) | none => none) | none => none) | none => none) | none => none) | none => none) | _ => none)
def beq30 (x y : GOp) : Bool := (beq28 x.Stamp y.Stamp && (beq3 x.Kind y.Kind && (beq2 x.Node y.Node && (beq2 x.Parent y.Parent && (beq9 x.Name y.Name && (beq9 x.Key y.Key && (beq9 x.Value y.Value && true)))))))
def cel31 (x : List (GOp)) : List AV := [.asl 8 (x.map cel30)]
def enc31 (x : List (GOp)) : TV τ := .sl 30 x .any
def dec31 (x : TV τ) : Option (List (GOp)) := dSl 30 x
def cel32 (x : Vector (Int) 8) : List AV := x.toList.flatMap cel3
def enc32 (x : Vector (Int) 8) : TV τ := .arr 3 8 x
def dec32 (x : TV τ) : Option (Vector (Int) 8) := dArr 3 8 x
def beq32 (x y : Vector (Int) 8) : Bool := vbeq beq3 x y
def cel34 (x : Vector (Int) 8) : List AV := x.toList.flatMap cel2
def enc34 (x : Vector (Int) 8) : TV τ := .arr 2 8 x
def dec34 (x : TV τ) : Option (Vector (Int) 8) := dArr 2 8 x
def beq34 (x y : Vector (Int) 8) : Bool := vbeq beq2 x y
def cel36 (x : za) : List AV := (cel2 x.Number ++ (cel32 x.States ++ (cel34 x.Seals ++ (cel32 x.Sponsor ++ []))))
def enc36 (x : za) : TV τ := .agg [enc2 x.Number, enc32 x.States, enc34 x.Seals, enc32 x.Sponsor]
def dec36 (x : TV τ) : Option (za) := (match x with | .agg [x0, x1, x2, x3] => (match dec2 x0 with | some a0 => (match dec32 x1 with | some a1 => (match dec34 x2 with | some a2 => (match dec32 x3 with | some a3 => some ⟨a0, a1, a2, a3⟩ | none => none) | none => none) | none => none) | none => none) | _ => none)
def beq36 (x y : za) : Bool := (beq2 x.Number y.Number && (beq32 x.States y.States && (beq34 x.Seals y.Seals && (beq32 x.Sponsor y.Sponsor && true))))
def cel37 (x : List (Int)) : List AV := [.asl 1 (x.map cel5)]
def enc37 (x : List (Int)) : TV τ := .sl 5 x .any
def dec37 (x : TV τ) : Option (List (Int)) := dSl 5 x
def cel39 (x : GPart) : List AV := (cel2 x.Snap ++ (cel3 x.Index ++ (cel3 x.Many ++ (cel37 x.Data ++ []))))
def enc39 (x : GPart) : TV τ := .agg [enc2 x.Snap, enc3 x.Index, enc3 x.Many, enc37 x.Data]
def dec39 (x : TV τ) : Option (GPart) := (match x with | .agg [x0, x1, x2, x3] => (match dec2 x0 with | some a0 => (match dec3 x1 with | some a1 => (match dec3 x2 with | some a2 => (match dec37 x3 with | some a3 => some ⟨a0, a1, a2, a3⟩ | none => none) | none => none) | none => none) | none => none) | _ => none)
def cel41 (x : zd) : List AV := (cel3 x.Kind ++ (cel2 x.Session ++ (cel2 x.Request ++ (cel30 x.Op ++ (cel3 x.Origin ++ (cel2 x.Seq ++ (cel31 x.Ops ++ (cel36 x.Epoch ++ (cel3 x.From ++ (cel34 x.Vector_ ++ (cel2 x.Clock ++ (cel39 x.Part ++ (cel3 x.Site ++ (cel3 x.Sponsor ++ (cel2 x.Length ++ [])))))))))))))))
def enc41 (x : zd) : TV τ := .agg [enc3 x.Kind, enc2 x.Session, enc2 x.Request, enc30 x.Op, enc3 x.Origin, enc2 x.Seq, enc31 x.Ops, enc36 x.Epoch, enc3 x.From, enc34 x.Vector_, enc2 x.Clock, enc39 x.Part, enc3 x.Site, enc3 x.Sponsor, enc2 x.Length]
def dec41 (x : TV τ) : Option (zd) := (match x with | .agg [x0, x1, x2, x3, x4, x5, x6, x7, x8, x9, x10, x11, x12, x13, x14] => (match dec3 x0 with | some a0 => (match dec2 x1 with | some a1 => (match dec2 x2 with | some a2 => (match dec30 x3 with | some a3 => (match dec3 x4 with | some a4 => (match dec2 x5 with | some a5 => (match dec31 x6 with | some a6 => (match dec36 x7 with | some a7 => (match dec3 x8 with | some a8 => (match dec34 x9 with | some a9 => (match dec2 x10 with | some a10 => (match dec39 x11 with | some a11 => (match dec3 x12 with | some a12 => (match dec3 x13 with | some a13 => (match dec2 x14 with | some a14 => some ⟨a0, a1, a2, a3, a4, a5, a6, a7, a8, a9, a10, a11, a12, a13, a14⟩ | none => none) | none => none) | none => none) | none => none) | none => none) | none => none) | none => none) | none => none) | none => none) | none => none) | none => none) | none => none) | none => none) | none => none) | none => none) | _ => none)
def cel155 (x : zv) : List AV := (cel2 x.Slot ++ (cel25 x.Ballot ++ (cel41 x.Entry ++ [])))
def enc155 (x : zv) : TV τ := .agg [enc2 x.Slot, enc25 x.Ballot, enc41 x.Entry]
def zzd (x : TV τ) : Option (zv) := (match x with | .agg [x0, x1, x2] => (match dec2 x0 with | some a0 => (match dec25 x1 with | some a1 => (match dec41 x2 with | some a2 => some ⟨a0, a1, a2⟩ | none => none) | none => none) | none => none) | _ => none)
def cel26 (x : List (zv)) : List AV := [.asl 59 (x.map cel155)]
def enc26 (x : List (zv)) : TV τ := .sl 155 x .any
def dec26 (x : TV τ) : Option (List (zv)) := dSl 155 x
def cel27 (x : zx) : List AV := (cel2 x.Time ++ (cel3 x.Site ++ []))
def enc27 (x : zx) : TV τ := .agg [enc2 x.Time, enc3 x.Site]
def dec27 (x : TV τ) : Option (zx) := (match x with | .agg [x0, x1] => (match dec2 x0 with | some a0 => (match dec3 x1 with | some a1 => some ⟨a0, a1⟩ | none => none) | none => none) | _ => none)
def beq27 (x y : zx) : Bool := (beq2 x.Time y.Time && (beq3 x.Site y.Site && true))
def cel29 (x : GOp) : List AV := (cel28 x.Stamp ++ (cel3 x.Kind ++ (cel2 x.Node ++ (cel2 x.Parent ++ (cel9 x.Name ++ (cel9 x.Key ++ (cel9 x.Value ++ [])))))))
def enc29 (x : GOp) : TV τ := .agg [enc28 x.Stamp, enc3 x.Kind, enc2 x.Node, enc2 x.Parent, enc9 x.Name, enc9 x.Key, enc9 x.Value]
def dec29 (x : TV τ) : Option (GOp) := (match x with | .agg [x0, x1, x2, x3, x4, x5, x6] => (match dec28 x0 with | some a0 => (match dec3 x1 with | some a1 => (match dec2 x2 with | some a2 => (match dec2 x3 with | some a3 => (match dec9 x4 with | some a4 => (match dec9 x5 with | some a5 => (match dec9 x6 with | some a6 => some ⟨a0, a1, a2, a3, a4, a5, a6⟩ | none => none) | none => none) | none => none) | none => none) | none => none) | none => none) | none => none) | _ => none)
def beq29 (x y : GOp) : Bool := (beq28 x.Stamp y.Stamp && (beq3 x.Kind y.Kind && (beq2 x.Node y.Node && (beq2 x.Parent y.Parent && (beq9 x.Name y.Name && (beq9 x.Key y.Key && (beq9 x.Value y.Value && true)))))))
def cel33 (x : Vector (Int) 8) : List AV := x.toList.flatMap cel2
def enc33 (x : Vector (Int) 8) : TV τ := .arr 2 8 x
def dec33 (x : TV τ) : Option (Vector (Int) 8) := dArr 2 8 x
def beq33 (x y : Vector (Int) 8) : Bool := vbeq beq2 x y
def cel35 (x : za) : List AV := (cel2 x.Number ++ (cel32 x.States ++ (cel34 x.Seals ++ (cel32 x.Sponsor ++ []))))
def enc35 (x : za) : TV τ := .agg [enc2 x.Number, enc32 x.States, enc34 x.Seals, enc32 x.Sponsor]
def dec35 (x : TV τ) : Option (za) := (match x with | .agg [x0, x1, x2, x3] => (match dec2 x0 with | some a0 => (match dec32 x1 with | some a1 => (match dec34 x2 with | some a2 => (match dec32 x3 with | some a3 => some ⟨a0, a1, a2, a3⟩ | none => none) | none => none) | none => none) | none => none) | _ => none)
def beq35 (x y : za) : Bool := (beq2 x.Number y.Number && (beq32 x.States y.States && (beq34 x.Seals y.Seals && (beq32 x.Sponsor y.Sponsor && true))))
def cel38 (x : GPart) : List AV := (cel2 x.Snap ++ (cel3 x.Index ++ (cel3 x.Many ++ (cel37 x.Data ++ []))))
def enc38 (x : GPart) : TV τ := .agg [enc2 x.Snap, enc3 x.Index, enc3 x.Many, enc37 x.Data]
def dec38 (x : TV τ) : Option (GPart) := (match x with | .agg [x0, x1, x2, x3] => (match dec2 x0 with | some a0 => (match dec3 x1 with | some a1 => (match dec3 x2 with | some a2 => (match dec37 x3 with | some a3 => some ⟨a0, a1, a2, a3⟩ | none => none) | none => none) | none => none) | none => none) | _ => none)
def cel40 (x : zd) : List AV := (cel3 x.Kind ++ (cel2 x.Session ++ (cel2 x.Request ++ (cel30 x.Op ++ (cel3 x.Origin ++ (cel2 x.Seq ++ (cel31 x.Ops ++ (cel36 x.Epoch ++ (cel3 x.From ++ (cel34 x.Vector_ ++ (cel2 x.Clock ++ (cel39 x.Part ++ (cel3 x.Site ++ (cel3 x.Sponsor ++ (cel2 x.Length ++ [])))))))))))))))
def enc40 (x : zd) : TV τ := .agg [enc3 x.Kind, enc2 x.Session, enc2 x.Request, enc30 x.Op, enc3 x.Origin, enc2 x.Seq, enc31 x.Ops, enc36 x.Epoch, enc3 x.From, enc34 x.Vector_, enc2 x.Clock, enc39 x.Part, enc3 x.Site, enc3 x.Sponsor, enc2 x.Length]
def dec40 (x : TV τ) : Option (zd) := (match x with | .agg [x0, x1, x2, x3, x4, x5, x6, x7, x8, x9, x10, x11, x12, x13, x14] => (match dec3 x0 with | some a0 => (match dec2 x1 with | some a1 => (match dec2 x2 with | some a2 => (match dec30 x3 with | some a3 => (match dec3 x4 with | some a4 => (match dec2 x5 with | some a5 => (match dec31 x6 with | some a6 => (match dec36 x7 with | some a7 => (match dec3 x8 with | some a8 => (match dec34 x9 with | some a9 => (match dec2 x10 with | some a10 => (match dec39 x11 with | some a11 => (match dec3 x12 with | some a12 => (match dec3 x13 with | some a13 => (match dec2 x14 with | some a14 => some ⟨a0, a1, a2, a3, a4, a5, a6, a7, a8, a9, a10, a11, a12, a13, a14⟩ | none => none) | none => none) | none => none) | none => none) | none => none) | none => none) | none => none) | none => none) | none => none) | none => none) | none => none) | none => none) | none => none) | none => none) | none => none) | _ => none)
def cel42 (x : GMsg) : List AV := (cel3 x.Kind ++ (cel23 x.From ++ (cel23 x.To ++ (cel25 x.Ballot ++ (cel2 x.Slot ++ (cel26 x.List_ ++ (cel41 x.Entry ++ (cel2 x.Number ++ (cel34 x.Vector_ ++ (cel2 x.Clock ++ (cel3 x.Origin ++ (cel31 x.Ops ++ (cel36 x.Epoch ++ (cel39 x.Part ++ []))))))))))))))
def enc42 (x : GMsg) : TV τ := .agg [enc3 x.Kind, enc23 x.From, enc23 x.To, enc25 x.Ballot, enc2 x.Slot, enc26 x.List_, enc41 x.Entry, enc2 x.Number, enc34 x.Vector_, enc2 x.Clock, enc3 x.Origin, enc31 x.Ops, enc36 x.Epoch, enc39 x.Part]
def dec42 (x : TV τ) : Option (GMsg) := (match x with | .agg [x0, x1, x2, x3, x4, x5, x6, x7, x8, x9, x10, x11, x12, x13] => (match dec3 x0 with | some a0 => (match dec23 x1 with | some a1 => (match dec23 x2 with | some a2 => (match dec25 x3 with | some a3 => (match dec2 x4 with | some a4 => (match dec26 x5 with | some a5 => (match dec41 x6 with | some a6 => (match dec2 x7 with | some a7 => (match dec34 x8 with | some a8 => (match dec2 x9 with | some a9 => (match dec3 x10 with | some a10 => (match dec31 x11 with | some a11 => (match dec36 x12 with | some a12 => (match dec39 x13 with | some a13 => some ⟨a0, a1, a2, a3, a4, a5, a6, a7, a8, a9, a10, a11, a12, a13⟩ | none => none) | none => none) | none => none) | none => none) | none => none) | none => none) | none => none) | none => none) | none => none) | none => none) | none => none) | none => none) | none => none) | none => none) | _ => none)
def cel43 (x : GMsg) : List AV := (cel3 x.Kind ++ (cel23 x.From ++ (cel23 x.To ++ (cel25 x.Ballot ++ (cel2 x.Slot ++ (cel26 x.List_ ++ (cel41 x.Entry ++ (cel2 x.Number ++ (cel34 x.Vector_ ++ (cel2 x.Clock ++ (cel3 x.Origin ++ (cel31 x.Ops ++ (cel36 x.Epoch ++ (cel39 x.Part ++ []))))))))))))))
def enc43 (x : GMsg) : TV τ := .agg [enc3 x.Kind, enc23 x.From, enc23 x.To, enc25 x.Ballot, enc2 x.Slot, enc26 x.List_, enc41 x.Entry, enc2 x.Number, enc34 x.Vector_, enc2 x.Clock, enc3 x.Origin, enc31 x.Ops, enc36 x.Epoch, enc39 x.Part]
def dec43 (x : TV τ) : Option (GMsg) := (match x with | .agg [x0, x1, x2, x3, x4, x5, x6, x7, x8, x9, x10, x11, x12, x13] => (match dec3 x0 with | some a0 => (match dec23 x1 with | some a1 => (match dec23 x2 with | some a2 => (match dec25 x3 with | some a3 => (match dec2 x4 with | some a4 => (match dec26 x5 with | some a5 => (match dec41 x6 with | some a6 => (match dec2 x7 with | some a7 => (match dec34 x8 with | some a8 => (match dec2 x9 with | some a9 => (match dec3 x10 with | some a10 => (match dec31 x11 with | some a11 => (match dec36 x12 with | some a12 => (match dec39 x13 with | some a13 => some ⟨a0, a1, a2, a3, a4, a5, a6, a7, a8, a9, a10, a11, a12, a13⟩ | none => none) | none => none) | none => none) | none => none) | none => none) | none => none) | none => none) | none => none) | none => none) | none => none) | none => none) | none => none) | none => none) | none => none) | _ => none)
def cel44 (x : Int) : List AV := [.v (.int .u16 x)]
def enc44 (x : Int) : TV τ := .int .u16 x
def dec44 (x : TV τ) : Option (Int) := dInt .u16 x
def beq44 (x y : Int) : Bool := (x == y)
def cel48 (x : Int) : List AV := [.v (.int .i64 x)]
def enc48 (x : Int) : TV τ := .int .i64 x
def dec48 (x : TV τ) : Option (Int) := dInt .i64 x
def beq48 (x y : Int) : Bool := (x == y)
def cel59 (x : List (GMsg)) : List AV := [.asl 106 (x.map cel43)]
def enc59 (x : List (GMsg)) : TV τ := .sl 43 x .any
def dec59 (x : TV τ) : Option (List (GMsg)) := dSl 43 x
def cel60 (x : List (Int)) : List AV := [.asl 1 (x.map cel2)]
def enc60 (x : List (Int)) : TV τ := .sl 2 x .any
def dec60 (x : TV τ) : Option (List (Int)) := dSl 2 x
def cel64 (x : GSent) : List AV := (cel2 x.Number ++ (cel23 x.From ++ (cel23 x.To ++ (cel37 x.Data ++ []))))
def enc64 (x : GSent) : TV τ := .agg [enc2 x.Number, enc23 x.From, enc23 x.To, enc37 x.Data]
def dec64 (x : TV τ) : Option (GSent) := (match x with | .agg [x0, x1, x2, x3] => (match dec2 x0 with | some a0 => (match dec23 x1 with | some a1 => (match dec23 x2 with | some a2 => (match dec37 x3 with | some a3 => some ⟨a0, a1, a2, a3⟩ | none => none) | none => none) | none => none) | none => none) | _ => none)
def cel65 (x : GSent) : List AV := (cel2 x.Number ++ (cel23 x.From ++ (cel23 x.To ++ (cel37 x.Data ++ []))))
def enc65 (x : GSent) : TV τ := .agg [enc2 x.Number, enc23 x.From, enc23 x.To, enc37 x.Data]
def dec65 (x : TV τ) : Option (GSent) := (match x with | .agg [x0, x1, x2, x3] => (match dec2 x0 with | some a0 => (match dec23 x1 with | some a1 => (match dec23 x2 with | some a2 => (match dec37 x3 with | some a3 => some ⟨a0, a1, a2, a3⟩ | none => none) | none => none) | none => none) | none => none) | _ => none)
def cel70 (x : List (GAddr)) : List AV := [.asl 2 (x.map cel23)]
def enc70 (x : List (GAddr)) : TV τ := .sl 23 x .any
def dec70 (x : TV τ) : Option (List (GAddr)) := dSl 23 x
def cel72 (x : zy) : List AV := (cel3 x.Kind ++ (cel59 x.Msgs ++ (cel2 x.Number ++ (cel3 x.Place ++ (cel5 x.With ++ (cel70 x.Addrs ++ (cel3 x.Stop ++ [])))))))
def enc72 (x : zy) : TV τ := .agg [enc3 x.Kind, enc59 x.Msgs, enc2 x.Number, enc3 x.Place, enc5 x.With, enc70 x.Addrs, enc3 x.Stop]
def dec72 (x : TV τ) : Option (zy) := (match x with | .agg [x0, x1, x2, x3, x4, x5, x6] => (match dec3 x0 with | some a0 => (match dec59 x1 with | some a1 => (match dec2 x2 with | some a2 => (match dec3 x3 with | some a3 => (match dec5 x4 with | some a4 => (match dec70 x5 with | some a5 => (match dec3 x6 with | some a6 => some ⟨a0, a1, a2, a3, a4, a5, a6⟩ | none => none) | none => none) | none => none) | none => none) | none => none) | none => none) | none => none) | _ => none)
def cel69 (x : List (zy)) : List AV := [.asl 7 (x.map cel72)]
def enc69 (x : List (zy)) : TV τ := .sl 72 x .any
def dec69 (x : TV τ) : Option (List (zy)) := dSl 72 x
def cel71 (x : zy) : List AV := (cel3 x.Kind ++ (cel59 x.Msgs ++ (cel2 x.Number ++ (cel3 x.Place ++ (cel5 x.With ++ (cel70 x.Addrs ++ (cel3 x.Stop ++ [])))))))
def enc71 (x : zy) : TV τ := .agg [enc3 x.Kind, enc59 x.Msgs, enc2 x.Number, enc3 x.Place, enc5 x.With, enc70 x.Addrs, enc3 x.Stop]
def dec71 (x : TV τ) : Option (zy) := (match x with | .agg [x0, x1, x2, x3, x4, x5, x6] => (match dec3 x0 with | some a0 => (match dec59 x1 with | some a1 => (match dec2 x2 with | some a2 => (match dec3 x3 with | some a3 => (match dec5 x4 with | some a4 => (match dec70 x5 with | some a5 => (match dec3 x6 with | some a6 => some ⟨a0, a1, a2, a3, a4, a5, a6⟩ | none => none) | none => none) | none => none) | none => none) | none => none) | none => none) | none => none) | _ => none)
def cel75 (x : List (GSent)) : List AV := [.asl 6 (x.map cel65)]
def enc75 (x : List (GSent)) : TV τ := .sl 65 x .any
def dec75 (x : TV τ) : Option (List (GSent)) := dSl 65 x
def cel76 (x : z18) : List AV := (cel75 x.L ++ (cel2 x.Last ++ []))
def enc76 (x : z18) : TV τ := .agg [enc75 x.L, enc2 x.Last]
def dec76 (x : TV τ) : Option (z18) := (match x with | .agg [x0, x1] => (match dec75 x0 with | some a0 => (match dec2 x1 with | some a1 => some ⟨a0, a1⟩ | none => none) | none => none) | _ => none)
def cel77 (x : z18) : List AV := (cel75 x.L ++ (cel2 x.Last ++ []))
def enc77 (x : z18) : TV τ := .agg [enc75 x.L, enc2 x.Last]
def dec77 (x : TV τ) : Option (z18) := (match x with | .agg [x0, x1] => (match dec75 x0 with | some a0 => (match dec2 x1 with | some a1 => some ⟨a0, a1⟩ | none => none) | none => none) | _ => none)
def cel79 (x : z2e) : List AV := (cel75 x.wait ++ (cel2 x.last ++ []))
def enc79 (x : z2e) : TV τ := .agg [enc75 x.wait, enc2 x.last]
def dec79 (x : TV τ) : Option (z2e) := (match x with | .agg [x0, x1] => (match dec75 x0 with | some a0 => (match dec2 x1 with | some a1 => some ⟨a0, a1⟩ | none => none) | none => none) | _ => none)
def cel80 (x : z2e) : List AV := (cel75 x.wait ++ (cel2 x.last ++ []))
def enc80 (x : z2e) : TV τ := .agg [enc75 x.wait, enc2 x.last]
def dec80 (x : TV τ) : Option (z2e) := (match x with | .agg [x0, x1] => (match dec75 x0 with | some a0 => (match dec2 x1 with | some a1 => some ⟨a0, a1⟩ | none => none) | none => none) | _ => none)
def cel81 (x : z1o) : List AV := (cel80 x.queue ++ (cel4 x.made ++ []))
def enc81 (x : z1o) : TV τ := .agg [enc80 x.queue, enc4 x.made]
def dec81 (x : TV τ) : Option (z1o) := (match x with | .agg [x0, x1] => (match dec80 x0 with | some a0 => (match dec4 x1 with | some a1 => some ⟨a0, a1⟩ | none => none) | none => none) | _ => none)
def cel82 (x : z1o) : List AV := (cel80 x.queue ++ (cel4 x.made ++ []))
def enc82 (x : z1o) : TV τ := .agg [enc80 x.queue, enc4 x.made]
def dec82 (x : TV τ) : Option (z1o) := (match x with | .agg [x0, x1] => (match dec80 x0 with | some a0 => (match dec4 x1 with | some a1 => some ⟨a0, a1⟩ | none => none) | none => none) | _ => none)
def cel138 (x : Int) : List AV := [.v (.int .u32 x)]
def enc138 (x : Int) : TV τ := .int .u32 x
def dec138 (x : TV τ) : Option (Int) := dInt .u32 x
def beq138 (x y : Int) : Bool := (x == y)
def cel140 (x : Int) : List AV := [.v (.int .u64 x)]
def enc140 (x : Int) : TV τ := .int .u64 x
def dec140 (x : TV τ) : Option (Int) := dInt .u64 x
def beq140 (x y : Int) : Bool := (x == y)
def cel154 (x : zv) : List AV := (cel2 x.Slot ++ (cel25 x.Ballot ++ (cel41 x.Entry ++ [])))
def enc154 (x : zv) : TV τ := .agg [enc2 x.Slot, enc25 x.Ballot, enc41 x.Entry]
def zze (x : TV τ) : Option (zv) := (match x with | .agg [x0, x1, x2] => (match dec2 x0 with | some a0 => (match dec25 x1 with | some a1 => (match dec41 x2 with | some a2 => some ⟨a0, a1, a2⟩ | none => none) | none => none) | none => none) | _ => none)
def cel165 (x : z4) : List AV := (cel4 x.made ++ (cel37 x.b ++ []))
def enc165 (x : z4) : TV τ := .agg [enc4 x.made, enc37 x.b]
def zzf (x : TV τ) : Option (z4) := (match x with | .agg [x0, x1] => (match dec4 x0 with | some a0 => (match dec37 x1 with | some a1 => some ⟨a0, a1⟩ | none => none) | none => none) | _ => none)
def cel166 (x : z4) : List AV := (cel4 x.made ++ (cel37 x.b ++ []))
def enc166 (x : z4) : TV τ := .agg [enc4 x.made, enc37 x.b]
def zzg (x : TV τ) : Option (z4) := (match x with | .agg [x0, x1] => (match dec4 x0 with | some a0 => (match dec37 x1 with | some a1 => some ⟨a0, a1⟩ | none => none) | none => none) | _ => none)
def cel186 (x : z4) : List AV := (cel4 x.made ++ (cel37 x.b ++ []))
def enc186 (x : z4) : TV τ := .agg [enc4 x.made, enc37 x.b]
def zzh (x : TV τ) : Option (z4) := (match x with | .agg [x0, x1] => (match dec4 x0 with | some a0 => (match dec37 x1 with | some a1 => some ⟨a0, a1⟩ | none => none) | none => none) | _ => none)
def cel192 (x : z10) : List AV := (cel37 x.B ++ (cel3 x.At ++ (cel48 x.E ++ [])))
def enc192 (x : z10) : TV τ := .agg [enc37 x.B, enc3 x.At, enc48 x.E]
def zzi (x : TV τ) : Option (z10) := (match x with | .agg [x0, x1, x2] => (match dec37 x0 with | some a0 => (match dec3 x1 with | some a1 => (match dec48 x2 with | some a2 => some ⟨a0, a1, a2⟩ | none => none) | none => none) | none => none) | _ => none)
def cel193 (x : z10) : List AV := (cel37 x.B ++ (cel3 x.At ++ (cel48 x.E ++ [])))
def enc193 (x : z10) : TV τ := .agg [enc37 x.B, enc3 x.At, enc48 x.E]
def zzj (x : TV τ) : Option (z10) := (match x with | .agg [x0, x1, x2] => (match dec37 x0 with | some a0 => (match dec3 x1 with | some a1 => (match dec48 x2 with | some a2 => some ⟨a0, a1, a2⟩ | none => none) | none => none) | none => none) | _ => none)
def cel194 (x : List (Int)) : List AV := [.asl 1 (x.map cel3)]
def enc194 (x : List (Int)) : TV τ := .sl 3 x .any
def dec194 (x : TV τ) : Option (List (Int)) := dSl 3 x
def cel201 (x : List (List (Int))) : List AV := [.asl 1 (x.map cel37)]
def enc201 (x : List (List (Int))) : TV τ := .sl 37 x .any
def dec201 (x : TV τ) : Option (List (List (Int))) := dSl 37 x
def cel203 (x : Int) : List AV := [.v (.int .u64 x)]
def enc203 (x : Int) : TV τ := .int .u64 x
def dec203 (x : TV τ) : Option (Int) := dInt .u64 x
def beq203 (x y : Int) : Bool := (x == y)
def cel229 (x : List (List UInt8)) : List AV := [.asl 1 (x.map cel9)]
def enc229 (x : List (List UInt8)) : TV τ := .sl 9 x .any
def dec229 (x : TV τ) : Option (List (List UInt8)) := dSl 9 x
def celT : (t : Nat) → τ t → List AV
  | 2 => cel2
  | 3 => cel3
  | 4 => cel4
  | 5 => cel5
  | 9 => cel9
  | 12 => cel12
  | 21 => cel21
  | 22 => cel22
  | 23 => cel23
  | 24 => cel24
  | 25 => cel25
  | 26 => cel26
  | 27 => cel27
  | 28 => cel28
  | 29 => cel29
  | 30 => cel30
  | 31 => cel31
  | 32 => cel32
  | 33 => cel33
  | 34 => cel34
  | 35 => cel35
  | 36 => cel36
  | 37 => cel37
  | 38 => cel38
  | 39 => cel39
  | 40 => cel40
  | 41 => cel41
  | 42 => cel42
  | 43 => cel43
  | 44 => cel44
  | 48 => cel48
  | 59 => cel59
  | 60 => cel60
  | 64 => cel64
  | 65 => cel65
  | 69 => cel69
  | 70 => cel70
  | 71 => cel71
  | 72 => cel72
  | 75 => cel75
  | 76 => cel76
  | 77 => cel77
  | 79 => cel79
  | 80 => cel80
  | 81 => cel81
  | 82 => cel82
  | 138 => cel138
  | 140 => cel140
  | 154 => cel154
  | 155 => cel155
  | 165 => cel165
  | 166 => cel166
  | 186 => cel186
  | 192 => cel192
  | 193 => cel193
  | 194 => cel194
  | 201 => cel201
  | 203 => cel203
  | 229 => cel229
  | _ => fun _ => []
def encT : (t : Nat) → τ t → TV τ
  | 2 => enc2
  | 3 => enc3
  | 4 => enc4
  | 5 => enc5
  | 9 => enc9
  | 12 => enc12
  | 21 => enc21
  | 22 => enc22
  | 23 => enc23
  | 24 => enc24
  | 25 => enc25
  | 26 => enc26
  | 27 => enc27
  | 28 => enc28
  | 29 => enc29
  | 30 => enc30
  | 31 => enc31
  | 32 => enc32
  | 33 => enc33
  | 34 => enc34
  | 35 => enc35
  | 36 => enc36
  | 37 => enc37
  | 38 => enc38
  | 39 => enc39
  | 40 => enc40
  | 41 => enc41
  | 42 => enc42
  | 43 => enc43
  | 44 => enc44
  | 48 => enc48
  | 59 => enc59
  | 60 => enc60
  | 64 => enc64
  | 65 => enc65
  | 69 => enc69
  | 70 => enc70
  | 71 => enc71
  | 72 => enc72
  | 75 => enc75
  | 76 => enc76
  | 77 => enc77
  | 79 => enc79
  | 80 => enc80
  | 81 => enc81
  | 82 => enc82
  | 138 => enc138
  | 140 => enc140
  | 154 => enc154
  | 155 => enc155
  | 165 => enc165
  | 166 => enc166
  | 186 => enc186
  | 192 => enc192
  | 193 => enc193
  | 194 => enc194
  | 201 => enc201
  | 203 => enc203
  | 229 => enc229
  | _ => fun _ => .agg []
def decT : (t : Nat) → TV τ → Option (τ t)
  | 2 => dec2
  | 3 => dec3
  | 4 => dec4
  | 5 => dec5
  | 9 => dec9
  | 12 => dec12
  | 21 => dec21
  | 22 => dec22
  | 23 => dec23
  | 24 => dec24
  | 25 => dec25
  | 26 => dec26
  | 27 => dec27
  | 28 => dec28
  | 29 => dec29
  | 30 => dec30
  | 31 => dec31
  | 32 => dec32
  | 33 => dec33
  | 34 => dec34
  | 35 => dec35
  | 36 => dec36
  | 37 => dec37
  | 38 => dec38
  | 39 => dec39
  | 40 => dec40
  | 41 => dec41
  | 42 => dec42
  | 43 => dec43
  | 44 => dec44
  | 48 => dec48
  | 59 => dec59
  | 60 => dec60
  | 64 => dec64
  | 65 => dec65
  | 69 => dec69
  | 70 => dec70
  | 71 => dec71
  | 72 => dec72
  | 75 => dec75
  | 76 => dec76
  | 77 => dec77
  | 79 => dec79
  | 80 => dec80
  | 81 => dec81
  | 82 => dec82
  | 138 => dec138
  | 140 => dec140
  | 154 => zze
  | 155 => zzd
  | 165 => zzf
  | 166 => zzg
  | 186 => zzh
  | 192 => zzi
  | 193 => zzj
  | 194 => dec194
  | 201 => dec201
  | 203 => dec203
  | 229 => dec229
  | _ => fun _ => none
theorem dfN (t : Nat) : Nonempty (τ t) := by unfold τ; split <;> exact ⟨default⟩
noncomputable def dfX (t : Nat) : τ t := Classical.choice (dfN t)
noncomputable def dfT : (t : Nat) → τ t
  | 2 => (default : Int)
  | 3 => (default : Int)
  | 4 => (default : Bool)
  | 5 => (default : Int)
  | 9 => (default : List UInt8)
  | 12 => (default : Int)
  | 21 => (default : Int)
  | 22 => (default : GAddr)
  | 23 => (default : GAddr)
  | 24 => (default : zq)
  | 25 => (default : zq)
  | 26 => (default : List (zv))
  | 27 => (default : zx)
  | 28 => (default : zx)
  | 29 => (default : GOp)
  | 30 => (default : GOp)
  | 31 => (default : List (GOp))
  | 32 => (default : Vector (Int) 8)
  | 33 => (default : Vector (Int) 8)
  | 34 => (default : Vector (Int) 8)
  | 35 => (default : za)
  | 36 => (default : za)
  | 37 => (default : List (Int))
  | 38 => (default : GPart)
  | 39 => (default : GPart)
  | 40 => (default : zd)
  | 41 => (default : zd)
  | 42 => (default : GMsg)
  | 43 => (default : GMsg)
  | 44 => (default : Int)
  | 48 => (default : Int)
  | 59 => (default : List (GMsg))
  | 60 => (default : List (Int))
  | 64 => (default : GSent)
  | 65 => (default : GSent)
  | 69 => (default : List (zy))
  | 70 => (default : List (GAddr))
  | 71 => (default : zy)
  | 72 => (default : zy)
  | 75 => (default : List (GSent))
  | 76 => (default : z18)
  | 77 => (default : z18)
  | 79 => (default : z2e)
  | 80 => (default : z2e)
  | 81 => (default : z1o)
  | 82 => (default : z1o)
  | 138 => (default : Int)
  | 140 => (default : Int)
  | 154 => (default : zv)
  | 155 => (default : zv)
  | 165 => (default : z4)
  | 166 => (default : z4)
  | 186 => (default : z4)
  | 192 => (default : z10)
  | 193 => (default : z10)
  | 194 => (default : List (Int))
  | 201 => (default : List (List (Int)))
  | 203 => (default : Int)
  | 229 => (default : List (List UInt8))
  | t => dfX t
def szT : Nat → Nat
  | 2 => 1
  | 3 => 1
  | 4 => 1
  | 5 => 1
  | 9 => 1
  | 12 => 1
  | 21 => 1
  | 22 => 2
  | 23 => 2
  | 24 => 2
  | 25 => 2
  | 26 => 1
  | 27 => 2
  | 28 => 2
  | 29 => 8
  | 30 => 8
  | 31 => 1
  | 32 => 8
  | 33 => 8
  | 34 => 8
  | 35 => 25
  | 36 => 25
  | 37 => 1
  | 38 => 4
  | 39 => 4
  | 40 => 56
  | 41 => 56
  | 42 => 106
  | 43 => 106
  | 44 => 1
  | 48 => 1
  | 59 => 1
  | 60 => 1
  | 64 => 6
  | 65 => 6
  | 69 => 1
  | 70 => 1
  | 71 => 7
  | 72 => 7
  | 75 => 1
  | 76 => 2
  | 77 => 2
  | 79 => 2
  | 80 => 2
  | 81 => 3
  | 82 => 3
  | 138 => 1
  | 140 => 1
  | 154 => 59
  | 155 => 59
  | 165 => 2
  | 166 => 2
  | 186 => 2
  | 192 => 3
  | 193 => 3
  | 194 => 1
  | 201 => 1
  | 203 => 1
  | 229 => 1
  | _ => 0
def kdT : Nat → Option (List Kd)
  | 2 => some [.i]
  | 3 => some [.i]
  | 4 => some [.b]
  | 5 => some [.i]
  | 9 => some [.s]
  | 12 => some [.i]
  | 21 => some [.i]
  | 22 => some [.i, .i]
  | 23 => some [.i, .i]
  | 24 => some [.i, .i]
  | 25 => some [.i, .i]
  | 27 => some [.i, .i]
  | 28 => some [.i, .i]
  | 29 => some [.i, .i, .i, .i, .i, .s, .s, .s]
  | 30 => some [.i, .i, .i, .i, .i, .s, .s, .s]
  | 32 => some [.i, .i, .i, .i, .i, .i, .i, .i]
  | 33 => some [.i, .i, .i, .i, .i, .i, .i, .i]
  | 34 => some [.i, .i, .i, .i, .i, .i, .i, .i]
  | 35 => some [.i, .i, .i, .i, .i, .i, .i, .i, .i, .i, .i, .i, .i, .i, .i, .i, .i, .i, .i, .i, .i, .i, .i, .i, .i]
  | 36 => some [.i, .i, .i, .i, .i, .i, .i, .i, .i, .i, .i, .i, .i, .i, .i, .i, .i, .i, .i, .i, .i, .i, .i, .i, .i]
  | 44 => some [.i]
  | 48 => some [.i]
  | 138 => some [.i]
  | 140 => some [.i]
  | 203 => some [.i]
  | _ => none
def beqT : (t : Nat) → τ t → τ t → Bool
  | 2 => beq2
  | 3 => beq3
  | 4 => beq4
  | 5 => beq5
  | 9 => beq9
  | 12 => beq12
  | 21 => beq21
  | 22 => beq22
  | 23 => beq23
  | 24 => beq24
  | 25 => beq25
  | 27 => beq27
  | 28 => beq28
  | 29 => beq29
  | 30 => beq30
  | 32 => beq32
  | 33 => beq33
  | 34 => beq34
  | 35 => beq35
  | 36 => beq36
  | 44 => beq44
  | 48 => beq48
  | 138 => beq138
  | 140 => beq140
  | 203 => beq203
  | _ => fun _ _ => false
def b2sT : (t : Nat) → List (τ t) → Option (List UInt8)
  | 5 => fun (l : List Int) => some (strI l)
  | _ => fun _ => none
def s2bT : (t : Nat) → List UInt8 → Option (List (τ t))
  | 5 => fun s => some (bytesI s)
  | _ => fun _ => none
noncomputable def siteT : Nat → Nat → Array Tmp × Code × Code := fun f k => bif Nat.beq f 4 then siteFn Tryz.f4 k else bif Nat.beq f 5 then siteFn Tryz.f5 k else bif Nat.beq f 6 then siteFn Tryz.f6 k else bif Nat.beq f 23 then siteFn Tryz.f23 k else (#[], .skip, .skip)
noncomputable def C : Cod τ := ⟨celT, encT, decT, dfT, szT, kdT, beqT, b2sT, s2bT, siteT⟩
theorem law2 : CodAt C 2 := ⟨fun x => rfl, fun x => rfl, fun x a h => by rw [z5p (show dInt .i64 x = some a from h)]; exact .refl _, fun x => rfl, fun x a h => by rw [z5p (show dInt .i64 x = some a from h)]; rfl, fun x a h => by rw [z5p (show dInt .i64 x = some a from h)]; rfl, fun a => rfl, fun a => z1y (NoId.v _), fun ks h a b => by cases h; simp [z19, scal, C, celT, cel2, beqT, beq2], (fun l s h => nomatch h), (fun s l h => nomatch h)⟩
theorem law3 : CodAt C 3 := ⟨fun x => rfl, fun x => rfl, fun x a h => by rw [z5p (show dInt .i64 x = some a from h)]; exact .refl _, fun x => rfl, fun x a h => by rw [z5p (show dInt .i64 x = some a from h)]; rfl, fun x a h => by rw [z5p (show dInt .i64 x = some a from h)]; rfl, fun a => rfl, fun a => z1y (NoId.v _), fun ks h a b => by cases h; simp [z19, scal, C, celT, cel3, beqT, beq3], (fun l s h => nomatch h), (fun s l h => nomatch h)⟩
theorem law4 : CodAt C 4 := ⟨fun x => rfl, fun x => rfl, fun x a h => by rw [z138 (show dBool x = some a from h)]; exact .refl _, fun x => rfl, fun x a h => by rw [z138 (show dBool x = some a from h)]; rfl, fun x a h => by rw [z138 (show dBool x = some a from h)]; rfl, fun a => rfl, fun a => z1y (NoId.v _), fun ks h a b => by cases h; simp [z19, scal, C, celT, cel4, beqT, beq4], (fun l s h => nomatch h), (fun s l h => nomatch h)⟩
theorem law5 : CodAt C 5 := ⟨fun x => rfl, fun x => rfl, fun x a h => by rw [z5p (show dInt .u8 x = some a from h)]; exact .refl _, fun x => rfl, fun x a h => by rw [z5p (show dInt .u8 x = some a from h)]; rfl, fun x a h => by rw [z5p (show dInt .u8 x = some a from h)]; rfl, fun a => rfl, fun a => z1y (NoId.v _), fun ks h a b => by cases h; simp [z19, scal, C, celT, cel5, beqT, beq5], fun l s h => ⟨rfl, (zyr l).trans h⟩, fun s l h => ⟨rfl, by cases h; show (bytesI s).map cel5 = _; simp [bytesI, cel5, zmh]⟩⟩
theorem law9 : CodAt C 9 := ⟨fun x => rfl, fun x => rfl, fun x a h => by rw [dStr_x (show dStr x = some a from h)]; exact .refl _, fun x => rfl, fun x a h => by rw [dStr_x (show dStr x = some a from h)]; rfl, fun x a h => by rw [dStr_x (show dStr x = some a from h)]; rfl, fun a => rfl, fun a => z1y (NoId.v _), fun ks h a b => by cases h; simp [z19, scal, C, celT, cel9, beqT, beq9], (fun l s h => nomatch h), (fun s l h => nomatch h)⟩
theorem law12 : CodAt C 12 := ⟨fun x => rfl, fun x => rfl, fun x a h => by rw [z5p (show dInt .u64 x = some a from h)]; exact .refl _, fun x => rfl, fun x a h => by rw [z5p (show dInt .u64 x = some a from h)]; rfl, fun x a h => by rw [z5p (show dInt .u64 x = some a from h)]; rfl, fun a => rfl, fun a => z1y (NoId.v _), fun ks h a b => by cases h; simp [z19, scal, C, celT, cel12, beqT, beq12], (fun l s h => nomatch h), (fun s l h => nomatch h)⟩
theorem law21 : CodAt C 21 := ⟨fun x => rfl, fun x => rfl, fun x a h => by rw [z5p (show dInt .i32 x = some a from h)]; exact .refl _, fun x => rfl, fun x a h => by rw [z5p (show dInt .i32 x = some a from h)]; rfl, fun x a h => by rw [z5p (show dInt .i32 x = some a from h)]; rfl, fun a => rfl, fun a => z1y (NoId.v _), fun ks h a b => by cases h; simp [z19, scal, C, celT, cel21, beqT, beq21], (fun l s h => nomatch h), (fun s l h => nomatch h)⟩
theorem decx22 {x : TV τ} {a : GAddr} (h : dec22 x = some a) : ∃ x0 x1, x = .agg [x0, x1] ∧ dec3 x0 = some a.Group ∧ dec3 x1 = some a.Replica := by
  unfold dec22 at h
  split at h
  · rename_i x0 x1
    split at h
    · rename_i a0 h0
      split at h
      · rename_i a1 h1
        cases h
        exact ⟨_, _, rfl, h0, h1⟩
      · cases h
    · cases h
  · cases h
theorem law22 : CodAt C 22 := ⟨fun x => by show ((enc3 x.Group).cells C ++ ((enc3 x.Replica).cells C ++ [])) = cel22 x; unfold cel22; exact congr (congrArg (· ++ ·) (law3.cel x.Group)) (congr (congrArg (· ++ ·) (law3.cel x.Replica)) (rfl)), fun x => by show ((cel3 x.Group ++ (cel3 x.Replica ++ []))).length = 2; rw [List.length_append, List.length_append]; have e0 : (cel3 x.Group).length = 1 := law3.len x.Group; have e1 : (cel3 x.Replica).length = 1 := law3.len x.Replica; simp only [e0, e1, List.length_nil], fun x a h => by obtain ⟨x0, x1, rfl, h0, h1⟩ := decx22 (show dec22 x = some a from h); exact CW.append (law3.dec _ _ h0) (CW.append (law3.dec _ _ h1) (CW.refl [])), fun x => by show (((enc3 x.Group).ok && ((enc3 x.Replica).ok && true))) = true; simp only [show (enc3 x.Group).ok = true from law3.ok _, show (enc3 x.Replica).ok = true from law3.ok _, Bool.and_self], fun x a h => by obtain ⟨x0, x1, rfl, h0, h1⟩ := decx22 (show dec22 x = some a from h); show ((x0.ok && (x1.ok && true))) = true; simp only [law3.decok _ _ h0, law3.decok _ _ h1, Bool.and_self], fun x a h => by obtain ⟨x0, x1, rfl, h0, h1⟩ := decx22 (show dec22 x = some a from h); rfl, fun x => by show ((cel3 x.Group ++ (cel3 x.Replica ++ []))).all AV.one = true; simp only [List.all_append, List.all_nil, show (cel3 x.Group).all AV.one = true from law3.one _, show (cel3 x.Replica).all AV.one = true from law3.one _, Bool.and_self], fun x => z6 (law3.noid x.Group) (z6 (law3.noid x.Replica) (trivial)), fun ks h a b => by have := zg (law3.kd _ rfl a.Group b.Group) (zg (law3.kd _ rfl a.Replica b.Replica) ((show z19 [] [] [] = some true from rfl))); cases h; exact this, (fun l s h => nomatch h), (fun s l h => nomatch h)⟩
theorem decx23 {x : TV τ} {a : GAddr} (h : dec23 x = some a) : ∃ x0 x1, x = .agg [x0, x1] ∧ dec3 x0 = some a.Group ∧ dec3 x1 = some a.Replica := by
  unfold dec23 at h
  split at h
  · rename_i x0 x1
    split at h
    · rename_i a0 h0
      split at h
      · rename_i a1 h1
        cases h
        exact ⟨_, _, rfl, h0, h1⟩
      · cases h
    · cases h
  · cases h
theorem law23 : CodAt C 23 := ⟨fun x => by show ((enc3 x.Group).cells C ++ ((enc3 x.Replica).cells C ++ [])) = cel23 x; unfold cel23; exact congr (congrArg (· ++ ·) (law3.cel x.Group)) (congr (congrArg (· ++ ·) (law3.cel x.Replica)) (rfl)), fun x => by show ((cel3 x.Group ++ (cel3 x.Replica ++ []))).length = 2; rw [List.length_append, List.length_append]; have e0 : (cel3 x.Group).length = 1 := law3.len x.Group; have e1 : (cel3 x.Replica).length = 1 := law3.len x.Replica; simp only [e0, e1, List.length_nil], fun x a h => by obtain ⟨x0, x1, rfl, h0, h1⟩ := decx23 (show dec23 x = some a from h); exact CW.append (law3.dec _ _ h0) (CW.append (law3.dec _ _ h1) (CW.refl [])), fun x => by show (((enc3 x.Group).ok && ((enc3 x.Replica).ok && true))) = true; simp only [show (enc3 x.Group).ok = true from law3.ok _, show (enc3 x.Replica).ok = true from law3.ok _, Bool.and_self], fun x a h => by obtain ⟨x0, x1, rfl, h0, h1⟩ := decx23 (show dec23 x = some a from h); show ((x0.ok && (x1.ok && true))) = true; simp only [law3.decok _ _ h0, law3.decok _ _ h1, Bool.and_self], fun x a h => by obtain ⟨x0, x1, rfl, h0, h1⟩ := decx23 (show dec23 x = some a from h); rfl, fun x => by show ((cel3 x.Group ++ (cel3 x.Replica ++ []))).all AV.one = true; simp only [List.all_append, List.all_nil, show (cel3 x.Group).all AV.one = true from law3.one _, show (cel3 x.Replica).all AV.one = true from law3.one _, Bool.and_self], fun x => z6 (law3.noid x.Group) (z6 (law3.noid x.Replica) (trivial)), fun ks h a b => by have := zg (law3.kd _ rfl a.Group b.Group) (zg (law3.kd _ rfl a.Replica b.Replica) ((show z19 [] [] [] = some true from rfl))); cases h; exact this, (fun l s h => nomatch h), (fun s l h => nomatch h)⟩
theorem decx24 {x : TV τ} {a : zq} (h : dec24 x = some a) : ∃ x0 x1, x = .agg [x0, x1] ∧ dec2 x0 = some a.Round ∧ dec3 x1 = some a.Replica := by
  unfold dec24 at h
  split at h
  · rename_i x0 x1
    split at h
    · rename_i a0 h0
      split at h
      · rename_i a1 h1
        cases h
        exact ⟨_, _, rfl, h0, h1⟩
      · cases h
    · cases h
  · cases h
theorem law24 : CodAt C 24 := ⟨fun x => by show ((enc2 x.Round).cells C ++ ((enc3 x.Replica).cells C ++ [])) = cel24 x; unfold cel24; exact congr (congrArg (· ++ ·) (law2.cel x.Round)) (congr (congrArg (· ++ ·) (law3.cel x.Replica)) (rfl)), fun x => by show ((cel2 x.Round ++ (cel3 x.Replica ++ []))).length = 2; rw [List.length_append, List.length_append]; have e0 : (cel2 x.Round).length = 1 := law2.len x.Round; have e1 : (cel3 x.Replica).length = 1 := law3.len x.Replica; simp only [e0, e1, List.length_nil], fun x a h => by obtain ⟨x0, x1, rfl, h0, h1⟩ := decx24 (show dec24 x = some a from h); exact CW.append (law2.dec _ _ h0) (CW.append (law3.dec _ _ h1) (CW.refl [])), fun x => by show (((enc2 x.Round).ok && ((enc3 x.Replica).ok && true))) = true; simp only [show (enc2 x.Round).ok = true from law2.ok _, show (enc3 x.Replica).ok = true from law3.ok _, Bool.and_self], fun x a h => by obtain ⟨x0, x1, rfl, h0, h1⟩ := decx24 (show dec24 x = some a from h); show ((x0.ok && (x1.ok && true))) = true; simp only [law2.decok _ _ h0, law3.decok _ _ h1, Bool.and_self], fun x a h => by obtain ⟨x0, x1, rfl, h0, h1⟩ := decx24 (show dec24 x = some a from h); rfl, fun x => by show ((cel2 x.Round ++ (cel3 x.Replica ++ []))).all AV.one = true; simp only [List.all_append, List.all_nil, show (cel2 x.Round).all AV.one = true from law2.one _, show (cel3 x.Replica).all AV.one = true from law3.one _, Bool.and_self], fun x => z6 (law2.noid x.Round) (z6 (law3.noid x.Replica) (trivial)), fun ks h a b => by have := zg (law2.kd _ rfl a.Round b.Round) (zg (law3.kd _ rfl a.Replica b.Replica) ((show z19 [] [] [] = some true from rfl))); cases h; exact this, (fun l s h => nomatch h), (fun s l h => nomatch h)⟩
theorem decx25 {x : TV τ} {a : zq} (h : dec25 x = some a) : ∃ x0 x1, x = .agg [x0, x1] ∧ dec2 x0 = some a.Round ∧ dec3 x1 = some a.Replica := by
  unfold dec25 at h
  split at h
  · rename_i x0 x1
    split at h
    · rename_i a0 h0
      split at h
      · rename_i a1 h1
        cases h
        exact ⟨_, _, rfl, h0, h1⟩
      · cases h
    · cases h
  · cases h
theorem law25 : CodAt C 25 := ⟨fun x => by show ((enc2 x.Round).cells C ++ ((enc3 x.Replica).cells C ++ [])) = cel25 x; unfold cel25; exact congr (congrArg (· ++ ·) (law2.cel x.Round)) (congr (congrArg (· ++ ·) (law3.cel x.Replica)) (rfl)), fun x => by show ((cel2 x.Round ++ (cel3 x.Replica ++ []))).length = 2; rw [List.length_append, List.length_append]; have e0 : (cel2 x.Round).length = 1 := law2.len x.Round; have e1 : (cel3 x.Replica).length = 1 := law3.len x.Replica; simp only [e0, e1, List.length_nil], fun x a h => by obtain ⟨x0, x1, rfl, h0, h1⟩ := decx25 (show dec25 x = some a from h); exact CW.append (law2.dec _ _ h0) (CW.append (law3.dec _ _ h1) (CW.refl [])), fun x => by show (((enc2 x.Round).ok && ((enc3 x.Replica).ok && true))) = true; simp only [show (enc2 x.Round).ok = true from law2.ok _, show (enc3 x.Replica).ok = true from law3.ok _, Bool.and_self], fun x a h => by obtain ⟨x0, x1, rfl, h0, h1⟩ := decx25 (show dec25 x = some a from h); show ((x0.ok && (x1.ok && true))) = true; simp only [law2.decok _ _ h0, law3.decok _ _ h1, Bool.and_self], fun x a h => by obtain ⟨x0, x1, rfl, h0, h1⟩ := decx25 (show dec25 x = some a from h); rfl, fun x => by show ((cel2 x.Round ++ (cel3 x.Replica ++ []))).all AV.one = true; simp only [List.all_append, List.all_nil, show (cel2 x.Round).all AV.one = true from law2.one _, show (cel3 x.Replica).all AV.one = true from law3.one _, Bool.and_self], fun x => z6 (law2.noid x.Round) (z6 (law3.noid x.Replica) (trivial)), fun ks h a b => by have := zg (law2.kd _ rfl a.Round b.Round) (zg (law3.kd _ rfl a.Replica b.Replica) ((show z19 [] [] [] = some true from rfl))); cases h; exact this, (fun l s h => nomatch h), (fun s l h => nomatch h)⟩
theorem decx28 {x : TV τ} {a : zx} (h : dec28 x = some a) : ∃ x0 x1, x = .agg [x0, x1] ∧ dec2 x0 = some a.Time ∧ dec3 x1 = some a.Site := by
  unfold dec28 at h
  split at h
  · rename_i x0 x1
    split at h
    · rename_i a0 h0
      split at h
      · rename_i a1 h1
        cases h
        exact ⟨_, _, rfl, h0, h1⟩
      · cases h
    · cases h
  · cases h
theorem law28 : CodAt C 28 := ⟨fun x => by show ((enc2 x.Time).cells C ++ ((enc3 x.Site).cells C ++ [])) = cel28 x; unfold cel28; exact congr (congrArg (· ++ ·) (law2.cel x.Time)) (congr (congrArg (· ++ ·) (law3.cel x.Site)) (rfl)), fun x => by show ((cel2 x.Time ++ (cel3 x.Site ++ []))).length = 2; rw [List.length_append, List.length_append]; have e0 : (cel2 x.Time).length = 1 := law2.len x.Time; have e1 : (cel3 x.Site).length = 1 := law3.len x.Site; simp only [e0, e1, List.length_nil], fun x a h => by obtain ⟨x0, x1, rfl, h0, h1⟩ := decx28 (show dec28 x = some a from h); exact CW.append (law2.dec _ _ h0) (CW.append (law3.dec _ _ h1) (CW.refl [])), fun x => by show (((enc2 x.Time).ok && ((enc3 x.Site).ok && true))) = true; simp only [show (enc2 x.Time).ok = true from law2.ok _, show (enc3 x.Site).ok = true from law3.ok _, Bool.and_self], fun x a h => by obtain ⟨x0, x1, rfl, h0, h1⟩ := decx28 (show dec28 x = some a from h); show ((x0.ok && (x1.ok && true))) = true; simp only [law2.decok _ _ h0, law3.decok _ _ h1, Bool.and_self], fun x a h => by obtain ⟨x0, x1, rfl, h0, h1⟩ := decx28 (show dec28 x = some a from h); rfl, fun x => by show ((cel2 x.Time ++ (cel3 x.Site ++ []))).all AV.one = true; simp only [List.all_append, List.all_nil, show (cel2 x.Time).all AV.one = true from law2.one _, show (cel3 x.Site).all AV.one = true from law3.one _, Bool.and_self], fun x => z6 (law2.noid x.Time) (z6 (law3.noid x.Site) (trivial)), fun ks h a b => by have := zg (law2.kd _ rfl a.Time b.Time) (zg (law3.kd _ rfl a.Site b.Site) ((show z19 [] [] [] = some true from rfl))); cases h; exact this, (fun l s h => nomatch h), (fun s l h => nomatch h)⟩
theorem decx30 {x : TV τ} {a : GOp} (h : dec30 x = some a) : ∃ x0 x1 x2 x3 x4 x5 x6, x = .agg [x0, x1, x2, x3, x4, x5, x6] ∧ dec28 x0 = some a.Stamp ∧ dec3 x1 = some a.Kind ∧ dec2 x2 = some a.Node ∧ dec2 x3 = some a.Parent ∧ dec9 x4 = some a.Name ∧ dec9 x5 = some a.Key ∧ dec9 x6 = some a.Value := by
  unfold dec30 at h
  split at h
  · rename_i x0 x1 x2 x3 x4 x5 x6
    split at h
    · rename_i a0 h0
      split at h
      · rename_i a1 h1
        split at h
        · rename_i a2 h2
          split at h
          · rename_i a3 h3
            split at h
            · rename_i a4 h4
              split at h
              · rename_i a5 h5
                split at h
                · rename_i a6 h6
                  cases h
                  exact ⟨_, _, _, _, _, _, _, rfl, h0, h1, h2, h3, h4, h5, h6⟩
                · cases h
              · cases h
            · cases h
          · cases h
        · cases h
      · cases h
    · cases h
  · cases h
theorem law30 : CodAt C 30 := ⟨fun x => by show ((enc28 x.Stamp).cells C ++ ((enc3 x.Kind).cells C ++ ((enc2 x.Node).cells C ++ ((enc2 x.Parent).cells C ++ ((enc9 x.Name).cells C ++ ((enc9 x.Key).cells C ++ ((enc9 x.Value).cells C ++ []))))))) = cel30 x; unfold cel30; exact congr (congrArg (· ++ ·) (law28.cel x.Stamp)) (congr (congrArg (· ++ ·) (law3.cel x.Kind)) (congr (congrArg (· ++ ·) (law2.cel x.Node)) (congr (congrArg (· ++ ·) (law2.cel x.Parent)) (congr (congrArg (· ++ ·) (law9.cel x.Name)) (congr (congrArg (· ++ ·) (law9.cel x.Key)) (congr (congrArg (· ++ ·) (law9.cel x.Value)) (rfl))))))), fun x => by show ((cel28 x.Stamp ++ (cel3 x.Kind ++ (cel2 x.Node ++ (cel2 x.Parent ++ (cel9 x.Name ++ (cel9 x.Key ++ (cel9 x.Value ++ [])))))))).length = 8; rw [List.length_append, List.length_append, List.length_append, List.length_append, List.length_append, List.length_append, List.length_append]; have e0 : (cel28 x.Stamp).length = 2 := law28.len x.Stamp; have e1 : (cel3 x.Kind).length = 1 := law3.len x.Kind; have e2 : (cel2 x.Node).length = 1 := law2.len x.Node; have e3 : (cel2 x.Parent).length = 1 := law2.len x.Parent; have e4 : (cel9 x.Name).length = 1 := law9.len x.Name; have e5 : (cel9 x.Key).length = 1 := law9.len x.Key; have e6 : (cel9 x.Value).length = 1 := law9.len x.Value; simp only [e0, e1, e2, e3, e4, e5, e6, List.length_nil], fun x a h => by obtain ⟨x0, x1, x2, x3, x4, x5, x6, rfl, h0, h1, h2, h3, h4, h5, h6⟩ := decx30 (show dec30 x = some a from h); exact CW.append (law28.dec _ _ h0) (CW.append (law3.dec _ _ h1) (CW.append (law2.dec _ _ h2) (CW.append (law2.dec _ _ h3) (CW.append (law9.dec _ _ h4) (CW.append (law9.dec _ _ h5) (CW.append (law9.dec _ _ h6) (CW.refl []))))))), fun x => by show (((enc28 x.Stamp).ok && ((enc3 x.Kind).ok && ((enc2 x.Node).ok && ((enc2 x.Parent).ok && ((enc9 x.Name).ok && ((enc9 x.Key).ok && ((enc9 x.Value).ok && true)))))))) = true; simp only [show (enc28 x.Stamp).ok = true from law28.ok _, show (enc3 x.Kind).ok = true from law3.ok _, show (enc2 x.Node).ok = true from law2.ok _, show (enc2 x.Parent).ok = true from law2.ok _, show (enc9 x.Name).ok = true from law9.ok _, show (enc9 x.Key).ok = true from law9.ok _, show (enc9 x.Value).ok = true from law9.ok _, Bool.and_self], fun x a h => by obtain ⟨x0, x1, x2, x3, x4, x5, x6, rfl, h0, h1, h2, h3, h4, h5, h6⟩ := decx30 (show dec30 x = some a from h); show ((x0.ok && (x1.ok && (x2.ok && (x3.ok && (x4.ok && (x5.ok && (x6.ok && true)))))))) = true; simp only [law28.decok _ _ h0, law3.decok _ _ h1, law2.decok _ _ h2, law2.decok _ _ h3, law9.decok _ _ h4, law9.decok _ _ h5, law9.decok _ _ h6, Bool.and_self], fun x a h => by obtain ⟨x0, x1, x2, x3, x4, x5, x6, rfl, h0, h1, h2, h3, h4, h5, h6⟩ := decx30 (show dec30 x = some a from h); rfl, fun x => by show ((cel28 x.Stamp ++ (cel3 x.Kind ++ (cel2 x.Node ++ (cel2 x.Parent ++ (cel9 x.Name ++ (cel9 x.Key ++ (cel9 x.Value ++ [])))))))).all AV.one = true; simp only [List.all_append, List.all_nil, show (cel28 x.Stamp).all AV.one = true from law28.one _, show (cel3 x.Kind).all AV.one = true from law3.one _, show (cel2 x.Node).all AV.one = true from law2.one _, show (cel2 x.Parent).all AV.one = true from law2.one _, show (cel9 x.Name).all AV.one = true from law9.one _, show (cel9 x.Key).all AV.one = true from law9.one _, show (cel9 x.Value).all AV.one = true from law9.one _, Bool.and_self], fun x => z6 (law28.noid x.Stamp) (z6 (law3.noid x.Kind) (z6 (law2.noid x.Node) (z6 (law2.noid x.Parent) (z6 (law9.noid x.Name) (z6 (law9.noid x.Key) (z6 (law9.noid x.Value) (trivial))))))), fun ks h a b => by have := zg (law28.kd _ rfl a.Stamp b.Stamp) (zg (law3.kd _ rfl a.Kind b.Kind) (zg (law2.kd _ rfl a.Node b.Node) (zg (law2.kd _ rfl a.Parent b.Parent) (zg (law9.kd _ rfl a.Name b.Name) (zg (law9.kd _ rfl a.Key b.Key) (zg (law9.kd _ rfl a.Value b.Value) ((show z19 [] [] [] = some true from rfl)))))))); cases h; exact this, (fun l s h => nomatch h), (fun s l h => nomatch h)⟩
theorem law31 : CodAt C 31 := ⟨fun x => rfl, fun x => rfl, fun x a h => (z45 (C := C) (show dSl 30 x = some a from h)).1, fun x => rfl, fun x a h => (z45 (C := C) (show dSl 30 x = some a from h)).2.1, fun x a h => (z45 (C := C) (show dSl 30 x = some a from h)).2.2, fun a => rfl, fun a => z1y (NoId.asl fun cs hc => by obtain ⟨y, _, rfl⟩ := List.mem_map.1 hc; exact law30.noid y), (fun ks h => nomatch h), (fun l s h => nomatch h), (fun s l h => nomatch h)⟩
theorem law32 : CodAt C 32 := ⟨fun x => rfl, fun x => zsw law3 x, fun x a h => by rw [zub (show dArr 3 8 x = some a from h)]; exact .refl _, fun x => rfl, fun x a h => by rw [zub (show dArr 3 8 x = some a from h)]; rfl, fun x a h => by rw [zub (show dArr 3 8 x = some a from h)]; rfl, fun a => z118 law3 a.toList, fun a => zys law3 a.toList, fun ks h a b => by have := zja law3 (show C.kd 3 = some _ from rfl) a.toList b.toList (by simp); simp only [Vector.length_toList] at this; cases h; exact this, (fun l s h => nomatch h), (fun s l h => nomatch h)⟩
theorem law34 : CodAt C 34 := ⟨fun x => rfl, fun x => zsw law2 x, fun x a h => by rw [zub (show dArr 2 8 x = some a from h)]; exact .refl _, fun x => rfl, fun x a h => by rw [zub (show dArr 2 8 x = some a from h)]; rfl, fun x a h => by rw [zub (show dArr 2 8 x = some a from h)]; rfl, fun a => z118 law2 a.toList, fun a => zys law2 a.toList, fun ks h a b => by have := zja law2 (show C.kd 2 = some _ from rfl) a.toList b.toList (by simp); simp only [Vector.length_toList] at this; cases h; exact this, (fun l s h => nomatch h), (fun s l h => nomatch h)⟩
theorem decx36 {x : TV τ} {a : za} (h : dec36 x = some a) : ∃ x0 x1 x2 x3, x = .agg [x0, x1, x2, x3] ∧ dec2 x0 = some a.Number ∧ dec32 x1 = some a.States ∧ dec34 x2 = some a.Seals ∧ dec32 x3 = some a.Sponsor := by
  unfold dec36 at h
  split at h
  · rename_i x0 x1 x2 x3
    split at h
    · rename_i a0 h0
      split at h
      · rename_i a1 h1
        split at h
        · rename_i a2 h2
          split at h
          · rename_i a3 h3
            cases h
            exact ⟨_, _, _, _, rfl, h0, h1, h2, h3⟩
          · cases h
        · cases h
      · cases h
    · cases h
  · cases h
theorem law36 : CodAt C 36 := ⟨fun x => by show ((enc2 x.Number).cells C ++ ((enc32 x.States).cells C ++ ((enc34 x.Seals).cells C ++ ((enc32 x.Sponsor).cells C ++ [])))) = cel36 x; unfold cel36; exact congr (congrArg (· ++ ·) (law2.cel x.Number)) (congr (congrArg (· ++ ·) (law32.cel x.States)) (congr (congrArg (· ++ ·) (law34.cel x.Seals)) (congr (congrArg (· ++ ·) (law32.cel x.Sponsor)) (rfl)))), fun x => by show ((cel2 x.Number ++ (cel32 x.States ++ (cel34 x.Seals ++ (cel32 x.Sponsor ++ []))))).length = 25; rw [List.length_append, List.length_append, List.length_append, List.length_append]; have e0 : (cel2 x.Number).length = 1 := law2.len x.Number; have e1 : (cel32 x.States).length = 8 := law32.len x.States; have e2 : (cel34 x.Seals).length = 8 := law34.len x.Seals; have e3 : (cel32 x.Sponsor).length = 8 := law32.len x.Sponsor; simp only [e0, e1, e2, e3, List.length_nil], fun x a h => by obtain ⟨x0, x1, x2, x3, rfl, h0, h1, h2, h3⟩ := decx36 (show dec36 x = some a from h); exact CW.append (law2.dec _ _ h0) (CW.append (law32.dec _ _ h1) (CW.append (law34.dec _ _ h2) (CW.append (law32.dec _ _ h3) (CW.refl [])))), fun x => by show (((enc2 x.Number).ok && ((enc32 x.States).ok && ((enc34 x.Seals).ok && ((enc32 x.Sponsor).ok && true))))) = true; simp only [show (enc2 x.Number).ok = true from law2.ok _, show (enc32 x.States).ok = true from law32.ok _, show (enc34 x.Seals).ok = true from law34.ok _, show (enc32 x.Sponsor).ok = true from law32.ok _, Bool.and_self], fun x a h => by obtain ⟨x0, x1, x2, x3, rfl, h0, h1, h2, h3⟩ := decx36 (show dec36 x = some a from h); show ((x0.ok && (x1.ok && (x2.ok && (x3.ok && true))))) = true; simp only [law2.decok _ _ h0, law32.decok _ _ h1, law34.decok _ _ h2, law32.decok _ _ h3, Bool.and_self], fun x a h => by obtain ⟨x0, x1, x2, x3, rfl, h0, h1, h2, h3⟩ := decx36 (show dec36 x = some a from h); rfl, fun x => by show ((cel2 x.Number ++ (cel32 x.States ++ (cel34 x.Seals ++ (cel32 x.Sponsor ++ []))))).all AV.one = true; simp only [List.all_append, List.all_nil, show (cel2 x.Number).all AV.one = true from law2.one _, show (cel32 x.States).all AV.one = true from law32.one _, show (cel34 x.Seals).all AV.one = true from law34.one _, show (cel32 x.Sponsor).all AV.one = true from law32.one _, Bool.and_self], fun x => z6 (law2.noid x.Number) (z6 (law32.noid x.States) (z6 (law34.noid x.Seals) (z6 (law32.noid x.Sponsor) (trivial)))), fun ks h a b => by have := zg (law2.kd _ rfl a.Number b.Number) (zg (law32.kd _ rfl a.States b.States) (zg (law34.kd _ rfl a.Seals b.Seals) (zg (law32.kd _ rfl a.Sponsor b.Sponsor) ((show z19 [] [] [] = some true from rfl))))); cases h; exact this, (fun l s h => nomatch h), (fun s l h => nomatch h)⟩
theorem law37 : CodAt C 37 := ⟨fun x => rfl, fun x => rfl, fun x a h => (z45 (C := C) (show dSl 5 x = some a from h)).1, fun x => rfl, fun x a h => (z45 (C := C) (show dSl 5 x = some a from h)).2.1, fun x a h => (z45 (C := C) (show dSl 5 x = some a from h)).2.2, fun a => rfl, fun a => z1y (NoId.asl fun cs hc => by obtain ⟨y, _, rfl⟩ := List.mem_map.1 hc; exact law5.noid y), (fun ks h => nomatch h), (fun l s h => nomatch h), (fun s l h => nomatch h)⟩
theorem decx39 {x : TV τ} {a : GPart} (h : dec39 x = some a) : ∃ x0 x1 x2 x3, x = .agg [x0, x1, x2, x3] ∧ dec2 x0 = some a.Snap ∧ dec3 x1 = some a.Index ∧ dec3 x2 = some a.Many ∧ dec37 x3 = some a.Data := by
  unfold dec39 at h
  split at h
  · rename_i x0 x1 x2 x3
    split at h
    · rename_i a0 h0
      split at h
      · rename_i a1 h1
        split at h
        · rename_i a2 h2
          split at h
          · rename_i a3 h3
            cases h
            exact ⟨_, _, _, _, rfl, h0, h1, h2, h3⟩
          · cases h
        · cases h
      · cases h
    · cases h
  · cases h
theorem law39 : CodAt C 39 := ⟨fun x => by show ((enc2 x.Snap).cells C ++ ((enc3 x.Index).cells C ++ ((enc3 x.Many).cells C ++ ((enc37 x.Data).cells C ++ [])))) = cel39 x; unfold cel39; exact congr (congrArg (· ++ ·) (law2.cel x.Snap)) (congr (congrArg (· ++ ·) (law3.cel x.Index)) (congr (congrArg (· ++ ·) (law3.cel x.Many)) (congr (congrArg (· ++ ·) (law37.cel x.Data)) (rfl)))), fun x => by show ((cel2 x.Snap ++ (cel3 x.Index ++ (cel3 x.Many ++ (cel37 x.Data ++ []))))).length = 4; rw [List.length_append, List.length_append, List.length_append, List.length_append]; have e0 : (cel2 x.Snap).length = 1 := law2.len x.Snap; have e1 : (cel3 x.Index).length = 1 := law3.len x.Index; have e2 : (cel3 x.Many).length = 1 := law3.len x.Many; have e3 : (cel37 x.Data).length = 1 := law37.len x.Data; simp only [e0, e1, e2, e3, List.length_nil], fun x a h => by obtain ⟨x0, x1, x2, x3, rfl, h0, h1, h2, h3⟩ := decx39 (show dec39 x = some a from h); exact CW.append (law2.dec _ _ h0) (CW.append (law3.dec _ _ h1) (CW.append (law3.dec _ _ h2) (CW.append (law37.dec _ _ h3) (CW.refl [])))), fun x => by show (((enc2 x.Snap).ok && ((enc3 x.Index).ok && ((enc3 x.Many).ok && ((enc37 x.Data).ok && true))))) = true; simp only [show (enc2 x.Snap).ok = true from law2.ok _, show (enc3 x.Index).ok = true from law3.ok _, show (enc3 x.Many).ok = true from law3.ok _, show (enc37 x.Data).ok = true from law37.ok _, Bool.and_self], fun x a h => by obtain ⟨x0, x1, x2, x3, rfl, h0, h1, h2, h3⟩ := decx39 (show dec39 x = some a from h); show ((x0.ok && (x1.ok && (x2.ok && (x3.ok && true))))) = true; simp only [law2.decok _ _ h0, law3.decok _ _ h1, law3.decok _ _ h2, law37.decok _ _ h3, Bool.and_self], fun x a h => by obtain ⟨x0, x1, x2, x3, rfl, h0, h1, h2, h3⟩ := decx39 (show dec39 x = some a from h); rfl, fun x => by show ((cel2 x.Snap ++ (cel3 x.Index ++ (cel3 x.Many ++ (cel37 x.Data ++ []))))).all AV.one = true; simp only [List.all_append, List.all_nil, show (cel2 x.Snap).all AV.one = true from law2.one _, show (cel3 x.Index).all AV.one = true from law3.one _, show (cel3 x.Many).all AV.one = true from law3.one _, show (cel37 x.Data).all AV.one = true from law37.one _, Bool.and_self], fun x => z6 (law2.noid x.Snap) (z6 (law3.noid x.Index) (z6 (law3.noid x.Many) (z6 (law37.noid x.Data) (trivial)))), (fun ks h => nomatch h), (fun l s h => nomatch h), (fun s l h => nomatch h)⟩
theorem decx41 {x : TV τ} {a : zd} (h : dec41 x = some a) : ∃ x0 x1 x2 x3 x4 x5 x6 x7 x8 x9 x10 x11 x12 x13 x14, x = .agg [x0, x1, x2, x3, x4, x5, x6, x7, x8, x9, x10, x11, x12, x13, x14] ∧ dec3 x0 = some a.Kind ∧ dec2 x1 = some a.Session ∧ dec2 x2 = some a.Request ∧ dec30 x3 = some a.Op ∧ dec3 x4 = some a.Origin ∧ dec2 x5 = some a.Seq ∧ dec31 x6 = some a.Ops ∧ dec36 x7 = some a.Epoch ∧ dec3 x8 = some a.From ∧ dec34 x9 = some a.Vector_ ∧ dec2 x10 = some a.Clock ∧ dec39 x11 = some a.Part ∧ dec3 x12 = some a.Site ∧ dec3 x13 = some a.Sponsor ∧ dec2 x14 = some a.Length := by
  unfold dec41 at h
  split at h
  · rename_i x0 x1 x2 x3 x4 x5 x6 x7 x8 x9 x10 x11 x12 x13 x14
    split at h
    · rename_i a0 h0
      split at h
      · rename_i a1 h1
        split at h
        · rename_i a2 h2
          split at h
          · rename_i a3 h3
            split at h
            · rename_i a4 h4
              split at h
              · rename_i a5 h5
                split at h
                · rename_i a6 h6
                  split at h
                  · rename_i a7 h7
                    split at h
                    · rename_i a8 h8
                      split at h
                      · rename_i a9 h9
                        split at h
                        · rename_i a10 h10
                          split at h
                          · rename_i a11 h11
                            split at h
                            · rename_i a12 h12
                              split at h
                              · rename_i a13 h13
                                split at h
                                · rename_i a14 h14
                                  cases h
                                  exact ⟨_, _, _, _, _, _, _, _, _, _, _, _, _, _, _, rfl, h0, h1, h2, h3, h4, h5, h6, h7, h8, h9, h10, h11, h12, h13, h14⟩
                                · cases h
                              · cases h
                            · cases h
                          · cases h
                        · cases h
                      · cases h
                    · cases h
                  · cases h
                · cases h
              · cases h
            · cases h
          · cases h
        · cases h
      · cases h
    · cases h
  · cases h
theorem law41 : CodAt C 41 := ⟨fun x => by show ((enc3 x.Kind).cells C ++ ((enc2 x.Session).cells C ++ ((enc2 x.Request).cells C ++ ((enc30 x.Op).cells C ++ ((enc3 x.Origin).cells C ++ ((enc2 x.Seq).cells C ++ ((enc31 x.Ops).cells C ++ ((enc36 x.Epoch).cells C ++ ((enc3 x.From).cells C ++ ((enc34 x.Vector_).cells C ++ ((enc2 x.Clock).cells C ++ ((enc39 x.Part).cells C ++ ((enc3 x.Site).cells C ++ ((enc3 x.Sponsor).cells C ++ ((enc2 x.Length).cells C ++ []))))))))))))))) = cel41 x; unfold cel41; exact congr (congrArg (· ++ ·) (law3.cel x.Kind)) (congr (congrArg (· ++ ·) (law2.cel x.Session)) (congr (congrArg (· ++ ·) (law2.cel x.Request)) (congr (congrArg (· ++ ·) (law30.cel x.Op)) (congr (congrArg (· ++ ·) (law3.cel x.Origin)) (congr (congrArg (· ++ ·) (law2.cel x.Seq)) (congr (congrArg (· ++ ·) (law31.cel x.Ops)) (congr (congrArg (· ++ ·) (law36.cel x.Epoch)) (congr (congrArg (· ++ ·) (law3.cel x.From)) (congr (congrArg (· ++ ·) (law34.cel x.Vector_)) (congr (congrArg (· ++ ·) (law2.cel x.Clock)) (congr (congrArg (· ++ ·) (law39.cel x.Part)) (congr (congrArg (· ++ ·) (law3.cel x.Site)) (congr (congrArg (· ++ ·) (law3.cel x.Sponsor)) (congr (congrArg (· ++ ·) (law2.cel x.Length)) (rfl))))))))))))))), fun x => by show ((cel3 x.Kind ++ (cel2 x.Session ++ (cel2 x.Request ++ (cel30 x.Op ++ (cel3 x.Origin ++ (cel2 x.Seq ++ (cel31 x.Ops ++ (cel36 x.Epoch ++ (cel3 x.From ++ (cel34 x.Vector_ ++ (cel2 x.Clock ++ (cel39 x.Part ++ (cel3 x.Site ++ (cel3 x.Sponsor ++ (cel2 x.Length ++ [])))))))))))))))).length = 56; rw [List.length_append, List.length_append, List.length_append, List.length_append, List.length_append, List.length_append, List.length_append, List.length_append, List.length_append, List.length_append, List.length_append, List.length_append, List.length_append, List.length_append, List.length_append]; have e0 : (cel3 x.Kind).length = 1 := law3.len x.Kind; have e1 : (cel2 x.Session).length = 1 := law2.len x.Session; have e2 : (cel2 x.Request).length = 1 := law2.len x.Request; have e3 : (cel30 x.Op).length = 8 := law30.len x.Op; have e4 : (cel3 x.Origin).length = 1 := law3.len x.Origin; have e5 : (cel2 x.Seq).length = 1 := law2.len x.Seq; have e6 : (cel31 x.Ops).length = 1 := law31.len x.Ops; have e7 : (cel36 x.Epoch).length = 25 := law36.len x.Epoch; have e8 : (cel3 x.From).length = 1 := law3.len x.From; have e9 : (cel34 x.Vector_).length = 8 := law34.len x.Vector_; have e10 : (cel2 x.Clock).length = 1 := law2.len x.Clock; have e11 : (cel39 x.Part).length = 4 := law39.len x.Part; have e12 : (cel3 x.Site).length = 1 := law3.len x.Site; have e13 : (cel3 x.Sponsor).length = 1 := law3.len x.Sponsor; have e14 : (cel2 x.Length).length = 1 := law2.len x.Length; simp only [e0, e1, e2, e3, e4, e5, e6, e7, e8, e9, e10, e11, e12, e13, e14, List.length_nil], fun x a h => by obtain ⟨x0, x1, x2, x3, x4, x5, x6, x7, x8, x9, x10, x11, x12, x13, x14, rfl, h0, h1, h2, h3, h4, h5, h6, h7, h8, h9, h10, h11, h12, h13, h14⟩ := decx41 (show dec41 x = some a from h); exact CW.append (law3.dec _ _ h0) (CW.append (law2.dec _ _ h1) (CW.append (law2.dec _ _ h2) (CW.append (law30.dec _ _ h3) (CW.append (law3.dec _ _ h4) (CW.append (law2.dec _ _ h5) (CW.append (law31.dec _ _ h6) (CW.append (law36.dec _ _ h7) (CW.append (law3.dec _ _ h8) (CW.append (law34.dec _ _ h9) (CW.append (law2.dec _ _ h10) (CW.append (law39.dec _ _ h11) (CW.append (law3.dec _ _ h12) (CW.append (law3.dec _ _ h13) (CW.append (law2.dec _ _ h14) (CW.refl []))))))))))))))), fun x => by show (((enc3 x.Kind).ok && ((enc2 x.Session).ok && ((enc2 x.Request).ok && ((enc30 x.Op).ok && ((enc3 x.Origin).ok && ((enc2 x.Seq).ok && ((enc31 x.Ops).ok && ((enc36 x.Epoch).ok && ((enc3 x.From).ok && ((enc34 x.Vector_).ok && ((enc2 x.Clock).ok && ((enc39 x.Part).ok && ((enc3 x.Site).ok && ((enc3 x.Sponsor).ok && ((enc2 x.Length).ok && true)))))))))))))))) = true; simp only [show (enc3 x.Kind).ok = true from law3.ok _, show (enc2 x.Session).ok = true from law2.ok _, show (enc2 x.Request).ok = true from law2.ok _, show (enc30 x.Op).ok = true from law30.ok _, show (enc3 x.Origin).ok = true from law3.ok _, show (enc2 x.Seq).ok = true from law2.ok _, show (enc31 x.Ops).ok = true from law31.ok _, show (enc36 x.Epoch).ok = true from law36.ok _, show (enc3 x.From).ok = true from law3.ok _, show (enc34 x.Vector_).ok = true from law34.ok _, show (enc2 x.Clock).ok = true from law2.ok _, show (enc39 x.Part).ok = true from law39.ok _, show (enc3 x.Site).ok = true from law3.ok _, show (enc3 x.Sponsor).ok = true from law3.ok _, show (enc2 x.Length).ok = true from law2.ok _, Bool.and_self], fun x a h => by obtain ⟨x0, x1, x2, x3, x4, x5, x6, x7, x8, x9, x10, x11, x12, x13, x14, rfl, h0, h1, h2, h3, h4, h5, h6, h7, h8, h9, h10, h11, h12, h13, h14⟩ := decx41 (show dec41 x = some a from h); show ((x0.ok && (x1.ok && (x2.ok && (x3.ok && (x4.ok && (x5.ok && (x6.ok && (x7.ok && (x8.ok && (x9.ok && (x10.ok && (x11.ok && (x12.ok && (x13.ok && (x14.ok && true)))))))))))))))) = true; simp only [law3.decok _ _ h0, law2.decok _ _ h1, law2.decok _ _ h2, law30.decok _ _ h3, law3.decok _ _ h4, law2.decok _ _ h5, law31.decok _ _ h6, law36.decok _ _ h7, law3.decok _ _ h8, law34.decok _ _ h9, law2.decok _ _ h10, law39.decok _ _ h11, law3.decok _ _ h12, law3.decok _ _ h13, law2.decok _ _ h14, Bool.and_self], fun x a h => by obtain ⟨x0, x1, x2, x3, x4, x5, x6, x7, x8, x9, x10, x11, x12, x13, x14, rfl, h0, h1, h2, h3, h4, h5, h6, h7, h8, h9, h10, h11, h12, h13, h14⟩ := decx41 (show dec41 x = some a from h); rfl, fun x => by show ((cel3 x.Kind ++ (cel2 x.Session ++ (cel2 x.Request ++ (cel30 x.Op ++ (cel3 x.Origin ++ (cel2 x.Seq ++ (cel31 x.Ops ++ (cel36 x.Epoch ++ (cel3 x.From ++ (cel34 x.Vector_ ++ (cel2 x.Clock ++ (cel39 x.Part ++ (cel3 x.Site ++ (cel3 x.Sponsor ++ (cel2 x.Length ++ [])))))))))))))))).all AV.one = true; simp only [List.all_append, List.all_nil, show (cel3 x.Kind).all AV.one = true from law3.one _, show (cel2 x.Session).all AV.one = true from law2.one _, show (cel2 x.Request).all AV.one = true from law2.one _, show (cel30 x.Op).all AV.one = true from law30.one _, show (cel3 x.Origin).all AV.one = true from law3.one _, show (cel2 x.Seq).all AV.one = true from law2.one _, show (cel31 x.Ops).all AV.one = true from law31.one _, show (cel36 x.Epoch).all AV.one = true from law36.one _, show (cel3 x.From).all AV.one = true from law3.one _, show (cel34 x.Vector_).all AV.one = true from law34.one _, show (cel2 x.Clock).all AV.one = true from law2.one _, show (cel39 x.Part).all AV.one = true from law39.one _, show (cel3 x.Site).all AV.one = true from law3.one _, show (cel3 x.Sponsor).all AV.one = true from law3.one _, show (cel2 x.Length).all AV.one = true from law2.one _, Bool.and_self], fun x => z6 (law3.noid x.Kind) (z6 (law2.noid x.Session) (z6 (law2.noid x.Request) (z6 (law30.noid x.Op) (z6 (law3.noid x.Origin) (z6 (law2.noid x.Seq) (z6 (law31.noid x.Ops) (z6 (law36.noid x.Epoch) (z6 (law3.noid x.From) (z6 (law34.noid x.Vector_) (z6 (law2.noid x.Clock) (z6 (law39.noid x.Part) (z6 (law3.noid x.Site) (z6 (law3.noid x.Sponsor) (z6 (law2.noid x.Length) (trivial))))))))))))))), (fun ks h => nomatch h), (fun l s h => nomatch h), (fun s l h => nomatch h)⟩
theorem z12f {x : TV τ} {a : zv} (h : zzd x = some a) : ∃ x0 x1 x2, x = .agg [x0, x1, x2] ∧ dec2 x0 = some a.Slot ∧ dec25 x1 = some a.Ballot ∧ dec41 x2 = some a.Entry := by
  unfold zzd at h
  split at h
  · rename_i x0 x1 x2
    split at h
    · rename_i a0 h0
      split at h
      · rename_i a1 h1
        split at h
        · rename_i a2 h2
          cases h
          exact ⟨_, _, _, rfl, h0, h1, h2⟩
        · cases h
      · cases h
    · cases h
  · cases h
theorem law155 : CodAt C 155 := ⟨fun x => by show ((enc2 x.Slot).cells C ++ ((enc25 x.Ballot).cells C ++ ((enc41 x.Entry).cells C ++ []))) = cel155 x; unfold cel155; exact congr (congrArg (· ++ ·) (law2.cel x.Slot)) (congr (congrArg (· ++ ·) (law25.cel x.Ballot)) (congr (congrArg (· ++ ·) (law41.cel x.Entry)) (rfl))), fun x => by show ((cel2 x.Slot ++ (cel25 x.Ballot ++ (cel41 x.Entry ++ [])))).length = 59; rw [List.length_append, List.length_append, List.length_append]; have e0 : (cel2 x.Slot).length = 1 := law2.len x.Slot; have e1 : (cel25 x.Ballot).length = 2 := law25.len x.Ballot; have e2 : (cel41 x.Entry).length = 56 := law41.len x.Entry; simp only [e0, e1, e2, List.length_nil], fun x a h => by obtain ⟨x0, x1, x2, rfl, h0, h1, h2⟩ := z12f (show zzd x = some a from h); exact CW.append (law2.dec _ _ h0) (CW.append (law25.dec _ _ h1) (CW.append (law41.dec _ _ h2) (CW.refl []))), fun x => by show (((enc2 x.Slot).ok && ((enc25 x.Ballot).ok && ((enc41 x.Entry).ok && true)))) = true; simp only [show (enc2 x.Slot).ok = true from law2.ok _, show (enc25 x.Ballot).ok = true from law25.ok _, show (enc41 x.Entry).ok = true from law41.ok _, Bool.and_self], fun x a h => by obtain ⟨x0, x1, x2, rfl, h0, h1, h2⟩ := z12f (show zzd x = some a from h); show ((x0.ok && (x1.ok && (x2.ok && true)))) = true; simp only [law2.decok _ _ h0, law25.decok _ _ h1, law41.decok _ _ h2, Bool.and_self], fun x a h => by obtain ⟨x0, x1, x2, rfl, h0, h1, h2⟩ := z12f (show zzd x = some a from h); rfl, fun x => by show ((cel2 x.Slot ++ (cel25 x.Ballot ++ (cel41 x.Entry ++ [])))).all AV.one = true; simp only [List.all_append, List.all_nil, show (cel2 x.Slot).all AV.one = true from law2.one _, show (cel25 x.Ballot).all AV.one = true from law25.one _, show (cel41 x.Entry).all AV.one = true from law41.one _, Bool.and_self], fun x => z6 (law2.noid x.Slot) (z6 (law25.noid x.Ballot) (z6 (law41.noid x.Entry) (trivial))), (fun ks h => nomatch h), (fun l s h => nomatch h), (fun s l h => nomatch h)⟩
theorem law26 : CodAt C 26 := ⟨fun x => rfl, fun x => rfl, fun x a h => (z45 (C := C) (show dSl 155 x = some a from h)).1, fun x => rfl, fun x a h => (z45 (C := C) (show dSl 155 x = some a from h)).2.1, fun x a h => (z45 (C := C) (show dSl 155 x = some a from h)).2.2, fun a => rfl, fun a => z1y (NoId.asl fun cs hc => by obtain ⟨y, _, rfl⟩ := List.mem_map.1 hc; exact law155.noid y), (fun ks h => nomatch h), (fun l s h => nomatch h), (fun s l h => nomatch h)⟩
theorem decx27 {x : TV τ} {a : zx} (h : dec27 x = some a) : ∃ x0 x1, x = .agg [x0, x1] ∧ dec2 x0 = some a.Time ∧ dec3 x1 = some a.Site := by
  unfold dec27 at h
  split at h
  · rename_i x0 x1
    split at h
    · rename_i a0 h0
      split at h
      · rename_i a1 h1
        cases h
        exact ⟨_, _, rfl, h0, h1⟩
      · cases h
    · cases h
  · cases h
theorem law27 : CodAt C 27 := ⟨fun x => by show ((enc2 x.Time).cells C ++ ((enc3 x.Site).cells C ++ [])) = cel27 x; unfold cel27; exact congr (congrArg (· ++ ·) (law2.cel x.Time)) (congr (congrArg (· ++ ·) (law3.cel x.Site)) (rfl)), fun x => by show ((cel2 x.Time ++ (cel3 x.Site ++ []))).length = 2; rw [List.length_append, List.length_append]; have e0 : (cel2 x.Time).length = 1 := law2.len x.Time; have e1 : (cel3 x.Site).length = 1 := law3.len x.Site; simp only [e0, e1, List.length_nil], fun x a h => by obtain ⟨x0, x1, rfl, h0, h1⟩ := decx27 (show dec27 x = some a from h); exact CW.append (law2.dec _ _ h0) (CW.append (law3.dec _ _ h1) (CW.refl [])), fun x => by show (((enc2 x.Time).ok && ((enc3 x.Site).ok && true))) = true; simp only [show (enc2 x.Time).ok = true from law2.ok _, show (enc3 x.Site).ok = true from law3.ok _, Bool.and_self], fun x a h => by obtain ⟨x0, x1, rfl, h0, h1⟩ := decx27 (show dec27 x = some a from h); show ((x0.ok && (x1.ok && true))) = true; simp only [law2.decok _ _ h0, law3.decok _ _ h1, Bool.and_self], fun x a h => by obtain ⟨x0, x1, rfl, h0, h1⟩ := decx27 (show dec27 x = some a from h); rfl, fun x => by show ((cel2 x.Time ++ (cel3 x.Site ++ []))).all AV.one = true; simp only [List.all_append, List.all_nil, show (cel2 x.Time).all AV.one = true from law2.one _, show (cel3 x.Site).all AV.one = true from law3.one _, Bool.and_self], fun x => z6 (law2.noid x.Time) (z6 (law3.noid x.Site) (trivial)), fun ks h a b => by have := zg (law2.kd _ rfl a.Time b.Time) (zg (law3.kd _ rfl a.Site b.Site) ((show z19 [] [] [] = some true from rfl))); cases h; exact this, (fun l s h => nomatch h), (fun s l h => nomatch h)⟩
theorem decx29 {x : TV τ} {a : GOp} (h : dec29 x = some a) : ∃ x0 x1 x2 x3 x4 x5 x6, x = .agg [x0, x1, x2, x3, x4, x5, x6] ∧ dec28 x0 = some a.Stamp ∧ dec3 x1 = some a.Kind ∧ dec2 x2 = some a.Node ∧ dec2 x3 = some a.Parent ∧ dec9 x4 = some a.Name ∧ dec9 x5 = some a.Key ∧ dec9 x6 = some a.Value := by
  unfold dec29 at h
  split at h
  · rename_i x0 x1 x2 x3 x4 x5 x6
    split at h
    · rename_i a0 h0
      split at h
      · rename_i a1 h1
        split at h
        · rename_i a2 h2
          split at h
          · rename_i a3 h3
            split at h
            · rename_i a4 h4
              split at h
              · rename_i a5 h5
                split at h
                · rename_i a6 h6
                  cases h
                  exact ⟨_, _, _, _, _, _, _, rfl, h0, h1, h2, h3, h4, h5, h6⟩
                · cases h
              · cases h
            · cases h
          · cases h
        · cases h
      · cases h
    · cases h
  · cases h
theorem law29 : CodAt C 29 := ⟨fun x => by show ((enc28 x.Stamp).cells C ++ ((enc3 x.Kind).cells C ++ ((enc2 x.Node).cells C ++ ((enc2 x.Parent).cells C ++ ((enc9 x.Name).cells C ++ ((enc9 x.Key).cells C ++ ((enc9 x.Value).cells C ++ []))))))) = cel29 x; unfold cel29; exact congr (congrArg (· ++ ·) (law28.cel x.Stamp)) (congr (congrArg (· ++ ·) (law3.cel x.Kind)) (congr (congrArg (· ++ ·) (law2.cel x.Node)) (congr (congrArg (· ++ ·) (law2.cel x.Parent)) (congr (congrArg (· ++ ·) (law9.cel x.Name)) (congr (congrArg (· ++ ·) (law9.cel x.Key)) (congr (congrArg (· ++ ·) (law9.cel x.Value)) (rfl))))))), fun x => by show ((cel28 x.Stamp ++ (cel3 x.Kind ++ (cel2 x.Node ++ (cel2 x.Parent ++ (cel9 x.Name ++ (cel9 x.Key ++ (cel9 x.Value ++ [])))))))).length = 8; rw [List.length_append, List.length_append, List.length_append, List.length_append, List.length_append, List.length_append, List.length_append]; have e0 : (cel28 x.Stamp).length = 2 := law28.len x.Stamp; have e1 : (cel3 x.Kind).length = 1 := law3.len x.Kind; have e2 : (cel2 x.Node).length = 1 := law2.len x.Node; have e3 : (cel2 x.Parent).length = 1 := law2.len x.Parent; have e4 : (cel9 x.Name).length = 1 := law9.len x.Name; have e5 : (cel9 x.Key).length = 1 := law9.len x.Key; have e6 : (cel9 x.Value).length = 1 := law9.len x.Value; simp only [e0, e1, e2, e3, e4, e5, e6, List.length_nil], fun x a h => by obtain ⟨x0, x1, x2, x3, x4, x5, x6, rfl, h0, h1, h2, h3, h4, h5, h6⟩ := decx29 (show dec29 x = some a from h); exact CW.append (law28.dec _ _ h0) (CW.append (law3.dec _ _ h1) (CW.append (law2.dec _ _ h2) (CW.append (law2.dec _ _ h3) (CW.append (law9.dec _ _ h4) (CW.append (law9.dec _ _ h5) (CW.append (law9.dec _ _ h6) (CW.refl []))))))), fun x => by show (((enc28 x.Stamp).ok && ((enc3 x.Kind).ok && ((enc2 x.Node).ok && ((enc2 x.Parent).ok && ((enc9 x.Name).ok && ((enc9 x.Key).ok && ((enc9 x.Value).ok && true)))))))) = true; simp only [show (enc28 x.Stamp).ok = true from law28.ok _, show (enc3 x.Kind).ok = true from law3.ok _, show (enc2 x.Node).ok = true from law2.ok _, show (enc2 x.Parent).ok = true from law2.ok _, show (enc9 x.Name).ok = true from law9.ok _, show (enc9 x.Key).ok = true from law9.ok _, show (enc9 x.Value).ok = true from law9.ok _, Bool.and_self], fun x a h => by obtain ⟨x0, x1, x2, x3, x4, x5, x6, rfl, h0, h1, h2, h3, h4, h5, h6⟩ := decx29 (show dec29 x = some a from h); show ((x0.ok && (x1.ok && (x2.ok && (x3.ok && (x4.ok && (x5.ok && (x6.ok && true)))))))) = true; simp only [law28.decok _ _ h0, law3.decok _ _ h1, law2.decok _ _ h2, law2.decok _ _ h3, law9.decok _ _ h4, law9.decok _ _ h5, law9.decok _ _ h6, Bool.and_self], fun x a h => by obtain ⟨x0, x1, x2, x3, x4, x5, x6, rfl, h0, h1, h2, h3, h4, h5, h6⟩ := decx29 (show dec29 x = some a from h); rfl, fun x => by show ((cel28 x.Stamp ++ (cel3 x.Kind ++ (cel2 x.Node ++ (cel2 x.Parent ++ (cel9 x.Name ++ (cel9 x.Key ++ (cel9 x.Value ++ [])))))))).all AV.one = true; simp only [List.all_append, List.all_nil, show (cel28 x.Stamp).all AV.one = true from law28.one _, show (cel3 x.Kind).all AV.one = true from law3.one _, show (cel2 x.Node).all AV.one = true from law2.one _, show (cel2 x.Parent).all AV.one = true from law2.one _, show (cel9 x.Name).all AV.one = true from law9.one _, show (cel9 x.Key).all AV.one = true from law9.one _, show (cel9 x.Value).all AV.one = true from law9.one _, Bool.and_self], fun x => z6 (law28.noid x.Stamp) (z6 (law3.noid x.Kind) (z6 (law2.noid x.Node) (z6 (law2.noid x.Parent) (z6 (law9.noid x.Name) (z6 (law9.noid x.Key) (z6 (law9.noid x.Value) (trivial))))))), fun ks h a b => by have := zg (law28.kd _ rfl a.Stamp b.Stamp) (zg (law3.kd _ rfl a.Kind b.Kind) (zg (law2.kd _ rfl a.Node b.Node) (zg (law2.kd _ rfl a.Parent b.Parent) (zg (law9.kd _ rfl a.Name b.Name) (zg (law9.kd _ rfl a.Key b.Key) (zg (law9.kd _ rfl a.Value b.Value) ((show z19 [] [] [] = some true from rfl)))))))); cases h; exact this, (fun l s h => nomatch h), (fun s l h => nomatch h)⟩
theorem law33 : CodAt C 33 := ⟨fun x => rfl, fun x => zsw law2 x, fun x a h => by rw [zub (show dArr 2 8 x = some a from h)]; exact .refl _, fun x => rfl, fun x a h => by rw [zub (show dArr 2 8 x = some a from h)]; rfl, fun x a h => by rw [zub (show dArr 2 8 x = some a from h)]; rfl, fun a => z118 law2 a.toList, fun a => zys law2 a.toList, fun ks h a b => by have := zja law2 (show C.kd 2 = some _ from rfl) a.toList b.toList (by simp); simp only [Vector.length_toList] at this; cases h; exact this, (fun l s h => nomatch h), (fun s l h => nomatch h)⟩
theorem decx35 {x : TV τ} {a : za} (h : dec35 x = some a) : ∃ x0 x1 x2 x3, x = .agg [x0, x1, x2, x3] ∧ dec2 x0 = some a.Number ∧ dec32 x1 = some a.States ∧ dec34 x2 = some a.Seals ∧ dec32 x3 = some a.Sponsor := by
  unfold dec35 at h
  split at h
  · rename_i x0 x1 x2 x3
    split at h
    · rename_i a0 h0
      split at h
      · rename_i a1 h1
        split at h
        · rename_i a2 h2
          split at h
          · rename_i a3 h3
            cases h
            exact ⟨_, _, _, _, rfl, h0, h1, h2, h3⟩
          · cases h
        · cases h
      · cases h
    · cases h
  · cases h
theorem law35 : CodAt C 35 := ⟨fun x => by show ((enc2 x.Number).cells C ++ ((enc32 x.States).cells C ++ ((enc34 x.Seals).cells C ++ ((enc32 x.Sponsor).cells C ++ [])))) = cel35 x; unfold cel35; exact congr (congrArg (· ++ ·) (law2.cel x.Number)) (congr (congrArg (· ++ ·) (law32.cel x.States)) (congr (congrArg (· ++ ·) (law34.cel x.Seals)) (congr (congrArg (· ++ ·) (law32.cel x.Sponsor)) (rfl)))), fun x => by show ((cel2 x.Number ++ (cel32 x.States ++ (cel34 x.Seals ++ (cel32 x.Sponsor ++ []))))).length = 25; rw [List.length_append, List.length_append, List.length_append, List.length_append]; have e0 : (cel2 x.Number).length = 1 := law2.len x.Number; have e1 : (cel32 x.States).length = 8 := law32.len x.States; have e2 : (cel34 x.Seals).length = 8 := law34.len x.Seals; have e3 : (cel32 x.Sponsor).length = 8 := law32.len x.Sponsor; simp only [e0, e1, e2, e3, List.length_nil], fun x a h => by obtain ⟨x0, x1, x2, x3, rfl, h0, h1, h2, h3⟩ := decx35 (show dec35 x = some a from h); exact CW.append (law2.dec _ _ h0) (CW.append (law32.dec _ _ h1) (CW.append (law34.dec _ _ h2) (CW.append (law32.dec _ _ h3) (CW.refl [])))), fun x => by show (((enc2 x.Number).ok && ((enc32 x.States).ok && ((enc34 x.Seals).ok && ((enc32 x.Sponsor).ok && true))))) = true; simp only [show (enc2 x.Number).ok = true from law2.ok _, show (enc32 x.States).ok = true from law32.ok _, show (enc34 x.Seals).ok = true from law34.ok _, show (enc32 x.Sponsor).ok = true from law32.ok _, Bool.and_self], fun x a h => by obtain ⟨x0, x1, x2, x3, rfl, h0, h1, h2, h3⟩ := decx35 (show dec35 x = some a from h); show ((x0.ok && (x1.ok && (x2.ok && (x3.ok && true))))) = true; simp only [law2.decok _ _ h0, law32.decok _ _ h1, law34.decok _ _ h2, law32.decok _ _ h3, Bool.and_self], fun x a h => by obtain ⟨x0, x1, x2, x3, rfl, h0, h1, h2, h3⟩ := decx35 (show dec35 x = some a from h); rfl, fun x => by show ((cel2 x.Number ++ (cel32 x.States ++ (cel34 x.Seals ++ (cel32 x.Sponsor ++ []))))).all AV.one = true; simp only [List.all_append, List.all_nil, show (cel2 x.Number).all AV.one = true from law2.one _, show (cel32 x.States).all AV.one = true from law32.one _, show (cel34 x.Seals).all AV.one = true from law34.one _, show (cel32 x.Sponsor).all AV.one = true from law32.one _, Bool.and_self], fun x => z6 (law2.noid x.Number) (z6 (law32.noid x.States) (z6 (law34.noid x.Seals) (z6 (law32.noid x.Sponsor) (trivial)))), fun ks h a b => by have := zg (law2.kd _ rfl a.Number b.Number) (zg (law32.kd _ rfl a.States b.States) (zg (law34.kd _ rfl a.Seals b.Seals) (zg (law32.kd _ rfl a.Sponsor b.Sponsor) ((show z19 [] [] [] = some true from rfl))))); cases h; exact this, (fun l s h => nomatch h), (fun s l h => nomatch h)⟩
theorem decx38 {x : TV τ} {a : GPart} (h : dec38 x = some a) : ∃ x0 x1 x2 x3, x = .agg [x0, x1, x2, x3] ∧ dec2 x0 = some a.Snap ∧ dec3 x1 = some a.Index ∧ dec3 x2 = some a.Many ∧ dec37 x3 = some a.Data := by
  unfold dec38 at h
  split at h
  · rename_i x0 x1 x2 x3
    split at h
    · rename_i a0 h0
      split at h
      · rename_i a1 h1
        split at h
        · rename_i a2 h2
          split at h
          · rename_i a3 h3
            cases h
            exact ⟨_, _, _, _, rfl, h0, h1, h2, h3⟩
          · cases h
        · cases h
      · cases h
    · cases h
  · cases h
theorem law38 : CodAt C 38 := ⟨fun x => by show ((enc2 x.Snap).cells C ++ ((enc3 x.Index).cells C ++ ((enc3 x.Many).cells C ++ ((enc37 x.Data).cells C ++ [])))) = cel38 x; unfold cel38; exact congr (congrArg (· ++ ·) (law2.cel x.Snap)) (congr (congrArg (· ++ ·) (law3.cel x.Index)) (congr (congrArg (· ++ ·) (law3.cel x.Many)) (congr (congrArg (· ++ ·) (law37.cel x.Data)) (rfl)))), fun x => by show ((cel2 x.Snap ++ (cel3 x.Index ++ (cel3 x.Many ++ (cel37 x.Data ++ []))))).length = 4; rw [List.length_append, List.length_append, List.length_append, List.length_append]; have e0 : (cel2 x.Snap).length = 1 := law2.len x.Snap; have e1 : (cel3 x.Index).length = 1 := law3.len x.Index; have e2 : (cel3 x.Many).length = 1 := law3.len x.Many; have e3 : (cel37 x.Data).length = 1 := law37.len x.Data; simp only [e0, e1, e2, e3, List.length_nil], fun x a h => by obtain ⟨x0, x1, x2, x3, rfl, h0, h1, h2, h3⟩ := decx38 (show dec38 x = some a from h); exact CW.append (law2.dec _ _ h0) (CW.append (law3.dec _ _ h1) (CW.append (law3.dec _ _ h2) (CW.append (law37.dec _ _ h3) (CW.refl [])))), fun x => by show (((enc2 x.Snap).ok && ((enc3 x.Index).ok && ((enc3 x.Many).ok && ((enc37 x.Data).ok && true))))) = true; simp only [show (enc2 x.Snap).ok = true from law2.ok _, show (enc3 x.Index).ok = true from law3.ok _, show (enc3 x.Many).ok = true from law3.ok _, show (enc37 x.Data).ok = true from law37.ok _, Bool.and_self], fun x a h => by obtain ⟨x0, x1, x2, x3, rfl, h0, h1, h2, h3⟩ := decx38 (show dec38 x = some a from h); show ((x0.ok && (x1.ok && (x2.ok && (x3.ok && true))))) = true; simp only [law2.decok _ _ h0, law3.decok _ _ h1, law3.decok _ _ h2, law37.decok _ _ h3, Bool.and_self], fun x a h => by obtain ⟨x0, x1, x2, x3, rfl, h0, h1, h2, h3⟩ := decx38 (show dec38 x = some a from h); rfl, fun x => by show ((cel2 x.Snap ++ (cel3 x.Index ++ (cel3 x.Many ++ (cel37 x.Data ++ []))))).all AV.one = true; simp only [List.all_append, List.all_nil, show (cel2 x.Snap).all AV.one = true from law2.one _, show (cel3 x.Index).all AV.one = true from law3.one _, show (cel3 x.Many).all AV.one = true from law3.one _, show (cel37 x.Data).all AV.one = true from law37.one _, Bool.and_self], fun x => z6 (law2.noid x.Snap) (z6 (law3.noid x.Index) (z6 (law3.noid x.Many) (z6 (law37.noid x.Data) (trivial)))), (fun ks h => nomatch h), (fun l s h => nomatch h), (fun s l h => nomatch h)⟩
theorem decx40 {x : TV τ} {a : zd} (h : dec40 x = some a) : ∃ x0 x1 x2 x3 x4 x5 x6 x7 x8 x9 x10 x11 x12 x13 x14, x = .agg [x0, x1, x2, x3, x4, x5, x6, x7, x8, x9, x10, x11, x12, x13, x14] ∧ dec3 x0 = some a.Kind ∧ dec2 x1 = some a.Session ∧ dec2 x2 = some a.Request ∧ dec30 x3 = some a.Op ∧ dec3 x4 = some a.Origin ∧ dec2 x5 = some a.Seq ∧ dec31 x6 = some a.Ops ∧ dec36 x7 = some a.Epoch ∧ dec3 x8 = some a.From ∧ dec34 x9 = some a.Vector_ ∧ dec2 x10 = some a.Clock ∧ dec39 x11 = some a.Part ∧ dec3 x12 = some a.Site ∧ dec3 x13 = some a.Sponsor ∧ dec2 x14 = some a.Length := by
  unfold dec40 at h
  split at h
  · rename_i x0 x1 x2 x3 x4 x5 x6 x7 x8 x9 x10 x11 x12 x13 x14
    split at h
    · rename_i a0 h0
      split at h
      · rename_i a1 h1
        split at h
        · rename_i a2 h2
          split at h
          · rename_i a3 h3
            split at h
            · rename_i a4 h4
              split at h
              · rename_i a5 h5
                split at h
                · rename_i a6 h6
                  split at h
                  · rename_i a7 h7
                    split at h
                    · rename_i a8 h8
                      split at h
                      · rename_i a9 h9
                        split at h
                        · rename_i a10 h10
                          split at h
                          · rename_i a11 h11
                            split at h
                            · rename_i a12 h12
                              split at h
                              · rename_i a13 h13
                                split at h
                                · rename_i a14 h14
                                  cases h
                                  exact ⟨_, _, _, _, _, _, _, _, _, _, _, _, _, _, _, rfl, h0, h1, h2, h3, h4, h5, h6, h7, h8, h9, h10, h11, h12, h13, h14⟩
                                · cases h
                              · cases h
                            · cases h
                          · cases h
                        · cases h
                      · cases h
                    · cases h
                  · cases h
                · cases h
              · cases h
            · cases h
          · cases h
        · cases h
      · cases h
    · cases h
  · cases h
theorem law40 : CodAt C 40 := ⟨fun x => by show ((enc3 x.Kind).cells C ++ ((enc2 x.Session).cells C ++ ((enc2 x.Request).cells C ++ ((enc30 x.Op).cells C ++ ((enc3 x.Origin).cells C ++ ((enc2 x.Seq).cells C ++ ((enc31 x.Ops).cells C ++ ((enc36 x.Epoch).cells C ++ ((enc3 x.From).cells C ++ ((enc34 x.Vector_).cells C ++ ((enc2 x.Clock).cells C ++ ((enc39 x.Part).cells C ++ ((enc3 x.Site).cells C ++ ((enc3 x.Sponsor).cells C ++ ((enc2 x.Length).cells C ++ []))))))))))))))) = cel40 x; unfold cel40; exact congr (congrArg (· ++ ·) (law3.cel x.Kind)) (congr (congrArg (· ++ ·) (law2.cel x.Session)) (congr (congrArg (· ++ ·) (law2.cel x.Request)) (congr (congrArg (· ++ ·) (law30.cel x.Op)) (congr (congrArg (· ++ ·) (law3.cel x.Origin)) (congr (congrArg (· ++ ·) (law2.cel x.Seq)) (congr (congrArg (· ++ ·) (law31.cel x.Ops)) (congr (congrArg (· ++ ·) (law36.cel x.Epoch)) (congr (congrArg (· ++ ·) (law3.cel x.From)) (congr (congrArg (· ++ ·) (law34.cel x.Vector_)) (congr (congrArg (· ++ ·) (law2.cel x.Clock)) (congr (congrArg (· ++ ·) (law39.cel x.Part)) (congr (congrArg (· ++ ·) (law3.cel x.Site)) (congr (congrArg (· ++ ·) (law3.cel x.Sponsor)) (congr (congrArg (· ++ ·) (law2.cel x.Length)) (rfl))))))))))))))), fun x => by show ((cel3 x.Kind ++ (cel2 x.Session ++ (cel2 x.Request ++ (cel30 x.Op ++ (cel3 x.Origin ++ (cel2 x.Seq ++ (cel31 x.Ops ++ (cel36 x.Epoch ++ (cel3 x.From ++ (cel34 x.Vector_ ++ (cel2 x.Clock ++ (cel39 x.Part ++ (cel3 x.Site ++ (cel3 x.Sponsor ++ (cel2 x.Length ++ [])))))))))))))))).length = 56; rw [List.length_append, List.length_append, List.length_append, List.length_append, List.length_append, List.length_append, List.length_append, List.length_append, List.length_append, List.length_append, List.length_append, List.length_append, List.length_append, List.length_append, List.length_append]; have e0 : (cel3 x.Kind).length = 1 := law3.len x.Kind; have e1 : (cel2 x.Session).length = 1 := law2.len x.Session; have e2 : (cel2 x.Request).length = 1 := law2.len x.Request; have e3 : (cel30 x.Op).length = 8 := law30.len x.Op; have e4 : (cel3 x.Origin).length = 1 := law3.len x.Origin; have e5 : (cel2 x.Seq).length = 1 := law2.len x.Seq; have e6 : (cel31 x.Ops).length = 1 := law31.len x.Ops; have e7 : (cel36 x.Epoch).length = 25 := law36.len x.Epoch; have e8 : (cel3 x.From).length = 1 := law3.len x.From; have e9 : (cel34 x.Vector_).length = 8 := law34.len x.Vector_; have e10 : (cel2 x.Clock).length = 1 := law2.len x.Clock; have e11 : (cel39 x.Part).length = 4 := law39.len x.Part; have e12 : (cel3 x.Site).length = 1 := law3.len x.Site; have e13 : (cel3 x.Sponsor).length = 1 := law3.len x.Sponsor; have e14 : (cel2 x.Length).length = 1 := law2.len x.Length; simp only [e0, e1, e2, e3, e4, e5, e6, e7, e8, e9, e10, e11, e12, e13, e14, List.length_nil], fun x a h => by obtain ⟨x0, x1, x2, x3, x4, x5, x6, x7, x8, x9, x10, x11, x12, x13, x14, rfl, h0, h1, h2, h3, h4, h5, h6, h7, h8, h9, h10, h11, h12, h13, h14⟩ := decx40 (show dec40 x = some a from h); exact CW.append (law3.dec _ _ h0) (CW.append (law2.dec _ _ h1) (CW.append (law2.dec _ _ h2) (CW.append (law30.dec _ _ h3) (CW.append (law3.dec _ _ h4) (CW.append (law2.dec _ _ h5) (CW.append (law31.dec _ _ h6) (CW.append (law36.dec _ _ h7) (CW.append (law3.dec _ _ h8) (CW.append (law34.dec _ _ h9) (CW.append (law2.dec _ _ h10) (CW.append (law39.dec _ _ h11) (CW.append (law3.dec _ _ h12) (CW.append (law3.dec _ _ h13) (CW.append (law2.dec _ _ h14) (CW.refl []))))))))))))))), fun x => by show (((enc3 x.Kind).ok && ((enc2 x.Session).ok && ((enc2 x.Request).ok && ((enc30 x.Op).ok && ((enc3 x.Origin).ok && ((enc2 x.Seq).ok && ((enc31 x.Ops).ok && ((enc36 x.Epoch).ok && ((enc3 x.From).ok && ((enc34 x.Vector_).ok && ((enc2 x.Clock).ok && ((enc39 x.Part).ok && ((enc3 x.Site).ok && ((enc3 x.Sponsor).ok && ((enc2 x.Length).ok && true)))))))))))))))) = true; simp only [show (enc3 x.Kind).ok = true from law3.ok _, show (enc2 x.Session).ok = true from law2.ok _, show (enc2 x.Request).ok = true from law2.ok _, show (enc30 x.Op).ok = true from law30.ok _, show (enc3 x.Origin).ok = true from law3.ok _, show (enc2 x.Seq).ok = true from law2.ok _, show (enc31 x.Ops).ok = true from law31.ok _, show (enc36 x.Epoch).ok = true from law36.ok _, show (enc3 x.From).ok = true from law3.ok _, show (enc34 x.Vector_).ok = true from law34.ok _, show (enc2 x.Clock).ok = true from law2.ok _, show (enc39 x.Part).ok = true from law39.ok _, show (enc3 x.Site).ok = true from law3.ok _, show (enc3 x.Sponsor).ok = true from law3.ok _, show (enc2 x.Length).ok = true from law2.ok _, Bool.and_self], fun x a h => by obtain ⟨x0, x1, x2, x3, x4, x5, x6, x7, x8, x9, x10, x11, x12, x13, x14, rfl, h0, h1, h2, h3, h4, h5, h6, h7, h8, h9, h10, h11, h12, h13, h14⟩ := decx40 (show dec40 x = some a from h); show ((x0.ok && (x1.ok && (x2.ok && (x3.ok && (x4.ok && (x5.ok && (x6.ok && (x7.ok && (x8.ok && (x9.ok && (x10.ok && (x11.ok && (x12.ok && (x13.ok && (x14.ok && true)))))))))))))))) = true; simp only [law3.decok _ _ h0, law2.decok _ _ h1, law2.decok _ _ h2, law30.decok _ _ h3, law3.decok _ _ h4, law2.decok _ _ h5, law31.decok _ _ h6, law36.decok _ _ h7, law3.decok _ _ h8, law34.decok _ _ h9, law2.decok _ _ h10, law39.decok _ _ h11, law3.decok _ _ h12, law3.decok _ _ h13, law2.decok _ _ h14, Bool.and_self], fun x a h => by obtain ⟨x0, x1, x2, x3, x4, x5, x6, x7, x8, x9, x10, x11, x12, x13, x14, rfl, h0, h1, h2, h3, h4, h5, h6, h7, h8, h9, h10, h11, h12, h13, h14⟩ := decx40 (show dec40 x = some a from h); rfl, fun x => by show ((cel3 x.Kind ++ (cel2 x.Session ++ (cel2 x.Request ++ (cel30 x.Op ++ (cel3 x.Origin ++ (cel2 x.Seq ++ (cel31 x.Ops ++ (cel36 x.Epoch ++ (cel3 x.From ++ (cel34 x.Vector_ ++ (cel2 x.Clock ++ (cel39 x.Part ++ (cel3 x.Site ++ (cel3 x.Sponsor ++ (cel2 x.Length ++ [])))))))))))))))).all AV.one = true; simp only [List.all_append, List.all_nil, show (cel3 x.Kind).all AV.one = true from law3.one _, show (cel2 x.Session).all AV.one = true from law2.one _, show (cel2 x.Request).all AV.one = true from law2.one _, show (cel30 x.Op).all AV.one = true from law30.one _, show (cel3 x.Origin).all AV.one = true from law3.one _, show (cel2 x.Seq).all AV.one = true from law2.one _, show (cel31 x.Ops).all AV.one = true from law31.one _, show (cel36 x.Epoch).all AV.one = true from law36.one _, show (cel3 x.From).all AV.one = true from law3.one _, show (cel34 x.Vector_).all AV.one = true from law34.one _, show (cel2 x.Clock).all AV.one = true from law2.one _, show (cel39 x.Part).all AV.one = true from law39.one _, show (cel3 x.Site).all AV.one = true from law3.one _, show (cel3 x.Sponsor).all AV.one = true from law3.one _, show (cel2 x.Length).all AV.one = true from law2.one _, Bool.and_self], fun x => z6 (law3.noid x.Kind) (z6 (law2.noid x.Session) (z6 (law2.noid x.Request) (z6 (law30.noid x.Op) (z6 (law3.noid x.Origin) (z6 (law2.noid x.Seq) (z6 (law31.noid x.Ops) (z6 (law36.noid x.Epoch) (z6 (law3.noid x.From) (z6 (law34.noid x.Vector_) (z6 (law2.noid x.Clock) (z6 (law39.noid x.Part) (z6 (law3.noid x.Site) (z6 (law3.noid x.Sponsor) (z6 (law2.noid x.Length) (trivial))))))))))))))), (fun ks h => nomatch h), (fun l s h => nomatch h), (fun s l h => nomatch h)⟩
theorem decx42 {x : TV τ} {a : GMsg} (h : dec42 x = some a) : ∃ x0 x1 x2 x3 x4 x5 x6 x7 x8 x9 x10 x11 x12 x13, x = .agg [x0, x1, x2, x3, x4, x5, x6, x7, x8, x9, x10, x11, x12, x13] ∧ dec3 x0 = some a.Kind ∧ dec23 x1 = some a.From ∧ dec23 x2 = some a.To ∧ dec25 x3 = some a.Ballot ∧ dec2 x4 = some a.Slot ∧ dec26 x5 = some a.List_ ∧ dec41 x6 = some a.Entry ∧ dec2 x7 = some a.Number ∧ dec34 x8 = some a.Vector_ ∧ dec2 x9 = some a.Clock ∧ dec3 x10 = some a.Origin ∧ dec31 x11 = some a.Ops ∧ dec36 x12 = some a.Epoch ∧ dec39 x13 = some a.Part := by
  unfold dec42 at h
  split at h
  · rename_i x0 x1 x2 x3 x4 x5 x6 x7 x8 x9 x10 x11 x12 x13
    split at h
    · rename_i a0 h0
      split at h
      · rename_i a1 h1
        split at h
        · rename_i a2 h2
          split at h
          · rename_i a3 h3
            split at h
            · rename_i a4 h4
              split at h
              · rename_i a5 h5
                split at h
                · rename_i a6 h6
                  split at h
                  · rename_i a7 h7
                    split at h
                    · rename_i a8 h8
                      split at h
                      · rename_i a9 h9
                        split at h
                        · rename_i a10 h10
                          split at h
                          · rename_i a11 h11
                            split at h
                            · rename_i a12 h12
                              split at h
                              · rename_i a13 h13
                                cases h
                                exact ⟨_, _, _, _, _, _, _, _, _, _, _, _, _, _, rfl, h0, h1, h2, h3, h4, h5, h6, h7, h8, h9, h10, h11, h12, h13⟩
                              · cases h
                            · cases h
                          · cases h
                        · cases h
                      · cases h
                    · cases h
                  · cases h
                · cases h
              · cases h
            · cases h
          · cases h
        · cases h
      · cases h
    · cases h
  · cases h
theorem law42 : CodAt C 42 := ⟨fun x => by show ((enc3 x.Kind).cells C ++ ((enc23 x.From).cells C ++ ((enc23 x.To).cells C ++ ((enc25 x.Ballot).cells C ++ ((enc2 x.Slot).cells C ++ ((enc26 x.List_).cells C ++ ((enc41 x.Entry).cells C ++ ((enc2 x.Number).cells C ++ ((enc34 x.Vector_).cells C ++ ((enc2 x.Clock).cells C ++ ((enc3 x.Origin).cells C ++ ((enc31 x.Ops).cells C ++ ((enc36 x.Epoch).cells C ++ ((enc39 x.Part).cells C ++ [])))))))))))))) = cel42 x; unfold cel42; exact congr (congrArg (· ++ ·) (law3.cel x.Kind)) (congr (congrArg (· ++ ·) (law23.cel x.From)) (congr (congrArg (· ++ ·) (law23.cel x.To)) (congr (congrArg (· ++ ·) (law25.cel x.Ballot)) (congr (congrArg (· ++ ·) (law2.cel x.Slot)) (congr (congrArg (· ++ ·) (law26.cel x.List_)) (congr (congrArg (· ++ ·) (law41.cel x.Entry)) (congr (congrArg (· ++ ·) (law2.cel x.Number)) (congr (congrArg (· ++ ·) (law34.cel x.Vector_)) (congr (congrArg (· ++ ·) (law2.cel x.Clock)) (congr (congrArg (· ++ ·) (law3.cel x.Origin)) (congr (congrArg (· ++ ·) (law31.cel x.Ops)) (congr (congrArg (· ++ ·) (law36.cel x.Epoch)) (congr (congrArg (· ++ ·) (law39.cel x.Part)) (rfl)))))))))))))), fun x => by show ((cel3 x.Kind ++ (cel23 x.From ++ (cel23 x.To ++ (cel25 x.Ballot ++ (cel2 x.Slot ++ (cel26 x.List_ ++ (cel41 x.Entry ++ (cel2 x.Number ++ (cel34 x.Vector_ ++ (cel2 x.Clock ++ (cel3 x.Origin ++ (cel31 x.Ops ++ (cel36 x.Epoch ++ (cel39 x.Part ++ []))))))))))))))).length = 106; rw [List.length_append, List.length_append, List.length_append, List.length_append, List.length_append, List.length_append, List.length_append, List.length_append, List.length_append, List.length_append, List.length_append, List.length_append, List.length_append, List.length_append]; have e0 : (cel3 x.Kind).length = 1 := law3.len x.Kind; have e1 : (cel23 x.From).length = 2 := law23.len x.From; have e2 : (cel23 x.To).length = 2 := law23.len x.To; have e3 : (cel25 x.Ballot).length = 2 := law25.len x.Ballot; have e4 : (cel2 x.Slot).length = 1 := law2.len x.Slot; have e5 : (cel26 x.List_).length = 1 := law26.len x.List_; have e6 : (cel41 x.Entry).length = 56 := law41.len x.Entry; have e7 : (cel2 x.Number).length = 1 := law2.len x.Number; have e8 : (cel34 x.Vector_).length = 8 := law34.len x.Vector_; have e9 : (cel2 x.Clock).length = 1 := law2.len x.Clock; have e10 : (cel3 x.Origin).length = 1 := law3.len x.Origin; have e11 : (cel31 x.Ops).length = 1 := law31.len x.Ops; have e12 : (cel36 x.Epoch).length = 25 := law36.len x.Epoch; have e13 : (cel39 x.Part).length = 4 := law39.len x.Part; simp only [e0, e1, e2, e3, e4, e5, e6, e7, e8, e9, e10, e11, e12, e13, List.length_nil], fun x a h => by obtain ⟨x0, x1, x2, x3, x4, x5, x6, x7, x8, x9, x10, x11, x12, x13, rfl, h0, h1, h2, h3, h4, h5, h6, h7, h8, h9, h10, h11, h12, h13⟩ := decx42 (show dec42 x = some a from h); exact CW.append (law3.dec _ _ h0) (CW.append (law23.dec _ _ h1) (CW.append (law23.dec _ _ h2) (CW.append (law25.dec _ _ h3) (CW.append (law2.dec _ _ h4) (CW.append (law26.dec _ _ h5) (CW.append (law41.dec _ _ h6) (CW.append (law2.dec _ _ h7) (CW.append (law34.dec _ _ h8) (CW.append (law2.dec _ _ h9) (CW.append (law3.dec _ _ h10) (CW.append (law31.dec _ _ h11) (CW.append (law36.dec _ _ h12) (CW.append (law39.dec _ _ h13) (CW.refl [])))))))))))))), fun x => by show (((enc3 x.Kind).ok && ((enc23 x.From).ok && ((enc23 x.To).ok && ((enc25 x.Ballot).ok && ((enc2 x.Slot).ok && ((enc26 x.List_).ok && ((enc41 x.Entry).ok && ((enc2 x.Number).ok && ((enc34 x.Vector_).ok && ((enc2 x.Clock).ok && ((enc3 x.Origin).ok && ((enc31 x.Ops).ok && ((enc36 x.Epoch).ok && ((enc39 x.Part).ok && true))))))))))))))) = true; simp only [show (enc3 x.Kind).ok = true from law3.ok _, show (enc23 x.From).ok = true from law23.ok _, show (enc23 x.To).ok = true from law23.ok _, show (enc25 x.Ballot).ok = true from law25.ok _, show (enc2 x.Slot).ok = true from law2.ok _, show (enc26 x.List_).ok = true from law26.ok _, show (enc41 x.Entry).ok = true from law41.ok _, show (enc2 x.Number).ok = true from law2.ok _, show (enc34 x.Vector_).ok = true from law34.ok _, show (enc2 x.Clock).ok = true from law2.ok _, show (enc3 x.Origin).ok = true from law3.ok _, show (enc31 x.Ops).ok = true from law31.ok _, show (enc36 x.Epoch).ok = true from law36.ok _, show (enc39 x.Part).ok = true from law39.ok _, Bool.and_self], fun x a h => by obtain ⟨x0, x1, x2, x3, x4, x5, x6, x7, x8, x9, x10, x11, x12, x13, rfl, h0, h1, h2, h3, h4, h5, h6, h7, h8, h9, h10, h11, h12, h13⟩ := decx42 (show dec42 x = some a from h); show ((x0.ok && (x1.ok && (x2.ok && (x3.ok && (x4.ok && (x5.ok && (x6.ok && (x7.ok && (x8.ok && (x9.ok && (x10.ok && (x11.ok && (x12.ok && (x13.ok && true))))))))))))))) = true; simp only [law3.decok _ _ h0, law23.decok _ _ h1, law23.decok _ _ h2, law25.decok _ _ h3, law2.decok _ _ h4, law26.decok _ _ h5, law41.decok _ _ h6, law2.decok _ _ h7, law34.decok _ _ h8, law2.decok _ _ h9, law3.decok _ _ h10, law31.decok _ _ h11, law36.decok _ _ h12, law39.decok _ _ h13, Bool.and_self], fun x a h => by obtain ⟨x0, x1, x2, x3, x4, x5, x6, x7, x8, x9, x10, x11, x12, x13, rfl, h0, h1, h2, h3, h4, h5, h6, h7, h8, h9, h10, h11, h12, h13⟩ := decx42 (show dec42 x = some a from h); rfl, fun x => by show ((cel3 x.Kind ++ (cel23 x.From ++ (cel23 x.To ++ (cel25 x.Ballot ++ (cel2 x.Slot ++ (cel26 x.List_ ++ (cel41 x.Entry ++ (cel2 x.Number ++ (cel34 x.Vector_ ++ (cel2 x.Clock ++ (cel3 x.Origin ++ (cel31 x.Ops ++ (cel36 x.Epoch ++ (cel39 x.Part ++ []))))))))))))))).all AV.one = true; simp only [List.all_append, List.all_nil, show (cel3 x.Kind).all AV.one = true from law3.one _, show (cel23 x.From).all AV.one = true from law23.one _, show (cel23 x.To).all AV.one = true from law23.one _, show (cel25 x.Ballot).all AV.one = true from law25.one _, show (cel2 x.Slot).all AV.one = true from law2.one _, show (cel26 x.List_).all AV.one = true from law26.one _, show (cel41 x.Entry).all AV.one = true from law41.one _, show (cel2 x.Number).all AV.one = true from law2.one _, show (cel34 x.Vector_).all AV.one = true from law34.one _, show (cel2 x.Clock).all AV.one = true from law2.one _, show (cel3 x.Origin).all AV.one = true from law3.one _, show (cel31 x.Ops).all AV.one = true from law31.one _, show (cel36 x.Epoch).all AV.one = true from law36.one _, show (cel39 x.Part).all AV.one = true from law39.one _, Bool.and_self], fun x => z6 (law3.noid x.Kind) (z6 (law23.noid x.From) (z6 (law23.noid x.To) (z6 (law25.noid x.Ballot) (z6 (law2.noid x.Slot) (z6 (law26.noid x.List_) (z6 (law41.noid x.Entry) (z6 (law2.noid x.Number) (z6 (law34.noid x.Vector_) (z6 (law2.noid x.Clock) (z6 (law3.noid x.Origin) (z6 (law31.noid x.Ops) (z6 (law36.noid x.Epoch) (z6 (law39.noid x.Part) (trivial)))))))))))))), (fun ks h => nomatch h), (fun l s h => nomatch h), (fun s l h => nomatch h)⟩
theorem decx43 {x : TV τ} {a : GMsg} (h : dec43 x = some a) : ∃ x0 x1 x2 x3 x4 x5 x6 x7 x8 x9 x10 x11 x12 x13, x = .agg [x0, x1, x2, x3, x4, x5, x6, x7, x8, x9, x10, x11, x12, x13] ∧ dec3 x0 = some a.Kind ∧ dec23 x1 = some a.From ∧ dec23 x2 = some a.To ∧ dec25 x3 = some a.Ballot ∧ dec2 x4 = some a.Slot ∧ dec26 x5 = some a.List_ ∧ dec41 x6 = some a.Entry ∧ dec2 x7 = some a.Number ∧ dec34 x8 = some a.Vector_ ∧ dec2 x9 = some a.Clock ∧ dec3 x10 = some a.Origin ∧ dec31 x11 = some a.Ops ∧ dec36 x12 = some a.Epoch ∧ dec39 x13 = some a.Part := by
  unfold dec43 at h
  split at h
  · rename_i x0 x1 x2 x3 x4 x5 x6 x7 x8 x9 x10 x11 x12 x13
    split at h
    · rename_i a0 h0
      split at h
      · rename_i a1 h1
        split at h
        · rename_i a2 h2
          split at h
          · rename_i a3 h3
            split at h
            · rename_i a4 h4
              split at h
              · rename_i a5 h5
                split at h
                · rename_i a6 h6
                  split at h
                  · rename_i a7 h7
                    split at h
                    · rename_i a8 h8
                      split at h
                      · rename_i a9 h9
                        split at h
                        · rename_i a10 h10
                          split at h
                          · rename_i a11 h11
                            split at h
                            · rename_i a12 h12
                              split at h
                              · rename_i a13 h13
                                cases h
                                exact ⟨_, _, _, _, _, _, _, _, _, _, _, _, _, _, rfl, h0, h1, h2, h3, h4, h5, h6, h7, h8, h9, h10, h11, h12, h13⟩
                              · cases h
                            · cases h
                          · cases h
                        · cases h
                      · cases h
                    · cases h
                  · cases h
                · cases h
              · cases h
            · cases h
          · cases h
        · cases h
      · cases h
    · cases h
  · cases h
theorem law43 : CodAt C 43 := ⟨fun x => by show ((enc3 x.Kind).cells C ++ ((enc23 x.From).cells C ++ ((enc23 x.To).cells C ++ ((enc25 x.Ballot).cells C ++ ((enc2 x.Slot).cells C ++ ((enc26 x.List_).cells C ++ ((enc41 x.Entry).cells C ++ ((enc2 x.Number).cells C ++ ((enc34 x.Vector_).cells C ++ ((enc2 x.Clock).cells C ++ ((enc3 x.Origin).cells C ++ ((enc31 x.Ops).cells C ++ ((enc36 x.Epoch).cells C ++ ((enc39 x.Part).cells C ++ [])))))))))))))) = cel43 x; unfold cel43; exact congr (congrArg (· ++ ·) (law3.cel x.Kind)) (congr (congrArg (· ++ ·) (law23.cel x.From)) (congr (congrArg (· ++ ·) (law23.cel x.To)) (congr (congrArg (· ++ ·) (law25.cel x.Ballot)) (congr (congrArg (· ++ ·) (law2.cel x.Slot)) (congr (congrArg (· ++ ·) (law26.cel x.List_)) (congr (congrArg (· ++ ·) (law41.cel x.Entry)) (congr (congrArg (· ++ ·) (law2.cel x.Number)) (congr (congrArg (· ++ ·) (law34.cel x.Vector_)) (congr (congrArg (· ++ ·) (law2.cel x.Clock)) (congr (congrArg (· ++ ·) (law3.cel x.Origin)) (congr (congrArg (· ++ ·) (law31.cel x.Ops)) (congr (congrArg (· ++ ·) (law36.cel x.Epoch)) (congr (congrArg (· ++ ·) (law39.cel x.Part)) (rfl)))))))))))))), fun x => by show ((cel3 x.Kind ++ (cel23 x.From ++ (cel23 x.To ++ (cel25 x.Ballot ++ (cel2 x.Slot ++ (cel26 x.List_ ++ (cel41 x.Entry ++ (cel2 x.Number ++ (cel34 x.Vector_ ++ (cel2 x.Clock ++ (cel3 x.Origin ++ (cel31 x.Ops ++ (cel36 x.Epoch ++ (cel39 x.Part ++ []))))))))))))))).length = 106; rw [List.length_append, List.length_append, List.length_append, List.length_append, List.length_append, List.length_append, List.length_append, List.length_append, List.length_append, List.length_append, List.length_append, List.length_append, List.length_append, List.length_append]; have e0 : (cel3 x.Kind).length = 1 := law3.len x.Kind; have e1 : (cel23 x.From).length = 2 := law23.len x.From; have e2 : (cel23 x.To).length = 2 := law23.len x.To; have e3 : (cel25 x.Ballot).length = 2 := law25.len x.Ballot; have e4 : (cel2 x.Slot).length = 1 := law2.len x.Slot; have e5 : (cel26 x.List_).length = 1 := law26.len x.List_; have e6 : (cel41 x.Entry).length = 56 := law41.len x.Entry; have e7 : (cel2 x.Number).length = 1 := law2.len x.Number; have e8 : (cel34 x.Vector_).length = 8 := law34.len x.Vector_; have e9 : (cel2 x.Clock).length = 1 := law2.len x.Clock; have e10 : (cel3 x.Origin).length = 1 := law3.len x.Origin; have e11 : (cel31 x.Ops).length = 1 := law31.len x.Ops; have e12 : (cel36 x.Epoch).length = 25 := law36.len x.Epoch; have e13 : (cel39 x.Part).length = 4 := law39.len x.Part; simp only [e0, e1, e2, e3, e4, e5, e6, e7, e8, e9, e10, e11, e12, e13, List.length_nil], fun x a h => by obtain ⟨x0, x1, x2, x3, x4, x5, x6, x7, x8, x9, x10, x11, x12, x13, rfl, h0, h1, h2, h3, h4, h5, h6, h7, h8, h9, h10, h11, h12, h13⟩ := decx43 (show dec43 x = some a from h); exact CW.append (law3.dec _ _ h0) (CW.append (law23.dec _ _ h1) (CW.append (law23.dec _ _ h2) (CW.append (law25.dec _ _ h3) (CW.append (law2.dec _ _ h4) (CW.append (law26.dec _ _ h5) (CW.append (law41.dec _ _ h6) (CW.append (law2.dec _ _ h7) (CW.append (law34.dec _ _ h8) (CW.append (law2.dec _ _ h9) (CW.append (law3.dec _ _ h10) (CW.append (law31.dec _ _ h11) (CW.append (law36.dec _ _ h12) (CW.append (law39.dec _ _ h13) (CW.refl [])))))))))))))), fun x => by show (((enc3 x.Kind).ok && ((enc23 x.From).ok && ((enc23 x.To).ok && ((enc25 x.Ballot).ok && ((enc2 x.Slot).ok && ((enc26 x.List_).ok && ((enc41 x.Entry).ok && ((enc2 x.Number).ok && ((enc34 x.Vector_).ok && ((enc2 x.Clock).ok && ((enc3 x.Origin).ok && ((enc31 x.Ops).ok && ((enc36 x.Epoch).ok && ((enc39 x.Part).ok && true))))))))))))))) = true; simp only [show (enc3 x.Kind).ok = true from law3.ok _, show (enc23 x.From).ok = true from law23.ok _, show (enc23 x.To).ok = true from law23.ok _, show (enc25 x.Ballot).ok = true from law25.ok _, show (enc2 x.Slot).ok = true from law2.ok _, show (enc26 x.List_).ok = true from law26.ok _, show (enc41 x.Entry).ok = true from law41.ok _, show (enc2 x.Number).ok = true from law2.ok _, show (enc34 x.Vector_).ok = true from law34.ok _, show (enc2 x.Clock).ok = true from law2.ok _, show (enc3 x.Origin).ok = true from law3.ok _, show (enc31 x.Ops).ok = true from law31.ok _, show (enc36 x.Epoch).ok = true from law36.ok _, show (enc39 x.Part).ok = true from law39.ok _, Bool.and_self], fun x a h => by obtain ⟨x0, x1, x2, x3, x4, x5, x6, x7, x8, x9, x10, x11, x12, x13, rfl, h0, h1, h2, h3, h4, h5, h6, h7, h8, h9, h10, h11, h12, h13⟩ := decx43 (show dec43 x = some a from h); show ((x0.ok && (x1.ok && (x2.ok && (x3.ok && (x4.ok && (x5.ok && (x6.ok && (x7.ok && (x8.ok && (x9.ok && (x10.ok && (x11.ok && (x12.ok && (x13.ok && true))))))))))))))) = true; simp only [law3.decok _ _ h0, law23.decok _ _ h1, law23.decok _ _ h2, law25.decok _ _ h3, law2.decok _ _ h4, law26.decok _ _ h5, law41.decok _ _ h6, law2.decok _ _ h7, law34.decok _ _ h8, law2.decok _ _ h9, law3.decok _ _ h10, law31.decok _ _ h11, law36.decok _ _ h12, law39.decok _ _ h13, Bool.and_self], fun x a h => by obtain ⟨x0, x1, x2, x3, x4, x5, x6, x7, x8, x9, x10, x11, x12, x13, rfl, h0, h1, h2, h3, h4, h5, h6, h7, h8, h9, h10, h11, h12, h13⟩ := decx43 (show dec43 x = some a from h); rfl, fun x => by show ((cel3 x.Kind ++ (cel23 x.From ++ (cel23 x.To ++ (cel25 x.Ballot ++ (cel2 x.Slot ++ (cel26 x.List_ ++ (cel41 x.Entry ++ (cel2 x.Number ++ (cel34 x.Vector_ ++ (cel2 x.Clock ++ (cel3 x.Origin ++ (cel31 x.Ops ++ (cel36 x.Epoch ++ (cel39 x.Part ++ []))))))))))))))).all AV.one = true; simp only [List.all_append, List.all_nil, show (cel3 x.Kind).all AV.one = true from law3.one _, show (cel23 x.From).all AV.one = true from law23.one _, show (cel23 x.To).all AV.one = true from law23.one _, show (cel25 x.Ballot).all AV.one = true from law25.one _, show (cel2 x.Slot).all AV.one = true from law2.one _, show (cel26 x.List_).all AV.one = true from law26.one _, show (cel41 x.Entry).all AV.one = true from law41.one _, show (cel2 x.Number).all AV.one = true from law2.one _, show (cel34 x.Vector_).all AV.one = true from law34.one _, show (cel2 x.Clock).all AV.one = true from law2.one _, show (cel3 x.Origin).all AV.one = true from law3.one _, show (cel31 x.Ops).all AV.one = true from law31.one _, show (cel36 x.Epoch).all AV.one = true from law36.one _, show (cel39 x.Part).all AV.one = true from law39.one _, Bool.and_self], fun x => z6 (law3.noid x.Kind) (z6 (law23.noid x.From) (z6 (law23.noid x.To) (z6 (law25.noid x.Ballot) (z6 (law2.noid x.Slot) (z6 (law26.noid x.List_) (z6 (law41.noid x.Entry) (z6 (law2.noid x.Number) (z6 (law34.noid x.Vector_) (z6 (law2.noid x.Clock) (z6 (law3.noid x.Origin) (z6 (law31.noid x.Ops) (z6 (law36.noid x.Epoch) (z6 (law39.noid x.Part) (trivial)))))))))))))), (fun ks h => nomatch h), (fun l s h => nomatch h), (fun s l h => nomatch h)⟩
theorem law44 : CodAt C 44 := ⟨fun x => rfl, fun x => rfl, fun x a h => by rw [z5p (show dInt .u16 x = some a from h)]; exact .refl _, fun x => rfl, fun x a h => by rw [z5p (show dInt .u16 x = some a from h)]; rfl, fun x a h => by rw [z5p (show dInt .u16 x = some a from h)]; rfl, fun a => rfl, fun a => z1y (NoId.v _), fun ks h a b => by cases h; simp [z19, scal, C, celT, cel44, beqT, beq44], (fun l s h => nomatch h), (fun s l h => nomatch h)⟩
theorem law48 : CodAt C 48 := ⟨fun x => rfl, fun x => rfl, fun x a h => by rw [z5p (show dInt .i64 x = some a from h)]; exact .refl _, fun x => rfl, fun x a h => by rw [z5p (show dInt .i64 x = some a from h)]; rfl, fun x a h => by rw [z5p (show dInt .i64 x = some a from h)]; rfl, fun a => rfl, fun a => z1y (NoId.v _), fun ks h a b => by cases h; simp [z19, scal, C, celT, cel48, beqT, beq48], (fun l s h => nomatch h), (fun s l h => nomatch h)⟩
theorem law59 : CodAt C 59 := ⟨fun x => rfl, fun x => rfl, fun x a h => (z45 (C := C) (show dSl 43 x = some a from h)).1, fun x => rfl, fun x a h => (z45 (C := C) (show dSl 43 x = some a from h)).2.1, fun x a h => (z45 (C := C) (show dSl 43 x = some a from h)).2.2, fun a => rfl, fun a => z1y (NoId.asl fun cs hc => by obtain ⟨y, _, rfl⟩ := List.mem_map.1 hc; exact law43.noid y), (fun ks h => nomatch h), (fun l s h => nomatch h), (fun s l h => nomatch h)⟩
theorem law60 : CodAt C 60 := ⟨fun x => rfl, fun x => rfl, fun x a h => (z45 (C := C) (show dSl 2 x = some a from h)).1, fun x => rfl, fun x a h => (z45 (C := C) (show dSl 2 x = some a from h)).2.1, fun x a h => (z45 (C := C) (show dSl 2 x = some a from h)).2.2, fun a => rfl, fun a => z1y (NoId.asl fun cs hc => by obtain ⟨y, _, rfl⟩ := List.mem_map.1 hc; exact law2.noid y), (fun ks h => nomatch h), (fun l s h => nomatch h), (fun s l h => nomatch h)⟩
theorem decx64 {x : TV τ} {a : GSent} (h : dec64 x = some a) : ∃ x0 x1 x2 x3, x = .agg [x0, x1, x2, x3] ∧ dec2 x0 = some a.Number ∧ dec23 x1 = some a.From ∧ dec23 x2 = some a.To ∧ dec37 x3 = some a.Data := by
  unfold dec64 at h
  split at h
  · rename_i x0 x1 x2 x3
    split at h
    · rename_i a0 h0
      split at h
      · rename_i a1 h1
        split at h
        · rename_i a2 h2
          split at h
          · rename_i a3 h3
            cases h
            exact ⟨_, _, _, _, rfl, h0, h1, h2, h3⟩
          · cases h
        · cases h
      · cases h
    · cases h
  · cases h
theorem law64 : CodAt C 64 := ⟨fun x => by show ((enc2 x.Number).cells C ++ ((enc23 x.From).cells C ++ ((enc23 x.To).cells C ++ ((enc37 x.Data).cells C ++ [])))) = cel64 x; unfold cel64; exact congr (congrArg (· ++ ·) (law2.cel x.Number)) (congr (congrArg (· ++ ·) (law23.cel x.From)) (congr (congrArg (· ++ ·) (law23.cel x.To)) (congr (congrArg (· ++ ·) (law37.cel x.Data)) (rfl)))), fun x => by show ((cel2 x.Number ++ (cel23 x.From ++ (cel23 x.To ++ (cel37 x.Data ++ []))))).length = 6; rw [List.length_append, List.length_append, List.length_append, List.length_append]; have e0 : (cel2 x.Number).length = 1 := law2.len x.Number; have e1 : (cel23 x.From).length = 2 := law23.len x.From; have e2 : (cel23 x.To).length = 2 := law23.len x.To; have e3 : (cel37 x.Data).length = 1 := law37.len x.Data; simp only [e0, e1, e2, e3, List.length_nil], fun x a h => by obtain ⟨x0, x1, x2, x3, rfl, h0, h1, h2, h3⟩ := decx64 (show dec64 x = some a from h); exact CW.append (law2.dec _ _ h0) (CW.append (law23.dec _ _ h1) (CW.append (law23.dec _ _ h2) (CW.append (law37.dec _ _ h3) (CW.refl [])))), fun x => by show (((enc2 x.Number).ok && ((enc23 x.From).ok && ((enc23 x.To).ok && ((enc37 x.Data).ok && true))))) = true; simp only [show (enc2 x.Number).ok = true from law2.ok _, show (enc23 x.From).ok = true from law23.ok _, show (enc23 x.To).ok = true from law23.ok _, show (enc37 x.Data).ok = true from law37.ok _, Bool.and_self], fun x a h => by obtain ⟨x0, x1, x2, x3, rfl, h0, h1, h2, h3⟩ := decx64 (show dec64 x = some a from h); show ((x0.ok && (x1.ok && (x2.ok && (x3.ok && true))))) = true; simp only [law2.decok _ _ h0, law23.decok _ _ h1, law23.decok _ _ h2, law37.decok _ _ h3, Bool.and_self], fun x a h => by obtain ⟨x0, x1, x2, x3, rfl, h0, h1, h2, h3⟩ := decx64 (show dec64 x = some a from h); rfl, fun x => by show ((cel2 x.Number ++ (cel23 x.From ++ (cel23 x.To ++ (cel37 x.Data ++ []))))).all AV.one = true; simp only [List.all_append, List.all_nil, show (cel2 x.Number).all AV.one = true from law2.one _, show (cel23 x.From).all AV.one = true from law23.one _, show (cel23 x.To).all AV.one = true from law23.one _, show (cel37 x.Data).all AV.one = true from law37.one _, Bool.and_self], fun x => z6 (law2.noid x.Number) (z6 (law23.noid x.From) (z6 (law23.noid x.To) (z6 (law37.noid x.Data) (trivial)))), (fun ks h => nomatch h), (fun l s h => nomatch h), (fun s l h => nomatch h)⟩
theorem decx65 {x : TV τ} {a : GSent} (h : dec65 x = some a) : ∃ x0 x1 x2 x3, x = .agg [x0, x1, x2, x3] ∧ dec2 x0 = some a.Number ∧ dec23 x1 = some a.From ∧ dec23 x2 = some a.To ∧ dec37 x3 = some a.Data := by
  unfold dec65 at h
  split at h
  · rename_i x0 x1 x2 x3
    split at h
    · rename_i a0 h0
      split at h
      · rename_i a1 h1
        split at h
        · rename_i a2 h2
          split at h
          · rename_i a3 h3
            cases h
            exact ⟨_, _, _, _, rfl, h0, h1, h2, h3⟩
          · cases h
        · cases h
      · cases h
    · cases h
  · cases h
theorem law65 : CodAt C 65 := ⟨fun x => by show ((enc2 x.Number).cells C ++ ((enc23 x.From).cells C ++ ((enc23 x.To).cells C ++ ((enc37 x.Data).cells C ++ [])))) = cel65 x; unfold cel65; exact congr (congrArg (· ++ ·) (law2.cel x.Number)) (congr (congrArg (· ++ ·) (law23.cel x.From)) (congr (congrArg (· ++ ·) (law23.cel x.To)) (congr (congrArg (· ++ ·) (law37.cel x.Data)) (rfl)))), fun x => by show ((cel2 x.Number ++ (cel23 x.From ++ (cel23 x.To ++ (cel37 x.Data ++ []))))).length = 6; rw [List.length_append, List.length_append, List.length_append, List.length_append]; have e0 : (cel2 x.Number).length = 1 := law2.len x.Number; have e1 : (cel23 x.From).length = 2 := law23.len x.From; have e2 : (cel23 x.To).length = 2 := law23.len x.To; have e3 : (cel37 x.Data).length = 1 := law37.len x.Data; simp only [e0, e1, e2, e3, List.length_nil], fun x a h => by obtain ⟨x0, x1, x2, x3, rfl, h0, h1, h2, h3⟩ := decx65 (show dec65 x = some a from h); exact CW.append (law2.dec _ _ h0) (CW.append (law23.dec _ _ h1) (CW.append (law23.dec _ _ h2) (CW.append (law37.dec _ _ h3) (CW.refl [])))), fun x => by show (((enc2 x.Number).ok && ((enc23 x.From).ok && ((enc23 x.To).ok && ((enc37 x.Data).ok && true))))) = true; simp only [show (enc2 x.Number).ok = true from law2.ok _, show (enc23 x.From).ok = true from law23.ok _, show (enc23 x.To).ok = true from law23.ok _, show (enc37 x.Data).ok = true from law37.ok _, Bool.and_self], fun x a h => by obtain ⟨x0, x1, x2, x3, rfl, h0, h1, h2, h3⟩ := decx65 (show dec65 x = some a from h); show ((x0.ok && (x1.ok && (x2.ok && (x3.ok && true))))) = true; simp only [law2.decok _ _ h0, law23.decok _ _ h1, law23.decok _ _ h2, law37.decok _ _ h3, Bool.and_self], fun x a h => by obtain ⟨x0, x1, x2, x3, rfl, h0, h1, h2, h3⟩ := decx65 (show dec65 x = some a from h); rfl, fun x => by show ((cel2 x.Number ++ (cel23 x.From ++ (cel23 x.To ++ (cel37 x.Data ++ []))))).all AV.one = true; simp only [List.all_append, List.all_nil, show (cel2 x.Number).all AV.one = true from law2.one _, show (cel23 x.From).all AV.one = true from law23.one _, show (cel23 x.To).all AV.one = true from law23.one _, show (cel37 x.Data).all AV.one = true from law37.one _, Bool.and_self], fun x => z6 (law2.noid x.Number) (z6 (law23.noid x.From) (z6 (law23.noid x.To) (z6 (law37.noid x.Data) (trivial)))), (fun ks h => nomatch h), (fun l s h => nomatch h), (fun s l h => nomatch h)⟩
theorem law70 : CodAt C 70 := ⟨fun x => rfl, fun x => rfl, fun x a h => (z45 (C := C) (show dSl 23 x = some a from h)).1, fun x => rfl, fun x a h => (z45 (C := C) (show dSl 23 x = some a from h)).2.1, fun x a h => (z45 (C := C) (show dSl 23 x = some a from h)).2.2, fun a => rfl, fun a => z1y (NoId.asl fun cs hc => by obtain ⟨y, _, rfl⟩ := List.mem_map.1 hc; exact law23.noid y), (fun ks h => nomatch h), (fun l s h => nomatch h), (fun s l h => nomatch h)⟩
theorem decx72 {x : TV τ} {a : zy} (h : dec72 x = some a) : ∃ x0 x1 x2 x3 x4 x5 x6, x = .agg [x0, x1, x2, x3, x4, x5, x6] ∧ dec3 x0 = some a.Kind ∧ dec59 x1 = some a.Msgs ∧ dec2 x2 = some a.Number ∧ dec3 x3 = some a.Place ∧ dec5 x4 = some a.With ∧ dec70 x5 = some a.Addrs ∧ dec3 x6 = some a.Stop := by
  unfold dec72 at h
  split at h
  · rename_i x0 x1 x2 x3 x4 x5 x6
    split at h
    · rename_i a0 h0
      split at h
      · rename_i a1 h1
        split at h
        · rename_i a2 h2
          split at h
          · rename_i a3 h3
            split at h
            · rename_i a4 h4
              split at h
              · rename_i a5 h5
                split at h
                · rename_i a6 h6
                  cases h
                  exact ⟨_, _, _, _, _, _, _, rfl, h0, h1, h2, h3, h4, h5, h6⟩
                · cases h
              · cases h
            · cases h
          · cases h
        · cases h
      · cases h
    · cases h
  · cases h
theorem law72 : CodAt C 72 := ⟨fun x => by show ((enc3 x.Kind).cells C ++ ((enc59 x.Msgs).cells C ++ ((enc2 x.Number).cells C ++ ((enc3 x.Place).cells C ++ ((enc5 x.With).cells C ++ ((enc70 x.Addrs).cells C ++ ((enc3 x.Stop).cells C ++ []))))))) = cel72 x; unfold cel72; exact congr (congrArg (· ++ ·) (law3.cel x.Kind)) (congr (congrArg (· ++ ·) (law59.cel x.Msgs)) (congr (congrArg (· ++ ·) (law2.cel x.Number)) (congr (congrArg (· ++ ·) (law3.cel x.Place)) (congr (congrArg (· ++ ·) (law5.cel x.With)) (congr (congrArg (· ++ ·) (law70.cel x.Addrs)) (congr (congrArg (· ++ ·) (law3.cel x.Stop)) (rfl))))))), fun x => by show ((cel3 x.Kind ++ (cel59 x.Msgs ++ (cel2 x.Number ++ (cel3 x.Place ++ (cel5 x.With ++ (cel70 x.Addrs ++ (cel3 x.Stop ++ [])))))))).length = 7; rw [List.length_append, List.length_append, List.length_append, List.length_append, List.length_append, List.length_append, List.length_append]; have e0 : (cel3 x.Kind).length = 1 := law3.len x.Kind; have e1 : (cel59 x.Msgs).length = 1 := law59.len x.Msgs; have e2 : (cel2 x.Number).length = 1 := law2.len x.Number; have e3 : (cel3 x.Place).length = 1 := law3.len x.Place; have e4 : (cel5 x.With).length = 1 := law5.len x.With; have e5 : (cel70 x.Addrs).length = 1 := law70.len x.Addrs; have e6 : (cel3 x.Stop).length = 1 := law3.len x.Stop; simp only [e0, e1, e2, e3, e4, e5, e6, List.length_nil], fun x a h => by obtain ⟨x0, x1, x2, x3, x4, x5, x6, rfl, h0, h1, h2, h3, h4, h5, h6⟩ := decx72 (show dec72 x = some a from h); exact CW.append (law3.dec _ _ h0) (CW.append (law59.dec _ _ h1) (CW.append (law2.dec _ _ h2) (CW.append (law3.dec _ _ h3) (CW.append (law5.dec _ _ h4) (CW.append (law70.dec _ _ h5) (CW.append (law3.dec _ _ h6) (CW.refl []))))))), fun x => by show (((enc3 x.Kind).ok && ((enc59 x.Msgs).ok && ((enc2 x.Number).ok && ((enc3 x.Place).ok && ((enc5 x.With).ok && ((enc70 x.Addrs).ok && ((enc3 x.Stop).ok && true)))))))) = true; simp only [show (enc3 x.Kind).ok = true from law3.ok _, show (enc59 x.Msgs).ok = true from law59.ok _, show (enc2 x.Number).ok = true from law2.ok _, show (enc3 x.Place).ok = true from law3.ok _, show (enc5 x.With).ok = true from law5.ok _, show (enc70 x.Addrs).ok = true from law70.ok _, show (enc3 x.Stop).ok = true from law3.ok _, Bool.and_self], fun x a h => by obtain ⟨x0, x1, x2, x3, x4, x5, x6, rfl, h0, h1, h2, h3, h4, h5, h6⟩ := decx72 (show dec72 x = some a from h); show ((x0.ok && (x1.ok && (x2.ok && (x3.ok && (x4.ok && (x5.ok && (x6.ok && true)))))))) = true; simp only [law3.decok _ _ h0, law59.decok _ _ h1, law2.decok _ _ h2, law3.decok _ _ h3, law5.decok _ _ h4, law70.decok _ _ h5, law3.decok _ _ h6, Bool.and_self], fun x a h => by obtain ⟨x0, x1, x2, x3, x4, x5, x6, rfl, h0, h1, h2, h3, h4, h5, h6⟩ := decx72 (show dec72 x = some a from h); rfl, fun x => by show ((cel3 x.Kind ++ (cel59 x.Msgs ++ (cel2 x.Number ++ (cel3 x.Place ++ (cel5 x.With ++ (cel70 x.Addrs ++ (cel3 x.Stop ++ [])))))))).all AV.one = true; simp only [List.all_append, List.all_nil, show (cel3 x.Kind).all AV.one = true from law3.one _, show (cel59 x.Msgs).all AV.one = true from law59.one _, show (cel2 x.Number).all AV.one = true from law2.one _, show (cel3 x.Place).all AV.one = true from law3.one _, show (cel5 x.With).all AV.one = true from law5.one _, show (cel70 x.Addrs).all AV.one = true from law70.one _, show (cel3 x.Stop).all AV.one = true from law3.one _, Bool.and_self], fun x => z6 (law3.noid x.Kind) (z6 (law59.noid x.Msgs) (z6 (law2.noid x.Number) (z6 (law3.noid x.Place) (z6 (law5.noid x.With) (z6 (law70.noid x.Addrs) (z6 (law3.noid x.Stop) (trivial))))))), (fun ks h => nomatch h), (fun l s h => nomatch h), (fun s l h => nomatch h)⟩
theorem law69 : CodAt C 69 := ⟨fun x => rfl, fun x => rfl, fun x a h => (z45 (C := C) (show dSl 72 x = some a from h)).1, fun x => rfl, fun x a h => (z45 (C := C) (show dSl 72 x = some a from h)).2.1, fun x a h => (z45 (C := C) (show dSl 72 x = some a from h)).2.2, fun a => rfl, fun a => z1y (NoId.asl fun cs hc => by obtain ⟨y, _, rfl⟩ := List.mem_map.1 hc; exact law72.noid y), (fun ks h => nomatch h), (fun l s h => nomatch h), (fun s l h => nomatch h)⟩
theorem decx71 {x : TV τ} {a : zy} (h : dec71 x = some a) : ∃ x0 x1 x2 x3 x4 x5 x6, x = .agg [x0, x1, x2, x3, x4, x5, x6] ∧ dec3 x0 = some a.Kind ∧ dec59 x1 = some a.Msgs ∧ dec2 x2 = some a.Number ∧ dec3 x3 = some a.Place ∧ dec5 x4 = some a.With ∧ dec70 x5 = some a.Addrs ∧ dec3 x6 = some a.Stop := by
  unfold dec71 at h
  split at h
  · rename_i x0 x1 x2 x3 x4 x5 x6
    split at h
    · rename_i a0 h0
      split at h
      · rename_i a1 h1
        split at h
        · rename_i a2 h2
          split at h
          · rename_i a3 h3
            split at h
            · rename_i a4 h4
              split at h
              · rename_i a5 h5
                split at h
                · rename_i a6 h6
                  cases h
                  exact ⟨_, _, _, _, _, _, _, rfl, h0, h1, h2, h3, h4, h5, h6⟩
                · cases h
              · cases h
            · cases h
          · cases h
        · cases h
      · cases h
    · cases h
  · cases h
theorem law71 : CodAt C 71 := ⟨fun x => by show ((enc3 x.Kind).cells C ++ ((enc59 x.Msgs).cells C ++ ((enc2 x.Number).cells C ++ ((enc3 x.Place).cells C ++ ((enc5 x.With).cells C ++ ((enc70 x.Addrs).cells C ++ ((enc3 x.Stop).cells C ++ []))))))) = cel71 x; unfold cel71; exact congr (congrArg (· ++ ·) (law3.cel x.Kind)) (congr (congrArg (· ++ ·) (law59.cel x.Msgs)) (congr (congrArg (· ++ ·) (law2.cel x.Number)) (congr (congrArg (· ++ ·) (law3.cel x.Place)) (congr (congrArg (· ++ ·) (law5.cel x.With)) (congr (congrArg (· ++ ·) (law70.cel x.Addrs)) (congr (congrArg (· ++ ·) (law3.cel x.Stop)) (rfl))))))), fun x => by show ((cel3 x.Kind ++ (cel59 x.Msgs ++ (cel2 x.Number ++ (cel3 x.Place ++ (cel5 x.With ++ (cel70 x.Addrs ++ (cel3 x.Stop ++ [])))))))).length = 7; rw [List.length_append, List.length_append, List.length_append, List.length_append, List.length_append, List.length_append, List.length_append]; have e0 : (cel3 x.Kind).length = 1 := law3.len x.Kind; have e1 : (cel59 x.Msgs).length = 1 := law59.len x.Msgs; have e2 : (cel2 x.Number).length = 1 := law2.len x.Number; have e3 : (cel3 x.Place).length = 1 := law3.len x.Place; have e4 : (cel5 x.With).length = 1 := law5.len x.With; have e5 : (cel70 x.Addrs).length = 1 := law70.len x.Addrs; have e6 : (cel3 x.Stop).length = 1 := law3.len x.Stop; simp only [e0, e1, e2, e3, e4, e5, e6, List.length_nil], fun x a h => by obtain ⟨x0, x1, x2, x3, x4, x5, x6, rfl, h0, h1, h2, h3, h4, h5, h6⟩ := decx71 (show dec71 x = some a from h); exact CW.append (law3.dec _ _ h0) (CW.append (law59.dec _ _ h1) (CW.append (law2.dec _ _ h2) (CW.append (law3.dec _ _ h3) (CW.append (law5.dec _ _ h4) (CW.append (law70.dec _ _ h5) (CW.append (law3.dec _ _ h6) (CW.refl []))))))), fun x => by show (((enc3 x.Kind).ok && ((enc59 x.Msgs).ok && ((enc2 x.Number).ok && ((enc3 x.Place).ok && ((enc5 x.With).ok && ((enc70 x.Addrs).ok && ((enc3 x.Stop).ok && true)))))))) = true; simp only [show (enc3 x.Kind).ok = true from law3.ok _, show (enc59 x.Msgs).ok = true from law59.ok _, show (enc2 x.Number).ok = true from law2.ok _, show (enc3 x.Place).ok = true from law3.ok _, show (enc5 x.With).ok = true from law5.ok _, show (enc70 x.Addrs).ok = true from law70.ok _, show (enc3 x.Stop).ok = true from law3.ok _, Bool.and_self], fun x a h => by obtain ⟨x0, x1, x2, x3, x4, x5, x6, rfl, h0, h1, h2, h3, h4, h5, h6⟩ := decx71 (show dec71 x = some a from h); show ((x0.ok && (x1.ok && (x2.ok && (x3.ok && (x4.ok && (x5.ok && (x6.ok && true)))))))) = true; simp only [law3.decok _ _ h0, law59.decok _ _ h1, law2.decok _ _ h2, law3.decok _ _ h3, law5.decok _ _ h4, law70.decok _ _ h5, law3.decok _ _ h6, Bool.and_self], fun x a h => by obtain ⟨x0, x1, x2, x3, x4, x5, x6, rfl, h0, h1, h2, h3, h4, h5, h6⟩ := decx71 (show dec71 x = some a from h); rfl, fun x => by show ((cel3 x.Kind ++ (cel59 x.Msgs ++ (cel2 x.Number ++ (cel3 x.Place ++ (cel5 x.With ++ (cel70 x.Addrs ++ (cel3 x.Stop ++ [])))))))).all AV.one = true; simp only [List.all_append, List.all_nil, show (cel3 x.Kind).all AV.one = true from law3.one _, show (cel59 x.Msgs).all AV.one = true from law59.one _, show (cel2 x.Number).all AV.one = true from law2.one _, show (cel3 x.Place).all AV.one = true from law3.one _, show (cel5 x.With).all AV.one = true from law5.one _, show (cel70 x.Addrs).all AV.one = true from law70.one _, show (cel3 x.Stop).all AV.one = true from law3.one _, Bool.and_self], fun x => z6 (law3.noid x.Kind) (z6 (law59.noid x.Msgs) (z6 (law2.noid x.Number) (z6 (law3.noid x.Place) (z6 (law5.noid x.With) (z6 (law70.noid x.Addrs) (z6 (law3.noid x.Stop) (trivial))))))), (fun ks h => nomatch h), (fun l s h => nomatch h), (fun s l h => nomatch h)⟩
theorem law75 : CodAt C 75 := ⟨fun x => rfl, fun x => rfl, fun x a h => (z45 (C := C) (show dSl 65 x = some a from h)).1, fun x => rfl, fun x a h => (z45 (C := C) (show dSl 65 x = some a from h)).2.1, fun x a h => (z45 (C := C) (show dSl 65 x = some a from h)).2.2, fun a => rfl, fun a => z1y (NoId.asl fun cs hc => by obtain ⟨y, _, rfl⟩ := List.mem_map.1 hc; exact law65.noid y), (fun ks h => nomatch h), (fun l s h => nomatch h), (fun s l h => nomatch h)⟩
theorem decx76 {x : TV τ} {a : z18} (h : dec76 x = some a) : ∃ x0 x1, x = .agg [x0, x1] ∧ dec75 x0 = some a.L ∧ dec2 x1 = some a.Last := by
  unfold dec76 at h
  split at h
  · rename_i x0 x1
    split at h
    · rename_i a0 h0
      split at h
      · rename_i a1 h1
        cases h
        exact ⟨_, _, rfl, h0, h1⟩
      · cases h
    · cases h
  · cases h
theorem law76 : CodAt C 76 := ⟨fun x => by show ((enc75 x.L).cells C ++ ((enc2 x.Last).cells C ++ [])) = cel76 x; unfold cel76; exact congr (congrArg (· ++ ·) (law75.cel x.L)) (congr (congrArg (· ++ ·) (law2.cel x.Last)) (rfl)), fun x => by show ((cel75 x.L ++ (cel2 x.Last ++ []))).length = 2; rw [List.length_append, List.length_append]; have e0 : (cel75 x.L).length = 1 := law75.len x.L; have e1 : (cel2 x.Last).length = 1 := law2.len x.Last; simp only [e0, e1, List.length_nil], fun x a h => by obtain ⟨x0, x1, rfl, h0, h1⟩ := decx76 (show dec76 x = some a from h); exact CW.append (law75.dec _ _ h0) (CW.append (law2.dec _ _ h1) (CW.refl [])), fun x => by show (((enc75 x.L).ok && ((enc2 x.Last).ok && true))) = true; simp only [show (enc75 x.L).ok = true from law75.ok _, show (enc2 x.Last).ok = true from law2.ok _, Bool.and_self], fun x a h => by obtain ⟨x0, x1, rfl, h0, h1⟩ := decx76 (show dec76 x = some a from h); show ((x0.ok && (x1.ok && true))) = true; simp only [law75.decok _ _ h0, law2.decok _ _ h1, Bool.and_self], fun x a h => by obtain ⟨x0, x1, rfl, h0, h1⟩ := decx76 (show dec76 x = some a from h); rfl, fun x => by show ((cel75 x.L ++ (cel2 x.Last ++ []))).all AV.one = true; simp only [List.all_append, List.all_nil, show (cel75 x.L).all AV.one = true from law75.one _, show (cel2 x.Last).all AV.one = true from law2.one _, Bool.and_self], fun x => z6 (law75.noid x.L) (z6 (law2.noid x.Last) (trivial)), (fun ks h => nomatch h), (fun l s h => nomatch h), (fun s l h => nomatch h)⟩
theorem decx77 {x : TV τ} {a : z18} (h : dec77 x = some a) : ∃ x0 x1, x = .agg [x0, x1] ∧ dec75 x0 = some a.L ∧ dec2 x1 = some a.Last := by
  unfold dec77 at h
  split at h
  · rename_i x0 x1
    split at h
    · rename_i a0 h0
      split at h
      · rename_i a1 h1
        cases h
        exact ⟨_, _, rfl, h0, h1⟩
      · cases h
    · cases h
  · cases h
theorem law77 : CodAt C 77 := ⟨fun x => by show ((enc75 x.L).cells C ++ ((enc2 x.Last).cells C ++ [])) = cel77 x; unfold cel77; exact congr (congrArg (· ++ ·) (law75.cel x.L)) (congr (congrArg (· ++ ·) (law2.cel x.Last)) (rfl)), fun x => by show ((cel75 x.L ++ (cel2 x.Last ++ []))).length = 2; rw [List.length_append, List.length_append]; have e0 : (cel75 x.L).length = 1 := law75.len x.L; have e1 : (cel2 x.Last).length = 1 := law2.len x.Last; simp only [e0, e1, List.length_nil], fun x a h => by obtain ⟨x0, x1, rfl, h0, h1⟩ := decx77 (show dec77 x = some a from h); exact CW.append (law75.dec _ _ h0) (CW.append (law2.dec _ _ h1) (CW.refl [])), fun x => by show (((enc75 x.L).ok && ((enc2 x.Last).ok && true))) = true; simp only [show (enc75 x.L).ok = true from law75.ok _, show (enc2 x.Last).ok = true from law2.ok _, Bool.and_self], fun x a h => by obtain ⟨x0, x1, rfl, h0, h1⟩ := decx77 (show dec77 x = some a from h); show ((x0.ok && (x1.ok && true))) = true; simp only [law75.decok _ _ h0, law2.decok _ _ h1, Bool.and_self], fun x a h => by obtain ⟨x0, x1, rfl, h0, h1⟩ := decx77 (show dec77 x = some a from h); rfl, fun x => by show ((cel75 x.L ++ (cel2 x.Last ++ []))).all AV.one = true; simp only [List.all_append, List.all_nil, show (cel75 x.L).all AV.one = true from law75.one _, show (cel2 x.Last).all AV.one = true from law2.one _, Bool.and_self], fun x => z6 (law75.noid x.L) (z6 (law2.noid x.Last) (trivial)), (fun ks h => nomatch h), (fun l s h => nomatch h), (fun s l h => nomatch h)⟩
theorem decx79 {x : TV τ} {a : z2e} (h : dec79 x = some a) : ∃ x0 x1, x = .agg [x0, x1] ∧ dec75 x0 = some a.wait ∧ dec2 x1 = some a.last := by
  unfold dec79 at h
  split at h
  · rename_i x0 x1
    split at h
    · rename_i a0 h0
      split at h
      · rename_i a1 h1
        cases h
        exact ⟨_, _, rfl, h0, h1⟩
      · cases h
    · cases h
  · cases h
theorem law79 : CodAt C 79 := ⟨fun x => by show ((enc75 x.wait).cells C ++ ((enc2 x.last).cells C ++ [])) = cel79 x; unfold cel79; exact congr (congrArg (· ++ ·) (law75.cel x.wait)) (congr (congrArg (· ++ ·) (law2.cel x.last)) (rfl)), fun x => by show ((cel75 x.wait ++ (cel2 x.last ++ []))).length = 2; rw [List.length_append, List.length_append]; have e0 : (cel75 x.wait).length = 1 := law75.len x.wait; have e1 : (cel2 x.last).length = 1 := law2.len x.last; simp only [e0, e1, List.length_nil], fun x a h => by obtain ⟨x0, x1, rfl, h0, h1⟩ := decx79 (show dec79 x = some a from h); exact CW.append (law75.dec _ _ h0) (CW.append (law2.dec _ _ h1) (CW.refl [])), fun x => by show (((enc75 x.wait).ok && ((enc2 x.last).ok && true))) = true; simp only [show (enc75 x.wait).ok = true from law75.ok _, show (enc2 x.last).ok = true from law2.ok _, Bool.and_self], fun x a h => by obtain ⟨x0, x1, rfl, h0, h1⟩ := decx79 (show dec79 x = some a from h); show ((x0.ok && (x1.ok && true))) = true; simp only [law75.decok _ _ h0, law2.decok _ _ h1, Bool.and_self], fun x a h => by obtain ⟨x0, x1, rfl, h0, h1⟩ := decx79 (show dec79 x = some a from h); rfl, fun x => by show ((cel75 x.wait ++ (cel2 x.last ++ []))).all AV.one = true; simp only [List.all_append, List.all_nil, show (cel75 x.wait).all AV.one = true from law75.one _, show (cel2 x.last).all AV.one = true from law2.one _, Bool.and_self], fun x => z6 (law75.noid x.wait) (z6 (law2.noid x.last) (trivial)), (fun ks h => nomatch h), (fun l s h => nomatch h), (fun s l h => nomatch h)⟩
theorem decx80 {x : TV τ} {a : z2e} (h : dec80 x = some a) : ∃ x0 x1, x = .agg [x0, x1] ∧ dec75 x0 = some a.wait ∧ dec2 x1 = some a.last := by
  unfold dec80 at h
  split at h
  · rename_i x0 x1
    split at h
    · rename_i a0 h0
      split at h
      · rename_i a1 h1
        cases h
        exact ⟨_, _, rfl, h0, h1⟩
      · cases h
    · cases h
  · cases h
theorem law80 : CodAt C 80 := ⟨fun x => by show ((enc75 x.wait).cells C ++ ((enc2 x.last).cells C ++ [])) = cel80 x; unfold cel80; exact congr (congrArg (· ++ ·) (law75.cel x.wait)) (congr (congrArg (· ++ ·) (law2.cel x.last)) (rfl)), fun x => by show ((cel75 x.wait ++ (cel2 x.last ++ []))).length = 2; rw [List.length_append, List.length_append]; have e0 : (cel75 x.wait).length = 1 := law75.len x.wait; have e1 : (cel2 x.last).length = 1 := law2.len x.last; simp only [e0, e1, List.length_nil], fun x a h => by obtain ⟨x0, x1, rfl, h0, h1⟩ := decx80 (show dec80 x = some a from h); exact CW.append (law75.dec _ _ h0) (CW.append (law2.dec _ _ h1) (CW.refl [])), fun x => by show (((enc75 x.wait).ok && ((enc2 x.last).ok && true))) = true; simp only [show (enc75 x.wait).ok = true from law75.ok _, show (enc2 x.last).ok = true from law2.ok _, Bool.and_self], fun x a h => by obtain ⟨x0, x1, rfl, h0, h1⟩ := decx80 (show dec80 x = some a from h); show ((x0.ok && (x1.ok && true))) = true; simp only [law75.decok _ _ h0, law2.decok _ _ h1, Bool.and_self], fun x a h => by obtain ⟨x0, x1, rfl, h0, h1⟩ := decx80 (show dec80 x = some a from h); rfl, fun x => by show ((cel75 x.wait ++ (cel2 x.last ++ []))).all AV.one = true; simp only [List.all_append, List.all_nil, show (cel75 x.wait).all AV.one = true from law75.one _, show (cel2 x.last).all AV.one = true from law2.one _, Bool.and_self], fun x => z6 (law75.noid x.wait) (z6 (law2.noid x.last) (trivial)), (fun ks h => nomatch h), (fun l s h => nomatch h), (fun s l h => nomatch h)⟩
theorem decx81 {x : TV τ} {a : z1o} (h : dec81 x = some a) : ∃ x0 x1, x = .agg [x0, x1] ∧ dec80 x0 = some a.queue ∧ dec4 x1 = some a.made := by
  unfold dec81 at h
  split at h
  · rename_i x0 x1
    split at h
    · rename_i a0 h0
      split at h
      · rename_i a1 h1
        cases h
        exact ⟨_, _, rfl, h0, h1⟩
      · cases h
    · cases h
  · cases h
theorem law81 : CodAt C 81 := ⟨fun x => by show ((enc80 x.queue).cells C ++ ((enc4 x.made).cells C ++ [])) = cel81 x; unfold cel81; exact congr (congrArg (· ++ ·) (law80.cel x.queue)) (congr (congrArg (· ++ ·) (law4.cel x.made)) (rfl)), fun x => by show ((cel80 x.queue ++ (cel4 x.made ++ []))).length = 3; rw [List.length_append, List.length_append]; have e0 : (cel80 x.queue).length = 2 := law80.len x.queue; have e1 : (cel4 x.made).length = 1 := law4.len x.made; simp only [e0, e1, List.length_nil], fun x a h => by obtain ⟨x0, x1, rfl, h0, h1⟩ := decx81 (show dec81 x = some a from h); exact CW.append (law80.dec _ _ h0) (CW.append (law4.dec _ _ h1) (CW.refl [])), fun x => by show (((enc80 x.queue).ok && ((enc4 x.made).ok && true))) = true; simp only [show (enc80 x.queue).ok = true from law80.ok _, show (enc4 x.made).ok = true from law4.ok _, Bool.and_self], fun x a h => by obtain ⟨x0, x1, rfl, h0, h1⟩ := decx81 (show dec81 x = some a from h); show ((x0.ok && (x1.ok && true))) = true; simp only [law80.decok _ _ h0, law4.decok _ _ h1, Bool.and_self], fun x a h => by obtain ⟨x0, x1, rfl, h0, h1⟩ := decx81 (show dec81 x = some a from h); rfl, fun x => by show ((cel80 x.queue ++ (cel4 x.made ++ []))).all AV.one = true; simp only [List.all_append, List.all_nil, show (cel80 x.queue).all AV.one = true from law80.one _, show (cel4 x.made).all AV.one = true from law4.one _, Bool.and_self], fun x => z6 (law80.noid x.queue) (z6 (law4.noid x.made) (trivial)), (fun ks h => nomatch h), (fun l s h => nomatch h), (fun s l h => nomatch h)⟩
theorem decx82 {x : TV τ} {a : z1o} (h : dec82 x = some a) : ∃ x0 x1, x = .agg [x0, x1] ∧ dec80 x0 = some a.queue ∧ dec4 x1 = some a.made := by
  unfold dec82 at h
  split at h
  · rename_i x0 x1
    split at h
    · rename_i a0 h0
      split at h
      · rename_i a1 h1
        cases h
        exact ⟨_, _, rfl, h0, h1⟩
      · cases h
    · cases h
  · cases h
theorem law82 : CodAt C 82 := ⟨fun x => by show ((enc80 x.queue).cells C ++ ((enc4 x.made).cells C ++ [])) = cel82 x; unfold cel82; exact congr (congrArg (· ++ ·) (law80.cel x.queue)) (congr (congrArg (· ++ ·) (law4.cel x.made)) (rfl)), fun x => by show ((cel80 x.queue ++ (cel4 x.made ++ []))).length = 3; rw [List.length_append, List.length_append]; have e0 : (cel80 x.queue).length = 2 := law80.len x.queue; have e1 : (cel4 x.made).length = 1 := law4.len x.made; simp only [e0, e1, List.length_nil], fun x a h => by obtain ⟨x0, x1, rfl, h0, h1⟩ := decx82 (show dec82 x = some a from h); exact CW.append (law80.dec _ _ h0) (CW.append (law4.dec _ _ h1) (CW.refl [])), fun x => by show (((enc80 x.queue).ok && ((enc4 x.made).ok && true))) = true; simp only [show (enc80 x.queue).ok = true from law80.ok _, show (enc4 x.made).ok = true from law4.ok _, Bool.and_self], fun x a h => by obtain ⟨x0, x1, rfl, h0, h1⟩ := decx82 (show dec82 x = some a from h); show ((x0.ok && (x1.ok && true))) = true; simp only [law80.decok _ _ h0, law4.decok _ _ h1, Bool.and_self], fun x a h => by obtain ⟨x0, x1, rfl, h0, h1⟩ := decx82 (show dec82 x = some a from h); rfl, fun x => by show ((cel80 x.queue ++ (cel4 x.made ++ []))).all AV.one = true; simp only [List.all_append, List.all_nil, show (cel80 x.queue).all AV.one = true from law80.one _, show (cel4 x.made).all AV.one = true from law4.one _, Bool.and_self], fun x => z6 (law80.noid x.queue) (z6 (law4.noid x.made) (trivial)), (fun ks h => nomatch h), (fun l s h => nomatch h), (fun s l h => nomatch h)⟩
theorem law138 : CodAt C 138 := ⟨fun x => rfl, fun x => rfl, fun x a h => by rw [z5p (show dInt .u32 x = some a from h)]; exact .refl _, fun x => rfl, fun x a h => by rw [z5p (show dInt .u32 x = some a from h)]; rfl, fun x a h => by rw [z5p (show dInt .u32 x = some a from h)]; rfl, fun a => rfl, fun a => z1y (NoId.v _), fun ks h a b => by cases h; simp [z19, scal, C, celT, cel138, beqT, beq138], (fun l s h => nomatch h), (fun s l h => nomatch h)⟩
theorem law140 : CodAt C 140 := ⟨fun x => rfl, fun x => rfl, fun x a h => by rw [z5p (show dInt .u64 x = some a from h)]; exact .refl _, fun x => rfl, fun x a h => by rw [z5p (show dInt .u64 x = some a from h)]; rfl, fun x a h => by rw [z5p (show dInt .u64 x = some a from h)]; rfl, fun a => rfl, fun a => z1y (NoId.v _), fun ks h a b => by cases h; simp [z19, scal, C, celT, cel140, beqT, beq140], (fun l s h => nomatch h), (fun s l h => nomatch h)⟩
theorem z12g {x : TV τ} {a : zv} (h : zze x = some a) : ∃ x0 x1 x2, x = .agg [x0, x1, x2] ∧ dec2 x0 = some a.Slot ∧ dec25 x1 = some a.Ballot ∧ dec41 x2 = some a.Entry := by
  unfold zze at h
  split at h
  · rename_i x0 x1 x2
    split at h
    · rename_i a0 h0
      split at h
      · rename_i a1 h1
        split at h
        · rename_i a2 h2
          cases h
          exact ⟨_, _, _, rfl, h0, h1, h2⟩
        · cases h
      · cases h
    · cases h
  · cases h
theorem law154 : CodAt C 154 := ⟨fun x => by show ((enc2 x.Slot).cells C ++ ((enc25 x.Ballot).cells C ++ ((enc41 x.Entry).cells C ++ []))) = cel154 x; unfold cel154; exact congr (congrArg (· ++ ·) (law2.cel x.Slot)) (congr (congrArg (· ++ ·) (law25.cel x.Ballot)) (congr (congrArg (· ++ ·) (law41.cel x.Entry)) (rfl))), fun x => by show ((cel2 x.Slot ++ (cel25 x.Ballot ++ (cel41 x.Entry ++ [])))).length = 59; rw [List.length_append, List.length_append, List.length_append]; have e0 : (cel2 x.Slot).length = 1 := law2.len x.Slot; have e1 : (cel25 x.Ballot).length = 2 := law25.len x.Ballot; have e2 : (cel41 x.Entry).length = 56 := law41.len x.Entry; simp only [e0, e1, e2, List.length_nil], fun x a h => by obtain ⟨x0, x1, x2, rfl, h0, h1, h2⟩ := z12g (show zze x = some a from h); exact CW.append (law2.dec _ _ h0) (CW.append (law25.dec _ _ h1) (CW.append (law41.dec _ _ h2) (CW.refl []))), fun x => by show (((enc2 x.Slot).ok && ((enc25 x.Ballot).ok && ((enc41 x.Entry).ok && true)))) = true; simp only [show (enc2 x.Slot).ok = true from law2.ok _, show (enc25 x.Ballot).ok = true from law25.ok _, show (enc41 x.Entry).ok = true from law41.ok _, Bool.and_self], fun x a h => by obtain ⟨x0, x1, x2, rfl, h0, h1, h2⟩ := z12g (show zze x = some a from h); show ((x0.ok && (x1.ok && (x2.ok && true)))) = true; simp only [law2.decok _ _ h0, law25.decok _ _ h1, law41.decok _ _ h2, Bool.and_self], fun x a h => by obtain ⟨x0, x1, x2, rfl, h0, h1, h2⟩ := z12g (show zze x = some a from h); rfl, fun x => by show ((cel2 x.Slot ++ (cel25 x.Ballot ++ (cel41 x.Entry ++ [])))).all AV.one = true; simp only [List.all_append, List.all_nil, show (cel2 x.Slot).all AV.one = true from law2.one _, show (cel25 x.Ballot).all AV.one = true from law25.one _, show (cel41 x.Entry).all AV.one = true from law41.one _, Bool.and_self], fun x => z6 (law2.noid x.Slot) (z6 (law25.noid x.Ballot) (z6 (law41.noid x.Entry) (trivial))), (fun ks h => nomatch h), (fun l s h => nomatch h), (fun s l h => nomatch h)⟩
theorem z12h {x : TV τ} {a : z4} (h : zzf x = some a) : ∃ x0 x1, x = .agg [x0, x1] ∧ dec4 x0 = some a.made ∧ dec37 x1 = some a.b := by
  unfold zzf at h
  split at h
  · rename_i x0 x1
    split at h
    · rename_i a0 h0
      split at h
      · rename_i a1 h1
        cases h
        exact ⟨_, _, rfl, h0, h1⟩
      · cases h
    · cases h
  · cases h
theorem law165 : CodAt C 165 := ⟨fun x => by show ((enc4 x.made).cells C ++ ((enc37 x.b).cells C ++ [])) = cel165 x; unfold cel165; exact congr (congrArg (· ++ ·) (law4.cel x.made)) (congr (congrArg (· ++ ·) (law37.cel x.b)) (rfl)), fun x => by show ((cel4 x.made ++ (cel37 x.b ++ []))).length = 2; rw [List.length_append, List.length_append]; have e0 : (cel4 x.made).length = 1 := law4.len x.made; have e1 : (cel37 x.b).length = 1 := law37.len x.b; simp only [e0, e1, List.length_nil], fun x a h => by obtain ⟨x0, x1, rfl, h0, h1⟩ := z12h (show zzf x = some a from h); exact CW.append (law4.dec _ _ h0) (CW.append (law37.dec _ _ h1) (CW.refl [])), fun x => by show (((enc4 x.made).ok && ((enc37 x.b).ok && true))) = true; simp only [show (enc4 x.made).ok = true from law4.ok _, show (enc37 x.b).ok = true from law37.ok _, Bool.and_self], fun x a h => by obtain ⟨x0, x1, rfl, h0, h1⟩ := z12h (show zzf x = some a from h); show ((x0.ok && (x1.ok && true))) = true; simp only [law4.decok _ _ h0, law37.decok _ _ h1, Bool.and_self], fun x a h => by obtain ⟨x0, x1, rfl, h0, h1⟩ := z12h (show zzf x = some a from h); rfl, fun x => by show ((cel4 x.made ++ (cel37 x.b ++ []))).all AV.one = true; simp only [List.all_append, List.all_nil, show (cel4 x.made).all AV.one = true from law4.one _, show (cel37 x.b).all AV.one = true from law37.one _, Bool.and_self], fun x => z6 (law4.noid x.made) (z6 (law37.noid x.b) (trivial)), (fun ks h => nomatch h), (fun l s h => nomatch h), (fun s l h => nomatch h)⟩
theorem z12i {x : TV τ} {a : z4} (h : zzg x = some a) : ∃ x0 x1, x = .agg [x0, x1] ∧ dec4 x0 = some a.made ∧ dec37 x1 = some a.b := by
  unfold zzg at h
  split at h
  · rename_i x0 x1
    split at h
    · rename_i a0 h0
      split at h
      · rename_i a1 h1
        cases h
        exact ⟨_, _, rfl, h0, h1⟩
      · cases h
    · cases h
  · cases h
theorem law166 : CodAt C 166 := ⟨fun x => by show ((enc4 x.made).cells C ++ ((enc37 x.b).cells C ++ [])) = cel166 x; unfold cel166; exact congr (congrArg (· ++ ·) (law4.cel x.made)) (congr (congrArg (· ++ ·) (law37.cel x.b)) (rfl)), fun x => by show ((cel4 x.made ++ (cel37 x.b ++ []))).length = 2; rw [List.length_append, List.length_append]; have e0 : (cel4 x.made).length = 1 := law4.len x.made; have e1 : (cel37 x.b).length = 1 := law37.len x.b; simp only [e0, e1, List.length_nil], fun x a h => by obtain ⟨x0, x1, rfl, h0, h1⟩ := z12i (show zzg x = some a from h); exact CW.append (law4.dec _ _ h0) (CW.append (law37.dec _ _ h1) (CW.refl [])), fun x => by show (((enc4 x.made).ok && ((enc37 x.b).ok && true))) = true; simp only [show (enc4 x.made).ok = true from law4.ok _, show (enc37 x.b).ok = true from law37.ok _, Bool.and_self], fun x a h => by obtain ⟨x0, x1, rfl, h0, h1⟩ := z12i (show zzg x = some a from h); show ((x0.ok && (x1.ok && true))) = true; simp only [law4.decok _ _ h0, law37.decok _ _ h1, Bool.and_self], fun x a h => by obtain ⟨x0, x1, rfl, h0, h1⟩ := z12i (show zzg x = some a from h); rfl, fun x => by show ((cel4 x.made ++ (cel37 x.b ++ []))).all AV.one = true; simp only [List.all_append, List.all_nil, show (cel4 x.made).all AV.one = true from law4.one _, show (cel37 x.b).all AV.one = true from law37.one _, Bool.and_self], fun x => z6 (law4.noid x.made) (z6 (law37.noid x.b) (trivial)), (fun ks h => nomatch h), (fun l s h => nomatch h), (fun s l h => nomatch h)⟩
theorem z12j {x : TV τ} {a : z4} (h : zzh x = some a) : ∃ x0 x1, x = .agg [x0, x1] ∧ dec4 x0 = some a.made ∧ dec37 x1 = some a.b := by
  unfold zzh at h
  split at h
  · rename_i x0 x1
    split at h
    · rename_i a0 h0
      split at h
      · rename_i a1 h1
        cases h
        exact ⟨_, _, rfl, h0, h1⟩
      · cases h
    · cases h
  · cases h
theorem law186 : CodAt C 186 := ⟨fun x => by show ((enc4 x.made).cells C ++ ((enc37 x.b).cells C ++ [])) = cel186 x; unfold cel186; exact congr (congrArg (· ++ ·) (law4.cel x.made)) (congr (congrArg (· ++ ·) (law37.cel x.b)) (rfl)), fun x => by show ((cel4 x.made ++ (cel37 x.b ++ []))).length = 2; rw [List.length_append, List.length_append]; have e0 : (cel4 x.made).length = 1 := law4.len x.made; have e1 : (cel37 x.b).length = 1 := law37.len x.b; simp only [e0, e1, List.length_nil], fun x a h => by obtain ⟨x0, x1, rfl, h0, h1⟩ := z12j (show zzh x = some a from h); exact CW.append (law4.dec _ _ h0) (CW.append (law37.dec _ _ h1) (CW.refl [])), fun x => by show (((enc4 x.made).ok && ((enc37 x.b).ok && true))) = true; simp only [show (enc4 x.made).ok = true from law4.ok _, show (enc37 x.b).ok = true from law37.ok _, Bool.and_self], fun x a h => by obtain ⟨x0, x1, rfl, h0, h1⟩ := z12j (show zzh x = some a from h); show ((x0.ok && (x1.ok && true))) = true; simp only [law4.decok _ _ h0, law37.decok _ _ h1, Bool.and_self], fun x a h => by obtain ⟨x0, x1, rfl, h0, h1⟩ := z12j (show zzh x = some a from h); rfl, fun x => by show ((cel4 x.made ++ (cel37 x.b ++ []))).all AV.one = true; simp only [List.all_append, List.all_nil, show (cel4 x.made).all AV.one = true from law4.one _, show (cel37 x.b).all AV.one = true from law37.one _, Bool.and_self], fun x => z6 (law4.noid x.made) (z6 (law37.noid x.b) (trivial)), (fun ks h => nomatch h), (fun l s h => nomatch h), (fun s l h => nomatch h)⟩
theorem z12k {x : TV τ} {a : z10} (h : zzi x = some a) : ∃ x0 x1 x2, x = .agg [x0, x1, x2] ∧ dec37 x0 = some a.B ∧ dec3 x1 = some a.At ∧ dec48 x2 = some a.E := by
  unfold zzi at h
  split at h
  · rename_i x0 x1 x2
    split at h
    · rename_i a0 h0
      split at h
      · rename_i a1 h1
        split at h
        · rename_i a2 h2
          cases h
          exact ⟨_, _, _, rfl, h0, h1, h2⟩
        · cases h
      · cases h
    · cases h
  · cases h
theorem law192 : CodAt C 192 := ⟨fun x => by show ((enc37 x.B).cells C ++ ((enc3 x.At).cells C ++ ((enc48 x.E).cells C ++ []))) = cel192 x; unfold cel192; exact congr (congrArg (· ++ ·) (law37.cel x.B)) (congr (congrArg (· ++ ·) (law3.cel x.At)) (congr (congrArg (· ++ ·) (law48.cel x.E)) (rfl))), fun x => by show ((cel37 x.B ++ (cel3 x.At ++ (cel48 x.E ++ [])))).length = 3; rw [List.length_append, List.length_append, List.length_append]; have e0 : (cel37 x.B).length = 1 := law37.len x.B; have e1 : (cel3 x.At).length = 1 := law3.len x.At; have e2 : (cel48 x.E).length = 1 := law48.len x.E; simp only [e0, e1, e2, List.length_nil], fun x a h => by obtain ⟨x0, x1, x2, rfl, h0, h1, h2⟩ := z12k (show zzi x = some a from h); exact CW.append (law37.dec _ _ h0) (CW.append (law3.dec _ _ h1) (CW.append (law48.dec _ _ h2) (CW.refl []))), fun x => by show (((enc37 x.B).ok && ((enc3 x.At).ok && ((enc48 x.E).ok && true)))) = true; simp only [show (enc37 x.B).ok = true from law37.ok _, show (enc3 x.At).ok = true from law3.ok _, show (enc48 x.E).ok = true from law48.ok _, Bool.and_self], fun x a h => by obtain ⟨x0, x1, x2, rfl, h0, h1, h2⟩ := z12k (show zzi x = some a from h); show ((x0.ok && (x1.ok && (x2.ok && true)))) = true; simp only [law37.decok _ _ h0, law3.decok _ _ h1, law48.decok _ _ h2, Bool.and_self], fun x a h => by obtain ⟨x0, x1, x2, rfl, h0, h1, h2⟩ := z12k (show zzi x = some a from h); rfl, fun x => by show ((cel37 x.B ++ (cel3 x.At ++ (cel48 x.E ++ [])))).all AV.one = true; simp only [List.all_append, List.all_nil, show (cel37 x.B).all AV.one = true from law37.one _, show (cel3 x.At).all AV.one = true from law3.one _, show (cel48 x.E).all AV.one = true from law48.one _, Bool.and_self], fun x => z6 (law37.noid x.B) (z6 (law3.noid x.At) (z6 (law48.noid x.E) (trivial))), (fun ks h => nomatch h), (fun l s h => nomatch h), (fun s l h => nomatch h)⟩
theorem z12l {x : TV τ} {a : z10} (h : zzj x = some a) : ∃ x0 x1 x2, x = .agg [x0, x1, x2] ∧ dec37 x0 = some a.B ∧ dec3 x1 = some a.At ∧ dec48 x2 = some a.E := by
  unfold zzj at h
  split at h
  · rename_i x0 x1 x2
    split at h
    · rename_i a0 h0
      split at h
      · rename_i a1 h1
        split at h
        · rename_i a2 h2
          cases h
          exact ⟨_, _, _, rfl, h0, h1, h2⟩
        · cases h
      · cases h
    · cases h
  · cases h
theorem law193 : CodAt C 193 := ⟨fun x => by show ((enc37 x.B).cells C ++ ((enc3 x.At).cells C ++ ((enc48 x.E).cells C ++ []))) = cel193 x; unfold cel193; exact congr (congrArg (· ++ ·) (law37.cel x.B)) (congr (congrArg (· ++ ·) (law3.cel x.At)) (congr (congrArg (· ++ ·) (law48.cel x.E)) (rfl))), fun x => by show ((cel37 x.B ++ (cel3 x.At ++ (cel48 x.E ++ [])))).length = 3; rw [List.length_append, List.length_append, List.length_append]; have e0 : (cel37 x.B).length = 1 := law37.len x.B; have e1 : (cel3 x.At).length = 1 := law3.len x.At; have e2 : (cel48 x.E).length = 1 := law48.len x.E; simp only [e0, e1, e2, List.length_nil], fun x a h => by obtain ⟨x0, x1, x2, rfl, h0, h1, h2⟩ := z12l (show zzj x = some a from h); exact CW.append (law37.dec _ _ h0) (CW.append (law3.dec _ _ h1) (CW.append (law48.dec _ _ h2) (CW.refl []))), fun x => by show (((enc37 x.B).ok && ((enc3 x.At).ok && ((enc48 x.E).ok && true)))) = true; simp only [show (enc37 x.B).ok = true from law37.ok _, show (enc3 x.At).ok = true from law3.ok _, show (enc48 x.E).ok = true from law48.ok _, Bool.and_self], fun x a h => by obtain ⟨x0, x1, x2, rfl, h0, h1, h2⟩ := z12l (show zzj x = some a from h); show ((x0.ok && (x1.ok && (x2.ok && true)))) = true; simp only [law37.decok _ _ h0, law3.decok _ _ h1, law48.decok _ _ h2, Bool.and_self], fun x a h => by obtain ⟨x0, x1, x2, rfl, h0, h1, h2⟩ := z12l (show zzj x = some a from h); rfl, fun x => by show ((cel37 x.B ++ (cel3 x.At ++ (cel48 x.E ++ [])))).all AV.one = true; simp only [List.all_append, List.all_nil, show (cel37 x.B).all AV.one = true from law37.one _, show (cel3 x.At).all AV.one = true from law3.one _, show (cel48 x.E).all AV.one = true from law48.one _, Bool.and_self], fun x => z6 (law37.noid x.B) (z6 (law3.noid x.At) (z6 (law48.noid x.E) (trivial))), (fun ks h => nomatch h), (fun l s h => nomatch h), (fun s l h => nomatch h)⟩
theorem law194 : CodAt C 194 := ⟨fun x => rfl, fun x => rfl, fun x a h => (z45 (C := C) (show dSl 3 x = some a from h)).1, fun x => rfl, fun x a h => (z45 (C := C) (show dSl 3 x = some a from h)).2.1, fun x a h => (z45 (C := C) (show dSl 3 x = some a from h)).2.2, fun a => rfl, fun a => z1y (NoId.asl fun cs hc => by obtain ⟨y, _, rfl⟩ := List.mem_map.1 hc; exact law3.noid y), (fun ks h => nomatch h), (fun l s h => nomatch h), (fun s l h => nomatch h)⟩
theorem law201 : CodAt C 201 := ⟨fun x => rfl, fun x => rfl, fun x a h => (z45 (C := C) (show dSl 37 x = some a from h)).1, fun x => rfl, fun x a h => (z45 (C := C) (show dSl 37 x = some a from h)).2.1, fun x a h => (z45 (C := C) (show dSl 37 x = some a from h)).2.2, fun a => rfl, fun a => z1y (NoId.asl fun cs hc => by obtain ⟨y, _, rfl⟩ := List.mem_map.1 hc; exact law37.noid y), (fun ks h => nomatch h), (fun l s h => nomatch h), (fun s l h => nomatch h)⟩
theorem law203 : CodAt C 203 := ⟨fun x => rfl, fun x => rfl, fun x a h => by rw [z5p (show dInt .u64 x = some a from h)]; exact .refl _, fun x => rfl, fun x a h => by rw [z5p (show dInt .u64 x = some a from h)]; rfl, fun x a h => by rw [z5p (show dInt .u64 x = some a from h)]; rfl, fun a => rfl, fun a => z1y (NoId.v _), fun ks h a b => by cases h; simp [z19, scal, C, celT, cel203, beqT, beq203], (fun l s h => nomatch h), (fun s l h => nomatch h)⟩
theorem law229 : CodAt C 229 := ⟨fun x => rfl, fun x => rfl, fun x a h => (z45 (C := C) (show dSl 9 x = some a from h)).1, fun x => rfl, fun x a h => (z45 (C := C) (show dSl 9 x = some a from h)).2.1, fun x a h => (z45 (C := C) (show dSl 9 x = some a from h)).2.2, fun a => rfl, fun a => z1y (NoId.asl fun cs hc => by obtain ⟨y, _, rfl⟩ := List.mem_map.1 hc; exact law9.noid y), (fun ks h => nomatch h), (fun l s h => nomatch h), (fun s l h => nomatch h)⟩
theorem lawX {t : Nat} (h : celT t = fun _ => []) (h1 : encT t = fun _ => .agg []) (h2 : decT t = fun _ => none) (h3 : szT t = 0) (h4 : kdT t = none) (h5 : b2sT t = fun _ => none) (h6 : s2bT t = fun _ => none) : CodAt C t := by
  refine ⟨fun x => ?_, fun x => ?_, fun x a hx => ?_, fun x => ?_, fun x a hx => ?_, fun x a hx => ?_, fun a => ?_, fun a => ?_, fun ks hk => ?_, fun l s hl => ?_, fun s l hl => ?_⟩
  · show (encT t x).cells C = celT t x; rw [h, h1]; rfl
  · show (celT t x).length = szT t; rw [h, h3]; rfl
  · have e : decT t x = some a := hx; rw [h2] at e; cases e
  · show (encT t x).ok = true; rw [h1]; rfl
  · have e : decT t x = some a := hx; rw [h2] at e; cases e
  · have e : decT t x = some a := hx; rw [h2] at e; cases e
  · show (celT t a).all AV.one = true; rw [h]; rfl
  · show NoIds (celT t a); rw [h]; trivial
  · have e : kdT t = some ks := hk; rw [h4] at e; cases e
  · have e : b2sT t l = some s := hl; rw [h5] at e; cases e
  · have e : s2bT t s = some l := hl; rw [h6] at e; cases e
theorem lawOther : ∀ t : Nat, t ≠ 2 → t ≠ 3 → t ≠ 4 → t ≠ 5 → t ≠ 9 → t ≠ 12 → t ≠ 21 → t ≠ 22 → t ≠ 23 → t ≠ 24 → t ≠ 25 → t ≠ 26 → t ≠ 27 → t ≠ 28 → t ≠ 29 → t ≠ 30 → t ≠ 31 → t ≠ 32 → t ≠ 33 → t ≠ 34 → t ≠ 35 → t ≠ 36 → t ≠ 37 → t ≠ 38 → t ≠ 39 → t ≠ 40 → t ≠ 41 → t ≠ 42 → t ≠ 43 → t ≠ 44 → t ≠ 48 → t ≠ 59 → t ≠ 60 → t ≠ 64 → t ≠ 65 → t ≠ 69 → t ≠ 70 → t ≠ 71 → t ≠ 72 → t ≠ 75 → t ≠ 76 → t ≠ 77 → t ≠ 79 → t ≠ 80 → t ≠ 81 → t ≠ 82 → t ≠ 138 → t ≠ 140 → t ≠ 154 → t ≠ 155 → t ≠ 165 → t ≠ 166 → t ≠ 186 → t ≠ 192 → t ≠ 193 → t ≠ 194 → t ≠ 201 → t ≠ 203 → t ≠ 229 → CodAt C t
  | t, h2, h3, h4, h5, h9, h12, h21, h22, h23, h24, h25, h26, h27, h28, h29, h30, h31, h32, h33, h34, h35, h36, h37, h38, h39, h40, h41, h42, h43, h44, h48, h59, h60, h64, h65, h69, h70, h71, h72, h75, h76, h77, h79, h80, h81, h82, h138, h140, h154, h155, h165, h166, h186, h192, h193, h194, h201, h203, h229 => by
    apply lawX <;> first
      | (unfold celT; split <;> first | rfl | contradiction | (exfalso; omega))
      | (unfold encT; split <;> first | rfl | contradiction | (exfalso; omega))
      | (unfold decT; split <;> first | rfl | contradiction | (exfalso; omega))
      | (unfold szT; split <;> first | rfl | contradiction | (exfalso; omega))
      | (unfold kdT; split <;> first | rfl | contradiction | (exfalso; omega))
      | (unfold b2sT; split <;> first | rfl | contradiction | (exfalso; omega))
      | (unfold s2bT; split <;> first | rfl | contradiction | (exfalso; omega))
theorem cOk : C.Ok := Cod.Ok.of fun t => by
  by_cases h2 : t = 2
  · subst h2; exact law2
  by_cases h3 : t = 3
  · subst h3; exact law3
  by_cases h4 : t = 4
  · subst h4; exact law4
  by_cases h5 : t = 5
  · subst h5; exact law5
  by_cases h9 : t = 9
  · subst h9; exact law9
  by_cases h12 : t = 12
  · subst h12; exact law12
  by_cases h21 : t = 21
  · subst h21; exact law21
  by_cases h22 : t = 22
  · subst h22; exact law22
  by_cases h23 : t = 23
  · subst h23; exact law23
  by_cases h24 : t = 24
  · subst h24; exact law24
  by_cases h25 : t = 25
  · subst h25; exact law25
  by_cases h26 : t = 26
  · subst h26; exact law26
  by_cases h27 : t = 27
  · subst h27; exact law27
  by_cases h28 : t = 28
  · subst h28; exact law28
  by_cases h29 : t = 29
  · subst h29; exact law29
  by_cases h30 : t = 30
  · subst h30; exact law30
  by_cases h31 : t = 31
  · subst h31; exact law31
  by_cases h32 : t = 32
  · subst h32; exact law32
  by_cases h33 : t = 33
  · subst h33; exact law33
  by_cases h34 : t = 34
  · subst h34; exact law34
  by_cases h35 : t = 35
  · subst h35; exact law35
  by_cases h36 : t = 36
  · subst h36; exact law36
  by_cases h37 : t = 37
  · subst h37; exact law37
  by_cases h38 : t = 38
  · subst h38; exact law38
  by_cases h39 : t = 39
  · subst h39; exact law39
  by_cases h40 : t = 40
  · subst h40; exact law40
  by_cases h41 : t = 41
  · subst h41; exact law41
  by_cases h42 : t = 42
  · subst h42; exact law42
  by_cases h43 : t = 43
  · subst h43; exact law43
  by_cases h44 : t = 44
  · subst h44; exact law44
  by_cases h48 : t = 48
  · subst h48; exact law48
  by_cases h59 : t = 59
  · subst h59; exact law59
  by_cases h60 : t = 60
  · subst h60; exact law60
  by_cases h64 : t = 64
  · subst h64; exact law64
  by_cases h65 : t = 65
  · subst h65; exact law65
  by_cases h69 : t = 69
  · subst h69; exact law69
  by_cases h70 : t = 70
  · subst h70; exact law70
  by_cases h71 : t = 71
  · subst h71; exact law71
  by_cases h72 : t = 72
  · subst h72; exact law72
  by_cases h75 : t = 75
  · subst h75; exact law75
  by_cases h76 : t = 76
  · subst h76; exact law76
  by_cases h77 : t = 77
  · subst h77; exact law77
  by_cases h79 : t = 79
  · subst h79; exact law79
  by_cases h80 : t = 80
  · subst h80; exact law80
  by_cases h81 : t = 81
  · subst h81; exact law81
  by_cases h82 : t = 82
  · subst h82; exact law82
  by_cases h138 : t = 138
  · subst h138; exact law138
  by_cases h140 : t = 140
  · subst h140; exact law140
  by_cases h154 : t = 154
  · subst h154; exact law154
  by_cases h155 : t = 155
  · subst h155; exact law155
  by_cases h165 : t = 165
  · subst h165; exact law165
  by_cases h166 : t = 166
  · subst h166; exact law166
  by_cases h186 : t = 186
  · subst h186; exact law186
  by_cases h192 : t = 192
  · subst h192; exact law192
  by_cases h193 : t = 193
  · subst h193; exact law193
  by_cases h194 : t = 194
  · subst h194; exact law194
  by_cases h201 : t = 201
  · subst h201; exact law201
  by_cases h203 : t = 203
  · subst h203; exact law203
  by_cases h229 : t = 229
  · subst h229; exact law229
  exact lawOther t h2 h3 h4 h5 h9 h12 h21 h22 h23 h24 h25 h26 h27 h28 h29 h30 h31 h32 h33 h34 h35 h36 h37 h38 h39 h40 h41 h42 h43 h44 h48 h59 h60 h64 h65 h69 h70 h71 h72 h75 h76 h77 h79 h80 h81 h82 h138 h140 h154 h155 h165 h166 h186 h192 h193 h194 h201 h203 h229
def zeroT : Nat → Option (TV τ)
  | 2 => some (.int .i64 0)
  | 3 => some (.int .i64 0)
  | 4 => some (.bool false)
  | 5 => some (.int .u8 0)
  | 9 => some (.str [])
  | 12 => some (.int .u64 0)
  | 21 => some (.int .i32 0)
  | 22 => some (.agg [(.int .i64 0), (.int .i64 0)])
  | 23 => some (.agg [(.int .i64 0), (.int .i64 0)])
  | 24 => some (.agg [(.int .i64 0), (.int .i64 0)])
  | 25 => some (.agg [(.int .i64 0), (.int .i64 0)])
  | 26 => some (.nil .slice)
  | 27 => some (.agg [(.int .i64 0), (.int .i64 0)])
  | 28 => some (.agg [(.int .i64 0), (.int .i64 0)])
  | 29 => some (.agg [(.agg [(.int .i64 0), (.int .i64 0)]), (.int .i64 0), (.int .i64 0), (.int .i64 0), (.str []), (.str []), (.str [])])
  | 30 => some (.agg [(.agg [(.int .i64 0), (.int .i64 0)]), (.int .i64 0), (.int .i64 0), (.int .i64 0), (.str []), (.str []), (.str [])])
  | 31 => some (.nil .slice)
  | 32 => some (.arr 3 8 (Vector.replicate 8 (default : Int)))
  | 33 => some (.arr 2 8 (Vector.replicate 8 (default : Int)))
  | 34 => some (.arr 2 8 (Vector.replicate 8 (default : Int)))
  | 35 => some (.agg [(.int .i64 0), (.arr 3 8 (Vector.replicate 8 (default : Int))), (.arr 2 8 (Vector.replicate 8 (default : Int))), (.arr 3 8 (Vector.replicate 8 (default : Int)))])
  | 36 => some (.agg [(.int .i64 0), (.arr 3 8 (Vector.replicate 8 (default : Int))), (.arr 2 8 (Vector.replicate 8 (default : Int))), (.arr 3 8 (Vector.replicate 8 (default : Int)))])
  | 37 => some (.nil .slice)
  | 38 => some (.agg [(.int .i64 0), (.int .i64 0), (.int .i64 0), (.nil .slice)])
  | 39 => some (.agg [(.int .i64 0), (.int .i64 0), (.int .i64 0), (.nil .slice)])
  | 40 => some (.agg [(.int .i64 0), (.int .i64 0), (.int .i64 0), (.agg [(.agg [(.int .i64 0), (.int .i64 0)]), (.int .i64 0), (.int .i64 0), (.int .i64 0), (.str []), (.str []), (.str [])]), (.int .i64 0), (.int .i64 0), (.nil .slice), (.agg [(.int .i64 0), (.arr 3 8 (Vector.replicate 8 (default : Int))), (.arr 2 8 (Vector.replicate 8 (default : Int))), (.arr 3 8 (Vector.replicate 8 (default : Int)))]), (.int .i64 0), (.arr 2 8 (Vector.replicate 8 (default : Int))), (.int .i64 0), (.agg [(.int .i64 0), (.int .i64 0), (.int .i64 0), (.nil .slice)]), (.int .i64 0), (.int .i64 0), (.int .i64 0)])
  | 41 => some (.agg [(.int .i64 0), (.int .i64 0), (.int .i64 0), (.agg [(.agg [(.int .i64 0), (.int .i64 0)]), (.int .i64 0), (.int .i64 0), (.int .i64 0), (.str []), (.str []), (.str [])]), (.int .i64 0), (.int .i64 0), (.nil .slice), (.agg [(.int .i64 0), (.arr 3 8 (Vector.replicate 8 (default : Int))), (.arr 2 8 (Vector.replicate 8 (default : Int))), (.arr 3 8 (Vector.replicate 8 (default : Int)))]), (.int .i64 0), (.arr 2 8 (Vector.replicate 8 (default : Int))), (.int .i64 0), (.agg [(.int .i64 0), (.int .i64 0), (.int .i64 0), (.nil .slice)]), (.int .i64 0), (.int .i64 0), (.int .i64 0)])
  | 42 => some (.agg [(.int .i64 0), (.agg [(.int .i64 0), (.int .i64 0)]), (.agg [(.int .i64 0), (.int .i64 0)]), (.agg [(.int .i64 0), (.int .i64 0)]), (.int .i64 0), (.nil .slice), (.agg [(.int .i64 0), (.int .i64 0), (.int .i64 0), (.agg [(.agg [(.int .i64 0), (.int .i64 0)]), (.int .i64 0), (.int .i64 0), (.int .i64 0), (.str []), (.str []), (.str [])]), (.int .i64 0), (.int .i64 0), (.nil .slice), (.agg [(.int .i64 0), (.arr 3 8 (Vector.replicate 8 (default : Int))), (.arr 2 8 (Vector.replicate 8 (default : Int))), (.arr 3 8 (Vector.replicate 8 (default : Int)))]), (.int .i64 0), (.arr 2 8 (Vector.replicate 8 (default : Int))), (.int .i64 0), (.agg [(.int .i64 0), (.int .i64 0), (.int .i64 0), (.nil .slice)]), (.int .i64 0), (.int .i64 0), (.int .i64 0)]), (.int .i64 0), (.arr 2 8 (Vector.replicate 8 (default : Int))), (.int .i64 0), (.int .i64 0), (.nil .slice), (.agg [(.int .i64 0), (.arr 3 8 (Vector.replicate 8 (default : Int))), (.arr 2 8 (Vector.replicate 8 (default : Int))), (.arr 3 8 (Vector.replicate 8 (default : Int)))]), (.agg [(.int .i64 0), (.int .i64 0), (.int .i64 0), (.nil .slice)])])
  | 43 => some (.agg [(.int .i64 0), (.agg [(.int .i64 0), (.int .i64 0)]), (.agg [(.int .i64 0), (.int .i64 0)]), (.agg [(.int .i64 0), (.int .i64 0)]), (.int .i64 0), (.nil .slice), (.agg [(.int .i64 0), (.int .i64 0), (.int .i64 0), (.agg [(.agg [(.int .i64 0), (.int .i64 0)]), (.int .i64 0), (.int .i64 0), (.int .i64 0), (.str []), (.str []), (.str [])]), (.int .i64 0), (.int .i64 0), (.nil .slice), (.agg [(.int .i64 0), (.arr 3 8 (Vector.replicate 8 (default : Int))), (.arr 2 8 (Vector.replicate 8 (default : Int))), (.arr 3 8 (Vector.replicate 8 (default : Int)))]), (.int .i64 0), (.arr 2 8 (Vector.replicate 8 (default : Int))), (.int .i64 0), (.agg [(.int .i64 0), (.int .i64 0), (.int .i64 0), (.nil .slice)]), (.int .i64 0), (.int .i64 0), (.int .i64 0)]), (.int .i64 0), (.arr 2 8 (Vector.replicate 8 (default : Int))), (.int .i64 0), (.int .i64 0), (.nil .slice), (.agg [(.int .i64 0), (.arr 3 8 (Vector.replicate 8 (default : Int))), (.arr 2 8 (Vector.replicate 8 (default : Int))), (.arr 3 8 (Vector.replicate 8 (default : Int)))]), (.agg [(.int .i64 0), (.int .i64 0), (.int .i64 0), (.nil .slice)])])
  | 44 => some (.int .u16 0)
  | 45 => some (.nil .ptr)
  | 48 => some (.int .i64 0)
  | 59 => some (.nil .slice)
  | 60 => some (.nil .slice)
  | 64 => some (.agg [(.int .i64 0), (.agg [(.int .i64 0), (.int .i64 0)]), (.agg [(.int .i64 0), (.int .i64 0)]), (.nil .slice)])
  | 65 => some (.agg [(.int .i64 0), (.agg [(.int .i64 0), (.int .i64 0)]), (.agg [(.int .i64 0), (.int .i64 0)]), (.nil .slice)])
  | 69 => some (.nil .slice)
  | 70 => some (.nil .slice)
  | 71 => some (.agg [(.int .i64 0), (.nil .slice), (.int .i64 0), (.int .i64 0), (.int .u8 0), (.nil .slice), (.int .i64 0)])
  | 72 => some (.agg [(.int .i64 0), (.nil .slice), (.int .i64 0), (.int .i64 0), (.int .u8 0), (.nil .slice), (.int .i64 0)])
  | 75 => some (.nil .slice)
  | 76 => some (.agg [(.nil .slice), (.int .i64 0)])
  | 77 => some (.agg [(.nil .slice), (.int .i64 0)])
  | 79 => some (.agg [(.nil .slice), (.int .i64 0)])
  | 80 => some (.agg [(.nil .slice), (.int .i64 0)])
  | 81 => some (.agg [(.agg [(.nil .slice), (.int .i64 0)]), (.bool false)])
  | 82 => some (.agg [(.agg [(.nil .slice), (.int .i64 0)]), (.bool false)])
  | 83 => some (.nil .slice)
  | 112 => some (.nil .ptr)
  | 115 => some (.agg [(.nil .ptr), (.int .i64 0)])
  | 138 => some (.int .u32 0)
  | 140 => some (.int .u64 0)
  | 146 => some (.nil .ptr)
  | 149 => some (.agg [(.nil .ptr), (.int .i64 0)])
  | 154 => some (.agg [(.int .i64 0), (.agg [(.int .i64 0), (.int .i64 0)]), (.agg [(.int .i64 0), (.int .i64 0), (.int .i64 0), (.agg [(.agg [(.int .i64 0), (.int .i64 0)]), (.int .i64 0), (.int .i64 0), (.int .i64 0), (.str []), (.str []), (.str [])]), (.int .i64 0), (.int .i64 0), (.nil .slice), (.agg [(.int .i64 0), (.arr 3 8 (Vector.replicate 8 (default : Int))), (.arr 2 8 (Vector.replicate 8 (default : Int))), (.arr 3 8 (Vector.replicate 8 (default : Int)))]), (.int .i64 0), (.arr 2 8 (Vector.replicate 8 (default : Int))), (.int .i64 0), (.agg [(.int .i64 0), (.int .i64 0), (.int .i64 0), (.nil .slice)]), (.int .i64 0), (.int .i64 0), (.int .i64 0)])])
  | 155 => some (.agg [(.int .i64 0), (.agg [(.int .i64 0), (.int .i64 0)]), (.agg [(.int .i64 0), (.int .i64 0), (.int .i64 0), (.agg [(.agg [(.int .i64 0), (.int .i64 0)]), (.int .i64 0), (.int .i64 0), (.int .i64 0), (.str []), (.str []), (.str [])]), (.int .i64 0), (.int .i64 0), (.nil .slice), (.agg [(.int .i64 0), (.arr 3 8 (Vector.replicate 8 (default : Int))), (.arr 2 8 (Vector.replicate 8 (default : Int))), (.arr 3 8 (Vector.replicate 8 (default : Int)))]), (.int .i64 0), (.arr 2 8 (Vector.replicate 8 (default : Int))), (.int .i64 0), (.agg [(.int .i64 0), (.int .i64 0), (.int .i64 0), (.nil .slice)]), (.int .i64 0), (.int .i64 0), (.int .i64 0)])])
  | 165 => some (.agg [(.bool false), (.nil .slice)])
  | 166 => some (.agg [(.bool false), (.nil .slice)])
  | 186 => some (.agg [(.bool false), (.nil .slice)])
  | 188 => some (.nil .ptr)
  | 192 => some (.agg [(.nil .slice), (.int .i64 0), (.int .i64 0)])
  | 193 => some (.agg [(.nil .slice), (.int .i64 0), (.int .i64 0)])
  | 194 => some (.nil .slice)
  | 201 => some (.nil .slice)
  | 203 => some (.int .u64 0)
  | 206 => some (.nil .slice)
  | 209 => some (.nil .ptr)
  | 226 => some (.nil .slice)
  | 229 => some (.nil .slice)
  | _ => none
theorem zok2 : ∃ i, E.ty 2 = some i ∧ (.int .i64 0 : TV τ).ok = true ∧ CW i.zero ((.int .i64 0 : TV τ).cells C) ∧ (.int .i64 0 : TV τ).isAgg = i.agg := ⟨ti2, rfl, rfl, CW.of_eq (by kernel_rfl), rfl⟩
theorem zok3 : ∃ i, E.ty 3 = some i ∧ (.int .i64 0 : TV τ).ok = true ∧ CW i.zero ((.int .i64 0 : TV τ).cells C) ∧ (.int .i64 0 : TV τ).isAgg = i.agg := ⟨ti3, rfl, rfl, CW.of_eq (by kernel_rfl), rfl⟩
theorem zok4 : ∃ i, E.ty 4 = some i ∧ (.bool false : TV τ).ok = true ∧ CW i.zero ((.bool false : TV τ).cells C) ∧ (.bool false : TV τ).isAgg = i.agg := ⟨ti4, rfl, rfl, CW.of_eq (by kernel_rfl), rfl⟩
theorem zok5 : ∃ i, E.ty 5 = some i ∧ (.int .u8 0 : TV τ).ok = true ∧ CW i.zero ((.int .u8 0 : TV τ).cells C) ∧ (.int .u8 0 : TV τ).isAgg = i.agg := ⟨ti5, rfl, rfl, CW.of_eq (by kernel_rfl), rfl⟩
theorem zok9 : ∃ i, E.ty 9 = some i ∧ (.str [] : TV τ).ok = true ∧ CW i.zero ((.str [] : TV τ).cells C) ∧ (.str [] : TV τ).isAgg = i.agg := ⟨ti9, rfl, rfl, CW.of_eq (by kernel_rfl), rfl⟩
theorem zok12 : ∃ i, E.ty 12 = some i ∧ (.int .u64 0 : TV τ).ok = true ∧ CW i.zero ((.int .u64 0 : TV τ).cells C) ∧ (.int .u64 0 : TV τ).isAgg = i.agg := ⟨ti12, rfl, rfl, CW.of_eq (by kernel_rfl), rfl⟩
theorem zok21 : ∃ i, E.ty 21 = some i ∧ (.int .i32 0 : TV τ).ok = true ∧ CW i.zero ((.int .i32 0 : TV τ).cells C) ∧ (.int .i32 0 : TV τ).isAgg = i.agg := ⟨ti21, rfl, rfl, CW.of_eq (by kernel_rfl), rfl⟩
theorem zok22 : ∃ i, E.ty 22 = some i ∧ (.agg [(.int .i64 0), (.int .i64 0)] : TV τ).ok = true ∧ CW i.zero ((.agg [(.int .i64 0), (.int .i64 0)] : TV τ).cells C) ∧ (.agg [(.int .i64 0), (.int .i64 0)] : TV τ).isAgg = i.agg := ⟨ti22, rfl, rfl, CW.of_eq (by kernel_rfl), rfl⟩
theorem zok23 : ∃ i, E.ty 23 = some i ∧ (.agg [(.int .i64 0), (.int .i64 0)] : TV τ).ok = true ∧ CW i.zero ((.agg [(.int .i64 0), (.int .i64 0)] : TV τ).cells C) ∧ (.agg [(.int .i64 0), (.int .i64 0)] : TV τ).isAgg = i.agg := ⟨ti23, rfl, rfl, CW.of_eq (by kernel_rfl), rfl⟩
theorem zok24 : ∃ i, E.ty 24 = some i ∧ (.agg [(.int .i64 0), (.int .i64 0)] : TV τ).ok = true ∧ CW i.zero ((.agg [(.int .i64 0), (.int .i64 0)] : TV τ).cells C) ∧ (.agg [(.int .i64 0), (.int .i64 0)] : TV τ).isAgg = i.agg := ⟨ti24, rfl, rfl, CW.of_eq (by kernel_rfl), rfl⟩
theorem zok25 : ∃ i, E.ty 25 = some i ∧ (.agg [(.int .i64 0), (.int .i64 0)] : TV τ).ok = true ∧ CW i.zero ((.agg [(.int .i64 0), (.int .i64 0)] : TV τ).cells C) ∧ (.agg [(.int .i64 0), (.int .i64 0)] : TV τ).isAgg = i.agg := ⟨ti25, rfl, rfl, CW.of_eq (by kernel_rfl), rfl⟩
theorem zok26 : ∃ i, E.ty 26 = some i ∧ (.nil .slice : TV τ).ok = true ∧ CW i.zero ((.nil .slice : TV τ).cells C) ∧ (.nil .slice : TV τ).isAgg = i.agg := ⟨ti26, rfl, rfl, CW.of_eq (by kernel_rfl), rfl⟩
theorem zok27 : ∃ i, E.ty 27 = some i ∧ (.agg [(.int .i64 0), (.int .i64 0)] : TV τ).ok = true ∧ CW i.zero ((.agg [(.int .i64 0), (.int .i64 0)] : TV τ).cells C) ∧ (.agg [(.int .i64 0), (.int .i64 0)] : TV τ).isAgg = i.agg := ⟨ti27, rfl, rfl, CW.of_eq (by kernel_rfl), rfl⟩
theorem zok28 : ∃ i, E.ty 28 = some i ∧ (.agg [(.int .i64 0), (.int .i64 0)] : TV τ).ok = true ∧ CW i.zero ((.agg [(.int .i64 0), (.int .i64 0)] : TV τ).cells C) ∧ (.agg [(.int .i64 0), (.int .i64 0)] : TV τ).isAgg = i.agg := ⟨ti28, rfl, rfl, CW.of_eq (by kernel_rfl), rfl⟩
theorem zok29 : ∃ i, E.ty 29 = some i ∧ (.agg [(.agg [(.int .i64 0), (.int .i64 0)]), (.int .i64 0), (.int .i64 0), (.int .i64 0), (.str []), (.str []), (.str [])] : TV τ).ok = true ∧ CW i.zero ((.agg [(.agg [(.int .i64 0), (.int .i64 0)]), (.int .i64 0), (.int .i64 0), (.int .i64 0), (.str []), (.str []), (.str [])] : TV τ).cells C) ∧ (.agg [(.agg [(.int .i64 0), (.int .i64 0)]), (.int .i64 0), (.int .i64 0), (.int .i64 0), (.str []), (.str []), (.str [])] : TV τ).isAgg = i.agg := ⟨ti29, rfl, rfl, CW.of_eq (by kernel_rfl), rfl⟩
theorem zok30 : ∃ i, E.ty 30 = some i ∧ (.agg [(.agg [(.int .i64 0), (.int .i64 0)]), (.int .i64 0), (.int .i64 0), (.int .i64 0), (.str []), (.str []), (.str [])] : TV τ).ok = true ∧ CW i.zero ((.agg [(.agg [(.int .i64 0), (.int .i64 0)]), (.int .i64 0), (.int .i64 0), (.int .i64 0), (.str []), (.str []), (.str [])] : TV τ).cells C) ∧ (.agg [(.agg [(.int .i64 0), (.int .i64 0)]), (.int .i64 0), (.int .i64 0), (.int .i64 0), (.str []), (.str []), (.str [])] : TV τ).isAgg = i.agg := ⟨ti30, rfl, rfl, CW.of_eq (by kernel_rfl), rfl⟩
theorem zok31 : ∃ i, E.ty 31 = some i ∧ (.nil .slice : TV τ).ok = true ∧ CW i.zero ((.nil .slice : TV τ).cells C) ∧ (.nil .slice : TV τ).isAgg = i.agg := ⟨ti31, rfl, rfl, CW.of_eq (by kernel_rfl), rfl⟩
theorem zok32 : ∃ i, E.ty 32 = some i ∧ (.arr 3 8 (Vector.replicate 8 (default : Int)) : TV τ).ok = true ∧ CW i.zero ((.arr 3 8 (Vector.replicate 8 (default : Int)) : TV τ).cells C) ∧ (.arr 3 8 (Vector.replicate 8 (default : Int)) : TV τ).isAgg = i.agg := ⟨ti32, rfl, rfl, CW.of_eq (by kernel_rfl), rfl⟩
theorem zok33 : ∃ i, E.ty 33 = some i ∧ (.arr 2 8 (Vector.replicate 8 (default : Int)) : TV τ).ok = true ∧ CW i.zero ((.arr 2 8 (Vector.replicate 8 (default : Int)) : TV τ).cells C) ∧ (.arr 2 8 (Vector.replicate 8 (default : Int)) : TV τ).isAgg = i.agg := ⟨ti33, rfl, rfl, CW.of_eq (by kernel_rfl), rfl⟩
theorem zok34 : ∃ i, E.ty 34 = some i ∧ (.arr 2 8 (Vector.replicate 8 (default : Int)) : TV τ).ok = true ∧ CW i.zero ((.arr 2 8 (Vector.replicate 8 (default : Int)) : TV τ).cells C) ∧ (.arr 2 8 (Vector.replicate 8 (default : Int)) : TV τ).isAgg = i.agg := ⟨ti34, rfl, rfl, CW.of_eq (by kernel_rfl), rfl⟩
theorem zok35 : ∃ i, E.ty 35 = some i ∧ (.agg [(.int .i64 0), (.arr 3 8 (Vector.replicate 8 (default : Int))), (.arr 2 8 (Vector.replicate 8 (default : Int))), (.arr 3 8 (Vector.replicate 8 (default : Int)))] : TV τ).ok = true ∧ CW i.zero ((.agg [(.int .i64 0), (.arr 3 8 (Vector.replicate 8 (default : Int))), (.arr 2 8 (Vector.replicate 8 (default : Int))), (.arr 3 8 (Vector.replicate 8 (default : Int)))] : TV τ).cells C) ∧ (.agg [(.int .i64 0), (.arr 3 8 (Vector.replicate 8 (default : Int))), (.arr 2 8 (Vector.replicate 8 (default : Int))), (.arr 3 8 (Vector.replicate 8 (default : Int)))] : TV τ).isAgg = i.agg := ⟨ti35, rfl, rfl, CW.of_eq (by kernel_rfl), rfl⟩
theorem zok36 : ∃ i, E.ty 36 = some i ∧ (.agg [(.int .i64 0), (.arr 3 8 (Vector.replicate 8 (default : Int))), (.arr 2 8 (Vector.replicate 8 (default : Int))), (.arr 3 8 (Vector.replicate 8 (default : Int)))] : TV τ).ok = true ∧ CW i.zero ((.agg [(.int .i64 0), (.arr 3 8 (Vector.replicate 8 (default : Int))), (.arr 2 8 (Vector.replicate 8 (default : Int))), (.arr 3 8 (Vector.replicate 8 (default : Int)))] : TV τ).cells C) ∧ (.agg [(.int .i64 0), (.arr 3 8 (Vector.replicate 8 (default : Int))), (.arr 2 8 (Vector.replicate 8 (default : Int))), (.arr 3 8 (Vector.replicate 8 (default : Int)))] : TV τ).isAgg = i.agg := ⟨ti36, rfl, rfl, CW.of_eq (by kernel_rfl), rfl⟩
theorem zok37 : ∃ i, E.ty 37 = some i ∧ (.nil .slice : TV τ).ok = true ∧ CW i.zero ((.nil .slice : TV τ).cells C) ∧ (.nil .slice : TV τ).isAgg = i.agg := ⟨ti37, rfl, rfl, CW.of_eq (by kernel_rfl), rfl⟩
theorem zok38 : ∃ i, E.ty 38 = some i ∧ (.agg [(.int .i64 0), (.int .i64 0), (.int .i64 0), (.nil .slice)] : TV τ).ok = true ∧ CW i.zero ((.agg [(.int .i64 0), (.int .i64 0), (.int .i64 0), (.nil .slice)] : TV τ).cells C) ∧ (.agg [(.int .i64 0), (.int .i64 0), (.int .i64 0), (.nil .slice)] : TV τ).isAgg = i.agg := ⟨ti38, rfl, rfl, CW.of_eq (by kernel_rfl), rfl⟩
theorem zok39 : ∃ i, E.ty 39 = some i ∧ (.agg [(.int .i64 0), (.int .i64 0), (.int .i64 0), (.nil .slice)] : TV τ).ok = true ∧ CW i.zero ((.agg [(.int .i64 0), (.int .i64 0), (.int .i64 0), (.nil .slice)] : TV τ).cells C) ∧ (.agg [(.int .i64 0), (.int .i64 0), (.int .i64 0), (.nil .slice)] : TV τ).isAgg = i.agg := ⟨ti39, rfl, rfl, CW.of_eq (by kernel_rfl), rfl⟩
theorem zok40 : ∃ i, E.ty 40 = some i ∧ (.agg [(.int .i64 0), (.int .i64 0), (.int .i64 0), (.agg [(.agg [(.int .i64 0), (.int .i64 0)]), (.int .i64 0), (.int .i64 0), (.int .i64 0), (.str []), (.str []), (.str [])]), (.int .i64 0), (.int .i64 0), (.nil .slice), (.agg [(.int .i64 0), (.arr 3 8 (Vector.replicate 8 (default : Int))), (.arr 2 8 (Vector.replicate 8 (default : Int))), (.arr 3 8 (Vector.replicate 8 (default : Int)))]), (.int .i64 0), (.arr 2 8 (Vector.replicate 8 (default : Int))), (.int .i64 0), (.agg [(.int .i64 0), (.int .i64 0), (.int .i64 0), (.nil .slice)]), (.int .i64 0), (.int .i64 0), (.int .i64 0)] : TV τ).ok = true ∧ CW i.zero ((.agg [(.int .i64 0), (.int .i64 0), (.int .i64 0), (.agg [(.agg [(.int .i64 0), (.int .i64 0)]), (.int .i64 0), (.int .i64 0), (.int .i64 0), (.str []), (.str []), (.str [])]), (.int .i64 0), (.int .i64 0), (.nil .slice), (.agg [(.int .i64 0), (.arr 3 8 (Vector.replicate 8 (default : Int))), (.arr 2 8 (Vector.replicate 8 (default : Int))), (.arr 3 8 (Vector.replicate 8 (default : Int)))]), (.int .i64 0), (.arr 2 8 (Vector.replicate 8 (default : Int))), (.int .i64 0), (.agg [(.int .i64 0), (.int .i64 0), (.int .i64 0), (.nil .slice)]), (.int .i64 0), (.int .i64 0), (.int .i64 0)] : TV τ).cells C) ∧ (.agg [(.int .i64 0), (.int .i64 0), (.int .i64 0), (.agg [(.agg [(.int .i64 0), (.int .i64 0)]), (.int .i64 0), (.int .i64 0), (.int .i64 0), (.str []), (.str []), (.str [])]), (.int .i64 0), (.int .i64 0), (.nil .slice), (.agg [(.int .i64 0), (.arr 3 8 (Vector.replicate 8 (default : Int))), (.arr 2 8 (Vector.replicate 8 (default : Int))), (.arr 3 8 (Vector.replicate 8 (default : Int)))]), (.int .i64 0), (.arr 2 8 (Vector.replicate 8 (default : Int))), (.int .i64 0), (.agg [(.int .i64 0), (.int .i64 0), (.int .i64 0), (.nil .slice)]), (.int .i64 0), (.int .i64 0), (.int .i64 0)] : TV τ).isAgg = i.agg := ⟨ti40, rfl, rfl, CW.of_eq (by kernel_rfl), rfl⟩
theorem zok41 : ∃ i, E.ty 41 = some i ∧ (.agg [(.int .i64 0), (.int .i64 0), (.int .i64 0), (.agg [(.agg [(.int .i64 0), (.int .i64 0)]), (.int .i64 0), (.int .i64 0), (.int .i64 0), (.str []), (.str []), (.str [])]), (.int .i64 0), (.int .i64 0), (.nil .slice), (.agg [(.int .i64 0), (.arr 3 8 (Vector.replicate 8 (default : Int))), (.arr 2 8 (Vector.replicate 8 (default : Int))), (.arr 3 8 (Vector.replicate 8 (default : Int)))]), (.int .i64 0), (.arr 2 8 (Vector.replicate 8 (default : Int))), (.int .i64 0), (.agg [(.int .i64 0), (.int .i64 0), (.int .i64 0), (.nil .slice)]), (.int .i64 0), (.int .i64 0), (.int .i64 0)] : TV τ).ok = true ∧ CW i.zero ((.agg [(.int .i64 0), (.int .i64 0), (.int .i64 0), (.agg [(.agg [(.int .i64 0), (.int .i64 0)]), (.int .i64 0), (.int .i64 0), (.int .i64 0), (.str []), (.str []), (.str [])]), (.int .i64 0), (.int .i64 0), (.nil .slice), (.agg [(.int .i64 0), (.arr 3 8 (Vector.replicate 8 (default : Int))), (.arr 2 8 (Vector.replicate 8 (default : Int))), (.arr 3 8 (Vector.replicate 8 (default : Int)))]), (.int .i64 0), (.arr 2 8 (Vector.replicate 8 (default : Int))), (.int .i64 0), (.agg [(.int .i64 0), (.int .i64 0), (.int .i64 0), (.nil .slice)]), (.int .i64 0), (.int .i64 0), (.int .i64 0)] : TV τ).cells C) ∧ (.agg [(.int .i64 0), (.int .i64 0), (.int .i64 0), (.agg [(.agg [(.int .i64 0), (.int .i64 0)]), (.int .i64 0), (.int .i64 0), (.int .i64 0), (.str []), (.str []), (.str [])]), (.int .i64 0), (.int .i64 0), (.nil .slice), (.agg [(.int .i64 0), (.arr 3 8 (Vector.replicate 8 (default : Int))), (.arr 2 8 (Vector.replicate 8 (default : Int))), (.arr 3 8 (Vector.replicate 8 (default : Int)))]), (.int .i64 0), (.arr 2 8 (Vector.replicate 8 (default : Int))), (.int .i64 0), (.agg [(.int .i64 0), (.int .i64 0), (.int .i64 0), (.nil .slice)]), (.int .i64 0), (.int .i64 0), (.int .i64 0)] : TV τ).isAgg = i.agg := ⟨ti41, rfl, rfl, CW.of_eq (by kernel_rfl), rfl⟩
theorem zok42 : ∃ i, E.ty 42 = some i ∧ (.agg [(.int .i64 0), (.agg [(.int .i64 0), (.int .i64 0)]), (.agg [(.int .i64 0), (.int .i64 0)]), (.agg [(.int .i64 0), (.int .i64 0)]), (.int .i64 0), (.nil .slice), (.agg [(.int .i64 0), (.int .i64 0), (.int .i64 0), (.agg [(.agg [(.int .i64 0), (.int .i64 0)]), (.int .i64 0), (.int .i64 0), (.int .i64 0), (.str []), (.str []), (.str [])]), (.int .i64 0), (.int .i64 0), (.nil .slice), (.agg [(.int .i64 0), (.arr 3 8 (Vector.replicate 8 (default : Int))), (.arr 2 8 (Vector.replicate 8 (default : Int))), (.arr 3 8 (Vector.replicate 8 (default : Int)))]), (.int .i64 0), (.arr 2 8 (Vector.replicate 8 (default : Int))), (.int .i64 0), (.agg [(.int .i64 0), (.int .i64 0), (.int .i64 0), (.nil .slice)]), (.int .i64 0), (.int .i64 0), (.int .i64 0)]), (.int .i64 0), (.arr 2 8 (Vector.replicate 8 (default : Int))), (.int .i64 0), (.int .i64 0), (.nil .slice), (.agg [(.int .i64 0), (.arr 3 8 (Vector.replicate 8 (default : Int))), (.arr 2 8 (Vector.replicate 8 (default : Int))), (.arr 3 8 (Vector.replicate 8 (default : Int)))]), (.agg [(.int .i64 0), (.int .i64 0), (.int .i64 0), (.nil .slice)])] : TV τ).ok = true ∧ CW i.zero ((.agg [(.int .i64 0), (.agg [(.int .i64 0), (.int .i64 0)]), (.agg [(.int .i64 0), (.int .i64 0)]), (.agg [(.int .i64 0), (.int .i64 0)]), (.int .i64 0), (.nil .slice), (.agg [(.int .i64 0), (.int .i64 0), (.int .i64 0), (.agg [(.agg [(.int .i64 0), (.int .i64 0)]), (.int .i64 0), (.int .i64 0), (.int .i64 0), (.str []), (.str []), (.str [])]), (.int .i64 0), (.int .i64 0), (.nil .slice), (.agg [(.int .i64 0), (.arr 3 8 (Vector.replicate 8 (default : Int))), (.arr 2 8 (Vector.replicate 8 (default : Int))), (.arr 3 8 (Vector.replicate 8 (default : Int)))]), (.int .i64 0), (.arr 2 8 (Vector.replicate 8 (default : Int))), (.int .i64 0), (.agg [(.int .i64 0), (.int .i64 0), (.int .i64 0), (.nil .slice)]), (.int .i64 0), (.int .i64 0), (.int .i64 0)]), (.int .i64 0), (.arr 2 8 (Vector.replicate 8 (default : Int))), (.int .i64 0), (.int .i64 0), (.nil .slice), (.agg [(.int .i64 0), (.arr 3 8 (Vector.replicate 8 (default : Int))), (.arr 2 8 (Vector.replicate 8 (default : Int))), (.arr 3 8 (Vector.replicate 8 (default : Int)))]), (.agg [(.int .i64 0), (.int .i64 0), (.int .i64 0), (.nil .slice)])] : TV τ).cells C) ∧ (.agg [(.int .i64 0), (.agg [(.int .i64 0), (.int .i64 0)]), (.agg [(.int .i64 0), (.int .i64 0)]), (.agg [(.int .i64 0), (.int .i64 0)]), (.int .i64 0), (.nil .slice), (.agg [(.int .i64 0), (.int .i64 0), (.int .i64 0), (.agg [(.agg [(.int .i64 0), (.int .i64 0)]), (.int .i64 0), (.int .i64 0), (.int .i64 0), (.str []), (.str []), (.str [])]), (.int .i64 0), (.int .i64 0), (.nil .slice), (.agg [(.int .i64 0), (.arr 3 8 (Vector.replicate 8 (default : Int))), (.arr 2 8 (Vector.replicate 8 (default : Int))), (.arr 3 8 (Vector.replicate 8 (default : Int)))]), (.int .i64 0), (.arr 2 8 (Vector.replicate 8 (default : Int))), (.int .i64 0), (.agg [(.int .i64 0), (.int .i64 0), (.int .i64 0), (.nil .slice)]), (.int .i64 0), (.int .i64 0), (.int .i64 0)]), (.int .i64 0), (.arr 2 8 (Vector.replicate 8 (default : Int))), (.int .i64 0), (.int .i64 0), (.nil .slice), (.agg [(.int .i64 0), (.arr 3 8 (Vector.replicate 8 (default : Int))), (.arr 2 8 (Vector.replicate 8 (default : Int))), (.arr 3 8 (Vector.replicate 8 (default : Int)))]), (.agg [(.int .i64 0), (.int .i64 0), (.int .i64 0), (.nil .slice)])] : TV τ).isAgg = i.agg := ⟨ti42, rfl, rfl, CW.of_eq (by kernel_rfl), rfl⟩
theorem zok43 : ∃ i, E.ty 43 = some i ∧ (.agg [(.int .i64 0), (.agg [(.int .i64 0), (.int .i64 0)]), (.agg [(.int .i64 0), (.int .i64 0)]), (.agg [(.int .i64 0), (.int .i64 0)]), (.int .i64 0), (.nil .slice), (.agg [(.int .i64 0), (.int .i64 0), (.int .i64 0), (.agg [(.agg [(.int .i64 0), (.int .i64 0)]), (.int .i64 0), (.int .i64 0), (.int .i64 0), (.str []), (.str []), (.str [])]), (.int .i64 0), (.int .i64 0), (.nil .slice), (.agg [(.int .i64 0), (.arr 3 8 (Vector.replicate 8 (default : Int))), (.arr 2 8 (Vector.replicate 8 (default : Int))), (.arr 3 8 (Vector.replicate 8 (default : Int)))]), (.int .i64 0), (.arr 2 8 (Vector.replicate 8 (default : Int))), (.int .i64 0), (.agg [(.int .i64 0), (.int .i64 0), (.int .i64 0), (.nil .slice)]), (.int .i64 0), (.int .i64 0), (.int .i64 0)]), (.int .i64 0), (.arr 2 8 (Vector.replicate 8 (default : Int))), (.int .i64 0), (.int .i64 0), (.nil .slice), (.agg [(.int .i64 0), (.arr 3 8 (Vector.replicate 8 (default : Int))), (.arr 2 8 (Vector.replicate 8 (default : Int))), (.arr 3 8 (Vector.replicate 8 (default : Int)))]), (.agg [(.int .i64 0), (.int .i64 0), (.int .i64 0), (.nil .slice)])] : TV τ).ok = true ∧ CW i.zero ((.agg [(.int .i64 0), (.agg [(.int .i64 0), (.int .i64 0)]), (.agg [(.int .i64 0), (.int .i64 0)]), (.agg [(.int .i64 0), (.int .i64 0)]), (.int .i64 0), (.nil .slice), (.agg [(.int .i64 0), (.int .i64 0), (.int .i64 0), (.agg [(.agg [(.int .i64 0), (.int .i64 0)]), (.int .i64 0), (.int .i64 0), (.int .i64 0), (.str []), (.str []), (.str [])]), (.int .i64 0), (.int .i64 0), (.nil .slice), (.agg [(.int .i64 0), (.arr 3 8 (Vector.replicate 8 (default : Int))), (.arr 2 8 (Vector.replicate 8 (default : Int))), (.arr 3 8 (Vector.replicate 8 (default : Int)))]), (.int .i64 0), (.arr 2 8 (Vector.replicate 8 (default : Int))), (.int .i64 0), (.agg [(.int .i64 0), (.int .i64 0), (.int .i64 0), (.nil .slice)]), (.int .i64 0), (.int .i64 0), (.int .i64 0)]), (.int .i64 0), (.arr 2 8 (Vector.replicate 8 (default : Int))), (.int .i64 0), (.int .i64 0), (.nil .slice), (.agg [(.int .i64 0), (.arr 3 8 (Vector.replicate 8 (default : Int))), (.arr 2 8 (Vector.replicate 8 (default : Int))), (.arr 3 8 (Vector.replicate 8 (default : Int)))]), (.agg [(.int .i64 0), (.int .i64 0), (.int .i64 0), (.nil .slice)])] : TV τ).cells C) ∧ (.agg [(.int .i64 0), (.agg [(.int .i64 0), (.int .i64 0)]), (.agg [(.int .i64 0), (.int .i64 0)]), (.agg [(.int .i64 0), (.int .i64 0)]), (.int .i64 0), (.nil .slice), (.agg [(.int .i64 0), (.int .i64 0), (.int .i64 0), (.agg [(.agg [(.int .i64 0), (.int .i64 0)]), (.int .i64 0), (.int .i64 0), (.int .i64 0), (.str []), (.str []), (.str [])]), (.int .i64 0), (.int .i64 0), (.nil .slice), (.agg [(.int .i64 0), (.arr 3 8 (Vector.replicate 8 (default : Int))), (.arr 2 8 (Vector.replicate 8 (default : Int))), (.arr 3 8 (Vector.replicate 8 (default : Int)))]), (.int .i64 0), (.arr 2 8 (Vector.replicate 8 (default : Int))), (.int .i64 0), (.agg [(.int .i64 0), (.int .i64 0), (.int .i64 0), (.nil .slice)]), (.int .i64 0), (.int .i64 0), (.int .i64 0)]), (.int .i64 0), (.arr 2 8 (Vector.replicate 8 (default : Int))), (.int .i64 0), (.int .i64 0), (.nil .slice), (.agg [(.int .i64 0), (.arr 3 8 (Vector.replicate 8 (default : Int))), (.arr 2 8 (Vector.replicate 8 (default : Int))), (.arr 3 8 (Vector.replicate 8 (default : Int)))]), (.agg [(.int .i64 0), (.int .i64 0), (.int .i64 0), (.nil .slice)])] : TV τ).isAgg = i.agg := ⟨ti43, rfl, rfl, CW.of_eq (by kernel_rfl), rfl⟩
theorem zok44 : ∃ i, E.ty 44 = some i ∧ (.int .u16 0 : TV τ).ok = true ∧ CW i.zero ((.int .u16 0 : TV τ).cells C) ∧ (.int .u16 0 : TV τ).isAgg = i.agg := ⟨ti44, rfl, rfl, CW.of_eq (by kernel_rfl), rfl⟩
theorem zok45 : ∃ i, E.ty 45 = some i ∧ (.nil .ptr : TV τ).ok = true ∧ CW i.zero ((.nil .ptr : TV τ).cells C) ∧ (.nil .ptr : TV τ).isAgg = i.agg := ⟨ti45, rfl, rfl, CW.of_eq (by kernel_rfl), rfl⟩
theorem zok48 : ∃ i, E.ty 48 = some i ∧ (.int .i64 0 : TV τ).ok = true ∧ CW i.zero ((.int .i64 0 : TV τ).cells C) ∧ (.int .i64 0 : TV τ).isAgg = i.agg := ⟨ti48, rfl, rfl, CW.of_eq (by kernel_rfl), rfl⟩
theorem zok59 : ∃ i, E.ty 59 = some i ∧ (.nil .slice : TV τ).ok = true ∧ CW i.zero ((.nil .slice : TV τ).cells C) ∧ (.nil .slice : TV τ).isAgg = i.agg := ⟨ti59, rfl, rfl, CW.of_eq (by kernel_rfl), rfl⟩
theorem zok60 : ∃ i, E.ty 60 = some i ∧ (.nil .slice : TV τ).ok = true ∧ CW i.zero ((.nil .slice : TV τ).cells C) ∧ (.nil .slice : TV τ).isAgg = i.agg := ⟨ti60, rfl, rfl, CW.of_eq (by kernel_rfl), rfl⟩
theorem zok64 : ∃ i, E.ty 64 = some i ∧ (.agg [(.int .i64 0), (.agg [(.int .i64 0), (.int .i64 0)]), (.agg [(.int .i64 0), (.int .i64 0)]), (.nil .slice)] : TV τ).ok = true ∧ CW i.zero ((.agg [(.int .i64 0), (.agg [(.int .i64 0), (.int .i64 0)]), (.agg [(.int .i64 0), (.int .i64 0)]), (.nil .slice)] : TV τ).cells C) ∧ (.agg [(.int .i64 0), (.agg [(.int .i64 0), (.int .i64 0)]), (.agg [(.int .i64 0), (.int .i64 0)]), (.nil .slice)] : TV τ).isAgg = i.agg := ⟨ti64, rfl, rfl, CW.of_eq (by kernel_rfl), rfl⟩
theorem zok65 : ∃ i, E.ty 65 = some i ∧ (.agg [(.int .i64 0), (.agg [(.int .i64 0), (.int .i64 0)]), (.agg [(.int .i64 0), (.int .i64 0)]), (.nil .slice)] : TV τ).ok = true ∧ CW i.zero ((.agg [(.int .i64 0), (.agg [(.int .i64 0), (.int .i64 0)]), (.agg [(.int .i64 0), (.int .i64 0)]), (.nil .slice)] : TV τ).cells C) ∧ (.agg [(.int .i64 0), (.agg [(.int .i64 0), (.int .i64 0)]), (.agg [(.int .i64 0), (.int .i64 0)]), (.nil .slice)] : TV τ).isAgg = i.agg := ⟨ti65, rfl, rfl, CW.of_eq (by kernel_rfl), rfl⟩
theorem zok69 : ∃ i, E.ty 69 = some i ∧ (.nil .slice : TV τ).ok = true ∧ CW i.zero ((.nil .slice : TV τ).cells C) ∧ (.nil .slice : TV τ).isAgg = i.agg := ⟨ti69, rfl, rfl, CW.of_eq (by kernel_rfl), rfl⟩
theorem zok70 : ∃ i, E.ty 70 = some i ∧ (.nil .slice : TV τ).ok = true ∧ CW i.zero ((.nil .slice : TV τ).cells C) ∧ (.nil .slice : TV τ).isAgg = i.agg := ⟨ti70, rfl, rfl, CW.of_eq (by kernel_rfl), rfl⟩
theorem zok71 : ∃ i, E.ty 71 = some i ∧ (.agg [(.int .i64 0), (.nil .slice), (.int .i64 0), (.int .i64 0), (.int .u8 0), (.nil .slice), (.int .i64 0)] : TV τ).ok = true ∧ CW i.zero ((.agg [(.int .i64 0), (.nil .slice), (.int .i64 0), (.int .i64 0), (.int .u8 0), (.nil .slice), (.int .i64 0)] : TV τ).cells C) ∧ (.agg [(.int .i64 0), (.nil .slice), (.int .i64 0), (.int .i64 0), (.int .u8 0), (.nil .slice), (.int .i64 0)] : TV τ).isAgg = i.agg := ⟨ti71, rfl, rfl, CW.of_eq (by kernel_rfl), rfl⟩
theorem zok72 : ∃ i, E.ty 72 = some i ∧ (.agg [(.int .i64 0), (.nil .slice), (.int .i64 0), (.int .i64 0), (.int .u8 0), (.nil .slice), (.int .i64 0)] : TV τ).ok = true ∧ CW i.zero ((.agg [(.int .i64 0), (.nil .slice), (.int .i64 0), (.int .i64 0), (.int .u8 0), (.nil .slice), (.int .i64 0)] : TV τ).cells C) ∧ (.agg [(.int .i64 0), (.nil .slice), (.int .i64 0), (.int .i64 0), (.int .u8 0), (.nil .slice), (.int .i64 0)] : TV τ).isAgg = i.agg := ⟨ti72, rfl, rfl, CW.of_eq (by kernel_rfl), rfl⟩
theorem zok75 : ∃ i, E.ty 75 = some i ∧ (.nil .slice : TV τ).ok = true ∧ CW i.zero ((.nil .slice : TV τ).cells C) ∧ (.nil .slice : TV τ).isAgg = i.agg := ⟨ti75, rfl, rfl, CW.of_eq (by kernel_rfl), rfl⟩
theorem zok76 : ∃ i, E.ty 76 = some i ∧ (.agg [(.nil .slice), (.int .i64 0)] : TV τ).ok = true ∧ CW i.zero ((.agg [(.nil .slice), (.int .i64 0)] : TV τ).cells C) ∧ (.agg [(.nil .slice), (.int .i64 0)] : TV τ).isAgg = i.agg := ⟨ti76, rfl, rfl, CW.of_eq (by kernel_rfl), rfl⟩
theorem zok77 : ∃ i, E.ty 77 = some i ∧ (.agg [(.nil .slice), (.int .i64 0)] : TV τ).ok = true ∧ CW i.zero ((.agg [(.nil .slice), (.int .i64 0)] : TV τ).cells C) ∧ (.agg [(.nil .slice), (.int .i64 0)] : TV τ).isAgg = i.agg := ⟨ti77, rfl, rfl, CW.of_eq (by kernel_rfl), rfl⟩
theorem zok79 : ∃ i, E.ty 79 = some i ∧ (.agg [(.nil .slice), (.int .i64 0)] : TV τ).ok = true ∧ CW i.zero ((.agg [(.nil .slice), (.int .i64 0)] : TV τ).cells C) ∧ (.agg [(.nil .slice), (.int .i64 0)] : TV τ).isAgg = i.agg := ⟨ti79, rfl, rfl, CW.of_eq (by kernel_rfl), rfl⟩
theorem zok80 : ∃ i, E.ty 80 = some i ∧ (.agg [(.nil .slice), (.int .i64 0)] : TV τ).ok = true ∧ CW i.zero ((.agg [(.nil .slice), (.int .i64 0)] : TV τ).cells C) ∧ (.agg [(.nil .slice), (.int .i64 0)] : TV τ).isAgg = i.agg := ⟨ti80, rfl, rfl, CW.of_eq (by kernel_rfl), rfl⟩
theorem zok81 : ∃ i, E.ty 81 = some i ∧ (.agg [(.agg [(.nil .slice), (.int .i64 0)]), (.bool false)] : TV τ).ok = true ∧ CW i.zero ((.agg [(.agg [(.nil .slice), (.int .i64 0)]), (.bool false)] : TV τ).cells C) ∧ (.agg [(.agg [(.nil .slice), (.int .i64 0)]), (.bool false)] : TV τ).isAgg = i.agg := ⟨ti81, rfl, rfl, CW.of_eq (by kernel_rfl), rfl⟩
theorem zok82 : ∃ i, E.ty 82 = some i ∧ (.agg [(.agg [(.nil .slice), (.int .i64 0)]), (.bool false)] : TV τ).ok = true ∧ CW i.zero ((.agg [(.agg [(.nil .slice), (.int .i64 0)]), (.bool false)] : TV τ).cells C) ∧ (.agg [(.agg [(.nil .slice), (.int .i64 0)]), (.bool false)] : TV τ).isAgg = i.agg := ⟨ti82, rfl, rfl, CW.of_eq (by kernel_rfl), rfl⟩
theorem zok83 : ∃ i, E.ty 83 = some i ∧ (.nil .slice : TV τ).ok = true ∧ CW i.zero ((.nil .slice : TV τ).cells C) ∧ (.nil .slice : TV τ).isAgg = i.agg := ⟨ti83, rfl, rfl, CW.of_eq (by kernel_rfl), rfl⟩
theorem zok112 : ∃ i, E.ty 112 = some i ∧ (.nil .ptr : TV τ).ok = true ∧ CW i.zero ((.nil .ptr : TV τ).cells C) ∧ (.nil .ptr : TV τ).isAgg = i.agg := ⟨ti112, rfl, rfl, CW.of_eq (by kernel_rfl), rfl⟩
theorem zok115 : ∃ i, E.ty 115 = some i ∧ (.agg [(.nil .ptr), (.int .i64 0)] : TV τ).ok = true ∧ CW i.zero ((.agg [(.nil .ptr), (.int .i64 0)] : TV τ).cells C) ∧ (.agg [(.nil .ptr), (.int .i64 0)] : TV τ).isAgg = i.agg := ⟨ti115, rfl, rfl, CW.of_eq (by kernel_rfl), rfl⟩
theorem zok138 : ∃ i, E.ty 138 = some i ∧ (.int .u32 0 : TV τ).ok = true ∧ CW i.zero ((.int .u32 0 : TV τ).cells C) ∧ (.int .u32 0 : TV τ).isAgg = i.agg := ⟨ti138, rfl, rfl, CW.of_eq (by kernel_rfl), rfl⟩
theorem zok140 : ∃ i, E.ty 140 = some i ∧ (.int .u64 0 : TV τ).ok = true ∧ CW i.zero ((.int .u64 0 : TV τ).cells C) ∧ (.int .u64 0 : TV τ).isAgg = i.agg := ⟨ti140, rfl, rfl, CW.of_eq (by kernel_rfl), rfl⟩
theorem zok146 : ∃ i, E.ty 146 = some i ∧ (.nil .ptr : TV τ).ok = true ∧ CW i.zero ((.nil .ptr : TV τ).cells C) ∧ (.nil .ptr : TV τ).isAgg = i.agg := ⟨ti146, rfl, rfl, CW.of_eq (by kernel_rfl), rfl⟩
theorem zok149 : ∃ i, E.ty 149 = some i ∧ (.agg [(.nil .ptr), (.int .i64 0)] : TV τ).ok = true ∧ CW i.zero ((.agg [(.nil .ptr), (.int .i64 0)] : TV τ).cells C) ∧ (.agg [(.nil .ptr), (.int .i64 0)] : TV τ).isAgg = i.agg := ⟨ti149, rfl, rfl, CW.of_eq (by kernel_rfl), rfl⟩
theorem zok154 : ∃ i, E.ty 154 = some i ∧ (.agg [(.int .i64 0), (.agg [(.int .i64 0), (.int .i64 0)]), (.agg [(.int .i64 0), (.int .i64 0), (.int .i64 0), (.agg [(.agg [(.int .i64 0), (.int .i64 0)]), (.int .i64 0), (.int .i64 0), (.int .i64 0), (.str []), (.str []), (.str [])]), (.int .i64 0), (.int .i64 0), (.nil .slice), (.agg [(.int .i64 0), (.arr 3 8 (Vector.replicate 8 (default : Int))), (.arr 2 8 (Vector.replicate 8 (default : Int))), (.arr 3 8 (Vector.replicate 8 (default : Int)))]), (.int .i64 0), (.arr 2 8 (Vector.replicate 8 (default : Int))), (.int .i64 0), (.agg [(.int .i64 0), (.int .i64 0), (.int .i64 0), (.nil .slice)]), (.int .i64 0), (.int .i64 0), (.int .i64 0)])] : TV τ).ok = true ∧ CW i.zero ((.agg [(.int .i64 0), (.agg [(.int .i64 0), (.int .i64 0)]), (.agg [(.int .i64 0), (.int .i64 0), (.int .i64 0), (.agg [(.agg [(.int .i64 0), (.int .i64 0)]), (.int .i64 0), (.int .i64 0), (.int .i64 0), (.str []), (.str []), (.str [])]), (.int .i64 0), (.int .i64 0), (.nil .slice), (.agg [(.int .i64 0), (.arr 3 8 (Vector.replicate 8 (default : Int))), (.arr 2 8 (Vector.replicate 8 (default : Int))), (.arr 3 8 (Vector.replicate 8 (default : Int)))]), (.int .i64 0), (.arr 2 8 (Vector.replicate 8 (default : Int))), (.int .i64 0), (.agg [(.int .i64 0), (.int .i64 0), (.int .i64 0), (.nil .slice)]), (.int .i64 0), (.int .i64 0), (.int .i64 0)])] : TV τ).cells C) ∧ (.agg [(.int .i64 0), (.agg [(.int .i64 0), (.int .i64 0)]), (.agg [(.int .i64 0), (.int .i64 0), (.int .i64 0), (.agg [(.agg [(.int .i64 0), (.int .i64 0)]), (.int .i64 0), (.int .i64 0), (.int .i64 0), (.str []), (.str []), (.str [])]), (.int .i64 0), (.int .i64 0), (.nil .slice), (.agg [(.int .i64 0), (.arr 3 8 (Vector.replicate 8 (default : Int))), (.arr 2 8 (Vector.replicate 8 (default : Int))), (.arr 3 8 (Vector.replicate 8 (default : Int)))]), (.int .i64 0), (.arr 2 8 (Vector.replicate 8 (default : Int))), (.int .i64 0), (.agg [(.int .i64 0), (.int .i64 0), (.int .i64 0), (.nil .slice)]), (.int .i64 0), (.int .i64 0), (.int .i64 0)])] : TV τ).isAgg = i.agg := ⟨ti154, rfl, rfl, CW.of_eq (by kernel_rfl), rfl⟩
theorem zok155 : ∃ i, E.ty 155 = some i ∧ (.agg [(.int .i64 0), (.agg [(.int .i64 0), (.int .i64 0)]), (.agg [(.int .i64 0), (.int .i64 0), (.int .i64 0), (.agg [(.agg [(.int .i64 0), (.int .i64 0)]), (.int .i64 0), (.int .i64 0), (.int .i64 0), (.str []), (.str []), (.str [])]), (.int .i64 0), (.int .i64 0), (.nil .slice), (.agg [(.int .i64 0), (.arr 3 8 (Vector.replicate 8 (default : Int))), (.arr 2 8 (Vector.replicate 8 (default : Int))), (.arr 3 8 (Vector.replicate 8 (default : Int)))]), (.int .i64 0), (.arr 2 8 (Vector.replicate 8 (default : Int))), (.int .i64 0), (.agg [(.int .i64 0), (.int .i64 0), (.int .i64 0), (.nil .slice)]), (.int .i64 0), (.int .i64 0), (.int .i64 0)])] : TV τ).ok = true ∧ CW i.zero ((.agg [(.int .i64 0), (.agg [(.int .i64 0), (.int .i64 0)]), (.agg [(.int .i64 0), (.int .i64 0), (.int .i64 0), (.agg [(.agg [(.int .i64 0), (.int .i64 0)]), (.int .i64 0), (.int .i64 0), (.int .i64 0), (.str []), (.str []), (.str [])]), (.int .i64 0), (.int .i64 0), (.nil .slice), (.agg [(.int .i64 0), (.arr 3 8 (Vector.replicate 8 (default : Int))), (.arr 2 8 (Vector.replicate 8 (default : Int))), (.arr 3 8 (Vector.replicate 8 (default : Int)))]), (.int .i64 0), (.arr 2 8 (Vector.replicate 8 (default : Int))), (.int .i64 0), (.agg [(.int .i64 0), (.int .i64 0), (.int .i64 0), (.nil .slice)]), (.int .i64 0), (.int .i64 0), (.int .i64 0)])] : TV τ).cells C) ∧ (.agg [(.int .i64 0), (.agg [(.int .i64 0), (.int .i64 0)]), (.agg [(.int .i64 0), (.int .i64 0), (.int .i64 0), (.agg [(.agg [(.int .i64 0), (.int .i64 0)]), (.int .i64 0), (.int .i64 0), (.int .i64 0), (.str []), (.str []), (.str [])]), (.int .i64 0), (.int .i64 0), (.nil .slice), (.agg [(.int .i64 0), (.arr 3 8 (Vector.replicate 8 (default : Int))), (.arr 2 8 (Vector.replicate 8 (default : Int))), (.arr 3 8 (Vector.replicate 8 (default : Int)))]), (.int .i64 0), (.arr 2 8 (Vector.replicate 8 (default : Int))), (.int .i64 0), (.agg [(.int .i64 0), (.int .i64 0), (.int .i64 0), (.nil .slice)]), (.int .i64 0), (.int .i64 0), (.int .i64 0)])] : TV τ).isAgg = i.agg := ⟨ti155, rfl, rfl, CW.of_eq (by kernel_rfl), rfl⟩
theorem zok165 : ∃ i, E.ty 165 = some i ∧ (.agg [(.bool false), (.nil .slice)] : TV τ).ok = true ∧ CW i.zero ((.agg [(.bool false), (.nil .slice)] : TV τ).cells C) ∧ (.agg [(.bool false), (.nil .slice)] : TV τ).isAgg = i.agg := ⟨ti165, rfl, rfl, CW.of_eq (by kernel_rfl), rfl⟩
theorem zok166 : ∃ i, E.ty 166 = some i ∧ (.agg [(.bool false), (.nil .slice)] : TV τ).ok = true ∧ CW i.zero ((.agg [(.bool false), (.nil .slice)] : TV τ).cells C) ∧ (.agg [(.bool false), (.nil .slice)] : TV τ).isAgg = i.agg := ⟨ti166, rfl, rfl, CW.of_eq (by kernel_rfl), rfl⟩
theorem zok186 : ∃ i, E.ty 186 = some i ∧ (.agg [(.bool false), (.nil .slice)] : TV τ).ok = true ∧ CW i.zero ((.agg [(.bool false), (.nil .slice)] : TV τ).cells C) ∧ (.agg [(.bool false), (.nil .slice)] : TV τ).isAgg = i.agg := ⟨ti186, rfl, rfl, CW.of_eq (by kernel_rfl), rfl⟩
theorem zok188 : ∃ i, E.ty 188 = some i ∧ (.nil .ptr : TV τ).ok = true ∧ CW i.zero ((.nil .ptr : TV τ).cells C) ∧ (.nil .ptr : TV τ).isAgg = i.agg := ⟨ti188, rfl, rfl, CW.of_eq (by kernel_rfl), rfl⟩
theorem zok192 : ∃ i, E.ty 192 = some i ∧ (.agg [(.nil .slice), (.int .i64 0), (.int .i64 0)] : TV τ).ok = true ∧ CW i.zero ((.agg [(.nil .slice), (.int .i64 0), (.int .i64 0)] : TV τ).cells C) ∧ (.agg [(.nil .slice), (.int .i64 0), (.int .i64 0)] : TV τ).isAgg = i.agg := ⟨ti192, rfl, rfl, CW.of_eq (by kernel_rfl), rfl⟩
theorem zok193 : ∃ i, E.ty 193 = some i ∧ (.agg [(.nil .slice), (.int .i64 0), (.int .i64 0)] : TV τ).ok = true ∧ CW i.zero ((.agg [(.nil .slice), (.int .i64 0), (.int .i64 0)] : TV τ).cells C) ∧ (.agg [(.nil .slice), (.int .i64 0), (.int .i64 0)] : TV τ).isAgg = i.agg := ⟨ti193, rfl, rfl, CW.of_eq (by kernel_rfl), rfl⟩
theorem zok194 : ∃ i, E.ty 194 = some i ∧ (.nil .slice : TV τ).ok = true ∧ CW i.zero ((.nil .slice : TV τ).cells C) ∧ (.nil .slice : TV τ).isAgg = i.agg := ⟨ti194, rfl, rfl, CW.of_eq (by kernel_rfl), rfl⟩
theorem zok201 : ∃ i, E.ty 201 = some i ∧ (.nil .slice : TV τ).ok = true ∧ CW i.zero ((.nil .slice : TV τ).cells C) ∧ (.nil .slice : TV τ).isAgg = i.agg := ⟨ti201, rfl, rfl, CW.of_eq (by kernel_rfl), rfl⟩
theorem zok203 : ∃ i, E.ty 203 = some i ∧ (.int .u64 0 : TV τ).ok = true ∧ CW i.zero ((.int .u64 0 : TV τ).cells C) ∧ (.int .u64 0 : TV τ).isAgg = i.agg := ⟨ti203, rfl, rfl, CW.of_eq (by kernel_rfl), rfl⟩
theorem zok206 : ∃ i, E.ty 206 = some i ∧ (.nil .slice : TV τ).ok = true ∧ CW i.zero ((.nil .slice : TV τ).cells C) ∧ (.nil .slice : TV τ).isAgg = i.agg := ⟨ti206, rfl, rfl, CW.of_eq (by kernel_rfl), rfl⟩
theorem zok209 : ∃ i, E.ty 209 = some i ∧ (.nil .ptr : TV τ).ok = true ∧ CW i.zero ((.nil .ptr : TV τ).cells C) ∧ (.nil .ptr : TV τ).isAgg = i.agg := ⟨ti209, rfl, rfl, CW.of_eq (by kernel_rfl), rfl⟩
theorem zok226 : ∃ i, E.ty 226 = some i ∧ (.nil .slice : TV τ).ok = true ∧ CW i.zero ((.nil .slice : TV τ).cells C) ∧ (.nil .slice : TV τ).isAgg = i.agg := ⟨ti226, rfl, rfl, CW.of_eq (by kernel_rfl), rfl⟩
theorem zok229 : ∃ i, E.ty 229 = some i ∧ (.nil .slice : TV τ).ok = true ∧ CW i.zero ((.nil .slice : TV τ).cells C) ∧ (.nil .slice : TV τ).isAgg = i.agg := ⟨ti229, rfl, rfl, CW.of_eq (by kernel_rfl), rfl⟩
noncomputable def D0 : TEnv τ := ⟨E, C, zeroT⟩
theorem zeroOk : ∀ t x, zeroT t = some x → ∃ i, E.ty t = some i ∧ x.ok = true ∧ CW i.zero (x.cells C) ∧ x.isAgg = i.agg := by
  intro t x h
  unfold zeroT at h
  split at h <;> first
    | (cases h; first | exact zok2 | exact zok3 | exact zok4 | exact zok5 | exact zok9 | exact zok12 | exact zok21 | exact zok22 | exact zok23 | exact zok24 | exact zok25 | exact zok26 | exact zok27 | exact zok28 | exact zok29 | exact zok30 | exact zok31 | exact zok32 | exact zok33 | exact zok34 | exact zok35 | exact zok36 | exact zok37 | exact zok38 | exact zok39 | exact zok40 | exact zok41 | exact zok42 | exact zok43 | exact zok44 | exact zok45 | exact zok48 | exact zok59 | exact zok60 | exact zok64 | exact zok65 | exact zok69 | exact zok70 | exact zok71 | exact zok72 | exact zok75 | exact zok76 | exact zok77 | exact zok79 | exact zok80 | exact zok81 | exact zok82 | exact zok83 | exact zok112 | exact zok115 | exact zok138 | exact zok140 | exact zok146 | exact zok149 | exact zok154 | exact zok155 | exact zok165 | exact zok166 | exact zok186 | exact zok188 | exact zok192 | exact zok193 | exact zok194 | exact zok201 | exact zok203 | exact zok206 | exact zok209 | exact zok226 | exact zok229)
    | cases h
theorem d0Ok : D0.Ok := ⟨eOk, eEq, cOk, zeroOk⟩
end Go.Proofs.YtddpmkmgbdedlaaGreat
